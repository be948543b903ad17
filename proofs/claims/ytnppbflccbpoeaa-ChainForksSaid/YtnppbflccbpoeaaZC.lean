/- Entries: sums, signatures, and whether they hold (the program's). -/
import Derived.Test.YtnppbflccbpoeaaZB
import Derived.Test.YtnppbflccbpoeaaZA
set_option linter.unusedVariables false
set_option linter.unusedSimpArgs false
set_option maxRecDepth 20000
namespace Go.Proofs.Ytnppbflccbpoeaa
open Go Go.Mx Go.Proofs
open W (OwnB GivesW numR countR doneR zig unzig intR)
/-- bytes.Clone -/
def bytes_Clone.M (b1a : Option Addr) (b1n : Nat) (b1c : Nat) (R : Value → World → Prop) (w : World) : Prop :=
  bif Option.isNone b1a then (
  R (.slice none 0 0) w) else (
  thenW (w.alloc (.cells #[] 5)) fun ww2 =>
  ∃ (a3a : Option Addr) (a3n : Nat) (a3c : Nat) (ww4 : World), (Builtin.append_ #[24, 24] 24 #[.slice (some (blk w.heap.size)) 0 0, .slice b1a b1n b1c]).run Try.prog ww2 = .ok (.slice a3a a3n a3c) ww4 ∧
  R (.slice a3a a3n a3c) ww4)

theorem bytes_Clone.eq (b1a : Option Addr) (b1n : Nat) (b1c : Nat) (R : Value → World → Prop) (w : World) : mfunc Try.prog [] 59 [.slice b1a b1n b1c] R w = bytes_Clone.M b1a b1n b1c R w := by kernel_rfl
theorem bytes_Clone.ok (b1a : Option Addr) (b1n : Nat) (b1c : Nat) {R : Value → World → Prop} {w : World} (h : bytes_Clone.M b1a b1n b1c R w) : Calls Try.prog 59 #[.slice b1a b1n b1c] w fun e w' => ∃ v, e = .returned v ∧ R v w' :=
  mfunc_ok follows (H := []) (args := [.slice b1a b1n b1c]) (by rw [bytes_Clone.eq]; exact h)

def bytes_Clone.N (b1a : Option Addr) (b1n : Nat) (b1c : Nat) (R : Value → World → Prop) (w : World) : Prop :=
  (b1a = none →
    R (.slice none 0 0) w) ∧
  (b1a ≠ none →
    ∀ (ww3 : World) (q4 : Nat), Ext no w ww3 → Blk ww3 q4 5 [] → w.heap.size ≤ q4 → q4 < ww3.heap.size →
    ∃ (a5a : Option Addr) (a5n : Nat) (a5c : Nat) (ww6 : World), (Builtin.append_ #[24, 24] 24 #[.slice (some (blk q4)) 0 0, .slice b1a b1n b1c]).run Try.prog ww3 = .ok (.slice a5a a5n a5c) ww6 ∧
    R (.slice a5a a5n a5c) ww6)

theorem bytes_Clone.up (b1a : Option Addr) (b1n : Nat) (b1c : Nat) {R : Value → World → Prop} {w : World} (h : bytes_Clone.N b1a b1n b1c R w) : bytes_Clone.M b1a b1n b1c R w := by
  unfold bytes_Clone.M
  unfold bytes_Clone.N at h
  refine bif_of (fun c2 => ?_) (fun c2 => ?_)
  · have h := h.1 (isNone_t c2)
    exact h
  · have h := h.2 (isNone_f c2)
    refine thenW_in fun ww3 e3 => ?_
    have h := h ww3 w.heap.size ((Ext.refl no w).x_alloc e3) (Blk.of_new e3) ((Ext.refl no w)).size (size_lt_alloc e3)
    obtain ⟨a5a, a5n, a5c, ww6, hr, h⟩ := h
    refine ⟨a5a, a5n, a5c, ww6, hr, ?_⟩
    exact h

theorem bytes_Clone.go (b1a : Option Addr) (b1n : Nat) (b1c : Nat) {R : Value → World → Prop} {w : World} (h : bytes_Clone.N b1a b1n b1c R w) : Calls Try.prog 59 #[.slice b1a b1n b1c] w fun e w' => ∃ v, e = .returned v ∧ R v w' := bytes_Clone.ok b1a b1n b1c (bytes_Clone.up b1a b1n b1c h)
theorem bytes_Clone.run (b1a : Option Addr) (b1n : Nat) (b1c : Nat) {V : Value} {Q : World → Prop} {w : World} (h : bytes_Clone.N b1a b1n b1c (fun v w' => v = V ∧ Q w') w) : Calls Try.prog 59 #[.slice b1a b1n b1c] w (Ret V Q) := (bytes_Clone.go b1a b1n b1c h).mono fun e w' ⟨v, he, hv, hq⟩ => ⟨by rw [he, hv], hq⟩

/-- entry.Sum -/
def entry_Sum.M (o1 : Option Addr) (eWriter2 : Int) (eIndex3 : Int) (ePrev4 : Int) (eAtT5 : Int) (eAtW6 : Int) (eEpoch7 : Int) (eBody8a : Option Addr) (eBody8n : Nat) (eBody8c : Nat) (eSig9 : Int) (R : Value → World → Prop) (w : World) : Prop :=
  thenW (w.alloc (.cells #[.int .i64 eWriter2, .int .i64 eIndex3, .int .u64 ePrev4, .int .i64 eAtT5, .int .i64 eAtW6, .int .i64 eEpoch7, .slice eBody8a eBody8n eBody8c, .int .u64 eSig9] 39)) fun ww10 =>
  ∃ (xWriter11 : Int) (xIndex12 : Int) (xPrev13 : Int) (xAtT14 : Int) (xAtW15 : Int) (xEpoch16 : Int) (xBody17a : Option Addr) (xBody17n : Nat) (xBody17c : Nat) (xSig18 : Int), cellsAt ww10 (blk w.heap.size) [.int .i64 xWriter11, .int .i64 xIndex12, .int .u64 xPrev13, .int .i64 xAtT14, .int .i64 xAtW15, .int .i64 xEpoch16, .slice xBody17a xBody17n xBody17c, .int .u64 xSig18] 0 ∧
  Calls Try.prog 69 #[.agg #[.int .i64 xWriter11, .int .i64 xIndex12, .int .u64 xPrev13, .int .i64 xAtT14, .int .i64 xAtW15, .int .i64 xEpoch16, .slice xBody17a xBody17n xBody17c, .int .u64 xSig18]] ww10 fun ee21 ww22 => ∃ (bytes19a : Option Addr) (bytes19n : Nat) (bytes19c : Nat) (bytes20 : Int), ee21 = .returned (.tuple #[.slice bytes19a bytes19n bytes19c, .int .i64 bytes20]) ∧
  bif bytes20 != 0 then (
  R (.tuple #[.int .u64 0, .int .i64 bytes20]) ww22) else (
  bif Option.isNone o1 then (
  R (.tuple #[.int .u64 0, .int .i64 23]) ww22) else (
  Calls Try.prog 70 #[.pointer o1, .slice bytes19a bytes19n bytes19c] ww22 fun ee24 ww25 => ∃ (hash23 : Int), ee24 = .returned (.int .u64 hash23) ∧
  R (.tuple #[.int .u64 hash23, .int .i64 0]) ww25))

theorem entry_Sum.eq (o1 : Option Addr) (eWriter2 : Int) (eIndex3 : Int) (ePrev4 : Int) (eAtT5 : Int) (eAtW6 : Int) (eEpoch7 : Int) (eBody8a : Option Addr) (eBody8n : Nat) (eBody8c : Nat) (eSig9 : Int) (R : Value → World → Prop) (w : World) : mfunc Try.prog [] 51 [.pointer o1, .agg #[.int .i64 eWriter2, .int .i64 eIndex3, .int .u64 ePrev4, .int .i64 eAtT5, .int .i64 eAtW6, .int .i64 eEpoch7, .slice eBody8a eBody8n eBody8c, .int .u64 eSig9]] R w = entry_Sum.M o1 eWriter2 eIndex3 ePrev4 eAtT5 eAtW6 eEpoch7 eBody8a eBody8n eBody8c eSig9 R w := by kernel_rfl
theorem entry_Sum.ok (o1 : Option Addr) (eWriter2 : Int) (eIndex3 : Int) (ePrev4 : Int) (eAtT5 : Int) (eAtW6 : Int) (eEpoch7 : Int) (eBody8a : Option Addr) (eBody8n : Nat) (eBody8c : Nat) (eSig9 : Int) {R : Value → World → Prop} {w : World} (h : entry_Sum.M o1 eWriter2 eIndex3 ePrev4 eAtT5 eAtW6 eEpoch7 eBody8a eBody8n eBody8c eSig9 R w) : Calls Try.prog 51 #[.pointer o1, .agg #[.int .i64 eWriter2, .int .i64 eIndex3, .int .u64 ePrev4, .int .i64 eAtT5, .int .i64 eAtW6, .int .i64 eEpoch7, .slice eBody8a eBody8n eBody8c, .int .u64 eSig9]] w fun e w' => ∃ v, e = .returned v ∧ R v w' :=
  mfunc_ok follows (H := []) (args := [.pointer o1, .agg #[.int .i64 eWriter2, .int .i64 eIndex3, .int .u64 ePrev4, .int .i64 eAtT5, .int .i64 eAtW6, .int .i64 eEpoch7, .slice eBody8a eBody8n eBody8c, .int .u64 eSig9]]) (by rw [entry_Sum.eq]; exact h)

def entry_Sum.N (o1 : Option Addr) (eWriter2 : Int) (eIndex3 : Int) (ePrev4 : Int) (eAtT5 : Int) (eAtW6 : Int) (eEpoch7 : Int) (eBody8a : Option Addr) (eBody8n : Nat) (eBody8c : Nat) (eSig9 : Int) (R : Value → World → Prop) (w : World) : Prop :=
  ∀ (ww10 : World), Ext no w ww10 →
  Calls Try.prog 69 #[.agg #[.int .i64 eWriter2, .int .i64 eIndex3, .int .u64 ePrev4, .int .i64 eAtT5, .int .i64 eAtW6, .int .i64 eEpoch7, .slice eBody8a eBody8n eBody8c, .int .u64 eSig9]] ww10 fun ee14 ww15 => ∃ (bytes12a : Option Addr) (bytes12n : Nat) (bytes12c : Nat) (bytes13 : Int), ee14 = .returned (.tuple #[.slice bytes12a bytes12n bytes12c, .int .i64 bytes13]) ∧
  (bytes13 ≠ 0 →
    R (.tuple #[.int .u64 0, .int .i64 bytes13]) ww15) ∧
  (bytes13 = 0 →
    (o1 = none →
      R (.tuple #[.int .u64 0, .int .i64 23]) ww15) ∧
    (o1 ≠ none →
      Calls Try.prog 70 #[.pointer o1, .slice bytes12a bytes12n bytes12c] ww15 fun ee19 ww20 => ∃ (hash18 : Int), ee19 = .returned (.int .u64 hash18) ∧
      R (.tuple #[.int .u64 hash18, .int .i64 0]) ww20))

theorem entry_Sum.up (o1 : Option Addr) (eWriter2 : Int) (eIndex3 : Int) (ePrev4 : Int) (eAtT5 : Int) (eAtW6 : Int) (eEpoch7 : Int) (eBody8a : Option Addr) (eBody8n : Nat) (eBody8c : Nat) (eSig9 : Int) {R : Value → World → Prop} {w : World} (h : entry_Sum.N o1 eWriter2 eIndex3 ePrev4 eAtT5 eAtW6 eEpoch7 eBody8a eBody8n eBody8c eSig9 R w) : entry_Sum.M o1 eWriter2 eIndex3 ePrev4 eAtT5 eAtW6 eEpoch7 eBody8a eBody8n eBody8c eSig9 R w := by
  unfold entry_Sum.M
  unfold entry_Sum.N at h
  refine thenW_in fun ww10 e10 => ?_
  have hb1 := Blk.of_new e10
  have hg1 := ((Ext.refl no w)).size
  have hx10 := (Ext.refl no w).x_alloc e10
  refine ⟨eWriter2, eIndex3, ePrev4, eAtT5, eAtW6, eEpoch7, eBody8a, eBody8n, eBody8c, eSig9, ⟨hb1.celli 0 rfl rfl, hb1.celli 1 rfl rfl, hb1.celli 2 rfl rfl, hb1.celli 3 rfl rfl, hb1.celli 4 rfl rfl, hb1.celli 5 rfl rfl, hb1.celli 6 rfl rfl, hb1.celli 7 rfl rfl, trivial⟩, ?_⟩
  have h := h ww10 hx10
  refine h.mono fun ee14 ww15 h => ?_
  obtain ⟨bytes12a, bytes12n, bytes12c, bytes13, he, h⟩ := h
  refine ⟨bytes12a, bytes12n, bytes12c, bytes13, he, ?_⟩
  refine bif_of (fun c16 => ?_) (fun c16 => ?_)
  · have h := h.1 (bne_t c16)
    exact h
  · have h := h.2 (bne_f c16)
    refine bif_of (fun c17 => ?_) (fun c17 => ?_)
    · have h := h.1 (isNone_t c17)
      exact h
    · have h := h.2 (isNone_f c17)
      refine h.mono fun ee19 ww20 h => ?_
      obtain ⟨hash18, he, h⟩ := h
      refine ⟨hash18, he, ?_⟩
      exact h

theorem entry_Sum.go (o1 : Option Addr) (eWriter2 : Int) (eIndex3 : Int) (ePrev4 : Int) (eAtT5 : Int) (eAtW6 : Int) (eEpoch7 : Int) (eBody8a : Option Addr) (eBody8n : Nat) (eBody8c : Nat) (eSig9 : Int) {R : Value → World → Prop} {w : World} (h : entry_Sum.N o1 eWriter2 eIndex3 ePrev4 eAtT5 eAtW6 eEpoch7 eBody8a eBody8n eBody8c eSig9 R w) : Calls Try.prog 51 #[.pointer o1, .agg #[.int .i64 eWriter2, .int .i64 eIndex3, .int .u64 ePrev4, .int .i64 eAtT5, .int .i64 eAtW6, .int .i64 eEpoch7, .slice eBody8a eBody8n eBody8c, .int .u64 eSig9]] w fun e w' => ∃ v, e = .returned v ∧ R v w' := entry_Sum.ok o1 eWriter2 eIndex3 ePrev4 eAtT5 eAtW6 eEpoch7 eBody8a eBody8n eBody8c eSig9 (entry_Sum.up o1 eWriter2 eIndex3 ePrev4 eAtT5 eAtW6 eEpoch7 eBody8a eBody8n eBody8c eSig9 h)
theorem entry_Sum.run (o1 : Option Addr) (eWriter2 : Int) (eIndex3 : Int) (ePrev4 : Int) (eAtT5 : Int) (eAtW6 : Int) (eEpoch7 : Int) (eBody8a : Option Addr) (eBody8n : Nat) (eBody8c : Nat) (eSig9 : Int) {V : Value} {Q : World → Prop} {w : World} (h : entry_Sum.N o1 eWriter2 eIndex3 ePrev4 eAtT5 eAtW6 eEpoch7 eBody8a eBody8n eBody8c eSig9 (fun v w' => v = V ∧ Q w') w) : Calls Try.prog 51 #[.pointer o1, .agg #[.int .i64 eWriter2, .int .i64 eIndex3, .int .u64 ePrev4, .int .i64 eAtT5, .int .i64 eAtW6, .int .i64 eEpoch7, .slice eBody8a eBody8n eBody8c, .int .u64 eSig9]] w (Ret V Q) := (entry_Sum.go o1 eWriter2 eIndex3 ePrev4 eAtT5 eAtW6 eEpoch7 eBody8a eBody8n eBody8c eSig9 h).mono fun e w' ⟨v, he, hv, hq⟩ => ⟨by rw [he, hv], hq⟩

/-- entry.Sign -/
def entry_Sign.M (o1 : Option Addr) (secret2 : Int) (eWriter3 : Int) (eIndex4 : Int) (ePrev5 : Int) (eAtT6 : Int) (eAtW7 : Int) (eEpoch8 : Int) (eBody9a : Option Addr) (eBody9n : Nat) (eBody9c : Nat) (eSig10 : Int) (R : Value → World → Prop) (w : World) : Prop :=
  thenW (w.alloc (.cells #[.int .i64 eWriter3, .int .i64 eIndex4, .int .u64 ePrev5, .int .i64 eAtT6, .int .i64 eAtW7, .int .i64 eEpoch8, .slice eBody9a eBody9n eBody9c, .int .u64 eSig10] 39)) fun ww11 =>
  thenW (ww11.alloc (.cells #[.int .i64 0, .int .i64 0, .int .u64 0, .int .i64 0, .int .i64 0, .int .i64 0, .slice none 0 0, .int .u64 0] 39)) fun ww12 =>
  ∃ (xWriter13 : Int) (xIndex14 : Int) (xPrev15 : Int) (xAtT16 : Int) (xAtW17 : Int) (xEpoch18 : Int) (xBody19a : Option Addr) (xBody19n : Nat) (xBody19c : Nat) (xSig20 : Int), cellsAt ww12 (blk w.heap.size) [.int .i64 xWriter13, .int .i64 xIndex14, .int .u64 xPrev15, .int .i64 xAtT16, .int .i64 xAtW17, .int .i64 xEpoch18, .slice xBody19a xBody19n xBody19c, .int .u64 xSig20] 0 ∧
  Calls Try.prog 57 #[.agg #[.int .i64 xWriter13, .int .i64 xIndex14, .int .u64 xPrev15, .int .i64 xAtT16, .int .i64 xAtW17, .int .i64 xEpoch18, .slice xBody19a xBody19n xBody19c, .int .u64 xSig20]] ww12 fun ee23 ww24 => ∃ (text21a : Option Addr) (text21n : Nat) (text21c : Nat) (text22 : Int), ee23 = .returned (.tuple #[.slice text21a text21n text21c, .int .i64 text22]) ∧
  bif text22 != 0 then (
  canStore ww24 ((blk ww11.heap.size).add 0) ∧
  thenW (ww24.setCell ((blk ww11.heap.size).add 0) (.int .i64 0)) fun ww25 =>
  canStore ww25 ((blk ww11.heap.size).add 1) ∧
  thenW (ww25.setCell ((blk ww11.heap.size).add 1) (.int .i64 0)) fun ww26 =>
  canStore ww26 ((blk ww11.heap.size).add 2) ∧
  thenW (ww26.setCell ((blk ww11.heap.size).add 2) (.int .u64 0)) fun ww27 =>
  canStore ww27 ((blk ww11.heap.size).add 3) ∧
  thenW (ww27.setCell ((blk ww11.heap.size).add 3) (.int .i64 0)) fun ww28 =>
  canStore ww28 ((blk ww11.heap.size).add 4) ∧
  thenW (ww28.setCell ((blk ww11.heap.size).add 4) (.int .i64 0)) fun ww29 =>
  canStore ww29 ((blk ww11.heap.size).add 5) ∧
  thenW (ww29.setCell ((blk ww11.heap.size).add 5) (.int .i64 0)) fun ww30 =>
  canStore ww30 ((blk ww11.heap.size).add 6) ∧
  thenW (ww30.setCell ((blk ww11.heap.size).add 6) (.slice none 0 0)) fun ww31 =>
  canStore ww31 ((blk ww11.heap.size).add 7) ∧
  thenW (ww31.setCell ((blk ww11.heap.size).add 7) (.int .u64 0)) fun ww32 =>
  ∃ (resWriter33 : Int) (resIndex34 : Int) (resPrev35 : Int) (resAtT36 : Int) (resAtW37 : Int) (resEpoch38 : Int) (resBody39a : Option Addr) (resBody39n : Nat) (resBody39c : Nat) (resSig40 : Int), cellsAt ww32 (blk ww11.heap.size) [.int .i64 resWriter33, .int .i64 resIndex34, .int .u64 resPrev35, .int .i64 resAtT36, .int .i64 resAtW37, .int .i64 resEpoch38, .slice resBody39a resBody39n resBody39c, .int .u64 resSig40] 0 ∧
  R (.tuple #[.agg #[.int .i64 resWriter33, .int .i64 resIndex34, .int .u64 resPrev35, .int .i64 resAtT36, .int .i64 resAtW37, .int .i64 resEpoch38, .slice resBody39a resBody39n resBody39c, .int .u64 resSig40], .int .i64 text22]) ww32) else (
  Calls Try.prog 58 #[.pointer o1, .int .u64 secret2, .slice text21a text21n text21c] ww24 fun ee43 ww44 => ∃ (sign41 : Int) (sign42 : Int), ee43 = .returned (.tuple #[.int .u64 sign41, .int .i64 sign42]) ∧
  canStore ww44 (((blk w.heap.size).add 7).add 0) ∧
  thenW (ww44.setCell (((blk w.heap.size).add 7).add 0) (.int .u64 sign41)) fun ww45 =>
  bif sign42 != 0 then (
  canStore ww45 ((blk ww11.heap.size).add 0) ∧
  thenW (ww45.setCell ((blk ww11.heap.size).add 0) (.int .i64 0)) fun ww46 =>
  canStore ww46 ((blk ww11.heap.size).add 1) ∧
  thenW (ww46.setCell ((blk ww11.heap.size).add 1) (.int .i64 0)) fun ww47 =>
  canStore ww47 ((blk ww11.heap.size).add 2) ∧
  thenW (ww47.setCell ((blk ww11.heap.size).add 2) (.int .u64 0)) fun ww48 =>
  canStore ww48 ((blk ww11.heap.size).add 3) ∧
  thenW (ww48.setCell ((blk ww11.heap.size).add 3) (.int .i64 0)) fun ww49 =>
  canStore ww49 ((blk ww11.heap.size).add 4) ∧
  thenW (ww49.setCell ((blk ww11.heap.size).add 4) (.int .i64 0)) fun ww50 =>
  canStore ww50 ((blk ww11.heap.size).add 5) ∧
  thenW (ww50.setCell ((blk ww11.heap.size).add 5) (.int .i64 0)) fun ww51 =>
  canStore ww51 ((blk ww11.heap.size).add 6) ∧
  thenW (ww51.setCell ((blk ww11.heap.size).add 6) (.slice none 0 0)) fun ww52 =>
  canStore ww52 ((blk ww11.heap.size).add 7) ∧
  thenW (ww52.setCell ((blk ww11.heap.size).add 7) (.int .u64 0)) fun ww53 =>
  ∃ (resWriter54 : Int) (resIndex55 : Int) (resPrev56 : Int) (resAtT57 : Int) (resAtW58 : Int) (resEpoch59 : Int) (resBody60a : Option Addr) (resBody60n : Nat) (resBody60c : Nat) (resSig61 : Int), cellsAt ww53 (blk ww11.heap.size) [.int .i64 resWriter54, .int .i64 resIndex55, .int .u64 resPrev56, .int .i64 resAtT57, .int .i64 resAtW58, .int .i64 resEpoch59, .slice resBody60a resBody60n resBody60c, .int .u64 resSig61] 0 ∧
  R (.tuple #[.agg #[.int .i64 resWriter54, .int .i64 resIndex55, .int .u64 resPrev56, .int .i64 resAtT57, .int .i64 resAtW58, .int .i64 resEpoch59, .slice resBody60a resBody60n resBody60c, .int .u64 resSig61], .int .i64 sign42]) ww53) else (
  ∃ (Body62a : Option Addr) (Body62n : Nat) (Body62c : Nat), ww45.cell? ((blk w.heap.size).add 6) = some (.slice Body62a Body62n Body62c) ∧
  Calls Try.prog 59 #[.slice Body62a Body62n Body62c] ww45 fun ee64 ww65 => ∃ (clone63a : Option Addr) (clone63n : Nat) (clone63c : Nat), ee64 = .returned (.slice clone63a clone63n clone63c) ∧
  canStore ww65 (((blk w.heap.size).add 6).add 0) ∧
  thenW (ww65.setCell (((blk w.heap.size).add 6).add 0) (.slice clone63a clone63n clone63c)) fun ww66 =>
  ∃ (xWriter67 : Int) (xIndex68 : Int) (xPrev69 : Int) (xAtT70 : Int) (xAtW71 : Int) (xEpoch72 : Int) (xBody73a : Option Addr) (xBody73n : Nat) (xBody73c : Nat) (xSig74 : Int), cellsAt ww66 (blk w.heap.size) [.int .i64 xWriter67, .int .i64 xIndex68, .int .u64 xPrev69, .int .i64 xAtT70, .int .i64 xAtW71, .int .i64 xEpoch72, .slice xBody73a xBody73n xBody73c, .int .u64 xSig74] 0 ∧
  canStore ww66 ((blk ww11.heap.size).add 0) ∧
  thenW (ww66.setCell ((blk ww11.heap.size).add 0) (.int .i64 xWriter67)) fun ww75 =>
  canStore ww75 ((blk ww11.heap.size).add 1) ∧
  thenW (ww75.setCell ((blk ww11.heap.size).add 1) (.int .i64 xIndex68)) fun ww76 =>
  canStore ww76 ((blk ww11.heap.size).add 2) ∧
  thenW (ww76.setCell ((blk ww11.heap.size).add 2) (.int .u64 xPrev69)) fun ww77 =>
  canStore ww77 ((blk ww11.heap.size).add 3) ∧
  thenW (ww77.setCell ((blk ww11.heap.size).add 3) (.int .i64 xAtT70)) fun ww78 =>
  canStore ww78 ((blk ww11.heap.size).add 4) ∧
  thenW (ww78.setCell ((blk ww11.heap.size).add 4) (.int .i64 xAtW71)) fun ww79 =>
  canStore ww79 ((blk ww11.heap.size).add 5) ∧
  thenW (ww79.setCell ((blk ww11.heap.size).add 5) (.int .i64 xEpoch72)) fun ww80 =>
  canStore ww80 ((blk ww11.heap.size).add 6) ∧
  thenW (ww80.setCell ((blk ww11.heap.size).add 6) (.slice xBody73a xBody73n xBody73c)) fun ww81 =>
  canStore ww81 ((blk ww11.heap.size).add 7) ∧
  thenW (ww81.setCell ((blk ww11.heap.size).add 7) (.int .u64 xSig74)) fun ww82 =>
  ∃ (resWriter83 : Int) (resIndex84 : Int) (resPrev85 : Int) (resAtT86 : Int) (resAtW87 : Int) (resEpoch88 : Int) (resBody89a : Option Addr) (resBody89n : Nat) (resBody89c : Nat) (resSig90 : Int), cellsAt ww82 (blk ww11.heap.size) [.int .i64 resWriter83, .int .i64 resIndex84, .int .u64 resPrev85, .int .i64 resAtT86, .int .i64 resAtW87, .int .i64 resEpoch88, .slice resBody89a resBody89n resBody89c, .int .u64 resSig90] 0 ∧
  R (.tuple #[.agg #[.int .i64 resWriter83, .int .i64 resIndex84, .int .u64 resPrev85, .int .i64 resAtT86, .int .i64 resAtW87, .int .i64 resEpoch88, .slice resBody89a resBody89n resBody89c, .int .u64 resSig90], .int .i64 0]) ww82))

theorem entry_Sign.eq (o1 : Option Addr) (secret2 : Int) (eWriter3 : Int) (eIndex4 : Int) (ePrev5 : Int) (eAtT6 : Int) (eAtW7 : Int) (eEpoch8 : Int) (eBody9a : Option Addr) (eBody9n : Nat) (eBody9c : Nat) (eSig10 : Int) (R : Value → World → Prop) (w : World) : mfunc Try.prog [] 40 [.pointer o1, .int .u64 secret2, .agg #[.int .i64 eWriter3, .int .i64 eIndex4, .int .u64 ePrev5, .int .i64 eAtT6, .int .i64 eAtW7, .int .i64 eEpoch8, .slice eBody9a eBody9n eBody9c, .int .u64 eSig10]] R w = entry_Sign.M o1 secret2 eWriter3 eIndex4 ePrev5 eAtT6 eAtW7 eEpoch8 eBody9a eBody9n eBody9c eSig10 R w := by kernel_rfl
theorem entry_Sign.ok (o1 : Option Addr) (secret2 : Int) (eWriter3 : Int) (eIndex4 : Int) (ePrev5 : Int) (eAtT6 : Int) (eAtW7 : Int) (eEpoch8 : Int) (eBody9a : Option Addr) (eBody9n : Nat) (eBody9c : Nat) (eSig10 : Int) {R : Value → World → Prop} {w : World} (h : entry_Sign.M o1 secret2 eWriter3 eIndex4 ePrev5 eAtT6 eAtW7 eEpoch8 eBody9a eBody9n eBody9c eSig10 R w) : Calls Try.prog 40 #[.pointer o1, .int .u64 secret2, .agg #[.int .i64 eWriter3, .int .i64 eIndex4, .int .u64 ePrev5, .int .i64 eAtT6, .int .i64 eAtW7, .int .i64 eEpoch8, .slice eBody9a eBody9n eBody9c, .int .u64 eSig10]] w fun e w' => ∃ v, e = .returned v ∧ R v w' :=
  mfunc_ok follows (H := []) (args := [.pointer o1, .int .u64 secret2, .agg #[.int .i64 eWriter3, .int .i64 eIndex4, .int .u64 ePrev5, .int .i64 eAtT6, .int .i64 eAtW7, .int .i64 eEpoch8, .slice eBody9a eBody9n eBody9c, .int .u64 eSig10]]) (by rw [entry_Sign.eq]; exact h)

def entry_Sign.N (o1 : Option Addr) (secret2 : Int) (eWriter3 : Int) (eIndex4 : Int) (ePrev5 : Int) (eAtT6 : Int) (eAtW7 : Int) (eEpoch8 : Int) (eBody9a : Option Addr) (eBody9n : Nat) (eBody9c : Nat) (eSig10 : Int) (R : Value → World → Prop) (w : World) : Prop :=
  ∀ (ww12 : World) (p13 : Nat) (p14 : Nat), Ext no w ww12 → Priv w ww12 [p13, p14] →
  Calls Try.prog 57 #[.agg #[.int .i64 eWriter3, .int .i64 eIndex4, .int .u64 ePrev5, .int .i64 eAtT6, .int .i64 eAtW7, .int .i64 eEpoch8, .slice eBody9a eBody9n eBody9c, .int .u64 eSig10]] ww12 fun ee17 ww18 => ∃ (text15a : Option Addr) (text15n : Nat) (text15c : Nat) (text16 : Int), ee17 = .returned (.tuple #[.slice text15a text15n text15c, .int .i64 text16]) ∧
  Keep [p13, p14] ww12 ww18 ∧
  (text16 ≠ 0 →
    ∀ (ww27 : World), Ext (fun b => b = p14) ww18 ww27 →
    R (.tuple #[.agg #[.int .i64 0, .int .i64 0, .int .u64 0, .int .i64 0, .int .i64 0, .int .i64 0, .slice none 0 0, .int .u64 0], .int .i64 text16]) ww27) ∧
  (text16 = 0 →
    Calls Try.prog 58 #[.pointer o1, .int .u64 secret2, .slice text15a text15n text15c] ww18 fun ee30 ww31 => ∃ (sign28 : Int) (sign29 : Int), ee30 = .returned (.tuple #[.int .u64 sign28, .int .i64 sign29]) ∧
    Keep [p13, p14] ww18 ww31 ∧
    (sign29 ≠ 0 →
      ∀ (ww41 : World), Ext (fun b => b = p14 ∨ b = p13) ww31 ww41 →
      R (.tuple #[.agg #[.int .i64 0, .int .i64 0, .int .u64 0, .int .i64 0, .int .i64 0, .int .i64 0, .slice none 0 0, .int .u64 0], .int .i64 sign29]) ww41) ∧
    (sign29 = 0 →
      ∀ (ww32 : World), Ext (fun b => b = p13) ww31 ww32 →
      Calls Try.prog 59 #[.slice eBody9a eBody9n eBody9c] ww32 fun ee43 ww44 => ∃ (clone42a : Option Addr) (clone42n : Nat) (clone42c : Nat), ee43 = .returned (.slice clone42a clone42n clone42c) ∧
      Keep [p13, p14] ww32 ww44 ∧
      ∀ (ww53 : World), Ext (fun b => b = p14 ∨ b = p13) ww44 ww53 →
      R (.tuple #[.agg #[.int .i64 eWriter3, .int .i64 eIndex4, .int .u64 ePrev5, .int .i64 eAtT6, .int .i64 eAtW7, .int .i64 eEpoch8, .slice clone42a clone42n clone42c, .int .u64 sign28], .int .i64 0]) ww53))

theorem entry_Sign.up (o1 : Option Addr) (secret2 : Int) (eWriter3 : Int) (eIndex4 : Int) (ePrev5 : Int) (eAtT6 : Int) (eAtW7 : Int) (eEpoch8 : Int) (eBody9a : Option Addr) (eBody9n : Nat) (eBody9c : Nat) (eSig10 : Int) {R : Value → World → Prop} {w : World} (h : entry_Sign.N o1 secret2 eWriter3 eIndex4 ePrev5 eAtT6 eAtW7 eEpoch8 eBody9a eBody9n eBody9c eSig10 R w) : entry_Sign.M o1 secret2 eWriter3 eIndex4 ePrev5 eAtT6 eAtW7 eEpoch8 eBody9a eBody9n eBody9c eSig10 R w := by
  unfold entry_Sign.M
  unfold entry_Sign.N at h
  refine thenW_in fun ww11 e11 => ?_
  have hb1 := Blk.of_new e11
  have hg1 := ((Ext.refl no w)).size
  have hx11 := (Ext.refl no w).x_alloc e11
  refine thenW_in fun ww12 e12 => ?_
  have hb2 := Blk.of_new e12
  have hg2 := (hx11).size
  have hb1_2 := Nat.ne_of_lt hb1.lt
  have hb1 := hb1.x_alloc e12
  have hx12 := hx11.x_alloc e12
  refine ⟨eWriter3, eIndex4, ePrev5, eAtT6, eAtW7, eEpoch8, eBody9a, eBody9n, eBody9c, eSig10, ⟨hb1.celli 0 rfl rfl, hb1.celli 1 rfl rfl, hb1.celli 2 rfl rfl, hb1.celli 3 rfl rfl, hb1.celli 4 rfl rfl, hb1.celli 5 rfl rfl, hb1.celli 6 rfl rfl, hb1.celli 7 rfl rfl, trivial⟩, ?_⟩
  have h := h ww12 (w.heap.size) (ww11.heap.size) hx12 (Priv.cons hg1 hb1.lt (Priv.cons hg2 hb2.lt Priv.nil))
  refine h.mono fun ee17 ww18 h => ?_
  obtain ⟨text15a, text15n, text15c, text16, he, hk, h⟩ := h
  refine ⟨text15a, text15n, text15c, text16, he, ?_⟩
  have hb1 := hk.blk hb1 (by simp)
  have hb2 := hk.blk hb2 (by simp)
  refine bif_of (fun c19 => ?_) (fun c19 => ?_)
  · have h := h.1 (bne_t c19)
    have hm27 : Ext (fun b => b = ww11.heap.size) ww18 ww18 := ((Ext.refl no ww18)).none
    refine ⟨hb2.cani 0 rfl rfl, thenW_in fun ww20 e20 => ?_⟩
    have hx20 := hm27.x_set (q := ww11.heap.size) (i := 0) rfl (.inl rfl) e20
    have hb2 := hb2.seti 0 rfl e20
    refine ⟨hb2.cani 1 rfl rfl, thenW_in fun ww21 e21 => ?_⟩
    have hx21 := hx20.x_set (q := ww11.heap.size) (i := 1) rfl (.inl rfl) e21
    have hb2 := hb2.seti 1 rfl e21
    refine ⟨hb2.cani 2 rfl rfl, thenW_in fun ww22 e22 => ?_⟩
    have hx22 := hx21.x_set (q := ww11.heap.size) (i := 2) rfl (.inl rfl) e22
    have hb2 := hb2.seti 2 rfl e22
    refine ⟨hb2.cani 3 rfl rfl, thenW_in fun ww23 e23 => ?_⟩
    have hx23 := hx22.x_set (q := ww11.heap.size) (i := 3) rfl (.inl rfl) e23
    have hb2 := hb2.seti 3 rfl e23
    refine ⟨hb2.cani 4 rfl rfl, thenW_in fun ww24 e24 => ?_⟩
    have hx24 := hx23.x_set (q := ww11.heap.size) (i := 4) rfl (.inl rfl) e24
    have hb2 := hb2.seti 4 rfl e24
    refine ⟨hb2.cani 5 rfl rfl, thenW_in fun ww25 e25 => ?_⟩
    have hx25 := hx24.x_set (q := ww11.heap.size) (i := 5) rfl (.inl rfl) e25
    have hb2 := hb2.seti 5 rfl e25
    refine ⟨hb2.cani 6 rfl rfl, thenW_in fun ww26 e26 => ?_⟩
    have hx26 := hx25.x_set (q := ww11.heap.size) (i := 6) rfl (.inl rfl) e26
    have hb2 := hb2.seti 6 rfl e26
    refine ⟨hb2.cani 7 rfl rfl, thenW_in fun ww27 e27 => ?_⟩
    have hx27 := hx26.x_set (q := ww11.heap.size) (i := 7) rfl (.inl rfl) e27
    have hb2 := hb2.seti 7 rfl e27
    refine ⟨0, 0, 0, 0, 0, 0, none, 0, 0, 0, ⟨hb2.celli 0 rfl rfl, hb2.celli 1 rfl rfl, hb2.celli 2 rfl rfl, hb2.celli 3 rfl rfl, hb2.celli 4 rfl rfl, hb2.celli 5 rfl rfl, hb2.celli 6 rfl rfl, hb2.celli 7 rfl rfl, trivial⟩, ?_⟩
    have h := h ww27 hx27
    exact h
  · have h := h.2 (bne_f c19)
    refine h.mono fun ee30 ww31 h => ?_
    obtain ⟨sign28, sign29, he, hk, h⟩ := h
    refine ⟨sign28, sign29, he, ?_⟩
    have hb1 := hk.blk hb1 (by simp)
    have hb2 := hk.blk hb2 (by simp)
    have hm32 : Ext (fun b => b = w.heap.size) ww31 ww31 := ((Ext.refl no ww31)).none
    refine ⟨hb1.cani 7 rfl rfl, thenW_in fun ww32 e32 => ?_⟩
    have hx32 := hm32.x_set (q := w.heap.size) (i := 7) rfl (.inl rfl) e32
    have hb1 := hb1.seti 7 rfl e32
    have hb2 := hb2.oth (q := w.heap.size) (i := 7) rfl (Ne.symm hb1_2) e32
    refine bif_of (fun c33 => ?_) (fun c33 => ?_)
    · have h := h.1 (bne_t c33)
      have hm41 : Ext (fun b => b = ww11.heap.size ∨ b = w.heap.size) ww31 ww32 := (hx32).mono fun _ h _ => .inr h
      refine ⟨hb2.cani 0 rfl rfl, thenW_in fun ww34 e34 => ?_⟩
      have hx34 := hm41.x_set (q := ww11.heap.size) (i := 0) rfl (.inl (.inl rfl)) e34
      have hb2 := hb2.seti 0 rfl e34
      refine ⟨hb2.cani 1 rfl rfl, thenW_in fun ww35 e35 => ?_⟩
      have hx35 := hx34.x_set (q := ww11.heap.size) (i := 1) rfl (.inl (.inl rfl)) e35
      have hb2 := hb2.seti 1 rfl e35
      refine ⟨hb2.cani 2 rfl rfl, thenW_in fun ww36 e36 => ?_⟩
      have hx36 := hx35.x_set (q := ww11.heap.size) (i := 2) rfl (.inl (.inl rfl)) e36
      have hb2 := hb2.seti 2 rfl e36
      refine ⟨hb2.cani 3 rfl rfl, thenW_in fun ww37 e37 => ?_⟩
      have hx37 := hx36.x_set (q := ww11.heap.size) (i := 3) rfl (.inl (.inl rfl)) e37
      have hb2 := hb2.seti 3 rfl e37
      refine ⟨hb2.cani 4 rfl rfl, thenW_in fun ww38 e38 => ?_⟩
      have hx38 := hx37.x_set (q := ww11.heap.size) (i := 4) rfl (.inl (.inl rfl)) e38
      have hb2 := hb2.seti 4 rfl e38
      refine ⟨hb2.cani 5 rfl rfl, thenW_in fun ww39 e39 => ?_⟩
      have hx39 := hx38.x_set (q := ww11.heap.size) (i := 5) rfl (.inl (.inl rfl)) e39
      have hb2 := hb2.seti 5 rfl e39
      refine ⟨hb2.cani 6 rfl rfl, thenW_in fun ww40 e40 => ?_⟩
      have hx40 := hx39.x_set (q := ww11.heap.size) (i := 6) rfl (.inl (.inl rfl)) e40
      have hb2 := hb2.seti 6 rfl e40
      refine ⟨hb2.cani 7 rfl rfl, thenW_in fun ww41 e41 => ?_⟩
      have hx41 := hx40.x_set (q := ww11.heap.size) (i := 7) rfl (.inl (.inl rfl)) e41
      have hb2 := hb2.seti 7 rfl e41
      refine ⟨0, 0, 0, 0, 0, 0, none, 0, 0, 0, ⟨hb2.celli 0 rfl rfl, hb2.celli 1 rfl rfl, hb2.celli 2 rfl rfl, hb2.celli 3 rfl rfl, hb2.celli 4 rfl rfl, hb2.celli 5 rfl rfl, hb2.celli 6 rfl rfl, hb2.celli 7 rfl rfl, trivial⟩, ?_⟩
      have h := h ww41 hx41
      exact h
    · have h := h.2 (bne_f c33)
      refine ⟨eBody9a, eBody9n, eBody9c, hb1.celli 6 rfl rfl, ?_⟩
      have h := h ww32 hx32
      refine h.mono fun ee43 ww44 h => ?_
      obtain ⟨clone42a, clone42n, clone42c, he, hk, h⟩ := h
      refine ⟨clone42a, clone42n, clone42c, he, ?_⟩
      have hb1 := hk.blk hb1 (by simp)
      have hb2 := hk.blk hb2 (by simp)
      have hm45 : Ext (fun b => b = w.heap.size) ww44 ww44 := ((Ext.refl no ww44)).none
      refine ⟨hb1.cani 6 rfl rfl, thenW_in fun ww45 e45 => ?_⟩
      have hx45 := hm45.x_set (q := w.heap.size) (i := 6) rfl (.inl rfl) e45
      have hb1 := hb1.seti 6 rfl e45
      have hb2 := hb2.oth (q := w.heap.size) (i := 6) rfl (Ne.symm hb1_2) e45
      refine ⟨eWriter3, eIndex4, ePrev5, eAtT6, eAtW7, eEpoch8, clone42a, clone42n, clone42c, sign28, ⟨hb1.celli 0 rfl rfl, hb1.celli 1 rfl rfl, hb1.celli 2 rfl rfl, hb1.celli 3 rfl rfl, hb1.celli 4 rfl rfl, hb1.celli 5 rfl rfl, hb1.celli 6 rfl rfl, hb1.celli 7 rfl rfl, trivial⟩, ?_⟩
      have hm53 : Ext (fun b => b = ww11.heap.size ∨ b = w.heap.size) ww44 ww45 := (hx45).mono fun _ h _ => .inr h
      refine ⟨hb2.cani 0 rfl rfl, thenW_in fun ww46 e46 => ?_⟩
      have hx46 := hm53.x_set (q := ww11.heap.size) (i := 0) rfl (.inl (.inl rfl)) e46
      have hb2 := hb2.seti 0 rfl e46
      refine ⟨hb2.cani 1 rfl rfl, thenW_in fun ww47 e47 => ?_⟩
      have hx47 := hx46.x_set (q := ww11.heap.size) (i := 1) rfl (.inl (.inl rfl)) e47
      have hb2 := hb2.seti 1 rfl e47
      refine ⟨hb2.cani 2 rfl rfl, thenW_in fun ww48 e48 => ?_⟩
      have hx48 := hx47.x_set (q := ww11.heap.size) (i := 2) rfl (.inl (.inl rfl)) e48
      have hb2 := hb2.seti 2 rfl e48
      refine ⟨hb2.cani 3 rfl rfl, thenW_in fun ww49 e49 => ?_⟩
      have hx49 := hx48.x_set (q := ww11.heap.size) (i := 3) rfl (.inl (.inl rfl)) e49
      have hb2 := hb2.seti 3 rfl e49
      refine ⟨hb2.cani 4 rfl rfl, thenW_in fun ww50 e50 => ?_⟩
      have hx50 := hx49.x_set (q := ww11.heap.size) (i := 4) rfl (.inl (.inl rfl)) e50
      have hb2 := hb2.seti 4 rfl e50
      refine ⟨hb2.cani 5 rfl rfl, thenW_in fun ww51 e51 => ?_⟩
      have hx51 := hx50.x_set (q := ww11.heap.size) (i := 5) rfl (.inl (.inl rfl)) e51
      have hb2 := hb2.seti 5 rfl e51
      refine ⟨hb2.cani 6 rfl rfl, thenW_in fun ww52 e52 => ?_⟩
      have hx52 := hx51.x_set (q := ww11.heap.size) (i := 6) rfl (.inl (.inl rfl)) e52
      have hb2 := hb2.seti 6 rfl e52
      refine ⟨hb2.cani 7 rfl rfl, thenW_in fun ww53 e53 => ?_⟩
      have hx53 := hx52.x_set (q := ww11.heap.size) (i := 7) rfl (.inl (.inl rfl)) e53
      have hb2 := hb2.seti 7 rfl e53
      refine ⟨eWriter3, eIndex4, ePrev5, eAtT6, eAtW7, eEpoch8, clone42a, clone42n, clone42c, sign28, ⟨hb2.celli 0 rfl rfl, hb2.celli 1 rfl rfl, hb2.celli 2 rfl rfl, hb2.celli 3 rfl rfl, hb2.celli 4 rfl rfl, hb2.celli 5 rfl rfl, hb2.celli 6 rfl rfl, hb2.celli 7 rfl rfl, trivial⟩, ?_⟩
      have h := h ww53 hx53
      exact h

theorem entry_Sign.go (o1 : Option Addr) (secret2 : Int) (eWriter3 : Int) (eIndex4 : Int) (ePrev5 : Int) (eAtT6 : Int) (eAtW7 : Int) (eEpoch8 : Int) (eBody9a : Option Addr) (eBody9n : Nat) (eBody9c : Nat) (eSig10 : Int) {R : Value → World → Prop} {w : World} (h : entry_Sign.N o1 secret2 eWriter3 eIndex4 ePrev5 eAtT6 eAtW7 eEpoch8 eBody9a eBody9n eBody9c eSig10 R w) : Calls Try.prog 40 #[.pointer o1, .int .u64 secret2, .agg #[.int .i64 eWriter3, .int .i64 eIndex4, .int .u64 ePrev5, .int .i64 eAtT6, .int .i64 eAtW7, .int .i64 eEpoch8, .slice eBody9a eBody9n eBody9c, .int .u64 eSig10]] w fun e w' => ∃ v, e = .returned v ∧ R v w' := entry_Sign.ok o1 secret2 eWriter3 eIndex4 ePrev5 eAtT6 eAtW7 eEpoch8 eBody9a eBody9n eBody9c eSig10 (entry_Sign.up o1 secret2 eWriter3 eIndex4 ePrev5 eAtT6 eAtW7 eEpoch8 eBody9a eBody9n eBody9c eSig10 h)
theorem entry_Sign.run (o1 : Option Addr) (secret2 : Int) (eWriter3 : Int) (eIndex4 : Int) (ePrev5 : Int) (eAtT6 : Int) (eAtW7 : Int) (eEpoch8 : Int) (eBody9a : Option Addr) (eBody9n : Nat) (eBody9c : Nat) (eSig10 : Int) {V : Value} {Q : World → Prop} {w : World} (h : entry_Sign.N o1 secret2 eWriter3 eIndex4 ePrev5 eAtT6 eAtW7 eEpoch8 eBody9a eBody9n eBody9c eSig10 (fun v w' => v = V ∧ Q w') w) : Calls Try.prog 40 #[.pointer o1, .int .u64 secret2, .agg #[.int .i64 eWriter3, .int .i64 eIndex4, .int .u64 ePrev5, .int .i64 eAtT6, .int .i64 eAtW7, .int .i64 eEpoch8, .slice eBody9a eBody9n eBody9c, .int .u64 eSig10]] w (Ret V Q) := (entry_Sign.go o1 secret2 eWriter3 eIndex4 ePrev5 eAtT6 eAtW7 eEpoch8 eBody9a eBody9n eBody9c eSig10 h).mono fun e w' ⟨v, he, hv, hq⟩ => ⟨by rw [he, hv], hq⟩

/-- entry.Holds -/
def entry_Holds.M (o1 : Option Addr) (publicv2 : Int) (eWriter3 : Int) (eIndex4 : Int) (ePrev5 : Int) (eAtT6 : Int) (eAtW7 : Int) (eEpoch8 : Int) (eBody9a : Option Addr) (eBody9n : Nat) (eBody9c : Nat) (eSig10 : Int) (R : Value → World → Prop) (w : World) : Prop :=
  thenW (w.alloc (.cells #[.int .i64 eWriter3, .int .i64 eIndex4, .int .u64 ePrev5, .int .i64 eAtT6, .int .i64 eAtW7, .int .i64 eEpoch8, .slice eBody9a eBody9n eBody9c, .int .u64 eSig10] 39)) fun ww11 =>
  ∃ (xWriter12 : Int) (xIndex13 : Int) (xPrev14 : Int) (xAtT15 : Int) (xAtW16 : Int) (xEpoch17 : Int) (xBody18a : Option Addr) (xBody18n : Nat) (xBody18c : Nat) (xSig19 : Int), cellsAt ww11 (blk w.heap.size) [.int .i64 xWriter12, .int .i64 xIndex13, .int .u64 xPrev14, .int .i64 xAtT15, .int .i64 xAtW16, .int .i64 xEpoch17, .slice xBody18a xBody18n xBody18c, .int .u64 xSig19] 0 ∧
  Calls Try.prog 57 #[.agg #[.int .i64 xWriter12, .int .i64 xIndex13, .int .u64 xPrev14, .int .i64 xAtT15, .int .i64 xAtW16, .int .i64 xEpoch17, .slice xBody18a xBody18n xBody18c, .int .u64 xSig19]] ww11 fun ee22 ww23 => ∃ (text20a : Option Addr) (text20n : Nat) (text20c : Nat) (text21 : Int), ee22 = .returned (.tuple #[.slice text20a text20n text20c, .int .i64 text21]) ∧
  bif text21 == 0 then (
  ∃ (Sig24 : Int), ww23.cell? ((blk w.heap.size).add 7) = some (.int .u64 Sig24) ∧
  Calls Try.prog 82 #[.pointer o1, .int .u64 publicv2, .slice text20a text20n text20c, .int .u64 Sig24] ww23 fun ee26 ww27 => ∃ (verify25 : Bool), ee26 = .returned (.bool verify25) ∧
  R (.bool verify25) ww27) else (
  R (.bool false) ww23)

theorem entry_Holds.eq (o1 : Option Addr) (publicv2 : Int) (eWriter3 : Int) (eIndex4 : Int) (ePrev5 : Int) (eAtT6 : Int) (eAtW7 : Int) (eEpoch8 : Int) (eBody9a : Option Addr) (eBody9n : Nat) (eBody9c : Nat) (eSig10 : Int) (R : Value → World → Prop) (w : World) : mfunc Try.prog [] 67 [.pointer o1, .int .u64 publicv2, .agg #[.int .i64 eWriter3, .int .i64 eIndex4, .int .u64 ePrev5, .int .i64 eAtT6, .int .i64 eAtW7, .int .i64 eEpoch8, .slice eBody9a eBody9n eBody9c, .int .u64 eSig10]] R w = entry_Holds.M o1 publicv2 eWriter3 eIndex4 ePrev5 eAtT6 eAtW7 eEpoch8 eBody9a eBody9n eBody9c eSig10 R w := by kernel_rfl
theorem entry_Holds.ok (o1 : Option Addr) (publicv2 : Int) (eWriter3 : Int) (eIndex4 : Int) (ePrev5 : Int) (eAtT6 : Int) (eAtW7 : Int) (eEpoch8 : Int) (eBody9a : Option Addr) (eBody9n : Nat) (eBody9c : Nat) (eSig10 : Int) {R : Value → World → Prop} {w : World} (h : entry_Holds.M o1 publicv2 eWriter3 eIndex4 ePrev5 eAtT6 eAtW7 eEpoch8 eBody9a eBody9n eBody9c eSig10 R w) : Calls Try.prog 67 #[.pointer o1, .int .u64 publicv2, .agg #[.int .i64 eWriter3, .int .i64 eIndex4, .int .u64 ePrev5, .int .i64 eAtT6, .int .i64 eAtW7, .int .i64 eEpoch8, .slice eBody9a eBody9n eBody9c, .int .u64 eSig10]] w fun e w' => ∃ v, e = .returned v ∧ R v w' :=
  mfunc_ok follows (H := []) (args := [.pointer o1, .int .u64 publicv2, .agg #[.int .i64 eWriter3, .int .i64 eIndex4, .int .u64 ePrev5, .int .i64 eAtT6, .int .i64 eAtW7, .int .i64 eEpoch8, .slice eBody9a eBody9n eBody9c, .int .u64 eSig10]]) (by rw [entry_Holds.eq]; exact h)

def entry_Holds.N (o1 : Option Addr) (publicv2 : Int) (eWriter3 : Int) (eIndex4 : Int) (ePrev5 : Int) (eAtT6 : Int) (eAtW7 : Int) (eEpoch8 : Int) (eBody9a : Option Addr) (eBody9n : Nat) (eBody9c : Nat) (eSig10 : Int) (R : Value → World → Prop) (w : World) : Prop :=
  ∀ (ww11 : World) (p12 : Nat), Ext no w ww11 → Priv w ww11 [p12] →
  Calls Try.prog 57 #[.agg #[.int .i64 eWriter3, .int .i64 eIndex4, .int .u64 ePrev5, .int .i64 eAtT6, .int .i64 eAtW7, .int .i64 eEpoch8, .slice eBody9a eBody9n eBody9c, .int .u64 eSig10]] ww11 fun ee15 ww16 => ∃ (text13a : Option Addr) (text13n : Nat) (text13c : Nat) (text14 : Int), ee15 = .returned (.tuple #[.slice text13a text13n text13c, .int .i64 text14]) ∧
  Keep [p12] ww11 ww16 ∧
  (text14 = 0 →
    Calls Try.prog 82 #[.pointer o1, .int .u64 publicv2, .slice text13a text13n text13c, .int .u64 eSig10] ww16 fun ee19 ww20 => ∃ (verify18 : Bool), ee19 = .returned (.bool verify18) ∧
    R (.bool verify18) ww20) ∧
  (text14 ≠ 0 →
    R (.bool false) ww16)

theorem entry_Holds.up (o1 : Option Addr) (publicv2 : Int) (eWriter3 : Int) (eIndex4 : Int) (ePrev5 : Int) (eAtT6 : Int) (eAtW7 : Int) (eEpoch8 : Int) (eBody9a : Option Addr) (eBody9n : Nat) (eBody9c : Nat) (eSig10 : Int) {R : Value → World → Prop} {w : World} (h : entry_Holds.N o1 publicv2 eWriter3 eIndex4 ePrev5 eAtT6 eAtW7 eEpoch8 eBody9a eBody9n eBody9c eSig10 R w) : entry_Holds.M o1 publicv2 eWriter3 eIndex4 ePrev5 eAtT6 eAtW7 eEpoch8 eBody9a eBody9n eBody9c eSig10 R w := by
  unfold entry_Holds.M
  unfold entry_Holds.N at h
  refine thenW_in fun ww11 e11 => ?_
  have hb1 := Blk.of_new e11
  have hg1 := ((Ext.refl no w)).size
  have hx11 := (Ext.refl no w).x_alloc e11
  refine ⟨eWriter3, eIndex4, ePrev5, eAtT6, eAtW7, eEpoch8, eBody9a, eBody9n, eBody9c, eSig10, ⟨hb1.celli 0 rfl rfl, hb1.celli 1 rfl rfl, hb1.celli 2 rfl rfl, hb1.celli 3 rfl rfl, hb1.celli 4 rfl rfl, hb1.celli 5 rfl rfl, hb1.celli 6 rfl rfl, hb1.celli 7 rfl rfl, trivial⟩, ?_⟩
  have h := h ww11 (w.heap.size) hx11 (Priv.cons hg1 hb1.lt Priv.nil)
  refine h.mono fun ee15 ww16 h => ?_
  obtain ⟨text13a, text13n, text13c, text14, he, hk, h⟩ := h
  refine ⟨text13a, text13n, text13c, text14, he, ?_⟩
  have hb1 := hk.blk hb1 (by simp)
  refine bif_of (fun c17 => ?_) (fun c17 => ?_)
  · have h := h.1 (beq_t c17)
    refine ⟨eSig10, hb1.celli 7 rfl rfl, ?_⟩
    refine h.mono fun ee19 ww20 h => ?_
    obtain ⟨verify18, he, h⟩ := h
    refine ⟨verify18, he, ?_⟩
    exact h
  · have h := h.2 (beq_f c17)
    exact h

theorem entry_Holds.go (o1 : Option Addr) (publicv2 : Int) (eWriter3 : Int) (eIndex4 : Int) (ePrev5 : Int) (eAtT6 : Int) (eAtW7 : Int) (eEpoch8 : Int) (eBody9a : Option Addr) (eBody9n : Nat) (eBody9c : Nat) (eSig10 : Int) {R : Value → World → Prop} {w : World} (h : entry_Holds.N o1 publicv2 eWriter3 eIndex4 ePrev5 eAtT6 eAtW7 eEpoch8 eBody9a eBody9n eBody9c eSig10 R w) : Calls Try.prog 67 #[.pointer o1, .int .u64 publicv2, .agg #[.int .i64 eWriter3, .int .i64 eIndex4, .int .u64 ePrev5, .int .i64 eAtT6, .int .i64 eAtW7, .int .i64 eEpoch8, .slice eBody9a eBody9n eBody9c, .int .u64 eSig10]] w fun e w' => ∃ v, e = .returned v ∧ R v w' := entry_Holds.ok o1 publicv2 eWriter3 eIndex4 ePrev5 eAtT6 eAtW7 eEpoch8 eBody9a eBody9n eBody9c eSig10 (entry_Holds.up o1 publicv2 eWriter3 eIndex4 ePrev5 eAtT6 eAtW7 eEpoch8 eBody9a eBody9n eBody9c eSig10 h)
theorem entry_Holds.run (o1 : Option Addr) (publicv2 : Int) (eWriter3 : Int) (eIndex4 : Int) (ePrev5 : Int) (eAtT6 : Int) (eAtW7 : Int) (eEpoch8 : Int) (eBody9a : Option Addr) (eBody9n : Nat) (eBody9c : Nat) (eSig10 : Int) {V : Value} {Q : World → Prop} {w : World} (h : entry_Holds.N o1 publicv2 eWriter3 eIndex4 ePrev5 eAtT6 eAtW7 eEpoch8 eBody9a eBody9n eBody9c eSig10 (fun v w' => v = V ∧ Q w') w) : Calls Try.prog 67 #[.pointer o1, .int .u64 publicv2, .agg #[.int .i64 eWriter3, .int .i64 eIndex4, .int .u64 ePrev5, .int .i64 eAtT6, .int .i64 eAtW7, .int .i64 eEpoch8, .slice eBody9a eBody9n eBody9c, .int .u64 eSig10]] w (Ret V Q) := (entry_Holds.go o1 publicv2 eWriter3 eIndex4 ePrev5 eAtT6 eAtW7 eEpoch8 eBody9a eBody9n eBody9c eSig10 h).mono fun e w' ⟨v, he, hv, hq⟩ => ⟨by rw [he, hv], hq⟩

def sumE (S : OS) (e : Ent) : (Int × Int) × OS := if entRight e = true then (((hashOf S (bytesL e)).1, 0), (hashOf S (bytesL e)).2) else ((0, 1), S)
def signE (S : OS) (s : Int) (e : Ent) : (Ent × Int) × OS :=
  if entRight e = true then (if (signOf S s (textL e)).1.2 = true then (({ e with sg := (signOf S s (textL e)).1.1 }, 0), (signOf S s (textL e)).2) else ((Ent.zero, 11), (signOf S s (textL e)).2)) else ((Ent.zero, 1), S)
def holdsE (S : OS) (p : Int) (e : Ent) : Bool := entRight e && verifyOf S p (textL e) e.sg
section
variable {w w' : World} {o o' : Own} {k : Nat} {S : OS} {K : Nat → Prop}
theorem OwnB.tight {N : Nat} {a : Option Addr} {c : Nat} {l : List UInt8} (h : OwnB N w' a c l) (hN : w.heap.size ≤ N) : Row w' (grow w o) a (bytesV l) := Row.fresh h.row fun ad ha => Nat.le_trans hN (h.fr ad ha).1
theorem bClone_spec {a : Option Addr} {c : Nat} {bs : List UInt8} (h : RowAt w a (bytesV bs)) (hl : bs.length ≤ 1000000) :
    Calls Try.prog 59 #[.slice a bs.length c] w (fun e w' => ∃ a' c', e = .returned (.slice a' bs.length c') ∧ OwnB w.heap.size w' a' c' bs ∧ Ext no w w') := by
  refine (bytes_Clone.go _ _ _ (R := fun v w' => ∃ a' c', v = (.slice a' bs.length c') ∧ OwnB w.heap.size w' a' c' bs ∧ Ext no w w') ?_).mono fun e w' ⟨v, he, a, c, hv, hw⟩ => ⟨a, c, by rw [he, hv], hw⟩
  unfold bytes_Clone.N
  refine ⟨fun hn => ?_, fun hn w2 q X hb hq hq' => ?_⟩
  · subst hn
    have : bs = [] := by simpa [bytesV] using h.none_nil
    subst this
    exact ⟨none, 0, rfl, OwnB.nil _ _, Ext.refl _ _⟩
  · have hO : OwnB w.heap.size w2 (some (blk q)) 0 [] := ⟨owns_of_blk hb rfl (Nat.zero_le _), fun ad ha => by cases ha; exact ⟨hq, hq'⟩⟩
    obtain ⟨a', c', w', hr, hO', hx⟩ := hO.append (t := 24) (ty := 24) Try.underlying24 X.size (xc := c) (h.no X) (by simp; omega)
    rw [List.nil_append] at hr hO'
    exact ⟨a', _, c', w', hr, a', c', rfl, hO', X.then hx fun b hb => .inr hb⟩
theorem SumO (h : POrc w o k S) (ok : Tags w o) (hok : S.ok) (hlen : S.used.length < 1000000) {e : Ent} (hf : entRight e = true → e.fit) {ba : Option Addr} {bc : Nat} (hb : RowAt w ba (bytesV e.body)) :
    Calls Try.prog 51 #[.pointer (some (blk k)), entV e ba bc] w (Gs (fun j => j = k) w o (.tuple #[u64V (sumE S e).1.1, .int .i64 (sumE S e).1.2]) fun w' o' => POrc w' o' k (sumE S e).2) := by
  refine (entry_Sum.go (some (blk k)) e.w e.i e.pv e.t e.tw e.ep ba e.body.length bc e.sg (R := fun v w' => ∃ o', v = (.tuple #[u64V (sumE S e).1.1, .int .i64 (sumE S e).1.2]) ∧ Step (fun j => j = k) w o w' o' ∧ POrc w' o' k (sumE S e).2) ?_).mono fun x w' ⟨v, he, o', hv, hw⟩ => ⟨o', by rw [he, hv], hw⟩
  unfold entry_Sum.N
  intro w10 X10
  have s10 := Step.of_no X10 ok
  refine (EBytesK_spec hf (hb.no X10)).mono fun x w15 ⟨a, c, he, hO, X⟩ => ⟨_, _, _, _, he, ?_⟩
  have s15 := Step.of_no X s10.ok
  have s := s10.trans s15
  have h15 := h.step s id
  unfold bytesK sumE at *
  by_cases hr : entRight e = true
  · rw [if_pos hr] at hO ⊢
    rw [if_pos hr]
    refine ⟨fun h => absurd rfl h, fun _ => ⟨fun h => (by cases h), fun _ => ?_⟩⟩
    refine (HashO h15 s.ok hok hlen (OwnB.tight hO (Nat.le_refl _))).mono fun x w20 ⟨o20, he, s20, h20⟩ => ⟨_, he, o20, rfl, s.none.trans s20, h20⟩
  · rw [if_neg hr]
    rw [if_neg hr]
    exact ⟨fun _ => ⟨_, rfl, s.none, h15⟩, fun h => absurd h (by decide)⟩
theorem SignE (h : POrc w o k S) (ok : Tags w o) (hok : S.ok) (hlen : S.used.length < 1000000) (s : Int) {e : Ent} (hf : entRight e = true → e.fit) {ba : Option Addr} {bc : Nat} (hb : Row w o ba (bytesV e.body)) :
    Calls Try.prog 40 #[.pointer (some (blk k)), .int .u64 s, entV e ba bc] w (fun x w' => ∃ o' a' c', x = .returned (.tuple #[entV (signE S s e).1.1 a' c', .int .i64 (signE S s e).1.2]) ∧ Step (fun j => j = k) w o w' o' ∧ POrc w' o' k (signE S s e).2 ∧ Row w' o' a' (bytesV (signE S s e).1.1.body) ∧ (signE S s e).1.1.body.length ≤ c') := by
  refine (entry_Sign.go (some (blk k)) s e.w e.i e.pv e.t e.tw e.ep ba e.body.length bc e.sg (R := fun v w' => ∃ o' a' c', v = (.tuple #[entV (signE S s e).1.1 a' c', .int .i64 (signE S s e).1.2]) ∧ Step (fun j => j = k) w o w' o' ∧ POrc w' o' k (signE S s e).2 ∧ Row w' o' a' (bytesV (signE S s e).1.1.body) ∧ (signE S s e).1.1.body.length ≤ c') ?_).mono fun x w' ⟨v, he, o', a', c', hv, hw⟩ => ⟨o', a', c', by rw [he, hv], hw⟩
  unfold entry_Sign.N
  intro w12 p13 p14 X12 hp
  obtain ⟨hp1, hp2⟩ := hp.two
  obtain ⟨o12, s12, t13, t14⟩ := Step.priv2 X12 hp ok
  have hkl := h.lt
  refine (TextK_spec hf (hb.step s12).1).mono fun x w18 ⟨a, c, he, hO, X⟩ => ⟨_, _, _, _, he, X.kept, ?_⟩
  have s18' := Step.of_no X s12.ok
  have s18 := s12.trans s18'
  have t13 : grow w12 o12 p13 = some p13 := (s18'.own hp1.2).trans t13
  have t14 : grow w12 o12 p14 = some p14 := (s18'.own hp2.2).trans t14
  have h18 := h.step s18 id
  have l18 := X.size
  unfold textK signE at *
  by_cases hr : entRight e = true
  · rw [if_pos hr] at hO ⊢
    rw [if_pos hr]
    refine ⟨fun h => absurd rfl h, fun _ => ?_⟩
    refine (SignO h18 s18.ok hok hlen s (OwnB.tight hO (Nat.le_refl _))).mono fun x w31 ⟨o31, he, s31', h31⟩ => ⟨_, _, he, s31'.keep2 t13 (by omega) t14 (by omega), ?_⟩
    have s31 := s18.none.trans s31'
    have t13 := (s31'.own (by omega)).trans t13
    have t14 := (s31'.own (by omega)).trans t14
    have l31 := s31'.size
    cases hs : (signOf S s (textL e)).1.2
    · simp only [if_false, Bool.false_eq_true]
      refine ⟨fun _ w41 X41 => ?_, fun h => absurd h (by decide)⟩
      obtain ⟨o41, s41⟩ := Step.store2 X41 s31.ok t14 t13
      exact ⟨o41, none, 0, rfl, s31.trans' s41 fun j hj => .inr (by omega), h31.step s41 (by omega), Row.nil _ _ _, Nat.le_refl _⟩
    · simp only [if_true]
      refine ⟨fun h => absurd rfl h, fun _ w32 X32 => ?_⟩
      obtain ⟨o32, s32'⟩ := Step.store1 X32 s31.ok t13
      have s32 := s31.trans' s32' fun j hj => .inr (by omega)
      have hbl := ((entRight_iff _).1 hr).2.2.2.2.2.2.2.2.2.1
      have t13 := (s32'.own (by omega)).trans t13
      have t14 := (s32'.own (by omega)).trans t14
      have l32 := s32'.size
      refine (bClone_spec (hb.step s32).1 (by omega)).mono fun x w44 ⟨ca, cc, he, hO, X44⟩ => ⟨_, _, _, he, X44.kept, fun w53 X53 => ?_⟩
      have s44' := Step.of_no X44 s32.ok
      have s44 := s32.trans s44'.none
      have t13 := (s44'.own (by omega)).trans t13
      have t14 := (s44'.own (by omega)).trans t14
      obtain ⟨o53, s53⟩ := Step.store2 X53 s44.ok t14 t13
      exact ⟨o53, ca, cc, rfl, s44.trans' s53 fun j hj => .inr (by omega), ((h31.step s32' (by omega)).step s44' id).step s53 (by omega), (OwnB.tight hO (Nat.le_refl _)).step s53, hO.le⟩
  · rw [if_neg hr]
    rw [if_neg hr]
    refine ⟨fun _ w27 X27 => ?_, fun h => absurd h (by decide)⟩
    obtain ⟨o27, s27⟩ := Step.store1 X27 s18.ok t14
    exact ⟨o27, none, 0, rfl, s18.none.trans' s27 fun j hj => .inr (by omega), h18.step s27 (by omega), Row.nil _ _ _, Nat.le_refl _⟩
theorem HoldsO (h : POrc w o k S) (ok : Tags w o) (p : Int) {e : Ent} (hf : entRight e = true → e.fit) {ba : Option Addr} {bc : Nat} (hb : RowAt w ba (bytesV e.body)) :
    Calls Try.prog 67 #[.pointer (some (blk k)), .int .u64 p, entV e ba bc] w (Ret (.bool (holdsE S p e)) fun w' => Ext no w w') := by
  refine entry_Holds.run (some (blk k)) p e.w e.i e.pv e.t e.tw e.ep ba e.body.length bc e.sg ?_
  unfold entry_Holds.N
  intro w11 p12 X11 hp
  refine (TextK_spec hf (hb.no X11)).mono fun x w16 ⟨a, c, he, hO, X⟩ => ⟨_, _, _, _, he, X.kept, ?_⟩
  have s := (Step.of_no X11 ok).trans (Step.of_no X (Step.of_no X11 ok).ok)
  unfold textK holdsE at *
  by_cases hr : entRight e = true
  · rw [if_pos hr] at hO ⊢
    rw [hr, Bool.true_and]
    refine ⟨fun _ => ?_, fun h => absurd rfl h⟩
    exact (VerifyO (h.step s id) s.ok p e.sg (OwnB.tight hO (Nat.le_refl _))).mono fun x w20 ⟨he, X20⟩ => ⟨_, he, rfl, (X11.trans X).trans X20⟩
  · rw [if_neg hr]
    rw [show entRight e = false by simpa using hr, Bool.false_and]
    exact ⟨fun h => absurd h (by decide), fun _ => ⟨rfl, X11.trans X⟩⟩
end
end Go.Proofs.Ytnppbflccbpoeaa

/- A function's own blocks, each its own owner. -/
set_option linter.unusedSimpArgs false
set_option linter.unusedVariables false
set_option linter.unusedSectionVars false
namespace Go.Mx
section
variable {K K1 : Nat → Prop} {w w1 w' : World} {o o1 o' : Own} {p q j : Nat}
def Mine (L : List Nat) (w : World) (o : Own) : Prop := ∀ p ∈ L, p < w.heap.size ∧ o p = some p
theorem Mine.nil : Mine [] w o := fun p hp => by simp at hp
theorem Mine.step {L : List Nat} (h : Mine L w o) (s : Step K w o w' o') : Mine L w' o' := fun p hp => ⟨Nat.lt_of_lt_of_le (h p hp).1 s.size, by rw [s.own (h p hp).1]; exact (h p hp).2⟩
theorem Mine.keep {L : List Nat} (h : Mine L w o) (s : Step K w o w' o') (hk : ∀ p ∈ L, ¬ K p) : Keep L w w' := s.keep fun p hp _ k hk' => by
  rw [(h p hp).2] at hk'; cases hk'; exact hk p hp
theorem Mine.sub {L M : List Nat} (h : Mine L w o) (k : ∀ p ∈ M, p ∈ L) : Mine M w o := fun p hp => h p (k p hp)
theorem Mine.app {L M : List Nat} (h : Mine L w o) (k : Mine M w o) : Mine (L ++ M) w o := fun p hp => (List.mem_append.1 hp).elim (h p) (k p)
theorem Mine.lt {L : List Nat} (h : Mine L w o) {p : Nat} (hp : p ∈ L) : p < w.heap.size := (h p hp).1
def tags (w : World) (o : Own) (L : List Nat) : Own := fun b => if b < w.heap.size then o b else if b ∈ L then some b else none
theorem Step.priv {L : List Nat} (h : Ext no w w') (hp : Priv w w' L) (ok : Tags w o) : Step no w o w' (tags w o L) ∧ Mine L w' (tags w o L) := by
  refine ⟨⟨h.mono fun _ h _ => h.elim, fun b hb => if_pos hb, ok, fun b j hb hj => ?_⟩, fun p hq => ⟨(hp p hq).2, ?_⟩⟩
  · unfold tags at hj
    split at hj
    · rename_i hl; exact Nat.lt_of_lt_of_le (ok b j hl hj) h.size
    · split at hj
      · cases hj; exact hb
      · cases hj
  · unfold tags
    rw [if_neg (by have := (hp p hq).1; omega), if_pos hq]
/-- stores into blocks of one's own. -/
theorem Step.stores {L : List Nat} {m : Nat → Prop} (h : Ext m w w') (ok : Tags w o) (hL : Mine L w o) (hm : ∀ b, m b → b ∈ L) : Step (fun j => j ∈ L) w o w' (grow w o) :=
  Step.of_exts h ok fun b hb _ => ⟨b, (hL b (hm b hb)).2, hm b hb⟩
end
end Go.Mx

/- Entries in a row, and where their bytes lie. -/
set_option linter.unusedVariables false
set_option linter.unusedSimpArgs false
set_option maxRecDepth 20000
namespace Go.Proofs.Ytnppbflccbpoeaa
open Go Go.Mx Go.Proofs
/-- an entry, and where its bytes lie. -/
structure PE where
  e : Ent
  a : Option Addr
  c : Nat
def PE.C (x : PE) : List Value := entC x.e x.a x.c
def PE.ok (w : World) (o : Own) (x : PE) : Prop := Row w o x.a (bytesV x.e.body) ∧ x.e.body.length ≤ x.c ∧ x.e.fit
def PE.Cs (l : List PE) : List Value := l.flatMap PE.C
theorem PE.len (x : PE) : x.C.length = 8 := rfl
theorem PE.Cs_get : ∀ {l : List PE} {i : Nat} {x : PE}, l[i]? = some x → ∀ j, j < 8 → (PE.Cs l)[i * 8 + j]? = x.C[j]?
  | [], i, x, hi, j, hj => by simp at hi
  | a :: r, 0, x, hi, j, hj => by
    simp only [List.getElem?_cons_zero, Option.some.injEq] at hi
    subst hi
    simp only [PE.Cs, List.flatMap_cons, Nat.zero_mul, Nat.zero_add]
    rw [List.getElem?_append_left (by rw [PE.len]; omega)]
  | a :: r, i + 1, x, hi, j, hj => by
    simp only [List.getElem?_cons_succ] at hi
    have := PE.Cs_get hi j hj
    simp only [PE.Cs, List.flatMap_cons] at this ⊢
    rw [List.getElem?_append_right (by rw [PE.len]; omega), show (i + 1) * 8 + j - a.C.length = i * 8 + j by rw [PE.len]; omega]
    exact this
theorem PE.one (x : PE) : ∀ u ∈ x.C, u.oneCell' = true := fun u hu => by
  simp only [PE.C, entC, List.mem_cons, List.not_mem_nil, or_false] at hu
  rcases hu with rfl | rfl | rfl | rfl | rfl | rfl | rfl | rfl <;> rfl
theorem PE.ok.step {w w' : World} {o o' : Own} {K : Nat → Prop} {x : PE} (h : x.ok w o) (s : Step K w o w' o') : x.ok w' o' := ⟨h.1.step s, h.2⟩
theorem PE.loads {w : World} {la : Option Addr} {ad : Addr} {l : List PE} (hr : RowAt w la (PE.Cs l)) (ha : la = some ad) {i : Nat} {x : PE} (hi : l[i]? = some x) : cellsAt w (ad.add (i * 8)) x.C 0 := by
  subst ha
  have h : ∀ j v, x.C[j]? = some v → w.cell? ((ad.add (i * 8)).add j) = some v := fun j v hv => by
    have hj : j < 8 := by have := (List.getElem?_eq_some_iff.1 hv).1; exact this
    rw [add_add]
    exact hr.at_ ((PE.Cs_get hi j hj).trans hv)
  exact ⟨h 0 _ rfl, h 1 _ rfl, h 2 _ rfl, h 3 _ rfl, h 4 _ rfl, h 5 _ rfl, h 6 _ rfl, h 7 _ rfl, trivial⟩
theorem PE.cell {w : World} {la : Option Addr} {ad : Addr} {l : List PE} (hr : RowAt w la (PE.Cs l)) (ha : la = some ad) {i : Nat} {x : PE} (hi : l[i]? = some x) {j : Nat} {v : Value} (hv : x.C[j]? = some v) : w.cell? ((ad.add (i * 8)).add j) = some v := by
  subst ha
  have hj : j < 8 := by have := (List.getElem?_eq_some_iff.1 hv).1; exact this
  rw [add_add]
  exact hr.at_ ((PE.Cs_get hi j hj).trans hv)
end Go.Proofs.Ytnppbflccbpoeaa

/- Chain: predicates. -/
set_option linter.unusedVariables false
set_option linter.unusedSimpArgs false
set_option maxRecDepth 20000
set_option maxHeartbeats 2000000
namespace Go.Proofs.Ytnppbflccbpoeaa
open Go Go.Mx Go.Proofs
open W (OwnB GivesW numR countR doneR zig unzig intR)
/-- chain.New -/
def chain_New.M (o1 : Option Addr) (wv2 : Int) (publicv3 : Int) (R : Value → World → Prop) (w : World) : Prop :=
  bif decide (wv2 < 0) then (
  R (.tuple #[.pointer none, .int .i64 1]) w) else (
  bif decide (wv2 ≥ 8) then (
  R (.tuple #[.pointer none, .int .i64 1]) w) else (
  bif Option.isNone o1 then (
  R (.tuple #[.pointer none, .int .i64 23]) w) else (
  thenW (w.alloc (.cells #[.pointer o1, .int .i64 wv2, .int .u64 publicv3, .slice none 0 0, .int .u64 0] 90)) fun ww4 =>
  R (.tuple #[.pointer (some (blk w.heap.size)), .int .i64 0]) ww4)))

theorem chain_New.eq (o1 : Option Addr) (wv2 : Int) (publicv3 : Int) (R : Value → World → Prop) (w : World) : mfunc Try.prog [] 13 [.pointer o1, .int .i64 wv2, .int .u64 publicv3] R w = chain_New.M o1 wv2 publicv3 R w := by kernel_rfl
theorem chain_New.ok (o1 : Option Addr) (wv2 : Int) (publicv3 : Int) {R : Value → World → Prop} {w : World} (h : chain_New.M o1 wv2 publicv3 R w) : Calls Try.prog 13 #[.pointer o1, .int .i64 wv2, .int .u64 publicv3] w fun e w' => ∃ v, e = .returned v ∧ R v w' :=
  mfunc_ok follows (H := []) (args := [.pointer o1, .int .i64 wv2, .int .u64 publicv3]) (by rw [chain_New.eq]; exact h)

def chain_New.N (o1 : Option Addr) (wv2 : Int) (publicv3 : Int) (R : Value → World → Prop) (w : World) : Prop :=
  (wv2 < 0 →
    R (.tuple #[.pointer none, .int .i64 1]) w) ∧
  ((0 : Int) ≤ wv2 →
    (wv2 ≥ 8 →
      R (.tuple #[.pointer none, .int .i64 1]) w) ∧
    (wv2 < 8 →
      (o1 = none →
        R (.tuple #[.pointer none, .int .i64 23]) w) ∧
      (o1 ≠ none →
        ∀ (ww7 : World) (q8 : Nat), Ext no w ww7 → Blk ww7 q8 90 [.pointer o1, .int .i64 wv2, .int .u64 publicv3, .slice none 0 0, .int .u64 0] → w.heap.size ≤ q8 → q8 < ww7.heap.size →
        R (.tuple #[.pointer (some (blk q8)), .int .i64 0]) ww7)))

theorem chain_New.up (o1 : Option Addr) (wv2 : Int) (publicv3 : Int) {R : Value → World → Prop} {w : World} (h : chain_New.N o1 wv2 publicv3 R w) : chain_New.M o1 wv2 publicv3 R w := by
  unfold chain_New.M
  unfold chain_New.N at h
  refine bif_of (fun c4 => ?_) (fun c4 => ?_)
  · have h := h.1 (of_decide_eq_true c4)
    exact h
  · have h := h.2 (Int.not_lt.1 (of_decide_eq_false c4))
    refine bif_of (fun c5 => ?_) (fun c5 => ?_)
    · have h := h.1 (of_decide_eq_true c5)
      exact h
    · have h := h.2 (Int.not_le.1 (of_decide_eq_false c5))
      refine bif_of (fun c6 => ?_) (fun c6 => ?_)
      · have h := h.1 (isNone_t c6)
        exact h
      · have h := h.2 (isNone_f c6)
        refine thenW_in fun ww7 e7 => ?_
        have h := h ww7 w.heap.size ((Ext.refl no w).x_alloc e7) (Blk.of_new e7) ((Ext.refl no w)).size (size_lt_alloc e7)
        exact h

theorem chain_New.go (o1 : Option Addr) (wv2 : Int) (publicv3 : Int) {R : Value → World → Prop} {w : World} (h : chain_New.N o1 wv2 publicv3 R w) : Calls Try.prog 13 #[.pointer o1, .int .i64 wv2, .int .u64 publicv3] w fun e w' => ∃ v, e = .returned v ∧ R v w' := chain_New.ok o1 wv2 publicv3 (chain_New.up o1 wv2 publicv3 h)
theorem chain_New.run (o1 : Option Addr) (wv2 : Int) (publicv3 : Int) {V : Value} {Q : World → Prop} {w : World} (h : chain_New.N o1 wv2 publicv3 (fun v w' => v = V ∧ Q w') w) : Calls Try.prog 13 #[.pointer o1, .int .i64 wv2, .int .u64 publicv3] w (Ret V Q) := (chain_New.go o1 wv2 publicv3 h).mono fun e w' ⟨v, he, hv, hq⟩ => ⟨by rw [he, hv], hq⟩

/-- chain.own -/
def chain_own.M (eWriter1 : Int) (eIndex2 : Int) (ePrev3 : Int) (eAtT4 : Int) (eAtW5 : Int) (eEpoch6 : Int) (eBody7a : Option Addr) (eBody7n : Nat) (eBody7c : Nat) (eSig8 : Int) (R : Value → World → Prop) (w : World) : Prop :=
  thenW (w.alloc (.cells #[.int .i64 eWriter1, .int .i64 eIndex2, .int .u64 ePrev3, .int .i64 eAtT4, .int .i64 eAtW5, .int .i64 eEpoch6, .slice eBody7a eBody7n eBody7c, .int .u64 eSig8] 39)) fun ww9 =>
  thenW (ww9.alloc (.cells #[.int .i64 0, .int .i64 0, .int .u64 0, .int .i64 0, .int .i64 0, .int .i64 0, .slice none 0 0, .int .u64 0] 39)) fun ww10 =>
  ∃ (Body11a : Option Addr) (Body11n : Nat) (Body11c : Nat), ww10.cell? ((blk w.heap.size).add 6) = some (.slice Body11a Body11n Body11c) ∧
  Calls Try.prog 60 #[.slice Body11a Body11n Body11c] ww10 fun ee13 ww14 => ∃ (clone12a : Option Addr) (clone12n : Nat) (clone12c : Nat), ee13 = .returned (.slice clone12a clone12n clone12c) ∧
  canStore ww14 (((blk w.heap.size).add 6).add 0) ∧
  thenW (ww14.setCell (((blk w.heap.size).add 6).add 0) (.slice clone12a clone12n clone12c)) fun ww15 =>
  ∃ (xWriter16 : Int) (xIndex17 : Int) (xPrev18 : Int) (xAtT19 : Int) (xAtW20 : Int) (xEpoch21 : Int) (xBody22a : Option Addr) (xBody22n : Nat) (xBody22c : Nat) (xSig23 : Int), cellsAt ww15 (blk w.heap.size) [.int .i64 xWriter16, .int .i64 xIndex17, .int .u64 xPrev18, .int .i64 xAtT19, .int .i64 xAtW20, .int .i64 xEpoch21, .slice xBody22a xBody22n xBody22c, .int .u64 xSig23] 0 ∧
  canStore ww15 ((blk ww9.heap.size).add 0) ∧
  thenW (ww15.setCell ((blk ww9.heap.size).add 0) (.int .i64 xWriter16)) fun ww24 =>
  canStore ww24 ((blk ww9.heap.size).add 1) ∧
  thenW (ww24.setCell ((blk ww9.heap.size).add 1) (.int .i64 xIndex17)) fun ww25 =>
  canStore ww25 ((blk ww9.heap.size).add 2) ∧
  thenW (ww25.setCell ((blk ww9.heap.size).add 2) (.int .u64 xPrev18)) fun ww26 =>
  canStore ww26 ((blk ww9.heap.size).add 3) ∧
  thenW (ww26.setCell ((blk ww9.heap.size).add 3) (.int .i64 xAtT19)) fun ww27 =>
  canStore ww27 ((blk ww9.heap.size).add 4) ∧
  thenW (ww27.setCell ((blk ww9.heap.size).add 4) (.int .i64 xAtW20)) fun ww28 =>
  canStore ww28 ((blk ww9.heap.size).add 5) ∧
  thenW (ww28.setCell ((blk ww9.heap.size).add 5) (.int .i64 xEpoch21)) fun ww29 =>
  canStore ww29 ((blk ww9.heap.size).add 6) ∧
  thenW (ww29.setCell ((blk ww9.heap.size).add 6) (.slice xBody22a xBody22n xBody22c)) fun ww30 =>
  canStore ww30 ((blk ww9.heap.size).add 7) ∧
  thenW (ww30.setCell ((blk ww9.heap.size).add 7) (.int .u64 xSig23)) fun ww31 =>
  ∃ (resWriter32 : Int) (resIndex33 : Int) (resPrev34 : Int) (resAtT35 : Int) (resAtW36 : Int) (resEpoch37 : Int) (resBody38a : Option Addr) (resBody38n : Nat) (resBody38c : Nat) (resSig39 : Int), cellsAt ww31 (blk ww9.heap.size) [.int .i64 resWriter32, .int .i64 resIndex33, .int .u64 resPrev34, .int .i64 resAtT35, .int .i64 resAtW36, .int .i64 resEpoch37, .slice resBody38a resBody38n resBody38c, .int .u64 resSig39] 0 ∧
  R (.agg #[.int .i64 resWriter32, .int .i64 resIndex33, .int .u64 resPrev34, .int .i64 resAtT35, .int .i64 resAtW36, .int .i64 resEpoch37, .slice resBody38a resBody38n resBody38c, .int .u64 resSig39]) ww31

theorem chain_own.eq (eWriter1 : Int) (eIndex2 : Int) (ePrev3 : Int) (eAtT4 : Int) (eAtW5 : Int) (eEpoch6 : Int) (eBody7a : Option Addr) (eBody7n : Nat) (eBody7c : Nat) (eSig8 : Int) (R : Value → World → Prop) (w : World) : mfunc Try.prog [] 42 [.agg #[.int .i64 eWriter1, .int .i64 eIndex2, .int .u64 ePrev3, .int .i64 eAtT4, .int .i64 eAtW5, .int .i64 eEpoch6, .slice eBody7a eBody7n eBody7c, .int .u64 eSig8]] R w = chain_own.M eWriter1 eIndex2 ePrev3 eAtT4 eAtW5 eEpoch6 eBody7a eBody7n eBody7c eSig8 R w := by kernel_rfl
theorem chain_own.ok (eWriter1 : Int) (eIndex2 : Int) (ePrev3 : Int) (eAtT4 : Int) (eAtW5 : Int) (eEpoch6 : Int) (eBody7a : Option Addr) (eBody7n : Nat) (eBody7c : Nat) (eSig8 : Int) {R : Value → World → Prop} {w : World} (h : chain_own.M eWriter1 eIndex2 ePrev3 eAtT4 eAtW5 eEpoch6 eBody7a eBody7n eBody7c eSig8 R w) : Calls Try.prog 42 #[.agg #[.int .i64 eWriter1, .int .i64 eIndex2, .int .u64 ePrev3, .int .i64 eAtT4, .int .i64 eAtW5, .int .i64 eEpoch6, .slice eBody7a eBody7n eBody7c, .int .u64 eSig8]] w fun e w' => ∃ v, e = .returned v ∧ R v w' :=
  mfunc_ok follows (H := []) (args := [.agg #[.int .i64 eWriter1, .int .i64 eIndex2, .int .u64 ePrev3, .int .i64 eAtT4, .int .i64 eAtW5, .int .i64 eEpoch6, .slice eBody7a eBody7n eBody7c, .int .u64 eSig8]]) (by rw [chain_own.eq]; exact h)

def chain_own.N (eWriter1 : Int) (eIndex2 : Int) (ePrev3 : Int) (eAtT4 : Int) (eAtW5 : Int) (eEpoch6 : Int) (eBody7a : Option Addr) (eBody7n : Nat) (eBody7c : Nat) (eSig8 : Int) (R : Value → World → Prop) (w : World) : Prop :=
  ∀ (ww10 : World) (p11 : Nat) (p12 : Nat), Ext no w ww10 → Priv w ww10 [p11, p12] →
  Calls Try.prog 60 #[.slice eBody7a eBody7n eBody7c] ww10 fun ee14 ww15 => ∃ (clone13a : Option Addr) (clone13n : Nat) (clone13c : Nat), ee14 = .returned (.slice clone13a clone13n clone13c) ∧
  Keep [p11, p12] ww10 ww15 ∧
  ∀ (ww24 : World), Ext (fun b => b = p12 ∨ b = p11) ww15 ww24 →
  R (.agg #[.int .i64 eWriter1, .int .i64 eIndex2, .int .u64 ePrev3, .int .i64 eAtT4, .int .i64 eAtW5, .int .i64 eEpoch6, .slice clone13a clone13n clone13c, .int .u64 eSig8]) ww24

theorem chain_own.up (eWriter1 : Int) (eIndex2 : Int) (ePrev3 : Int) (eAtT4 : Int) (eAtW5 : Int) (eEpoch6 : Int) (eBody7a : Option Addr) (eBody7n : Nat) (eBody7c : Nat) (eSig8 : Int) {R : Value → World → Prop} {w : World} (h : chain_own.N eWriter1 eIndex2 ePrev3 eAtT4 eAtW5 eEpoch6 eBody7a eBody7n eBody7c eSig8 R w) : chain_own.M eWriter1 eIndex2 ePrev3 eAtT4 eAtW5 eEpoch6 eBody7a eBody7n eBody7c eSig8 R w := by
  unfold chain_own.M
  unfold chain_own.N at h
  refine thenW_in fun ww9 e9 => ?_
  have hb1 := Blk.of_new e9
  have hg1 := ((Ext.refl no w)).size
  have hx9 := (Ext.refl no w).x_alloc e9
  refine thenW_in fun ww10 e10 => ?_
  have hb2 := Blk.of_new e10
  have hg2 := (hx9).size
  have hb1_2 := Nat.ne_of_lt hb1.lt
  have hb1 := hb1.x_alloc e10
  have hx10 := hx9.x_alloc e10
  refine ⟨eBody7a, eBody7n, eBody7c, hb1.celli 6 rfl rfl, ?_⟩
  have h := h ww10 (w.heap.size) (ww9.heap.size) hx10 (Priv.cons hg1 hb1.lt (Priv.cons hg2 hb2.lt Priv.nil))
  refine h.mono fun ee14 ww15 h => ?_
  obtain ⟨clone13a, clone13n, clone13c, he, hk, h⟩ := h
  refine ⟨clone13a, clone13n, clone13c, he, ?_⟩
  have hb1 := hk.blk hb1 (by simp)
  have hb2 := hk.blk hb2 (by simp)
  have hm16 : Ext (fun b => b = w.heap.size) ww15 ww15 := ((Ext.refl no ww15)).none
  refine ⟨hb1.cani 6 rfl rfl, thenW_in fun ww16 e16 => ?_⟩
  have hx16 := hm16.x_set (q := w.heap.size) (i := 6) rfl (.inl rfl) e16
  have hb1 : Blk ww16 w.heap.size 39 [.int .i64 eWriter1, .int .i64 eIndex2, .int .u64 ePrev3, .int .i64 eAtT4, .int .i64 eAtW5, .int .i64 eEpoch6, .slice clone13a clone13n clone13c, .int .u64 eSig8] := hb1.seti 6 rfl e16
  have hb2 := hb2.oth (q := w.heap.size) (i := 6) rfl (Ne.symm hb1_2) e16
  refine ⟨eWriter1, eIndex2, ePrev3, eAtT4, eAtW5, eEpoch6, clone13a, clone13n, clone13c, eSig8, ⟨hb1.celli 0 rfl rfl, hb1.celli 1 rfl rfl, hb1.celli 2 rfl rfl, hb1.celli 3 rfl rfl, hb1.celli 4 rfl rfl, hb1.celli 5 rfl rfl, hb1.celli 6 rfl rfl, hb1.celli 7 rfl rfl, trivial⟩, ?_⟩
  have hm24 : Ext (fun b => b = ww9.heap.size ∨ b = w.heap.size) ww15 ww16 := (hx16).mono fun _ h _ => .inr h
  refine ⟨hb2.cani 0 rfl rfl, thenW_in fun ww17 e17 => ?_⟩
  have hx17 := hm24.x_set (q := ww9.heap.size) (i := 0) rfl (.inl (.inl rfl)) e17
  have hb2 : Blk ww17 ww9.heap.size 39 [.int .i64 eWriter1, .int .i64 0, .int .u64 0, .int .i64 0, .int .i64 0, .int .i64 0, .slice none 0 0, .int .u64 0] := hb2.seti 0 rfl e17
  refine ⟨hb2.cani 1 rfl rfl, thenW_in fun ww18 e18 => ?_⟩
  have hx18 := hx17.x_set (q := ww9.heap.size) (i := 1) rfl (.inl (.inl rfl)) e18
  have hb2 : Blk ww18 ww9.heap.size 39 [.int .i64 eWriter1, .int .i64 eIndex2, .int .u64 0, .int .i64 0, .int .i64 0, .int .i64 0, .slice none 0 0, .int .u64 0] := hb2.seti 1 rfl e18
  refine ⟨hb2.cani 2 rfl rfl, thenW_in fun ww19 e19 => ?_⟩
  have hx19 := hx18.x_set (q := ww9.heap.size) (i := 2) rfl (.inl (.inl rfl)) e19
  have hb2 : Blk ww19 ww9.heap.size 39 [.int .i64 eWriter1, .int .i64 eIndex2, .int .u64 ePrev3, .int .i64 0, .int .i64 0, .int .i64 0, .slice none 0 0, .int .u64 0] := hb2.seti 2 rfl e19
  refine ⟨hb2.cani 3 rfl rfl, thenW_in fun ww20 e20 => ?_⟩
  have hx20 := hx19.x_set (q := ww9.heap.size) (i := 3) rfl (.inl (.inl rfl)) e20
  have hb2 : Blk ww20 ww9.heap.size 39 [.int .i64 eWriter1, .int .i64 eIndex2, .int .u64 ePrev3, .int .i64 eAtT4, .int .i64 0, .int .i64 0, .slice none 0 0, .int .u64 0] := hb2.seti 3 rfl e20
  refine ⟨hb2.cani 4 rfl rfl, thenW_in fun ww21 e21 => ?_⟩
  have hx21 := hx20.x_set (q := ww9.heap.size) (i := 4) rfl (.inl (.inl rfl)) e21
  have hb2 : Blk ww21 ww9.heap.size 39 [.int .i64 eWriter1, .int .i64 eIndex2, .int .u64 ePrev3, .int .i64 eAtT4, .int .i64 eAtW5, .int .i64 0, .slice none 0 0, .int .u64 0] := hb2.seti 4 rfl e21
  refine ⟨hb2.cani 5 rfl rfl, thenW_in fun ww22 e22 => ?_⟩
  have hx22 := hx21.x_set (q := ww9.heap.size) (i := 5) rfl (.inl (.inl rfl)) e22
  have hb2 : Blk ww22 ww9.heap.size 39 [.int .i64 eWriter1, .int .i64 eIndex2, .int .u64 ePrev3, .int .i64 eAtT4, .int .i64 eAtW5, .int .i64 eEpoch6, .slice none 0 0, .int .u64 0] := hb2.seti 5 rfl e22
  refine ⟨hb2.cani 6 rfl rfl, thenW_in fun ww23 e23 => ?_⟩
  have hx23 := hx22.x_set (q := ww9.heap.size) (i := 6) rfl (.inl (.inl rfl)) e23
  have hb2 : Blk ww23 ww9.heap.size 39 [.int .i64 eWriter1, .int .i64 eIndex2, .int .u64 ePrev3, .int .i64 eAtT4, .int .i64 eAtW5, .int .i64 eEpoch6, .slice clone13a clone13n clone13c, .int .u64 0] := hb2.seti 6 rfl e23
  refine ⟨hb2.cani 7 rfl rfl, thenW_in fun ww24 e24 => ?_⟩
  have hx24 := hx23.x_set (q := ww9.heap.size) (i := 7) rfl (.inl (.inl rfl)) e24
  have hb2 : Blk ww24 ww9.heap.size 39 [.int .i64 eWriter1, .int .i64 eIndex2, .int .u64 ePrev3, .int .i64 eAtT4, .int .i64 eAtW5, .int .i64 eEpoch6, .slice clone13a clone13n clone13c, .int .u64 eSig8] := hb2.seti 7 rfl e24
  refine ⟨eWriter1, eIndex2, ePrev3, eAtT4, eAtW5, eEpoch6, clone13a, clone13n, clone13c, eSig8, ⟨hb2.celli 0 rfl rfl, hb2.celli 1 rfl rfl, hb2.celli 2 rfl rfl, hb2.celli 3 rfl rfl, hb2.celli 4 rfl rfl, hb2.celli 5 rfl rfl, hb2.celli 6 rfl rfl, hb2.celli 7 rfl rfl, trivial⟩, ?_⟩
  have h := h ww24 hx24
  exact h

theorem chain_own.go (eWriter1 : Int) (eIndex2 : Int) (ePrev3 : Int) (eAtT4 : Int) (eAtW5 : Int) (eEpoch6 : Int) (eBody7a : Option Addr) (eBody7n : Nat) (eBody7c : Nat) (eSig8 : Int) {R : Value → World → Prop} {w : World} (h : chain_own.N eWriter1 eIndex2 ePrev3 eAtT4 eAtW5 eEpoch6 eBody7a eBody7n eBody7c eSig8 R w) : Calls Try.prog 42 #[.agg #[.int .i64 eWriter1, .int .i64 eIndex2, .int .u64 ePrev3, .int .i64 eAtT4, .int .i64 eAtW5, .int .i64 eEpoch6, .slice eBody7a eBody7n eBody7c, .int .u64 eSig8]] w fun e w' => ∃ v, e = .returned v ∧ R v w' := chain_own.ok eWriter1 eIndex2 ePrev3 eAtT4 eAtW5 eEpoch6 eBody7a eBody7n eBody7c eSig8 (chain_own.up eWriter1 eIndex2 ePrev3 eAtT4 eAtW5 eEpoch6 eBody7a eBody7n eBody7c eSig8 h)
theorem chain_own.run (eWriter1 : Int) (eIndex2 : Int) (ePrev3 : Int) (eAtT4 : Int) (eAtW5 : Int) (eEpoch6 : Int) (eBody7a : Option Addr) (eBody7n : Nat) (eBody7c : Nat) (eSig8 : Int) {V : Value} {Q : World → Prop} {w : World} (h : chain_own.N eWriter1 eIndex2 ePrev3 eAtT4 eAtW5 eEpoch6 eBody7a eBody7n eBody7c eSig8 (fun v w' => v = V ∧ Q w') w) : Calls Try.prog 42 #[.agg #[.int .i64 eWriter1, .int .i64 eIndex2, .int .u64 ePrev3, .int .i64 eAtT4, .int .i64 eAtW5, .int .i64 eEpoch6, .slice eBody7a eBody7n eBody7c, .int .u64 eSig8]] w (Ret V Q) := (chain_own.go eWriter1 eIndex2 ePrev3 eAtT4 eAtW5 eEpoch6 eBody7a eBody7n eBody7c eSig8 h).mono fun e w' ⟨v, he, hv, hq⟩ => ⟨by rw [he, hv], hq⟩

/-- (*chain.Log).Len -/
def chain_Log_Len.M (l1 : Option Addr) (R : Value → World → Prop) (w : World) : Prop :=
  bif Option.isNone l1 then (
  R (.int .i64 0) w) else (
  l1.elim False fun a2 =>
  ∃ (l3a : Option Addr) (l3n : Nat) (l3c : Nat), w.cell? (a2.add 3) = some (.slice l3a l3n l3c) ∧
  R (.int .i64 (l3n : Int)) w)

theorem chain_Log_Len.eq (l1 : Option Addr) (R : Value → World → Prop) (w : World) : mfunc Try.prog [] 28 [.pointer l1] R w = chain_Log_Len.M l1 R w := by kernel_rfl
theorem chain_Log_Len.ok (l1 : Option Addr) {R : Value → World → Prop} {w : World} (h : chain_Log_Len.M l1 R w) : Calls Try.prog 28 #[.pointer l1] w fun e w' => ∃ v, e = .returned v ∧ R v w' :=
  mfunc_ok follows (H := []) (args := [.pointer l1]) (by rw [chain_Log_Len.eq]; exact h)

def chain_Log_Len.N (l1 : Option Addr) (R : Value → World → Prop) (w : World) : Prop :=
  (l1 = none →
    R (.int .i64 0) w) ∧
  (l1 ≠ none →
    ∃ a3 : Addr, l1 = some a3 ∧
    ∃ (l5a : Option Addr) (l5n : Nat) (l5c : Nat), w.cell? (a3.add 3) = some (.slice l5a l5n l5c) ∧
    R (.int .i64 (l5n : Int)) w)

theorem chain_Log_Len.up (l1 : Option Addr) {R : Value → World → Prop} {w : World} (h : chain_Log_Len.N l1 R w) : chain_Log_Len.M l1 R w := by
  unfold chain_Log_Len.M
  unfold chain_Log_Len.N at h
  refine bif_of (fun c2 => ?_) (fun c2 => ?_)
  · have h := h.1 (isNone_t c2)
    exact h
  · have h := h.2 (isNone_f c2)
    obtain ⟨a3, ha3, h⟩ := h
    refine elim_some ha3 ?_
    obtain ⟨l5a, l5n, l5c, hc4, h⟩ := h
    refine ⟨l5a, l5n, l5c, hc4, ?_⟩
    exact h

theorem chain_Log_Len.go (l1 : Option Addr) {R : Value → World → Prop} {w : World} (h : chain_Log_Len.N l1 R w) : Calls Try.prog 28 #[.pointer l1] w fun e w' => ∃ v, e = .returned v ∧ R v w' := chain_Log_Len.ok l1 (chain_Log_Len.up l1 h)
theorem chain_Log_Len.run (l1 : Option Addr) {V : Value} {Q : World → Prop} {w : World} (h : chain_Log_Len.N l1 (fun v w' => v = V ∧ Q w') w) : Calls Try.prog 28 #[.pointer l1] w (Ret V Q) := (chain_Log_Len.go l1 h).mono fun e w' ⟨v, he, hv, hq⟩ => ⟨by rw [he, hv], hq⟩

/-- (*chain.Log).Head -/
def chain_Log_Head.M (l1 : Option Addr) (R : Value → World → Prop) (w : World) : Prop :=
  thenW (w.alloc (.cells #[.int .i64 0, .int .i64 0, .int .u64 0] 46)) fun ww2 =>
  bif Option.isNone l1 then (
  canStore ww2 ((blk w.heap.size).add 0) ∧
  thenW (ww2.setCell ((blk w.heap.size).add 0) (.int .i64 0)) fun ww3 =>
  canStore ww3 ((blk w.heap.size).add 1) ∧
  thenW (ww3.setCell ((blk w.heap.size).add 1) (.int .i64 0)) fun ww4 =>
  canStore ww4 ((blk w.heap.size).add 2) ∧
  thenW (ww4.setCell ((blk w.heap.size).add 2) (.int .u64 0)) fun ww5 =>
  ∃ (resWriter6 : Int) (resLen7 : Int) (resSum8 : Int), cellsAt ww5 (blk w.heap.size) [.int .i64 resWriter6, .int .i64 resLen7, .int .u64 resSum8] 0 ∧
  R (.agg #[.int .i64 resWriter6, .int .i64 resLen7, .int .u64 resSum8]) ww5) else (
  thenW (ww2.drew) fun ww9 =>
  l1.elim False fun a10 =>
  ∃ (wv11 : Int), ww9.cell? (a10.add 1) = some (.int .i64 wv11) ∧
  l1.elim False fun a12 =>
  ∃ (l13a : Option Addr) (l13n : Nat) (l13c : Nat), ww9.cell? (a12.add 3) = some (.slice l13a l13n l13c) ∧
  l1.elim False fun a14 =>
  ∃ (sum15 : Int), ww9.cell? (a14.add 4) = some (.int .u64 sum15) ∧
  canStore ww9 ((blk w.heap.size).add 0) ∧
  thenW (ww9.setCell ((blk w.heap.size).add 0) (.int .i64 wv11)) fun ww16 =>
  canStore ww16 ((blk w.heap.size).add 1) ∧
  thenW (ww16.setCell ((blk w.heap.size).add 1) (.int .i64 (l13n : Int))) fun ww17 =>
  canStore ww17 ((blk w.heap.size).add 2) ∧
  thenW (ww17.setCell ((blk w.heap.size).add 2) (.int .u64 sum15)) fun ww18 =>
  ∃ (resWriter19 : Int) (resLen20 : Int) (resSum21 : Int), cellsAt ww18 (blk w.heap.size) [.int .i64 resWriter19, .int .i64 resLen20, .int .u64 resSum21] 0 ∧
  R (.agg #[.int .i64 resWriter19, .int .i64 resLen20, .int .u64 resSum21]) ww18)

theorem chain_Log_Head.eq (l1 : Option Addr) (R : Value → World → Prop) (w : World) : mfunc Try.prog [] 16 [.pointer l1] R w = chain_Log_Head.M l1 R w := by kernel_rfl
theorem chain_Log_Head.ok (l1 : Option Addr) {R : Value → World → Prop} {w : World} (h : chain_Log_Head.M l1 R w) : Calls Try.prog 16 #[.pointer l1] w fun e w' => ∃ v, e = .returned v ∧ R v w' :=
  mfunc_ok follows (H := []) (args := [.pointer l1]) (by rw [chain_Log_Head.eq]; exact h)

def chain_Log_Head.N (l1 : Option Addr) (R : Value → World → Prop) (w : World) : Prop :=
  (l1 = none →
    ∀ (ww6 : World), Ext no w ww6 →
    R (.agg #[.int .i64 0, .int .i64 0, .int .u64 0]) ww6) ∧
  (l1 ≠ none →
    ∃ a9 : Addr, l1 = some a9 ∧
    ∃ (wv11 : Int), w.cell? (a9.add 1) = some (.int .i64 wv11) ∧
    ∃ (l13a : Option Addr) (l13n : Nat) (l13c : Nat), w.cell? (a9.add 3) = some (.slice l13a l13n l13c) ∧
    ∃ (sum15 : Int), w.cell? (a9.add 4) = some (.int .u64 sum15) ∧
    ∀ (ww18 : World), Ext no w ww18 →
    R (.agg #[.int .i64 wv11, .int .i64 (l13n : Int), .int .u64 sum15]) ww18)

theorem chain_Log_Head.up (l1 : Option Addr) {R : Value → World → Prop} {w : World} (h : chain_Log_Head.N l1 R w) : chain_Log_Head.M l1 R w := by
  unfold chain_Log_Head.M
  unfold chain_Log_Head.N at h
  refine thenW_in fun ww2 e2 => ?_
  have hb1 := Blk.of_new e2
  have hg1 := ((Ext.refl no w)).size
  have hx2 := (Ext.refl no w).x_alloc e2
  refine bif_of (fun c3 => ?_) (fun c3 => ?_)
  · have h := h.1 (isNone_t c3)
    refine ⟨hb1.cani 0 rfl rfl, thenW_in fun ww4 e4 => ?_⟩
    have hx4 := hx2.x_set (q := w.heap.size) (i := 0) rfl (.inr hg1) e4
    have hb1 := hb1.seti 0 rfl e4
    refine ⟨hb1.cani 1 rfl rfl, thenW_in fun ww5 e5 => ?_⟩
    have hx5 := hx4.x_set (q := w.heap.size) (i := 1) rfl (.inr hg1) e5
    have hb1 := hb1.seti 1 rfl e5
    refine ⟨hb1.cani 2 rfl rfl, thenW_in fun ww6 e6 => ?_⟩
    have hx6 := hx5.x_set (q := w.heap.size) (i := 2) rfl (.inr hg1) e6
    have hb1 := hb1.seti 2 rfl e6
    refine ⟨0, 0, 0, ⟨hb1.celli 0 rfl rfl, hb1.celli 1 rfl rfl, hb1.celli 2 rfl rfl, trivial⟩, ?_⟩
    have h := h ww6 hx6
    exact h
  · have h := h.2 (isNone_f c3)
    refine thenW_in fun ww8 e8 => ?_
    have hx8 := hx2.x_drew e8
    have hb1 := hb1.x_drew e8
    obtain ⟨a9, ha9, h⟩ := h
    refine elim_some ha9 ?_
    obtain ⟨wv11, hc10, h⟩ := h
    refine ⟨wv11, (hx8).cell hc10 id, ?_⟩
    refine elim_some ha9 ?_
    obtain ⟨l13a, l13n, l13c, hc12, h⟩ := h
    refine ⟨l13a, l13n, l13c, (hx8).cell hc12 id, ?_⟩
    refine elim_some ha9 ?_
    obtain ⟨sum15, hc14, h⟩ := h
    refine ⟨sum15, (hx8).cell hc14 id, ?_⟩
    refine ⟨hb1.cani 0 rfl rfl, thenW_in fun ww16 e16 => ?_⟩
    have hx16 := hx8.x_set (q := w.heap.size) (i := 0) rfl (.inr hg1) e16
    have hb1 := hb1.seti 0 rfl e16
    refine ⟨hb1.cani 1 rfl rfl, thenW_in fun ww17 e17 => ?_⟩
    have hx17 := hx16.x_set (q := w.heap.size) (i := 1) rfl (.inr hg1) e17
    have hb1 := hb1.seti 1 rfl e17
    refine ⟨hb1.cani 2 rfl rfl, thenW_in fun ww18 e18 => ?_⟩
    have hx18 := hx17.x_set (q := w.heap.size) (i := 2) rfl (.inr hg1) e18
    have hb1 := hb1.seti 2 rfl e18
    refine ⟨wv11, (l13n : Int), sum15, ⟨hb1.celli 0 rfl rfl, hb1.celli 1 rfl rfl, hb1.celli 2 rfl rfl, trivial⟩, ?_⟩
    have h := h ww18 hx18
    exact h

theorem chain_Log_Head.go (l1 : Option Addr) {R : Value → World → Prop} {w : World} (h : chain_Log_Head.N l1 R w) : Calls Try.prog 16 #[.pointer l1] w fun e w' => ∃ v, e = .returned v ∧ R v w' := chain_Log_Head.ok l1 (chain_Log_Head.up l1 h)
theorem chain_Log_Head.run (l1 : Option Addr) {V : Value} {Q : World → Prop} {w : World} (h : chain_Log_Head.N l1 (fun v w' => v = V ∧ Q w') w) : Calls Try.prog 16 #[.pointer l1] w (Ret V Q) := (chain_Log_Head.go l1 h).mono fun e w' ⟨v, he, hv, hq⟩ => ⟨by rw [he, hv], hq⟩

/-- (*chain.Log).right -/
def chain_Log_right.M (l1 : Option Addr) (eWriter2 : Int) (eIndex3 : Int) (ePrev4 : Int) (eAtT5 : Int) (eAtW6 : Int) (eEpoch7 : Int) (eBody8a : Option Addr) (eBody8n : Nat) (eBody8c : Nat) (eSig9 : Int) (R : Value → World → Prop) (w : World) : Prop :=
  thenW (w.alloc (.cells #[.int .i64 eWriter2, .int .i64 eIndex3, .int .u64 ePrev4, .int .i64 eAtT5, .int .i64 eAtW6, .int .i64 eEpoch7, .slice eBody8a eBody8n eBody8c, .int .u64 eSig9] 39)) fun ww10 =>
  ∃ (xWriter11 : Int) (xIndex12 : Int) (xPrev13 : Int) (xAtT14 : Int) (xAtW15 : Int) (xEpoch16 : Int) (xBody17a : Option Addr) (xBody17n : Nat) (xBody17c : Nat) (xSig18 : Int), cellsAt ww10 (blk w.heap.size) [.int .i64 xWriter11, .int .i64 xIndex12, .int .u64 xPrev13, .int .i64 xAtT14, .int .i64 xAtW15, .int .i64 xEpoch16, .slice xBody17a xBody17n xBody17c, .int .u64 xSig18] 0 ∧
  Calls Try.prog 38 #[.agg #[.int .i64 xWriter11, .int .i64 xIndex12, .int .u64 xPrev13, .int .i64 xAtT14, .int .i64 xAtW15, .int .i64 xEpoch16, .slice xBody17a xBody17n xBody17c, .int .u64 xSig18]] ww10 fun ee20 ww21 => ∃ (right19 : Bool), ee20 = .returned (.bool right19) ∧
  bif !right19 then (
  R (.int .i64 1) ww21) else (
  thenW (ww21.drew) fun ww22 =>
  ∃ (Writer23 : Int), ww22.cell? ((blk w.heap.size).add 0) = some (.int .i64 Writer23) ∧
  l1.elim False fun a24 =>
  ∃ (wv25 : Int), ww22.cell? (a24.add 1) = some (.int .i64 wv25) ∧
  bif Writer23 != wv25 then (
  R (.int .i64 20) ww22) else (
  thenW (ww22.drew) fun ww26 =>
  l1.elim False fun a27 =>
  ∃ (o28 : Option Addr), ww26.cell? (a27.add 0) = some (.pointer o28) ∧
  l1.elim False fun a29 =>
  ∃ (publicv30 : Int), ww26.cell? (a29.add 2) = some (.int .u64 publicv30) ∧
  ∃ (xWriter31 : Int) (xIndex32 : Int) (xPrev33 : Int) (xAtT34 : Int) (xAtW35 : Int) (xEpoch36 : Int) (xBody37a : Option Addr) (xBody37n : Nat) (xBody37c : Nat) (xSig38 : Int), cellsAt ww26 (blk w.heap.size) [.int .i64 xWriter31, .int .i64 xIndex32, .int .u64 xPrev33, .int .i64 xAtT34, .int .i64 xAtW35, .int .i64 xEpoch36, .slice xBody37a xBody37n xBody37c, .int .u64 xSig38] 0 ∧
  Calls Try.prog 67 #[.pointer o28, .int .u64 publicv30, .agg #[.int .i64 xWriter31, .int .i64 xIndex32, .int .u64 xPrev33, .int .i64 xAtT34, .int .i64 xAtW35, .int .i64 xEpoch36, .slice xBody37a xBody37n xBody37c, .int .u64 xSig38]] ww26 fun ee40 ww41 => ∃ (holds39 : Bool), ee40 = .returned (.bool holds39) ∧
  bif !holds39 then (
  R (.int .i64 6) ww41) else (
  R (.int .i64 0) ww41)))

theorem chain_Log_right.eq (l1 : Option Addr) (eWriter2 : Int) (eIndex3 : Int) (ePrev4 : Int) (eAtT5 : Int) (eAtW6 : Int) (eEpoch7 : Int) (eBody8a : Option Addr) (eBody8n : Nat) (eBody8c : Nat) (eSig9 : Int) (R : Value → World → Prop) (w : World) : mfunc Try.prog [] 48 [.pointer l1, .agg #[.int .i64 eWriter2, .int .i64 eIndex3, .int .u64 ePrev4, .int .i64 eAtT5, .int .i64 eAtW6, .int .i64 eEpoch7, .slice eBody8a eBody8n eBody8c, .int .u64 eSig9]] R w = chain_Log_right.M l1 eWriter2 eIndex3 ePrev4 eAtT5 eAtW6 eEpoch7 eBody8a eBody8n eBody8c eSig9 R w := by kernel_rfl
theorem chain_Log_right.ok (l1 : Option Addr) (eWriter2 : Int) (eIndex3 : Int) (ePrev4 : Int) (eAtT5 : Int) (eAtW6 : Int) (eEpoch7 : Int) (eBody8a : Option Addr) (eBody8n : Nat) (eBody8c : Nat) (eSig9 : Int) {R : Value → World → Prop} {w : World} (h : chain_Log_right.M l1 eWriter2 eIndex3 ePrev4 eAtT5 eAtW6 eEpoch7 eBody8a eBody8n eBody8c eSig9 R w) : Calls Try.prog 48 #[.pointer l1, .agg #[.int .i64 eWriter2, .int .i64 eIndex3, .int .u64 ePrev4, .int .i64 eAtT5, .int .i64 eAtW6, .int .i64 eEpoch7, .slice eBody8a eBody8n eBody8c, .int .u64 eSig9]] w fun e w' => ∃ v, e = .returned v ∧ R v w' :=
  mfunc_ok follows (H := []) (args := [.pointer l1, .agg #[.int .i64 eWriter2, .int .i64 eIndex3, .int .u64 ePrev4, .int .i64 eAtT5, .int .i64 eAtW6, .int .i64 eEpoch7, .slice eBody8a eBody8n eBody8c, .int .u64 eSig9]]) (by rw [chain_Log_right.eq]; exact h)

def chain_Log_right.N (l1 : Option Addr) (eWriter2 : Int) (eIndex3 : Int) (ePrev4 : Int) (eAtT5 : Int) (eAtW6 : Int) (eEpoch7 : Int) (eBody8a : Option Addr) (eBody8n : Nat) (eBody8c : Nat) (eSig9 : Int) (R : Value → World → Prop) (w : World) : Prop :=
  ((entry_Right.F eWriter2 eIndex3 ePrev4 eAtT5 eAtW6 eEpoch7 eBody8a eBody8n eBody8c eSig9) = false →
    ∀ (ww11 : World), Ext no w ww11 →
    R (.int .i64 1) ww11) ∧
  ((entry_Right.F eWriter2 eIndex3 ePrev4 eAtT5 eAtW6 eEpoch7 eBody8a eBody8n eBody8c eSig9) = true →
    ∃ a15 : Addr, l1 = some a15 ∧
    ∃ (wv17 : Int), w.cell? (a15.add 1) = some (.int .i64 wv17) ∧
    (eWriter2 ≠ wv17 →
      ∀ (ww14 : World), Ext no w ww14 →
      R (.int .i64 20) ww14) ∧
    (eWriter2 = wv17 →
      ∃ (o22 : Option Addr), w.cell? (a15.add 0) = some (.pointer o22) ∧
      ∃ (publicv24 : Int), w.cell? (a15.add 2) = some (.int .u64 publicv24) ∧
      ∀ (ww20 : World), Ext no w ww20 →
      Calls Try.prog 67 #[.pointer o22, .int .u64 publicv24, .agg #[.int .i64 eWriter2, .int .i64 eIndex3, .int .u64 ePrev4, .int .i64 eAtT5, .int .i64 eAtW6, .int .i64 eEpoch7, .slice eBody8a eBody8n eBody8c, .int .u64 eSig9]] ww20 fun ee27 ww28 => ∃ (holds26 : Bool), ee27 = .returned (.bool holds26) ∧
      (holds26 = false →
        R (.int .i64 6) ww28) ∧
      (holds26 = true →
        R (.int .i64 0) ww28)))

theorem chain_Log_right.up (l1 : Option Addr) (eWriter2 : Int) (eIndex3 : Int) (ePrev4 : Int) (eAtT5 : Int) (eAtW6 : Int) (eEpoch7 : Int) (eBody8a : Option Addr) (eBody8n : Nat) (eBody8c : Nat) (eSig9 : Int) {R : Value → World → Prop} {w : World} (h : chain_Log_right.N l1 eWriter2 eIndex3 ePrev4 eAtT5 eAtW6 eEpoch7 eBody8a eBody8n eBody8c eSig9 R w) : chain_Log_right.M l1 eWriter2 eIndex3 ePrev4 eAtT5 eAtW6 eEpoch7 eBody8a eBody8n eBody8c eSig9 R w := by
  unfold chain_Log_right.M
  unfold chain_Log_right.N at h
  refine thenW_in fun ww10 e10 => ?_
  have hb1 := Blk.of_new e10
  have hg1 := ((Ext.refl no w)).size
  have hx10 := (Ext.refl no w).x_alloc e10
  refine ⟨eWriter2, eIndex3, ePrev4, eAtT5, eAtW6, eEpoch7, eBody8a, eBody8n, eBody8c, eSig9, ⟨hb1.celli 0 rfl rfl, hb1.celli 1 rfl rfl, hb1.celli 2 rfl rfl, hb1.celli 3 rfl rfl, hb1.celli 4 rfl rfl, hb1.celli 5 rfl rfl, hb1.celli 6 rfl rfl, hb1.celli 7 rfl rfl, trivial⟩, ?_⟩
  refine (entry_Right.pure eWriter2 eIndex3 ePrev4 eAtT5 eAtW6 eEpoch7 eBody8a eBody8n eBody8c eSig9).mono fun ee ww11 ⟨he, hxx⟩ => ⟨(entry_Right.F eWriter2 eIndex3 ePrev4 eAtT5 eAtW6 eEpoch7 eBody8a eBody8n eBody8c eSig9), he, ?_⟩
  have hx11 := hx10.trans hxx
  have hb1 := hb1.ext hxx id
  refine bif_of (fun c12 => ?_) (fun c12 => ?_)
  · have h := h.1 (not_t c12)
    have h := h ww11 hx11
    exact h
  · have h := h.2 (not_f c12)
    refine thenW_in fun ww14 e14 => ?_
    have hx14 := hx11.x_drew e14
    have hb1 := hb1.x_drew e14
    refine ⟨eWriter2, hb1.celli 0 rfl rfl, ?_⟩
    obtain ⟨a15, ha15, h⟩ := h
    refine elim_some ha15 ?_
    obtain ⟨wv17, hc16, h⟩ := h
    refine ⟨wv17, (hx14).cell hc16 id, ?_⟩
    refine bif_of (fun c18 => ?_) (fun c18 => ?_)
    · have h := h.1 (bne_t c18)
      have h := h ww14 hx14
      exact h
    · have h := h.2 (bne_f c18)
      refine thenW_in fun ww20 e20 => ?_
      have hx20 := hx14.x_drew e20
      have hb1 := hb1.x_drew e20
      refine elim_some ha15 ?_
      obtain ⟨o22, hc21, h⟩ := h
      refine ⟨o22, (hx20).cell hc21 id, ?_⟩
      refine elim_some ha15 ?_
      obtain ⟨publicv24, hc23, h⟩ := h
      refine ⟨publicv24, (hx20).cell hc23 id, ?_⟩
      refine ⟨eWriter2, eIndex3, ePrev4, eAtT5, eAtW6, eEpoch7, eBody8a, eBody8n, eBody8c, eSig9, ⟨hb1.celli 0 rfl rfl, hb1.celli 1 rfl rfl, hb1.celli 2 rfl rfl, hb1.celli 3 rfl rfl, hb1.celli 4 rfl rfl, hb1.celli 5 rfl rfl, hb1.celli 6 rfl rfl, hb1.celli 7 rfl rfl, trivial⟩, ?_⟩
      have h := h ww20 hx20
      refine h.mono fun ee27 ww28 h => ?_
      obtain ⟨holds26, he, h⟩ := h
      refine ⟨holds26, he, ?_⟩
      refine bif_of (fun c29 => ?_) (fun c29 => ?_)
      · have h := h.1 (not_t c29)
        exact h
      · have h := h.2 (not_f c29)
        exact h

theorem chain_Log_right.go (l1 : Option Addr) (eWriter2 : Int) (eIndex3 : Int) (ePrev4 : Int) (eAtT5 : Int) (eAtW6 : Int) (eEpoch7 : Int) (eBody8a : Option Addr) (eBody8n : Nat) (eBody8c : Nat) (eSig9 : Int) {R : Value → World → Prop} {w : World} (h : chain_Log_right.N l1 eWriter2 eIndex3 ePrev4 eAtT5 eAtW6 eEpoch7 eBody8a eBody8n eBody8c eSig9 R w) : Calls Try.prog 48 #[.pointer l1, .agg #[.int .i64 eWriter2, .int .i64 eIndex3, .int .u64 ePrev4, .int .i64 eAtT5, .int .i64 eAtW6, .int .i64 eEpoch7, .slice eBody8a eBody8n eBody8c, .int .u64 eSig9]] w fun e w' => ∃ v, e = .returned v ∧ R v w' := chain_Log_right.ok l1 eWriter2 eIndex3 ePrev4 eAtT5 eAtW6 eEpoch7 eBody8a eBody8n eBody8c eSig9 (chain_Log_right.up l1 eWriter2 eIndex3 ePrev4 eAtT5 eAtW6 eEpoch7 eBody8a eBody8n eBody8c eSig9 h)
theorem chain_Log_right.run (l1 : Option Addr) (eWriter2 : Int) (eIndex3 : Int) (ePrev4 : Int) (eAtT5 : Int) (eAtW6 : Int) (eEpoch7 : Int) (eBody8a : Option Addr) (eBody8n : Nat) (eBody8c : Nat) (eSig9 : Int) {V : Value} {Q : World → Prop} {w : World} (h : chain_Log_right.N l1 eWriter2 eIndex3 ePrev4 eAtT5 eAtW6 eEpoch7 eBody8a eBody8n eBody8c eSig9 (fun v w' => v = V ∧ Q w') w) : Calls Try.prog 48 #[.pointer l1, .agg #[.int .i64 eWriter2, .int .i64 eIndex3, .int .u64 ePrev4, .int .i64 eAtT5, .int .i64 eAtW6, .int .i64 eEpoch7, .slice eBody8a eBody8n eBody8c, .int .u64 eSig9]] w (Ret V Q) := (chain_Log_right.go l1 eWriter2 eIndex3 ePrev4 eAtT5 eAtW6 eEpoch7 eBody8a eBody8n eBody8c eSig9 h).mono fun e w' ⟨v, he, hv, hq⟩ => ⟨by rw [he, hv], hq⟩

/-- (*chain.Log).place -/
def chain_Log_place.M (l1 : Option Addr) (eWriter2 : Int) (eIndex3 : Int) (ePrev4 : Int) (eAtT5 : Int) (eAtW6 : Int) (eEpoch7 : Int) (eBody8a : Option Addr) (eBody8n : Nat) (eBody8c : Nat) (eSig9 : Int) (R : Value → World → Prop) (w : World) : Prop :=
  thenW (w.alloc (.cells #[.int .i64 eWriter2, .int .i64 eIndex3, .int .u64 ePrev4, .int .i64 eAtT5, .int .i64 eAtW6, .int .i64 eEpoch7, .slice eBody8a eBody8n eBody8c, .int .u64 eSig9] 39)) fun ww10 =>
  l1.elim False fun a11 =>
  ∃ (l12a : Option Addr) (l12n : Nat) (l12c : Nat), ww10.cell? (a11.add 3) = some (.slice l12a l12n l12c) ∧
  ∃ (Index13 : Int), ww10.cell? ((blk w.heap.size).add 1) = some (.int .i64 Index13) ∧
  bif decide (Index13 > (l12n : Int)) then (
  R (.int .i64 7) ww10) else (
  ∃ (Index14 : Int), ww10.cell? ((blk w.heap.size).add 1) = some (.int .i64 Index14) ∧
  bif Index14 == (l12n : Int) then (
  R (.int .i64 0) ww10) else (
  thenW (ww10.drew) fun ww15 =>
  l1.elim False fun a16 =>
  ∃ (l17a : Option Addr) (l17n : Nat) (l17c : Nat), ww15.cell? (a16.add 3) = some (.slice l17a l17n l17c) ∧
  ∃ (Index18 : Int), ww15.cell? ((blk w.heap.size).add 1) = some (.int .i64 Index18) ∧
  l17a.elim False fun a19 =>
  0 ≤ (Index18 : Int) ∧ (Index18 : Int) < (l17n : Int) ∧
  ∃ (xWriter20 : Int) (xIndex21 : Int) (xPrev22 : Int) (xAtT23 : Int) (xAtW24 : Int) (xEpoch25 : Int) (xBody26a : Option Addr) (xBody26n : Nat) (xBody26c : Nat) (xSig27 : Int), cellsAt ww15 (a19.add (Int.toNat Index18 * 8)) [.int .i64 xWriter20, .int .i64 xIndex21, .int .u64 xPrev22, .int .i64 xAtT23, .int .i64 xAtW24, .int .i64 xEpoch25, .slice xBody26a xBody26n xBody26c, .int .u64 xSig27] 0 ∧
  ∃ (xWriter28 : Int) (xIndex29 : Int) (xPrev30 : Int) (xAtT31 : Int) (xAtW32 : Int) (xEpoch33 : Int) (xBody34a : Option Addr) (xBody34n : Nat) (xBody34c : Nat) (xSig35 : Int), cellsAt ww15 (blk w.heap.size) [.int .i64 xWriter28, .int .i64 xIndex29, .int .u64 xPrev30, .int .i64 xAtT31, .int .i64 xAtW32, .int .i64 xEpoch33, .slice xBody34a xBody34n xBody34c, .int .u64 xSig35] 0 ∧
  Calls Try.prog 68 #[.agg #[.int .i64 xWriter20, .int .i64 xIndex21, .int .u64 xPrev22, .int .i64 xAtT23, .int .i64 xAtW24, .int .i64 xEpoch25, .slice xBody26a xBody26n xBody26c, .int .u64 xSig27], .agg #[.int .i64 xWriter28, .int .i64 xIndex29, .int .u64 xPrev30, .int .i64 xAtT31, .int .i64 xAtW32, .int .i64 xEpoch33, .slice xBody34a xBody34n xBody34c, .int .u64 xSig35]] ww15 fun ee37 ww38 => ∃ (same36 : Bool), ee37 = .returned (.bool same36) ∧
  bif same36 then (
  R (.int .i64 8) ww38) else (
  R (.int .i64 9) ww38)))

theorem chain_Log_place.eq (l1 : Option Addr) (eWriter2 : Int) (eIndex3 : Int) (ePrev4 : Int) (eAtT5 : Int) (eAtW6 : Int) (eEpoch7 : Int) (eBody8a : Option Addr) (eBody8n : Nat) (eBody8c : Nat) (eSig9 : Int) (R : Value → World → Prop) (w : World) : mfunc Try.prog [] 49 [.pointer l1, .agg #[.int .i64 eWriter2, .int .i64 eIndex3, .int .u64 ePrev4, .int .i64 eAtT5, .int .i64 eAtW6, .int .i64 eEpoch7, .slice eBody8a eBody8n eBody8c, .int .u64 eSig9]] R w = chain_Log_place.M l1 eWriter2 eIndex3 ePrev4 eAtT5 eAtW6 eEpoch7 eBody8a eBody8n eBody8c eSig9 R w := by kernel_rfl
theorem chain_Log_place.ok (l1 : Option Addr) (eWriter2 : Int) (eIndex3 : Int) (ePrev4 : Int) (eAtT5 : Int) (eAtW6 : Int) (eEpoch7 : Int) (eBody8a : Option Addr) (eBody8n : Nat) (eBody8c : Nat) (eSig9 : Int) {R : Value → World → Prop} {w : World} (h : chain_Log_place.M l1 eWriter2 eIndex3 ePrev4 eAtT5 eAtW6 eEpoch7 eBody8a eBody8n eBody8c eSig9 R w) : Calls Try.prog 49 #[.pointer l1, .agg #[.int .i64 eWriter2, .int .i64 eIndex3, .int .u64 ePrev4, .int .i64 eAtT5, .int .i64 eAtW6, .int .i64 eEpoch7, .slice eBody8a eBody8n eBody8c, .int .u64 eSig9]] w fun e w' => ∃ v, e = .returned v ∧ R v w' :=
  mfunc_ok follows (H := []) (args := [.pointer l1, .agg #[.int .i64 eWriter2, .int .i64 eIndex3, .int .u64 ePrev4, .int .i64 eAtT5, .int .i64 eAtW6, .int .i64 eEpoch7, .slice eBody8a eBody8n eBody8c, .int .u64 eSig9]]) (by rw [chain_Log_place.eq]; exact h)

def chain_Log_place.N (l1 : Option Addr) (eWriter2 : Int) (eIndex3 : Int) (ePrev4 : Int) (eAtT5 : Int) (eAtW6 : Int) (eEpoch7 : Int) (eBody8a : Option Addr) (eBody8n : Nat) (eBody8c : Nat) (eSig9 : Int) (R : Value → World → Prop) (w : World) : Prop :=
  ∃ a11 : Addr, l1 = some a11 ∧
  ∃ (l13a : Option Addr) (l13n : Nat) (l13c : Nat), w.cell? (a11.add 3) = some (.slice l13a l13n l13c) ∧
  (eIndex3 > (l13n : Int) →
    ∀ (ww10 : World), Ext no w ww10 →
    R (.int .i64 7) ww10) ∧
  (eIndex3 ≤ (l13n : Int) →
    (eIndex3 = (l13n : Int) →
      ∀ (ww10 : World), Ext no w ww10 →
      R (.int .i64 0) ww10) ∧
    (eIndex3 ≠ (l13n : Int) →
      ∃ (l20a : Option Addr) (l20n : Nat) (l20c : Nat), w.cell? (a11.add 3) = some (.slice l20a l20n l20c) ∧
      ∃ a21 : Addr, l20a = some a21 ∧
      0 ≤ (eIndex3 : Int) ∧ (eIndex3 : Int) < (l20n : Int) ∧
      ∃ (xWriter23 : Int) (xIndex24 : Int) (xPrev25 : Int) (xAtT26 : Int) (xAtW27 : Int) (xEpoch28 : Int) (xBody29a : Option Addr) (xBody29n : Nat) (xBody29c : Nat) (xSig30 : Int), cellsAt w (a21.add (Int.toNat eIndex3 * 8)) [.int .i64 xWriter23, .int .i64 xIndex24, .int .u64 xPrev25, .int .i64 xAtT26, .int .i64 xAtW27, .int .i64 xEpoch28, .slice xBody29a xBody29n xBody29c, .int .u64 xSig30] 0 ∧
      ∀ (ww18 : World), Ext no w ww18 →
      Calls Try.prog 68 #[.agg #[.int .i64 xWriter23, .int .i64 xIndex24, .int .u64 xPrev25, .int .i64 xAtT26, .int .i64 xAtW27, .int .i64 xEpoch28, .slice xBody29a xBody29n xBody29c, .int .u64 xSig30], .agg #[.int .i64 eWriter2, .int .i64 eIndex3, .int .u64 ePrev4, .int .i64 eAtT5, .int .i64 eAtW6, .int .i64 eEpoch7, .slice eBody8a eBody8n eBody8c, .int .u64 eSig9]] ww18 fun ee33 ww34 => ∃ (same32 : Bool), ee33 = .returned (.bool same32) ∧
      (same32 = true →
        R (.int .i64 8) ww34) ∧
      (same32 = false →
        R (.int .i64 9) ww34)))

theorem chain_Log_place.up (l1 : Option Addr) (eWriter2 : Int) (eIndex3 : Int) (ePrev4 : Int) (eAtT5 : Int) (eAtW6 : Int) (eEpoch7 : Int) (eBody8a : Option Addr) (eBody8n : Nat) (eBody8c : Nat) (eSig9 : Int) {R : Value → World → Prop} {w : World} (h : chain_Log_place.N l1 eWriter2 eIndex3 ePrev4 eAtT5 eAtW6 eEpoch7 eBody8a eBody8n eBody8c eSig9 R w) : chain_Log_place.M l1 eWriter2 eIndex3 ePrev4 eAtT5 eAtW6 eEpoch7 eBody8a eBody8n eBody8c eSig9 R w := by
  unfold chain_Log_place.M
  unfold chain_Log_place.N at h
  refine thenW_in fun ww10 e10 => ?_
  have hb1 := Blk.of_new e10
  have hg1 := ((Ext.refl no w)).size
  have hx10 := (Ext.refl no w).x_alloc e10
  obtain ⟨a11, ha11, h⟩ := h
  refine elim_some ha11 ?_
  obtain ⟨l13a, l13n, l13c, hc12, h⟩ := h
  refine ⟨l13a, l13n, l13c, (hx10).cell hc12 id, ?_⟩
  refine ⟨eIndex3, hb1.celli 1 rfl rfl, ?_⟩
  refine bif_of (fun c14 => ?_) (fun c14 => ?_)
  · have h := h.1 (of_decide_eq_true c14)
    have h := h ww10 hx10
    exact h
  · have h := h.2 (Int.not_lt.1 (of_decide_eq_false c14))
    refine ⟨eIndex3, hb1.celli 1 rfl rfl, ?_⟩
    refine bif_of (fun c16 => ?_) (fun c16 => ?_)
    · have h := h.1 (beq_t c16)
      have h := h ww10 hx10
      exact h
    · have h := h.2 (beq_f c16)
      refine thenW_in fun ww18 e18 => ?_
      have hx18 := hx10.x_drew e18
      have hb1 := hb1.x_drew e18
      refine elim_some ha11 ?_
      obtain ⟨l20a, l20n, l20c, hc19, h⟩ := h
      refine ⟨l20a, l20n, l20c, (hx18).cell hc19 id, ?_⟩
      refine ⟨eIndex3, hb1.celli 1 rfl rfl, ?_⟩
      obtain ⟨a21, ha21, h⟩ := h
      refine elim_some ha21 ?_
      obtain ⟨hq1, hq2, h⟩ := h
      refine ⟨hq1, hq2, ?_⟩
      obtain ⟨xWriter23, xIndex24, xPrev25, xAtT26, xAtW27, xEpoch28, xBody29a, xBody29n, xBody29c, xSig30, hc22, h⟩ := h
      refine ⟨xWriter23, xIndex24, xPrev25, xAtT26, xAtW27, xEpoch28, xBody29a, xBody29n, xBody29c, xSig30, cellsAt_no (hx18) hc22, ?_⟩
      refine ⟨eWriter2, eIndex3, ePrev4, eAtT5, eAtW6, eEpoch7, eBody8a, eBody8n, eBody8c, eSig9, ⟨hb1.celli 0 rfl rfl, hb1.celli 1 rfl rfl, hb1.celli 2 rfl rfl, hb1.celli 3 rfl rfl, hb1.celli 4 rfl rfl, hb1.celli 5 rfl rfl, hb1.celli 6 rfl rfl, hb1.celli 7 rfl rfl, trivial⟩, ?_⟩
      have h := h ww18 hx18
      refine h.mono fun ee33 ww34 h => ?_
      obtain ⟨same32, he, h⟩ := h
      refine ⟨same32, he, ?_⟩
      refine bif_of (fun c35 => ?_) (fun c35 => ?_)
      · have h := h.1 c35
        exact h
      · have h := h.2 c35
        exact h

theorem chain_Log_place.go (l1 : Option Addr) (eWriter2 : Int) (eIndex3 : Int) (ePrev4 : Int) (eAtT5 : Int) (eAtW6 : Int) (eEpoch7 : Int) (eBody8a : Option Addr) (eBody8n : Nat) (eBody8c : Nat) (eSig9 : Int) {R : Value → World → Prop} {w : World} (h : chain_Log_place.N l1 eWriter2 eIndex3 ePrev4 eAtT5 eAtW6 eEpoch7 eBody8a eBody8n eBody8c eSig9 R w) : Calls Try.prog 49 #[.pointer l1, .agg #[.int .i64 eWriter2, .int .i64 eIndex3, .int .u64 ePrev4, .int .i64 eAtT5, .int .i64 eAtW6, .int .i64 eEpoch7, .slice eBody8a eBody8n eBody8c, .int .u64 eSig9]] w fun e w' => ∃ v, e = .returned v ∧ R v w' := chain_Log_place.ok l1 eWriter2 eIndex3 ePrev4 eAtT5 eAtW6 eEpoch7 eBody8a eBody8n eBody8c eSig9 (chain_Log_place.up l1 eWriter2 eIndex3 ePrev4 eAtT5 eAtW6 eEpoch7 eBody8a eBody8n eBody8c eSig9 h)
theorem chain_Log_place.run (l1 : Option Addr) (eWriter2 : Int) (eIndex3 : Int) (ePrev4 : Int) (eAtT5 : Int) (eAtW6 : Int) (eEpoch7 : Int) (eBody8a : Option Addr) (eBody8n : Nat) (eBody8c : Nat) (eSig9 : Int) {V : Value} {Q : World → Prop} {w : World} (h : chain_Log_place.N l1 eWriter2 eIndex3 ePrev4 eAtT5 eAtW6 eEpoch7 eBody8a eBody8n eBody8c eSig9 (fun v w' => v = V ∧ Q w') w) : Calls Try.prog 49 #[.pointer l1, .agg #[.int .i64 eWriter2, .int .i64 eIndex3, .int .u64 ePrev4, .int .i64 eAtT5, .int .i64 eAtW6, .int .i64 eEpoch7, .slice eBody8a eBody8n eBody8c, .int .u64 eSig9]] w (Ret V Q) := (chain_Log_place.go l1 eWriter2 eIndex3 ePrev4 eAtT5 eAtW6 eEpoch7 eBody8a eBody8n eBody8c eSig9 h).mono fun e w' ⟨v, he, hv, hq⟩ => ⟨by rw [he, hv], hq⟩

/-- (*chain.Log).behind -/
def chain_Log_behind.M (l1 : Option Addr) (eWriter2 : Int) (eIndex3 : Int) (ePrev4 : Int) (eAtT5 : Int) (eAtW6 : Int) (eEpoch7 : Int) (eBody8a : Option Addr) (eBody8n : Nat) (eBody8c : Nat) (eSig9 : Int) (R : Value → World → Prop) (w : World) : Prop :=
  thenW (w.alloc (.cells #[.int .i64 eWriter2, .int .i64 eIndex3, .int .u64 ePrev4, .int .i64 eAtT5, .int .i64 eAtW6, .int .i64 eEpoch7, .slice eBody8a eBody8n eBody8c, .int .u64 eSig9] 39)) fun ww10 =>
  l1.elim False fun a11 =>
  ∃ (l12a : Option Addr) (l12n : Nat) (l12c : Nat), ww10.cell? (a11.add 3) = some (.slice l12a l12n l12c) ∧
  thenW (ww10.drew) fun ww13 =>
  ∃ (Prev14 : Int), ww13.cell? ((blk w.heap.size).add 2) = some (.int .u64 Prev14) ∧
  l1.elim False fun a15 =>
  ∃ (sum16 : Int), ww13.cell? (a15.add 4) = some (.int .u64 sum16) ∧
  bif Prev14 != sum16 then (
  R (.int .i64 5) ww13) else (
  thenW (ww13.drew) fun ww17 =>
  bif decide ((l12n : Int) > 0) then (
  l1.elim False fun a18 =>
  ∃ (l19a : Option Addr) (l19n : Nat) (l19c : Nat), ww17.cell? (a18.add 3) = some (.slice l19a l19n l19c) ∧
  l19a.elim False fun a20 =>
  0 ≤ ((IntKind.i64.wrap ((l12n : Int) - 1)) : Int) ∧ ((IntKind.i64.wrap ((l12n : Int) - 1)) : Int) < (l19n : Int) ∧
  ∃ (AtT21 : Int) (AtW22 : Int), cellsAt ww17 ((a20.add (Int.toNat (IntKind.i64.wrap ((l12n : Int) - 1)) * 8)).add 3) [.int .i64 AtT21, .int .i64 AtW22] 0 ∧
  ∃ (AtT23 : Int) (AtW24 : Int), cellsAt ww17 ((blk w.heap.size).add 3) [.int .i64 AtT23, .int .i64 AtW24] 0 ∧
  Calls Try.prog 56 #[.agg #[.int .i64 AtT21, .int .i64 AtW22], .agg #[.int .i64 AtT23, .int .i64 AtW24]] ww17 fun ee26 ww27 => ∃ (less25 : Bool), ee26 = .returned (.bool less25) ∧
  bif !less25 then (
  R (.int .i64 2) ww27) else (
  R (.int .i64 0) ww27)) else (
  R (.int .i64 0) ww17))

theorem chain_Log_behind.eq (l1 : Option Addr) (eWriter2 : Int) (eIndex3 : Int) (ePrev4 : Int) (eAtT5 : Int) (eAtW6 : Int) (eEpoch7 : Int) (eBody8a : Option Addr) (eBody8n : Nat) (eBody8c : Nat) (eSig9 : Int) (R : Value → World → Prop) (w : World) : mfunc Try.prog [] 39 [.pointer l1, .agg #[.int .i64 eWriter2, .int .i64 eIndex3, .int .u64 ePrev4, .int .i64 eAtT5, .int .i64 eAtW6, .int .i64 eEpoch7, .slice eBody8a eBody8n eBody8c, .int .u64 eSig9]] R w = chain_Log_behind.M l1 eWriter2 eIndex3 ePrev4 eAtT5 eAtW6 eEpoch7 eBody8a eBody8n eBody8c eSig9 R w := by kernel_rfl
theorem chain_Log_behind.ok (l1 : Option Addr) (eWriter2 : Int) (eIndex3 : Int) (ePrev4 : Int) (eAtT5 : Int) (eAtW6 : Int) (eEpoch7 : Int) (eBody8a : Option Addr) (eBody8n : Nat) (eBody8c : Nat) (eSig9 : Int) {R : Value → World → Prop} {w : World} (h : chain_Log_behind.M l1 eWriter2 eIndex3 ePrev4 eAtT5 eAtW6 eEpoch7 eBody8a eBody8n eBody8c eSig9 R w) : Calls Try.prog 39 #[.pointer l1, .agg #[.int .i64 eWriter2, .int .i64 eIndex3, .int .u64 ePrev4, .int .i64 eAtT5, .int .i64 eAtW6, .int .i64 eEpoch7, .slice eBody8a eBody8n eBody8c, .int .u64 eSig9]] w fun e w' => ∃ v, e = .returned v ∧ R v w' :=
  mfunc_ok follows (H := []) (args := [.pointer l1, .agg #[.int .i64 eWriter2, .int .i64 eIndex3, .int .u64 ePrev4, .int .i64 eAtT5, .int .i64 eAtW6, .int .i64 eEpoch7, .slice eBody8a eBody8n eBody8c, .int .u64 eSig9]]) (by rw [chain_Log_behind.eq]; exact h)

def chain_Log_behind.N (l1 : Option Addr) (eWriter2 : Int) (eIndex3 : Int) (ePrev4 : Int) (eAtT5 : Int) (eAtW6 : Int) (eEpoch7 : Int) (eBody8a : Option Addr) (eBody8n : Nat) (eBody8c : Nat) (eSig9 : Int) (R : Value → World → Prop) (w : World) : Prop :=
  ∃ a11 : Addr, l1 = some a11 ∧
  ∃ (l13a : Option Addr) (l13n : Nat) (l13c : Nat), w.cell? (a11.add 3) = some (.slice l13a l13n l13c) ∧
  ∃ (sum16 : Int), w.cell? (a11.add 4) = some (.int .u64 sum16) ∧
  (ePrev4 ≠ sum16 →
    ∀ (ww14 : World), Ext no w ww14 →
    R (.int .i64 5) ww14) ∧
  (ePrev4 = sum16 →
    ((l13n : Int) > 0 →
      ∃ (l22a : Option Addr) (l22n : Nat) (l22c : Nat), w.cell? (a11.add 3) = some (.slice l22a l22n l22c) ∧
      (-9223372036854775808 : Int) ≤ ((l13n : Int) - 1) ∧ ((l13n : Int) - 1) < 9223372036854775808 ∧
      ∃ a23 : Addr, l22a = some a23 ∧
      0 ≤ (((l13n : Int) - 1) : Int) ∧ (((l13n : Int) - 1) : Int) < (l22n : Int) ∧
      ∃ (AtT25 : Int) (AtW26 : Int), cellsAt w ((a23.add (Int.toNat ((l13n : Int) - 1) * 8)).add 3) [.int .i64 AtT25, .int .i64 AtW26] 0 ∧
      ∀ (ww19 : World), Ext no w ww19 →
      Calls Try.prog 56 #[.agg #[.int .i64 AtT25, .int .i64 AtW26], .agg #[.int .i64 eAtT5, .int .i64 eAtW6]] ww19 fun ee29 ww30 => ∃ (less28 : Bool), ee29 = .returned (.bool less28) ∧
      (less28 = false →
        R (.int .i64 2) ww30) ∧
      (less28 = true →
        R (.int .i64 0) ww30)) ∧
    ((l13n : Int) ≤ 0 →
      ∀ (ww19 : World), Ext no w ww19 →
      R (.int .i64 0) ww19))

theorem chain_Log_behind.up (l1 : Option Addr) (eWriter2 : Int) (eIndex3 : Int) (ePrev4 : Int) (eAtT5 : Int) (eAtW6 : Int) (eEpoch7 : Int) (eBody8a : Option Addr) (eBody8n : Nat) (eBody8c : Nat) (eSig9 : Int) {R : Value → World → Prop} {w : World} (h : chain_Log_behind.N l1 eWriter2 eIndex3 ePrev4 eAtT5 eAtW6 eEpoch7 eBody8a eBody8n eBody8c eSig9 R w) : chain_Log_behind.M l1 eWriter2 eIndex3 ePrev4 eAtT5 eAtW6 eEpoch7 eBody8a eBody8n eBody8c eSig9 R w := by
  unfold chain_Log_behind.M
  unfold chain_Log_behind.N at h
  refine thenW_in fun ww10 e10 => ?_
  have hb1 := Blk.of_new e10
  have hg1 := ((Ext.refl no w)).size
  have hx10 := (Ext.refl no w).x_alloc e10
  obtain ⟨a11, ha11, h⟩ := h
  refine elim_some ha11 ?_
  obtain ⟨l13a, l13n, l13c, hc12, h⟩ := h
  refine ⟨l13a, l13n, l13c, (hx10).cell hc12 id, ?_⟩
  refine thenW_in fun ww14 e14 => ?_
  have hx14 := hx10.x_drew e14
  have hb1 := hb1.x_drew e14
  refine ⟨ePrev4, hb1.celli 2 rfl rfl, ?_⟩
  refine elim_some ha11 ?_
  obtain ⟨sum16, hc15, h⟩ := h
  refine ⟨sum16, (hx14).cell hc15 id, ?_⟩
  refine bif_of (fun c17 => ?_) (fun c17 => ?_)
  · have h := h.1 (bne_t c17)
    have h := h ww14 hx14
    exact h
  · have h := h.2 (bne_f c17)
    refine thenW_in fun ww19 e19 => ?_
    have hx19 := hx14.x_drew e19
    have hb1 := hb1.x_drew e19
    refine bif_of (fun c20 => ?_) (fun c20 => ?_)
    · have h := h.1 (of_decide_eq_true c20)
      refine elim_some ha11 ?_
      obtain ⟨l22a, l22n, l22c, hc21, h⟩ := h
      refine ⟨l22a, l22n, l22c, (hx19).cell hc21 id, ?_⟩
      obtain ⟨hw1, hw2, h⟩ := h
      try rw [w64 hw1 hw2]
      obtain ⟨a23, ha23, h⟩ := h
      refine elim_some ha23 ?_
      obtain ⟨hq1, hq2, h⟩ := h
      refine ⟨hq1, hq2, ?_⟩
      obtain ⟨AtT25, AtW26, hc24, h⟩ := h
      refine ⟨AtT25, AtW26, cellsAt_no (hx19) hc24, ?_⟩
      refine ⟨eAtT5, eAtW6, ⟨hb1.celli 3 rfl rfl, hb1.celli 4 rfl rfl, trivial⟩, ?_⟩
      have h := h ww19 hx19
      refine h.mono fun ee29 ww30 h => ?_
      obtain ⟨less28, he, h⟩ := h
      refine ⟨less28, he, ?_⟩
      refine bif_of (fun c31 => ?_) (fun c31 => ?_)
      · have h := h.1 (not_t c31)
        exact h
      · have h := h.2 (not_f c31)
        exact h
    · have h := h.2 (Int.not_lt.1 (of_decide_eq_false c20))
      have h := h ww19 hx19
      exact h

theorem chain_Log_behind.go (l1 : Option Addr) (eWriter2 : Int) (eIndex3 : Int) (ePrev4 : Int) (eAtT5 : Int) (eAtW6 : Int) (eEpoch7 : Int) (eBody8a : Option Addr) (eBody8n : Nat) (eBody8c : Nat) (eSig9 : Int) {R : Value → World → Prop} {w : World} (h : chain_Log_behind.N l1 eWriter2 eIndex3 ePrev4 eAtT5 eAtW6 eEpoch7 eBody8a eBody8n eBody8c eSig9 R w) : Calls Try.prog 39 #[.pointer l1, .agg #[.int .i64 eWriter2, .int .i64 eIndex3, .int .u64 ePrev4, .int .i64 eAtT5, .int .i64 eAtW6, .int .i64 eEpoch7, .slice eBody8a eBody8n eBody8c, .int .u64 eSig9]] w fun e w' => ∃ v, e = .returned v ∧ R v w' := chain_Log_behind.ok l1 eWriter2 eIndex3 ePrev4 eAtT5 eAtW6 eEpoch7 eBody8a eBody8n eBody8c eSig9 (chain_Log_behind.up l1 eWriter2 eIndex3 ePrev4 eAtT5 eAtW6 eEpoch7 eBody8a eBody8n eBody8c eSig9 h)
theorem chain_Log_behind.run (l1 : Option Addr) (eWriter2 : Int) (eIndex3 : Int) (ePrev4 : Int) (eAtT5 : Int) (eAtW6 : Int) (eEpoch7 : Int) (eBody8a : Option Addr) (eBody8n : Nat) (eBody8c : Nat) (eSig9 : Int) {V : Value} {Q : World → Prop} {w : World} (h : chain_Log_behind.N l1 eWriter2 eIndex3 ePrev4 eAtT5 eAtW6 eEpoch7 eBody8a eBody8n eBody8c eSig9 (fun v w' => v = V ∧ Q w') w) : Calls Try.prog 39 #[.pointer l1, .agg #[.int .i64 eWriter2, .int .i64 eIndex3, .int .u64 ePrev4, .int .i64 eAtT5, .int .i64 eAtW6, .int .i64 eEpoch7, .slice eBody8a eBody8n eBody8c, .int .u64 eSig9]] w (Ret V Q) := (chain_Log_behind.go l1 eWriter2 eIndex3 ePrev4 eAtT5 eAtW6 eEpoch7 eBody8a eBody8n eBody8c eSig9 h).mono fun e w' ⟨v, he, hv, hq⟩ => ⟨by rw [he, hv], hq⟩

/-- (*chain.Log).Check -/
def chain_Log_Check.M (l1 : Option Addr) (eWriter2 : Int) (eIndex3 : Int) (ePrev4 : Int) (eAtT5 : Int) (eAtW6 : Int) (eEpoch7 : Int) (eBody8a : Option Addr) (eBody8n : Nat) (eBody8c : Nat) (eSig9 : Int) (R : Value → World → Prop) (w : World) : Prop :=
  thenW (w.alloc (.cells #[.int .i64 eWriter2, .int .i64 eIndex3, .int .u64 ePrev4, .int .i64 eAtT5, .int .i64 eAtW6, .int .i64 eEpoch7, .slice eBody8a eBody8n eBody8c, .int .u64 eSig9] 39)) fun ww10 =>
  bif Option.isNone l1 then (
  R (.int .i64 23) ww10) else (
  ∃ (I0 : Nat → List Value → World → Prop) (m12 : Nat), I0 m12 [.int .i64 0] ww10 ∧ ∀ (m13 : Nat) (ww14 : World) (t11 : Int), I0 m13 [.int .i64 t11] ww14 →
  bif decide (t11 < 3) then (
  0 ≤ (t11 : Int) ∧ (t11 : Int) < (3 : Int) ∧
  ((t11 : Int) = 0 → 
  ∃ (xWriter15 : Int) (xIndex16 : Int) (xPrev17 : Int) (xAtT18 : Int) (xAtW19 : Int) (xEpoch20 : Int) (xBody21a : Option Addr) (xBody21n : Nat) (xBody21c : Nat) (xSig22 : Int), cellsAt ww14 (blk w.heap.size) [.int .i64 xWriter15, .int .i64 xIndex16, .int .u64 xPrev17, .int .i64 xAtT18, .int .i64 xAtW19, .int .i64 xEpoch20, .slice xBody21a xBody21n xBody21c, .int .u64 xSig22] 0 ∧
  Calls Try.prog 48 #[.pointer l1, .agg #[.int .i64 xWriter15, .int .i64 xIndex16, .int .u64 xPrev17, .int .i64 xAtT18, .int .i64 xAtW19, .int .i64 xEpoch20, .slice xBody21a xBody21n xBody21c, .int .u64 xSig22]] ww14 fun ee24 ww25 => ∃ (right23 : Int), ee24 = .returned (.int .i64 right23) ∧
  bif right23 != 0 then (
  R (.int .i64 right23) ww25) else (
  ∃ m26, m26 < m13 ∧ I0 m26 [.int .i64 (IntKind.i64.wrap (t11 + 1))] ww25)) ∧
  ((t11 : Int) = 1 → 
  ∃ (xWriter27 : Int) (xIndex28 : Int) (xPrev29 : Int) (xAtT30 : Int) (xAtW31 : Int) (xEpoch32 : Int) (xBody33a : Option Addr) (xBody33n : Nat) (xBody33c : Nat) (xSig34 : Int), cellsAt ww14 (blk w.heap.size) [.int .i64 xWriter27, .int .i64 xIndex28, .int .u64 xPrev29, .int .i64 xAtT30, .int .i64 xAtW31, .int .i64 xEpoch32, .slice xBody33a xBody33n xBody33c, .int .u64 xSig34] 0 ∧
  Calls Try.prog 49 #[.pointer l1, .agg #[.int .i64 xWriter27, .int .i64 xIndex28, .int .u64 xPrev29, .int .i64 xAtT30, .int .i64 xAtW31, .int .i64 xEpoch32, .slice xBody33a xBody33n xBody33c, .int .u64 xSig34]] ww14 fun ee36 ww37 => ∃ (place35 : Int), ee36 = .returned (.int .i64 place35) ∧
  bif place35 != 0 then (
  R (.int .i64 place35) ww37) else (
  ∃ m38, m38 < m13 ∧ I0 m38 [.int .i64 (IntKind.i64.wrap (t11 + 1))] ww37)) ∧
  ((t11 : Int) = 2 → 
  ∃ (xWriter39 : Int) (xIndex40 : Int) (xPrev41 : Int) (xAtT42 : Int) (xAtW43 : Int) (xEpoch44 : Int) (xBody45a : Option Addr) (xBody45n : Nat) (xBody45c : Nat) (xSig46 : Int), cellsAt ww14 (blk w.heap.size) [.int .i64 xWriter39, .int .i64 xIndex40, .int .u64 xPrev41, .int .i64 xAtT42, .int .i64 xAtW43, .int .i64 xEpoch44, .slice xBody45a xBody45n xBody45c, .int .u64 xSig46] 0 ∧
  Calls Try.prog 39 #[.pointer l1, .agg #[.int .i64 xWriter39, .int .i64 xIndex40, .int .u64 xPrev41, .int .i64 xAtT42, .int .i64 xAtW43, .int .i64 xEpoch44, .slice xBody45a xBody45n xBody45c, .int .u64 xSig46]] ww14 fun ee48 ww49 => ∃ (behind47 : Int), ee48 = .returned (.int .i64 behind47) ∧
  bif behind47 != 0 then (
  R (.int .i64 behind47) ww49) else (
  ∃ m50, m50 < m13 ∧ I0 m50 [.int .i64 (IntKind.i64.wrap (t11 + 1))] ww49)) ∧ True) else (
  R (.int .i64 0) ww14))

theorem chain_Log_Check.eq (l1 : Option Addr) (eWriter2 : Int) (eIndex3 : Int) (ePrev4 : Int) (eAtT5 : Int) (eAtW6 : Int) (eEpoch7 : Int) (eBody8a : Option Addr) (eBody8n : Nat) (eBody8c : Nat) (eSig9 : Int) (R : Value → World → Prop) (w : World) : mfunc Try.prog [(0, [3, 16], [(17, (.one (.int .i64)))])] 26 [.pointer l1, .agg #[.int .i64 eWriter2, .int .i64 eIndex3, .int .u64 ePrev4, .int .i64 eAtT5, .int .i64 eAtW6, .int .i64 eEpoch7, .slice eBody8a eBody8n eBody8c, .int .u64 eSig9]] R w = chain_Log_Check.M l1 eWriter2 eIndex3 ePrev4 eAtT5 eAtW6 eEpoch7 eBody8a eBody8n eBody8c eSig9 R w := by kernel_rfl
theorem chain_Log_Check.ok (l1 : Option Addr) (eWriter2 : Int) (eIndex3 : Int) (ePrev4 : Int) (eAtT5 : Int) (eAtW6 : Int) (eEpoch7 : Int) (eBody8a : Option Addr) (eBody8n : Nat) (eBody8c : Nat) (eSig9 : Int) {R : Value → World → Prop} {w : World} (h : chain_Log_Check.M l1 eWriter2 eIndex3 ePrev4 eAtT5 eAtW6 eEpoch7 eBody8a eBody8n eBody8c eSig9 R w) : Calls Try.prog 26 #[.pointer l1, .agg #[.int .i64 eWriter2, .int .i64 eIndex3, .int .u64 ePrev4, .int .i64 eAtT5, .int .i64 eAtW6, .int .i64 eEpoch7, .slice eBody8a eBody8n eBody8c, .int .u64 eSig9]] w fun e w' => ∃ v, e = .returned v ∧ R v w' :=
  mfunc_ok follows (H := [(0, [3, 16], [(17, (.one (.int .i64)))])]) (args := [.pointer l1, .agg #[.int .i64 eWriter2, .int .i64 eIndex3, .int .u64 ePrev4, .int .i64 eAtT5, .int .i64 eAtW6, .int .i64 eEpoch7, .slice eBody8a eBody8n eBody8c, .int .u64 eSig9]]) (by rw [chain_Log_Check.eq]; exact h)

def chain_Log_Check.N (l1 : Option Addr) (eWriter2 : Int) (eIndex3 : Int) (ePrev4 : Int) (eAtT5 : Int) (eAtW6 : Int) (eEpoch7 : Int) (eBody8a : Option Addr) (eBody8n : Nat) (eBody8c : Nat) (eSig9 : Int) (R : Value → World → Prop) (w : World) : Prop :=
  (l1 = none →
    ∀ (ww10 : World), Ext no w ww10 →
    R (.int .i64 23) ww10) ∧
  (l1 ≠ none →
    ∀ (ww10 : World) (p13 : Nat), Ext no w ww10 → Priv w ww10 [p13] →
    ∃ (I0 : Nat → List Value → World → Prop) (m15 : Nat), I0 m15 [.int .i64 0] ww10 ∧ ∀ (m16 : Nat) (ww17 : World) (t14 : Int), I0 m16 [.int .i64 t14] ww17 →
    (t14 < 3 →
      0 ≤ (t14 : Int) ∧ (t14 : Int) < (3 : Int) ∧
      ((t14 : Int) = 0 →
        Calls Try.prog 48 #[.pointer l1, .agg #[.int .i64 eWriter2, .int .i64 eIndex3, .int .u64 ePrev4, .int .i64 eAtT5, .int .i64 eAtW6, .int .i64 eEpoch7, .slice eBody8a eBody8n eBody8c, .int .u64 eSig9]] ww17 fun ee20 ww21 => ∃ (right19 : Int), ee20 = .returned (.int .i64 right19) ∧
        Keep [p13] ww17 ww21 ∧
        (right19 ≠ 0 →
          R (.int .i64 right19) ww21) ∧
        (right19 = 0 →
          (-9223372036854775808 : Int) ≤ (t14 + 1) ∧ (t14 + 1) < 9223372036854775808 ∧
          ∃ m23, m23 < m16 ∧ I0 m23 [.int .i64 (t14 + 1)] ww21)) ∧
      ((t14 : Int) = 1 →
        Calls Try.prog 49 #[.pointer l1, .agg #[.int .i64 eWriter2, .int .i64 eIndex3, .int .u64 ePrev4, .int .i64 eAtT5, .int .i64 eAtW6, .int .i64 eEpoch7, .slice eBody8a eBody8n eBody8c, .int .u64 eSig9]] ww17 fun ee25 ww26 => ∃ (place24 : Int), ee25 = .returned (.int .i64 place24) ∧
        Keep [p13] ww17 ww26 ∧
        (place24 ≠ 0 →
          R (.int .i64 place24) ww26) ∧
        (place24 = 0 →
          (-9223372036854775808 : Int) ≤ (t14 + 1) ∧ (t14 + 1) < 9223372036854775808 ∧
          ∃ m28, m28 < m16 ∧ I0 m28 [.int .i64 (t14 + 1)] ww26)) ∧
      ((t14 : Int) = 2 →
        Calls Try.prog 39 #[.pointer l1, .agg #[.int .i64 eWriter2, .int .i64 eIndex3, .int .u64 ePrev4, .int .i64 eAtT5, .int .i64 eAtW6, .int .i64 eEpoch7, .slice eBody8a eBody8n eBody8c, .int .u64 eSig9]] ww17 fun ee30 ww31 => ∃ (behind29 : Int), ee30 = .returned (.int .i64 behind29) ∧
        Keep [p13] ww17 ww31 ∧
        (behind29 ≠ 0 →
          R (.int .i64 behind29) ww31) ∧
        (behind29 = 0 →
          (-9223372036854775808 : Int) ≤ (t14 + 1) ∧ (t14 + 1) < 9223372036854775808 ∧
          ∃ m33, m33 < m16 ∧ I0 m33 [.int .i64 (t14 + 1)] ww31))) ∧
    ((3 : Int) ≤ t14 →
      R (.int .i64 0) ww17))

theorem chain_Log_Check.up (l1 : Option Addr) (eWriter2 : Int) (eIndex3 : Int) (ePrev4 : Int) (eAtT5 : Int) (eAtW6 : Int) (eEpoch7 : Int) (eBody8a : Option Addr) (eBody8n : Nat) (eBody8c : Nat) (eSig9 : Int) {R : Value → World → Prop} {w : World} (h : chain_Log_Check.N l1 eWriter2 eIndex3 ePrev4 eAtT5 eAtW6 eEpoch7 eBody8a eBody8n eBody8c eSig9 R w) : chain_Log_Check.M l1 eWriter2 eIndex3 ePrev4 eAtT5 eAtW6 eEpoch7 eBody8a eBody8n eBody8c eSig9 R w := by
  unfold chain_Log_Check.M
  unfold chain_Log_Check.N at h
  refine thenW_in fun ww10 e10 => ?_
  have hb1 := Blk.of_new e10
  have hg1 := ((Ext.refl no w)).size
  have hx10 := (Ext.refl no w).x_alloc e10
  refine bif_of (fun c11 => ?_) (fun c11 => ?_)
  · have h := h.1 (isNone_t c11)
    have h := h ww10 hx10
    exact h
  · have h := h.2 (isNone_f c11)
    have h := h ww10 (w.heap.size) hx10 (Priv.cons hg1 hb1.lt Priv.nil)
    obtain ⟨I0, m15, h0, h⟩ := h
    refine ⟨fun k vs ww => Blk ww w.heap.size 39 [.int .i64 eWriter2, .int .i64 eIndex3, .int .u64 ePrev4, .int .i64 eAtT5, .int .i64 eAtW6, .int .i64 eEpoch7, .slice eBody8a eBody8n eBody8c, .int .u64 eSig9] ∧ I0 k vs ww, m15, ⟨hb1, h0⟩, fun m16 ww17 t14 hI => ?_⟩
    obtain ⟨hb1, hI⟩ := hI
    have h := h m16 ww17 t14 hI
    refine bif_of (fun c18 => ?_) (fun c18 => ?_)
    · have h := h.1 (of_decide_eq_true c18)
      obtain ⟨hq1, hq2, h⟩ := h
      refine ⟨hq1, hq2, ?_⟩
      refine ⟨fun hk => ?_, fun hk => ?_, fun hk => ?_, trivial⟩
      · have h := h.1 hk
        refine ⟨eWriter2, eIndex3, ePrev4, eAtT5, eAtW6, eEpoch7, eBody8a, eBody8n, eBody8c, eSig9, ⟨hb1.celli 0 rfl rfl, hb1.celli 1 rfl rfl, hb1.celli 2 rfl rfl, hb1.celli 3 rfl rfl, hb1.celli 4 rfl rfl, hb1.celli 5 rfl rfl, hb1.celli 6 rfl rfl, hb1.celli 7 rfl rfl, trivial⟩, ?_⟩
        refine h.mono fun ee20 ww21 h => ?_
        obtain ⟨right19, he, hk, h⟩ := h
        refine ⟨right19, he, ?_⟩
        have hb1 := hk.blk hb1 (by simp)
        refine bif_of (fun c22 => ?_) (fun c22 => ?_)
        · have h := h.1 (bne_t c22)
          exact h
        · have h := h.2 (bne_f c22)
          obtain ⟨hw1, hw2, h⟩ := h
          try rw [w64 hw1 hw2]
          obtain ⟨m23, hk, h⟩ := h
          exact ⟨m23, hk, hb1, h⟩
      · have h := h.2.1 hk
        refine ⟨eWriter2, eIndex3, ePrev4, eAtT5, eAtW6, eEpoch7, eBody8a, eBody8n, eBody8c, eSig9, ⟨hb1.celli 0 rfl rfl, hb1.celli 1 rfl rfl, hb1.celli 2 rfl rfl, hb1.celli 3 rfl rfl, hb1.celli 4 rfl rfl, hb1.celli 5 rfl rfl, hb1.celli 6 rfl rfl, hb1.celli 7 rfl rfl, trivial⟩, ?_⟩
        refine h.mono fun ee25 ww26 h => ?_
        obtain ⟨place24, he, hk, h⟩ := h
        refine ⟨place24, he, ?_⟩
        have hb1 := hk.blk hb1 (by simp)
        refine bif_of (fun c27 => ?_) (fun c27 => ?_)
        · have h := h.1 (bne_t c27)
          exact h
        · have h := h.2 (bne_f c27)
          obtain ⟨hw1, hw2, h⟩ := h
          try rw [w64 hw1 hw2]
          obtain ⟨m28, hk, h⟩ := h
          exact ⟨m28, hk, hb1, h⟩
      · have h := h.2.2 hk
        refine ⟨eWriter2, eIndex3, ePrev4, eAtT5, eAtW6, eEpoch7, eBody8a, eBody8n, eBody8c, eSig9, ⟨hb1.celli 0 rfl rfl, hb1.celli 1 rfl rfl, hb1.celli 2 rfl rfl, hb1.celli 3 rfl rfl, hb1.celli 4 rfl rfl, hb1.celli 5 rfl rfl, hb1.celli 6 rfl rfl, hb1.celli 7 rfl rfl, trivial⟩, ?_⟩
        refine h.mono fun ee30 ww31 h => ?_
        obtain ⟨behind29, he, hk, h⟩ := h
        refine ⟨behind29, he, ?_⟩
        have hb1 := hk.blk hb1 (by simp)
        refine bif_of (fun c32 => ?_) (fun c32 => ?_)
        · have h := h.1 (bne_t c32)
          exact h
        · have h := h.2 (bne_f c32)
          obtain ⟨hw1, hw2, h⟩ := h
          try rw [w64 hw1 hw2]
          obtain ⟨m33, hk, h⟩ := h
          exact ⟨m33, hk, hb1, h⟩
    · have h := h.2 (Int.not_lt.1 (of_decide_eq_false c18))
      exact h

theorem chain_Log_Check.go (l1 : Option Addr) (eWriter2 : Int) (eIndex3 : Int) (ePrev4 : Int) (eAtT5 : Int) (eAtW6 : Int) (eEpoch7 : Int) (eBody8a : Option Addr) (eBody8n : Nat) (eBody8c : Nat) (eSig9 : Int) {R : Value → World → Prop} {w : World} (h : chain_Log_Check.N l1 eWriter2 eIndex3 ePrev4 eAtT5 eAtW6 eEpoch7 eBody8a eBody8n eBody8c eSig9 R w) : Calls Try.prog 26 #[.pointer l1, .agg #[.int .i64 eWriter2, .int .i64 eIndex3, .int .u64 ePrev4, .int .i64 eAtT5, .int .i64 eAtW6, .int .i64 eEpoch7, .slice eBody8a eBody8n eBody8c, .int .u64 eSig9]] w fun e w' => ∃ v, e = .returned v ∧ R v w' := chain_Log_Check.ok l1 eWriter2 eIndex3 ePrev4 eAtT5 eAtW6 eEpoch7 eBody8a eBody8n eBody8c eSig9 (chain_Log_Check.up l1 eWriter2 eIndex3 ePrev4 eAtT5 eAtW6 eEpoch7 eBody8a eBody8n eBody8c eSig9 h)
theorem chain_Log_Check.run (l1 : Option Addr) (eWriter2 : Int) (eIndex3 : Int) (ePrev4 : Int) (eAtT5 : Int) (eAtW6 : Int) (eEpoch7 : Int) (eBody8a : Option Addr) (eBody8n : Nat) (eBody8c : Nat) (eSig9 : Int) {V : Value} {Q : World → Prop} {w : World} (h : chain_Log_Check.N l1 eWriter2 eIndex3 ePrev4 eAtT5 eAtW6 eEpoch7 eBody8a eBody8n eBody8c eSig9 (fun v w' => v = V ∧ Q w') w) : Calls Try.prog 26 #[.pointer l1, .agg #[.int .i64 eWriter2, .int .i64 eIndex3, .int .u64 ePrev4, .int .i64 eAtT5, .int .i64 eAtW6, .int .i64 eEpoch7, .slice eBody8a eBody8n eBody8c, .int .u64 eSig9]] w (Ret V Q) := (chain_Log_Check.go l1 eWriter2 eIndex3 ePrev4 eAtT5 eAtW6 eEpoch7 eBody8a eBody8n eBody8c eSig9 h).mono fun e w' ⟨v, he, hv, hq⟩ => ⟨by rw [he, hv], hq⟩

/-- (*chain.Log).put -/
def chain_Log_put.M (l1 : Option Addr) (eWriter2 : Int) (eIndex3 : Int) (ePrev4 : Int) (eAtT5 : Int) (eAtW6 : Int) (eEpoch7 : Int) (eBody8a : Option Addr) (eBody8n : Nat) (eBody8c : Nat) (eSig9 : Int) (R : Value → World → Prop) (w : World) : Prop :=
  thenW (w.alloc (.cells #[.int .i64 eWriter2, .int .i64 eIndex3, .int .u64 ePrev4, .int .i64 eAtT5, .int .i64 eAtW6, .int .i64 eEpoch7, .slice eBody8a eBody8n eBody8c, .int .u64 eSig9] 39)) fun ww10 =>
  thenW (ww10.drew) fun ww11 =>
  l1.elim False fun a12 =>
  ∃ (l13a : Option Addr) (l13n : Nat) (l13c : Nat), ww11.cell? (a12.add 3) = some (.slice l13a l13n l13c) ∧
  ∃ (xWriter14 : Int) (xIndex15 : Int) (xPrev16 : Int) (xAtT17 : Int) (xAtW18 : Int) (xEpoch19 : Int) (xBody20a : Option Addr) (xBody20n : Nat) (xBody20c : Nat) (xSig21 : Int), cellsAt ww11 (blk w.heap.size) [.int .i64 xWriter14, .int .i64 xIndex15, .int .u64 xPrev16, .int .i64 xAtT17, .int .i64 xAtW18, .int .i64 xEpoch19, .slice xBody20a xBody20n xBody20c, .int .u64 xSig21] 0 ∧
  Calls Try.prog 42 #[.agg #[.int .i64 xWriter14, .int .i64 xIndex15, .int .u64 xPrev16, .int .i64 xAtT17, .int .i64 xAtW18, .int .i64 xEpoch19, .slice xBody20a xBody20n xBody20c, .int .u64 xSig21]] ww11 fun ee30 ww31 => ∃ (Writer22 : Int) (Index23 : Int) (Prev24 : Int) (AtT25 : Int) (AtW26 : Int) (Epoch27 : Int) (Body28a : Option Addr) (Body28n : Nat) (Body28c : Nat) (Sig29 : Int), ee30 = .returned (.agg #[.int .i64 Writer22, .int .i64 Index23, .int .u64 Prev24, .int .i64 AtT25, .int .i64 AtW26, .int .i64 Epoch27, .slice Body28a Body28n Body28c, .int .u64 Sig29]) ∧
  ww31.cell? (a12.add 3) = some (.slice l13a l13n l13c) ∧
  thenW (ww31.alloc (.cells #[.int .i64 Writer22, .int .i64 Index23, .int .u64 Prev24, .int .i64 AtT25, .int .i64 AtW26, .int .i64 Epoch27, .slice Body28a Body28n Body28c, .int .u64 Sig29] 39)) fun ww32 =>
  ww32.cell? (a12.add 3) = some (.slice l13a l13n l13c) ∧
  ∃ (a33a : Option Addr) (a33n : Nat) (a33c : Nat) (ww34 : World), (Builtin.append_ #[49, 49] 49 #[.slice l13a l13n l13c, .slice (some (blk ww31.heap.size)) 1 1]).run Try.prog ww32 = .ok (.slice a33a a33n a33c) ww34 ∧
  l1.elim False fun a35 =>
  canStore ww34 ((a35.add 3).add 0) ∧
  thenW (ww34.setCell ((a35.add 3).add 0) (.slice a33a a33n a33c)) fun ww36 =>
  thenW (ww36.drew) fun ww37 =>
  l1.elim False fun a38 =>
  ∃ (o39 : Option Addr), ww37.cell? (a38.add 0) = some (.pointer o39) ∧
  ∃ (xWriter40 : Int) (xIndex41 : Int) (xPrev42 : Int) (xAtT43 : Int) (xAtW44 : Int) (xEpoch45 : Int) (xBody46a : Option Addr) (xBody46n : Nat) (xBody46c : Nat) (xSig47 : Int), cellsAt ww37 (blk w.heap.size) [.int .i64 xWriter40, .int .i64 xIndex41, .int .u64 xPrev42, .int .i64 xAtT43, .int .i64 xAtW44, .int .i64 xEpoch45, .slice xBody46a xBody46n xBody46c, .int .u64 xSig47] 0 ∧
  Calls Try.prog 51 #[.pointer o39, .agg #[.int .i64 xWriter40, .int .i64 xIndex41, .int .u64 xPrev42, .int .i64 xAtT43, .int .i64 xAtW44, .int .i64 xEpoch45, .slice xBody46a xBody46n xBody46c, .int .u64 xSig47]] ww37 fun ee50 ww51 => ∃ (sum48 : Int) (sum49 : Int), ee50 = .returned (.tuple #[.int .u64 sum48, .int .i64 sum49]) ∧
  l1.elim False fun a52 =>
  canStore ww51 ((a52.add 4).add 0) ∧
  thenW (ww51.setCell ((a52.add 4).add 0) (.int .u64 sum48)) fun ww53 =>
  R (.tuple #[]) ww53

theorem chain_Log_put.eq (l1 : Option Addr) (eWriter2 : Int) (eIndex3 : Int) (ePrev4 : Int) (eAtT5 : Int) (eAtW6 : Int) (eEpoch7 : Int) (eBody8a : Option Addr) (eBody8n : Nat) (eBody8c : Nat) (eSig9 : Int) (R : Value → World → Prop) (w : World) : mfunc Try.prog [] 41 [.pointer l1, .agg #[.int .i64 eWriter2, .int .i64 eIndex3, .int .u64 ePrev4, .int .i64 eAtT5, .int .i64 eAtW6, .int .i64 eEpoch7, .slice eBody8a eBody8n eBody8c, .int .u64 eSig9]] R w = chain_Log_put.M l1 eWriter2 eIndex3 ePrev4 eAtT5 eAtW6 eEpoch7 eBody8a eBody8n eBody8c eSig9 R w := by kernel_rfl
theorem chain_Log_put.ok (l1 : Option Addr) (eWriter2 : Int) (eIndex3 : Int) (ePrev4 : Int) (eAtT5 : Int) (eAtW6 : Int) (eEpoch7 : Int) (eBody8a : Option Addr) (eBody8n : Nat) (eBody8c : Nat) (eSig9 : Int) {R : Value → World → Prop} {w : World} (h : chain_Log_put.M l1 eWriter2 eIndex3 ePrev4 eAtT5 eAtW6 eEpoch7 eBody8a eBody8n eBody8c eSig9 R w) : Calls Try.prog 41 #[.pointer l1, .agg #[.int .i64 eWriter2, .int .i64 eIndex3, .int .u64 ePrev4, .int .i64 eAtT5, .int .i64 eAtW6, .int .i64 eEpoch7, .slice eBody8a eBody8n eBody8c, .int .u64 eSig9]] w fun e w' => ∃ v, e = .returned v ∧ R v w' :=
  mfunc_ok follows (H := []) (args := [.pointer l1, .agg #[.int .i64 eWriter2, .int .i64 eIndex3, .int .u64 ePrev4, .int .i64 eAtT5, .int .i64 eAtW6, .int .i64 eEpoch7, .slice eBody8a eBody8n eBody8c, .int .u64 eSig9]]) (by rw [chain_Log_put.eq]; exact h)

def chain_Log_put.N (l1 : Option Addr) (eWriter2 : Int) (eIndex3 : Int) (ePrev4 : Int) (eAtT5 : Int) (eAtW6 : Int) (eEpoch7 : Int) (eBody8a : Option Addr) (eBody8n : Nat) (eBody8c : Nat) (eSig9 : Int) (R : Value → World → Prop) (w : World) : Prop :=
  ∃ a12 : Addr, l1 = some a12 ∧
  ∃ (l14a : Option Addr) (l14n : Nat) (l14c : Nat), w.cell? (a12.add 3) = some (.slice l14a l14n l14c) ∧
  ∀ (ww11 : World) (p15 : Nat), Ext no w ww11 → Priv w ww11 [p15] →
  Calls Try.prog 42 #[.agg #[.int .i64 eWriter2, .int .i64 eIndex3, .int .u64 ePrev4, .int .i64 eAtT5, .int .i64 eAtW6, .int .i64 eEpoch7, .slice eBody8a eBody8n eBody8c, .int .u64 eSig9]] ww11 fun ee24 ww25 => ∃ (Writer16 : Int) (Index17 : Int) (Prev18 : Int) (AtT19 : Int) (AtW20 : Int) (Epoch21 : Int) (Body22a : Option Addr) (Body22n : Nat) (Body22c : Nat) (Sig23 : Int), ee24 = .returned (.agg #[.int .i64 Writer16, .int .i64 Index17, .int .u64 Prev18, .int .i64 AtT19, .int .i64 AtW20, .int .i64 Epoch21, .slice Body22a Body22n Body22c, .int .u64 Sig23]) ∧
  Keep [p15] ww11 ww25 ∧
  ww25.cell? (a12.add 3) = some (.slice l14a l14n l14c) ∧
  ∀ (ww27 : World) (q28 : Nat), Ext no ww25 ww27 → Blk ww27 q28 39 [.int .i64 Writer16, .int .i64 Index17, .int .u64 Prev18, .int .i64 AtT19, .int .i64 AtW20, .int .i64 Epoch21, .slice Body22a Body22n Body22c, .int .u64 Sig23] → ww25.heap.size ≤ q28 → q28 < ww27.heap.size →
  ww27.cell? (a12.add 3) = some (.slice l14a l14n l14c) ∧
  ∃ (a30a : Option Addr) (a30n : Nat) (a30c : Nat) (ww31 : World), (Builtin.append_ #[49, 49] 49 #[.slice l14a l14n l14c, .slice (some (blk q28)) 1 1]).run Try.prog ww27 = .ok (.slice a30a a30n a30c) ww31 ∧
  Keep [p15] ww27 ww31 ∧
  canStore ww31 ((a12.add 3).add 0) ∧
  (∀ p ∈ [p15], p ≠ Addr.block (a12.add 3)) ∧
  thenW (ww31.setCell ((a12.add 3).add 0) (.slice a30a a30n a30c)) fun ww32 =>
  ∃ (o35 : Option Addr), ww32.cell? (a12.add 0) = some (.pointer o35) ∧
  ∀ (ww33 : World), Ext no ww32 ww33 →
  Calls Try.prog 51 #[.pointer o35, .agg #[.int .i64 eWriter2, .int .i64 eIndex3, .int .u64 ePrev4, .int .i64 eAtT5, .int .i64 eAtW6, .int .i64 eEpoch7, .slice eBody8a eBody8n eBody8c, .int .u64 eSig9]] ww33 fun ee38 ww39 => ∃ (sum36 : Int) (sum37 : Int), ee38 = .returned (.tuple #[.int .u64 sum36, .int .i64 sum37]) ∧
  canStore ww39 ((a12.add 4).add 0) ∧
  thenW (ww39.setCell ((a12.add 4).add 0) (.int .u64 sum36)) fun ww40 =>
  R (.tuple #[]) ww40

theorem chain_Log_put.up (l1 : Option Addr) (eWriter2 : Int) (eIndex3 : Int) (ePrev4 : Int) (eAtT5 : Int) (eAtW6 : Int) (eEpoch7 : Int) (eBody8a : Option Addr) (eBody8n : Nat) (eBody8c : Nat) (eSig9 : Int) {R : Value → World → Prop} {w : World} (h : chain_Log_put.N l1 eWriter2 eIndex3 ePrev4 eAtT5 eAtW6 eEpoch7 eBody8a eBody8n eBody8c eSig9 R w) : chain_Log_put.M l1 eWriter2 eIndex3 ePrev4 eAtT5 eAtW6 eEpoch7 eBody8a eBody8n eBody8c eSig9 R w := by
  unfold chain_Log_put.M
  unfold chain_Log_put.N at h
  refine thenW_in fun ww10 e10 => ?_
  have hb1 := Blk.of_new e10
  have hg1 := ((Ext.refl no w)).size
  have hx10 := (Ext.refl no w).x_alloc e10
  refine thenW_in fun ww11 e11 => ?_
  have hx11 := hx10.x_drew e11
  have hb1 := hb1.x_drew e11
  obtain ⟨a12, ha12, h⟩ := h
  refine elim_some ha12 ?_
  obtain ⟨l14a, l14n, l14c, hc13, h⟩ := h
  refine ⟨l14a, l14n, l14c, (hx11).cell hc13 id, ?_⟩
  refine ⟨eWriter2, eIndex3, ePrev4, eAtT5, eAtW6, eEpoch7, eBody8a, eBody8n, eBody8c, eSig9, ⟨hb1.celli 0 rfl rfl, hb1.celli 1 rfl rfl, hb1.celli 2 rfl rfl, hb1.celli 3 rfl rfl, hb1.celli 4 rfl rfl, hb1.celli 5 rfl rfl, hb1.celli 6 rfl rfl, hb1.celli 7 rfl rfl, trivial⟩, ?_⟩
  have h := h ww11 (w.heap.size) hx11 (Priv.cons hg1 hb1.lt Priv.nil)
  refine h.mono fun ee24 ww25 h => ?_
  obtain ⟨Writer16, Index17, Prev18, AtT19, AtW20, Epoch21, Body22a, Body22n, Body22c, Sig23, he, hk, h⟩ := h
  refine ⟨Writer16, Index17, Prev18, AtT19, AtW20, Epoch21, Body22a, Body22n, Body22c, Sig23, he, ?_⟩
  have hb1 := hk.blk hb1 (by simp)
  obtain ⟨ho26, h⟩ := h
  refine ⟨ho26, ?_⟩
  refine thenW_in fun ww27 e27 => ?_
  have hb1 := hb1.x_alloc e27
  have h := h ww27 ww25.heap.size ((Ext.refl no ww25).x_alloc e27) (Blk.of_new e27) ((Ext.refl no ww25)).size (size_lt_alloc e27)
  obtain ⟨ho29, h⟩ := h
  refine ⟨ho29, ?_⟩
  obtain ⟨a30a, a30n, a30c, ww31, hr, hk, h⟩ := h
  refine ⟨a30a, a30n, a30c, ww31, hr, ?_⟩
  have hb1 := hk.blk hb1 (by simp)
  refine elim_some ha12 ?_
  obtain ⟨hcs, hof, h⟩ := h
  refine ⟨hcs, thenW_in fun ww32 e32 => ?_⟩
  replace h := thenW_out h e32
  have hb1 := hb1.off (by rw [block_add]; exact hof _ (by simp)) e32
  refine thenW_in fun ww33 e33 => ?_
  have hx33 := (Ext.refl no ww32).x_drew e33
  have hb1 := hb1.x_drew e33
  refine elim_some ha12 ?_
  obtain ⟨o35, hc34, h⟩ := h
  refine ⟨o35, (hx33).cell hc34 id, ?_⟩
  refine ⟨eWriter2, eIndex3, ePrev4, eAtT5, eAtW6, eEpoch7, eBody8a, eBody8n, eBody8c, eSig9, ⟨hb1.celli 0 rfl rfl, hb1.celli 1 rfl rfl, hb1.celli 2 rfl rfl, hb1.celli 3 rfl rfl, hb1.celli 4 rfl rfl, hb1.celli 5 rfl rfl, hb1.celli 6 rfl rfl, hb1.celli 7 rfl rfl, trivial⟩, ?_⟩
  have h := h ww33 hx33
  refine h.mono fun ee38 ww39 h => ?_
  obtain ⟨sum36, sum37, he, h⟩ := h
  refine ⟨sum36, sum37, he, ?_⟩
  refine elim_some ha12 ?_
  obtain ⟨hcs, h⟩ := h
  refine ⟨hcs, thenW_in fun ww40 e40 => ?_⟩
  replace h := thenW_out h e40
  exact h

theorem chain_Log_put.go (l1 : Option Addr) (eWriter2 : Int) (eIndex3 : Int) (ePrev4 : Int) (eAtT5 : Int) (eAtW6 : Int) (eEpoch7 : Int) (eBody8a : Option Addr) (eBody8n : Nat) (eBody8c : Nat) (eSig9 : Int) {R : Value → World → Prop} {w : World} (h : chain_Log_put.N l1 eWriter2 eIndex3 ePrev4 eAtT5 eAtW6 eEpoch7 eBody8a eBody8n eBody8c eSig9 R w) : Calls Try.prog 41 #[.pointer l1, .agg #[.int .i64 eWriter2, .int .i64 eIndex3, .int .u64 ePrev4, .int .i64 eAtT5, .int .i64 eAtW6, .int .i64 eEpoch7, .slice eBody8a eBody8n eBody8c, .int .u64 eSig9]] w fun e w' => ∃ v, e = .returned v ∧ R v w' := chain_Log_put.ok l1 eWriter2 eIndex3 ePrev4 eAtT5 eAtW6 eEpoch7 eBody8a eBody8n eBody8c eSig9 (chain_Log_put.up l1 eWriter2 eIndex3 ePrev4 eAtT5 eAtW6 eEpoch7 eBody8a eBody8n eBody8c eSig9 h)
theorem chain_Log_put.run (l1 : Option Addr) (eWriter2 : Int) (eIndex3 : Int) (ePrev4 : Int) (eAtT5 : Int) (eAtW6 : Int) (eEpoch7 : Int) (eBody8a : Option Addr) (eBody8n : Nat) (eBody8c : Nat) (eSig9 : Int) {V : Value} {Q : World → Prop} {w : World} (h : chain_Log_put.N l1 eWriter2 eIndex3 ePrev4 eAtT5 eAtW6 eEpoch7 eBody8a eBody8n eBody8c eSig9 (fun v w' => v = V ∧ Q w') w) : Calls Try.prog 41 #[.pointer l1, .agg #[.int .i64 eWriter2, .int .i64 eIndex3, .int .u64 ePrev4, .int .i64 eAtT5, .int .i64 eAtW6, .int .i64 eEpoch7, .slice eBody8a eBody8n eBody8c, .int .u64 eSig9]] w (Ret V Q) := (chain_Log_put.go l1 eWriter2 eIndex3 ePrev4 eAtT5 eAtW6 eEpoch7 eBody8a eBody8n eBody8c eSig9 h).mono fun e w' ⟨v, he, hv, hq⟩ => ⟨by rw [he, hv], hq⟩

/-- (*chain.Log).Accept -/
def chain_Log_Accept.M (l1 : Option Addr) (eWriter2 : Int) (eIndex3 : Int) (ePrev4 : Int) (eAtT5 : Int) (eAtW6 : Int) (eEpoch7 : Int) (eBody8a : Option Addr) (eBody8n : Nat) (eBody8c : Nat) (eSig9 : Int) (R : Value → World → Prop) (w : World) : Prop :=
  thenW (w.alloc (.cells #[.int .i64 eWriter2, .int .i64 eIndex3, .int .u64 ePrev4, .int .i64 eAtT5, .int .i64 eAtW6, .int .i64 eEpoch7, .slice eBody8a eBody8n eBody8c, .int .u64 eSig9] 39)) fun ww10 =>
  ∃ (xWriter11 : Int) (xIndex12 : Int) (xPrev13 : Int) (xAtT14 : Int) (xAtW15 : Int) (xEpoch16 : Int) (xBody17a : Option Addr) (xBody17n : Nat) (xBody17c : Nat) (xSig18 : Int), cellsAt ww10 (blk w.heap.size) [.int .i64 xWriter11, .int .i64 xIndex12, .int .u64 xPrev13, .int .i64 xAtT14, .int .i64 xAtW15, .int .i64 xEpoch16, .slice xBody17a xBody17n xBody17c, .int .u64 xSig18] 0 ∧
  Calls Try.prog 26 #[.pointer l1, .agg #[.int .i64 xWriter11, .int .i64 xIndex12, .int .u64 xPrev13, .int .i64 xAtT14, .int .i64 xAtW15, .int .i64 xEpoch16, .slice xBody17a xBody17n xBody17c, .int .u64 xSig18]] ww10 fun ee20 ww21 => ∃ (check19 : Int), ee20 = .returned (.int .i64 check19) ∧
  bif check19 == 0 then (
  ∃ (xWriter22 : Int) (xIndex23 : Int) (xPrev24 : Int) (xAtT25 : Int) (xAtW26 : Int) (xEpoch27 : Int) (xBody28a : Option Addr) (xBody28n : Nat) (xBody28c : Nat) (xSig29 : Int), cellsAt ww21 (blk w.heap.size) [.int .i64 xWriter22, .int .i64 xIndex23, .int .u64 xPrev24, .int .i64 xAtT25, .int .i64 xAtW26, .int .i64 xEpoch27, .slice xBody28a xBody28n xBody28c, .int .u64 xSig29] 0 ∧
  Calls Try.prog 41 #[.pointer l1, .agg #[.int .i64 xWriter22, .int .i64 xIndex23, .int .u64 xPrev24, .int .i64 xAtT25, .int .i64 xAtW26, .int .i64 xEpoch27, .slice xBody28a xBody28n xBody28c, .int .u64 xSig29]] ww21 fun ee30 ww31 => ee30 = .returned (.tuple #[]) ∧
  R (.int .i64 check19) ww31) else (
  R (.int .i64 check19) ww21)

theorem chain_Log_Accept.eq (l1 : Option Addr) (eWriter2 : Int) (eIndex3 : Int) (ePrev4 : Int) (eAtT5 : Int) (eAtW6 : Int) (eEpoch7 : Int) (eBody8a : Option Addr) (eBody8n : Nat) (eBody8c : Nat) (eSig9 : Int) (R : Value → World → Prop) (w : World) : mfunc Try.prog [] 15 [.pointer l1, .agg #[.int .i64 eWriter2, .int .i64 eIndex3, .int .u64 ePrev4, .int .i64 eAtT5, .int .i64 eAtW6, .int .i64 eEpoch7, .slice eBody8a eBody8n eBody8c, .int .u64 eSig9]] R w = chain_Log_Accept.M l1 eWriter2 eIndex3 ePrev4 eAtT5 eAtW6 eEpoch7 eBody8a eBody8n eBody8c eSig9 R w := by kernel_rfl
theorem chain_Log_Accept.ok (l1 : Option Addr) (eWriter2 : Int) (eIndex3 : Int) (ePrev4 : Int) (eAtT5 : Int) (eAtW6 : Int) (eEpoch7 : Int) (eBody8a : Option Addr) (eBody8n : Nat) (eBody8c : Nat) (eSig9 : Int) {R : Value → World → Prop} {w : World} (h : chain_Log_Accept.M l1 eWriter2 eIndex3 ePrev4 eAtT5 eAtW6 eEpoch7 eBody8a eBody8n eBody8c eSig9 R w) : Calls Try.prog 15 #[.pointer l1, .agg #[.int .i64 eWriter2, .int .i64 eIndex3, .int .u64 ePrev4, .int .i64 eAtT5, .int .i64 eAtW6, .int .i64 eEpoch7, .slice eBody8a eBody8n eBody8c, .int .u64 eSig9]] w fun e w' => ∃ v, e = .returned v ∧ R v w' :=
  mfunc_ok follows (H := []) (args := [.pointer l1, .agg #[.int .i64 eWriter2, .int .i64 eIndex3, .int .u64 ePrev4, .int .i64 eAtT5, .int .i64 eAtW6, .int .i64 eEpoch7, .slice eBody8a eBody8n eBody8c, .int .u64 eSig9]]) (by rw [chain_Log_Accept.eq]; exact h)

def chain_Log_Accept.N (l1 : Option Addr) (eWriter2 : Int) (eIndex3 : Int) (ePrev4 : Int) (eAtT5 : Int) (eAtW6 : Int) (eEpoch7 : Int) (eBody8a : Option Addr) (eBody8n : Nat) (eBody8c : Nat) (eSig9 : Int) (R : Value → World → Prop) (w : World) : Prop :=
  ∀ (ww10 : World) (p11 : Nat), Ext no w ww10 → Priv w ww10 [p11] →
  Calls Try.prog 26 #[.pointer l1, .agg #[.int .i64 eWriter2, .int .i64 eIndex3, .int .u64 ePrev4, .int .i64 eAtT5, .int .i64 eAtW6, .int .i64 eEpoch7, .slice eBody8a eBody8n eBody8c, .int .u64 eSig9]] ww10 fun ee13 ww14 => ∃ (check12 : Int), ee13 = .returned (.int .i64 check12) ∧
  Keep [p11] ww10 ww14 ∧
  (check12 = 0 →
    Calls Try.prog 41 #[.pointer l1, .agg #[.int .i64 eWriter2, .int .i64 eIndex3, .int .u64 ePrev4, .int .i64 eAtT5, .int .i64 eAtW6, .int .i64 eEpoch7, .slice eBody8a eBody8n eBody8c, .int .u64 eSig9]] ww14 fun ee16 ww17 => ee16 = .returned (.tuple #[]) ∧
    R (.int .i64 check12) ww17) ∧
  (check12 ≠ 0 →
    R (.int .i64 check12) ww14)

theorem chain_Log_Accept.up (l1 : Option Addr) (eWriter2 : Int) (eIndex3 : Int) (ePrev4 : Int) (eAtT5 : Int) (eAtW6 : Int) (eEpoch7 : Int) (eBody8a : Option Addr) (eBody8n : Nat) (eBody8c : Nat) (eSig9 : Int) {R : Value → World → Prop} {w : World} (h : chain_Log_Accept.N l1 eWriter2 eIndex3 ePrev4 eAtT5 eAtW6 eEpoch7 eBody8a eBody8n eBody8c eSig9 R w) : chain_Log_Accept.M l1 eWriter2 eIndex3 ePrev4 eAtT5 eAtW6 eEpoch7 eBody8a eBody8n eBody8c eSig9 R w := by
  unfold chain_Log_Accept.M
  unfold chain_Log_Accept.N at h
  refine thenW_in fun ww10 e10 => ?_
  have hb1 := Blk.of_new e10
  have hg1 := ((Ext.refl no w)).size
  have hx10 := (Ext.refl no w).x_alloc e10
  refine ⟨eWriter2, eIndex3, ePrev4, eAtT5, eAtW6, eEpoch7, eBody8a, eBody8n, eBody8c, eSig9, ⟨hb1.celli 0 rfl rfl, hb1.celli 1 rfl rfl, hb1.celli 2 rfl rfl, hb1.celli 3 rfl rfl, hb1.celli 4 rfl rfl, hb1.celli 5 rfl rfl, hb1.celli 6 rfl rfl, hb1.celli 7 rfl rfl, trivial⟩, ?_⟩
  have h := h ww10 (w.heap.size) hx10 (Priv.cons hg1 hb1.lt Priv.nil)
  refine h.mono fun ee13 ww14 h => ?_
  obtain ⟨check12, he, hk, h⟩ := h
  refine ⟨check12, he, ?_⟩
  have hb1 := hk.blk hb1 (by simp)
  refine bif_of (fun c15 => ?_) (fun c15 => ?_)
  · have h := h.1 (beq_t c15)
    refine ⟨eWriter2, eIndex3, ePrev4, eAtT5, eAtW6, eEpoch7, eBody8a, eBody8n, eBody8c, eSig9, ⟨hb1.celli 0 rfl rfl, hb1.celli 1 rfl rfl, hb1.celli 2 rfl rfl, hb1.celli 3 rfl rfl, hb1.celli 4 rfl rfl, hb1.celli 5 rfl rfl, hb1.celli 6 rfl rfl, hb1.celli 7 rfl rfl, trivial⟩, ?_⟩
    refine h.mono fun ee16 ww17 h => ?_
    obtain ⟨he, h⟩ := h
    refine ⟨he, ?_⟩
    exact h
  · have h := h.2 (beq_f c15)
    exact h

theorem chain_Log_Accept.go (l1 : Option Addr) (eWriter2 : Int) (eIndex3 : Int) (ePrev4 : Int) (eAtT5 : Int) (eAtW6 : Int) (eEpoch7 : Int) (eBody8a : Option Addr) (eBody8n : Nat) (eBody8c : Nat) (eSig9 : Int) {R : Value → World → Prop} {w : World} (h : chain_Log_Accept.N l1 eWriter2 eIndex3 ePrev4 eAtT5 eAtW6 eEpoch7 eBody8a eBody8n eBody8c eSig9 R w) : Calls Try.prog 15 #[.pointer l1, .agg #[.int .i64 eWriter2, .int .i64 eIndex3, .int .u64 ePrev4, .int .i64 eAtT5, .int .i64 eAtW6, .int .i64 eEpoch7, .slice eBody8a eBody8n eBody8c, .int .u64 eSig9]] w fun e w' => ∃ v, e = .returned v ∧ R v w' := chain_Log_Accept.ok l1 eWriter2 eIndex3 ePrev4 eAtT5 eAtW6 eEpoch7 eBody8a eBody8n eBody8c eSig9 (chain_Log_Accept.up l1 eWriter2 eIndex3 ePrev4 eAtT5 eAtW6 eEpoch7 eBody8a eBody8n eBody8c eSig9 h)
theorem chain_Log_Accept.run (l1 : Option Addr) (eWriter2 : Int) (eIndex3 : Int) (ePrev4 : Int) (eAtT5 : Int) (eAtW6 : Int) (eEpoch7 : Int) (eBody8a : Option Addr) (eBody8n : Nat) (eBody8c : Nat) (eSig9 : Int) {V : Value} {Q : World → Prop} {w : World} (h : chain_Log_Accept.N l1 eWriter2 eIndex3 ePrev4 eAtT5 eAtW6 eEpoch7 eBody8a eBody8n eBody8c eSig9 (fun v w' => v = V ∧ Q w') w) : Calls Try.prog 15 #[.pointer l1, .agg #[.int .i64 eWriter2, .int .i64 eIndex3, .int .u64 ePrev4, .int .i64 eAtT5, .int .i64 eAtW6, .int .i64 eEpoch7, .slice eBody8a eBody8n eBody8c, .int .u64 eSig9]] w (Ret V Q) := (chain_Log_Accept.go l1 eWriter2 eIndex3 ePrev4 eAtT5 eAtW6 eEpoch7 eBody8a eBody8n eBody8c eSig9 h).mono fun e w' ⟨v, he, hv, hq⟩ => ⟨by rw [he, hv], hq⟩

/-- (*chain.Log).Issue -/
def chain_Log_Issue.M (l1 : Option Addr) (secret2 : Int) (atT3 : Int) (atW4 : Int) (epoch5 : Int) (body6a : Option Addr) (body6n : Nat) (body6c : Nat) (R : Value → World → Prop) (w : World) : Prop :=
  thenW (w.alloc (.cells #[.int .i64 atT3, .int .i64 atW4] 37)) fun ww7 =>
  thenW (ww7.alloc (.cells #[.int .i64 0, .int .i64 0, .int .u64 0, .int .i64 0, .int .i64 0, .int .i64 0, .slice none 0 0, .int .u64 0] 39)) fun ww8 =>
  bif Option.isNone l1 then (
  canStore ww8 ((blk ww7.heap.size).add 0) ∧
  thenW (ww8.setCell ((blk ww7.heap.size).add 0) (.int .i64 0)) fun ww9 =>
  canStore ww9 ((blk ww7.heap.size).add 1) ∧
  thenW (ww9.setCell ((blk ww7.heap.size).add 1) (.int .i64 0)) fun ww10 =>
  canStore ww10 ((blk ww7.heap.size).add 2) ∧
  thenW (ww10.setCell ((blk ww7.heap.size).add 2) (.int .u64 0)) fun ww11 =>
  canStore ww11 ((blk ww7.heap.size).add 3) ∧
  thenW (ww11.setCell ((blk ww7.heap.size).add 3) (.int .i64 0)) fun ww12 =>
  canStore ww12 ((blk ww7.heap.size).add 4) ∧
  thenW (ww12.setCell ((blk ww7.heap.size).add 4) (.int .i64 0)) fun ww13 =>
  canStore ww13 ((blk ww7.heap.size).add 5) ∧
  thenW (ww13.setCell ((blk ww7.heap.size).add 5) (.int .i64 0)) fun ww14 =>
  canStore ww14 ((blk ww7.heap.size).add 6) ∧
  thenW (ww14.setCell ((blk ww7.heap.size).add 6) (.slice none 0 0)) fun ww15 =>
  canStore ww15 ((blk ww7.heap.size).add 7) ∧
  thenW (ww15.setCell ((blk ww7.heap.size).add 7) (.int .u64 0)) fun ww16 =>
  ∃ (resWriter17 : Int) (resIndex18 : Int) (resPrev19 : Int) (resAtT20 : Int) (resAtW21 : Int) (resEpoch22 : Int) (resBody23a : Option Addr) (resBody23n : Nat) (resBody23c : Nat) (resSig24 : Int), cellsAt ww16 (blk ww7.heap.size) [.int .i64 resWriter17, .int .i64 resIndex18, .int .u64 resPrev19, .int .i64 resAtT20, .int .i64 resAtW21, .int .i64 resEpoch22, .slice resBody23a resBody23n resBody23c, .int .u64 resSig24] 0 ∧
  R (.tuple #[.agg #[.int .i64 resWriter17, .int .i64 resIndex18, .int .u64 resPrev19, .int .i64 resAtT20, .int .i64 resAtW21, .int .i64 resEpoch22, .slice resBody23a resBody23n resBody23c, .int .u64 resSig24], .int .i64 23]) ww16) else (
  l1.elim False fun a25 =>
  ∃ (l26a : Option Addr) (l26n : Nat) (l26c : Nat), ww8.cell? (a25.add 3) = some (.slice l26a l26n l26c) ∧
  bif decide ((l26n : Int) ≥ 200) then (
  canStore ww8 ((blk ww7.heap.size).add 0) ∧
  thenW (ww8.setCell ((blk ww7.heap.size).add 0) (.int .i64 0)) fun ww27 =>
  canStore ww27 ((blk ww7.heap.size).add 1) ∧
  thenW (ww27.setCell ((blk ww7.heap.size).add 1) (.int .i64 0)) fun ww28 =>
  canStore ww28 ((blk ww7.heap.size).add 2) ∧
  thenW (ww28.setCell ((blk ww7.heap.size).add 2) (.int .u64 0)) fun ww29 =>
  canStore ww29 ((blk ww7.heap.size).add 3) ∧
  thenW (ww29.setCell ((blk ww7.heap.size).add 3) (.int .i64 0)) fun ww30 =>
  canStore ww30 ((blk ww7.heap.size).add 4) ∧
  thenW (ww30.setCell ((blk ww7.heap.size).add 4) (.int .i64 0)) fun ww31 =>
  canStore ww31 ((blk ww7.heap.size).add 5) ∧
  thenW (ww31.setCell ((blk ww7.heap.size).add 5) (.int .i64 0)) fun ww32 =>
  canStore ww32 ((blk ww7.heap.size).add 6) ∧
  thenW (ww32.setCell ((blk ww7.heap.size).add 6) (.slice none 0 0)) fun ww33 =>
  canStore ww33 ((blk ww7.heap.size).add 7) ∧
  thenW (ww33.setCell ((blk ww7.heap.size).add 7) (.int .u64 0)) fun ww34 =>
  ∃ (resWriter35 : Int) (resIndex36 : Int) (resPrev37 : Int) (resAtT38 : Int) (resAtW39 : Int) (resEpoch40 : Int) (resBody41a : Option Addr) (resBody41n : Nat) (resBody41c : Nat) (resSig42 : Int), cellsAt ww34 (blk ww7.heap.size) [.int .i64 resWriter35, .int .i64 resIndex36, .int .u64 resPrev37, .int .i64 resAtT38, .int .i64 resAtW39, .int .i64 resEpoch40, .slice resBody41a resBody41n resBody41c, .int .u64 resSig42] 0 ∧
  R (.tuple #[.agg #[.int .i64 resWriter35, .int .i64 resIndex36, .int .u64 resPrev37, .int .i64 resAtT38, .int .i64 resAtW39, .int .i64 resEpoch40, .slice resBody41a resBody41n resBody41c, .int .u64 resSig42], .int .i64 3]) ww34) else (
  thenW (ww8.drew) fun ww43 =>
  l1.elim False fun a44 =>
  ∃ (wv45 : Int), ww43.cell? (a44.add 1) = some (.int .i64 wv45) ∧
  l1.elim False fun a46 =>
  ∃ (l47a : Option Addr) (l47n : Nat) (l47c : Nat), ww43.cell? (a46.add 3) = some (.slice l47a l47n l47c) ∧
  l1.elim False fun a48 =>
  ∃ (sum49 : Int), ww43.cell? (a48.add 4) = some (.int .u64 sum49) ∧
  ∃ (xT50 : Int) (xW51 : Int), cellsAt ww43 (blk w.heap.size) [.int .i64 xT50, .int .i64 xW51] 0 ∧
  thenW (ww43.alloc (.cells #[.int .i64 0, .int .i64 0, .int .u64 0, .int .i64 0, .int .i64 0, .int .i64 0, .slice none 0 0, .int .u64 0] 39)) fun ww52 =>
  cellsAt ww52 (blk w.heap.size) [.int .i64 xT50, .int .i64 xW51] 0 ∧
  ww52.cell? (a48.add 4) = some (.int .u64 sum49) ∧
  ww52.cell? (a46.add 3) = some (.slice l47a l47n l47c) ∧
  ww52.cell? (a44.add 1) = some (.int .i64 wv45) ∧
  canStore ww52 ((blk ww43.heap.size).add 0) ∧
  thenW (ww52.setCell ((blk ww43.heap.size).add 0) (.int .i64 wv45)) fun ww53 =>
  canStore ww53 ((blk ww43.heap.size).add 1) ∧
  thenW (ww53.setCell ((blk ww43.heap.size).add 1) (.int .i64 (l47n : Int))) fun ww54 =>
  canStore ww54 ((blk ww43.heap.size).add 2) ∧
  thenW (ww54.setCell ((blk ww43.heap.size).add 2) (.int .u64 sum49)) fun ww55 =>
  canStore ww55 ((blk ww43.heap.size).add 3) ∧
  thenW (ww55.setCell ((blk ww43.heap.size).add 3) (.int .i64 xT50)) fun ww56 =>
  canStore ww56 ((blk ww43.heap.size).add 4) ∧
  thenW (ww56.setCell ((blk ww43.heap.size).add 4) (.int .i64 xW51)) fun ww57 =>
  canStore ww57 ((blk ww43.heap.size).add 5) ∧
  thenW (ww57.setCell ((blk ww43.heap.size).add 5) (.int .i64 epoch5)) fun ww58 =>
  canStore ww58 ((blk ww43.heap.size).add 6) ∧
  thenW (ww58.setCell ((blk ww43.heap.size).add 6) (.slice body6a body6n body6c)) fun ww59 =>
  canStore ww59 ((blk ww43.heap.size).add 7) ∧
  thenW (ww59.setCell ((blk ww43.heap.size).add 7) (.int .u64 0)) fun ww60 =>
  ∃ (xWriter61 : Int) (xIndex62 : Int) (xPrev63 : Int) (xAtT64 : Int) (xAtW65 : Int) (xEpoch66 : Int) (xBody67a : Option Addr) (xBody67n : Nat) (xBody67c : Nat) (xSig68 : Int), cellsAt ww60 (blk ww43.heap.size) [.int .i64 xWriter61, .int .i64 xIndex62, .int .u64 xPrev63, .int .i64 xAtT64, .int .i64 xAtW65, .int .i64 xEpoch66, .slice xBody67a xBody67n xBody67c, .int .u64 xSig68] 0 ∧
  Calls Try.prog 38 #[.agg #[.int .i64 xWriter61, .int .i64 xIndex62, .int .u64 xPrev63, .int .i64 xAtT64, .int .i64 xAtW65, .int .i64 xEpoch66, .slice xBody67a xBody67n xBody67c, .int .u64 xSig68]] ww60 fun ee70 ww71 => ∃ (right69 : Bool), ee70 = .returned (.bool right69) ∧
  bif !right69 then (
  canStore ww71 ((blk ww7.heap.size).add 0) ∧
  thenW (ww71.setCell ((blk ww7.heap.size).add 0) (.int .i64 0)) fun ww72 =>
  canStore ww72 ((blk ww7.heap.size).add 1) ∧
  thenW (ww72.setCell ((blk ww7.heap.size).add 1) (.int .i64 0)) fun ww73 =>
  canStore ww73 ((blk ww7.heap.size).add 2) ∧
  thenW (ww73.setCell ((blk ww7.heap.size).add 2) (.int .u64 0)) fun ww74 =>
  canStore ww74 ((blk ww7.heap.size).add 3) ∧
  thenW (ww74.setCell ((blk ww7.heap.size).add 3) (.int .i64 0)) fun ww75 =>
  canStore ww75 ((blk ww7.heap.size).add 4) ∧
  thenW (ww75.setCell ((blk ww7.heap.size).add 4) (.int .i64 0)) fun ww76 =>
  canStore ww76 ((blk ww7.heap.size).add 5) ∧
  thenW (ww76.setCell ((blk ww7.heap.size).add 5) (.int .i64 0)) fun ww77 =>
  canStore ww77 ((blk ww7.heap.size).add 6) ∧
  thenW (ww77.setCell ((blk ww7.heap.size).add 6) (.slice none 0 0)) fun ww78 =>
  canStore ww78 ((blk ww7.heap.size).add 7) ∧
  thenW (ww78.setCell ((blk ww7.heap.size).add 7) (.int .u64 0)) fun ww79 =>
  ∃ (resWriter80 : Int) (resIndex81 : Int) (resPrev82 : Int) (resAtT83 : Int) (resAtW84 : Int) (resEpoch85 : Int) (resBody86a : Option Addr) (resBody86n : Nat) (resBody86c : Nat) (resSig87 : Int), cellsAt ww79 (blk ww7.heap.size) [.int .i64 resWriter80, .int .i64 resIndex81, .int .u64 resPrev82, .int .i64 resAtT83, .int .i64 resAtW84, .int .i64 resEpoch85, .slice resBody86a resBody86n resBody86c, .int .u64 resSig87] 0 ∧
  R (.tuple #[.agg #[.int .i64 resWriter80, .int .i64 resIndex81, .int .u64 resPrev82, .int .i64 resAtT83, .int .i64 resAtW84, .int .i64 resEpoch85, .slice resBody86a resBody86n resBody86c, .int .u64 resSig87], .int .i64 1]) ww79) else (
  ∃ (xWriter88 : Int) (xIndex89 : Int) (xPrev90 : Int) (xAtT91 : Int) (xAtW92 : Int) (xEpoch93 : Int) (xBody94a : Option Addr) (xBody94n : Nat) (xBody94c : Nat) (xSig95 : Int), cellsAt ww71 (blk ww43.heap.size) [.int .i64 xWriter88, .int .i64 xIndex89, .int .u64 xPrev90, .int .i64 xAtT91, .int .i64 xAtW92, .int .i64 xEpoch93, .slice xBody94a xBody94n xBody94c, .int .u64 xSig95] 0 ∧
  Calls Try.prog 39 #[.pointer l1, .agg #[.int .i64 xWriter88, .int .i64 xIndex89, .int .u64 xPrev90, .int .i64 xAtT91, .int .i64 xAtW92, .int .i64 xEpoch93, .slice xBody94a xBody94n xBody94c, .int .u64 xSig95]] ww71 fun ee97 ww98 => ∃ (behind96 : Int), ee97 = .returned (.int .i64 behind96) ∧
  bif behind96 != 0 then (
  canStore ww98 ((blk ww7.heap.size).add 0) ∧
  thenW (ww98.setCell ((blk ww7.heap.size).add 0) (.int .i64 0)) fun ww99 =>
  canStore ww99 ((blk ww7.heap.size).add 1) ∧
  thenW (ww99.setCell ((blk ww7.heap.size).add 1) (.int .i64 0)) fun ww100 =>
  canStore ww100 ((blk ww7.heap.size).add 2) ∧
  thenW (ww100.setCell ((blk ww7.heap.size).add 2) (.int .u64 0)) fun ww101 =>
  canStore ww101 ((blk ww7.heap.size).add 3) ∧
  thenW (ww101.setCell ((blk ww7.heap.size).add 3) (.int .i64 0)) fun ww102 =>
  canStore ww102 ((blk ww7.heap.size).add 4) ∧
  thenW (ww102.setCell ((blk ww7.heap.size).add 4) (.int .i64 0)) fun ww103 =>
  canStore ww103 ((blk ww7.heap.size).add 5) ∧
  thenW (ww103.setCell ((blk ww7.heap.size).add 5) (.int .i64 0)) fun ww104 =>
  canStore ww104 ((blk ww7.heap.size).add 6) ∧
  thenW (ww104.setCell ((blk ww7.heap.size).add 6) (.slice none 0 0)) fun ww105 =>
  canStore ww105 ((blk ww7.heap.size).add 7) ∧
  thenW (ww105.setCell ((blk ww7.heap.size).add 7) (.int .u64 0)) fun ww106 =>
  ∃ (resWriter107 : Int) (resIndex108 : Int) (resPrev109 : Int) (resAtT110 : Int) (resAtW111 : Int) (resEpoch112 : Int) (resBody113a : Option Addr) (resBody113n : Nat) (resBody113c : Nat) (resSig114 : Int), cellsAt ww106 (blk ww7.heap.size) [.int .i64 resWriter107, .int .i64 resIndex108, .int .u64 resPrev109, .int .i64 resAtT110, .int .i64 resAtW111, .int .i64 resEpoch112, .slice resBody113a resBody113n resBody113c, .int .u64 resSig114] 0 ∧
  R (.tuple #[.agg #[.int .i64 resWriter107, .int .i64 resIndex108, .int .u64 resPrev109, .int .i64 resAtT110, .int .i64 resAtW111, .int .i64 resEpoch112, .slice resBody113a resBody113n resBody113c, .int .u64 resSig114], .int .i64 behind96]) ww106) else (
  thenW (ww98.drew) fun ww115 =>
  l1.elim False fun a116 =>
  ∃ (o117 : Option Addr), ww115.cell? (a116.add 0) = some (.pointer o117) ∧
  ∃ (xWriter118 : Int) (xIndex119 : Int) (xPrev120 : Int) (xAtT121 : Int) (xAtW122 : Int) (xEpoch123 : Int) (xBody124a : Option Addr) (xBody124n : Nat) (xBody124c : Nat) (xSig125 : Int), cellsAt ww115 (blk ww43.heap.size) [.int .i64 xWriter118, .int .i64 xIndex119, .int .u64 xPrev120, .int .i64 xAtT121, .int .i64 xAtW122, .int .i64 xEpoch123, .slice xBody124a xBody124n xBody124c, .int .u64 xSig125] 0 ∧
  Calls Try.prog 40 #[.pointer o117, .int .u64 secret2, .agg #[.int .i64 xWriter118, .int .i64 xIndex119, .int .u64 xPrev120, .int .i64 xAtT121, .int .i64 xAtW122, .int .i64 xEpoch123, .slice xBody124a xBody124n xBody124c, .int .u64 xSig125]] ww115 fun ee135 ww136 => ∃ (Writer126 : Int) (Index127 : Int) (Prev128 : Int) (AtT129 : Int) (AtW130 : Int) (Epoch131 : Int) (Body132a : Option Addr) (Body132n : Nat) (Body132c : Nat) (Sig133 : Int) (sign134 : Int), ee135 = .returned (.tuple #[.agg #[.int .i64 Writer126, .int .i64 Index127, .int .u64 Prev128, .int .i64 AtT129, .int .i64 AtW130, .int .i64 Epoch131, .slice Body132a Body132n Body132c, .int .u64 Sig133], .int .i64 sign134]) ∧
  canStore ww136 ((blk ww43.heap.size).add 0) ∧
  thenW (ww136.setCell ((blk ww43.heap.size).add 0) (.int .i64 Writer126)) fun ww137 =>
  canStore ww137 ((blk ww43.heap.size).add 1) ∧
  thenW (ww137.setCell ((blk ww43.heap.size).add 1) (.int .i64 Index127)) fun ww138 =>
  canStore ww138 ((blk ww43.heap.size).add 2) ∧
  thenW (ww138.setCell ((blk ww43.heap.size).add 2) (.int .u64 Prev128)) fun ww139 =>
  canStore ww139 ((blk ww43.heap.size).add 3) ∧
  thenW (ww139.setCell ((blk ww43.heap.size).add 3) (.int .i64 AtT129)) fun ww140 =>
  canStore ww140 ((blk ww43.heap.size).add 4) ∧
  thenW (ww140.setCell ((blk ww43.heap.size).add 4) (.int .i64 AtW130)) fun ww141 =>
  canStore ww141 ((blk ww43.heap.size).add 5) ∧
  thenW (ww141.setCell ((blk ww43.heap.size).add 5) (.int .i64 Epoch131)) fun ww142 =>
  canStore ww142 ((blk ww43.heap.size).add 6) ∧
  thenW (ww142.setCell ((blk ww43.heap.size).add 6) (.slice Body132a Body132n Body132c)) fun ww143 =>
  canStore ww143 ((blk ww43.heap.size).add 7) ∧
  thenW (ww143.setCell ((blk ww43.heap.size).add 7) (.int .u64 Sig133)) fun ww144 =>
  bif sign134 != 0 then (
  canStore ww144 ((blk ww7.heap.size).add 0) ∧
  thenW (ww144.setCell ((blk ww7.heap.size).add 0) (.int .i64 0)) fun ww145 =>
  canStore ww145 ((blk ww7.heap.size).add 1) ∧
  thenW (ww145.setCell ((blk ww7.heap.size).add 1) (.int .i64 0)) fun ww146 =>
  canStore ww146 ((blk ww7.heap.size).add 2) ∧
  thenW (ww146.setCell ((blk ww7.heap.size).add 2) (.int .u64 0)) fun ww147 =>
  canStore ww147 ((blk ww7.heap.size).add 3) ∧
  thenW (ww147.setCell ((blk ww7.heap.size).add 3) (.int .i64 0)) fun ww148 =>
  canStore ww148 ((blk ww7.heap.size).add 4) ∧
  thenW (ww148.setCell ((blk ww7.heap.size).add 4) (.int .i64 0)) fun ww149 =>
  canStore ww149 ((blk ww7.heap.size).add 5) ∧
  thenW (ww149.setCell ((blk ww7.heap.size).add 5) (.int .i64 0)) fun ww150 =>
  canStore ww150 ((blk ww7.heap.size).add 6) ∧
  thenW (ww150.setCell ((blk ww7.heap.size).add 6) (.slice none 0 0)) fun ww151 =>
  canStore ww151 ((blk ww7.heap.size).add 7) ∧
  thenW (ww151.setCell ((blk ww7.heap.size).add 7) (.int .u64 0)) fun ww152 =>
  ∃ (resWriter153 : Int) (resIndex154 : Int) (resPrev155 : Int) (resAtT156 : Int) (resAtW157 : Int) (resEpoch158 : Int) (resBody159a : Option Addr) (resBody159n : Nat) (resBody159c : Nat) (resSig160 : Int), cellsAt ww152 (blk ww7.heap.size) [.int .i64 resWriter153, .int .i64 resIndex154, .int .u64 resPrev155, .int .i64 resAtT156, .int .i64 resAtW157, .int .i64 resEpoch158, .slice resBody159a resBody159n resBody159c, .int .u64 resSig160] 0 ∧
  R (.tuple #[.agg #[.int .i64 resWriter153, .int .i64 resIndex154, .int .u64 resPrev155, .int .i64 resAtT156, .int .i64 resAtW157, .int .i64 resEpoch158, .slice resBody159a resBody159n resBody159c, .int .u64 resSig160], .int .i64 sign134]) ww152) else (
  ∃ (xWriter161 : Int) (xIndex162 : Int) (xPrev163 : Int) (xAtT164 : Int) (xAtW165 : Int) (xEpoch166 : Int) (xBody167a : Option Addr) (xBody167n : Nat) (xBody167c : Nat) (xSig168 : Int), cellsAt ww144 (blk ww43.heap.size) [.int .i64 xWriter161, .int .i64 xIndex162, .int .u64 xPrev163, .int .i64 xAtT164, .int .i64 xAtW165, .int .i64 xEpoch166, .slice xBody167a xBody167n xBody167c, .int .u64 xSig168] 0 ∧
  Calls Try.prog 41 #[.pointer l1, .agg #[.int .i64 xWriter161, .int .i64 xIndex162, .int .u64 xPrev163, .int .i64 xAtT164, .int .i64 xAtW165, .int .i64 xEpoch166, .slice xBody167a xBody167n xBody167c, .int .u64 xSig168]] ww144 fun ee169 ww170 => ee169 = .returned (.tuple #[]) ∧
  ∃ (xWriter171 : Int) (xIndex172 : Int) (xPrev173 : Int) (xAtT174 : Int) (xAtW175 : Int) (xEpoch176 : Int) (xBody177a : Option Addr) (xBody177n : Nat) (xBody177c : Nat) (xSig178 : Int), cellsAt ww170 (blk ww43.heap.size) [.int .i64 xWriter171, .int .i64 xIndex172, .int .u64 xPrev173, .int .i64 xAtT174, .int .i64 xAtW175, .int .i64 xEpoch176, .slice xBody177a xBody177n xBody177c, .int .u64 xSig178] 0 ∧
  canStore ww170 ((blk ww7.heap.size).add 0) ∧
  thenW (ww170.setCell ((blk ww7.heap.size).add 0) (.int .i64 xWriter171)) fun ww179 =>
  canStore ww179 ((blk ww7.heap.size).add 1) ∧
  thenW (ww179.setCell ((blk ww7.heap.size).add 1) (.int .i64 xIndex172)) fun ww180 =>
  canStore ww180 ((blk ww7.heap.size).add 2) ∧
  thenW (ww180.setCell ((blk ww7.heap.size).add 2) (.int .u64 xPrev173)) fun ww181 =>
  canStore ww181 ((blk ww7.heap.size).add 3) ∧
  thenW (ww181.setCell ((blk ww7.heap.size).add 3) (.int .i64 xAtT174)) fun ww182 =>
  canStore ww182 ((blk ww7.heap.size).add 4) ∧
  thenW (ww182.setCell ((blk ww7.heap.size).add 4) (.int .i64 xAtW175)) fun ww183 =>
  canStore ww183 ((blk ww7.heap.size).add 5) ∧
  thenW (ww183.setCell ((blk ww7.heap.size).add 5) (.int .i64 xEpoch176)) fun ww184 =>
  canStore ww184 ((blk ww7.heap.size).add 6) ∧
  thenW (ww184.setCell ((blk ww7.heap.size).add 6) (.slice xBody177a xBody177n xBody177c)) fun ww185 =>
  canStore ww185 ((blk ww7.heap.size).add 7) ∧
  thenW (ww185.setCell ((blk ww7.heap.size).add 7) (.int .u64 xSig178)) fun ww186 =>
  ∃ (resWriter187 : Int) (resIndex188 : Int) (resPrev189 : Int) (resAtT190 : Int) (resAtW191 : Int) (resEpoch192 : Int) (resBody193a : Option Addr) (resBody193n : Nat) (resBody193c : Nat) (resSig194 : Int), cellsAt ww186 (blk ww7.heap.size) [.int .i64 resWriter187, .int .i64 resIndex188, .int .u64 resPrev189, .int .i64 resAtT190, .int .i64 resAtW191, .int .i64 resEpoch192, .slice resBody193a resBody193n resBody193c, .int .u64 resSig194] 0 ∧
  R (.tuple #[.agg #[.int .i64 resWriter187, .int .i64 resIndex188, .int .u64 resPrev189, .int .i64 resAtT190, .int .i64 resAtW191, .int .i64 resEpoch192, .slice resBody193a resBody193n resBody193c, .int .u64 resSig194], .int .i64 0]) ww186)))))

theorem chain_Log_Issue.eq (l1 : Option Addr) (secret2 : Int) (atT3 : Int) (atW4 : Int) (epoch5 : Int) (body6a : Option Addr) (body6n : Nat) (body6c : Nat) (R : Value → World → Prop) (w : World) : mfunc Try.prog [] 14 [.pointer l1, .int .u64 secret2, .agg #[.int .i64 atT3, .int .i64 atW4], .int .i64 epoch5, .slice body6a body6n body6c] R w = chain_Log_Issue.M l1 secret2 atT3 atW4 epoch5 body6a body6n body6c R w := by kernel_rfl
theorem chain_Log_Issue.ok (l1 : Option Addr) (secret2 : Int) (atT3 : Int) (atW4 : Int) (epoch5 : Int) (body6a : Option Addr) (body6n : Nat) (body6c : Nat) {R : Value → World → Prop} {w : World} (h : chain_Log_Issue.M l1 secret2 atT3 atW4 epoch5 body6a body6n body6c R w) : Calls Try.prog 14 #[.pointer l1, .int .u64 secret2, .agg #[.int .i64 atT3, .int .i64 atW4], .int .i64 epoch5, .slice body6a body6n body6c] w fun e w' => ∃ v, e = .returned v ∧ R v w' :=
  mfunc_ok follows (H := []) (args := [.pointer l1, .int .u64 secret2, .agg #[.int .i64 atT3, .int .i64 atW4], .int .i64 epoch5, .slice body6a body6n body6c]) (by rw [chain_Log_Issue.eq]; exact h)

def chain_Log_Issue.N (l1 : Option Addr) (secret2 : Int) (atT3 : Int) (atW4 : Int) (epoch5 : Int) (body6a : Option Addr) (body6n : Nat) (body6c : Nat) (R : Value → World → Prop) (w : World) : Prop :=
  (l1 = none →
    ∀ (ww17 : World), Ext no w ww17 →
    R (.tuple #[.agg #[.int .i64 0, .int .i64 0, .int .u64 0, .int .i64 0, .int .i64 0, .int .i64 0, .slice none 0 0, .int .u64 0], .int .i64 23]) ww17) ∧
  (l1 ≠ none →
    ∃ a20 : Addr, l1 = some a20 ∧
    ∃ (l22a : Option Addr) (l22n : Nat) (l22c : Nat), w.cell? (a20.add 3) = some (.slice l22a l22n l22c) ∧
    ((l22n : Int) ≥ 200 →
      ∀ (ww31 : World), Ext no w ww31 →
      R (.tuple #[.agg #[.int .i64 0, .int .i64 0, .int .u64 0, .int .i64 0, .int .i64 0, .int .i64 0, .slice none 0 0, .int .u64 0], .int .i64 3]) ww31) ∧
    ((l22n : Int) < 200 →
      ∃ (wv36 : Int), w.cell? (a20.add 1) = some (.int .i64 wv36) ∧
      ∃ (l38a : Option Addr) (l38n : Nat) (l38c : Nat), w.cell? (a20.add 3) = some (.slice l38a l38n l38c) ∧
      ∃ (sum40 : Int), w.cell? (a20.add 4) = some (.int .u64 sum40) ∧
      ((entry_Right.F wv36 (l38n : Int) sum40 atT3 atW4 epoch5 body6a body6n body6c 0) = false →
        ∀ (ww59 : World), Ext no w ww59 →
        R (.tuple #[.agg #[.int .i64 0, .int .i64 0, .int .u64 0, .int .i64 0, .int .i64 0, .int .i64 0, .slice none 0 0, .int .u64 0], .int .i64 1]) ww59) ∧
      ((entry_Right.F wv36 (l38n : Int) sum40 atT3 atW4 epoch5 body6a body6n body6c 0) = true →
        ∀ (ww50 : World) (p64 : Nat) (p65 : Nat), Ext no w ww50 → Priv w ww50 [p64, p65] →
        Calls Try.prog 39 #[.pointer l1, .agg #[.int .i64 wv36, .int .i64 (l38n : Int), .int .u64 sum40, .int .i64 atT3, .int .i64 atW4, .int .i64 epoch5, .slice body6a body6n body6c, .int .u64 0]] ww50 fun ee67 ww68 => ∃ (behind66 : Int), ee67 = .returned (.int .i64 behind66) ∧
        Keep [p64, p65] ww50 ww68 ∧
        (behind66 ≠ 0 →
          ∀ (ww77 : World), Ext (fun b => b = p64) ww68 ww77 →
          R (.tuple #[.agg #[.int .i64 0, .int .i64 0, .int .u64 0, .int .i64 0, .int .i64 0, .int .i64 0, .slice none 0 0, .int .u64 0], .int .i64 behind66]) ww77) ∧
        (behind66 = 0 →
          ∃ (o80 : Option Addr), ww68.cell? (a20.add 0) = some (.pointer o80) ∧
          ∀ (ww78 : World), Ext no ww68 ww78 →
          Calls Try.prog 40 #[.pointer o80, .int .u64 secret2, .agg #[.int .i64 wv36, .int .i64 (l38n : Int), .int .u64 sum40, .int .i64 atT3, .int .i64 atW4, .int .i64 epoch5, .slice body6a body6n body6c, .int .u64 0]] ww78 fun ee90 ww91 => ∃ (Writer81 : Int) (Index82 : Int) (Prev83 : Int) (AtT84 : Int) (AtW85 : Int) (Epoch86 : Int) (Body87a : Option Addr) (Body87n : Nat) (Body87c : Nat) (Sig88 : Int) (sign89 : Int), ee90 = .returned (.tuple #[.agg #[.int .i64 Writer81, .int .i64 Index82, .int .u64 Prev83, .int .i64 AtT84, .int .i64 AtW85, .int .i64 Epoch86, .slice Body87a Body87n Body87c, .int .u64 Sig88], .int .i64 sign89]) ∧
          Keep [p64, p65] ww78 ww91 ∧
          (sign89 ≠ 0 →
            ∀ (ww108 : World), Ext (fun b => b = p64 ∨ b = p65) ww91 ww108 →
            R (.tuple #[.agg #[.int .i64 0, .int .i64 0, .int .u64 0, .int .i64 0, .int .i64 0, .int .i64 0, .slice none 0 0, .int .u64 0], .int .i64 sign89]) ww108) ∧
          (sign89 = 0 →
            ∀ (ww99 : World), Ext (fun b => b = p65) ww91 ww99 →
            Calls Try.prog 41 #[.pointer l1, .agg #[.int .i64 Writer81, .int .i64 Index82, .int .u64 Prev83, .int .i64 AtT84, .int .i64 AtW85, .int .i64 Epoch86, .slice Body87a Body87n Body87c, .int .u64 Sig88]] ww99 fun ee109 ww110 => ee109 = .returned (.tuple #[]) ∧
            Keep [p64, p65] ww99 ww110 ∧
            ∀ (ww118 : World), Ext (fun b => b = p64) ww110 ww118 →
            R (.tuple #[.agg #[.int .i64 Writer81, .int .i64 Index82, .int .u64 Prev83, .int .i64 AtT84, .int .i64 AtW85, .int .i64 Epoch86, .slice Body87a Body87n Body87c, .int .u64 Sig88], .int .i64 0]) ww118)))))

theorem chain_Log_Issue.up (l1 : Option Addr) (secret2 : Int) (atT3 : Int) (atW4 : Int) (epoch5 : Int) (body6a : Option Addr) (body6n : Nat) (body6c : Nat) {R : Value → World → Prop} {w : World} (h : chain_Log_Issue.N l1 secret2 atT3 atW4 epoch5 body6a body6n body6c R w) : chain_Log_Issue.M l1 secret2 atT3 atW4 epoch5 body6a body6n body6c R w := by
  unfold chain_Log_Issue.M
  unfold chain_Log_Issue.N at h
  refine thenW_in fun ww7 e7 => ?_
  have hb1 := Blk.of_new e7
  have hg1 := ((Ext.refl no w)).size
  have hx7 := (Ext.refl no w).x_alloc e7
  refine thenW_in fun ww8 e8 => ?_
  have hb2 := Blk.of_new e8
  have hg2 := (hx7).size
  have hb1_2 := Nat.ne_of_lt hb1.lt
  have hb1 := hb1.x_alloc e8
  have hx8 := hx7.x_alloc e8
  refine bif_of (fun c9 => ?_) (fun c9 => ?_)
  · have h := h.1 (isNone_t c9)
    refine ⟨hb2.cani 0 rfl rfl, thenW_in fun ww10 e10 => ?_⟩
    have hx10 := hx8.x_set (q := ww7.heap.size) (i := 0) rfl (.inr hg2) e10
    have hb2 : Blk ww10 ww7.heap.size 39 [.int .i64 0, .int .i64 0, .int .u64 0, .int .i64 0, .int .i64 0, .int .i64 0, .slice none 0 0, .int .u64 0] := hb2.seti 0 rfl e10
    refine ⟨hb2.cani 1 rfl rfl, thenW_in fun ww11 e11 => ?_⟩
    have hx11 := hx10.x_set (q := ww7.heap.size) (i := 1) rfl (.inr hg2) e11
    have hb2 : Blk ww11 ww7.heap.size 39 [.int .i64 0, .int .i64 0, .int .u64 0, .int .i64 0, .int .i64 0, .int .i64 0, .slice none 0 0, .int .u64 0] := hb2.seti 1 rfl e11
    refine ⟨hb2.cani 2 rfl rfl, thenW_in fun ww12 e12 => ?_⟩
    have hx12 := hx11.x_set (q := ww7.heap.size) (i := 2) rfl (.inr hg2) e12
    have hb2 : Blk ww12 ww7.heap.size 39 [.int .i64 0, .int .i64 0, .int .u64 0, .int .i64 0, .int .i64 0, .int .i64 0, .slice none 0 0, .int .u64 0] := hb2.seti 2 rfl e12
    refine ⟨hb2.cani 3 rfl rfl, thenW_in fun ww13 e13 => ?_⟩
    have hx13 := hx12.x_set (q := ww7.heap.size) (i := 3) rfl (.inr hg2) e13
    have hb2 : Blk ww13 ww7.heap.size 39 [.int .i64 0, .int .i64 0, .int .u64 0, .int .i64 0, .int .i64 0, .int .i64 0, .slice none 0 0, .int .u64 0] := hb2.seti 3 rfl e13
    refine ⟨hb2.cani 4 rfl rfl, thenW_in fun ww14 e14 => ?_⟩
    have hx14 := hx13.x_set (q := ww7.heap.size) (i := 4) rfl (.inr hg2) e14
    have hb2 : Blk ww14 ww7.heap.size 39 [.int .i64 0, .int .i64 0, .int .u64 0, .int .i64 0, .int .i64 0, .int .i64 0, .slice none 0 0, .int .u64 0] := hb2.seti 4 rfl e14
    refine ⟨hb2.cani 5 rfl rfl, thenW_in fun ww15 e15 => ?_⟩
    have hx15 := hx14.x_set (q := ww7.heap.size) (i := 5) rfl (.inr hg2) e15
    have hb2 : Blk ww15 ww7.heap.size 39 [.int .i64 0, .int .i64 0, .int .u64 0, .int .i64 0, .int .i64 0, .int .i64 0, .slice none 0 0, .int .u64 0] := hb2.seti 5 rfl e15
    refine ⟨hb2.cani 6 rfl rfl, thenW_in fun ww16 e16 => ?_⟩
    have hx16 := hx15.x_set (q := ww7.heap.size) (i := 6) rfl (.inr hg2) e16
    have hb2 : Blk ww16 ww7.heap.size 39 [.int .i64 0, .int .i64 0, .int .u64 0, .int .i64 0, .int .i64 0, .int .i64 0, .slice none 0 0, .int .u64 0] := hb2.seti 6 rfl e16
    refine ⟨hb2.cani 7 rfl rfl, thenW_in fun ww17 e17 => ?_⟩
    have hx17 := hx16.x_set (q := ww7.heap.size) (i := 7) rfl (.inr hg2) e17
    have hb2 : Blk ww17 ww7.heap.size 39 [.int .i64 0, .int .i64 0, .int .u64 0, .int .i64 0, .int .i64 0, .int .i64 0, .slice none 0 0, .int .u64 0] := hb2.seti 7 rfl e17
    refine ⟨0, 0, 0, 0, 0, 0, none, 0, 0, 0, ⟨hb2.celli 0 rfl rfl, hb2.celli 1 rfl rfl, hb2.celli 2 rfl rfl, hb2.celli 3 rfl rfl, hb2.celli 4 rfl rfl, hb2.celli 5 rfl rfl, hb2.celli 6 rfl rfl, hb2.celli 7 rfl rfl, trivial⟩, ?_⟩
    have h := h ww17 hx17
    exact h
  · have h := h.2 (isNone_f c9)
    obtain ⟨a20, ha20, h⟩ := h
    refine elim_some ha20 ?_
    obtain ⟨l22a, l22n, l22c, hc21, h⟩ := h
    refine ⟨l22a, l22n, l22c, (hx8).cell hc21 id, ?_⟩
    refine bif_of (fun c23 => ?_) (fun c23 => ?_)
    · have h := h.1 (of_decide_eq_true c23)
      refine ⟨hb2.cani 0 rfl rfl, thenW_in fun ww24 e24 => ?_⟩
      have hx24 := hx8.x_set (q := ww7.heap.size) (i := 0) rfl (.inr hg2) e24
      have hb2 : Blk ww24 ww7.heap.size 39 [.int .i64 0, .int .i64 0, .int .u64 0, .int .i64 0, .int .i64 0, .int .i64 0, .slice none 0 0, .int .u64 0] := hb2.seti 0 rfl e24
      refine ⟨hb2.cani 1 rfl rfl, thenW_in fun ww25 e25 => ?_⟩
      have hx25 := hx24.x_set (q := ww7.heap.size) (i := 1) rfl (.inr hg2) e25
      have hb2 : Blk ww25 ww7.heap.size 39 [.int .i64 0, .int .i64 0, .int .u64 0, .int .i64 0, .int .i64 0, .int .i64 0, .slice none 0 0, .int .u64 0] := hb2.seti 1 rfl e25
      refine ⟨hb2.cani 2 rfl rfl, thenW_in fun ww26 e26 => ?_⟩
      have hx26 := hx25.x_set (q := ww7.heap.size) (i := 2) rfl (.inr hg2) e26
      have hb2 : Blk ww26 ww7.heap.size 39 [.int .i64 0, .int .i64 0, .int .u64 0, .int .i64 0, .int .i64 0, .int .i64 0, .slice none 0 0, .int .u64 0] := hb2.seti 2 rfl e26
      refine ⟨hb2.cani 3 rfl rfl, thenW_in fun ww27 e27 => ?_⟩
      have hx27 := hx26.x_set (q := ww7.heap.size) (i := 3) rfl (.inr hg2) e27
      have hb2 : Blk ww27 ww7.heap.size 39 [.int .i64 0, .int .i64 0, .int .u64 0, .int .i64 0, .int .i64 0, .int .i64 0, .slice none 0 0, .int .u64 0] := hb2.seti 3 rfl e27
      refine ⟨hb2.cani 4 rfl rfl, thenW_in fun ww28 e28 => ?_⟩
      have hx28 := hx27.x_set (q := ww7.heap.size) (i := 4) rfl (.inr hg2) e28
      have hb2 : Blk ww28 ww7.heap.size 39 [.int .i64 0, .int .i64 0, .int .u64 0, .int .i64 0, .int .i64 0, .int .i64 0, .slice none 0 0, .int .u64 0] := hb2.seti 4 rfl e28
      refine ⟨hb2.cani 5 rfl rfl, thenW_in fun ww29 e29 => ?_⟩
      have hx29 := hx28.x_set (q := ww7.heap.size) (i := 5) rfl (.inr hg2) e29
      have hb2 : Blk ww29 ww7.heap.size 39 [.int .i64 0, .int .i64 0, .int .u64 0, .int .i64 0, .int .i64 0, .int .i64 0, .slice none 0 0, .int .u64 0] := hb2.seti 5 rfl e29
      refine ⟨hb2.cani 6 rfl rfl, thenW_in fun ww30 e30 => ?_⟩
      have hx30 := hx29.x_set (q := ww7.heap.size) (i := 6) rfl (.inr hg2) e30
      have hb2 : Blk ww30 ww7.heap.size 39 [.int .i64 0, .int .i64 0, .int .u64 0, .int .i64 0, .int .i64 0, .int .i64 0, .slice none 0 0, .int .u64 0] := hb2.seti 6 rfl e30
      refine ⟨hb2.cani 7 rfl rfl, thenW_in fun ww31 e31 => ?_⟩
      have hx31 := hx30.x_set (q := ww7.heap.size) (i := 7) rfl (.inr hg2) e31
      have hb2 : Blk ww31 ww7.heap.size 39 [.int .i64 0, .int .i64 0, .int .u64 0, .int .i64 0, .int .i64 0, .int .i64 0, .slice none 0 0, .int .u64 0] := hb2.seti 7 rfl e31
      refine ⟨0, 0, 0, 0, 0, 0, none, 0, 0, 0, ⟨hb2.celli 0 rfl rfl, hb2.celli 1 rfl rfl, hb2.celli 2 rfl rfl, hb2.celli 3 rfl rfl, hb2.celli 4 rfl rfl, hb2.celli 5 rfl rfl, hb2.celli 6 rfl rfl, hb2.celli 7 rfl rfl, trivial⟩, ?_⟩
      have h := h ww31 hx31
      exact h
    · have h := h.2 (Int.not_le.1 (of_decide_eq_false c23))
      refine thenW_in fun ww34 e34 => ?_
      have hx34 := hx8.x_drew e34
      have hb1 := hb1.x_drew e34
      have hb2 := hb2.x_drew e34
      refine elim_some ha20 ?_
      obtain ⟨wv36, hc35, h⟩ := h
      refine ⟨wv36, (hx34).cell hc35 id, ?_⟩
      refine elim_some ha20 ?_
      obtain ⟨l38a, l38n, l38c, hc37, h⟩ := h
      refine ⟨l38a, l38n, l38c, (hx34).cell hc37 id, ?_⟩
      refine elim_some ha20 ?_
      obtain ⟨sum40, hc39, h⟩ := h
      refine ⟨sum40, (hx34).cell hc39 id, ?_⟩
      refine ⟨atT3, atW4, ⟨hb1.celli 0 rfl rfl, hb1.celli 1 rfl rfl, trivial⟩, ?_⟩
      refine thenW_in fun ww41 e41 => ?_
      have hb3 := Blk.of_new e41
      have hg3 := (hx34).size
      have hb1_3 := Nat.ne_of_lt hb1.lt
      have hb1 := hb1.x_alloc e41
      have hb2_3 := Nat.ne_of_lt hb2.lt
      have hb2 := hb2.x_alloc e41
      have hx41 := hx34.x_alloc e41
      refine ⟨⟨hb1.celli 0 rfl rfl, hb1.celli 1 rfl rfl, trivial⟩, (hx41).cell hc39 id, (hx41).cell hc37 id, (hx41).cell hc35 id, ?_⟩
      refine ⟨hb3.cani 0 rfl rfl, thenW_in fun ww42 e42 => ?_⟩
      have hx42 := hx41.x_set (q := ww34.heap.size) (i := 0) rfl (.inr hg3) e42
      have hb2 := hb2.oth (q := ww34.heap.size) (i := 0) rfl hb2_3 e42
      have hb3 : Blk ww42 ww34.heap.size 39 [.int .i64 wv36, .int .i64 0, .int .u64 0, .int .i64 0, .int .i64 0, .int .i64 0, .slice none 0 0, .int .u64 0] := hb3.seti 0 rfl e42
      refine ⟨hb3.cani 1 rfl rfl, thenW_in fun ww43 e43 => ?_⟩
      have hx43 := hx42.x_set (q := ww34.heap.size) (i := 1) rfl (.inr hg3) e43
      have hb2 := hb2.oth (q := ww34.heap.size) (i := 1) rfl hb2_3 e43
      have hb3 : Blk ww43 ww34.heap.size 39 [.int .i64 wv36, .int .i64 (l38n : Int), .int .u64 0, .int .i64 0, .int .i64 0, .int .i64 0, .slice none 0 0, .int .u64 0] := hb3.seti 1 rfl e43
      refine ⟨hb3.cani 2 rfl rfl, thenW_in fun ww44 e44 => ?_⟩
      have hx44 := hx43.x_set (q := ww34.heap.size) (i := 2) rfl (.inr hg3) e44
      have hb2 := hb2.oth (q := ww34.heap.size) (i := 2) rfl hb2_3 e44
      have hb3 : Blk ww44 ww34.heap.size 39 [.int .i64 wv36, .int .i64 (l38n : Int), .int .u64 sum40, .int .i64 0, .int .i64 0, .int .i64 0, .slice none 0 0, .int .u64 0] := hb3.seti 2 rfl e44
      refine ⟨hb3.cani 3 rfl rfl, thenW_in fun ww45 e45 => ?_⟩
      have hx45 := hx44.x_set (q := ww34.heap.size) (i := 3) rfl (.inr hg3) e45
      have hb2 := hb2.oth (q := ww34.heap.size) (i := 3) rfl hb2_3 e45
      have hb3 : Blk ww45 ww34.heap.size 39 [.int .i64 wv36, .int .i64 (l38n : Int), .int .u64 sum40, .int .i64 atT3, .int .i64 0, .int .i64 0, .slice none 0 0, .int .u64 0] := hb3.seti 3 rfl e45
      refine ⟨hb3.cani 4 rfl rfl, thenW_in fun ww46 e46 => ?_⟩
      have hx46 := hx45.x_set (q := ww34.heap.size) (i := 4) rfl (.inr hg3) e46
      have hb2 := hb2.oth (q := ww34.heap.size) (i := 4) rfl hb2_3 e46
      have hb3 : Blk ww46 ww34.heap.size 39 [.int .i64 wv36, .int .i64 (l38n : Int), .int .u64 sum40, .int .i64 atT3, .int .i64 atW4, .int .i64 0, .slice none 0 0, .int .u64 0] := hb3.seti 4 rfl e46
      refine ⟨hb3.cani 5 rfl rfl, thenW_in fun ww47 e47 => ?_⟩
      have hx47 := hx46.x_set (q := ww34.heap.size) (i := 5) rfl (.inr hg3) e47
      have hb2 := hb2.oth (q := ww34.heap.size) (i := 5) rfl hb2_3 e47
      have hb3 : Blk ww47 ww34.heap.size 39 [.int .i64 wv36, .int .i64 (l38n : Int), .int .u64 sum40, .int .i64 atT3, .int .i64 atW4, .int .i64 epoch5, .slice none 0 0, .int .u64 0] := hb3.seti 5 rfl e47
      refine ⟨hb3.cani 6 rfl rfl, thenW_in fun ww48 e48 => ?_⟩
      have hx48 := hx47.x_set (q := ww34.heap.size) (i := 6) rfl (.inr hg3) e48
      have hb2 := hb2.oth (q := ww34.heap.size) (i := 6) rfl hb2_3 e48
      have hb3 : Blk ww48 ww34.heap.size 39 [.int .i64 wv36, .int .i64 (l38n : Int), .int .u64 sum40, .int .i64 atT3, .int .i64 atW4, .int .i64 epoch5, .slice body6a body6n body6c, .int .u64 0] := hb3.seti 6 rfl e48
      refine ⟨hb3.cani 7 rfl rfl, thenW_in fun ww49 e49 => ?_⟩
      have hx49 := hx48.x_set (q := ww34.heap.size) (i := 7) rfl (.inr hg3) e49
      have hb2 := hb2.oth (q := ww34.heap.size) (i := 7) rfl hb2_3 e49
      have hb3 : Blk ww49 ww34.heap.size 39 [.int .i64 wv36, .int .i64 (l38n : Int), .int .u64 sum40, .int .i64 atT3, .int .i64 atW4, .int .i64 epoch5, .slice body6a body6n body6c, .int .u64 0] := hb3.seti 7 rfl e49
      refine ⟨wv36, (l38n : Int), sum40, atT3, atW4, epoch5, body6a, body6n, body6c, 0, ⟨hb3.celli 0 rfl rfl, hb3.celli 1 rfl rfl, hb3.celli 2 rfl rfl, hb3.celli 3 rfl rfl, hb3.celli 4 rfl rfl, hb3.celli 5 rfl rfl, hb3.celli 6 rfl rfl, hb3.celli 7 rfl rfl, trivial⟩, ?_⟩
      refine (entry_Right.pure wv36 (l38n : Int) sum40 atT3 atW4 epoch5 body6a body6n body6c 0).mono fun ee ww50 ⟨he, hxx⟩ => ⟨(entry_Right.F wv36 (l38n : Int) sum40 atT3 atW4 epoch5 body6a body6n body6c 0), he, ?_⟩
      have hx50 := hx49.trans hxx
      have hb2 := hb2.ext hxx id
      have hb3 := hb3.ext hxx id
      refine bif_of (fun c51 => ?_) (fun c51 => ?_)
      · have h := h.1 (not_t c51)
        refine ⟨hb2.cani 0 rfl rfl, thenW_in fun ww52 e52 => ?_⟩
        have hx52 := hx50.x_set (q := ww7.heap.size) (i := 0) rfl (.inr hg2) e52
        have hb2 : Blk ww52 ww7.heap.size 39 [.int .i64 0, .int .i64 0, .int .u64 0, .int .i64 0, .int .i64 0, .int .i64 0, .slice none 0 0, .int .u64 0] := hb2.seti 0 rfl e52
        refine ⟨hb2.cani 1 rfl rfl, thenW_in fun ww53 e53 => ?_⟩
        have hx53 := hx52.x_set (q := ww7.heap.size) (i := 1) rfl (.inr hg2) e53
        have hb2 : Blk ww53 ww7.heap.size 39 [.int .i64 0, .int .i64 0, .int .u64 0, .int .i64 0, .int .i64 0, .int .i64 0, .slice none 0 0, .int .u64 0] := hb2.seti 1 rfl e53
        refine ⟨hb2.cani 2 rfl rfl, thenW_in fun ww54 e54 => ?_⟩
        have hx54 := hx53.x_set (q := ww7.heap.size) (i := 2) rfl (.inr hg2) e54
        have hb2 : Blk ww54 ww7.heap.size 39 [.int .i64 0, .int .i64 0, .int .u64 0, .int .i64 0, .int .i64 0, .int .i64 0, .slice none 0 0, .int .u64 0] := hb2.seti 2 rfl e54
        refine ⟨hb2.cani 3 rfl rfl, thenW_in fun ww55 e55 => ?_⟩
        have hx55 := hx54.x_set (q := ww7.heap.size) (i := 3) rfl (.inr hg2) e55
        have hb2 : Blk ww55 ww7.heap.size 39 [.int .i64 0, .int .i64 0, .int .u64 0, .int .i64 0, .int .i64 0, .int .i64 0, .slice none 0 0, .int .u64 0] := hb2.seti 3 rfl e55
        refine ⟨hb2.cani 4 rfl rfl, thenW_in fun ww56 e56 => ?_⟩
        have hx56 := hx55.x_set (q := ww7.heap.size) (i := 4) rfl (.inr hg2) e56
        have hb2 : Blk ww56 ww7.heap.size 39 [.int .i64 0, .int .i64 0, .int .u64 0, .int .i64 0, .int .i64 0, .int .i64 0, .slice none 0 0, .int .u64 0] := hb2.seti 4 rfl e56
        refine ⟨hb2.cani 5 rfl rfl, thenW_in fun ww57 e57 => ?_⟩
        have hx57 := hx56.x_set (q := ww7.heap.size) (i := 5) rfl (.inr hg2) e57
        have hb2 : Blk ww57 ww7.heap.size 39 [.int .i64 0, .int .i64 0, .int .u64 0, .int .i64 0, .int .i64 0, .int .i64 0, .slice none 0 0, .int .u64 0] := hb2.seti 5 rfl e57
        refine ⟨hb2.cani 6 rfl rfl, thenW_in fun ww58 e58 => ?_⟩
        have hx58 := hx57.x_set (q := ww7.heap.size) (i := 6) rfl (.inr hg2) e58
        have hb2 : Blk ww58 ww7.heap.size 39 [.int .i64 0, .int .i64 0, .int .u64 0, .int .i64 0, .int .i64 0, .int .i64 0, .slice none 0 0, .int .u64 0] := hb2.seti 6 rfl e58
        refine ⟨hb2.cani 7 rfl rfl, thenW_in fun ww59 e59 => ?_⟩
        have hx59 := hx58.x_set (q := ww7.heap.size) (i := 7) rfl (.inr hg2) e59
        have hb2 : Blk ww59 ww7.heap.size 39 [.int .i64 0, .int .i64 0, .int .u64 0, .int .i64 0, .int .i64 0, .int .i64 0, .slice none 0 0, .int .u64 0] := hb2.seti 7 rfl e59
        refine ⟨0, 0, 0, 0, 0, 0, none, 0, 0, 0, ⟨hb2.celli 0 rfl rfl, hb2.celli 1 rfl rfl, hb2.celli 2 rfl rfl, hb2.celli 3 rfl rfl, hb2.celli 4 rfl rfl, hb2.celli 5 rfl rfl, hb2.celli 6 rfl rfl, hb2.celli 7 rfl rfl, trivial⟩, ?_⟩
        have h := h ww59 hx59
        exact h
      · have h := h.2 (not_f c51)
        refine ⟨wv36, (l38n : Int), sum40, atT3, atW4, epoch5, body6a, body6n, body6c, 0, ⟨hb3.celli 0 rfl rfl, hb3.celli 1 rfl rfl, hb3.celli 2 rfl rfl, hb3.celli 3 rfl rfl, hb3.celli 4 rfl rfl, hb3.celli 5 rfl rfl, hb3.celli 6 rfl rfl, hb3.celli 7 rfl rfl, trivial⟩, ?_⟩
        have h := h ww50 (ww7.heap.size) (ww34.heap.size) hx50 (Priv.cons hg2 hb2.lt (Priv.cons hg3 hb3.lt Priv.nil))
        refine h.mono fun ee67 ww68 h => ?_
        obtain ⟨behind66, he, hk, h⟩ := h
        refine ⟨behind66, he, ?_⟩
        have hb2 := hk.blk hb2 (by simp)
        have hb3 := hk.blk hb3 (by simp)
        refine bif_of (fun c69 => ?_) (fun c69 => ?_)
        · have h := h.1 (bne_t c69)
          have hm77 : Ext (fun b => b = ww7.heap.size) ww68 ww68 := ((Ext.refl no ww68)).none
          refine ⟨hb2.cani 0 rfl rfl, thenW_in fun ww70 e70 => ?_⟩
          have hx70 := hm77.x_set (q := ww7.heap.size) (i := 0) rfl (.inl rfl) e70
          have hb2 : Blk ww70 ww7.heap.size 39 [.int .i64 0, .int .i64 0, .int .u64 0, .int .i64 0, .int .i64 0, .int .i64 0, .slice none 0 0, .int .u64 0] := hb2.seti 0 rfl e70
          refine ⟨hb2.cani 1 rfl rfl, thenW_in fun ww71 e71 => ?_⟩
          have hx71 := hx70.x_set (q := ww7.heap.size) (i := 1) rfl (.inl rfl) e71
          have hb2 : Blk ww71 ww7.heap.size 39 [.int .i64 0, .int .i64 0, .int .u64 0, .int .i64 0, .int .i64 0, .int .i64 0, .slice none 0 0, .int .u64 0] := hb2.seti 1 rfl e71
          refine ⟨hb2.cani 2 rfl rfl, thenW_in fun ww72 e72 => ?_⟩
          have hx72 := hx71.x_set (q := ww7.heap.size) (i := 2) rfl (.inl rfl) e72
          have hb2 : Blk ww72 ww7.heap.size 39 [.int .i64 0, .int .i64 0, .int .u64 0, .int .i64 0, .int .i64 0, .int .i64 0, .slice none 0 0, .int .u64 0] := hb2.seti 2 rfl e72
          refine ⟨hb2.cani 3 rfl rfl, thenW_in fun ww73 e73 => ?_⟩
          have hx73 := hx72.x_set (q := ww7.heap.size) (i := 3) rfl (.inl rfl) e73
          have hb2 : Blk ww73 ww7.heap.size 39 [.int .i64 0, .int .i64 0, .int .u64 0, .int .i64 0, .int .i64 0, .int .i64 0, .slice none 0 0, .int .u64 0] := hb2.seti 3 rfl e73
          refine ⟨hb2.cani 4 rfl rfl, thenW_in fun ww74 e74 => ?_⟩
          have hx74 := hx73.x_set (q := ww7.heap.size) (i := 4) rfl (.inl rfl) e74
          have hb2 : Blk ww74 ww7.heap.size 39 [.int .i64 0, .int .i64 0, .int .u64 0, .int .i64 0, .int .i64 0, .int .i64 0, .slice none 0 0, .int .u64 0] := hb2.seti 4 rfl e74
          refine ⟨hb2.cani 5 rfl rfl, thenW_in fun ww75 e75 => ?_⟩
          have hx75 := hx74.x_set (q := ww7.heap.size) (i := 5) rfl (.inl rfl) e75
          have hb2 : Blk ww75 ww7.heap.size 39 [.int .i64 0, .int .i64 0, .int .u64 0, .int .i64 0, .int .i64 0, .int .i64 0, .slice none 0 0, .int .u64 0] := hb2.seti 5 rfl e75
          refine ⟨hb2.cani 6 rfl rfl, thenW_in fun ww76 e76 => ?_⟩
          have hx76 := hx75.x_set (q := ww7.heap.size) (i := 6) rfl (.inl rfl) e76
          have hb2 : Blk ww76 ww7.heap.size 39 [.int .i64 0, .int .i64 0, .int .u64 0, .int .i64 0, .int .i64 0, .int .i64 0, .slice none 0 0, .int .u64 0] := hb2.seti 6 rfl e76
          refine ⟨hb2.cani 7 rfl rfl, thenW_in fun ww77 e77 => ?_⟩
          have hx77 := hx76.x_set (q := ww7.heap.size) (i := 7) rfl (.inl rfl) e77
          have hb2 : Blk ww77 ww7.heap.size 39 [.int .i64 0, .int .i64 0, .int .u64 0, .int .i64 0, .int .i64 0, .int .i64 0, .slice none 0 0, .int .u64 0] := hb2.seti 7 rfl e77
          refine ⟨0, 0, 0, 0, 0, 0, none, 0, 0, 0, ⟨hb2.celli 0 rfl rfl, hb2.celli 1 rfl rfl, hb2.celli 2 rfl rfl, hb2.celli 3 rfl rfl, hb2.celli 4 rfl rfl, hb2.celli 5 rfl rfl, hb2.celli 6 rfl rfl, hb2.celli 7 rfl rfl, trivial⟩, ?_⟩
          have h := h ww77 hx77
          exact h
        · have h := h.2 (bne_f c69)
          refine thenW_in fun ww78 e78 => ?_
          have hx78 := (Ext.refl no ww68).x_drew e78
          have hb2 := hb2.x_drew e78
          have hb3 := hb3.x_drew e78
          refine elim_some ha20 ?_
          obtain ⟨o80, hc79, h⟩ := h
          refine ⟨o80, (hx78).cell hc79 id, ?_⟩
          refine ⟨wv36, (l38n : Int), sum40, atT3, atW4, epoch5, body6a, body6n, body6c, 0, ⟨hb3.celli 0 rfl rfl, hb3.celli 1 rfl rfl, hb3.celli 2 rfl rfl, hb3.celli 3 rfl rfl, hb3.celli 4 rfl rfl, hb3.celli 5 rfl rfl, hb3.celli 6 rfl rfl, hb3.celli 7 rfl rfl, trivial⟩, ?_⟩
          have h := h ww78 hx78
          refine h.mono fun ee90 ww91 h => ?_
          obtain ⟨Writer81, Index82, Prev83, AtT84, AtW85, Epoch86, Body87a, Body87n, Body87c, Sig88, sign89, he, hk, h⟩ := h
          refine ⟨Writer81, Index82, Prev83, AtT84, AtW85, Epoch86, Body87a, Body87n, Body87c, Sig88, sign89, he, ?_⟩
          have hb2 := hk.blk hb2 (by simp)
          have hb3 := hk.blk hb3 (by simp)
          have hm99 : Ext (fun b => b = ww34.heap.size) ww91 ww91 := ((Ext.refl no ww91)).none
          refine ⟨hb3.cani 0 rfl rfl, thenW_in fun ww92 e92 => ?_⟩
          have hx92 := hm99.x_set (q := ww34.heap.size) (i := 0) rfl (.inl rfl) e92
          have hb2 := hb2.oth (q := ww34.heap.size) (i := 0) rfl hb2_3 e92
          have hb3 : Blk ww92 ww34.heap.size 39 [.int .i64 Writer81, .int .i64 (l38n : Int), .int .u64 sum40, .int .i64 atT3, .int .i64 atW4, .int .i64 epoch5, .slice body6a body6n body6c, .int .u64 0] := hb3.seti 0 rfl e92
          refine ⟨hb3.cani 1 rfl rfl, thenW_in fun ww93 e93 => ?_⟩
          have hx93 := hx92.x_set (q := ww34.heap.size) (i := 1) rfl (.inl rfl) e93
          have hb2 := hb2.oth (q := ww34.heap.size) (i := 1) rfl hb2_3 e93
          have hb3 : Blk ww93 ww34.heap.size 39 [.int .i64 Writer81, .int .i64 Index82, .int .u64 sum40, .int .i64 atT3, .int .i64 atW4, .int .i64 epoch5, .slice body6a body6n body6c, .int .u64 0] := hb3.seti 1 rfl e93
          refine ⟨hb3.cani 2 rfl rfl, thenW_in fun ww94 e94 => ?_⟩
          have hx94 := hx93.x_set (q := ww34.heap.size) (i := 2) rfl (.inl rfl) e94
          have hb2 := hb2.oth (q := ww34.heap.size) (i := 2) rfl hb2_3 e94
          have hb3 : Blk ww94 ww34.heap.size 39 [.int .i64 Writer81, .int .i64 Index82, .int .u64 Prev83, .int .i64 atT3, .int .i64 atW4, .int .i64 epoch5, .slice body6a body6n body6c, .int .u64 0] := hb3.seti 2 rfl e94
          refine ⟨hb3.cani 3 rfl rfl, thenW_in fun ww95 e95 => ?_⟩
          have hx95 := hx94.x_set (q := ww34.heap.size) (i := 3) rfl (.inl rfl) e95
          have hb2 := hb2.oth (q := ww34.heap.size) (i := 3) rfl hb2_3 e95
          have hb3 : Blk ww95 ww34.heap.size 39 [.int .i64 Writer81, .int .i64 Index82, .int .u64 Prev83, .int .i64 AtT84, .int .i64 atW4, .int .i64 epoch5, .slice body6a body6n body6c, .int .u64 0] := hb3.seti 3 rfl e95
          refine ⟨hb3.cani 4 rfl rfl, thenW_in fun ww96 e96 => ?_⟩
          have hx96 := hx95.x_set (q := ww34.heap.size) (i := 4) rfl (.inl rfl) e96
          have hb2 := hb2.oth (q := ww34.heap.size) (i := 4) rfl hb2_3 e96
          have hb3 : Blk ww96 ww34.heap.size 39 [.int .i64 Writer81, .int .i64 Index82, .int .u64 Prev83, .int .i64 AtT84, .int .i64 AtW85, .int .i64 epoch5, .slice body6a body6n body6c, .int .u64 0] := hb3.seti 4 rfl e96
          refine ⟨hb3.cani 5 rfl rfl, thenW_in fun ww97 e97 => ?_⟩
          have hx97 := hx96.x_set (q := ww34.heap.size) (i := 5) rfl (.inl rfl) e97
          have hb2 := hb2.oth (q := ww34.heap.size) (i := 5) rfl hb2_3 e97
          have hb3 : Blk ww97 ww34.heap.size 39 [.int .i64 Writer81, .int .i64 Index82, .int .u64 Prev83, .int .i64 AtT84, .int .i64 AtW85, .int .i64 Epoch86, .slice body6a body6n body6c, .int .u64 0] := hb3.seti 5 rfl e97
          refine ⟨hb3.cani 6 rfl rfl, thenW_in fun ww98 e98 => ?_⟩
          have hx98 := hx97.x_set (q := ww34.heap.size) (i := 6) rfl (.inl rfl) e98
          have hb2 := hb2.oth (q := ww34.heap.size) (i := 6) rfl hb2_3 e98
          have hb3 : Blk ww98 ww34.heap.size 39 [.int .i64 Writer81, .int .i64 Index82, .int .u64 Prev83, .int .i64 AtT84, .int .i64 AtW85, .int .i64 Epoch86, .slice Body87a Body87n Body87c, .int .u64 0] := hb3.seti 6 rfl e98
          refine ⟨hb3.cani 7 rfl rfl, thenW_in fun ww99 e99 => ?_⟩
          have hx99 := hx98.x_set (q := ww34.heap.size) (i := 7) rfl (.inl rfl) e99
          have hb2 := hb2.oth (q := ww34.heap.size) (i := 7) rfl hb2_3 e99
          have hb3 : Blk ww99 ww34.heap.size 39 [.int .i64 Writer81, .int .i64 Index82, .int .u64 Prev83, .int .i64 AtT84, .int .i64 AtW85, .int .i64 Epoch86, .slice Body87a Body87n Body87c, .int .u64 Sig88] := hb3.seti 7 rfl e99
          refine bif_of (fun c100 => ?_) (fun c100 => ?_)
          · have h := h.1 (bne_t c100)
            have hm108 : Ext (fun b => b = ww7.heap.size ∨ b = ww34.heap.size) ww91 ww99 := (hx99).mono fun _ h _ => .inr h
            refine ⟨hb2.cani 0 rfl rfl, thenW_in fun ww101 e101 => ?_⟩
            have hx101 := hm108.x_set (q := ww7.heap.size) (i := 0) rfl (.inl (.inl rfl)) e101
            have hb2 : Blk ww101 ww7.heap.size 39 [.int .i64 0, .int .i64 0, .int .u64 0, .int .i64 0, .int .i64 0, .int .i64 0, .slice none 0 0, .int .u64 0] := hb2.seti 0 rfl e101
            refine ⟨hb2.cani 1 rfl rfl, thenW_in fun ww102 e102 => ?_⟩
            have hx102 := hx101.x_set (q := ww7.heap.size) (i := 1) rfl (.inl (.inl rfl)) e102
            have hb2 : Blk ww102 ww7.heap.size 39 [.int .i64 0, .int .i64 0, .int .u64 0, .int .i64 0, .int .i64 0, .int .i64 0, .slice none 0 0, .int .u64 0] := hb2.seti 1 rfl e102
            refine ⟨hb2.cani 2 rfl rfl, thenW_in fun ww103 e103 => ?_⟩
            have hx103 := hx102.x_set (q := ww7.heap.size) (i := 2) rfl (.inl (.inl rfl)) e103
            have hb2 : Blk ww103 ww7.heap.size 39 [.int .i64 0, .int .i64 0, .int .u64 0, .int .i64 0, .int .i64 0, .int .i64 0, .slice none 0 0, .int .u64 0] := hb2.seti 2 rfl e103
            refine ⟨hb2.cani 3 rfl rfl, thenW_in fun ww104 e104 => ?_⟩
            have hx104 := hx103.x_set (q := ww7.heap.size) (i := 3) rfl (.inl (.inl rfl)) e104
            have hb2 : Blk ww104 ww7.heap.size 39 [.int .i64 0, .int .i64 0, .int .u64 0, .int .i64 0, .int .i64 0, .int .i64 0, .slice none 0 0, .int .u64 0] := hb2.seti 3 rfl e104
            refine ⟨hb2.cani 4 rfl rfl, thenW_in fun ww105 e105 => ?_⟩
            have hx105 := hx104.x_set (q := ww7.heap.size) (i := 4) rfl (.inl (.inl rfl)) e105
            have hb2 : Blk ww105 ww7.heap.size 39 [.int .i64 0, .int .i64 0, .int .u64 0, .int .i64 0, .int .i64 0, .int .i64 0, .slice none 0 0, .int .u64 0] := hb2.seti 4 rfl e105
            refine ⟨hb2.cani 5 rfl rfl, thenW_in fun ww106 e106 => ?_⟩
            have hx106 := hx105.x_set (q := ww7.heap.size) (i := 5) rfl (.inl (.inl rfl)) e106
            have hb2 : Blk ww106 ww7.heap.size 39 [.int .i64 0, .int .i64 0, .int .u64 0, .int .i64 0, .int .i64 0, .int .i64 0, .slice none 0 0, .int .u64 0] := hb2.seti 5 rfl e106
            refine ⟨hb2.cani 6 rfl rfl, thenW_in fun ww107 e107 => ?_⟩
            have hx107 := hx106.x_set (q := ww7.heap.size) (i := 6) rfl (.inl (.inl rfl)) e107
            have hb2 : Blk ww107 ww7.heap.size 39 [.int .i64 0, .int .i64 0, .int .u64 0, .int .i64 0, .int .i64 0, .int .i64 0, .slice none 0 0, .int .u64 0] := hb2.seti 6 rfl e107
            refine ⟨hb2.cani 7 rfl rfl, thenW_in fun ww108 e108 => ?_⟩
            have hx108 := hx107.x_set (q := ww7.heap.size) (i := 7) rfl (.inl (.inl rfl)) e108
            have hb2 : Blk ww108 ww7.heap.size 39 [.int .i64 0, .int .i64 0, .int .u64 0, .int .i64 0, .int .i64 0, .int .i64 0, .slice none 0 0, .int .u64 0] := hb2.seti 7 rfl e108
            refine ⟨0, 0, 0, 0, 0, 0, none, 0, 0, 0, ⟨hb2.celli 0 rfl rfl, hb2.celli 1 rfl rfl, hb2.celli 2 rfl rfl, hb2.celli 3 rfl rfl, hb2.celli 4 rfl rfl, hb2.celli 5 rfl rfl, hb2.celli 6 rfl rfl, hb2.celli 7 rfl rfl, trivial⟩, ?_⟩
            have h := h ww108 hx108
            exact h
          · have h := h.2 (bne_f c100)
            refine ⟨Writer81, Index82, Prev83, AtT84, AtW85, Epoch86, Body87a, Body87n, Body87c, Sig88, ⟨hb3.celli 0 rfl rfl, hb3.celli 1 rfl rfl, hb3.celli 2 rfl rfl, hb3.celli 3 rfl rfl, hb3.celli 4 rfl rfl, hb3.celli 5 rfl rfl, hb3.celli 6 rfl rfl, hb3.celli 7 rfl rfl, trivial⟩, ?_⟩
            have h := h ww99 hx99
            refine h.mono fun ee109 ww110 h => ?_
            obtain ⟨he, hk, h⟩ := h
            refine ⟨he, ?_⟩
            have hb2 := hk.blk hb2 (by simp)
            have hb3 := hk.blk hb3 (by simp)
            refine ⟨Writer81, Index82, Prev83, AtT84, AtW85, Epoch86, Body87a, Body87n, Body87c, Sig88, ⟨hb3.celli 0 rfl rfl, hb3.celli 1 rfl rfl, hb3.celli 2 rfl rfl, hb3.celli 3 rfl rfl, hb3.celli 4 rfl rfl, hb3.celli 5 rfl rfl, hb3.celli 6 rfl rfl, hb3.celli 7 rfl rfl, trivial⟩, ?_⟩
            have hm118 : Ext (fun b => b = ww7.heap.size) ww110 ww110 := ((Ext.refl no ww110)).none
            refine ⟨hb2.cani 0 rfl rfl, thenW_in fun ww111 e111 => ?_⟩
            have hx111 := hm118.x_set (q := ww7.heap.size) (i := 0) rfl (.inl rfl) e111
            have hb2 : Blk ww111 ww7.heap.size 39 [.int .i64 Writer81, .int .i64 0, .int .u64 0, .int .i64 0, .int .i64 0, .int .i64 0, .slice none 0 0, .int .u64 0] := hb2.seti 0 rfl e111
            refine ⟨hb2.cani 1 rfl rfl, thenW_in fun ww112 e112 => ?_⟩
            have hx112 := hx111.x_set (q := ww7.heap.size) (i := 1) rfl (.inl rfl) e112
            have hb2 : Blk ww112 ww7.heap.size 39 [.int .i64 Writer81, .int .i64 Index82, .int .u64 0, .int .i64 0, .int .i64 0, .int .i64 0, .slice none 0 0, .int .u64 0] := hb2.seti 1 rfl e112
            refine ⟨hb2.cani 2 rfl rfl, thenW_in fun ww113 e113 => ?_⟩
            have hx113 := hx112.x_set (q := ww7.heap.size) (i := 2) rfl (.inl rfl) e113
            have hb2 : Blk ww113 ww7.heap.size 39 [.int .i64 Writer81, .int .i64 Index82, .int .u64 Prev83, .int .i64 0, .int .i64 0, .int .i64 0, .slice none 0 0, .int .u64 0] := hb2.seti 2 rfl e113
            refine ⟨hb2.cani 3 rfl rfl, thenW_in fun ww114 e114 => ?_⟩
            have hx114 := hx113.x_set (q := ww7.heap.size) (i := 3) rfl (.inl rfl) e114
            have hb2 : Blk ww114 ww7.heap.size 39 [.int .i64 Writer81, .int .i64 Index82, .int .u64 Prev83, .int .i64 AtT84, .int .i64 0, .int .i64 0, .slice none 0 0, .int .u64 0] := hb2.seti 3 rfl e114
            refine ⟨hb2.cani 4 rfl rfl, thenW_in fun ww115 e115 => ?_⟩
            have hx115 := hx114.x_set (q := ww7.heap.size) (i := 4) rfl (.inl rfl) e115
            have hb2 : Blk ww115 ww7.heap.size 39 [.int .i64 Writer81, .int .i64 Index82, .int .u64 Prev83, .int .i64 AtT84, .int .i64 AtW85, .int .i64 0, .slice none 0 0, .int .u64 0] := hb2.seti 4 rfl e115
            refine ⟨hb2.cani 5 rfl rfl, thenW_in fun ww116 e116 => ?_⟩
            have hx116 := hx115.x_set (q := ww7.heap.size) (i := 5) rfl (.inl rfl) e116
            have hb2 : Blk ww116 ww7.heap.size 39 [.int .i64 Writer81, .int .i64 Index82, .int .u64 Prev83, .int .i64 AtT84, .int .i64 AtW85, .int .i64 Epoch86, .slice none 0 0, .int .u64 0] := hb2.seti 5 rfl e116
            refine ⟨hb2.cani 6 rfl rfl, thenW_in fun ww117 e117 => ?_⟩
            have hx117 := hx116.x_set (q := ww7.heap.size) (i := 6) rfl (.inl rfl) e117
            have hb2 : Blk ww117 ww7.heap.size 39 [.int .i64 Writer81, .int .i64 Index82, .int .u64 Prev83, .int .i64 AtT84, .int .i64 AtW85, .int .i64 Epoch86, .slice Body87a Body87n Body87c, .int .u64 0] := hb2.seti 6 rfl e117
            refine ⟨hb2.cani 7 rfl rfl, thenW_in fun ww118 e118 => ?_⟩
            have hx118 := hx117.x_set (q := ww7.heap.size) (i := 7) rfl (.inl rfl) e118
            have hb2 : Blk ww118 ww7.heap.size 39 [.int .i64 Writer81, .int .i64 Index82, .int .u64 Prev83, .int .i64 AtT84, .int .i64 AtW85, .int .i64 Epoch86, .slice Body87a Body87n Body87c, .int .u64 Sig88] := hb2.seti 7 rfl e118
            refine ⟨Writer81, Index82, Prev83, AtT84, AtW85, Epoch86, Body87a, Body87n, Body87c, Sig88, ⟨hb2.celli 0 rfl rfl, hb2.celli 1 rfl rfl, hb2.celli 2 rfl rfl, hb2.celli 3 rfl rfl, hb2.celli 4 rfl rfl, hb2.celli 5 rfl rfl, hb2.celli 6 rfl rfl, hb2.celli 7 rfl rfl, trivial⟩, ?_⟩
            have h := h ww118 hx118
            exact h

theorem chain_Log_Issue.go (l1 : Option Addr) (secret2 : Int) (atT3 : Int) (atW4 : Int) (epoch5 : Int) (body6a : Option Addr) (body6n : Nat) (body6c : Nat) {R : Value → World → Prop} {w : World} (h : chain_Log_Issue.N l1 secret2 atT3 atW4 epoch5 body6a body6n body6c R w) : Calls Try.prog 14 #[.pointer l1, .int .u64 secret2, .agg #[.int .i64 atT3, .int .i64 atW4], .int .i64 epoch5, .slice body6a body6n body6c] w fun e w' => ∃ v, e = .returned v ∧ R v w' := chain_Log_Issue.ok l1 secret2 atT3 atW4 epoch5 body6a body6n body6c (chain_Log_Issue.up l1 secret2 atT3 atW4 epoch5 body6a body6n body6c h)
theorem chain_Log_Issue.run (l1 : Option Addr) (secret2 : Int) (atT3 : Int) (atW4 : Int) (epoch5 : Int) (body6a : Option Addr) (body6n : Nat) (body6c : Nat) {V : Value} {Q : World → Prop} {w : World} (h : chain_Log_Issue.N l1 secret2 atT3 atW4 epoch5 body6a body6n body6c (fun v w' => v = V ∧ Q w') w) : Calls Try.prog 14 #[.pointer l1, .int .u64 secret2, .agg #[.int .i64 atT3, .int .i64 atW4], .int .i64 epoch5, .slice body6a body6n body6c] w (Ret V Q) := (chain_Log_Issue.go l1 secret2 atT3 atW4 epoch5 body6a body6n body6c h).mono fun e w' ⟨v, he, hv, hq⟩ => ⟨by rw [he, hv], hq⟩

/-- (*chain.Log).Odds -/
def chain_Log_Odds.M (l1 : Option Addr) (eWriter2 : Int) (eIndex3 : Int) (ePrev4 : Int) (eAtT5 : Int) (eAtW6 : Int) (eEpoch7 : Int) (eBody8a : Option Addr) (eBody8n : Nat) (eBody8c : Nat) (eSig9 : Int) (R : Value → World → Prop) (w : World) : Prop :=
  thenW (w.alloc (.cells #[.int .i64 eWriter2, .int .i64 eIndex3, .int .u64 ePrev4, .int .i64 eAtT5, .int .i64 eAtW6, .int .i64 eEpoch7, .slice eBody8a eBody8n eBody8c, .int .u64 eSig9] 39)) fun ww10 =>
  thenW (ww10.alloc (.cells #[.int .i64 0, .int .i64 0, .int .u64 0, .int .i64 0, .int .i64 0, .int .i64 0, .slice none 0 0, .int .u64 0] 39)) fun ww11 =>
  thenW (ww11.alloc (.cells #[.int .i64 0, .int .i64 0, .int .u64 0, .int .i64 0, .int .i64 0, .int .i64 0, .slice none 0 0, .int .u64 0] 39)) fun ww12 =>
  ∃ (xWriter13 : Int) (xIndex14 : Int) (xPrev15 : Int) (xAtT16 : Int) (xAtW17 : Int) (xEpoch18 : Int) (xBody19a : Option Addr) (xBody19n : Nat) (xBody19c : Nat) (xSig20 : Int), cellsAt ww12 (blk w.heap.size) [.int .i64 xWriter13, .int .i64 xIndex14, .int .u64 xPrev15, .int .i64 xAtT16, .int .i64 xAtW17, .int .i64 xEpoch18, .slice xBody19a xBody19n xBody19c, .int .u64 xSig20] 0 ∧
  Calls Try.prog 26 #[.pointer l1, .agg #[.int .i64 xWriter13, .int .i64 xIndex14, .int .u64 xPrev15, .int .i64 xAtT16, .int .i64 xAtW17, .int .i64 xEpoch18, .slice xBody19a xBody19n xBody19c, .int .u64 xSig20]] ww12 fun ee22 ww23 => ∃ (check21 : Int), ee22 = .returned (.int .i64 check21) ∧
  bif check21 != 9 then (
  thenW (ww23.drew) fun ww24 =>
  ∃ (xWriter25 : Int) (xIndex26 : Int) (xPrev27 : Int) (xAtT28 : Int) (xAtW29 : Int) (xEpoch30 : Int) (xBody31a : Option Addr) (xBody31n : Nat) (xBody31c : Nat) (xSig32 : Int), cellsAt ww24 (blk ww10.heap.size) [.int .i64 xWriter25, .int .i64 xIndex26, .int .u64 xPrev27, .int .i64 xAtT28, .int .i64 xAtW29, .int .i64 xEpoch30, .slice xBody31a xBody31n xBody31c, .int .u64 xSig32] 0 ∧
  ∃ (xWriter33 : Int) (xIndex34 : Int) (xPrev35 : Int) (xAtT36 : Int) (xAtW37 : Int) (xEpoch38 : Int) (xBody39a : Option Addr) (xBody39n : Nat) (xBody39c : Nat) (xSig40 : Int), cellsAt ww24 (blk ww11.heap.size) [.int .i64 xWriter33, .int .i64 xIndex34, .int .u64 xPrev35, .int .i64 xAtT36, .int .i64 xAtW37, .int .i64 xEpoch38, .slice xBody39a xBody39n xBody39c, .int .u64 xSig40] 0 ∧
  canStore ww24 ((blk ww10.heap.size).add 0) ∧
  thenW (ww24.setCell ((blk ww10.heap.size).add 0) (.int .i64 xWriter25)) fun ww41 =>
  canStore ww41 ((blk ww10.heap.size).add 1) ∧
  thenW (ww41.setCell ((blk ww10.heap.size).add 1) (.int .i64 xIndex26)) fun ww42 =>
  canStore ww42 ((blk ww10.heap.size).add 2) ∧
  thenW (ww42.setCell ((blk ww10.heap.size).add 2) (.int .u64 xPrev27)) fun ww43 =>
  canStore ww43 ((blk ww10.heap.size).add 3) ∧
  thenW (ww43.setCell ((blk ww10.heap.size).add 3) (.int .i64 xAtT28)) fun ww44 =>
  canStore ww44 ((blk ww10.heap.size).add 4) ∧
  thenW (ww44.setCell ((blk ww10.heap.size).add 4) (.int .i64 xAtW29)) fun ww45 =>
  canStore ww45 ((blk ww10.heap.size).add 5) ∧
  thenW (ww45.setCell ((blk ww10.heap.size).add 5) (.int .i64 xEpoch30)) fun ww46 =>
  canStore ww46 ((blk ww10.heap.size).add 6) ∧
  thenW (ww46.setCell ((blk ww10.heap.size).add 6) (.slice xBody31a xBody31n xBody31c)) fun ww47 =>
  canStore ww47 ((blk ww10.heap.size).add 7) ∧
  thenW (ww47.setCell ((blk ww10.heap.size).add 7) (.int .u64 xSig32)) fun ww48 =>
  cellsAt ww48 (blk ww11.heap.size) [.int .i64 xWriter33, .int .i64 xIndex34, .int .u64 xPrev35, .int .i64 xAtT36, .int .i64 xAtW37, .int .i64 xEpoch38, .slice xBody39a xBody39n xBody39c, .int .u64 xSig40] 0 ∧
  canStore ww48 ((blk ww11.heap.size).add 0) ∧
  thenW (ww48.setCell ((blk ww11.heap.size).add 0) (.int .i64 xWriter33)) fun ww49 =>
  canStore ww49 ((blk ww11.heap.size).add 1) ∧
  thenW (ww49.setCell ((blk ww11.heap.size).add 1) (.int .i64 xIndex34)) fun ww50 =>
  canStore ww50 ((blk ww11.heap.size).add 2) ∧
  thenW (ww50.setCell ((blk ww11.heap.size).add 2) (.int .u64 xPrev35)) fun ww51 =>
  canStore ww51 ((blk ww11.heap.size).add 3) ∧
  thenW (ww51.setCell ((blk ww11.heap.size).add 3) (.int .i64 xAtT36)) fun ww52 =>
  canStore ww52 ((blk ww11.heap.size).add 4) ∧
  thenW (ww52.setCell ((blk ww11.heap.size).add 4) (.int .i64 xAtW37)) fun ww53 =>
  canStore ww53 ((blk ww11.heap.size).add 5) ∧
  thenW (ww53.setCell ((blk ww11.heap.size).add 5) (.int .i64 xEpoch38)) fun ww54 =>
  canStore ww54 ((blk ww11.heap.size).add 6) ∧
  thenW (ww54.setCell ((blk ww11.heap.size).add 6) (.slice xBody39a xBody39n xBody39c)) fun ww55 =>
  canStore ww55 ((blk ww11.heap.size).add 7) ∧
  thenW (ww55.setCell ((blk ww11.heap.size).add 7) (.int .u64 xSig40)) fun ww56 =>
  ∃ (resWriter57 : Int) (resIndex58 : Int) (resPrev59 : Int) (resAtT60 : Int) (resAtW61 : Int) (resEpoch62 : Int) (resBody63a : Option Addr) (resBody63n : Nat) (resBody63c : Nat) (resSig64 : Int), cellsAt ww56 (blk ww10.heap.size) [.int .i64 resWriter57, .int .i64 resIndex58, .int .u64 resPrev59, .int .i64 resAtT60, .int .i64 resAtW61, .int .i64 resEpoch62, .slice resBody63a resBody63n resBody63c, .int .u64 resSig64] 0 ∧
  ∃ (resWriter65 : Int) (resIndex66 : Int) (resPrev67 : Int) (resAtT68 : Int) (resAtW69 : Int) (resEpoch70 : Int) (resBody71a : Option Addr) (resBody71n : Nat) (resBody71c : Nat) (resSig72 : Int), cellsAt ww56 (blk ww11.heap.size) [.int .i64 resWriter65, .int .i64 resIndex66, .int .u64 resPrev67, .int .i64 resAtT68, .int .i64 resAtW69, .int .i64 resEpoch70, .slice resBody71a resBody71n resBody71c, .int .u64 resSig72] 0 ∧
  R (.tuple #[.agg #[.int .i64 resWriter57, .int .i64 resIndex58, .int .u64 resPrev59, .int .i64 resAtT60, .int .i64 resAtW61, .int .i64 resEpoch62, .slice resBody63a resBody63n resBody63c, .int .u64 resSig64], .agg #[.int .i64 resWriter65, .int .i64 resIndex66, .int .u64 resPrev67, .int .i64 resAtT68, .int .i64 resAtW69, .int .i64 resEpoch70, .slice resBody71a resBody71n resBody71c, .int .u64 resSig72], .bool false]) ww56) else (
  thenW (ww23.drew) fun ww73 =>
  l1.elim False fun a74 =>
  ∃ (l75a : Option Addr) (l75n : Nat) (l75c : Nat), ww73.cell? (a74.add 3) = some (.slice l75a l75n l75c) ∧
  ∃ (Index76 : Int), ww73.cell? ((blk w.heap.size).add 1) = some (.int .i64 Index76) ∧
  l75a.elim False fun a77 =>
  0 ≤ (Index76 : Int) ∧ (Index76 : Int) < (l75n : Int) ∧
  ∃ (xWriter78 : Int) (xIndex79 : Int) (xPrev80 : Int) (xAtT81 : Int) (xAtW82 : Int) (xEpoch83 : Int) (xBody84a : Option Addr) (xBody84n : Nat) (xBody84c : Nat) (xSig85 : Int), cellsAt ww73 (a77.add (Int.toNat Index76 * 8)) [.int .i64 xWriter78, .int .i64 xIndex79, .int .u64 xPrev80, .int .i64 xAtT81, .int .i64 xAtW82, .int .i64 xEpoch83, .slice xBody84a xBody84n xBody84c, .int .u64 xSig85] 0 ∧
  ∃ (xWriter86 : Int) (xIndex87 : Int) (xPrev88 : Int) (xAtT89 : Int) (xAtW90 : Int) (xEpoch91 : Int) (xBody92a : Option Addr) (xBody92n : Nat) (xBody92c : Nat) (xSig93 : Int), cellsAt ww73 (blk w.heap.size) [.int .i64 xWriter86, .int .i64 xIndex87, .int .u64 xPrev88, .int .i64 xAtT89, .int .i64 xAtW90, .int .i64 xEpoch91, .slice xBody92a xBody92n xBody92c, .int .u64 xSig93] 0 ∧
  Calls Try.prog 42 #[.agg #[.int .i64 xWriter78, .int .i64 xIndex79, .int .u64 xPrev80, .int .i64 xAtT81, .int .i64 xAtW82, .int .i64 xEpoch83, .slice xBody84a xBody84n xBody84c, .int .u64 xSig85]] ww73 fun ee102 ww103 => ∃ (Writer94 : Int) (Index95 : Int) (Prev96 : Int) (AtT97 : Int) (AtW98 : Int) (Epoch99 : Int) (Body100a : Option Addr) (Body100n : Nat) (Body100c : Nat) (Sig101 : Int), ee102 = .returned (.agg #[.int .i64 Writer94, .int .i64 Index95, .int .u64 Prev96, .int .i64 AtT97, .int .i64 AtW98, .int .i64 Epoch99, .slice Body100a Body100n Body100c, .int .u64 Sig101]) ∧
  cellsAt ww103 (blk w.heap.size) [.int .i64 xWriter86, .int .i64 xIndex87, .int .u64 xPrev88, .int .i64 xAtT89, .int .i64 xAtW90, .int .i64 xEpoch91, .slice xBody92a xBody92n xBody92c, .int .u64 xSig93] 0 ∧
  Calls Try.prog 42 #[.agg #[.int .i64 xWriter86, .int .i64 xIndex87, .int .u64 xPrev88, .int .i64 xAtT89, .int .i64 xAtW90, .int .i64 xEpoch91, .slice xBody92a xBody92n xBody92c, .int .u64 xSig93]] ww103 fun ee112 ww113 => ∃ (Writer104 : Int) (Index105 : Int) (Prev106 : Int) (AtT107 : Int) (AtW108 : Int) (Epoch109 : Int) (Body110a : Option Addr) (Body110n : Nat) (Body110c : Nat) (Sig111 : Int), ee112 = .returned (.agg #[.int .i64 Writer104, .int .i64 Index105, .int .u64 Prev106, .int .i64 AtT107, .int .i64 AtW108, .int .i64 Epoch109, .slice Body110a Body110n Body110c, .int .u64 Sig111]) ∧
  canStore ww113 ((blk ww10.heap.size).add 0) ∧
  thenW (ww113.setCell ((blk ww10.heap.size).add 0) (.int .i64 Writer94)) fun ww114 =>
  canStore ww114 ((blk ww10.heap.size).add 1) ∧
  thenW (ww114.setCell ((blk ww10.heap.size).add 1) (.int .i64 Index95)) fun ww115 =>
  canStore ww115 ((blk ww10.heap.size).add 2) ∧
  thenW (ww115.setCell ((blk ww10.heap.size).add 2) (.int .u64 Prev96)) fun ww116 =>
  canStore ww116 ((blk ww10.heap.size).add 3) ∧
  thenW (ww116.setCell ((blk ww10.heap.size).add 3) (.int .i64 AtT97)) fun ww117 =>
  canStore ww117 ((blk ww10.heap.size).add 4) ∧
  thenW (ww117.setCell ((blk ww10.heap.size).add 4) (.int .i64 AtW98)) fun ww118 =>
  canStore ww118 ((blk ww10.heap.size).add 5) ∧
  thenW (ww118.setCell ((blk ww10.heap.size).add 5) (.int .i64 Epoch99)) fun ww119 =>
  canStore ww119 ((blk ww10.heap.size).add 6) ∧
  thenW (ww119.setCell ((blk ww10.heap.size).add 6) (.slice Body100a Body100n Body100c)) fun ww120 =>
  canStore ww120 ((blk ww10.heap.size).add 7) ∧
  thenW (ww120.setCell ((blk ww10.heap.size).add 7) (.int .u64 Sig101)) fun ww121 =>
  canStore ww121 ((blk ww11.heap.size).add 0) ∧
  thenW (ww121.setCell ((blk ww11.heap.size).add 0) (.int .i64 Writer104)) fun ww122 =>
  canStore ww122 ((blk ww11.heap.size).add 1) ∧
  thenW (ww122.setCell ((blk ww11.heap.size).add 1) (.int .i64 Index105)) fun ww123 =>
  canStore ww123 ((blk ww11.heap.size).add 2) ∧
  thenW (ww123.setCell ((blk ww11.heap.size).add 2) (.int .u64 Prev106)) fun ww124 =>
  canStore ww124 ((blk ww11.heap.size).add 3) ∧
  thenW (ww124.setCell ((blk ww11.heap.size).add 3) (.int .i64 AtT107)) fun ww125 =>
  canStore ww125 ((blk ww11.heap.size).add 4) ∧
  thenW (ww125.setCell ((blk ww11.heap.size).add 4) (.int .i64 AtW108)) fun ww126 =>
  canStore ww126 ((blk ww11.heap.size).add 5) ∧
  thenW (ww126.setCell ((blk ww11.heap.size).add 5) (.int .i64 Epoch109)) fun ww127 =>
  canStore ww127 ((blk ww11.heap.size).add 6) ∧
  thenW (ww127.setCell ((blk ww11.heap.size).add 6) (.slice Body110a Body110n Body110c)) fun ww128 =>
  canStore ww128 ((blk ww11.heap.size).add 7) ∧
  thenW (ww128.setCell ((blk ww11.heap.size).add 7) (.int .u64 Sig111)) fun ww129 =>
  ∃ (resWriter130 : Int) (resIndex131 : Int) (resPrev132 : Int) (resAtT133 : Int) (resAtW134 : Int) (resEpoch135 : Int) (resBody136a : Option Addr) (resBody136n : Nat) (resBody136c : Nat) (resSig137 : Int), cellsAt ww129 (blk ww10.heap.size) [.int .i64 resWriter130, .int .i64 resIndex131, .int .u64 resPrev132, .int .i64 resAtT133, .int .i64 resAtW134, .int .i64 resEpoch135, .slice resBody136a resBody136n resBody136c, .int .u64 resSig137] 0 ∧
  ∃ (resWriter138 : Int) (resIndex139 : Int) (resPrev140 : Int) (resAtT141 : Int) (resAtW142 : Int) (resEpoch143 : Int) (resBody144a : Option Addr) (resBody144n : Nat) (resBody144c : Nat) (resSig145 : Int), cellsAt ww129 (blk ww11.heap.size) [.int .i64 resWriter138, .int .i64 resIndex139, .int .u64 resPrev140, .int .i64 resAtT141, .int .i64 resAtW142, .int .i64 resEpoch143, .slice resBody144a resBody144n resBody144c, .int .u64 resSig145] 0 ∧
  R (.tuple #[.agg #[.int .i64 resWriter130, .int .i64 resIndex131, .int .u64 resPrev132, .int .i64 resAtT133, .int .i64 resAtW134, .int .i64 resEpoch135, .slice resBody136a resBody136n resBody136c, .int .u64 resSig137], .agg #[.int .i64 resWriter138, .int .i64 resIndex139, .int .u64 resPrev140, .int .i64 resAtT141, .int .i64 resAtW142, .int .i64 resEpoch143, .slice resBody144a resBody144n resBody144c, .int .u64 resSig145], .bool true]) ww129)

theorem chain_Log_Odds.eq (l1 : Option Addr) (eWriter2 : Int) (eIndex3 : Int) (ePrev4 : Int) (eAtT5 : Int) (eAtW6 : Int) (eEpoch7 : Int) (eBody8a : Option Addr) (eBody8n : Nat) (eBody8c : Nat) (eSig9 : Int) (R : Value → World → Prop) (w : World) : mfunc Try.prog [] 24 [.pointer l1, .agg #[.int .i64 eWriter2, .int .i64 eIndex3, .int .u64 ePrev4, .int .i64 eAtT5, .int .i64 eAtW6, .int .i64 eEpoch7, .slice eBody8a eBody8n eBody8c, .int .u64 eSig9]] R w = chain_Log_Odds.M l1 eWriter2 eIndex3 ePrev4 eAtT5 eAtW6 eEpoch7 eBody8a eBody8n eBody8c eSig9 R w := by kernel_rfl
theorem chain_Log_Odds.ok (l1 : Option Addr) (eWriter2 : Int) (eIndex3 : Int) (ePrev4 : Int) (eAtT5 : Int) (eAtW6 : Int) (eEpoch7 : Int) (eBody8a : Option Addr) (eBody8n : Nat) (eBody8c : Nat) (eSig9 : Int) {R : Value → World → Prop} {w : World} (h : chain_Log_Odds.M l1 eWriter2 eIndex3 ePrev4 eAtT5 eAtW6 eEpoch7 eBody8a eBody8n eBody8c eSig9 R w) : Calls Try.prog 24 #[.pointer l1, .agg #[.int .i64 eWriter2, .int .i64 eIndex3, .int .u64 ePrev4, .int .i64 eAtT5, .int .i64 eAtW6, .int .i64 eEpoch7, .slice eBody8a eBody8n eBody8c, .int .u64 eSig9]] w fun e w' => ∃ v, e = .returned v ∧ R v w' :=
  mfunc_ok follows (H := []) (args := [.pointer l1, .agg #[.int .i64 eWriter2, .int .i64 eIndex3, .int .u64 ePrev4, .int .i64 eAtT5, .int .i64 eAtW6, .int .i64 eEpoch7, .slice eBody8a eBody8n eBody8c, .int .u64 eSig9]]) (by rw [chain_Log_Odds.eq]; exact h)

def chain_Log_Odds.N (l1 : Option Addr) (eWriter2 : Int) (eIndex3 : Int) (ePrev4 : Int) (eAtT5 : Int) (eAtW6 : Int) (eEpoch7 : Int) (eBody8a : Option Addr) (eBody8n : Nat) (eBody8c : Nat) (eSig9 : Int) (R : Value → World → Prop) (w : World) : Prop :=
  ∀ (ww12 : World) (p13 : Nat) (p14 : Nat) (p15 : Nat), Ext no w ww12 → Priv w ww12 [p13, p14, p15] →
  Calls Try.prog 26 #[.pointer l1, .agg #[.int .i64 eWriter2, .int .i64 eIndex3, .int .u64 ePrev4, .int .i64 eAtT5, .int .i64 eAtW6, .int .i64 eEpoch7, .slice eBody8a eBody8n eBody8c, .int .u64 eSig9]] ww12 fun ee17 ww18 => ∃ (check16 : Int), ee17 = .returned (.int .i64 check16) ∧
  Keep [p13, p14, p15] ww12 ww18 ∧
  (check16 ≠ 9 →
    ∀ (ww36 : World), Ext (fun b => b = p15 ∨ b = p14) ww18 ww36 →
    R (.tuple #[.agg #[.int .i64 0, .int .i64 0, .int .u64 0, .int .i64 0, .int .i64 0, .int .i64 0, .slice none 0 0, .int .u64 0], .agg #[.int .i64 0, .int .i64 0, .int .u64 0, .int .i64 0, .int .i64 0, .int .i64 0, .slice none 0 0, .int .u64 0], .bool false]) ww36) ∧
  (check16 = 9 →
    ∃ a38 : Addr, l1 = some a38 ∧
    ∃ (l40a : Option Addr) (l40n : Nat) (l40c : Nat), ww18.cell? (a38.add 3) = some (.slice l40a l40n l40c) ∧
    ∃ a41 : Addr, l40a = some a41 ∧
    0 ≤ (eIndex3 : Int) ∧ (eIndex3 : Int) < (l40n : Int) ∧
    ∃ (xWriter43 : Int) (xIndex44 : Int) (xPrev45 : Int) (xAtT46 : Int) (xAtW47 : Int) (xEpoch48 : Int) (xBody49a : Option Addr) (xBody49n : Nat) (xBody49c : Nat) (xSig50 : Int), cellsAt ww18 (a41.add (Int.toNat eIndex3 * 8)) [.int .i64 xWriter43, .int .i64 xIndex44, .int .u64 xPrev45, .int .i64 xAtT46, .int .i64 xAtW47, .int .i64 xEpoch48, .slice xBody49a xBody49n xBody49c, .int .u64 xSig50] 0 ∧
    ∀ (ww37 : World), Ext no ww18 ww37 →
    Calls Try.prog 42 #[.agg #[.int .i64 xWriter43, .int .i64 xIndex44, .int .u64 xPrev45, .int .i64 xAtT46, .int .i64 xAtW47, .int .i64 xEpoch48, .slice xBody49a xBody49n xBody49c, .int .u64 xSig50]] ww37 fun ee59 ww60 => ∃ (Writer51 : Int) (Index52 : Int) (Prev53 : Int) (AtT54 : Int) (AtW55 : Int) (Epoch56 : Int) (Body57a : Option Addr) (Body57n : Nat) (Body57c : Nat) (Sig58 : Int), ee59 = .returned (.agg #[.int .i64 Writer51, .int .i64 Index52, .int .u64 Prev53, .int .i64 AtT54, .int .i64 AtW55, .int .i64 Epoch56, .slice Body57a Body57n Body57c, .int .u64 Sig58]) ∧
    Keep [p13, p14, p15] ww37 ww60 ∧
    Calls Try.prog 42 #[.agg #[.int .i64 eWriter2, .int .i64 eIndex3, .int .u64 ePrev4, .int .i64 eAtT5, .int .i64 eAtW6, .int .i64 eEpoch7, .slice eBody8a eBody8n eBody8c, .int .u64 eSig9]] ww60 fun ee69 ww70 => ∃ (Writer61 : Int) (Index62 : Int) (Prev63 : Int) (AtT64 : Int) (AtW65 : Int) (Epoch66 : Int) (Body67a : Option Addr) (Body67n : Nat) (Body67c : Nat) (Sig68 : Int), ee69 = .returned (.agg #[.int .i64 Writer61, .int .i64 Index62, .int .u64 Prev63, .int .i64 AtT64, .int .i64 AtW65, .int .i64 Epoch66, .slice Body67a Body67n Body67c, .int .u64 Sig68]) ∧
    Keep [p14, p15] ww60 ww70 ∧
    ∀ (ww86 : World), Ext (fun b => b = p15 ∨ b = p14) ww70 ww86 →
    R (.tuple #[.agg #[.int .i64 Writer51, .int .i64 Index52, .int .u64 Prev53, .int .i64 AtT54, .int .i64 AtW55, .int .i64 Epoch56, .slice Body57a Body57n Body57c, .int .u64 Sig58], .agg #[.int .i64 Writer61, .int .i64 Index62, .int .u64 Prev63, .int .i64 AtT64, .int .i64 AtW65, .int .i64 Epoch66, .slice Body67a Body67n Body67c, .int .u64 Sig68], .bool true]) ww86)

theorem chain_Log_Odds.up (l1 : Option Addr) (eWriter2 : Int) (eIndex3 : Int) (ePrev4 : Int) (eAtT5 : Int) (eAtW6 : Int) (eEpoch7 : Int) (eBody8a : Option Addr) (eBody8n : Nat) (eBody8c : Nat) (eSig9 : Int) {R : Value → World → Prop} {w : World} (h : chain_Log_Odds.N l1 eWriter2 eIndex3 ePrev4 eAtT5 eAtW6 eEpoch7 eBody8a eBody8n eBody8c eSig9 R w) : chain_Log_Odds.M l1 eWriter2 eIndex3 ePrev4 eAtT5 eAtW6 eEpoch7 eBody8a eBody8n eBody8c eSig9 R w := by
  unfold chain_Log_Odds.M
  unfold chain_Log_Odds.N at h
  refine thenW_in fun ww10 e10 => ?_
  have hb1 := Blk.of_new e10
  have hg1 := ((Ext.refl no w)).size
  have hx10 := (Ext.refl no w).x_alloc e10
  refine thenW_in fun ww11 e11 => ?_
  have hb2 := Blk.of_new e11
  have hg2 := (hx10).size
  have hb1_2 := Nat.ne_of_lt hb1.lt
  have hb1 := hb1.x_alloc e11
  have hx11 := hx10.x_alloc e11
  refine thenW_in fun ww12 e12 => ?_
  have hb3 := Blk.of_new e12
  have hg3 := (hx11).size
  have hb1_3 := Nat.ne_of_lt hb1.lt
  have hb1 := hb1.x_alloc e12
  have hb2_3 := Nat.ne_of_lt hb2.lt
  have hb2 := hb2.x_alloc e12
  have hx12 := hx11.x_alloc e12
  refine ⟨eWriter2, eIndex3, ePrev4, eAtT5, eAtW6, eEpoch7, eBody8a, eBody8n, eBody8c, eSig9, ⟨hb1.celli 0 rfl rfl, hb1.celli 1 rfl rfl, hb1.celli 2 rfl rfl, hb1.celli 3 rfl rfl, hb1.celli 4 rfl rfl, hb1.celli 5 rfl rfl, hb1.celli 6 rfl rfl, hb1.celli 7 rfl rfl, trivial⟩, ?_⟩
  have h := h ww12 (w.heap.size) (ww10.heap.size) (ww11.heap.size) hx12 (Priv.cons hg1 hb1.lt (Priv.cons hg2 hb2.lt (Priv.cons hg3 hb3.lt Priv.nil)))
  refine h.mono fun ee17 ww18 h => ?_
  obtain ⟨check16, he, hk, h⟩ := h
  refine ⟨check16, he, ?_⟩
  have hb1 := hk.blk hb1 (by simp)
  have hb2 := hk.blk hb2 (by simp)
  have hb3 := hk.blk hb3 (by simp)
  refine bif_of (fun c19 => ?_) (fun c19 => ?_)
  · have h := h.1 (bne_t c19)
    refine thenW_in fun ww20 e20 => ?_
    have hx20 := (Ext.refl no ww18).x_drew e20
    have hb2 := hb2.x_drew e20
    have hb3 := hb3.x_drew e20
    refine ⟨0, 0, 0, 0, 0, 0, none, 0, 0, 0, ⟨hb2.celli 0 rfl rfl, hb2.celli 1 rfl rfl, hb2.celli 2 rfl rfl, hb2.celli 3 rfl rfl, hb2.celli 4 rfl rfl, hb2.celli 5 rfl rfl, hb2.celli 6 rfl rfl, hb2.celli 7 rfl rfl, trivial⟩, ?_⟩
    refine ⟨0, 0, 0, 0, 0, 0, none, 0, 0, 0, ⟨hb3.celli 0 rfl rfl, hb3.celli 1 rfl rfl, hb3.celli 2 rfl rfl, hb3.celli 3 rfl rfl, hb3.celli 4 rfl rfl, hb3.celli 5 rfl rfl, hb3.celli 6 rfl rfl, hb3.celli 7 rfl rfl, trivial⟩, ?_⟩
    have hm28 : Ext (fun b => b = ww10.heap.size) ww18 ww20 := (hx20).none
    refine ⟨hb2.cani 0 rfl rfl, thenW_in fun ww21 e21 => ?_⟩
    have hx21 := hm28.x_set (q := ww10.heap.size) (i := 0) rfl (.inl rfl) e21
    have hb2 : Blk ww21 ww10.heap.size 39 [.int .i64 0, .int .i64 0, .int .u64 0, .int .i64 0, .int .i64 0, .int .i64 0, .slice none 0 0, .int .u64 0] := hb2.seti 0 rfl e21
    have hb3 := hb3.oth (q := ww10.heap.size) (i := 0) rfl (Ne.symm hb2_3) e21
    refine ⟨hb2.cani 1 rfl rfl, thenW_in fun ww22 e22 => ?_⟩
    have hx22 := hx21.x_set (q := ww10.heap.size) (i := 1) rfl (.inl rfl) e22
    have hb2 : Blk ww22 ww10.heap.size 39 [.int .i64 0, .int .i64 0, .int .u64 0, .int .i64 0, .int .i64 0, .int .i64 0, .slice none 0 0, .int .u64 0] := hb2.seti 1 rfl e22
    have hb3 := hb3.oth (q := ww10.heap.size) (i := 1) rfl (Ne.symm hb2_3) e22
    refine ⟨hb2.cani 2 rfl rfl, thenW_in fun ww23 e23 => ?_⟩
    have hx23 := hx22.x_set (q := ww10.heap.size) (i := 2) rfl (.inl rfl) e23
    have hb2 : Blk ww23 ww10.heap.size 39 [.int .i64 0, .int .i64 0, .int .u64 0, .int .i64 0, .int .i64 0, .int .i64 0, .slice none 0 0, .int .u64 0] := hb2.seti 2 rfl e23
    have hb3 := hb3.oth (q := ww10.heap.size) (i := 2) rfl (Ne.symm hb2_3) e23
    refine ⟨hb2.cani 3 rfl rfl, thenW_in fun ww24 e24 => ?_⟩
    have hx24 := hx23.x_set (q := ww10.heap.size) (i := 3) rfl (.inl rfl) e24
    have hb2 : Blk ww24 ww10.heap.size 39 [.int .i64 0, .int .i64 0, .int .u64 0, .int .i64 0, .int .i64 0, .int .i64 0, .slice none 0 0, .int .u64 0] := hb2.seti 3 rfl e24
    have hb3 := hb3.oth (q := ww10.heap.size) (i := 3) rfl (Ne.symm hb2_3) e24
    refine ⟨hb2.cani 4 rfl rfl, thenW_in fun ww25 e25 => ?_⟩
    have hx25 := hx24.x_set (q := ww10.heap.size) (i := 4) rfl (.inl rfl) e25
    have hb2 : Blk ww25 ww10.heap.size 39 [.int .i64 0, .int .i64 0, .int .u64 0, .int .i64 0, .int .i64 0, .int .i64 0, .slice none 0 0, .int .u64 0] := hb2.seti 4 rfl e25
    have hb3 := hb3.oth (q := ww10.heap.size) (i := 4) rfl (Ne.symm hb2_3) e25
    refine ⟨hb2.cani 5 rfl rfl, thenW_in fun ww26 e26 => ?_⟩
    have hx26 := hx25.x_set (q := ww10.heap.size) (i := 5) rfl (.inl rfl) e26
    have hb2 : Blk ww26 ww10.heap.size 39 [.int .i64 0, .int .i64 0, .int .u64 0, .int .i64 0, .int .i64 0, .int .i64 0, .slice none 0 0, .int .u64 0] := hb2.seti 5 rfl e26
    have hb3 := hb3.oth (q := ww10.heap.size) (i := 5) rfl (Ne.symm hb2_3) e26
    refine ⟨hb2.cani 6 rfl rfl, thenW_in fun ww27 e27 => ?_⟩
    have hx27 := hx26.x_set (q := ww10.heap.size) (i := 6) rfl (.inl rfl) e27
    have hb2 : Blk ww27 ww10.heap.size 39 [.int .i64 0, .int .i64 0, .int .u64 0, .int .i64 0, .int .i64 0, .int .i64 0, .slice none 0 0, .int .u64 0] := hb2.seti 6 rfl e27
    have hb3 := hb3.oth (q := ww10.heap.size) (i := 6) rfl (Ne.symm hb2_3) e27
    refine ⟨hb2.cani 7 rfl rfl, thenW_in fun ww28 e28 => ?_⟩
    have hx28 := hx27.x_set (q := ww10.heap.size) (i := 7) rfl (.inl rfl) e28
    have hb2 : Blk ww28 ww10.heap.size 39 [.int .i64 0, .int .i64 0, .int .u64 0, .int .i64 0, .int .i64 0, .int .i64 0, .slice none 0 0, .int .u64 0] := hb2.seti 7 rfl e28
    have hb3 := hb3.oth (q := ww10.heap.size) (i := 7) rfl (Ne.symm hb2_3) e28
    refine ⟨⟨hb3.celli 0 rfl rfl, hb3.celli 1 rfl rfl, hb3.celli 2 rfl rfl, hb3.celli 3 rfl rfl, hb3.celli 4 rfl rfl, hb3.celli 5 rfl rfl, hb3.celli 6 rfl rfl, hb3.celli 7 rfl rfl, trivial⟩, ?_⟩
    have hm36 : Ext (fun b => b = ww11.heap.size ∨ b = ww10.heap.size) ww18 ww28 := (hx28).mono fun _ h _ => .inr h
    refine ⟨hb3.cani 0 rfl rfl, thenW_in fun ww29 e29 => ?_⟩
    have hx29 := hm36.x_set (q := ww11.heap.size) (i := 0) rfl (.inl (.inl rfl)) e29
    have hb2 := hb2.oth (q := ww11.heap.size) (i := 0) rfl hb2_3 e29
    have hb3 : Blk ww29 ww11.heap.size 39 [.int .i64 0, .int .i64 0, .int .u64 0, .int .i64 0, .int .i64 0, .int .i64 0, .slice none 0 0, .int .u64 0] := hb3.seti 0 rfl e29
    refine ⟨hb3.cani 1 rfl rfl, thenW_in fun ww30 e30 => ?_⟩
    have hx30 := hx29.x_set (q := ww11.heap.size) (i := 1) rfl (.inl (.inl rfl)) e30
    have hb2 := hb2.oth (q := ww11.heap.size) (i := 1) rfl hb2_3 e30
    have hb3 : Blk ww30 ww11.heap.size 39 [.int .i64 0, .int .i64 0, .int .u64 0, .int .i64 0, .int .i64 0, .int .i64 0, .slice none 0 0, .int .u64 0] := hb3.seti 1 rfl e30
    refine ⟨hb3.cani 2 rfl rfl, thenW_in fun ww31 e31 => ?_⟩
    have hx31 := hx30.x_set (q := ww11.heap.size) (i := 2) rfl (.inl (.inl rfl)) e31
    have hb2 := hb2.oth (q := ww11.heap.size) (i := 2) rfl hb2_3 e31
    have hb3 : Blk ww31 ww11.heap.size 39 [.int .i64 0, .int .i64 0, .int .u64 0, .int .i64 0, .int .i64 0, .int .i64 0, .slice none 0 0, .int .u64 0] := hb3.seti 2 rfl e31
    refine ⟨hb3.cani 3 rfl rfl, thenW_in fun ww32 e32 => ?_⟩
    have hx32 := hx31.x_set (q := ww11.heap.size) (i := 3) rfl (.inl (.inl rfl)) e32
    have hb2 := hb2.oth (q := ww11.heap.size) (i := 3) rfl hb2_3 e32
    have hb3 : Blk ww32 ww11.heap.size 39 [.int .i64 0, .int .i64 0, .int .u64 0, .int .i64 0, .int .i64 0, .int .i64 0, .slice none 0 0, .int .u64 0] := hb3.seti 3 rfl e32
    refine ⟨hb3.cani 4 rfl rfl, thenW_in fun ww33 e33 => ?_⟩
    have hx33 := hx32.x_set (q := ww11.heap.size) (i := 4) rfl (.inl (.inl rfl)) e33
    have hb2 := hb2.oth (q := ww11.heap.size) (i := 4) rfl hb2_3 e33
    have hb3 : Blk ww33 ww11.heap.size 39 [.int .i64 0, .int .i64 0, .int .u64 0, .int .i64 0, .int .i64 0, .int .i64 0, .slice none 0 0, .int .u64 0] := hb3.seti 4 rfl e33
    refine ⟨hb3.cani 5 rfl rfl, thenW_in fun ww34 e34 => ?_⟩
    have hx34 := hx33.x_set (q := ww11.heap.size) (i := 5) rfl (.inl (.inl rfl)) e34
    have hb2 := hb2.oth (q := ww11.heap.size) (i := 5) rfl hb2_3 e34
    have hb3 : Blk ww34 ww11.heap.size 39 [.int .i64 0, .int .i64 0, .int .u64 0, .int .i64 0, .int .i64 0, .int .i64 0, .slice none 0 0, .int .u64 0] := hb3.seti 5 rfl e34
    refine ⟨hb3.cani 6 rfl rfl, thenW_in fun ww35 e35 => ?_⟩
    have hx35 := hx34.x_set (q := ww11.heap.size) (i := 6) rfl (.inl (.inl rfl)) e35
    have hb2 := hb2.oth (q := ww11.heap.size) (i := 6) rfl hb2_3 e35
    have hb3 : Blk ww35 ww11.heap.size 39 [.int .i64 0, .int .i64 0, .int .u64 0, .int .i64 0, .int .i64 0, .int .i64 0, .slice none 0 0, .int .u64 0] := hb3.seti 6 rfl e35
    refine ⟨hb3.cani 7 rfl rfl, thenW_in fun ww36 e36 => ?_⟩
    have hx36 := hx35.x_set (q := ww11.heap.size) (i := 7) rfl (.inl (.inl rfl)) e36
    have hb2 := hb2.oth (q := ww11.heap.size) (i := 7) rfl hb2_3 e36
    have hb3 : Blk ww36 ww11.heap.size 39 [.int .i64 0, .int .i64 0, .int .u64 0, .int .i64 0, .int .i64 0, .int .i64 0, .slice none 0 0, .int .u64 0] := hb3.seti 7 rfl e36
    refine ⟨0, 0, 0, 0, 0, 0, none, 0, 0, 0, ⟨hb2.celli 0 rfl rfl, hb2.celli 1 rfl rfl, hb2.celli 2 rfl rfl, hb2.celli 3 rfl rfl, hb2.celli 4 rfl rfl, hb2.celli 5 rfl rfl, hb2.celli 6 rfl rfl, hb2.celli 7 rfl rfl, trivial⟩, ?_⟩
    refine ⟨0, 0, 0, 0, 0, 0, none, 0, 0, 0, ⟨hb3.celli 0 rfl rfl, hb3.celli 1 rfl rfl, hb3.celli 2 rfl rfl, hb3.celli 3 rfl rfl, hb3.celli 4 rfl rfl, hb3.celli 5 rfl rfl, hb3.celli 6 rfl rfl, hb3.celli 7 rfl rfl, trivial⟩, ?_⟩
    have h := h ww36 hx36
    exact h
  · have h := h.2 (bne_f c19)
    refine thenW_in fun ww37 e37 => ?_
    have hx37 := (Ext.refl no ww18).x_drew e37
    have hb1 := hb1.x_drew e37
    have hb2 := hb2.x_drew e37
    have hb3 := hb3.x_drew e37
    obtain ⟨a38, ha38, h⟩ := h
    refine elim_some ha38 ?_
    obtain ⟨l40a, l40n, l40c, hc39, h⟩ := h
    refine ⟨l40a, l40n, l40c, (hx37).cell hc39 id, ?_⟩
    refine ⟨eIndex3, hb1.celli 1 rfl rfl, ?_⟩
    obtain ⟨a41, ha41, h⟩ := h
    refine elim_some ha41 ?_
    obtain ⟨hq1, hq2, h⟩ := h
    refine ⟨hq1, hq2, ?_⟩
    obtain ⟨xWriter43, xIndex44, xPrev45, xAtT46, xAtW47, xEpoch48, xBody49a, xBody49n, xBody49c, xSig50, hc42, h⟩ := h
    refine ⟨xWriter43, xIndex44, xPrev45, xAtT46, xAtW47, xEpoch48, xBody49a, xBody49n, xBody49c, xSig50, cellsAt_no (hx37) hc42, ?_⟩
    refine ⟨eWriter2, eIndex3, ePrev4, eAtT5, eAtW6, eEpoch7, eBody8a, eBody8n, eBody8c, eSig9, ⟨hb1.celli 0 rfl rfl, hb1.celli 1 rfl rfl, hb1.celli 2 rfl rfl, hb1.celli 3 rfl rfl, hb1.celli 4 rfl rfl, hb1.celli 5 rfl rfl, hb1.celli 6 rfl rfl, hb1.celli 7 rfl rfl, trivial⟩, ?_⟩
    have h := h ww37 hx37
    refine h.mono fun ee59 ww60 h => ?_
    obtain ⟨Writer51, Index52, Prev53, AtT54, AtW55, Epoch56, Body57a, Body57n, Body57c, Sig58, he, hk, h⟩ := h
    refine ⟨Writer51, Index52, Prev53, AtT54, AtW55, Epoch56, Body57a, Body57n, Body57c, Sig58, he, ?_⟩
    have hb1 := hk.blk hb1 (by simp)
    have hb2 := hk.blk hb2 (by simp)
    have hb3 := hk.blk hb3 (by simp)
    refine ⟨⟨hb1.celli 0 rfl rfl, hb1.celli 1 rfl rfl, hb1.celli 2 rfl rfl, hb1.celli 3 rfl rfl, hb1.celli 4 rfl rfl, hb1.celli 5 rfl rfl, hb1.celli 6 rfl rfl, hb1.celli 7 rfl rfl, trivial⟩, ?_⟩
    refine h.mono fun ee69 ww70 h => ?_
    obtain ⟨Writer61, Index62, Prev63, AtT64, AtW65, Epoch66, Body67a, Body67n, Body67c, Sig68, he, hk, h⟩ := h
    refine ⟨Writer61, Index62, Prev63, AtT64, AtW65, Epoch66, Body67a, Body67n, Body67c, Sig68, he, ?_⟩
    have hb2 := hk.blk hb2 (by simp)
    have hb3 := hk.blk hb3 (by simp)
    have hm78 : Ext (fun b => b = ww10.heap.size) ww70 ww70 := ((Ext.refl no ww70)).none
    refine ⟨hb2.cani 0 rfl rfl, thenW_in fun ww71 e71 => ?_⟩
    have hx71 := hm78.x_set (q := ww10.heap.size) (i := 0) rfl (.inl rfl) e71
    have hb2 : Blk ww71 ww10.heap.size 39 [.int .i64 Writer51, .int .i64 0, .int .u64 0, .int .i64 0, .int .i64 0, .int .i64 0, .slice none 0 0, .int .u64 0] := hb2.seti 0 rfl e71
    have hb3 := hb3.oth (q := ww10.heap.size) (i := 0) rfl (Ne.symm hb2_3) e71
    refine ⟨hb2.cani 1 rfl rfl, thenW_in fun ww72 e72 => ?_⟩
    have hx72 := hx71.x_set (q := ww10.heap.size) (i := 1) rfl (.inl rfl) e72
    have hb2 : Blk ww72 ww10.heap.size 39 [.int .i64 Writer51, .int .i64 Index52, .int .u64 0, .int .i64 0, .int .i64 0, .int .i64 0, .slice none 0 0, .int .u64 0] := hb2.seti 1 rfl e72
    have hb3 := hb3.oth (q := ww10.heap.size) (i := 1) rfl (Ne.symm hb2_3) e72
    refine ⟨hb2.cani 2 rfl rfl, thenW_in fun ww73 e73 => ?_⟩
    have hx73 := hx72.x_set (q := ww10.heap.size) (i := 2) rfl (.inl rfl) e73
    have hb2 : Blk ww73 ww10.heap.size 39 [.int .i64 Writer51, .int .i64 Index52, .int .u64 Prev53, .int .i64 0, .int .i64 0, .int .i64 0, .slice none 0 0, .int .u64 0] := hb2.seti 2 rfl e73
    have hb3 := hb3.oth (q := ww10.heap.size) (i := 2) rfl (Ne.symm hb2_3) e73
    refine ⟨hb2.cani 3 rfl rfl, thenW_in fun ww74 e74 => ?_⟩
    have hx74 := hx73.x_set (q := ww10.heap.size) (i := 3) rfl (.inl rfl) e74
    have hb2 : Blk ww74 ww10.heap.size 39 [.int .i64 Writer51, .int .i64 Index52, .int .u64 Prev53, .int .i64 AtT54, .int .i64 0, .int .i64 0, .slice none 0 0, .int .u64 0] := hb2.seti 3 rfl e74
    have hb3 := hb3.oth (q := ww10.heap.size) (i := 3) rfl (Ne.symm hb2_3) e74
    refine ⟨hb2.cani 4 rfl rfl, thenW_in fun ww75 e75 => ?_⟩
    have hx75 := hx74.x_set (q := ww10.heap.size) (i := 4) rfl (.inl rfl) e75
    have hb2 : Blk ww75 ww10.heap.size 39 [.int .i64 Writer51, .int .i64 Index52, .int .u64 Prev53, .int .i64 AtT54, .int .i64 AtW55, .int .i64 0, .slice none 0 0, .int .u64 0] := hb2.seti 4 rfl e75
    have hb3 := hb3.oth (q := ww10.heap.size) (i := 4) rfl (Ne.symm hb2_3) e75
    refine ⟨hb2.cani 5 rfl rfl, thenW_in fun ww76 e76 => ?_⟩
    have hx76 := hx75.x_set (q := ww10.heap.size) (i := 5) rfl (.inl rfl) e76
    have hb2 : Blk ww76 ww10.heap.size 39 [.int .i64 Writer51, .int .i64 Index52, .int .u64 Prev53, .int .i64 AtT54, .int .i64 AtW55, .int .i64 Epoch56, .slice none 0 0, .int .u64 0] := hb2.seti 5 rfl e76
    have hb3 := hb3.oth (q := ww10.heap.size) (i := 5) rfl (Ne.symm hb2_3) e76
    refine ⟨hb2.cani 6 rfl rfl, thenW_in fun ww77 e77 => ?_⟩
    have hx77 := hx76.x_set (q := ww10.heap.size) (i := 6) rfl (.inl rfl) e77
    have hb2 : Blk ww77 ww10.heap.size 39 [.int .i64 Writer51, .int .i64 Index52, .int .u64 Prev53, .int .i64 AtT54, .int .i64 AtW55, .int .i64 Epoch56, .slice Body57a Body57n Body57c, .int .u64 0] := hb2.seti 6 rfl e77
    have hb3 := hb3.oth (q := ww10.heap.size) (i := 6) rfl (Ne.symm hb2_3) e77
    refine ⟨hb2.cani 7 rfl rfl, thenW_in fun ww78 e78 => ?_⟩
    have hx78 := hx77.x_set (q := ww10.heap.size) (i := 7) rfl (.inl rfl) e78
    have hb2 : Blk ww78 ww10.heap.size 39 [.int .i64 Writer51, .int .i64 Index52, .int .u64 Prev53, .int .i64 AtT54, .int .i64 AtW55, .int .i64 Epoch56, .slice Body57a Body57n Body57c, .int .u64 Sig58] := hb2.seti 7 rfl e78
    have hb3 := hb3.oth (q := ww10.heap.size) (i := 7) rfl (Ne.symm hb2_3) e78
    have hm86 : Ext (fun b => b = ww11.heap.size ∨ b = ww10.heap.size) ww70 ww78 := (hx78).mono fun _ h _ => .inr h
    refine ⟨hb3.cani 0 rfl rfl, thenW_in fun ww79 e79 => ?_⟩
    have hx79 := hm86.x_set (q := ww11.heap.size) (i := 0) rfl (.inl (.inl rfl)) e79
    have hb2 := hb2.oth (q := ww11.heap.size) (i := 0) rfl hb2_3 e79
    have hb3 : Blk ww79 ww11.heap.size 39 [.int .i64 Writer61, .int .i64 0, .int .u64 0, .int .i64 0, .int .i64 0, .int .i64 0, .slice none 0 0, .int .u64 0] := hb3.seti 0 rfl e79
    refine ⟨hb3.cani 1 rfl rfl, thenW_in fun ww80 e80 => ?_⟩
    have hx80 := hx79.x_set (q := ww11.heap.size) (i := 1) rfl (.inl (.inl rfl)) e80
    have hb2 := hb2.oth (q := ww11.heap.size) (i := 1) rfl hb2_3 e80
    have hb3 : Blk ww80 ww11.heap.size 39 [.int .i64 Writer61, .int .i64 Index62, .int .u64 0, .int .i64 0, .int .i64 0, .int .i64 0, .slice none 0 0, .int .u64 0] := hb3.seti 1 rfl e80
    refine ⟨hb3.cani 2 rfl rfl, thenW_in fun ww81 e81 => ?_⟩
    have hx81 := hx80.x_set (q := ww11.heap.size) (i := 2) rfl (.inl (.inl rfl)) e81
    have hb2 := hb2.oth (q := ww11.heap.size) (i := 2) rfl hb2_3 e81
    have hb3 : Blk ww81 ww11.heap.size 39 [.int .i64 Writer61, .int .i64 Index62, .int .u64 Prev63, .int .i64 0, .int .i64 0, .int .i64 0, .slice none 0 0, .int .u64 0] := hb3.seti 2 rfl e81
    refine ⟨hb3.cani 3 rfl rfl, thenW_in fun ww82 e82 => ?_⟩
    have hx82 := hx81.x_set (q := ww11.heap.size) (i := 3) rfl (.inl (.inl rfl)) e82
    have hb2 := hb2.oth (q := ww11.heap.size) (i := 3) rfl hb2_3 e82
    have hb3 : Blk ww82 ww11.heap.size 39 [.int .i64 Writer61, .int .i64 Index62, .int .u64 Prev63, .int .i64 AtT64, .int .i64 0, .int .i64 0, .slice none 0 0, .int .u64 0] := hb3.seti 3 rfl e82
    refine ⟨hb3.cani 4 rfl rfl, thenW_in fun ww83 e83 => ?_⟩
    have hx83 := hx82.x_set (q := ww11.heap.size) (i := 4) rfl (.inl (.inl rfl)) e83
    have hb2 := hb2.oth (q := ww11.heap.size) (i := 4) rfl hb2_3 e83
    have hb3 : Blk ww83 ww11.heap.size 39 [.int .i64 Writer61, .int .i64 Index62, .int .u64 Prev63, .int .i64 AtT64, .int .i64 AtW65, .int .i64 0, .slice none 0 0, .int .u64 0] := hb3.seti 4 rfl e83
    refine ⟨hb3.cani 5 rfl rfl, thenW_in fun ww84 e84 => ?_⟩
    have hx84 := hx83.x_set (q := ww11.heap.size) (i := 5) rfl (.inl (.inl rfl)) e84
    have hb2 := hb2.oth (q := ww11.heap.size) (i := 5) rfl hb2_3 e84
    have hb3 : Blk ww84 ww11.heap.size 39 [.int .i64 Writer61, .int .i64 Index62, .int .u64 Prev63, .int .i64 AtT64, .int .i64 AtW65, .int .i64 Epoch66, .slice none 0 0, .int .u64 0] := hb3.seti 5 rfl e84
    refine ⟨hb3.cani 6 rfl rfl, thenW_in fun ww85 e85 => ?_⟩
    have hx85 := hx84.x_set (q := ww11.heap.size) (i := 6) rfl (.inl (.inl rfl)) e85
    have hb2 := hb2.oth (q := ww11.heap.size) (i := 6) rfl hb2_3 e85
    have hb3 : Blk ww85 ww11.heap.size 39 [.int .i64 Writer61, .int .i64 Index62, .int .u64 Prev63, .int .i64 AtT64, .int .i64 AtW65, .int .i64 Epoch66, .slice Body67a Body67n Body67c, .int .u64 0] := hb3.seti 6 rfl e85
    refine ⟨hb3.cani 7 rfl rfl, thenW_in fun ww86 e86 => ?_⟩
    have hx86 := hx85.x_set (q := ww11.heap.size) (i := 7) rfl (.inl (.inl rfl)) e86
    have hb2 := hb2.oth (q := ww11.heap.size) (i := 7) rfl hb2_3 e86
    have hb3 : Blk ww86 ww11.heap.size 39 [.int .i64 Writer61, .int .i64 Index62, .int .u64 Prev63, .int .i64 AtT64, .int .i64 AtW65, .int .i64 Epoch66, .slice Body67a Body67n Body67c, .int .u64 Sig68] := hb3.seti 7 rfl e86
    refine ⟨Writer51, Index52, Prev53, AtT54, AtW55, Epoch56, Body57a, Body57n, Body57c, Sig58, ⟨hb2.celli 0 rfl rfl, hb2.celli 1 rfl rfl, hb2.celli 2 rfl rfl, hb2.celli 3 rfl rfl, hb2.celli 4 rfl rfl, hb2.celli 5 rfl rfl, hb2.celli 6 rfl rfl, hb2.celli 7 rfl rfl, trivial⟩, ?_⟩
    refine ⟨Writer61, Index62, Prev63, AtT64, AtW65, Epoch66, Body67a, Body67n, Body67c, Sig68, ⟨hb3.celli 0 rfl rfl, hb3.celli 1 rfl rfl, hb3.celli 2 rfl rfl, hb3.celli 3 rfl rfl, hb3.celli 4 rfl rfl, hb3.celli 5 rfl rfl, hb3.celli 6 rfl rfl, hb3.celli 7 rfl rfl, trivial⟩, ?_⟩
    have h := h ww86 hx86
    exact h

theorem chain_Log_Odds.go (l1 : Option Addr) (eWriter2 : Int) (eIndex3 : Int) (ePrev4 : Int) (eAtT5 : Int) (eAtW6 : Int) (eEpoch7 : Int) (eBody8a : Option Addr) (eBody8n : Nat) (eBody8c : Nat) (eSig9 : Int) {R : Value → World → Prop} {w : World} (h : chain_Log_Odds.N l1 eWriter2 eIndex3 ePrev4 eAtT5 eAtW6 eEpoch7 eBody8a eBody8n eBody8c eSig9 R w) : Calls Try.prog 24 #[.pointer l1, .agg #[.int .i64 eWriter2, .int .i64 eIndex3, .int .u64 ePrev4, .int .i64 eAtT5, .int .i64 eAtW6, .int .i64 eEpoch7, .slice eBody8a eBody8n eBody8c, .int .u64 eSig9]] w fun e w' => ∃ v, e = .returned v ∧ R v w' := chain_Log_Odds.ok l1 eWriter2 eIndex3 ePrev4 eAtT5 eAtW6 eEpoch7 eBody8a eBody8n eBody8c eSig9 (chain_Log_Odds.up l1 eWriter2 eIndex3 ePrev4 eAtT5 eAtW6 eEpoch7 eBody8a eBody8n eBody8c eSig9 h)
theorem chain_Log_Odds.run (l1 : Option Addr) (eWriter2 : Int) (eIndex3 : Int) (ePrev4 : Int) (eAtT5 : Int) (eAtW6 : Int) (eEpoch7 : Int) (eBody8a : Option Addr) (eBody8n : Nat) (eBody8c : Nat) (eSig9 : Int) {V : Value} {Q : World → Prop} {w : World} (h : chain_Log_Odds.N l1 eWriter2 eIndex3 ePrev4 eAtT5 eAtW6 eEpoch7 eBody8a eBody8n eBody8c eSig9 (fun v w' => v = V ∧ Q w') w) : Calls Try.prog 24 #[.pointer l1, .agg #[.int .i64 eWriter2, .int .i64 eIndex3, .int .u64 ePrev4, .int .i64 eAtT5, .int .i64 eAtW6, .int .i64 eEpoch7, .slice eBody8a eBody8n eBody8c, .int .u64 eSig9]] w (Ret V Q) := (chain_Log_Odds.go l1 eWriter2 eIndex3 ePrev4 eAtT5 eAtW6 eEpoch7 eBody8a eBody8n eBody8c eSig9 h).mono fun e w' ⟨v, he, hv, hq⟩ => ⟨by rw [he, hv], hq⟩

/-- slices.Clone[[]byte,byte] -/
def slices_Clone_byte_byte.M (s1a : Option Addr) (s1n : Nat) (s1c : Nat) (R : Value → World → Prop) (w : World) : Prop :=
  bif Option.isNone s1a then (
  R (.slice none 0 0) w) else (
  thenW (w.alloc (.cells #[] 5)) fun ww2 =>
  ∃ (a3a : Option Addr) (a3n : Nat) (a3c : Nat) (ww4 : World), (Builtin.append_ #[24, 24] 24 #[.slice (some (blk w.heap.size)) 0 0, .slice s1a s1n s1c]).run Try.prog ww2 = .ok (.slice a3a a3n a3c) ww4 ∧
  R (.slice a3a a3n a3c) ww4)

theorem slices_Clone_byte_byte.eq (s1a : Option Addr) (s1n : Nat) (s1c : Nat) (R : Value → World → Prop) (w : World) : mfunc Try.prog [] 60 [.slice s1a s1n s1c] R w = slices_Clone_byte_byte.M s1a s1n s1c R w := by kernel_rfl
theorem slices_Clone_byte_byte.ok (s1a : Option Addr) (s1n : Nat) (s1c : Nat) {R : Value → World → Prop} {w : World} (h : slices_Clone_byte_byte.M s1a s1n s1c R w) : Calls Try.prog 60 #[.slice s1a s1n s1c] w fun e w' => ∃ v, e = .returned v ∧ R v w' :=
  mfunc_ok follows (H := []) (args := [.slice s1a s1n s1c]) (by rw [slices_Clone_byte_byte.eq]; exact h)

def slices_Clone_byte_byte.N (s1a : Option Addr) (s1n : Nat) (s1c : Nat) (R : Value → World → Prop) (w : World) : Prop :=
  (s1a = none →
    R (.slice none 0 0) w) ∧
  (s1a ≠ none →
    ∀ (ww3 : World) (q4 : Nat), Ext no w ww3 → Blk ww3 q4 5 [] → w.heap.size ≤ q4 → q4 < ww3.heap.size →
    ∃ (a5a : Option Addr) (a5n : Nat) (a5c : Nat) (ww6 : World), (Builtin.append_ #[24, 24] 24 #[.slice (some (blk q4)) 0 0, .slice s1a s1n s1c]).run Try.prog ww3 = .ok (.slice a5a a5n a5c) ww6 ∧
    R (.slice a5a a5n a5c) ww6)

theorem slices_Clone_byte_byte.up (s1a : Option Addr) (s1n : Nat) (s1c : Nat) {R : Value → World → Prop} {w : World} (h : slices_Clone_byte_byte.N s1a s1n s1c R w) : slices_Clone_byte_byte.M s1a s1n s1c R w := by
  unfold slices_Clone_byte_byte.M
  unfold slices_Clone_byte_byte.N at h
  refine bif_of (fun c2 => ?_) (fun c2 => ?_)
  · have h := h.1 (isNone_t c2)
    exact h
  · have h := h.2 (isNone_f c2)
    refine thenW_in fun ww3 e3 => ?_
    have h := h ww3 w.heap.size ((Ext.refl no w).x_alloc e3) (Blk.of_new e3) ((Ext.refl no w)).size (size_lt_alloc e3)
    obtain ⟨a5a, a5n, a5c, ww6, hr, h⟩ := h
    refine ⟨a5a, a5n, a5c, ww6, hr, ?_⟩
    exact h

theorem slices_Clone_byte_byte.go (s1a : Option Addr) (s1n : Nat) (s1c : Nat) {R : Value → World → Prop} {w : World} (h : slices_Clone_byte_byte.N s1a s1n s1c R w) : Calls Try.prog 60 #[.slice s1a s1n s1c] w fun e w' => ∃ v, e = .returned v ∧ R v w' := slices_Clone_byte_byte.ok s1a s1n s1c (slices_Clone_byte_byte.up s1a s1n s1c h)
theorem slices_Clone_byte_byte.run (s1a : Option Addr) (s1n : Nat) (s1c : Nat) {V : Value} {Q : World → Prop} {w : World} (h : slices_Clone_byte_byte.N s1a s1n s1c (fun v w' => v = V ∧ Q w') w) : Calls Try.prog 60 #[.slice s1a s1n s1c] w (Ret V Q) := (slices_Clone_byte_byte.go s1a s1n s1c h).mono fun e w' ⟨v, he, hv, hq⟩ => ⟨by rw [he, hv], hq⟩

end Go.Proofs.Ytnppbflccbpoeaa
