/- Entries: sums, signatures, and whether they hold (the program's). -/
import Derived.Test.YtnppbflccbpoeaaZB
import Derived.Test.YtnppbflccbpoeaaZA
set_option linter.unusedVariables false
set_option linter.unusedSimpArgs false
set_option maxRecDepth 20000
namespace Go.Proofs.Ytnppbflccbpoeaa
open Go Go.Mx Go.Proofs
open W (OwnB GivesW numR countR doneR zig unzig intR)
/-- bytes.Clone -/
def bytes_Clone.M (b1a : Option Addr) (b1n : Nat) (b1c : Nat) (R : Value → World → Prop) (w : World) : Prop :=
  bif Option.isNone b1a then (
  R (.slice none 0 0) w) else (
  thenW (w.alloc (.cells #[] 5)) fun ww2 =>
  ∃ (a3a : Option Addr) (a3n : Nat) (a3c : Nat) (ww4 : World), (Builtin.append_ #[24, 24] 24 #[.slice (some (blk w.heap.size)) 0 0, .slice b1a b1n b1c]).run Try.prog ww2 = .ok (.slice a3a a3n a3c) ww4 ∧
  R (.slice a3a a3n a3c) ww4)

theorem bytes_Clone.eq (b1a : Option Addr) (b1n : Nat) (b1c : Nat) (R : Value → World → Prop) (w : World) : mfunc Try.prog [] 59 [.slice b1a b1n b1c] R w = bytes_Clone.M b1a b1n b1c R w := by kernel_rfl
theorem bytes_Clone.ok (b1a : Option Addr) (b1n : Nat) (b1c : Nat) {R : Value → World → Prop} {w : World} (h : bytes_Clone.M b1a b1n b1c R w) : Calls Try.prog 59 #[.slice b1a b1n b1c] w fun e w' => ∃ v, e = .returned v ∧ R v w' :=
  mfunc_ok follows (H := []) (args := [.slice b1a b1n b1c]) (by rw [bytes_Clone.eq]; exact h)

def bytes_Clone.N (b1a : Option Addr) (b1n : Nat) (b1c : Nat) (R : Value → World → Prop) (w : World) : Prop :=
  (b1a = none →
    R (.slice none 0 0) w) ∧
  (b1a ≠ none →
    ∀ (ww3 : World) (q4 : Nat), Ext no w ww3 → Blk ww3 q4 5 [] → w.heap.size ≤ q4 → q4 < ww3.heap.size →
    ∃ (a5a : Option Addr) (a5n : Nat) (a5c : Nat) (ww6 : World), (Builtin.append_ #[24, 24] 24 #[.slice (some (blk q4)) 0 0, .slice b1a b1n b1c]).run Try.prog ww3 = .ok (.slice a5a a5n a5c) ww6 ∧
    R (.slice a5a a5n a5c) ww6)

theorem bytes_Clone.up (b1a : Option Addr) (b1n : Nat) (b1c : Nat) {R : Value → World → Prop} {w : World} (h : bytes_Clone.N b1a b1n b1c R w) : bytes_Clone.M b1a b1n b1c R w := by
  unfold bytes_Clone.M
  unfold bytes_Clone.N at h
  refine bif_of (fun c2 => ?_) (fun c2 => ?_)
  · have h := h.1 (isNone_t c2)
    exact h
  · have h := h.2 (isNone_f c2)
    refine thenW_in fun ww3 e3 => ?_
    have h := h ww3 w.heap.size ((Ext.refl no w).x_alloc e3) (Blk.of_new e3) ((Ext.refl no w)).size (size_lt_alloc e3)
    obtain ⟨a5a, a5n, a5c, ww6, hr, h⟩ := h
    refine ⟨a5a, a5n, a5c, ww6, hr, ?_⟩
    exact h

theorem bytes_Clone.go (b1a : Option Addr) (b1n : Nat) (b1c : Nat) {R : Value → World → Prop} {w : World} (h : bytes_Clone.N b1a b1n b1c R w) : Calls Try.prog 59 #[.slice b1a b1n b1c] w fun e w' => ∃ v, e = .returned v ∧ R v w' := bytes_Clone.ok b1a b1n b1c (bytes_Clone.up b1a b1n b1c h)
theorem bytes_Clone.run (b1a : Option Addr) (b1n : Nat) (b1c : Nat) {V : Value} {Q : World → Prop} {w : World} (h : bytes_Clone.N b1a b1n b1c (fun v w' => v = V ∧ Q w') w) : Calls Try.prog 59 #[.slice b1a b1n b1c] w (Ret V Q) := (bytes_Clone.go b1a b1n b1c h).mono fun e w' ⟨v, he, hv, hq⟩ => ⟨by rw [he, hv], hq⟩

/-- entry.Sum -/
def entry_Sum.M (o1 : Option Addr) (eWriter2 : Int) (eIndex3 : Int) (ePrev4 : Int) (eAtT5 : Int) (eAtW6 : Int) (eEpoch7 : Int) (eBody8a : Option Addr) (eBody8n : Nat) (eBody8c : Nat) (eSig9 : Int) (R : Value → World → Prop) (w : World) : Prop :=
  thenW (w.alloc (.cells #[.int .i64 eWriter2, .int .i64 eIndex3, .int .u64 ePrev4, .int .i64 eAtT5, .int .i64 eAtW6, .int .i64 eEpoch7, .slice eBody8a eBody8n eBody8c, .int .u64 eSig9] 39)) fun ww10 =>
  ∃ (xWriter11 : Int) (xIndex12 : Int) (xPrev13 : Int) (xAtT14 : Int) (xAtW15 : Int) (xEpoch16 : Int) (xBody17a : Option Addr) (xBody17n : Nat) (xBody17c : Nat) (xSig18 : Int), cellsAt ww10 (blk w.heap.size) [.int .i64 xWriter11, .int .i64 xIndex12, .int .u64 xPrev13, .int .i64 xAtT14, .int .i64 xAtW15, .int .i64 xEpoch16, .slice xBody17a xBody17n xBody17c, .int .u64 xSig18] 0 ∧
  Calls Try.prog 69 #[.agg #[.int .i64 xWriter11, .int .i64 xIndex12, .int .u64 xPrev13, .int .i64 xAtT14, .int .i64 xAtW15, .int .i64 xEpoch16, .slice xBody17a xBody17n xBody17c, .int .u64 xSig18]] ww10 fun ee21 ww22 => ∃ (bytes19a : Option Addr) (bytes19n : Nat) (bytes19c : Nat) (bytes20 : Int), ee21 = .returned (.tuple #[.slice bytes19a bytes19n bytes19c, .int .i64 bytes20]) ∧
  bif bytes20 != 0 then (
  R (.tuple #[.int .u64 0, .int .i64 bytes20]) ww22) else (
  bif Option.isNone o1 then (
  R (.tuple #[.int .u64 0, .int .i64 23]) ww22) else (
  Calls Try.prog 70 #[.pointer o1, .slice bytes19a bytes19n bytes19c] ww22 fun ee24 ww25 => ∃ (hash23 : Int), ee24 = .returned (.int .u64 hash23) ∧
  R (.tuple #[.int .u64 hash23, .int .i64 0]) ww25))

theorem entry_Sum.eq (o1 : Option Addr) (eWriter2 : Int) (eIndex3 : Int) (ePrev4 : Int) (eAtT5 : Int) (eAtW6 : Int) (eEpoch7 : Int) (eBody8a : Option Addr) (eBody8n : Nat) (eBody8c : Nat) (eSig9 : Int) (R : Value → World → Prop) (w : World) : mfunc Try.prog [] 51 [.pointer o1, .agg #[.int .i64 eWriter2, .int .i64 eIndex3, .int .u64 ePrev4, .int .i64 eAtT5, .int .i64 eAtW6, .int .i64 eEpoch7, .slice eBody8a eBody8n eBody8c, .int .u64 eSig9]] R w = entry_Sum.M o1 eWriter2 eIndex3 ePrev4 eAtT5 eAtW6 eEpoch7 eBody8a eBody8n eBody8c eSig9 R w := by kernel_rfl
theorem entry_Sum.ok (o1 : Option Addr) (eWriter2 : Int) (eIndex3 : Int) (ePrev4 : Int) (eAtT5 : Int) (eAtW6 : Int) (eEpoch7 : Int) (eBody8a : Option Addr) (eBody8n : Nat) (eBody8c : Nat) (eSig9 : Int) {R : Value → World → Prop} {w : World} (h : entry_Sum.M o1 eWriter2 eIndex3 ePrev4 eAtT5 eAtW6 eEpoch7 eBody8a eBody8n eBody8c eSig9 R w) : Calls Try.prog 51 #[.pointer o1, .agg #[.int .i64 eWriter2, .int .i64 eIndex3, .int .u64 ePrev4, .int .i64 eAtT5, .int .i64 eAtW6, .int .i64 eEpoch7, .slice eBody8a eBody8n eBody8c, .int .u64 eSig9]] w fun e w' => ∃ v, e = .returned v ∧ R v w' :=
  mfunc_ok follows (H := []) (args := [.pointer o1, .agg #[.int .i64 eWriter2, .int .i64 eIndex3, .int .u64 ePrev4, .int .i64 eAtT5, .int .i64 eAtW6, .int .i64 eEpoch7, .slice eBody8a eBody8n eBody8c, .int .u64 eSig9]]) (by rw [entry_Sum.eq]; exact h)

def entry_Sum.N (o1 : Option Addr) (eWriter2 : Int) (eIndex3 : Int) (ePrev4 : Int) (eAtT5 : Int) (eAtW6 : Int) (eEpoch7 : Int) (eBody8a : Option Addr) (eBody8n : Nat) (eBody8c : Nat) (eSig9 : Int) (R : Value → World → Prop) (w : World) : Prop :=
  ∀ (ww10 : World), Ext no w ww10 →
  Calls Try.prog 69 #[.agg #[.int .i64 eWriter2, .int .i64 eIndex3, .int .u64 ePrev4, .int .i64 eAtT5, .int .i64 eAtW6, .int .i64 eEpoch7, .slice eBody8a eBody8n eBody8c, .int .u64 eSig9]] ww10 fun ee14 ww15 => ∃ (bytes12a : Option Addr) (bytes12n : Nat) (bytes12c : Nat) (bytes13 : Int), ee14 = .returned (.tuple #[.slice bytes12a bytes12n bytes12c, .int .i64 bytes13]) ∧
  (bytes13 ≠ 0 →
    R (.tuple #[.int .u64 0, .int .i64 bytes13]) ww15) ∧
  (bytes13 = 0 →
    (o1 = none →
      R (.tuple #[.int .u64 0, .int .i64 23]) ww15) ∧
    (o1 ≠ none →
      Calls Try.prog 70 #[.pointer o1, .slice bytes12a bytes12n bytes12c] ww15 fun ee19 ww20 => ∃ (hash18 : Int), ee19 = .returned (.int .u64 hash18) ∧
      R (.tuple #[.int .u64 hash18, .int .i64 0]) ww20))

theorem entry_Sum.up (o1 : Option Addr) (eWriter2 : Int) (eIndex3 : Int) (ePrev4 : Int) (eAtT5 : Int) (eAtW6 : Int) (eEpoch7 : Int) (eBody8a : Option Addr) (eBody8n : Nat) (eBody8c : Nat) (eSig9 : Int) {R : Value → World → Prop} {w : World} (h : entry_Sum.N o1 eWriter2 eIndex3 ePrev4 eAtT5 eAtW6 eEpoch7 eBody8a eBody8n eBody8c eSig9 R w) : entry_Sum.M o1 eWriter2 eIndex3 ePrev4 eAtT5 eAtW6 eEpoch7 eBody8a eBody8n eBody8c eSig9 R w := by
  unfold entry_Sum.M
  unfold entry_Sum.N at h
  refine thenW_in fun ww10 e10 => ?_
  have hb1 := Blk.of_new e10
  have hg1 := ((Ext.refl no w)).size
  have hx10 := (Ext.refl no w).x_alloc e10
  refine ⟨eWriter2, eIndex3, ePrev4, eAtT5, eAtW6, eEpoch7, eBody8a, eBody8n, eBody8c, eSig9, ⟨hb1.celli 0 rfl rfl, hb1.celli 1 rfl rfl, hb1.celli 2 rfl rfl, hb1.celli 3 rfl rfl, hb1.celli 4 rfl rfl, hb1.celli 5 rfl rfl, hb1.celli 6 rfl rfl, hb1.celli 7 rfl rfl, trivial⟩, ?_⟩
  have h := h ww10 hx10
  refine h.mono fun ee14 ww15 h => ?_
  obtain ⟨bytes12a, bytes12n, bytes12c, bytes13, he, h⟩ := h
  refine ⟨bytes12a, bytes12n, bytes12c, bytes13, he, ?_⟩
  refine bif_of (fun c16 => ?_) (fun c16 => ?_)
  · have h := h.1 (bne_t c16)
    exact h
  · have h := h.2 (bne_f c16)
    refine bif_of (fun c17 => ?_) (fun c17 => ?_)
    · have h := h.1 (isNone_t c17)
      exact h
    · have h := h.2 (isNone_f c17)
      refine h.mono fun ee19 ww20 h => ?_
      obtain ⟨hash18, he, h⟩ := h
      refine ⟨hash18, he, ?_⟩
      exact h

theorem entry_Sum.go (o1 : Option Addr) (eWriter2 : Int) (eIndex3 : Int) (ePrev4 : Int) (eAtT5 : Int) (eAtW6 : Int) (eEpoch7 : Int) (eBody8a : Option Addr) (eBody8n : Nat) (eBody8c : Nat) (eSig9 : Int) {R : Value → World → Prop} {w : World} (h : entry_Sum.N o1 eWriter2 eIndex3 ePrev4 eAtT5 eAtW6 eEpoch7 eBody8a eBody8n eBody8c eSig9 R w) : Calls Try.prog 51 #[.pointer o1, .agg #[.int .i64 eWriter2, .int .i64 eIndex3, .int .u64 ePrev4, .int .i64 eAtT5, .int .i64 eAtW6, .int .i64 eEpoch7, .slice eBody8a eBody8n eBody8c, .int .u64 eSig9]] w fun e w' => ∃ v, e = .returned v ∧ R v w' := entry_Sum.ok o1 eWriter2 eIndex3 ePrev4 eAtT5 eAtW6 eEpoch7 eBody8a eBody8n eBody8c eSig9 (entry_Sum.up o1 eWriter2 eIndex3 ePrev4 eAtT5 eAtW6 eEpoch7 eBody8a eBody8n eBody8c eSig9 h)
theorem entry_Sum.run (o1 : Option Addr) (eWriter2 : Int) (eIndex3 : Int) (ePrev4 : Int) (eAtT5 : Int) (eAtW6 : Int) (eEpoch7 : Int) (eBody8a : Option Addr) (eBody8n : Nat) (eBody8c : Nat) (eSig9 : Int) {V : Value} {Q : World → Prop} {w : World} (h : entry_Sum.N o1 eWriter2 eIndex3 ePrev4 eAtT5 eAtW6 eEpoch7 eBody8a eBody8n eBody8c eSig9 (fun v w' => v = V ∧ Q w') w) : Calls Try.prog 51 #[.pointer o1, .agg #[.int .i64 eWriter2, .int .i64 eIndex3, .int .u64 ePrev4, .int .i64 eAtT5, .int .i64 eAtW6, .int .i64 eEpoch7, .slice eBody8a eBody8n eBody8c, .int .u64 eSig9]] w (Ret V Q) := (entry_Sum.go o1 eWriter2 eIndex3 ePrev4 eAtT5 eAtW6 eEpoch7 eBody8a eBody8n eBody8c eSig9 h).mono fun e w' ⟨v, he, hv, hq⟩ => ⟨by rw [he, hv], hq⟩

/-- entry.Sign -/
def entry_Sign.M (o1 : Option Addr) (secret2 : Int) (eWriter3 : Int) (eIndex4 : Int) (ePrev5 : Int) (eAtT6 : Int) (eAtW7 : Int) (eEpoch8 : Int) (eBody9a : Option Addr) (eBody9n : Nat) (eBody9c : Nat) (eSig10 : Int) (R : Value → World → Prop) (w : World) : Prop :=
  thenW (w.alloc (.cells #[.int .i64 eWriter3, .int .i64 eIndex4, .int .u64 ePrev5, .int .i64 eAtT6, .int .i64 eAtW7, .int .i64 eEpoch8, .slice eBody9a eBody9n eBody9c, .int .u64 eSig10] 39)) fun ww11 =>
  thenW (ww11.alloc (.cells #[.int .i64 0, .int .i64 0, .int .u64 0, .int .i64 0, .int .i64 0, .int .i64 0, .slice none 0 0, .int .u64 0] 39)) fun ww12 =>
  ∃ (xWriter13 : Int) (xIndex14 : Int) (xPrev15 : Int) (xAtT16 : Int) (xAtW17 : Int) (xEpoch18 : Int) (xBody19a : Option Addr) (xBody19n : Nat) (xBody19c : Nat) (xSig20 : Int), cellsAt ww12 (blk w.heap.size) [.int .i64 xWriter13, .int .i64 xIndex14, .int .u64 xPrev15, .int .i64 xAtT16, .int .i64 xAtW17, .int .i64 xEpoch18, .slice xBody19a xBody19n xBody19c, .int .u64 xSig20] 0 ∧
  Calls Try.prog 57 #[.agg #[.int .i64 xWriter13, .int .i64 xIndex14, .int .u64 xPrev15, .int .i64 xAtT16, .int .i64 xAtW17, .int .i64 xEpoch18, .slice xBody19a xBody19n xBody19c, .int .u64 xSig20]] ww12 fun ee23 ww24 => ∃ (text21a : Option Addr) (text21n : Nat) (text21c : Nat) (text22 : Int), ee23 = .returned (.tuple #[.slice text21a text21n text21c, .int .i64 text22]) ∧
  bif text22 != 0 then (
  canStore ww24 ((blk ww11.heap.size).add 0) ∧
  thenW (ww24.setCell ((blk ww11.heap.size).add 0) (.int .i64 0)) fun ww25 =>
  canStore ww25 ((blk ww11.heap.size).add 1) ∧
  thenW (ww25.setCell ((blk ww11.heap.size).add 1) (.int .i64 0)) fun ww26 =>
  canStore ww26 ((blk ww11.heap.size).add 2) ∧
  thenW (ww26.setCell ((blk ww11.heap.size).add 2) (.int .u64 0)) fun ww27 =>
  canStore ww27 ((blk ww11.heap.size).add 3) ∧
  thenW (ww27.setCell ((blk ww11.heap.size).add 3) (.int .i64 0)) fun ww28 =>
  canStore ww28 ((blk ww11.heap.size).add 4) ∧
  thenW (ww28.setCell ((blk ww11.heap.size).add 4) (.int .i64 0)) fun ww29 =>
  canStore ww29 ((blk ww11.heap.size).add 5) ∧
  thenW (ww29.setCell ((blk ww11.heap.size).add 5) (.int .i64 0)) fun ww30 =>
  canStore ww30 ((blk ww11.heap.size).add 6) ∧
  thenW (ww30.setCell ((blk ww11.heap.size).add 6) (.slice none 0 0)) fun ww31 =>
  canStore ww31 ((blk ww11.heap.size).add 7) ∧
  thenW (ww31.setCell ((blk ww11.heap.size).add 7) (.int .u64 0)) fun ww32 =>
  ∃ (resWriter33 : Int) (resIndex34 : Int) (resPrev35 : Int) (resAtT36 : Int) (resAtW37 : Int) (resEpoch38 : Int) (resBody39a : Option Addr) (resBody39n : Nat) (resBody39c : Nat) (resSig40 : Int), cellsAt ww32 (blk ww11.heap.size) [.int .i64 resWriter33, .int .i64 resIndex34, .int .u64 resPrev35, .int .i64 resAtT36, .int .i64 resAtW37, .int .i64 resEpoch38, .slice resBody39a resBody39n resBody39c, .int .u64 resSig40] 0 ∧
  R (.tuple #[.agg #[.int .i64 resWriter33, .int .i64 resIndex34, .int .u64 resPrev35, .int .i64 resAtT36, .int .i64 resAtW37, .int .i64 resEpoch38, .slice resBody39a resBody39n resBody39c, .int .u64 resSig40], .int .i64 text22]) ww32) else (
  Calls Try.prog 58 #[.pointer o1, .int .u64 secret2, .slice text21a text21n text21c] ww24 fun ee43 ww44 => ∃ (sign41 : Int) (sign42 : Int), ee43 = .returned (.tuple #[.int .u64 sign41, .int .i64 sign42]) ∧
  canStore ww44 (((blk w.heap.size).add 7).add 0) ∧
  thenW (ww44.setCell (((blk w.heap.size).add 7).add 0) (.int .u64 sign41)) fun ww45 =>
  bif sign42 != 0 then (
  canStore ww45 ((blk ww11.heap.size).add 0) ∧
  thenW (ww45.setCell ((blk ww11.heap.size).add 0) (.int .i64 0)) fun ww46 =>
  canStore ww46 ((blk ww11.heap.size).add 1) ∧
  thenW (ww46.setCell ((blk ww11.heap.size).add 1) (.int .i64 0)) fun ww47 =>
  canStore ww47 ((blk ww11.heap.size).add 2) ∧
  thenW (ww47.setCell ((blk ww11.heap.size).add 2) (.int .u64 0)) fun ww48 =>
  canStore ww48 ((blk ww11.heap.size).add 3) ∧
  thenW (ww48.setCell ((blk ww11.heap.size).add 3) (.int .i64 0)) fun ww49 =>
  canStore ww49 ((blk ww11.heap.size).add 4) ∧
  thenW (ww49.setCell ((blk ww11.heap.size).add 4) (.int .i64 0)) fun ww50 =>
  canStore ww50 ((blk ww11.heap.size).add 5) ∧
  thenW (ww50.setCell ((blk ww11.heap.size).add 5) (.int .i64 0)) fun ww51 =>
  canStore ww51 ((blk ww11.heap.size).add 6) ∧
  thenW (ww51.setCell ((blk ww11.heap.size).add 6) (.slice none 0 0)) fun ww52 =>
  canStore ww52 ((blk ww11.heap.size).add 7) ∧
  thenW (ww52.setCell ((blk ww11.heap.size).add 7) (.int .u64 0)) fun ww53 =>
  ∃ (resWriter54 : Int) (resIndex55 : Int) (resPrev56 : Int) (resAtT57 : Int) (resAtW58 : Int) (resEpoch59 : Int) (resBody60a : Option Addr) (resBody60n : Nat) (resBody60c : Nat) (resSig61 : Int), cellsAt ww53 (blk ww11.heap.size) [.int .i64 resWriter54, .int .i64 resIndex55, .int .u64 resPrev56, .int .i64 resAtT57, .int .i64 resAtW58, .int .i64 resEpoch59, .slice resBody60a resBody60n resBody60c, .int .u64 resSig61] 0 ∧
  R (.tuple #[.agg #[.int .i64 resWriter54, .int .i64 resIndex55, .int .u64 resPrev56, .int .i64 resAtT57, .int .i64 resAtW58, .int .i64 resEpoch59, .slice resBody60a resBody60n resBody60c, .int .u64 resSig61], .int .i64 sign42]) ww53) else (
  ∃ (Body62a : Option Addr) (Body62n : Nat) (Body62c : Nat), ww45.cell? ((blk w.heap.size).add 6) = some (.slice Body62a Body62n Body62c) ∧
  Calls Try.prog 59 #[.slice Body62a Body62n Body62c] ww45 fun ee64 ww65 => ∃ (clone63a : Option Addr) (clone63n : Nat) (clone63c : Nat), ee64 = .returned (.slice clone63a clone63n clone63c) ∧
  canStore ww65 (((blk w.heap.size).add 6).add 0) ∧
  thenW (ww65.setCell (((blk w.heap.size).add 6).add 0) (.slice clone63a clone63n clone63c)) fun ww66 =>
  ∃ (xWriter67 : Int) (xIndex68 : Int) (xPrev69 : Int) (xAtT70 : Int) (xAtW71 : Int) (xEpoch72 : Int) (xBody73a : Option Addr) (xBody73n : Nat) (xBody73c : Nat) (xSig74 : Int), cellsAt ww66 (blk w.heap.size) [.int .i64 xWriter67, .int .i64 xIndex68, .int .u64 xPrev69, .int .i64 xAtT70, .int .i64 xAtW71, .int .i64 xEpoch72, .slice xBody73a xBody73n xBody73c, .int .u64 xSig74] 0 ∧
  canStore ww66 ((blk ww11.heap.size).add 0) ∧
  thenW (ww66.setCell ((blk ww11.heap.size).add 0) (.int .i64 xWriter67)) fun ww75 =>
  canStore ww75 ((blk ww11.heap.size).add 1) ∧
  thenW (ww75.setCell ((blk ww11.heap.size).add 1) (.int .i64 xIndex68)) fun ww76 =>
  canStore ww76 ((blk ww11.heap.size).add 2) ∧
  thenW (ww76.setCell ((blk ww11.heap.size).add 2) (.int .u64 xPrev69)) fun ww77 =>
  canStore ww77 ((blk ww11.heap.size).add 3) ∧
  thenW (ww77.setCell ((blk ww11.heap.size).add 3) (.int .i64 xAtT70)) fun ww78 =>
  canStore ww78 ((blk ww11.heap.size).add 4) ∧
  thenW (ww78.setCell ((blk ww11.heap.size).add 4) (.int .i64 xAtW71)) fun ww79 =>
  canStore ww79 ((blk ww11.heap.size).add 5) ∧
  thenW (ww79.setCell ((blk ww11.heap.size).add 5) (.int .i64 xEpoch72)) fun ww80 =>
  canStore ww80 ((blk ww11.heap.size).add 6) ∧
  thenW (ww80.setCell ((blk ww11.heap.size).add 6) (.slice xBody73a xBody73n xBody73c)) fun ww81 =>
  canStore ww81 ((blk ww11.heap.size).add 7) ∧
  thenW (ww81.setCell ((blk ww11.heap.size).add 7) (.int .u64 xSig74)) fun ww82 =>
  ∃ (resWriter83 : Int) (resIndex84 : Int) (resPrev85 : Int) (resAtT86 : Int) (resAtW87 : Int) (resEpoch88 : Int) (resBody89a : Option Addr) (resBody89n : Nat) (resBody89c : Nat) (resSig90 : Int), cellsAt ww82 (blk ww11.heap.size) [.int .i64 resWriter83, .int .i64 resIndex84, .int .u64 resPrev85, .int .i64 resAtT86, .int .i64 resAtW87, .int .i64 resEpoch88, .slice resBody89a resBody89n resBody89c, .int .u64 resSig90] 0 ∧
  R (.tuple #[.agg #[.int .i64 resWriter83, .int .i64 resIndex84, .int .u64 resPrev85, .int .i64 resAtT86, .int .i64 resAtW87, .int .i64 resEpoch88, .slice resBody89a resBody89n resBody89c, .int .u64 resSig90], .int .i64 0]) ww82))

theorem entry_Sign.eq (o1 : Option Addr) (secret2 : Int) (eWriter3 : Int) (eIndex4 : Int) (ePrev5 : Int) (eAtT6 : Int) (eAtW7 : Int) (eEpoch8 : Int) (eBody9a : Option Addr) (eBody9n : Nat) (eBody9c : Nat) (eSig10 : Int) (R : Value → World → Prop) (w : World) : mfunc Try.prog [] 40 [.pointer o1, .int .u64 secret2, .agg #[.int .i64 eWriter3, .int .i64 eIndex4, .int .u64 ePrev5, .int .i64 eAtT6, .int .i64 eAtW7, .int .i64 eEpoch8, .slice eBody9a eBody9n eBody9c, .int .u64 eSig10]] R w = entry_Sign.M o1 secret2 eWriter3 eIndex4 ePrev5 eAtT6 eAtW7 eEpoch8 eBody9a eBody9n eBody9c eSig10 R w := by kernel_rfl
theorem entry_Sign.ok (o1 : Option Addr) (secret2 : Int) (eWriter3 : Int) (eIndex4 : Int) (ePrev5 : Int) (eAtT6 : Int) (eAtW7 : Int) (eEpoch8 : Int) (eBody9a : Option Addr) (eBody9n : Nat) (eBody9c : Nat) (eSig10 : Int) {R : Value → World → Prop} {w : World} (h : entry_Sign.M o1 secret2 eWriter3 eIndex4 ePrev5 eAtT6 eAtW7 eEpoch8 eBody9a eBody9n eBody9c eSig10 R w) : Calls Try.prog 40 #[.pointer o1, .int .u64 secret2, .agg #[.int .i64 eWriter3, .int .i64 eIndex4, .int .u64 ePrev5, .int .i64 eAtT6, .int .i64 eAtW7, .int .i64 eEpoch8, .slice eBody9a eBody9n eBody9c, .int .u64 eSig10]] w fun e w' => ∃ v, e = .returned v ∧ R v w' :=
  mfunc_ok follows (H := []) (args := [.pointer o1, .int .u64 secret2, .agg #[.int .i64 eWriter3, .int .i64 eIndex4, .int .u64 ePrev5, .int .i64 eAtT6, .int .i64 eAtW7, .int .i64 eEpoch8, .slice eBody9a eBody9n eBody9c, .int .u64 eSig10]]) (by rw [entry_Sign.eq]; exact h)

def entry_Sign.N (o1 : Option Addr) (secret2 : Int) (eWriter3 : Int) (eIndex4 : Int) (ePrev5 : Int) (eAtT6 : Int) (eAtW7 : Int) (eEpoch8 : Int) (eBody9a : Option Addr) (eBody9n : Nat) (eBody9c : Nat) (eSig10 : Int) (R : Value → World → Prop) (w : World) : Prop :=
  ∀ (ww12 : World) (p13 : Nat) (p14 : Nat), Ext no w ww12 → Priv w ww12 [p13, p14] →
  Calls Try.prog 57 #[.agg #[.int .i64 eWriter3, .int .i64 eIndex4, .int .u64 ePrev5, .int .i64 eAtT6, .int .i64 eAtW7, .int .i64 eEpoch8, .slice eBody9a eBody9n eBody9c, .int .u64 eSig10]] ww12 fun ee17 ww18 => ∃ (text15a : Option Addr) (text15n : Nat) (text15c : Nat) (text16 : Int), ee17 = .returned (.tuple #[.slice text15a text15n text15c, .int .i64 text16]) ∧
  Keep [p13, p14] ww12 ww18 ∧
  (text16 ≠ 0 →
    ∀ (ww27 : World), Ext (fun b => b = p14) ww18 ww27 →
    R (.tuple #[.agg #[.int .i64 0, .int .i64 0, .int .u64 0, .int .i64 0, .int .i64 0, .int .i64 0, .slice none 0 0, .int .u64 0], .int .i64 text16]) ww27) ∧
  (text16 = 0 →
    Calls Try.prog 58 #[.pointer o1, .int .u64 secret2, .slice text15a text15n text15c] ww18 fun ee30 ww31 => ∃ (sign28 : Int) (sign29 : Int), ee30 = .returned (.tuple #[.int .u64 sign28, .int .i64 sign29]) ∧
    Keep [p13, p14] ww18 ww31 ∧
    (sign29 ≠ 0 →
      ∀ (ww41 : World), Ext (fun b => b = p14 ∨ b = p13) ww31 ww41 →
      R (.tuple #[.agg #[.int .i64 0, .int .i64 0, .int .u64 0, .int .i64 0, .int .i64 0, .int .i64 0, .slice none 0 0, .int .u64 0], .int .i64 sign29]) ww41) ∧
    (sign29 = 0 →
      ∀ (ww32 : World), Ext (fun b => b = p13) ww31 ww32 →
      Calls Try.prog 59 #[.slice eBody9a eBody9n eBody9c] ww32 fun ee43 ww44 => ∃ (clone42a : Option Addr) (clone42n : Nat) (clone42c : Nat), ee43 = .returned (.slice clone42a clone42n clone42c) ∧
      Keep [p13, p14] ww32 ww44 ∧
      ∀ (ww53 : World), Ext (fun b => b = p14 ∨ b = p13) ww44 ww53 →
      R (.tuple #[.agg #[.int .i64 eWriter3, .int .i64 eIndex4, .int .u64 ePrev5, .int .i64 eAtT6, .int .i64 eAtW7, .int .i64 eEpoch8, .slice clone42a clone42n clone42c, .int .u64 sign28], .int .i64 0]) ww53))

theorem entry_Sign.up (o1 : Option Addr) (secret2 : Int) (eWriter3 : Int) (eIndex4 : Int) (ePrev5 : Int) (eAtT6 : Int) (eAtW7 : Int) (eEpoch8 : Int) (eBody9a : Option Addr) (eBody9n : Nat) (eBody9c : Nat) (eSig10 : Int) {R : Value → World → Prop} {w : World} (h : entry_Sign.N o1 secret2 eWriter3 eIndex4 ePrev5 eAtT6 eAtW7 eEpoch8 eBody9a eBody9n eBody9c eSig10 R w) : entry_Sign.M o1 secret2 eWriter3 eIndex4 ePrev5 eAtT6 eAtW7 eEpoch8 eBody9a eBody9n eBody9c eSig10 R w := by
  unfold entry_Sign.M
  unfold entry_Sign.N at h
  refine thenW_in fun ww11 e11 => ?_
  have hb1 := Blk.of_new e11
  have hg1 := ((Ext.refl no w)).size
  have hx11 := (Ext.refl no w).x_alloc e11
  refine thenW_in fun ww12 e12 => ?_
  have hb2 := Blk.of_new e12
  have hg2 := (hx11).size
  have hb1_2 := Nat.ne_of_lt hb1.lt
  have hb1 := hb1.x_alloc e12
  have hx12 := hx11.x_alloc e12
  refine ⟨eWriter3, eIndex4, ePrev5, eAtT6, eAtW7, eEpoch8, eBody9a, eBody9n, eBody9c, eSig10, ⟨hb1.celli 0 rfl rfl, hb1.celli 1 rfl rfl, hb1.celli 2 rfl rfl, hb1.celli 3 rfl rfl, hb1.celli 4 rfl rfl, hb1.celli 5 rfl rfl, hb1.celli 6 rfl rfl, hb1.celli 7 rfl rfl, trivial⟩, ?_⟩
  have h := h ww12 (w.heap.size) (ww11.heap.size) hx12 (Priv.cons hg1 hb1.lt (Priv.cons hg2 hb2.lt Priv.nil))
  refine h.mono fun ee17 ww18 h => ?_
  obtain ⟨text15a, text15n, text15c, text16, he, hk, h⟩ := h
  refine ⟨text15a, text15n, text15c, text16, he, ?_⟩
  have hb1 := hk.blk hb1 (by simp)
  have hb2 := hk.blk hb2 (by simp)
  refine bif_of (fun c19 => ?_) (fun c19 => ?_)
  · have h := h.1 (bne_t c19)
    have hm27 : Ext (fun b => b = ww11.heap.size) ww18 ww18 := ((Ext.refl no ww18)).none
    refine ⟨hb2.cani 0 rfl rfl, thenW_in fun ww20 e20 => ?_⟩
    have hx20 := hm27.x_set (q := ww11.heap.size) (i := 0) rfl (.inl rfl) e20
    have hb2 := hb2.seti 0 rfl e20
    refine ⟨hb2.cani 1 rfl rfl, thenW_in fun ww21 e21 => ?_⟩
    have hx21 := hx20.x_set (q := ww11.heap.size) (i := 1) rfl (.inl rfl) e21
    have hb2 := hb2.seti 1 rfl e21
    refine ⟨hb2.cani 2 rfl rfl, thenW_in fun ww22 e22 => ?_⟩
    have hx22 := hx21.x_set (q := ww11.heap.size) (i := 2) rfl (.inl rfl) e22
    have hb2 := hb2.seti 2 rfl e22
    refine ⟨hb2.cani 3 rfl rfl, thenW_in fun ww23 e23 => ?_⟩
    have hx23 := hx22.x_set (q := ww11.heap.size) (i := 3) rfl (.inl rfl) e23
    have hb2 := hb2.seti 3 rfl e23
    refine ⟨hb2.cani 4 rfl rfl, thenW_in fun ww24 e24 => ?_⟩
    have hx24 := hx23.x_set (q := ww11.heap.size) (i := 4) rfl (.inl rfl) e24
    have hb2 := hb2.seti 4 rfl e24
    refine ⟨hb2.cani 5 rfl rfl, thenW_in fun ww25 e25 => ?_⟩
    have hx25 := hx24.x_set (q := ww11.heap.size) (i := 5) rfl (.inl rfl) e25
    have hb2 := hb2.seti 5 rfl e25
    refine ⟨hb2.cani 6 rfl rfl, thenW_in fun ww26 e26 => ?_⟩
    have hx26 := hx25.x_set (q := ww11.heap.size) (i := 6) rfl (.inl rfl) e26
    have hb2 := hb2.seti 6 rfl e26
    refine ⟨hb2.cani 7 rfl rfl, thenW_in fun ww27 e27 => ?_⟩
    have hx27 := hx26.x_set (q := ww11.heap.size) (i := 7) rfl (.inl rfl) e27
    have hb2 := hb2.seti 7 rfl e27
    refine ⟨0, 0, 0, 0, 0, 0, none, 0, 0, 0, ⟨hb2.celli 0 rfl rfl, hb2.celli 1 rfl rfl, hb2.celli 2 rfl rfl, hb2.celli 3 rfl rfl, hb2.celli 4 rfl rfl, hb2.celli 5 rfl rfl, hb2.celli 6 rfl rfl, hb2.celli 7 rfl rfl, trivial⟩, ?_⟩
    have h := h ww27 hx27
    exact h
  · have h := h.2 (bne_f c19)
    refine h.mono fun ee30 ww31 h => ?_
    obtain ⟨sign28, sign29, he, hk, h⟩ := h
    refine ⟨sign28, sign29, he, ?_⟩
    have hb1 := hk.blk hb1 (by simp)
    have hb2 := hk.blk hb2 (by simp)
    have hm32 : Ext (fun b => b = w.heap.size) ww31 ww31 := ((Ext.refl no ww31)).none
    refine ⟨hb1.cani 7 rfl rfl, thenW_in fun ww32 e32 => ?_⟩
    have hx32 := hm32.x_set (q := w.heap.size) (i := 7) rfl (.inl rfl) e32
    have hb1 := hb1.seti 7 rfl e32
    have hb2 := hb2.oth (q := w.heap.size) (i := 7) rfl (Ne.symm hb1_2) e32
    refine bif_of (fun c33 => ?_) (fun c33 => ?_)
    · have h := h.1 (bne_t c33)
      have hm41 : Ext (fun b => b = ww11.heap.size ∨ b = w.heap.size) ww31 ww32 := (hx32).mono fun _ h _ => .inr h
      refine ⟨hb2.cani 0 rfl rfl, thenW_in fun ww34 e34 => ?_⟩
      have hx34 := hm41.x_set (q := ww11.heap.size) (i := 0) rfl (.inl (.inl rfl)) e34
      have hb2 := hb2.seti 0 rfl e34
      refine ⟨hb2.cani 1 rfl rfl, thenW_in fun ww35 e35 => ?_⟩
      have hx35 := hx34.x_set (q := ww11.heap.size) (i := 1) rfl (.inl (.inl rfl)) e35
      have hb2 := hb2.seti 1 rfl e35
      refine ⟨hb2.cani 2 rfl rfl, thenW_in fun ww36 e36 => ?_⟩
      have hx36 := hx35.x_set (q := ww11.heap.size) (i := 2) rfl (.inl (.inl rfl)) e36
      have hb2 := hb2.seti 2 rfl e36
      refine ⟨hb2.cani 3 rfl rfl, thenW_in fun ww37 e37 => ?_⟩
      have hx37 := hx36.x_set (q := ww11.heap.size) (i := 3) rfl (.inl (.inl rfl)) e37
      have hb2 := hb2.seti 3 rfl e37
      refine ⟨hb2.cani 4 rfl rfl, thenW_in fun ww38 e38 => ?_⟩
      have hx38 := hx37.x_set (q := ww11.heap.size) (i := 4) rfl (.inl (.inl rfl)) e38
      have hb2 := hb2.seti 4 rfl e38
      refine ⟨hb2.cani 5 rfl rfl, thenW_in fun ww39 e39 => ?_⟩
      have hx39 := hx38.x_set (q := ww11.heap.size) (i := 5) rfl (.inl (.inl rfl)) e39
      have hb2 := hb2.seti 5 rfl e39
      refine ⟨hb2.cani 6 rfl rfl, thenW_in fun ww40 e40 => ?_⟩
      have hx40 := hx39.x_set (q := ww11.heap.size) (i := 6) rfl (.inl (.inl rfl)) e40
      have hb2 := hb2.seti 6 rfl e40
      refine ⟨hb2.cani 7 rfl rfl, thenW_in fun ww41 e41 => ?_⟩
      have hx41 := hx40.x_set (q := ww11.heap.size) (i := 7) rfl (.inl (.inl rfl)) e41
      have hb2 := hb2.seti 7 rfl e41
      refine ⟨0, 0, 0, 0, 0, 0, none, 0, 0, 0, ⟨hb2.celli 0 rfl rfl, hb2.celli 1 rfl rfl, hb2.celli 2 rfl rfl, hb2.celli 3 rfl rfl, hb2.celli 4 rfl rfl, hb2.celli 5 rfl rfl, hb2.celli 6 rfl rfl, hb2.celli 7 rfl rfl, trivial⟩, ?_⟩
      have h := h ww41 hx41
      exact h
    · have h := h.2 (bne_f c33)
      refine ⟨eBody9a, eBody9n, eBody9c, hb1.celli 6 rfl rfl, ?_⟩
      have h := h ww32 hx32
      refine h.mono fun ee43 ww44 h => ?_
      obtain ⟨clone42a, clone42n, clone42c, he, hk, h⟩ := h
      refine ⟨clone42a, clone42n, clone42c, he, ?_⟩
      have hb1 := hk.blk hb1 (by simp)
      have hb2 := hk.blk hb2 (by simp)
      have hm45 : Ext (fun b => b = w.heap.size) ww44 ww44 := ((Ext.refl no ww44)).none
      refine ⟨hb1.cani 6 rfl rfl, thenW_in fun ww45 e45 => ?_⟩
      have hx45 := hm45.x_set (q := w.heap.size) (i := 6) rfl (.inl rfl) e45
      have hb1 := hb1.seti 6 rfl e45
      have hb2 := hb2.oth (q := w.heap.size) (i := 6) rfl (Ne.symm hb1_2) e45
      refine ⟨eWriter3, eIndex4, ePrev5, eAtT6, eAtW7, eEpoch8, clone42a, clone42n, clone42c, sign28, ⟨hb1.celli 0 rfl rfl, hb1.celli 1 rfl rfl, hb1.celli 2 rfl rfl, hb1.celli 3 rfl rfl, hb1.celli 4 rfl rfl, hb1.celli 5 rfl rfl, hb1.celli 6 rfl rfl, hb1.celli 7 rfl rfl, trivial⟩, ?_⟩
      have hm53 : Ext (fun b => b = ww11.heap.size ∨ b = w.heap.size) ww44 ww45 := (hx45).mono fun _ h _ => .inr h
      refine ⟨hb2.cani 0 rfl rfl, thenW_in fun ww46 e46 => ?_⟩
      have hx46 := hm53.x_set (q := ww11.heap.size) (i := 0) rfl (.inl (.inl rfl)) e46
      have hb2 := hb2.seti 0 rfl e46
      refine ⟨hb2.cani 1 rfl rfl, thenW_in fun ww47 e47 => ?_⟩
      have hx47 := hx46.x_set (q := ww11.heap.size) (i := 1) rfl (.inl (.inl rfl)) e47
      have hb2 := hb2.seti 1 rfl e47
      refine ⟨hb2.cani 2 rfl rfl, thenW_in fun ww48 e48 => ?_⟩
      have hx48 := hx47.x_set (q := ww11.heap.size) (i := 2) rfl (.inl (.inl rfl)) e48
      have hb2 := hb2.seti 2 rfl e48
      refine ⟨hb2.cani 3 rfl rfl, thenW_in fun ww49 e49 => ?_⟩
      have hx49 := hx48.x_set (q := ww11.heap.size) (i := 3) rfl (.inl (.inl rfl)) e49
      have hb2 := hb2.seti 3 rfl e49
      refine ⟨hb2.cani 4 rfl rfl, thenW_in fun ww50 e50 => ?_⟩
      have hx50 := hx49.x_set (q := ww11.heap.size) (i := 4) rfl (.inl (.inl rfl)) e50
      have hb2 := hb2.seti 4 rfl e50
      refine ⟨hb2.cani 5 rfl rfl, thenW_in fun ww51 e51 => ?_⟩
      have hx51 := hx50.x_set (q := ww11.heap.size) (i := 5) rfl (.inl (.inl rfl)) e51
      have hb2 := hb2.seti 5 rfl e51
      refine ⟨hb2.cani 6 rfl rfl, thenW_in fun ww52 e52 => ?_⟩
      have hx52 := hx51.x_set (q := ww11.heap.size) (i := 6) rfl (.inl (.inl rfl)) e52
      have hb2 := hb2.seti 6 rfl e52
      refine ⟨hb2.cani 7 rfl rfl, thenW_in fun ww53 e53 => ?_⟩
      have hx53 := hx52.x_set (q := ww11.heap.size) (i := 7) rfl (.inl (.inl rfl)) e53
      have hb2 := hb2.seti 7 rfl e53
      refine ⟨eWriter3, eIndex4, ePrev5, eAtT6, eAtW7, eEpoch8, clone42a, clone42n, clone42c, sign28, ⟨hb2.celli 0 rfl rfl, hb2.celli 1 rfl rfl, hb2.celli 2 rfl rfl, hb2.celli 3 rfl rfl, hb2.celli 4 rfl rfl, hb2.celli 5 rfl rfl, hb2.celli 6 rfl rfl, hb2.celli 7 rfl rfl, trivial⟩, ?_⟩
      have h := h ww53 hx53
      exact h

theorem entry_Sign.go (o1 : Option Addr) (secret2 : Int) (eWriter3 : Int) (eIndex4 : Int) (ePrev5 : Int) (eAtT6 : Int) (eAtW7 : Int) (eEpoch8 : Int) (eBody9a : Option Addr) (eBody9n : Nat) (eBody9c : Nat) (eSig10 : Int) {R : Value → World → Prop} {w : World} (h : entry_Sign.N o1 secret2 eWriter3 eIndex4 ePrev5 eAtT6 eAtW7 eEpoch8 eBody9a eBody9n eBody9c eSig10 R w) : Calls Try.prog 40 #[.pointer o1, .int .u64 secret2, .agg #[.int .i64 eWriter3, .int .i64 eIndex4, .int .u64 ePrev5, .int .i64 eAtT6, .int .i64 eAtW7, .int .i64 eEpoch8, .slice eBody9a eBody9n eBody9c, .int .u64 eSig10]] w fun e w' => ∃ v, e = .returned v ∧ R v w' := entry_Sign.ok o1 secret2 eWriter3 eIndex4 ePrev5 eAtT6 eAtW7 eEpoch8 eBody9a eBody9n eBody9c eSig10 (entry_Sign.up o1 secret2 eWriter3 eIndex4 ePrev5 eAtT6 eAtW7 eEpoch8 eBody9a eBody9n eBody9c eSig10 h)
theorem entry_Sign.run (o1 : Option Addr) (secret2 : Int) (eWriter3 : Int) (eIndex4 : Int) (ePrev5 : Int) (eAtT6 : Int) (eAtW7 : Int) (eEpoch8 : Int) (eBody9a : Option Addr) (eBody9n : Nat) (eBody9c : Nat) (eSig10 : Int) {V : Value} {Q : World → Prop} {w : World} (h : entry_Sign.N o1 secret2 eWriter3 eIndex4 ePrev5 eAtT6 eAtW7 eEpoch8 eBody9a eBody9n eBody9c eSig10 (fun v w' => v = V ∧ Q w') w) : Calls Try.prog 40 #[.pointer o1, .int .u64 secret2, .agg #[.int .i64 eWriter3, .int .i64 eIndex4, .int .u64 ePrev5, .int .i64 eAtT6, .int .i64 eAtW7, .int .i64 eEpoch8, .slice eBody9a eBody9n eBody9c, .int .u64 eSig10]] w (Ret V Q) := (entry_Sign.go o1 secret2 eWriter3 eIndex4 ePrev5 eAtT6 eAtW7 eEpoch8 eBody9a eBody9n eBody9c eSig10 h).mono fun e w' ⟨v, he, hv, hq⟩ => ⟨by rw [he, hv], hq⟩

/-- entry.Holds -/
def entry_Holds.M (o1 : Option Addr) (publicv2 : Int) (eWriter3 : Int) (eIndex4 : Int) (ePrev5 : Int) (eAtT6 : Int) (eAtW7 : Int) (eEpoch8 : Int) (eBody9a : Option Addr) (eBody9n : Nat) (eBody9c : Nat) (eSig10 : Int) (R : Value → World → Prop) (w : World) : Prop :=
  thenW (w.alloc (.cells #[.int .i64 eWriter3, .int .i64 eIndex4, .int .u64 ePrev5, .int .i64 eAtT6, .int .i64 eAtW7, .int .i64 eEpoch8, .slice eBody9a eBody9n eBody9c, .int .u64 eSig10] 39)) fun ww11 =>
  ∃ (xWriter12 : Int) (xIndex13 : Int) (xPrev14 : Int) (xAtT15 : Int) (xAtW16 : Int) (xEpoch17 : Int) (xBody18a : Option Addr) (xBody18n : Nat) (xBody18c : Nat) (xSig19 : Int), cellsAt ww11 (blk w.heap.size) [.int .i64 xWriter12, .int .i64 xIndex13, .int .u64 xPrev14, .int .i64 xAtT15, .int .i64 xAtW16, .int .i64 xEpoch17, .slice xBody18a xBody18n xBody18c, .int .u64 xSig19] 0 ∧
  Calls Try.prog 57 #[.agg #[.int .i64 xWriter12, .int .i64 xIndex13, .int .u64 xPrev14, .int .i64 xAtT15, .int .i64 xAtW16, .int .i64 xEpoch17, .slice xBody18a xBody18n xBody18c, .int .u64 xSig19]] ww11 fun ee22 ww23 => ∃ (text20a : Option Addr) (text20n : Nat) (text20c : Nat) (text21 : Int), ee22 = .returned (.tuple #[.slice text20a text20n text20c, .int .i64 text21]) ∧
  bif text21 == 0 then (
  ∃ (Sig24 : Int), ww23.cell? ((blk w.heap.size).add 7) = some (.int .u64 Sig24) ∧
  Calls Try.prog 82 #[.pointer o1, .int .u64 publicv2, .slice text20a text20n text20c, .int .u64 Sig24] ww23 fun ee26 ww27 => ∃ (verify25 : Bool), ee26 = .returned (.bool verify25) ∧
  R (.bool verify25) ww27) else (
  R (.bool false) ww23)

theorem entry_Holds.eq (o1 : Option Addr) (publicv2 : Int) (eWriter3 : Int) (eIndex4 : Int) (ePrev5 : Int) (eAtT6 : Int) (eAtW7 : Int) (eEpoch8 : Int) (eBody9a : Option Addr) (eBody9n : Nat) (eBody9c : Nat) (eSig10 : Int) (R : Value → World → Prop) (w : World) : mfunc Try.prog [] 67 [.pointer o1, .int .u64 publicv2, .agg #[.int .i64 eWriter3, .int .i64 eIndex4, .int .u64 ePrev5, .int .i64 eAtT6, .int .i64 eAtW7, .int .i64 eEpoch8, .slice eBody9a eBody9n eBody9c, .int .u64 eSig10]] R w = entry_Holds.M o1 publicv2 eWriter3 eIndex4 ePrev5 eAtT6 eAtW7 eEpoch8 eBody9a eBody9n eBody9c eSig10 R w := by kernel_rfl
theorem entry_Holds.ok (o1 : Option Addr) (publicv2 : Int) (eWriter3 : Int) (eIndex4 : Int) (ePrev5 : Int) (eAtT6 : Int) (eAtW7 : Int) (eEpoch8 : Int) (eBody9a : Option Addr) (eBody9n : Nat) (eBody9c : Nat) (eSig10 : Int) {R : Value → World → Prop} {w : World} (h : entry_Holds.M o1 publicv2 eWriter3 eIndex4 ePrev5 eAtT6 eAtW7 eEpoch8 eBody9a eBody9n eBody9c eSig10 R w) : Calls Try.prog 67 #[.pointer o1, .int .u64 publicv2, .agg #[.int .i64 eWriter3, .int .i64 eIndex4, .int .u64 ePrev5, .int .i64 eAtT6, .int .i64 eAtW7, .int .i64 eEpoch8, .slice eBody9a eBody9n eBody9c, .int .u64 eSig10]] w fun e w' => ∃ v, e = .returned v ∧ R v w' :=
  mfunc_ok follows (H := []) (args := [.pointer o1, .int .u64 publicv2, .agg #[.int .i64 eWriter3, .int .i64 eIndex4, .int .u64 ePrev5, .int .i64 eAtT6, .int .i64 eAtW7, .int .i64 eEpoch8, .slice eBody9a eBody9n eBody9c, .int .u64 eSig10]]) (by rw [entry_Holds.eq]; exact h)

def entry_Holds.N (o1 : Option Addr) (publicv2 : Int) (eWriter3 : Int) (eIndex4 : Int) (ePrev5 : Int) (eAtT6 : Int) (eAtW7 : Int) (eEpoch8 : Int) (eBody9a : Option Addr) (eBody9n : Nat) (eBody9c : Nat) (eSig10 : Int) (R : Value → World → Prop) (w : World) : Prop :=
  ∀ (ww11 : World) (p12 : Nat), Ext no w ww11 → Priv w ww11 [p12] →
  Calls Try.prog 57 #[.agg #[.int .i64 eWriter3, .int .i64 eIndex4, .int .u64 ePrev5, .int .i64 eAtT6, .int .i64 eAtW7, .int .i64 eEpoch8, .slice eBody9a eBody9n eBody9c, .int .u64 eSig10]] ww11 fun ee15 ww16 => ∃ (text13a : Option Addr) (text13n : Nat) (text13c : Nat) (text14 : Int), ee15 = .returned (.tuple #[.slice text13a text13n text13c, .int .i64 text14]) ∧
  Keep [p12] ww11 ww16 ∧
  (text14 = 0 →
    Calls Try.prog 82 #[.pointer o1, .int .u64 publicv2, .slice text13a text13n text13c, .int .u64 eSig10] ww16 fun ee19 ww20 => ∃ (verify18 : Bool), ee19 = .returned (.bool verify18) ∧
    R (.bool verify18) ww20) ∧
  (text14 ≠ 0 →
    R (.bool false) ww16)

theorem entry_Holds.up (o1 : Option Addr) (publicv2 : Int) (eWriter3 : Int) (eIndex4 : Int) (ePrev5 : Int) (eAtT6 : Int) (eAtW7 : Int) (eEpoch8 : Int) (eBody9a : Option Addr) (eBody9n : Nat) (eBody9c : Nat) (eSig10 : Int) {R : Value → World → Prop} {w : World} (h : entry_Holds.N o1 publicv2 eWriter3 eIndex4 ePrev5 eAtT6 eAtW7 eEpoch8 eBody9a eBody9n eBody9c eSig10 R w) : entry_Holds.M o1 publicv2 eWriter3 eIndex4 ePrev5 eAtT6 eAtW7 eEpoch8 eBody9a eBody9n eBody9c eSig10 R w := by
  unfold entry_Holds.M
  unfold entry_Holds.N at h
  refine thenW_in fun ww11 e11 => ?_
  have hb1 := Blk.of_new e11
  have hg1 := ((Ext.refl no w)).size
  have hx11 := (Ext.refl no w).x_alloc e11
  refine ⟨eWriter3, eIndex4, ePrev5, eAtT6, eAtW7, eEpoch8, eBody9a, eBody9n, eBody9c, eSig10, ⟨hb1.celli 0 rfl rfl, hb1.celli 1 rfl rfl, hb1.celli 2 rfl rfl, hb1.celli 3 rfl rfl, hb1.celli 4 rfl rfl, hb1.celli 5 rfl rfl, hb1.celli 6 rfl rfl, hb1.celli 7 rfl rfl, trivial⟩, ?_⟩
  have h := h ww11 (w.heap.size) hx11 (Priv.cons hg1 hb1.lt Priv.nil)
  refine h.mono fun ee15 ww16 h => ?_
  obtain ⟨text13a, text13n, text13c, text14, he, hk, h⟩ := h
  refine ⟨text13a, text13n, text13c, text14, he, ?_⟩
  have hb1 := hk.blk hb1 (by simp)
  refine bif_of (fun c17 => ?_) (fun c17 => ?_)
  · have h := h.1 (beq_t c17)
    refine ⟨eSig10, hb1.celli 7 rfl rfl, ?_⟩
    refine h.mono fun ee19 ww20 h => ?_
    obtain ⟨verify18, he, h⟩ := h
    refine ⟨verify18, he, ?_⟩
    exact h
  · have h := h.2 (beq_f c17)
    exact h

theorem entry_Holds.go (o1 : Option Addr) (publicv2 : Int) (eWriter3 : Int) (eIndex4 : Int) (ePrev5 : Int) (eAtT6 : Int) (eAtW7 : Int) (eEpoch8 : Int) (eBody9a : Option Addr) (eBody9n : Nat) (eBody9c : Nat) (eSig10 : Int) {R : Value → World → Prop} {w : World} (h : entry_Holds.N o1 publicv2 eWriter3 eIndex4 ePrev5 eAtT6 eAtW7 eEpoch8 eBody9a eBody9n eBody9c eSig10 R w) : Calls Try.prog 67 #[.pointer o1, .int .u64 publicv2, .agg #[.int .i64 eWriter3, .int .i64 eIndex4, .int .u64 ePrev5, .int .i64 eAtT6, .int .i64 eAtW7, .int .i64 eEpoch8, .slice eBody9a eBody9n eBody9c, .int .u64 eSig10]] w fun e w' => ∃ v, e = .returned v ∧ R v w' := entry_Holds.ok o1 publicv2 eWriter3 eIndex4 ePrev5 eAtT6 eAtW7 eEpoch8 eBody9a eBody9n eBody9c eSig10 (entry_Holds.up o1 publicv2 eWriter3 eIndex4 ePrev5 eAtT6 eAtW7 eEpoch8 eBody9a eBody9n eBody9c eSig10 h)
theorem entry_Holds.run (o1 : Option Addr) (publicv2 : Int) (eWriter3 : Int) (eIndex4 : Int) (ePrev5 : Int) (eAtT6 : Int) (eAtW7 : Int) (eEpoch8 : Int) (eBody9a : Option Addr) (eBody9n : Nat) (eBody9c : Nat) (eSig10 : Int) {V : Value} {Q : World → Prop} {w : World} (h : entry_Holds.N o1 publicv2 eWriter3 eIndex4 ePrev5 eAtT6 eAtW7 eEpoch8 eBody9a eBody9n eBody9c eSig10 (fun v w' => v = V ∧ Q w') w) : Calls Try.prog 67 #[.pointer o1, .int .u64 publicv2, .agg #[.int .i64 eWriter3, .int .i64 eIndex4, .int .u64 ePrev5, .int .i64 eAtT6, .int .i64 eAtW7, .int .i64 eEpoch8, .slice eBody9a eBody9n eBody9c, .int .u64 eSig10]] w (Ret V Q) := (entry_Holds.go o1 publicv2 eWriter3 eIndex4 ePrev5 eAtT6 eAtW7 eEpoch8 eBody9a eBody9n eBody9c eSig10 h).mono fun e w' ⟨v, he, hv, hq⟩ => ⟨by rw [he, hv], hq⟩

def sumE (S : OS) (e : Ent) : (Int × Int) × OS := if entRight e = true then (((hashOf S (bytesL e)).1, 0), (hashOf S (bytesL e)).2) else ((0, 1), S)
def signE (S : OS) (s : Int) (e : Ent) : (Ent × Int) × OS :=
  if entRight e = true then (if (signOf S s (textL e)).1.2 = true then (({ e with sg := (signOf S s (textL e)).1.1 }, 0), (signOf S s (textL e)).2) else ((Ent.zero, 11), (signOf S s (textL e)).2)) else ((Ent.zero, 1), S)
def holdsE (S : OS) (p : Int) (e : Ent) : Bool := entRight e && verifyOf S p (textL e) e.sg
section
variable {w w' : World} {o o' : Own} {k : Nat} {S : OS} {K : Nat → Prop}
theorem OwnB.tight {N : Nat} {a : Option Addr} {c : Nat} {l : List UInt8} (h : OwnB N w' a c l) (hN : w.heap.size ≤ N) : Row w' (grow w o) a (bytesV l) := Row.fresh h.row fun ad ha => Nat.le_trans hN (h.fr ad ha).1
theorem bClone_spec {a : Option Addr} {c : Nat} {bs : List UInt8} (h : RowAt w a (bytesV bs)) (hl : bs.length ≤ 1000000) :
    Calls Try.prog 59 #[.slice a bs.length c] w (fun e w' => ∃ a' c', e = .returned (.slice a' bs.length c') ∧ OwnB w.heap.size w' a' c' bs ∧ Ext no w w') := by
  refine (bytes_Clone.go _ _ _ (R := fun v w' => ∃ a' c', v = (.slice a' bs.length c') ∧ OwnB w.heap.size w' a' c' bs ∧ Ext no w w') ?_).mono fun e w' ⟨v, he, a, c, hv, hw⟩ => ⟨a, c, by rw [he, hv], hw⟩
  unfold bytes_Clone.N
  refine ⟨fun hn => ?_, fun hn w2 q X hb hq hq' => ?_⟩
  · subst hn
    have : bs = [] := by simpa [bytesV] using h.none_nil
    subst this
    exact ⟨none, 0, rfl, OwnB.nil _ _, Ext.refl _ _⟩
  · have hO : OwnB w.heap.size w2 (some (blk q)) 0 [] := ⟨owns_of_blk hb rfl (Nat.zero_le _), fun ad ha => by cases ha; exact ⟨hq, hq'⟩⟩
    obtain ⟨a', c', w', hr, hO', hx⟩ := hO.append (t := 24) (ty := 24) Try.underlying24 X.size (xc := c) (h.no X) (by simp; omega)
    rw [List.nil_append] at hr hO'
    exact ⟨a', _, c', w', hr, a', c', rfl, hO', X.then hx fun b hb => .inr hb⟩
theorem SumO (h : POrc w o k S) (ok : Tags w o) (hok : S.ok) (hlen : S.used.length < 1000000) {e : Ent} (hf : entRight e = true → e.fit) {ba : Option Addr} {bc : Nat} (hb : RowAt w ba (bytesV e.body)) :
    Calls Try.prog 51 #[.pointer (some (blk k)), entV e ba bc] w (Gs (fun j => j = k) w o (.tuple #[u64V (sumE S e).1.1, .int .i64 (sumE S e).1.2]) fun w' o' => POrc w' o' k (sumE S e).2) := by
  refine (entry_Sum.go (some (blk k)) e.w e.i e.pv e.t e.tw e.ep ba e.body.length bc e.sg (R := fun v w' => ∃ o', v = (.tuple #[u64V (sumE S e).1.1, .int .i64 (sumE S e).1.2]) ∧ Step (fun j => j = k) w o w' o' ∧ POrc w' o' k (sumE S e).2) ?_).mono fun x w' ⟨v, he, o', hv, hw⟩ => ⟨o', by rw [he, hv], hw⟩
  unfold entry_Sum.N
  intro w10 X10
  have s10 := Step.of_no X10 ok
  refine (EBytesK_spec hf (hb.no X10)).mono fun x w15 ⟨a, c, he, hO, X⟩ => ⟨_, _, _, _, he, ?_⟩
  have s15 := Step.of_no X s10.ok
  have s := s10.trans s15
  have h15 := h.step s id
  unfold bytesK sumE at *
  by_cases hr : entRight e = true
  · rw [if_pos hr] at hO ⊢
    rw [if_pos hr]
    refine ⟨fun h => absurd rfl h, fun _ => ⟨fun h => (by cases h), fun _ => ?_⟩⟩
    refine (HashO h15 s.ok hok hlen (OwnB.tight hO (Nat.le_refl _))).mono fun x w20 ⟨o20, he, s20, h20⟩ => ⟨_, he, o20, rfl, s.none.trans s20, h20⟩
  · rw [if_neg hr]
    rw [if_neg hr]
    exact ⟨fun _ => ⟨_, rfl, s.none, h15⟩, fun h => absurd h (by decide)⟩
theorem SignE (h : POrc w o k S) (ok : Tags w o) (hok : S.ok) (hlen : S.used.length < 1000000) (s : Int) {e : Ent} (hf : entRight e = true → e.fit) {ba : Option Addr} {bc : Nat} (hb : Row w o ba (bytesV e.body)) :
    Calls Try.prog 40 #[.pointer (some (blk k)), .int .u64 s, entV e ba bc] w (fun x w' => ∃ o' a' c', x = .returned (.tuple #[entV (signE S s e).1.1 a' c', .int .i64 (signE S s e).1.2]) ∧ Step (fun j => j = k) w o w' o' ∧ POrc w' o' k (signE S s e).2 ∧ Row w' o' a' (bytesV (signE S s e).1.1.body) ∧ (signE S s e).1.1.body.length ≤ c') := by
  refine (entry_Sign.go (some (blk k)) s e.w e.i e.pv e.t e.tw e.ep ba e.body.length bc e.sg (R := fun v w' => ∃ o' a' c', v = (.tuple #[entV (signE S s e).1.1 a' c', .int .i64 (signE S s e).1.2]) ∧ Step (fun j => j = k) w o w' o' ∧ POrc w' o' k (signE S s e).2 ∧ Row w' o' a' (bytesV (signE S s e).1.1.body) ∧ (signE S s e).1.1.body.length ≤ c') ?_).mono fun x w' ⟨v, he, o', a', c', hv, hw⟩ => ⟨o', a', c', by rw [he, hv], hw⟩
  unfold entry_Sign.N
  intro w12 p13 p14 X12 hp
  obtain ⟨hp1, hp2⟩ := hp.two
  obtain ⟨o12, s12, t13, t14⟩ := Step.priv2 X12 hp ok
  have hkl := h.lt
  refine (TextK_spec hf (hb.step s12).1).mono fun x w18 ⟨a, c, he, hO, X⟩ => ⟨_, _, _, _, he, X.kept, ?_⟩
  have s18' := Step.of_no X s12.ok
  have s18 := s12.trans s18'
  have t13 : grow w12 o12 p13 = some p13 := (s18'.own hp1.2).trans t13
  have t14 : grow w12 o12 p14 = some p14 := (s18'.own hp2.2).trans t14
  have h18 := h.step s18 id
  have l18 := X.size
  unfold textK signE at *
  by_cases hr : entRight e = true
  · rw [if_pos hr] at hO ⊢
    rw [if_pos hr]
    refine ⟨fun h => absurd rfl h, fun _ => ?_⟩
    refine (SignO h18 s18.ok hok hlen s (OwnB.tight hO (Nat.le_refl _))).mono fun x w31 ⟨o31, he, s31', h31⟩ => ⟨_, _, he, s31'.keep2 t13 (by omega) t14 (by omega), ?_⟩
    have s31 := s18.none.trans s31'
    have t13 := (s31'.own (by omega)).trans t13
    have t14 := (s31'.own (by omega)).trans t14
    have l31 := s31'.size
    cases hs : (signOf S s (textL e)).1.2
    · simp only [if_false, Bool.false_eq_true]
      refine ⟨fun _ w41 X41 => ?_, fun h => absurd h (by decide)⟩
      obtain ⟨o41, s41⟩ := Step.store2 X41 s31.ok t14 t13
      exact ⟨o41, none, 0, rfl, s31.trans' s41 fun j hj => .inr (by omega), h31.step s41 (by omega), Row.nil _ _ _, Nat.le_refl _⟩
    · simp only [if_true]
      refine ⟨fun h => absurd rfl h, fun _ w32 X32 => ?_⟩
      obtain ⟨o32, s32'⟩ := Step.store1 X32 s31.ok t13
      have s32 := s31.trans' s32' fun j hj => .inr (by omega)
      have hbl := ((entRight_iff _).1 hr).2.2.2.2.2.2.2.2.2.1
      have t13 := (s32'.own (by omega)).trans t13
      have t14 := (s32'.own (by omega)).trans t14
      have l32 := s32'.size
      refine (bClone_spec (hb.step s32).1 (by omega)).mono fun x w44 ⟨ca, cc, he, hO, X44⟩ => ⟨_, _, _, he, X44.kept, fun w53 X53 => ?_⟩
      have s44' := Step.of_no X44 s32.ok
      have s44 := s32.trans s44'.none
      have t13 := (s44'.own (by omega)).trans t13
      have t14 := (s44'.own (by omega)).trans t14
      obtain ⟨o53, s53⟩ := Step.store2 X53 s44.ok t14 t13
      exact ⟨o53, ca, cc, rfl, s44.trans' s53 fun j hj => .inr (by omega), ((h31.step s32' (by omega)).step s44' id).step s53 (by omega), (OwnB.tight hO (Nat.le_refl _)).step s53, hO.le⟩
  · rw [if_neg hr]
    rw [if_neg hr]
    refine ⟨fun _ w27 X27 => ?_, fun h => absurd h (by decide)⟩
    obtain ⟨o27, s27⟩ := Step.store1 X27 s18.ok t14
    exact ⟨o27, none, 0, rfl, s18.none.trans' s27 fun j hj => .inr (by omega), h18.step s27 (by omega), Row.nil _ _ _, Nat.le_refl _⟩
theorem HoldsO (h : POrc w o k S) (ok : Tags w o) (p : Int) {e : Ent} (hf : entRight e = true → e.fit) {ba : Option Addr} {bc : Nat} (hb : RowAt w ba (bytesV e.body)) :
    Calls Try.prog 67 #[.pointer (some (blk k)), .int .u64 p, entV e ba bc] w (Ret (.bool (holdsE S p e)) fun w' => Ext no w w') := by
  refine entry_Holds.run (some (blk k)) p e.w e.i e.pv e.t e.tw e.ep ba e.body.length bc e.sg ?_
  unfold entry_Holds.N
  intro w11 p12 X11 hp
  refine (TextK_spec hf (hb.no X11)).mono fun x w16 ⟨a, c, he, hO, X⟩ => ⟨_, _, _, _, he, X.kept, ?_⟩
  have s := (Step.of_no X11 ok).trans (Step.of_no X (Step.of_no X11 ok).ok)
  unfold textK holdsE at *
  by_cases hr : entRight e = true
  · rw [if_pos hr] at hO ⊢
    rw [hr, Bool.true_and]
    refine ⟨fun _ => ?_, fun h => absurd rfl h⟩
    exact (VerifyO (h.step s id) s.ok p e.sg (OwnB.tight hO (Nat.le_refl _))).mono fun x w20 ⟨he, X20⟩ => ⟨_, he, rfl, (X11.trans X).trans X20⟩
  · rw [if_neg hr]
    rw [show entRight e = false by simpa using hr, Bool.false_and]
    exact ⟨fun h => absurd h (by decide), fun _ => ⟨rfl, X11.trans X⟩⟩
end
end Go.Proofs.Ytnppbflccbpoeaa

/- A function's own blocks, each its own owner. -/
set_option linter.unusedSimpArgs false
set_option linter.unusedVariables false
set_option linter.unusedSectionVars false
namespace Go.Mx
section
variable {K K1 : Nat → Prop} {w w1 w' : World} {o o1 o' : Own} {p q j : Nat}
def Mine (L : List Nat) (w : World) (o : Own) : Prop := ∀ p ∈ L, p < w.heap.size ∧ o p = some p
theorem Mine.nil : Mine [] w o := fun p hp => by simp at hp
theorem Mine.step {L : List Nat} (h : Mine L w o) (s : Step K w o w' o') : Mine L w' o' := fun p hp => ⟨Nat.lt_of_lt_of_le (h p hp).1 s.size, by rw [s.own (h p hp).1]; exact (h p hp).2⟩
theorem Mine.keep {L : List Nat} (h : Mine L w o) (s : Step K w o w' o') (hk : ∀ p ∈ L, ¬ K p) : Keep L w w' := s.keep fun p hp _ k hk' => by
  rw [(h p hp).2] at hk'; cases hk'; exact hk p hp
theorem Mine.sub {L M : List Nat} (h : Mine L w o) (k : ∀ p ∈ M, p ∈ L) : Mine M w o := fun p hp => h p (k p hp)
theorem Mine.app {L M : List Nat} (h : Mine L w o) (k : Mine M w o) : Mine (L ++ M) w o := fun p hp => (List.mem_append.1 hp).elim (h p) (k p)
theorem Mine.lt {L : List Nat} (h : Mine L w o) {p : Nat} (hp : p ∈ L) : p < w.heap.size := (h p hp).1
def tags (w : World) (o : Own) (L : List Nat) : Own := fun b => if b < w.heap.size then o b else if b ∈ L then some b else none
theorem Step.priv {L : List Nat} (h : Ext no w w') (hp : Priv w w' L) (ok : Tags w o) : Step no w o w' (tags w o L) ∧ Mine L w' (tags w o L) := by
  refine ⟨⟨h.mono fun _ h _ => h.elim, fun b hb => if_pos hb, ok, fun b j hb hj => ?_⟩, fun p hq => ⟨(hp p hq).2, ?_⟩⟩
  · unfold tags at hj
    split at hj
    · rename_i hl; exact Nat.lt_of_lt_of_le (ok b j hl hj) h.size
    · split at hj
      · cases hj; exact hb
      · cases hj
  · unfold tags
    rw [if_neg (by have := (hp p hq).1; omega), if_pos hq]
/-- stores into blocks of one's own. -/
theorem Step.stores {L : List Nat} {m : Nat → Prop} (h : Ext m w w') (ok : Tags w o) (hL : Mine L w o) (hm : ∀ b, m b → b ∈ L) : Step (fun j => j ∈ L) w o w' (grow w o) :=
  Step.of_exts h ok fun b hb _ => ⟨b, (hL b (hm b hb)).2, hm b hb⟩
end
end Go.Mx

/- Entries in a row, and where their bytes lie. -/
set_option linter.unusedVariables false
set_option linter.unusedSimpArgs false
set_option maxRecDepth 20000
namespace Go.Proofs.Ytnppbflccbpoeaa
open Go Go.Mx Go.Proofs
/-- an entry, and where its bytes lie. -/
structure PE where
  e : Ent
  a : Option Addr
  c : Nat
def PE.C (x : PE) : List Value := entC x.e x.a x.c
def PE.ok (w : World) (o : Own) (x : PE) : Prop := Row w o x.a (bytesV x.e.body) ∧ x.e.body.length ≤ x.c ∧ x.e.fit
def PE.Cs (l : List PE) : List Value := l.flatMap PE.C
theorem PE.len (x : PE) : x.C.length = 8 := rfl
theorem PE.Cs_get : ∀ {l : List PE} {i : Nat} {x : PE}, l[i]? = some x → ∀ j, j < 8 → (PE.Cs l)[i * 8 + j]? = x.C[j]?
  | [], i, x, hi, j, hj => by simp at hi
  | a :: r, 0, x, hi, j, hj => by
    simp only [List.getElem?_cons_zero, Option.some.injEq] at hi
    subst hi
    simp only [PE.Cs, List.flatMap_cons, Nat.zero_mul, Nat.zero_add]
    rw [List.getElem?_append_left (by rw [PE.len]; omega)]
  | a :: r, i + 1, x, hi, j, hj => by
    simp only [List.getElem?_cons_succ] at hi
    have := PE.Cs_get hi j hj
    simp only [PE.Cs, List.flatMap_cons] at this ⊢
    rw [List.getElem?_append_right (by rw [PE.len]; omega), show (i + 1) * 8 + j - a.C.length = i * 8 + j by rw [PE.len]; omega]
    exact this
theorem PE.one (x : PE) : ∀ u ∈ x.C, u.oneCell' = true := fun u hu => by
  simp only [PE.C, entC, List.mem_cons, List.not_mem_nil, or_false] at hu
  rcases hu with rfl | rfl | rfl | rfl | rfl | rfl | rfl | rfl <;> rfl
theorem PE.ok.step {w w' : World} {o o' : Own} {K : Nat → Prop} {x : PE} (h : x.ok w o) (s : Step K w o w' o') : x.ok w' o' := ⟨h.1.step s, h.2⟩
theorem PE.loads {w : World} {la : Option Addr} {ad : Addr} {l : List PE} (hr : RowAt w la (PE.Cs l)) (ha : la = some ad) {i : Nat} {x : PE} (hi : l[i]? = some x) : cellsAt w (ad.add (i * 8)) x.C 0 := by
  subst ha
  have h : ∀ j v, x.C[j]? = some v → w.cell? ((ad.add (i * 8)).add j) = some v := fun j v hv => by
    have hj : j < 8 := by have := (List.getElem?_eq_some_iff.1 hv).1; exact this
    rw [add_add]
    exact hr.at_ ((PE.Cs_get hi j hj).trans hv)
  exact ⟨h 0 _ rfl, h 1 _ rfl, h 2 _ rfl, h 3 _ rfl, h 4 _ rfl, h 5 _ rfl, h 6 _ rfl, h 7 _ rfl, trivial⟩
theorem PE.cell {w : World} {la : Option Addr} {ad : Addr} {l : List PE} (hr : RowAt w la (PE.Cs l)) (ha : la = some ad) {i : Nat} {x : PE} (hi : l[i]? = some x) {j : Nat} {v : Value} (hv : x.C[j]? = some v) : w.cell? ((ad.add (i * 8)).add j) = some v := by
  subst ha
  have hj : j < 8 := by have := (List.getElem?_eq_some_iff.1 hv).1; exact this
  rw [add_add]
  exact hr.at_ ((PE.Cs_get hi j hj).trans hv)
end Go.Proofs.Ytnppbflccbpoeaa

/- Chain: predicates. -/
set_option linter.unusedVariables false
set_option linter.unusedSimpArgs false
set_option maxRecDepth 20000
set_option maxHeartbeats 2000000
namespace Go.Proofs.Ytnppbflccbpoeaa
open Go Go.Mx Go.Proofs
open W (OwnB GivesW numR countR doneR zig unzig intR)
/-- chain.New -/
def chain_New.M (o1 : Option Addr) (wv2 : Int) (publicv3 : Int) (R : Value → World → Prop) (w : World) : Prop :=
  bif decide (wv2 < 0) then (
  R (.tuple #[.pointer none, .int .i64 1]) w) else (
  bif decide (wv2 ≥ 8) then (
  R (.tuple #[.pointer none, .int .i64 1]) w) else (
  bif Option.isNone o1 then (
  R (.tuple #[.pointer none, .int .i64 23]) w) else (
  thenW (w.alloc (.cells #[.pointer o1, .int .i64 wv2, .int .u64 publicv3, .slice none 0 0, .int .u64 0] 90)) fun ww4 =>
  R (.tuple #[.pointer (some (blk w.heap.size)), .int .i64 0]) ww4)))

theorem chain_New.eq (o1 : Option Addr) (wv2 : Int) (publicv3 : Int) (R : Value → World → Prop) (w : World) : mfunc Try.prog [] 13 [.pointer o1, .int .i64 wv2, .int .u64 publicv3] R w = chain_New.M o1 wv2 publicv3 R w := by kernel_rfl
theorem chain_New.ok (o1 : Option Addr) (wv2 : Int) (publicv3 : Int) {R : Value → World → Prop} {w : World} (h : chain_New.M o1 wv2 publicv3 R w) : Calls Try.prog 13 #[.pointer o1, .int .i64 wv2, .int .u64 publicv3] w fun e w' => ∃ v, e = .returned v ∧ R v w' :=
  mfunc_ok follows (H := []) (args := [.pointer o1, .int .i64 wv2, .int .u64 publicv3]) (by rw [chain_New.eq]; exact h)

def chain_New.N (o1 : Option Addr) (wv2 : Int) (publicv3 : Int) (R : Value → World → Prop) (w : World) : Prop :=
  (wv2 < 0 →
    R (.tuple #[.pointer none, .int .i64 1]) w) ∧
  ((0 : Int) ≤ wv2 →
    (wv2 ≥ 8 →
      R (.tuple #[.pointer none, .int .i64 1]) w) ∧
    (wv2 < 8 →
      (o1 = none →
        R (.tuple #[.pointer none, .int .i64 23]) w) ∧
      (o1 ≠ none →
        ∀ (ww7 : World) (q8 : Nat), Ext no w ww7 → Blk ww7 q8 90 [.pointer o1, .int .i64 wv2, .int .u64 publicv3, .slice none 0 0, .int .u64 0] → w.heap.size ≤ q8 → q8 < ww7.heap.size →
        R (.tuple #[.pointer (some (blk q8)), .int .i64 0]) ww7)))

theorem chain_New.up (o1 : Option Addr) (wv2 : Int) (publicv3 : Int) {R : Value → World → Prop} {w : World} (h : chain_New.N o1 wv2 publicv3 R w) : chain_New.M o1 wv2 publicv3 R w := by
  unfold chain_New.M
  unfold chain_New.N at h
  refine bif_of (fun c4 => ?_) (fun c4 => ?_)
  · have h := h.1 (of_decide_eq_true c4)
    exact h
  · have h := h.2 (Int.not_lt.1 (of_decide_eq_false c4))
    refine bif_of (fun c5 => ?_) (fun c5 => ?_)
    · have h := h.1 (of_decide_eq_true c5)
      exact h
    · have h := h.2 (Int.not_le.1 (of_decide_eq_false c5))
      refine bif_of (fun c6 => ?_) (fun c6 => ?_)
      · have h := h.1 (isNone_t c6)
        exact h
      · have h := h.2 (isNone_f c6)
        refine thenW_in fun ww7 e7 => ?_
        have h := h ww7 w.heap.size ((Ext.refl no w).x_alloc e7) (Blk.of_new e7) ((Ext.refl no w)).size (size_lt_alloc e7)
        exact h

theorem chain_New.go (o1 : Option Addr) (wv2 : Int) (publicv3 : Int) {R : Value → World → Prop} {w : World} (h : chain_New.N o1 wv2 publicv3 R w) : Calls Try.prog 13 #[.pointer o1, .int .i64 wv2, .int .u64 publicv3] w fun e w' => ∃ v, e = .returned v ∧ R v w' := chain_New.ok o1 wv2 publicv3 (chain_New.up o1 wv2 publicv3 h)
theorem chain_New.run (o1 : Option Addr) (wv2 : Int) (publicv3 : Int) {V : Value} {Q : World → Prop} {w : World} (h : chain_New.N o1 wv2 publicv3 (fun v w' => v = V ∧ Q w') w) : Calls Try.prog 13 #[.pointer o1, .int .i64 wv2, .int .u64 publicv3] w (Ret V Q) := (chain_New.go o1 wv2 publicv3 h).mono fun e w' ⟨v, he, hv, hq⟩ => ⟨by rw [he, hv], hq⟩

/-- chain.own -/
def chain_own.M (eWriter1 : Int) (eIndex2 : Int) (ePrev3 : Int) (eAtT4 : Int) (eAtW5 : Int) (eEpoch6 : Int) (eBody7a : Option Addr) (eBody7n : Nat) (eBody7c : Nat) (eSig8 : Int) (R : Value → World → Prop) (w : World) : Prop :=
  thenW (w.alloc (.cells #[.int .i64 eWriter1, .int .i64 eIndex2, .int .u64 ePrev3, .int .i64 eAtT4, .int .i64 eAtW5, .int .i64 eEpoch6, .slice eBody7a eBody7n eBody7c, .int .u64 eSig8] 39)) fun ww9 =>
  thenW (ww9.alloc (.cells #[.int .i64 0, .int .i64 0, .int .u64 0, .int .i64 0, .int .i64 0, .int .i64 0, .slice none 0 0, .int .u64 0] 39)) fun ww10 =>
  ∃ (Body11a : Option Addr) (Body11n : Nat) (Body11c : Nat), ww10.cell? ((blk w.heap.size).add 6) = some (.slice Body11a Body11n Body11c) ∧
  Calls Try.prog 60 #[.slice Body11a Body11n Body11c] ww10 fun ee13 ww14 => ∃ (clone12a : Option Addr) (clone12n : Nat) (clone12c : Nat), ee13 = .returned (.slice clone12a clone12n clone12c) ∧
  canStore ww14 (((blk w.heap.size).add 6).add 0) ∧
  thenW (ww14.setCell (((blk w.heap.size).add 6).add 0) (.slice clone12a clone12n clone12c)) fun ww15 =>
  ∃ (xWriter16 : Int) (xIndex17 : Int) (xPrev18 : Int) (xAtT19 : Int) (xAtW20 : Int) (xEpoch21 : Int) (xBody22a : Option Addr) (xBody22n : Nat) (xBody22c : Nat) (xSig23 : Int), cellsAt ww15 (blk w.heap.size) [.int .i64 xWriter16, .int .i64 xIndex17, .int .u64 xPrev18, .int .i64 xAtT19, .int .i64 xAtW20, .int .i64 xEpoch21, .slice xBody22a xBody22n xBody22c, .int .u64 xSig23] 0 ∧
  canStore ww15 ((blk ww9.heap.size).add 0) ∧
  thenW (ww15.setCell ((blk ww9.heap.size).add 0) (.int .i64 xWriter16)) fun ww24 =>
  canStore ww24 ((blk ww9.heap.size).add 1) ∧
  thenW (ww24.setCell ((blk ww9.heap.size).add 1) (.int .i64 xIndex17)) fun ww25 =>
  canStore ww25 ((blk ww9.heap.size).add 2) ∧
  thenW (ww25.setCell ((blk ww9.heap.size).add 2) (.int .u64 xPrev18)) fun ww26 =>
  canStore ww26 ((blk ww9.heap.size).add 3) ∧
  thenW (ww26.setCell ((blk ww9.heap.size).add 3) (.int .i64 xAtT19)) fun ww27 =>
  canStore ww27 ((blk ww9.heap.size).add 4) ∧
  thenW (ww27.setCell ((blk ww9.heap.size).add 4) (.int .i64 xAtW20)) fun ww28 =>
  canStore ww28 ((blk ww9.heap.size).add 5) ∧
  thenW (ww28.setCell ((blk ww9.heap.size).add 5) (.int .i64 xEpoch21)) fun ww29 =>
  canStore ww29 ((blk ww9.heap.size).add 6) ∧
  thenW (ww29.setCell ((blk ww9.heap.size).add 6) (.slice xBody22a xBody22n xBody22c)) fun ww30 =>
  canStore ww30 ((blk ww9.heap.size).add 7) ∧
  thenW (ww30.setCell ((blk ww9.heap.size).add 7) (.int .u64 xSig23)) fun ww31 =>
  ∃ (resWriter32 : Int) (resIndex33 : Int) (resPrev34 : Int) (resAtT35 : Int) (resAtW36 : Int) (resEpoch37 : Int) (resBody38a : Option Addr) (resBody38n : Nat) (resBody38c : Nat) (resSig39 : Int), cellsAt ww31 (blk ww9.heap.size) [.int .i64 resWriter32, .int .i64 resIndex33, .int .u64 resPrev34, .int .i64 resAtT35, .int .i64 resAtW36, .int .i64 resEpoch37, .slice resBody38a resBody38n resBody38c, .int .u64 resSig39] 0 ∧
  R (.agg #[.int .i64 resWriter32, .int .i64 resIndex33, .int .u64 resPrev34, .int .i64 resAtT35, .int .i64 resAtW36, .int .i64 resEpoch37, .slice resBody38a resBody38n resBody38c, .int .u64 resSig39]) ww31

theorem chain_own.eq (eWriter1 : Int) (eIndex2 : Int) (ePrev3 : Int) (eAtT4 : Int) (eAtW5 : Int) (eEpoch6 : Int) (eBody7a : Option Addr) (eBody7n : Nat) (eBody7c : Nat) (eSig8 : Int) (R : Value → World → Prop) (w : World) : mfunc Try.prog [] 42 [.agg #[.int .i64 eWriter1, .int .i64 eIndex2, .int .u64 ePrev3, .int .i64 eAtT4, .int .i64 eAtW5, .int .i64 eEpoch6, .slice eBody7a eBody7n eBody7c, .int .u64 eSig8]] R w = chain_own.M eWriter1 eIndex2 ePrev3 eAtT4 eAtW5 eEpoch6 eBody7a eBody7n eBody7c eSig8 R w := by kernel_rfl
theorem chain_own.ok (eWriter1 : Int) (eIndex2 : Int) (ePrev3 : Int) (eAtT4 : Int) (eAtW5 : Int) (eEpoch6 : Int) (eBody7a : Option Addr) (eBody7n : Nat) (eBody7c : Nat) (eSig8 : Int) {R : Value → World → Prop} {w : World} (h : chain_own.M eWriter1 eIndex2 ePrev3 eAtT4 eAtW5 eEpoch6 eBody7a eBody7n eBody7c eSig8 R w) : Calls Try.prog 42 #[.agg #[.int .i64 eWriter1, .int .i64 eIndex2, .int .u64 ePrev3, .int .i64 eAtT4, .int .i64 eAtW5, .int .i64 eEpoch6, .slice eBody7a eBody7n eBody7c, .int .u64 eSig8]] w fun e w' => ∃ v, e = .returned v ∧ R v w' :=
  mfunc_ok follows (H := []) (args := [.agg #[.int .i64 eWriter1, .int .i64 eIndex2, .int .u64 ePrev3, .int .i64 eAtT4, .int .i64 eAtW5, .int .i64 eEpoch6, .slice eBody7a eBody7n eBody7c, .int .u64 eSig8]]) (by rw [chain_own.eq]; exact h)

def chain_own.N (eWriter1 : Int) (eIndex2 : Int) (ePrev3 : Int) (eAtT4 : Int) (eAtW5 : Int) (eEpoch6 : Int) (eBody7a : Option Addr) (eBody7n : Nat) (eBody7c : Nat) (eSig8 : Int) (R : Value → World → Prop) (w : World) : Prop :=
  ∀ (ww10 : World) (p11 : Nat) (p12 : Nat), Ext no w ww10 → Priv w ww10 [p11, p12] →
  Calls Try.prog 60 #[.slice eBody7a eBody7n eBody7c] ww10 fun ee14 ww15 => ∃ (clone13a : Option Addr) (clone13n : Nat) (clone13c : Nat), ee14 = .returned (.slice clone13a clone13n clone13c) ∧
  Keep [p11, p12] ww10 ww15 ∧
  ∀ (ww24 : World), Ext (fun b => b = p12 ∨ b = p11) ww15 ww24 →
  R (.agg #[.int .i64 eWriter1, .int .i64 eIndex2, .int .u64 ePrev3, .int .i64 eAtT4, .int .i64 eAtW5, .int .i64 eEpoch6, .slice clone13a clone13n clone13c, .int .u64 eSig8]) ww24

theorem chain_own.up (eWriter1 : Int) (eIndex2 : Int) (ePrev3 : Int) (eAtT4 : Int) (eAtW5 : Int) (eEpoch6 : Int) (eBody7a : Option Addr) (eBody7n : Nat) (eBody7c : Nat) (eSig8 : Int) {R : Value → World → Prop} {w : World} (h : chain_own.N eWriter1 eIndex2 ePrev3 eAtT4 eAtW5 eEpoch6 eBody7a eBody7n eBody7c eSig8 R w) : chain_own.M eWriter1 eIndex2 ePrev3 eAtT4 eAtW5 eEpoch6 eBody7a eBody7n eBody7c eSig8 R w := by
  unfold chain_own.M
  unfold chain_own.N at h
  refine thenW_in fun ww9 e9 => ?_
  have hb1 := Blk.of_new e9
  have hg1 := ((Ext.refl no w)).size
  have hx9 := (Ext.refl no w).x_alloc e9
  refine thenW_in fun ww10 e10 => ?_
  have hb2 := Blk.of_new e10
  have hg2 := (hx9).size
  have hb1_2 := Nat.ne_of_lt hb1.lt
  have hb1 := hb1.x_alloc e10
  have hx10 := hx9.x_alloc e10
  refine ⟨eBody7a, eBody7n, eBody7c, hb1.celli 6 rfl rfl, ?_⟩
  have h := h ww10 (w.heap.size) (ww9.heap.size) hx10 (Priv.cons hg1 hb1.lt (Priv.cons hg2 hb2.lt Priv.nil))
  refine h.mono fun ee14 ww15 h => ?_
  obtain ⟨clone13a, clone13n, clone13c, he, hk, h⟩ := h
  refine ⟨clone13a, clone13n, clone13c, he, ?_⟩
  have hb1 := hk.blk hb1 (by simp)
  have hb2 := hk.blk hb2 (by simp)
  have hm16 : Ext (fun b => b = w.heap.size) ww15 ww15 := ((Ext.refl no ww15)).none
  refine ⟨hb1.cani 6 rfl rfl, thenW_in fun ww16 e16 => ?_⟩
  have hx16 := hm16.x_set (q := w.heap.size) (i := 6) rfl (.inl rfl) e16
  have hb1 : Blk ww16 w.heap.size 39 [.int .i64 eWriter1, .int .i64 eIndex2, .int .u64 ePrev3, .int .i64 eAtT4, .int .i64 eAtW5, .int .i64 eEpoch6, .slice clone13a clone13n clone13c, .int .u64 eSig8] := hb1.seti 6 rfl e16
  have hb2 := hb2.oth (q := w.heap.size) (i := 6) rfl (Ne.symm hb1_2) e16
  refine ⟨eWriter1, eIndex2, ePrev3, eAtT4, eAtW5, eEpoch6, clone13a, clone13n, clone13c, eSig8, ⟨hb1.celli 0 rfl rfl, hb1.celli 1 rfl rfl, hb1.celli 2 rfl rfl, hb1.celli 3 rfl rfl, hb1.celli 4 rfl rfl, hb1.celli 5 rfl rfl, hb1.celli 6 rfl rfl, hb1.celli 7 rfl rfl, trivial⟩, ?_⟩
  have hm24 : Ext (fun b => b = ww9.heap.size ∨ b = w.heap.size) ww15 ww16 := (hx16).mono fun _ h _ => .inr h
  refine ⟨hb2.cani 0 rfl rfl, thenW_in fun ww17 e17 => ?_⟩
  have hx17 := hm24.x_set (q := ww9.heap.size) (i := 0) rfl (.inl (.inl rfl)) e17
  have hb2 : Blk ww17 ww9.heap.size 39 [.int .i64 eWriter1, .int .i64 0, .int .u64 0, .int .i64 0, .int .i64 0, .int .i64 0, .slice none 0 0, .int .u64 0] := hb2.seti 0 rfl e17
  refine ⟨hb2.cani 1 rfl rfl, thenW_in fun ww18 e18 => ?_⟩
  have hx18 := hx17.x_set (q := ww9.heap.size) (i := 1) rfl (.inl (.inl rfl)) e18
  have hb2 : Blk ww18 ww9.heap.size 39 [.int .i64 eWriter1, .int .i64 eIndex2, .int .u64 0, .int .i64 0, .int .i64 0, .int .i64 0, .slice none 0 0, .int .u64 0] := hb2.seti 1 rfl e18
  refine ⟨hb2.cani 2 rfl rfl, thenW_in fun ww19 e19 => ?_⟩
  have hx19 := hx18.x_set (q := ww9.heap.size) (i := 2) rfl (.inl (.inl rfl)) e19
  have hb2 : Blk ww19 ww9.heap.size 39 [.int .i64 eWriter1, .int .i64 eIndex2, .int .u64 ePrev3, .int .i64 0, .int .i64 0, .int .i64 0, .slice none 0 0, .int .u64 0] := hb2.seti 2 rfl e19
  refine ⟨hb2.cani 3 rfl rfl, thenW_in fun ww20 e20 => ?_⟩
  have hx20 := hx19.x_set (q := ww9.heap.size) (i := 3) rfl (.inl (.inl rfl)) e20
  have hb2 : Blk ww20 ww9.heap.size 39 [.int .i64 eWriter1, .int .i64 eIndex2, .int .u64 ePrev3, .int .i64 eAtT4, .int .i64 0, .int .i64 0, .slice none 0 0, .int .u64 0] := hb2.seti 3 rfl e20
  refine ⟨hb2.cani 4 rfl rfl, thenW_in fun ww21 e21 => ?_⟩
  have hx21 := hx20.x_set (q := ww9.heap.size) (i := 4) rfl (.inl (.inl rfl)) e21
  have hb2 : Blk ww21 ww9.heap.size 39 [.int .i64 eWriter1, .int .i64 eIndex2, .int .u64 ePrev3, .int .i64 eAtT4, .int .i64 eAtW5, .int .i64 0, .slice none 0 0, .int .u64 0] := hb2.seti 4 rfl e21
  refine ⟨hb2.cani 5 rfl rfl, thenW_in fun ww22 e22 => ?_⟩
  have hx22 := hx21.x_set (q := ww9.heap.size) (i := 5) rfl (.inl (.inl rfl)) e22
  have hb2 : Blk ww22 ww9.heap.size 39 [.int .i64 eWriter1, .int .i64 eIndex2, .int .u64 ePrev3, .int .i64 eAtT4, .int .i64 eAtW5, .int .i64 eEpoch6, .slice none 0 0, .int .u64 0] := hb2.seti 5 rfl e22
  refine ⟨hb2.cani 6 rfl rfl, thenW_in fun ww23 e23 => ?_⟩
  have hx23 := hx22.x_set (q := ww9.heap.size) (i := 6) rfl (.inl (.inl rfl)) e23
  have hb2 : Blk ww23 ww9.heap.size 39 [.int .i64 eWriter1, .int .i64 eIndex2, .int .u64 ePrev3, .int .i64 eAtT4, .int .i64 eAtW5, .int .i64 eEpoch6, .slice clone13a clone13n clone13c, .int .u64 0] := hb2.seti 6 rfl e23
  refine ⟨hb2.cani 7 rfl rfl, thenW_in fun ww24 e24 => ?_⟩
  have hx24 := hx23.x_set (q := ww9.heap.size) (i := 7) rfl (.inl (.inl rfl)) e24
  have hb2 : Blk ww24 ww9.heap.size 39 [.int .i64 eWriter1, .int .i64 eIndex2, .int .u64 ePrev3, .int .i64 eAtT4, .int .i64 eAtW5, .int .i64 eEpoch6, .slice clone13a clone13n clone13c, .int .u64 eSig8] := hb2.seti 7 rfl e24
  refine ⟨eWriter1, eIndex2, ePrev3, eAtT4, eAtW5, eEpoch6, clone13a, clone13n, clone13c, eSig8, ⟨hb2.celli 0 rfl rfl, hb2.celli 1 rfl rfl, hb2.celli 2 rfl rfl, hb2.celli 3 rfl rfl, hb2.celli 4 rfl rfl, hb2.celli 5 rfl rfl, hb2.celli 6 rfl rfl, hb2.celli 7 rfl rfl, trivial⟩, ?_⟩
  have h := h ww24 hx24
  exact h

theorem chain_own.go (eWriter1 : Int) (eIndex2 : Int) (ePrev3 : Int) (eAtT4 : Int) (eAtW5 : Int) (eEpoch6 : Int) (eBody7a : Option Addr) (eBody7n : Nat) (eBody7c : Nat) (eSig8 : Int) {R : Value → World → Prop} {w : World} (h : chain_own.N eWriter1 eIndex2 ePrev3 eAtT4 eAtW5 eEpoch6 eBody7a eBody7n eBody7c eSig8 R w) : Calls Try.prog 42 #[.agg #[.int .i64 eWriter1, .int .i64 eIndex2, .int .u64 ePrev3, .int .i64 eAtT4, .int .i64 eAtW5, .int .i64 eEpoch6, .slice eBody7a eBody7n eBody7c, .int .u64 eSig8]] w fun e w' => ∃ v, e = .returned v ∧ R v w' := chain_own.ok eWriter1 eIndex2 ePrev3 eAtT4 eAtW5 eEpoch6 eBody7a eBody7n eBody7c eSig8 (chain_own.up eWriter1 eIndex2 ePrev3 eAtT4 eAtW5 eEpoch6 eBody7a eBody7n eBody7c eSig8 h)
theorem chain_own.run (eWriter1 : Int) (eIndex2 : Int) (ePrev3 : Int) (eAtT4 : Int) (eAtW5 : Int) (eEpoch6 : Int) (eBody7a : Option Addr) (eBody7n : Nat) (eBody7c : Nat) (eSig8 : Int) {V : Value} {Q : World → Prop} {w : World} (h : chain_own.N eWriter1 eIndex2 ePrev3 eAtT4 eAtW5 eEpoch6 eBody7a eBody7n eBody7c eSig8 (fun v w' => v = V ∧ Q w') w) : Calls Try.prog 42 #[.agg #[.int .i64 eWriter1, .int .i64 eIndex2, .int .u64 ePrev3, .int .i64 eAtT4, .int .i64 eAtW5, .int .i64 eEpoch6, .slice eBody7a eBody7n eBody7c, .int .u64 eSig8]] w (Ret V Q) := (chain_own.go eWriter1 eIndex2 ePrev3 eAtT4 eAtW5 eEpoch6 eBody7a eBody7n eBody7c eSig8 h).mono fun e w' ⟨v, he, hv, hq⟩ => ⟨by rw [he, hv], hq⟩

/-- (*chain.Log).Head -/
def chain_Log_Head.M (l1 : Option Addr) (R : Value → World → Prop) (w : World) : Prop :=
  thenW (w.alloc (.cells #[.int .i64 0, .int .i64 0, .int .u64 0] 46)) fun ww2 =>
  bif Option.isNone l1 then (
  canStore ww2 ((blk w.heap.size).add 0) ∧
  thenW (ww2.setCell ((blk w.heap.size).add 0) (.int .i64 0)) fun ww3 =>
  canStore ww3 ((blk w.heap.size).add 1) ∧
  thenW (ww3.setCell ((blk w.heap.size).add 1) (.int .i64 0)) fun ww4 =>
  canStore ww4 ((blk w.heap.size).add 2) ∧
  thenW (ww4.setCell ((blk w.heap.size).add 2) (.int .u64 0)) fun ww5 =>
  ∃ (resWriter6 : Int) (resLen7 : Int) (resSum8 : Int), cellsAt ww5 (blk w.heap.size) [.int .i64 resWriter6, .int .i64 resLen7, .int .u64 resSum8] 0 ∧
  R (.agg #[.int .i64 resWriter6, .int .i64 resLen7, .int .u64 resSum8]) ww5) else (
  thenW (ww2.drew) fun ww9 =>
  l1.elim False fun a10 =>
  ∃ (wv11 : Int), ww9.cell? (a10.add 1) = some (.int .i64 wv11) ∧
  l1.elim False fun a12 =>
  ∃ (l13a : Option Addr) (l13n : Nat) (l13c : Nat), ww9.cell? (a12.add 3) = some (.slice l13a l13n l13c) ∧
  l1.elim False fun a14 =>
  ∃ (sum15 : Int), ww9.cell? (a14.add 4) = some (.int .u64 sum15) ∧
  canStore ww9 ((blk w.heap.size).add 0) ∧
  thenW (ww9.setCell ((blk w.heap.size).add 0) (.int .i64 wv11)) fun ww16 =>
  canStore ww16 ((blk w.heap.size).add 1) ∧
  thenW (ww16.setCell ((blk w.heap.size).add 1) (.int .i64 (l13n : Int))) fun ww17 =>
  canStore ww17 ((blk w.heap.size).add 2) ∧
  thenW (ww17.setCell ((blk w.heap.size).add 2) (.int .u64 sum15)) fun ww18 =>
  ∃ (resWriter19 : Int) (resLen20 : Int) (resSum21 : Int), cellsAt ww18 (blk w.heap.size) [.int .i64 resWriter19, .int .i64 resLen20, .int .u64 resSum21] 0 ∧
  R (.agg #[.int .i64 resWriter19, .int .i64 resLen20, .int .u64 resSum21]) ww18)

theorem chain_Log_Head.eq (l1 : Option Addr) (R : Value → World → Prop) (w : World) : mfunc Try.prog [] 16 [.pointer l1] R w = chain_Log_Head.M l1 R w := by kernel_rfl
theorem chain_Log_Head.ok (l1 : Option Addr) {R : Value → World → Prop} {w : World} (h : chain_Log_Head.M l1 R w) : Calls Try.prog 16 #[.pointer l1] w fun e w' => ∃ v, e = .returned v ∧ R v w' :=
  mfunc_ok follows (H := []) (args := [.pointer l1]) (by rw [chain_Log_Head.eq]; exact h)

def chain_Log_Head.N (l1 : Option Addr) (R : Value → World → Prop) (w : World) : Prop :=
  (l1 = none →
    ∀ (ww6 : World), Ext no w ww6 →
    R (.agg #[.int .i64 0, .int .i64 0, .int .u64 0]) ww6) ∧
  (l1 ≠ none →
    ∃ a9 : Addr, l1 = some a9 ∧
    ∃ (wv11 : Int), w.cell? (a9.add 1) = some (.int .i64 wv11) ∧
    ∃ (l13a : Option Addr) (l13n : Nat) (l13c : Nat), w.cell? (a9.add 3) = some (.slice l13a l13n l13c) ∧
    ∃ (sum15 : Int), w.cell? (a9.add 4) = some (.int .u64 sum15) ∧
    ∀ (ww18 : World), Ext no w ww18 →
    R (.agg #[.int .i64 wv11, .int .i64 (l13n : Int), .int .u64 sum15]) ww18)

theorem chain_Log_Head.up (l1 : Option Addr) {R : Value → World → Prop} {w : World} (h : chain_Log_Head.N l1 R w) : chain_Log_Head.M l1 R w := by
  unfold chain_Log_Head.M
  unfold chain_Log_Head.N at h
  refine thenW_in fun ww2 e2 => ?_
  have hb1 := Blk.of_new e2
  have hg1 := ((Ext.refl no w)).size
  have hx2 := (Ext.refl no w).x_alloc e2
  refine bif_of (fun c3 => ?_) (fun c3 => ?_)
  · have h := h.1 (isNone_t c3)
    refine ⟨hb1.cani 0 rfl rfl, thenW_in fun ww4 e4 => ?_⟩
    have hx4 := hx2.x_set (q := w.heap.size) (i := 0) rfl (.inr hg1) e4
    have hb1 := hb1.seti 0 rfl e4
    refine ⟨hb1.cani 1 rfl rfl, thenW_in fun ww5 e5 => ?_⟩
    have hx5 := hx4.x_set (q := w.heap.size) (i := 1) rfl (.inr hg1) e5
    have hb1 := hb1.seti 1 rfl e5
    refine ⟨hb1.cani 2 rfl rfl, thenW_in fun ww6 e6 => ?_⟩
    have hx6 := hx5.x_set (q := w.heap.size) (i := 2) rfl (.inr hg1) e6
    have hb1 := hb1.seti 2 rfl e6
    refine ⟨0, 0, 0, ⟨hb1.celli 0 rfl rfl, hb1.celli 1 rfl rfl, hb1.celli 2 rfl rfl, trivial⟩, ?_⟩
    have h := h ww6 hx6
    exact h
  · have h := h.2 (isNone_f c3)
    refine thenW_in fun ww8 e8 => ?_
    have hx8 := hx2.x_drew e8
    have hb1 := hb1.x_drew e8
    obtain ⟨a9, ha9, h⟩ := h
    refine elim_some ha9 ?_
    obtain ⟨wv11, hc10, h⟩ := h
    refine ⟨wv11, (hx8).cell hc10 id, ?_⟩
    refine elim_some ha9 ?_
    obtain ⟨l13a, l13n, l13c, hc12, h⟩ := h
    refine ⟨l13a, l13n, l13c, (hx8).cell hc12 id, ?_⟩
    refine elim_some ha9 ?_
    obtain ⟨sum15, hc14, h⟩ := h
    refine ⟨sum15, (hx8).cell hc14 id, ?_⟩
    refine ⟨hb1.cani 0 rfl rfl, thenW_in fun ww16 e16 => ?_⟩
    have hx16 := hx8.x_set (q := w.heap.size) (i := 0) rfl (.inr hg1) e16
    have hb1 := hb1.seti 0 rfl e16
    refine ⟨hb1.cani 1 rfl rfl, thenW_in fun ww17 e17 => ?_⟩
    have hx17 := hx16.x_set (q := w.heap.size) (i := 1) rfl (.inr hg1) e17
    have hb1 := hb1.seti 1 rfl e17
    refine ⟨hb1.cani 2 rfl rfl, thenW_in fun ww18 e18 => ?_⟩
    have hx18 := hx17.x_set (q := w.heap.size) (i := 2) rfl (.inr hg1) e18
    have hb1 := hb1.seti 2 rfl e18
    refine ⟨wv11, (l13n : Int), sum15, ⟨hb1.celli 0 rfl rfl, hb1.celli 1 rfl rfl, hb1.celli 2 rfl rfl, trivial⟩, ?_⟩
    have h := h ww18 hx18
    exact h

theorem chain_Log_Head.go (l1 : Option Addr) {R : Value → World → Prop} {w : World} (h : chain_Log_Head.N l1 R w) : Calls Try.prog 16 #[.pointer l1] w fun e w' => ∃ v, e = .returned v ∧ R v w' := chain_Log_Head.ok l1 (chain_Log_Head.up l1 h)
theorem chain_Log_Head.run (l1 : Option Addr) {V : Value} {Q : World → Prop} {w : World} (h : chain_Log_Head.N l1 (fun v w' => v = V ∧ Q w') w) : Calls Try.prog 16 #[.pointer l1] w (Ret V Q) := (chain_Log_Head.go l1 h).mono fun e w' ⟨v, he, hv, hq⟩ => ⟨by rw [he, hv], hq⟩

/-- (*chain.Log).All -/
def chain_Log_All.M (l1 : Option Addr) (R : Value → World → Prop) (w : World) : Prop :=
  bif Option.isNone l1 then (
  R (.slice none 0 0) w) else (
  l1.elim False fun a2 =>
  ∃ (l3a : Option Addr) (l3n : Nat) (l3c : Nat), w.cell? (a2.add 3) = some (.slice l3a l3n l3c) ∧
  ∃ (I0 : Nat → List Value → World → Prop) (m6 : Nat), I0 m6 [.slice none 0 0, .int .i64 0] w ∧ ∀ (m7 : Nat) (ww8 : World) (outv4a : Option Addr) (outv4n : Nat) (outv4c : Nat) (t5 : Int), I0 m7 [.slice outv4a outv4n outv4c, .int .i64 t5] ww8 →
  bif decide (t5 < (l3n : Int)) then (
  l3a.elim False fun a9 =>
  0 ≤ (t5 : Int) ∧ (t5 : Int) < (l3n : Int) ∧
  ∃ (xWriter10 : Int) (xIndex11 : Int) (xPrev12 : Int) (xAtT13 : Int) (xAtW14 : Int) (xEpoch15 : Int) (xBody16a : Option Addr) (xBody16n : Nat) (xBody16c : Nat) (xSig17 : Int), cellsAt ww8 (a9.add (Int.toNat t5 * 8)) [.int .i64 xWriter10, .int .i64 xIndex11, .int .u64 xPrev12, .int .i64 xAtT13, .int .i64 xAtW14, .int .i64 xEpoch15, .slice xBody16a xBody16n xBody16c, .int .u64 xSig17] 0 ∧
  thenW (ww8.alloc (.cells #[.int .i64 0, .int .i64 0, .int .u64 0, .int .i64 0, .int .i64 0, .int .i64 0, .slice none 0 0, .int .u64 0] 39)) fun ww18 =>
  canStore ww18 ((blk ww8.heap.size).add 0) ∧
  thenW (ww18.setCell ((blk ww8.heap.size).add 0) (.int .i64 xWriter10)) fun ww19 =>
  canStore ww19 ((blk ww8.heap.size).add 1) ∧
  thenW (ww19.setCell ((blk ww8.heap.size).add 1) (.int .i64 xIndex11)) fun ww20 =>
  canStore ww20 ((blk ww8.heap.size).add 2) ∧
  thenW (ww20.setCell ((blk ww8.heap.size).add 2) (.int .u64 xPrev12)) fun ww21 =>
  canStore ww21 ((blk ww8.heap.size).add 3) ∧
  thenW (ww21.setCell ((blk ww8.heap.size).add 3) (.int .i64 xAtT13)) fun ww22 =>
  canStore ww22 ((blk ww8.heap.size).add 4) ∧
  thenW (ww22.setCell ((blk ww8.heap.size).add 4) (.int .i64 xAtW14)) fun ww23 =>
  canStore ww23 ((blk ww8.heap.size).add 5) ∧
  thenW (ww23.setCell ((blk ww8.heap.size).add 5) (.int .i64 xEpoch15)) fun ww24 =>
  canStore ww24 ((blk ww8.heap.size).add 6) ∧
  thenW (ww24.setCell ((blk ww8.heap.size).add 6) (.slice xBody16a xBody16n xBody16c)) fun ww25 =>
  canStore ww25 ((blk ww8.heap.size).add 7) ∧
  thenW (ww25.setCell ((blk ww8.heap.size).add 7) (.int .u64 xSig17)) fun ww26 =>
  ∃ (xWriter27 : Int) (xIndex28 : Int) (xPrev29 : Int) (xAtT30 : Int) (xAtW31 : Int) (xEpoch32 : Int) (xBody33a : Option Addr) (xBody33n : Nat) (xBody33c : Nat) (xSig34 : Int), cellsAt ww26 (blk ww8.heap.size) [.int .i64 xWriter27, .int .i64 xIndex28, .int .u64 xPrev29, .int .i64 xAtT30, .int .i64 xAtW31, .int .i64 xEpoch32, .slice xBody33a xBody33n xBody33c, .int .u64 xSig34] 0 ∧
  Calls Try.prog 42 #[.agg #[.int .i64 xWriter27, .int .i64 xIndex28, .int .u64 xPrev29, .int .i64 xAtT30, .int .i64 xAtW31, .int .i64 xEpoch32, .slice xBody33a xBody33n xBody33c, .int .u64 xSig34]] ww26 fun ee43 ww44 => ∃ (Writer35 : Int) (Index36 : Int) (Prev37 : Int) (AtT38 : Int) (AtW39 : Int) (Epoch40 : Int) (Body41a : Option Addr) (Body41n : Nat) (Body41c : Nat) (Sig42 : Int), ee43 = .returned (.agg #[.int .i64 Writer35, .int .i64 Index36, .int .u64 Prev37, .int .i64 AtT38, .int .i64 AtW39, .int .i64 Epoch40, .slice Body41a Body41n Body41c, .int .u64 Sig42]) ∧
  thenW (ww44.alloc (.cells #[.int .i64 Writer35, .int .i64 Index36, .int .u64 Prev37, .int .i64 AtT38, .int .i64 AtW39, .int .i64 Epoch40, .slice Body41a Body41n Body41c, .int .u64 Sig42] 39)) fun ww45 =>
  ∃ (a46a : Option Addr) (a46n : Nat) (a46c : Nat) (ww47 : World), (Builtin.append_ #[49, 49] 49 #[.slice outv4a outv4n outv4c, .slice (some (blk ww44.heap.size)) 1 1]).run Try.prog ww45 = .ok (.slice a46a a46n a46c) ww47 ∧
  ∃ m48, m48 < m7 ∧ I0 m48 [.slice a46a a46n a46c, .int .i64 (IntKind.i64.wrap (t5 + 1))] ww47) else (
  R (.slice outv4a outv4n outv4c) ww8))

theorem chain_Log_All.eq (l1 : Option Addr) (R : Value → World → Prop) (w : World) : mfunc Try.prog [(0, [10, 11], [(2, (.one .slice)), (12, (.one (.int .i64)))])] 18 [.pointer l1] R w = chain_Log_All.M l1 R w := by kernel_rfl
theorem chain_Log_All.ok (l1 : Option Addr) {R : Value → World → Prop} {w : World} (h : chain_Log_All.M l1 R w) : Calls Try.prog 18 #[.pointer l1] w fun e w' => ∃ v, e = .returned v ∧ R v w' :=
  mfunc_ok follows (H := [(0, [10, 11], [(2, (.one .slice)), (12, (.one (.int .i64)))])]) (args := [.pointer l1]) (by rw [chain_Log_All.eq]; exact h)

def chain_Log_All.N (l1 : Option Addr) (R : Value → World → Prop) (w : World) : Prop :=
  (l1 = none →
    R (.slice none 0 0) w) ∧
  (l1 ≠ none →
    ∃ a3 : Addr, l1 = some a3 ∧
    ∃ (l5a : Option Addr) (l5n : Nat) (l5c : Nat), w.cell? (a3.add 3) = some (.slice l5a l5n l5c) ∧
    ∃ (I0 : Nat → List Value → World → Prop) (m8 : Nat), I0 m8 [.slice none 0 0, .int .i64 0] w ∧ ∀ (m9 : Nat) (ww10 : World) (outv6a : Option Addr) (outv6n : Nat) (outv6c : Nat) (t7 : Int), I0 m9 [.slice outv6a outv6n outv6c, .int .i64 t7] ww10 →
    (t7 < (l5n : Int) →
      ∃ a12 : Addr, l5a = some a12 ∧
      0 ≤ (t7 : Int) ∧ (t7 : Int) < (l5n : Int) ∧
      ∃ (xWriter14 : Int) (xIndex15 : Int) (xPrev16 : Int) (xAtT17 : Int) (xAtW18 : Int) (xEpoch19 : Int) (xBody20a : Option Addr) (xBody20n : Nat) (xBody20c : Nat) (xSig21 : Int), cellsAt ww10 (a12.add (Int.toNat t7 * 8)) [.int .i64 xWriter14, .int .i64 xIndex15, .int .u64 xPrev16, .int .i64 xAtT17, .int .i64 xAtW18, .int .i64 xEpoch19, .slice xBody20a xBody20n xBody20c, .int .u64 xSig21] 0 ∧
      ∀ (ww30 : World), Ext no ww10 ww30 →
      Calls Try.prog 42 #[.agg #[.int .i64 xWriter14, .int .i64 xIndex15, .int .u64 xPrev16, .int .i64 xAtT17, .int .i64 xAtW18, .int .i64 xEpoch19, .slice xBody20a xBody20n xBody20c, .int .u64 xSig21]] ww30 fun ee40 ww41 => ∃ (Writer32 : Int) (Index33 : Int) (Prev34 : Int) (AtT35 : Int) (AtW36 : Int) (Epoch37 : Int) (Body38a : Option Addr) (Body38n : Nat) (Body38c : Nat) (Sig39 : Int), ee40 = .returned (.agg #[.int .i64 Writer32, .int .i64 Index33, .int .u64 Prev34, .int .i64 AtT35, .int .i64 AtW36, .int .i64 Epoch37, .slice Body38a Body38n Body38c, .int .u64 Sig39]) ∧
      ∀ (ww42 : World) (q43 : Nat), Ext no ww41 ww42 → Blk ww42 q43 39 [.int .i64 Writer32, .int .i64 Index33, .int .u64 Prev34, .int .i64 AtT35, .int .i64 AtW36, .int .i64 Epoch37, .slice Body38a Body38n Body38c, .int .u64 Sig39] → ww41.heap.size ≤ q43 → q43 < ww42.heap.size →
      ∃ (a44a : Option Addr) (a44n : Nat) (a44c : Nat) (ww45 : World), (Builtin.append_ #[49, 49] 49 #[.slice outv6a outv6n outv6c, .slice (some (blk q43)) 1 1]).run Try.prog ww42 = .ok (.slice a44a a44n a44c) ww45 ∧
      (-9223372036854775808 : Int) ≤ (t7 + 1) ∧ (t7 + 1) < 9223372036854775808 ∧
      ∃ m46, m46 < m9 ∧ I0 m46 [.slice a44a a44n a44c, .int .i64 (t7 + 1)] ww45) ∧
    ((l5n : Int) ≤ t7 →
      R (.slice outv6a outv6n outv6c) ww10))

theorem chain_Log_All.up (l1 : Option Addr) {R : Value → World → Prop} {w : World} (h : chain_Log_All.N l1 R w) : chain_Log_All.M l1 R w := by
  unfold chain_Log_All.M
  unfold chain_Log_All.N at h
  refine bif_of (fun c2 => ?_) (fun c2 => ?_)
  · have h := h.1 (isNone_t c2)
    exact h
  · have h := h.2 (isNone_f c2)
    obtain ⟨a3, ha3, h⟩ := h
    refine elim_some ha3 ?_
    obtain ⟨l5a, l5n, l5c, hc4, h⟩ := h
    refine ⟨l5a, l5n, l5c, hc4, ?_⟩
    obtain ⟨I0, m8, h0, h⟩ := h
    refine ⟨I0, m8, h0, fun m9 ww10 outv6a outv6n outv6c t7 hI => ?_⟩
    have h := h m9 ww10 outv6a outv6n outv6c t7 hI
    refine bif_of (fun c11 => ?_) (fun c11 => ?_)
    · have h := h.1 (of_decide_eq_true c11)
      obtain ⟨a12, ha12, h⟩ := h
      refine elim_some ha12 ?_
      obtain ⟨hq1, hq2, h⟩ := h
      refine ⟨hq1, hq2, ?_⟩
      obtain ⟨xWriter14, xIndex15, xPrev16, xAtT17, xAtW18, xEpoch19, xBody20a, xBody20n, xBody20c, xSig21, hc13, h⟩ := h
      refine ⟨xWriter14, xIndex15, xPrev16, xAtT17, xAtW18, xEpoch19, xBody20a, xBody20n, xBody20c, xSig21, hc13, ?_⟩
      refine thenW_in fun ww22 e22 => ?_
      have hb1 := Blk.of_new e22
      have hg1 := ((Ext.refl no ww10)).size
      have hx22 := (Ext.refl no ww10).x_alloc e22
      refine ⟨hb1.cani 0 rfl rfl, thenW_in fun ww23 e23 => ?_⟩
      have hx23 := hx22.x_set (q := ww10.heap.size) (i := 0) rfl (.inr hg1) e23
      have hb1 : Blk ww23 ww10.heap.size 39 [.int .i64 xWriter14, .int .i64 0, .int .u64 0, .int .i64 0, .int .i64 0, .int .i64 0, .slice none 0 0, .int .u64 0] := hb1.seti 0 rfl e23
      refine ⟨hb1.cani 1 rfl rfl, thenW_in fun ww24 e24 => ?_⟩
      have hx24 := hx23.x_set (q := ww10.heap.size) (i := 1) rfl (.inr hg1) e24
      have hb1 : Blk ww24 ww10.heap.size 39 [.int .i64 xWriter14, .int .i64 xIndex15, .int .u64 0, .int .i64 0, .int .i64 0, .int .i64 0, .slice none 0 0, .int .u64 0] := hb1.seti 1 rfl e24
      refine ⟨hb1.cani 2 rfl rfl, thenW_in fun ww25 e25 => ?_⟩
      have hx25 := hx24.x_set (q := ww10.heap.size) (i := 2) rfl (.inr hg1) e25
      have hb1 : Blk ww25 ww10.heap.size 39 [.int .i64 xWriter14, .int .i64 xIndex15, .int .u64 xPrev16, .int .i64 0, .int .i64 0, .int .i64 0, .slice none 0 0, .int .u64 0] := hb1.seti 2 rfl e25
      refine ⟨hb1.cani 3 rfl rfl, thenW_in fun ww26 e26 => ?_⟩
      have hx26 := hx25.x_set (q := ww10.heap.size) (i := 3) rfl (.inr hg1) e26
      have hb1 : Blk ww26 ww10.heap.size 39 [.int .i64 xWriter14, .int .i64 xIndex15, .int .u64 xPrev16, .int .i64 xAtT17, .int .i64 0, .int .i64 0, .slice none 0 0, .int .u64 0] := hb1.seti 3 rfl e26
      refine ⟨hb1.cani 4 rfl rfl, thenW_in fun ww27 e27 => ?_⟩
      have hx27 := hx26.x_set (q := ww10.heap.size) (i := 4) rfl (.inr hg1) e27
      have hb1 : Blk ww27 ww10.heap.size 39 [.int .i64 xWriter14, .int .i64 xIndex15, .int .u64 xPrev16, .int .i64 xAtT17, .int .i64 xAtW18, .int .i64 0, .slice none 0 0, .int .u64 0] := hb1.seti 4 rfl e27
      refine ⟨hb1.cani 5 rfl rfl, thenW_in fun ww28 e28 => ?_⟩
      have hx28 := hx27.x_set (q := ww10.heap.size) (i := 5) rfl (.inr hg1) e28
      have hb1 : Blk ww28 ww10.heap.size 39 [.int .i64 xWriter14, .int .i64 xIndex15, .int .u64 xPrev16, .int .i64 xAtT17, .int .i64 xAtW18, .int .i64 xEpoch19, .slice none 0 0, .int .u64 0] := hb1.seti 5 rfl e28
      refine ⟨hb1.cani 6 rfl rfl, thenW_in fun ww29 e29 => ?_⟩
      have hx29 := hx28.x_set (q := ww10.heap.size) (i := 6) rfl (.inr hg1) e29
      have hb1 : Blk ww29 ww10.heap.size 39 [.int .i64 xWriter14, .int .i64 xIndex15, .int .u64 xPrev16, .int .i64 xAtT17, .int .i64 xAtW18, .int .i64 xEpoch19, .slice xBody20a xBody20n xBody20c, .int .u64 0] := hb1.seti 6 rfl e29
      refine ⟨hb1.cani 7 rfl rfl, thenW_in fun ww30 e30 => ?_⟩
      have hx30 := hx29.x_set (q := ww10.heap.size) (i := 7) rfl (.inr hg1) e30
      have hb1 : Blk ww30 ww10.heap.size 39 [.int .i64 xWriter14, .int .i64 xIndex15, .int .u64 xPrev16, .int .i64 xAtT17, .int .i64 xAtW18, .int .i64 xEpoch19, .slice xBody20a xBody20n xBody20c, .int .u64 xSig21] := hb1.seti 7 rfl e30
      refine ⟨xWriter14, xIndex15, xPrev16, xAtT17, xAtW18, xEpoch19, xBody20a, xBody20n, xBody20c, xSig21, ⟨hb1.celli 0 rfl rfl, hb1.celli 1 rfl rfl, hb1.celli 2 rfl rfl, hb1.celli 3 rfl rfl, hb1.celli 4 rfl rfl, hb1.celli 5 rfl rfl, hb1.celli 6 rfl rfl, hb1.celli 7 rfl rfl, trivial⟩, ?_⟩
      have h := h ww30 hx30
      refine h.mono fun ee40 ww41 h => ?_
      obtain ⟨Writer32, Index33, Prev34, AtT35, AtW36, Epoch37, Body38a, Body38n, Body38c, Sig39, he, h⟩ := h
      refine ⟨Writer32, Index33, Prev34, AtT35, AtW36, Epoch37, Body38a, Body38n, Body38c, Sig39, he, ?_⟩
      refine thenW_in fun ww42 e42 => ?_
      have h := h ww42 ww41.heap.size ((Ext.refl no ww41).x_alloc e42) (Blk.of_new e42) ((Ext.refl no ww41)).size (size_lt_alloc e42)
      obtain ⟨a44a, a44n, a44c, ww45, hr, h⟩ := h
      refine ⟨a44a, a44n, a44c, ww45, hr, ?_⟩
      obtain ⟨hw1, hw2, h⟩ := h
      try rw [w64 hw1 hw2]
      obtain ⟨m46, hk, h⟩ := h
      exact ⟨m46, hk, h⟩
    · have h := h.2 (Int.not_lt.1 (of_decide_eq_false c11))
      exact h

theorem chain_Log_All.go (l1 : Option Addr) {R : Value → World → Prop} {w : World} (h : chain_Log_All.N l1 R w) : Calls Try.prog 18 #[.pointer l1] w fun e w' => ∃ v, e = .returned v ∧ R v w' := chain_Log_All.ok l1 (chain_Log_All.up l1 h)
theorem chain_Log_All.run (l1 : Option Addr) {V : Value} {Q : World → Prop} {w : World} (h : chain_Log_All.N l1 (fun v w' => v = V ∧ Q w') w) : Calls Try.prog 18 #[.pointer l1] w (Ret V Q) := (chain_Log_All.go l1 h).mono fun e w' ⟨v, he, hv, hq⟩ => ⟨by rw [he, hv], hq⟩

/-- (*chain.Log).right -/
def chain_Log_right.M (l1 : Option Addr) (eWriter2 : Int) (eIndex3 : Int) (ePrev4 : Int) (eAtT5 : Int) (eAtW6 : Int) (eEpoch7 : Int) (eBody8a : Option Addr) (eBody8n : Nat) (eBody8c : Nat) (eSig9 : Int) (R : Value → World → Prop) (w : World) : Prop :=
  thenW (w.alloc (.cells #[.int .i64 eWriter2, .int .i64 eIndex3, .int .u64 ePrev4, .int .i64 eAtT5, .int .i64 eAtW6, .int .i64 eEpoch7, .slice eBody8a eBody8n eBody8c, .int .u64 eSig9] 39)) fun ww10 =>
  ∃ (xWriter11 : Int) (xIndex12 : Int) (xPrev13 : Int) (xAtT14 : Int) (xAtW15 : Int) (xEpoch16 : Int) (xBody17a : Option Addr) (xBody17n : Nat) (xBody17c : Nat) (xSig18 : Int), cellsAt ww10 (blk w.heap.size) [.int .i64 xWriter11, .int .i64 xIndex12, .int .u64 xPrev13, .int .i64 xAtT14, .int .i64 xAtW15, .int .i64 xEpoch16, .slice xBody17a xBody17n xBody17c, .int .u64 xSig18] 0 ∧
  Calls Try.prog 38 #[.agg #[.int .i64 xWriter11, .int .i64 xIndex12, .int .u64 xPrev13, .int .i64 xAtT14, .int .i64 xAtW15, .int .i64 xEpoch16, .slice xBody17a xBody17n xBody17c, .int .u64 xSig18]] ww10 fun ee20 ww21 => ∃ (right19 : Bool), ee20 = .returned (.bool right19) ∧
  bif !right19 then (
  R (.int .i64 1) ww21) else (
  thenW (ww21.drew) fun ww22 =>
  ∃ (Writer23 : Int), ww22.cell? ((blk w.heap.size).add 0) = some (.int .i64 Writer23) ∧
  l1.elim False fun a24 =>
  ∃ (wv25 : Int), ww22.cell? (a24.add 1) = some (.int .i64 wv25) ∧
  bif Writer23 != wv25 then (
  R (.int .i64 20) ww22) else (
  thenW (ww22.drew) fun ww26 =>
  l1.elim False fun a27 =>
  ∃ (o28 : Option Addr), ww26.cell? (a27.add 0) = some (.pointer o28) ∧
  l1.elim False fun a29 =>
  ∃ (publicv30 : Int), ww26.cell? (a29.add 2) = some (.int .u64 publicv30) ∧
  ∃ (xWriter31 : Int) (xIndex32 : Int) (xPrev33 : Int) (xAtT34 : Int) (xAtW35 : Int) (xEpoch36 : Int) (xBody37a : Option Addr) (xBody37n : Nat) (xBody37c : Nat) (xSig38 : Int), cellsAt ww26 (blk w.heap.size) [.int .i64 xWriter31, .int .i64 xIndex32, .int .u64 xPrev33, .int .i64 xAtT34, .int .i64 xAtW35, .int .i64 xEpoch36, .slice xBody37a xBody37n xBody37c, .int .u64 xSig38] 0 ∧
  Calls Try.prog 67 #[.pointer o28, .int .u64 publicv30, .agg #[.int .i64 xWriter31, .int .i64 xIndex32, .int .u64 xPrev33, .int .i64 xAtT34, .int .i64 xAtW35, .int .i64 xEpoch36, .slice xBody37a xBody37n xBody37c, .int .u64 xSig38]] ww26 fun ee40 ww41 => ∃ (holds39 : Bool), ee40 = .returned (.bool holds39) ∧
  bif !holds39 then (
  R (.int .i64 6) ww41) else (
  R (.int .i64 0) ww41)))

theorem chain_Log_right.eq (l1 : Option Addr) (eWriter2 : Int) (eIndex3 : Int) (ePrev4 : Int) (eAtT5 : Int) (eAtW6 : Int) (eEpoch7 : Int) (eBody8a : Option Addr) (eBody8n : Nat) (eBody8c : Nat) (eSig9 : Int) (R : Value → World → Prop) (w : World) : mfunc Try.prog [] 48 [.pointer l1, .agg #[.int .i64 eWriter2, .int .i64 eIndex3, .int .u64 ePrev4, .int .i64 eAtT5, .int .i64 eAtW6, .int .i64 eEpoch7, .slice eBody8a eBody8n eBody8c, .int .u64 eSig9]] R w = chain_Log_right.M l1 eWriter2 eIndex3 ePrev4 eAtT5 eAtW6 eEpoch7 eBody8a eBody8n eBody8c eSig9 R w := by kernel_rfl
theorem chain_Log_right.ok (l1 : Option Addr) (eWriter2 : Int) (eIndex3 : Int) (ePrev4 : Int) (eAtT5 : Int) (eAtW6 : Int) (eEpoch7 : Int) (eBody8a : Option Addr) (eBody8n : Nat) (eBody8c : Nat) (eSig9 : Int) {R : Value → World → Prop} {w : World} (h : chain_Log_right.M l1 eWriter2 eIndex3 ePrev4 eAtT5 eAtW6 eEpoch7 eBody8a eBody8n eBody8c eSig9 R w) : Calls Try.prog 48 #[.pointer l1, .agg #[.int .i64 eWriter2, .int .i64 eIndex3, .int .u64 ePrev4, .int .i64 eAtT5, .int .i64 eAtW6, .int .i64 eEpoch7, .slice eBody8a eBody8n eBody8c, .int .u64 eSig9]] w fun e w' => ∃ v, e = .returned v ∧ R v w' :=
  mfunc_ok follows (H := []) (args := [.pointer l1, .agg #[.int .i64 eWriter2, .int .i64 eIndex3, .int .u64 ePrev4, .int .i64 eAtT5, .int .i64 eAtW6, .int .i64 eEpoch7, .slice eBody8a eBody8n eBody8c, .int .u64 eSig9]]) (by rw [chain_Log_right.eq]; exact h)

def chain_Log_right.N (l1 : Option Addr) (eWriter2 : Int) (eIndex3 : Int) (ePrev4 : Int) (eAtT5 : Int) (eAtW6 : Int) (eEpoch7 : Int) (eBody8a : Option Addr) (eBody8n : Nat) (eBody8c : Nat) (eSig9 : Int) (R : Value → World → Prop) (w : World) : Prop :=
  ((entry_Right.F eWriter2 eIndex3 ePrev4 eAtT5 eAtW6 eEpoch7 eBody8a eBody8n eBody8c eSig9) = false →
    ∀ (ww11 : World), Ext no w ww11 →
    R (.int .i64 1) ww11) ∧
  ((entry_Right.F eWriter2 eIndex3 ePrev4 eAtT5 eAtW6 eEpoch7 eBody8a eBody8n eBody8c eSig9) = true →
    ∃ a15 : Addr, l1 = some a15 ∧
    ∃ (wv17 : Int), w.cell? (a15.add 1) = some (.int .i64 wv17) ∧
    (eWriter2 ≠ wv17 →
      ∀ (ww14 : World), Ext no w ww14 →
      R (.int .i64 20) ww14) ∧
    (eWriter2 = wv17 →
      ∃ (o22 : Option Addr), w.cell? (a15.add 0) = some (.pointer o22) ∧
      ∃ (publicv24 : Int), w.cell? (a15.add 2) = some (.int .u64 publicv24) ∧
      ∀ (ww20 : World), Ext no w ww20 →
      Calls Try.prog 67 #[.pointer o22, .int .u64 publicv24, .agg #[.int .i64 eWriter2, .int .i64 eIndex3, .int .u64 ePrev4, .int .i64 eAtT5, .int .i64 eAtW6, .int .i64 eEpoch7, .slice eBody8a eBody8n eBody8c, .int .u64 eSig9]] ww20 fun ee27 ww28 => ∃ (holds26 : Bool), ee27 = .returned (.bool holds26) ∧
      (holds26 = false →
        R (.int .i64 6) ww28) ∧
      (holds26 = true →
        R (.int .i64 0) ww28)))

theorem chain_Log_right.up (l1 : Option Addr) (eWriter2 : Int) (eIndex3 : Int) (ePrev4 : Int) (eAtT5 : Int) (eAtW6 : Int) (eEpoch7 : Int) (eBody8a : Option Addr) (eBody8n : Nat) (eBody8c : Nat) (eSig9 : Int) {R : Value → World → Prop} {w : World} (h : chain_Log_right.N l1 eWriter2 eIndex3 ePrev4 eAtT5 eAtW6 eEpoch7 eBody8a eBody8n eBody8c eSig9 R w) : chain_Log_right.M l1 eWriter2 eIndex3 ePrev4 eAtT5 eAtW6 eEpoch7 eBody8a eBody8n eBody8c eSig9 R w := by
  unfold chain_Log_right.M
  unfold chain_Log_right.N at h
  refine thenW_in fun ww10 e10 => ?_
  have hb1 := Blk.of_new e10
  have hg1 := ((Ext.refl no w)).size
  have hx10 := (Ext.refl no w).x_alloc e10
  refine ⟨eWriter2, eIndex3, ePrev4, eAtT5, eAtW6, eEpoch7, eBody8a, eBody8n, eBody8c, eSig9, ⟨hb1.celli 0 rfl rfl, hb1.celli 1 rfl rfl, hb1.celli 2 rfl rfl, hb1.celli 3 rfl rfl, hb1.celli 4 rfl rfl, hb1.celli 5 rfl rfl, hb1.celli 6 rfl rfl, hb1.celli 7 rfl rfl, trivial⟩, ?_⟩
  refine (entry_Right.pure eWriter2 eIndex3 ePrev4 eAtT5 eAtW6 eEpoch7 eBody8a eBody8n eBody8c eSig9).mono fun ee ww11 ⟨he, hxx⟩ => ⟨(entry_Right.F eWriter2 eIndex3 ePrev4 eAtT5 eAtW6 eEpoch7 eBody8a eBody8n eBody8c eSig9), he, ?_⟩
  have hx11 := hx10.trans hxx
  have hb1 := hb1.ext hxx id
  refine bif_of (fun c12 => ?_) (fun c12 => ?_)
  · have h := h.1 (not_t c12)
    have h := h ww11 hx11
    exact h
  · have h := h.2 (not_f c12)
    refine thenW_in fun ww14 e14 => ?_
    have hx14 := hx11.x_drew e14
    have hb1 := hb1.x_drew e14
    refine ⟨eWriter2, hb1.celli 0 rfl rfl, ?_⟩
    obtain ⟨a15, ha15, h⟩ := h
    refine elim_some ha15 ?_
    obtain ⟨wv17, hc16, h⟩ := h
    refine ⟨wv17, (hx14).cell hc16 id, ?_⟩
    refine bif_of (fun c18 => ?_) (fun c18 => ?_)
    · have h := h.1 (bne_t c18)
      have h := h ww14 hx14
      exact h
    · have h := h.2 (bne_f c18)
      refine thenW_in fun ww20 e20 => ?_
      have hx20 := hx14.x_drew e20
      have hb1 := hb1.x_drew e20
      refine elim_some ha15 ?_
      obtain ⟨o22, hc21, h⟩ := h
      refine ⟨o22, (hx20).cell hc21 id, ?_⟩
      refine elim_some ha15 ?_
      obtain ⟨publicv24, hc23, h⟩ := h
      refine ⟨publicv24, (hx20).cell hc23 id, ?_⟩
      refine ⟨eWriter2, eIndex3, ePrev4, eAtT5, eAtW6, eEpoch7, eBody8a, eBody8n, eBody8c, eSig9, ⟨hb1.celli 0 rfl rfl, hb1.celli 1 rfl rfl, hb1.celli 2 rfl rfl, hb1.celli 3 rfl rfl, hb1.celli 4 rfl rfl, hb1.celli 5 rfl rfl, hb1.celli 6 rfl rfl, hb1.celli 7 rfl rfl, trivial⟩, ?_⟩
      have h := h ww20 hx20
      refine h.mono fun ee27 ww28 h => ?_
      obtain ⟨holds26, he, h⟩ := h
      refine ⟨holds26, he, ?_⟩
      refine bif_of (fun c29 => ?_) (fun c29 => ?_)
      · have h := h.1 (not_t c29)
        exact h
      · have h := h.2 (not_f c29)
        exact h

theorem chain_Log_right.go (l1 : Option Addr) (eWriter2 : Int) (eIndex3 : Int) (ePrev4 : Int) (eAtT5 : Int) (eAtW6 : Int) (eEpoch7 : Int) (eBody8a : Option Addr) (eBody8n : Nat) (eBody8c : Nat) (eSig9 : Int) {R : Value → World → Prop} {w : World} (h : chain_Log_right.N l1 eWriter2 eIndex3 ePrev4 eAtT5 eAtW6 eEpoch7 eBody8a eBody8n eBody8c eSig9 R w) : Calls Try.prog 48 #[.pointer l1, .agg #[.int .i64 eWriter2, .int .i64 eIndex3, .int .u64 ePrev4, .int .i64 eAtT5, .int .i64 eAtW6, .int .i64 eEpoch7, .slice eBody8a eBody8n eBody8c, .int .u64 eSig9]] w fun e w' => ∃ v, e = .returned v ∧ R v w' := chain_Log_right.ok l1 eWriter2 eIndex3 ePrev4 eAtT5 eAtW6 eEpoch7 eBody8a eBody8n eBody8c eSig9 (chain_Log_right.up l1 eWriter2 eIndex3 ePrev4 eAtT5 eAtW6 eEpoch7 eBody8a eBody8n eBody8c eSig9 h)
theorem chain_Log_right.run (l1 : Option Addr) (eWriter2 : Int) (eIndex3 : Int) (ePrev4 : Int) (eAtT5 : Int) (eAtW6 : Int) (eEpoch7 : Int) (eBody8a : Option Addr) (eBody8n : Nat) (eBody8c : Nat) (eSig9 : Int) {V : Value} {Q : World → Prop} {w : World} (h : chain_Log_right.N l1 eWriter2 eIndex3 ePrev4 eAtT5 eAtW6 eEpoch7 eBody8a eBody8n eBody8c eSig9 (fun v w' => v = V ∧ Q w') w) : Calls Try.prog 48 #[.pointer l1, .agg #[.int .i64 eWriter2, .int .i64 eIndex3, .int .u64 ePrev4, .int .i64 eAtT5, .int .i64 eAtW6, .int .i64 eEpoch7, .slice eBody8a eBody8n eBody8c, .int .u64 eSig9]] w (Ret V Q) := (chain_Log_right.go l1 eWriter2 eIndex3 ePrev4 eAtT5 eAtW6 eEpoch7 eBody8a eBody8n eBody8c eSig9 h).mono fun e w' ⟨v, he, hv, hq⟩ => ⟨by rw [he, hv], hq⟩

/-- (*chain.Log).place -/
def chain_Log_place.M (l1 : Option Addr) (eWriter2 : Int) (eIndex3 : Int) (ePrev4 : Int) (eAtT5 : Int) (eAtW6 : Int) (eEpoch7 : Int) (eBody8a : Option Addr) (eBody8n : Nat) (eBody8c : Nat) (eSig9 : Int) (R : Value → World → Prop) (w : World) : Prop :=
  thenW (w.alloc (.cells #[.int .i64 eWriter2, .int .i64 eIndex3, .int .u64 ePrev4, .int .i64 eAtT5, .int .i64 eAtW6, .int .i64 eEpoch7, .slice eBody8a eBody8n eBody8c, .int .u64 eSig9] 39)) fun ww10 =>
  l1.elim False fun a11 =>
  ∃ (l12a : Option Addr) (l12n : Nat) (l12c : Nat), ww10.cell? (a11.add 3) = some (.slice l12a l12n l12c) ∧
  ∃ (Index13 : Int), ww10.cell? ((blk w.heap.size).add 1) = some (.int .i64 Index13) ∧
  bif decide (Index13 > (l12n : Int)) then (
  R (.int .i64 7) ww10) else (
  ∃ (Index14 : Int), ww10.cell? ((blk w.heap.size).add 1) = some (.int .i64 Index14) ∧
  bif Index14 == (l12n : Int) then (
  R (.int .i64 0) ww10) else (
  thenW (ww10.drew) fun ww15 =>
  l1.elim False fun a16 =>
  ∃ (l17a : Option Addr) (l17n : Nat) (l17c : Nat), ww15.cell? (a16.add 3) = some (.slice l17a l17n l17c) ∧
  ∃ (Index18 : Int), ww15.cell? ((blk w.heap.size).add 1) = some (.int .i64 Index18) ∧
  l17a.elim False fun a19 =>
  0 ≤ (Index18 : Int) ∧ (Index18 : Int) < (l17n : Int) ∧
  ∃ (xWriter20 : Int) (xIndex21 : Int) (xPrev22 : Int) (xAtT23 : Int) (xAtW24 : Int) (xEpoch25 : Int) (xBody26a : Option Addr) (xBody26n : Nat) (xBody26c : Nat) (xSig27 : Int), cellsAt ww15 (a19.add (Int.toNat Index18 * 8)) [.int .i64 xWriter20, .int .i64 xIndex21, .int .u64 xPrev22, .int .i64 xAtT23, .int .i64 xAtW24, .int .i64 xEpoch25, .slice xBody26a xBody26n xBody26c, .int .u64 xSig27] 0 ∧
  ∃ (xWriter28 : Int) (xIndex29 : Int) (xPrev30 : Int) (xAtT31 : Int) (xAtW32 : Int) (xEpoch33 : Int) (xBody34a : Option Addr) (xBody34n : Nat) (xBody34c : Nat) (xSig35 : Int), cellsAt ww15 (blk w.heap.size) [.int .i64 xWriter28, .int .i64 xIndex29, .int .u64 xPrev30, .int .i64 xAtT31, .int .i64 xAtW32, .int .i64 xEpoch33, .slice xBody34a xBody34n xBody34c, .int .u64 xSig35] 0 ∧
  Calls Try.prog 68 #[.agg #[.int .i64 xWriter20, .int .i64 xIndex21, .int .u64 xPrev22, .int .i64 xAtT23, .int .i64 xAtW24, .int .i64 xEpoch25, .slice xBody26a xBody26n xBody26c, .int .u64 xSig27], .agg #[.int .i64 xWriter28, .int .i64 xIndex29, .int .u64 xPrev30, .int .i64 xAtT31, .int .i64 xAtW32, .int .i64 xEpoch33, .slice xBody34a xBody34n xBody34c, .int .u64 xSig35]] ww15 fun ee37 ww38 => ∃ (same36 : Bool), ee37 = .returned (.bool same36) ∧
  bif same36 then (
  R (.int .i64 8) ww38) else (
  R (.int .i64 9) ww38)))

theorem chain_Log_place.eq (l1 : Option Addr) (eWriter2 : Int) (eIndex3 : Int) (ePrev4 : Int) (eAtT5 : Int) (eAtW6 : Int) (eEpoch7 : Int) (eBody8a : Option Addr) (eBody8n : Nat) (eBody8c : Nat) (eSig9 : Int) (R : Value → World → Prop) (w : World) : mfunc Try.prog [] 49 [.pointer l1, .agg #[.int .i64 eWriter2, .int .i64 eIndex3, .int .u64 ePrev4, .int .i64 eAtT5, .int .i64 eAtW6, .int .i64 eEpoch7, .slice eBody8a eBody8n eBody8c, .int .u64 eSig9]] R w = chain_Log_place.M l1 eWriter2 eIndex3 ePrev4 eAtT5 eAtW6 eEpoch7 eBody8a eBody8n eBody8c eSig9 R w := by kernel_rfl
theorem chain_Log_place.ok (l1 : Option Addr) (eWriter2 : Int) (eIndex3 : Int) (ePrev4 : Int) (eAtT5 : Int) (eAtW6 : Int) (eEpoch7 : Int) (eBody8a : Option Addr) (eBody8n : Nat) (eBody8c : Nat) (eSig9 : Int) {R : Value → World → Prop} {w : World} (h : chain_Log_place.M l1 eWriter2 eIndex3 ePrev4 eAtT5 eAtW6 eEpoch7 eBody8a eBody8n eBody8c eSig9 R w) : Calls Try.prog 49 #[.pointer l1, .agg #[.int .i64 eWriter2, .int .i64 eIndex3, .int .u64 ePrev4, .int .i64 eAtT5, .int .i64 eAtW6, .int .i64 eEpoch7, .slice eBody8a eBody8n eBody8c, .int .u64 eSig9]] w fun e w' => ∃ v, e = .returned v ∧ R v w' :=
  mfunc_ok follows (H := []) (args := [.pointer l1, .agg #[.int .i64 eWriter2, .int .i64 eIndex3, .int .u64 ePrev4, .int .i64 eAtT5, .int .i64 eAtW6, .int .i64 eEpoch7, .slice eBody8a eBody8n eBody8c, .int .u64 eSig9]]) (by rw [chain_Log_place.eq]; exact h)

def chain_Log_place.N (l1 : Option Addr) (eWriter2 : Int) (eIndex3 : Int) (ePrev4 : Int) (eAtT5 : Int) (eAtW6 : Int) (eEpoch7 : Int) (eBody8a : Option Addr) (eBody8n : Nat) (eBody8c : Nat) (eSig9 : Int) (R : Value → World → Prop) (w : World) : Prop :=
  ∃ a11 : Addr, l1 = some a11 ∧
  ∃ (l13a : Option Addr) (l13n : Nat) (l13c : Nat), w.cell? (a11.add 3) = some (.slice l13a l13n l13c) ∧
  (eIndex3 > (l13n : Int) →
    ∀ (ww10 : World), Ext no w ww10 →
    R (.int .i64 7) ww10) ∧
  (eIndex3 ≤ (l13n : Int) →
    (eIndex3 = (l13n : Int) →
      ∀ (ww10 : World), Ext no w ww10 →
      R (.int .i64 0) ww10) ∧
    (eIndex3 ≠ (l13n : Int) →
      ∃ (l20a : Option Addr) (l20n : Nat) (l20c : Nat), w.cell? (a11.add 3) = some (.slice l20a l20n l20c) ∧
      ∃ a21 : Addr, l20a = some a21 ∧
      0 ≤ (eIndex3 : Int) ∧ (eIndex3 : Int) < (l20n : Int) ∧
      ∃ (xWriter23 : Int) (xIndex24 : Int) (xPrev25 : Int) (xAtT26 : Int) (xAtW27 : Int) (xEpoch28 : Int) (xBody29a : Option Addr) (xBody29n : Nat) (xBody29c : Nat) (xSig30 : Int), cellsAt w (a21.add (Int.toNat eIndex3 * 8)) [.int .i64 xWriter23, .int .i64 xIndex24, .int .u64 xPrev25, .int .i64 xAtT26, .int .i64 xAtW27, .int .i64 xEpoch28, .slice xBody29a xBody29n xBody29c, .int .u64 xSig30] 0 ∧
      ∀ (ww18 : World), Ext no w ww18 →
      Calls Try.prog 68 #[.agg #[.int .i64 xWriter23, .int .i64 xIndex24, .int .u64 xPrev25, .int .i64 xAtT26, .int .i64 xAtW27, .int .i64 xEpoch28, .slice xBody29a xBody29n xBody29c, .int .u64 xSig30], .agg #[.int .i64 eWriter2, .int .i64 eIndex3, .int .u64 ePrev4, .int .i64 eAtT5, .int .i64 eAtW6, .int .i64 eEpoch7, .slice eBody8a eBody8n eBody8c, .int .u64 eSig9]] ww18 fun ee33 ww34 => ∃ (same32 : Bool), ee33 = .returned (.bool same32) ∧
      (same32 = true →
        R (.int .i64 8) ww34) ∧
      (same32 = false →
        R (.int .i64 9) ww34)))

theorem chain_Log_place.up (l1 : Option Addr) (eWriter2 : Int) (eIndex3 : Int) (ePrev4 : Int) (eAtT5 : Int) (eAtW6 : Int) (eEpoch7 : Int) (eBody8a : Option Addr) (eBody8n : Nat) (eBody8c : Nat) (eSig9 : Int) {R : Value → World → Prop} {w : World} (h : chain_Log_place.N l1 eWriter2 eIndex3 ePrev4 eAtT5 eAtW6 eEpoch7 eBody8a eBody8n eBody8c eSig9 R w) : chain_Log_place.M l1 eWriter2 eIndex3 ePrev4 eAtT5 eAtW6 eEpoch7 eBody8a eBody8n eBody8c eSig9 R w := by
  unfold chain_Log_place.M
  unfold chain_Log_place.N at h
  refine thenW_in fun ww10 e10 => ?_
  have hb1 := Blk.of_new e10
  have hg1 := ((Ext.refl no w)).size
  have hx10 := (Ext.refl no w).x_alloc e10
  obtain ⟨a11, ha11, h⟩ := h
  refine elim_some ha11 ?_
  obtain ⟨l13a, l13n, l13c, hc12, h⟩ := h
  refine ⟨l13a, l13n, l13c, (hx10).cell hc12 id, ?_⟩
  refine ⟨eIndex3, hb1.celli 1 rfl rfl, ?_⟩
  refine bif_of (fun c14 => ?_) (fun c14 => ?_)
  · have h := h.1 (of_decide_eq_true c14)
    have h := h ww10 hx10
    exact h
  · have h := h.2 (Int.not_lt.1 (of_decide_eq_false c14))
    refine ⟨eIndex3, hb1.celli 1 rfl rfl, ?_⟩
    refine bif_of (fun c16 => ?_) (fun c16 => ?_)
    · have h := h.1 (beq_t c16)
      have h := h ww10 hx10
      exact h
    · have h := h.2 (beq_f c16)
      refine thenW_in fun ww18 e18 => ?_
      have hx18 := hx10.x_drew e18
      have hb1 := hb1.x_drew e18
      refine elim_some ha11 ?_
      obtain ⟨l20a, l20n, l20c, hc19, h⟩ := h
      refine ⟨l20a, l20n, l20c, (hx18).cell hc19 id, ?_⟩
      refine ⟨eIndex3, hb1.celli 1 rfl rfl, ?_⟩
      obtain ⟨a21, ha21, h⟩ := h
      refine elim_some ha21 ?_
      obtain ⟨hq1, hq2, h⟩ := h
      refine ⟨hq1, hq2, ?_⟩
      obtain ⟨xWriter23, xIndex24, xPrev25, xAtT26, xAtW27, xEpoch28, xBody29a, xBody29n, xBody29c, xSig30, hc22, h⟩ := h
      refine ⟨xWriter23, xIndex24, xPrev25, xAtT26, xAtW27, xEpoch28, xBody29a, xBody29n, xBody29c, xSig30, cellsAt_no (hx18) hc22, ?_⟩
      refine ⟨eWriter2, eIndex3, ePrev4, eAtT5, eAtW6, eEpoch7, eBody8a, eBody8n, eBody8c, eSig9, ⟨hb1.celli 0 rfl rfl, hb1.celli 1 rfl rfl, hb1.celli 2 rfl rfl, hb1.celli 3 rfl rfl, hb1.celli 4 rfl rfl, hb1.celli 5 rfl rfl, hb1.celli 6 rfl rfl, hb1.celli 7 rfl rfl, trivial⟩, ?_⟩
      have h := h ww18 hx18
      refine h.mono fun ee33 ww34 h => ?_
      obtain ⟨same32, he, h⟩ := h
      refine ⟨same32, he, ?_⟩
      refine bif_of (fun c35 => ?_) (fun c35 => ?_)
      · have h := h.1 c35
        exact h
      · have h := h.2 c35
        exact h

theorem chain_Log_place.go (l1 : Option Addr) (eWriter2 : Int) (eIndex3 : Int) (ePrev4 : Int) (eAtT5 : Int) (eAtW6 : Int) (eEpoch7 : Int) (eBody8a : Option Addr) (eBody8n : Nat) (eBody8c : Nat) (eSig9 : Int) {R : Value → World → Prop} {w : World} (h : chain_Log_place.N l1 eWriter2 eIndex3 ePrev4 eAtT5 eAtW6 eEpoch7 eBody8a eBody8n eBody8c eSig9 R w) : Calls Try.prog 49 #[.pointer l1, .agg #[.int .i64 eWriter2, .int .i64 eIndex3, .int .u64 ePrev4, .int .i64 eAtT5, .int .i64 eAtW6, .int .i64 eEpoch7, .slice eBody8a eBody8n eBody8c, .int .u64 eSig9]] w fun e w' => ∃ v, e = .returned v ∧ R v w' := chain_Log_place.ok l1 eWriter2 eIndex3 ePrev4 eAtT5 eAtW6 eEpoch7 eBody8a eBody8n eBody8c eSig9 (chain_Log_place.up l1 eWriter2 eIndex3 ePrev4 eAtT5 eAtW6 eEpoch7 eBody8a eBody8n eBody8c eSig9 h)
theorem chain_Log_place.run (l1 : Option Addr) (eWriter2 : Int) (eIndex3 : Int) (ePrev4 : Int) (eAtT5 : Int) (eAtW6 : Int) (eEpoch7 : Int) (eBody8a : Option Addr) (eBody8n : Nat) (eBody8c : Nat) (eSig9 : Int) {V : Value} {Q : World → Prop} {w : World} (h : chain_Log_place.N l1 eWriter2 eIndex3 ePrev4 eAtT5 eAtW6 eEpoch7 eBody8a eBody8n eBody8c eSig9 (fun v w' => v = V ∧ Q w') w) : Calls Try.prog 49 #[.pointer l1, .agg #[.int .i64 eWriter2, .int .i64 eIndex3, .int .u64 ePrev4, .int .i64 eAtT5, .int .i64 eAtW6, .int .i64 eEpoch7, .slice eBody8a eBody8n eBody8c, .int .u64 eSig9]] w (Ret V Q) := (chain_Log_place.go l1 eWriter2 eIndex3 ePrev4 eAtT5 eAtW6 eEpoch7 eBody8a eBody8n eBody8c eSig9 h).mono fun e w' ⟨v, he, hv, hq⟩ => ⟨by rw [he, hv], hq⟩

/-- (*chain.Log).behind -/
def chain_Log_behind.M (l1 : Option Addr) (eWriter2 : Int) (eIndex3 : Int) (ePrev4 : Int) (eAtT5 : Int) (eAtW6 : Int) (eEpoch7 : Int) (eBody8a : Option Addr) (eBody8n : Nat) (eBody8c : Nat) (eSig9 : Int) (R : Value → World → Prop) (w : World) : Prop :=
  thenW (w.alloc (.cells #[.int .i64 eWriter2, .int .i64 eIndex3, .int .u64 ePrev4, .int .i64 eAtT5, .int .i64 eAtW6, .int .i64 eEpoch7, .slice eBody8a eBody8n eBody8c, .int .u64 eSig9] 39)) fun ww10 =>
  l1.elim False fun a11 =>
  ∃ (l12a : Option Addr) (l12n : Nat) (l12c : Nat), ww10.cell? (a11.add 3) = some (.slice l12a l12n l12c) ∧
  thenW (ww10.drew) fun ww13 =>
  ∃ (Prev14 : Int), ww13.cell? ((blk w.heap.size).add 2) = some (.int .u64 Prev14) ∧
  l1.elim False fun a15 =>
  ∃ (sum16 : Int), ww13.cell? (a15.add 4) = some (.int .u64 sum16) ∧
  bif Prev14 != sum16 then (
  R (.int .i64 5) ww13) else (
  thenW (ww13.drew) fun ww17 =>
  bif decide ((l12n : Int) > 0) then (
  l1.elim False fun a18 =>
  ∃ (l19a : Option Addr) (l19n : Nat) (l19c : Nat), ww17.cell? (a18.add 3) = some (.slice l19a l19n l19c) ∧
  l19a.elim False fun a20 =>
  0 ≤ ((IntKind.i64.wrap ((l12n : Int) - 1)) : Int) ∧ ((IntKind.i64.wrap ((l12n : Int) - 1)) : Int) < (l19n : Int) ∧
  ∃ (AtT21 : Int) (AtW22 : Int), cellsAt ww17 ((a20.add (Int.toNat (IntKind.i64.wrap ((l12n : Int) - 1)) * 8)).add 3) [.int .i64 AtT21, .int .i64 AtW22] 0 ∧
  ∃ (AtT23 : Int) (AtW24 : Int), cellsAt ww17 ((blk w.heap.size).add 3) [.int .i64 AtT23, .int .i64 AtW24] 0 ∧
  Calls Try.prog 56 #[.agg #[.int .i64 AtT21, .int .i64 AtW22], .agg #[.int .i64 AtT23, .int .i64 AtW24]] ww17 fun ee26 ww27 => ∃ (less25 : Bool), ee26 = .returned (.bool less25) ∧
  bif !less25 then (
  R (.int .i64 2) ww27) else (
  R (.int .i64 0) ww27)) else (
  R (.int .i64 0) ww17))

theorem chain_Log_behind.eq (l1 : Option Addr) (eWriter2 : Int) (eIndex3 : Int) (ePrev4 : Int) (eAtT5 : Int) (eAtW6 : Int) (eEpoch7 : Int) (eBody8a : Option Addr) (eBody8n : Nat) (eBody8c : Nat) (eSig9 : Int) (R : Value → World → Prop) (w : World) : mfunc Try.prog [] 39 [.pointer l1, .agg #[.int .i64 eWriter2, .int .i64 eIndex3, .int .u64 ePrev4, .int .i64 eAtT5, .int .i64 eAtW6, .int .i64 eEpoch7, .slice eBody8a eBody8n eBody8c, .int .u64 eSig9]] R w = chain_Log_behind.M l1 eWriter2 eIndex3 ePrev4 eAtT5 eAtW6 eEpoch7 eBody8a eBody8n eBody8c eSig9 R w := by kernel_rfl
theorem chain_Log_behind.ok (l1 : Option Addr) (eWriter2 : Int) (eIndex3 : Int) (ePrev4 : Int) (eAtT5 : Int) (eAtW6 : Int) (eEpoch7 : Int) (eBody8a : Option Addr) (eBody8n : Nat) (eBody8c : Nat) (eSig9 : Int) {R : Value → World → Prop} {w : World} (h : chain_Log_behind.M l1 eWriter2 eIndex3 ePrev4 eAtT5 eAtW6 eEpoch7 eBody8a eBody8n eBody8c eSig9 R w) : Calls Try.prog 39 #[.pointer l1, .agg #[.int .i64 eWriter2, .int .i64 eIndex3, .int .u64 ePrev4, .int .i64 eAtT5, .int .i64 eAtW6, .int .i64 eEpoch7, .slice eBody8a eBody8n eBody8c, .int .u64 eSig9]] w fun e w' => ∃ v, e = .returned v ∧ R v w' :=
  mfunc_ok follows (H := []) (args := [.pointer l1, .agg #[.int .i64 eWriter2, .int .i64 eIndex3, .int .u64 ePrev4, .int .i64 eAtT5, .int .i64 eAtW6, .int .i64 eEpoch7, .slice eBody8a eBody8n eBody8c, .int .u64 eSig9]]) (by rw [chain_Log_behind.eq]; exact h)

def chain_Log_behind.N (l1 : Option Addr) (eWriter2 : Int) (eIndex3 : Int) (ePrev4 : Int) (eAtT5 : Int) (eAtW6 : Int) (eEpoch7 : Int) (eBody8a : Option Addr) (eBody8n : Nat) (eBody8c : Nat) (eSig9 : Int) (R : Value → World → Prop) (w : World) : Prop :=
  ∃ a11 : Addr, l1 = some a11 ∧
  ∃ (l13a : Option Addr) (l13n : Nat) (l13c : Nat), w.cell? (a11.add 3) = some (.slice l13a l13n l13c) ∧
  ∃ (sum16 : Int), w.cell? (a11.add 4) = some (.int .u64 sum16) ∧
  (ePrev4 ≠ sum16 →
    ∀ (ww14 : World), Ext no w ww14 →
    R (.int .i64 5) ww14) ∧
  (ePrev4 = sum16 →
    ((l13n : Int) > 0 →
      ∃ (l22a : Option Addr) (l22n : Nat) (l22c : Nat), w.cell? (a11.add 3) = some (.slice l22a l22n l22c) ∧
      (-9223372036854775808 : Int) ≤ ((l13n : Int) - 1) ∧ ((l13n : Int) - 1) < 9223372036854775808 ∧
      ∃ a23 : Addr, l22a = some a23 ∧
      0 ≤ (((l13n : Int) - 1) : Int) ∧ (((l13n : Int) - 1) : Int) < (l22n : Int) ∧
      ∃ (AtT25 : Int) (AtW26 : Int), cellsAt w ((a23.add (Int.toNat ((l13n : Int) - 1) * 8)).add 3) [.int .i64 AtT25, .int .i64 AtW26] 0 ∧
      ∀ (ww19 : World), Ext no w ww19 →
      Calls Try.prog 56 #[.agg #[.int .i64 AtT25, .int .i64 AtW26], .agg #[.int .i64 eAtT5, .int .i64 eAtW6]] ww19 fun ee29 ww30 => ∃ (less28 : Bool), ee29 = .returned (.bool less28) ∧
      (less28 = false →
        R (.int .i64 2) ww30) ∧
      (less28 = true →
        R (.int .i64 0) ww30)) ∧
    ((l13n : Int) ≤ 0 →
      ∀ (ww19 : World), Ext no w ww19 →
      R (.int .i64 0) ww19))

theorem chain_Log_behind.up (l1 : Option Addr) (eWriter2 : Int) (eIndex3 : Int) (ePrev4 : Int) (eAtT5 : Int) (eAtW6 : Int) (eEpoch7 : Int) (eBody8a : Option Addr) (eBody8n : Nat) (eBody8c : Nat) (eSig9 : Int) {R : Value → World → Prop} {w : World} (h : chain_Log_behind.N l1 eWriter2 eIndex3 ePrev4 eAtT5 eAtW6 eEpoch7 eBody8a eBody8n eBody8c eSig9 R w) : chain_Log_behind.M l1 eWriter2 eIndex3 ePrev4 eAtT5 eAtW6 eEpoch7 eBody8a eBody8n eBody8c eSig9 R w := by
  unfold chain_Log_behind.M
  unfold chain_Log_behind.N at h
  refine thenW_in fun ww10 e10 => ?_
  have hb1 := Blk.of_new e10
  have hg1 := ((Ext.refl no w)).size
  have hx10 := (Ext.refl no w).x_alloc e10
  obtain ⟨a11, ha11, h⟩ := h
  refine elim_some ha11 ?_
  obtain ⟨l13a, l13n, l13c, hc12, h⟩ := h
  refine ⟨l13a, l13n, l13c, (hx10).cell hc12 id, ?_⟩
  refine thenW_in fun ww14 e14 => ?_
  have hx14 := hx10.x_drew e14
  have hb1 := hb1.x_drew e14
  refine ⟨ePrev4, hb1.celli 2 rfl rfl, ?_⟩
  refine elim_some ha11 ?_
  obtain ⟨sum16, hc15, h⟩ := h
  refine ⟨sum16, (hx14).cell hc15 id, ?_⟩
  refine bif_of (fun c17 => ?_) (fun c17 => ?_)
  · have h := h.1 (bne_t c17)
    have h := h ww14 hx14
    exact h
  · have h := h.2 (bne_f c17)
    refine thenW_in fun ww19 e19 => ?_
    have hx19 := hx14.x_drew e19
    have hb1 := hb1.x_drew e19
    refine bif_of (fun c20 => ?_) (fun c20 => ?_)
    · have h := h.1 (of_decide_eq_true c20)
      refine elim_some ha11 ?_
      obtain ⟨l22a, l22n, l22c, hc21, h⟩ := h
      refine ⟨l22a, l22n, l22c, (hx19).cell hc21 id, ?_⟩
      obtain ⟨hw1, hw2, h⟩ := h
      try rw [w64 hw1 hw2]
      obtain ⟨a23, ha23, h⟩ := h
      refine elim_some ha23 ?_
      obtain ⟨hq1, hq2, h⟩ := h
      refine ⟨hq1, hq2, ?_⟩
      obtain ⟨AtT25, AtW26, hc24, h⟩ := h
      refine ⟨AtT25, AtW26, cellsAt_no (hx19) hc24, ?_⟩
      refine ⟨eAtT5, eAtW6, ⟨hb1.celli 3 rfl rfl, hb1.celli 4 rfl rfl, trivial⟩, ?_⟩
      have h := h ww19 hx19
      refine h.mono fun ee29 ww30 h => ?_
      obtain ⟨less28, he, h⟩ := h
      refine ⟨less28, he, ?_⟩
      refine bif_of (fun c31 => ?_) (fun c31 => ?_)
      · have h := h.1 (not_t c31)
        exact h
      · have h := h.2 (not_f c31)
        exact h
    · have h := h.2 (Int.not_lt.1 (of_decide_eq_false c20))
      have h := h ww19 hx19
      exact h

theorem chain_Log_behind.go (l1 : Option Addr) (eWriter2 : Int) (eIndex3 : Int) (ePrev4 : Int) (eAtT5 : Int) (eAtW6 : Int) (eEpoch7 : Int) (eBody8a : Option Addr) (eBody8n : Nat) (eBody8c : Nat) (eSig9 : Int) {R : Value → World → Prop} {w : World} (h : chain_Log_behind.N l1 eWriter2 eIndex3 ePrev4 eAtT5 eAtW6 eEpoch7 eBody8a eBody8n eBody8c eSig9 R w) : Calls Try.prog 39 #[.pointer l1, .agg #[.int .i64 eWriter2, .int .i64 eIndex3, .int .u64 ePrev4, .int .i64 eAtT5, .int .i64 eAtW6, .int .i64 eEpoch7, .slice eBody8a eBody8n eBody8c, .int .u64 eSig9]] w fun e w' => ∃ v, e = .returned v ∧ R v w' := chain_Log_behind.ok l1 eWriter2 eIndex3 ePrev4 eAtT5 eAtW6 eEpoch7 eBody8a eBody8n eBody8c eSig9 (chain_Log_behind.up l1 eWriter2 eIndex3 ePrev4 eAtT5 eAtW6 eEpoch7 eBody8a eBody8n eBody8c eSig9 h)
theorem chain_Log_behind.run (l1 : Option Addr) (eWriter2 : Int) (eIndex3 : Int) (ePrev4 : Int) (eAtT5 : Int) (eAtW6 : Int) (eEpoch7 : Int) (eBody8a : Option Addr) (eBody8n : Nat) (eBody8c : Nat) (eSig9 : Int) {V : Value} {Q : World → Prop} {w : World} (h : chain_Log_behind.N l1 eWriter2 eIndex3 ePrev4 eAtT5 eAtW6 eEpoch7 eBody8a eBody8n eBody8c eSig9 (fun v w' => v = V ∧ Q w') w) : Calls Try.prog 39 #[.pointer l1, .agg #[.int .i64 eWriter2, .int .i64 eIndex3, .int .u64 ePrev4, .int .i64 eAtT5, .int .i64 eAtW6, .int .i64 eEpoch7, .slice eBody8a eBody8n eBody8c, .int .u64 eSig9]] w (Ret V Q) := (chain_Log_behind.go l1 eWriter2 eIndex3 ePrev4 eAtT5 eAtW6 eEpoch7 eBody8a eBody8n eBody8c eSig9 h).mono fun e w' ⟨v, he, hv, hq⟩ => ⟨by rw [he, hv], hq⟩

/-- (*chain.Log).Check -/
def chain_Log_Check.M (l1 : Option Addr) (eWriter2 : Int) (eIndex3 : Int) (ePrev4 : Int) (eAtT5 : Int) (eAtW6 : Int) (eEpoch7 : Int) (eBody8a : Option Addr) (eBody8n : Nat) (eBody8c : Nat) (eSig9 : Int) (R : Value → World → Prop) (w : World) : Prop :=
  thenW (w.alloc (.cells #[.int .i64 eWriter2, .int .i64 eIndex3, .int .u64 ePrev4, .int .i64 eAtT5, .int .i64 eAtW6, .int .i64 eEpoch7, .slice eBody8a eBody8n eBody8c, .int .u64 eSig9] 39)) fun ww10 =>
  bif Option.isNone l1 then (
  R (.int .i64 23) ww10) else (
  ∃ (I0 : Nat → List Value → World → Prop) (m12 : Nat), I0 m12 [.int .i64 0] ww10 ∧ ∀ (m13 : Nat) (ww14 : World) (t11 : Int), I0 m13 [.int .i64 t11] ww14 →
  bif decide (t11 < 3) then (
  0 ≤ (t11 : Int) ∧ (t11 : Int) < (3 : Int) ∧
  ((t11 : Int) = 0 → 
  ∃ (xWriter15 : Int) (xIndex16 : Int) (xPrev17 : Int) (xAtT18 : Int) (xAtW19 : Int) (xEpoch20 : Int) (xBody21a : Option Addr) (xBody21n : Nat) (xBody21c : Nat) (xSig22 : Int), cellsAt ww14 (blk w.heap.size) [.int .i64 xWriter15, .int .i64 xIndex16, .int .u64 xPrev17, .int .i64 xAtT18, .int .i64 xAtW19, .int .i64 xEpoch20, .slice xBody21a xBody21n xBody21c, .int .u64 xSig22] 0 ∧
  Calls Try.prog 48 #[.pointer l1, .agg #[.int .i64 xWriter15, .int .i64 xIndex16, .int .u64 xPrev17, .int .i64 xAtT18, .int .i64 xAtW19, .int .i64 xEpoch20, .slice xBody21a xBody21n xBody21c, .int .u64 xSig22]] ww14 fun ee24 ww25 => ∃ (right23 : Int), ee24 = .returned (.int .i64 right23) ∧
  bif right23 != 0 then (
  R (.int .i64 right23) ww25) else (
  ∃ m26, m26 < m13 ∧ I0 m26 [.int .i64 (IntKind.i64.wrap (t11 + 1))] ww25)) ∧
  ((t11 : Int) = 1 → 
  ∃ (xWriter27 : Int) (xIndex28 : Int) (xPrev29 : Int) (xAtT30 : Int) (xAtW31 : Int) (xEpoch32 : Int) (xBody33a : Option Addr) (xBody33n : Nat) (xBody33c : Nat) (xSig34 : Int), cellsAt ww14 (blk w.heap.size) [.int .i64 xWriter27, .int .i64 xIndex28, .int .u64 xPrev29, .int .i64 xAtT30, .int .i64 xAtW31, .int .i64 xEpoch32, .slice xBody33a xBody33n xBody33c, .int .u64 xSig34] 0 ∧
  Calls Try.prog 49 #[.pointer l1, .agg #[.int .i64 xWriter27, .int .i64 xIndex28, .int .u64 xPrev29, .int .i64 xAtT30, .int .i64 xAtW31, .int .i64 xEpoch32, .slice xBody33a xBody33n xBody33c, .int .u64 xSig34]] ww14 fun ee36 ww37 => ∃ (place35 : Int), ee36 = .returned (.int .i64 place35) ∧
  bif place35 != 0 then (
  R (.int .i64 place35) ww37) else (
  ∃ m38, m38 < m13 ∧ I0 m38 [.int .i64 (IntKind.i64.wrap (t11 + 1))] ww37)) ∧
  ((t11 : Int) = 2 → 
  ∃ (xWriter39 : Int) (xIndex40 : Int) (xPrev41 : Int) (xAtT42 : Int) (xAtW43 : Int) (xEpoch44 : Int) (xBody45a : Option Addr) (xBody45n : Nat) (xBody45c : Nat) (xSig46 : Int), cellsAt ww14 (blk w.heap.size) [.int .i64 xWriter39, .int .i64 xIndex40, .int .u64 xPrev41, .int .i64 xAtT42, .int .i64 xAtW43, .int .i64 xEpoch44, .slice xBody45a xBody45n xBody45c, .int .u64 xSig46] 0 ∧
  Calls Try.prog 39 #[.pointer l1, .agg #[.int .i64 xWriter39, .int .i64 xIndex40, .int .u64 xPrev41, .int .i64 xAtT42, .int .i64 xAtW43, .int .i64 xEpoch44, .slice xBody45a xBody45n xBody45c, .int .u64 xSig46]] ww14 fun ee48 ww49 => ∃ (behind47 : Int), ee48 = .returned (.int .i64 behind47) ∧
  bif behind47 != 0 then (
  R (.int .i64 behind47) ww49) else (
  ∃ m50, m50 < m13 ∧ I0 m50 [.int .i64 (IntKind.i64.wrap (t11 + 1))] ww49)) ∧ True) else (
  R (.int .i64 0) ww14))

theorem chain_Log_Check.eq (l1 : Option Addr) (eWriter2 : Int) (eIndex3 : Int) (ePrev4 : Int) (eAtT5 : Int) (eAtW6 : Int) (eEpoch7 : Int) (eBody8a : Option Addr) (eBody8n : Nat) (eBody8c : Nat) (eSig9 : Int) (R : Value → World → Prop) (w : World) : mfunc Try.prog [(0, [3, 16], [(17, (.one (.int .i64)))])] 26 [.pointer l1, .agg #[.int .i64 eWriter2, .int .i64 eIndex3, .int .u64 ePrev4, .int .i64 eAtT5, .int .i64 eAtW6, .int .i64 eEpoch7, .slice eBody8a eBody8n eBody8c, .int .u64 eSig9]] R w = chain_Log_Check.M l1 eWriter2 eIndex3 ePrev4 eAtT5 eAtW6 eEpoch7 eBody8a eBody8n eBody8c eSig9 R w := by kernel_rfl
theorem chain_Log_Check.ok (l1 : Option Addr) (eWriter2 : Int) (eIndex3 : Int) (ePrev4 : Int) (eAtT5 : Int) (eAtW6 : Int) (eEpoch7 : Int) (eBody8a : Option Addr) (eBody8n : Nat) (eBody8c : Nat) (eSig9 : Int) {R : Value → World → Prop} {w : World} (h : chain_Log_Check.M l1 eWriter2 eIndex3 ePrev4 eAtT5 eAtW6 eEpoch7 eBody8a eBody8n eBody8c eSig9 R w) : Calls Try.prog 26 #[.pointer l1, .agg #[.int .i64 eWriter2, .int .i64 eIndex3, .int .u64 ePrev4, .int .i64 eAtT5, .int .i64 eAtW6, .int .i64 eEpoch7, .slice eBody8a eBody8n eBody8c, .int .u64 eSig9]] w fun e w' => ∃ v, e = .returned v ∧ R v w' :=
  mfunc_ok follows (H := [(0, [3, 16], [(17, (.one (.int .i64)))])]) (args := [.pointer l1, .agg #[.int .i64 eWriter2, .int .i64 eIndex3, .int .u64 ePrev4, .int .i64 eAtT5, .int .i64 eAtW6, .int .i64 eEpoch7, .slice eBody8a eBody8n eBody8c, .int .u64 eSig9]]) (by rw [chain_Log_Check.eq]; exact h)

def chain_Log_Check.N (l1 : Option Addr) (eWriter2 : Int) (eIndex3 : Int) (ePrev4 : Int) (eAtT5 : Int) (eAtW6 : Int) (eEpoch7 : Int) (eBody8a : Option Addr) (eBody8n : Nat) (eBody8c : Nat) (eSig9 : Int) (R : Value → World → Prop) (w : World) : Prop :=
  (l1 = none →
    ∀ (ww10 : World), Ext no w ww10 →
    R (.int .i64 23) ww10) ∧
  (l1 ≠ none →
    ∀ (ww10 : World) (p13 : Nat), Ext no w ww10 → Priv w ww10 [p13] →
    ∃ (I0 : Nat → List Value → World → Prop) (m15 : Nat), I0 m15 [.int .i64 0] ww10 ∧ ∀ (m16 : Nat) (ww17 : World) (t14 : Int), I0 m16 [.int .i64 t14] ww17 →
    (t14 < 3 →
      0 ≤ (t14 : Int) ∧ (t14 : Int) < (3 : Int) ∧
      ((t14 : Int) = 0 →
        Calls Try.prog 48 #[.pointer l1, .agg #[.int .i64 eWriter2, .int .i64 eIndex3, .int .u64 ePrev4, .int .i64 eAtT5, .int .i64 eAtW6, .int .i64 eEpoch7, .slice eBody8a eBody8n eBody8c, .int .u64 eSig9]] ww17 fun ee20 ww21 => ∃ (right19 : Int), ee20 = .returned (.int .i64 right19) ∧
        Keep [p13] ww17 ww21 ∧
        (right19 ≠ 0 →
          R (.int .i64 right19) ww21) ∧
        (right19 = 0 →
          (-9223372036854775808 : Int) ≤ (t14 + 1) ∧ (t14 + 1) < 9223372036854775808 ∧
          ∃ m23, m23 < m16 ∧ I0 m23 [.int .i64 (t14 + 1)] ww21)) ∧
      ((t14 : Int) = 1 →
        Calls Try.prog 49 #[.pointer l1, .agg #[.int .i64 eWriter2, .int .i64 eIndex3, .int .u64 ePrev4, .int .i64 eAtT5, .int .i64 eAtW6, .int .i64 eEpoch7, .slice eBody8a eBody8n eBody8c, .int .u64 eSig9]] ww17 fun ee25 ww26 => ∃ (place24 : Int), ee25 = .returned (.int .i64 place24) ∧
        Keep [p13] ww17 ww26 ∧
        (place24 ≠ 0 →
          R (.int .i64 place24) ww26) ∧
        (place24 = 0 →
          (-9223372036854775808 : Int) ≤ (t14 + 1) ∧ (t14 + 1) < 9223372036854775808 ∧
          ∃ m28, m28 < m16 ∧ I0 m28 [.int .i64 (t14 + 1)] ww26)) ∧
      ((t14 : Int) = 2 →
        Calls Try.prog 39 #[.pointer l1, .agg #[.int .i64 eWriter2, .int .i64 eIndex3, .int .u64 ePrev4, .int .i64 eAtT5, .int .i64 eAtW6, .int .i64 eEpoch7, .slice eBody8a eBody8n eBody8c, .int .u64 eSig9]] ww17 fun ee30 ww31 => ∃ (behind29 : Int), ee30 = .returned (.int .i64 behind29) ∧
        Keep [p13] ww17 ww31 ∧
        (behind29 ≠ 0 →
          R (.int .i64 behind29) ww31) ∧
        (behind29 = 0 →
          (-9223372036854775808 : Int) ≤ (t14 + 1) ∧ (t14 + 1) < 9223372036854775808 ∧
          ∃ m33, m33 < m16 ∧ I0 m33 [.int .i64 (t14 + 1)] ww31))) ∧
    ((3 : Int) ≤ t14 →
      R (.int .i64 0) ww17))

theorem chain_Log_Check.up (l1 : Option Addr) (eWriter2 : Int) (eIndex3 : Int) (ePrev4 : Int) (eAtT5 : Int) (eAtW6 : Int) (eEpoch7 : Int) (eBody8a : Option Addr) (eBody8n : Nat) (eBody8c : Nat) (eSig9 : Int) {R : Value → World → Prop} {w : World} (h : chain_Log_Check.N l1 eWriter2 eIndex3 ePrev4 eAtT5 eAtW6 eEpoch7 eBody8a eBody8n eBody8c eSig9 R w) : chain_Log_Check.M l1 eWriter2 eIndex3 ePrev4 eAtT5 eAtW6 eEpoch7 eBody8a eBody8n eBody8c eSig9 R w := by
  unfold chain_Log_Check.M
  unfold chain_Log_Check.N at h
  refine thenW_in fun ww10 e10 => ?_
  have hb1 := Blk.of_new e10
  have hg1 := ((Ext.refl no w)).size
  have hx10 := (Ext.refl no w).x_alloc e10
  refine bif_of (fun c11 => ?_) (fun c11 => ?_)
  · have h := h.1 (isNone_t c11)
    have h := h ww10 hx10
    exact h
  · have h := h.2 (isNone_f c11)
    have h := h ww10 (w.heap.size) hx10 (Priv.cons hg1 hb1.lt Priv.nil)
    obtain ⟨I0, m15, h0, h⟩ := h
    refine ⟨fun k vs ww => Blk ww w.heap.size 39 [.int .i64 eWriter2, .int .i64 eIndex3, .int .u64 ePrev4, .int .i64 eAtT5, .int .i64 eAtW6, .int .i64 eEpoch7, .slice eBody8a eBody8n eBody8c, .int .u64 eSig9] ∧ I0 k vs ww, m15, ⟨hb1, h0⟩, fun m16 ww17 t14 hI => ?_⟩
    obtain ⟨hb1, hI⟩ := hI
    have h := h m16 ww17 t14 hI
    refine bif_of (fun c18 => ?_) (fun c18 => ?_)
    · have h := h.1 (of_decide_eq_true c18)
      obtain ⟨hq1, hq2, h⟩ := h
      refine ⟨hq1, hq2, ?_⟩
      refine ⟨fun hk => ?_, fun hk => ?_, fun hk => ?_, trivial⟩
      · have h := h.1 hk
        refine ⟨eWriter2, eIndex3, ePrev4, eAtT5, eAtW6, eEpoch7, eBody8a, eBody8n, eBody8c, eSig9, ⟨hb1.celli 0 rfl rfl, hb1.celli 1 rfl rfl, hb1.celli 2 rfl rfl, hb1.celli 3 rfl rfl, hb1.celli 4 rfl rfl, hb1.celli 5 rfl rfl, hb1.celli 6 rfl rfl, hb1.celli 7 rfl rfl, trivial⟩, ?_⟩
        refine h.mono fun ee20 ww21 h => ?_
        obtain ⟨right19, he, hk, h⟩ := h
        refine ⟨right19, he, ?_⟩
        have hb1 := hk.blk hb1 (by simp)
        refine bif_of (fun c22 => ?_) (fun c22 => ?_)
        · have h := h.1 (bne_t c22)
          exact h
        · have h := h.2 (bne_f c22)
          obtain ⟨hw1, hw2, h⟩ := h
          try rw [w64 hw1 hw2]
          obtain ⟨m23, hk, h⟩ := h
          exact ⟨m23, hk, hb1, h⟩
      · have h := h.2.1 hk
        refine ⟨eWriter2, eIndex3, ePrev4, eAtT5, eAtW6, eEpoch7, eBody8a, eBody8n, eBody8c, eSig9, ⟨hb1.celli 0 rfl rfl, hb1.celli 1 rfl rfl, hb1.celli 2 rfl rfl, hb1.celli 3 rfl rfl, hb1.celli 4 rfl rfl, hb1.celli 5 rfl rfl, hb1.celli 6 rfl rfl, hb1.celli 7 rfl rfl, trivial⟩, ?_⟩
        refine h.mono fun ee25 ww26 h => ?_
        obtain ⟨place24, he, hk, h⟩ := h
        refine ⟨place24, he, ?_⟩
        have hb1 := hk.blk hb1 (by simp)
        refine bif_of (fun c27 => ?_) (fun c27 => ?_)
        · have h := h.1 (bne_t c27)
          exact h
        · have h := h.2 (bne_f c27)
          obtain ⟨hw1, hw2, h⟩ := h
          try rw [w64 hw1 hw2]
          obtain ⟨m28, hk, h⟩ := h
          exact ⟨m28, hk, hb1, h⟩
      · have h := h.2.2 hk
        refine ⟨eWriter2, eIndex3, ePrev4, eAtT5, eAtW6, eEpoch7, eBody8a, eBody8n, eBody8c, eSig9, ⟨hb1.celli 0 rfl rfl, hb1.celli 1 rfl rfl, hb1.celli 2 rfl rfl, hb1.celli 3 rfl rfl, hb1.celli 4 rfl rfl, hb1.celli 5 rfl rfl, hb1.celli 6 rfl rfl, hb1.celli 7 rfl rfl, trivial⟩, ?_⟩
        refine h.mono fun ee30 ww31 h => ?_
        obtain ⟨behind29, he, hk, h⟩ := h
        refine ⟨behind29, he, ?_⟩
        have hb1 := hk.blk hb1 (by simp)
        refine bif_of (fun c32 => ?_) (fun c32 => ?_)
        · have h := h.1 (bne_t c32)
          exact h
        · have h := h.2 (bne_f c32)
          obtain ⟨hw1, hw2, h⟩ := h
          try rw [w64 hw1 hw2]
          obtain ⟨m33, hk, h⟩ := h
          exact ⟨m33, hk, hb1, h⟩
    · have h := h.2 (Int.not_lt.1 (of_decide_eq_false c18))
      exact h

theorem chain_Log_Check.go (l1 : Option Addr) (eWriter2 : Int) (eIndex3 : Int) (ePrev4 : Int) (eAtT5 : Int) (eAtW6 : Int) (eEpoch7 : Int) (eBody8a : Option Addr) (eBody8n : Nat) (eBody8c : Nat) (eSig9 : Int) {R : Value → World → Prop} {w : World} (h : chain_Log_Check.N l1 eWriter2 eIndex3 ePrev4 eAtT5 eAtW6 eEpoch7 eBody8a eBody8n eBody8c eSig9 R w) : Calls Try.prog 26 #[.pointer l1, .agg #[.int .i64 eWriter2, .int .i64 eIndex3, .int .u64 ePrev4, .int .i64 eAtT5, .int .i64 eAtW6, .int .i64 eEpoch7, .slice eBody8a eBody8n eBody8c, .int .u64 eSig9]] w fun e w' => ∃ v, e = .returned v ∧ R v w' := chain_Log_Check.ok l1 eWriter2 eIndex3 ePrev4 eAtT5 eAtW6 eEpoch7 eBody8a eBody8n eBody8c eSig9 (chain_Log_Check.up l1 eWriter2 eIndex3 ePrev4 eAtT5 eAtW6 eEpoch7 eBody8a eBody8n eBody8c eSig9 h)
theorem chain_Log_Check.run (l1 : Option Addr) (eWriter2 : Int) (eIndex3 : Int) (ePrev4 : Int) (eAtT5 : Int) (eAtW6 : Int) (eEpoch7 : Int) (eBody8a : Option Addr) (eBody8n : Nat) (eBody8c : Nat) (eSig9 : Int) {V : Value} {Q : World → Prop} {w : World} (h : chain_Log_Check.N l1 eWriter2 eIndex3 ePrev4 eAtT5 eAtW6 eEpoch7 eBody8a eBody8n eBody8c eSig9 (fun v w' => v = V ∧ Q w') w) : Calls Try.prog 26 #[.pointer l1, .agg #[.int .i64 eWriter2, .int .i64 eIndex3, .int .u64 ePrev4, .int .i64 eAtT5, .int .i64 eAtW6, .int .i64 eEpoch7, .slice eBody8a eBody8n eBody8c, .int .u64 eSig9]] w (Ret V Q) := (chain_Log_Check.go l1 eWriter2 eIndex3 ePrev4 eAtT5 eAtW6 eEpoch7 eBody8a eBody8n eBody8c eSig9 h).mono fun e w' ⟨v, he, hv, hq⟩ => ⟨by rw [he, hv], hq⟩

/-- (*chain.Log).put -/
def chain_Log_put.M (l1 : Option Addr) (eWriter2 : Int) (eIndex3 : Int) (ePrev4 : Int) (eAtT5 : Int) (eAtW6 : Int) (eEpoch7 : Int) (eBody8a : Option Addr) (eBody8n : Nat) (eBody8c : Nat) (eSig9 : Int) (R : Value → World → Prop) (w : World) : Prop :=
  thenW (w.alloc (.cells #[.int .i64 eWriter2, .int .i64 eIndex3, .int .u64 ePrev4, .int .i64 eAtT5, .int .i64 eAtW6, .int .i64 eEpoch7, .slice eBody8a eBody8n eBody8c, .int .u64 eSig9] 39)) fun ww10 =>
  thenW (ww10.drew) fun ww11 =>
  l1.elim False fun a12 =>
  ∃ (l13a : Option Addr) (l13n : Nat) (l13c : Nat), ww11.cell? (a12.add 3) = some (.slice l13a l13n l13c) ∧
  ∃ (xWriter14 : Int) (xIndex15 : Int) (xPrev16 : Int) (xAtT17 : Int) (xAtW18 : Int) (xEpoch19 : Int) (xBody20a : Option Addr) (xBody20n : Nat) (xBody20c : Nat) (xSig21 : Int), cellsAt ww11 (blk w.heap.size) [.int .i64 xWriter14, .int .i64 xIndex15, .int .u64 xPrev16, .int .i64 xAtT17, .int .i64 xAtW18, .int .i64 xEpoch19, .slice xBody20a xBody20n xBody20c, .int .u64 xSig21] 0 ∧
  Calls Try.prog 42 #[.agg #[.int .i64 xWriter14, .int .i64 xIndex15, .int .u64 xPrev16, .int .i64 xAtT17, .int .i64 xAtW18, .int .i64 xEpoch19, .slice xBody20a xBody20n xBody20c, .int .u64 xSig21]] ww11 fun ee30 ww31 => ∃ (Writer22 : Int) (Index23 : Int) (Prev24 : Int) (AtT25 : Int) (AtW26 : Int) (Epoch27 : Int) (Body28a : Option Addr) (Body28n : Nat) (Body28c : Nat) (Sig29 : Int), ee30 = .returned (.agg #[.int .i64 Writer22, .int .i64 Index23, .int .u64 Prev24, .int .i64 AtT25, .int .i64 AtW26, .int .i64 Epoch27, .slice Body28a Body28n Body28c, .int .u64 Sig29]) ∧
  ww31.cell? (a12.add 3) = some (.slice l13a l13n l13c) ∧
  thenW (ww31.alloc (.cells #[.int .i64 Writer22, .int .i64 Index23, .int .u64 Prev24, .int .i64 AtT25, .int .i64 AtW26, .int .i64 Epoch27, .slice Body28a Body28n Body28c, .int .u64 Sig29] 39)) fun ww32 =>
  ww32.cell? (a12.add 3) = some (.slice l13a l13n l13c) ∧
  ∃ (a33a : Option Addr) (a33n : Nat) (a33c : Nat) (ww34 : World), (Builtin.append_ #[49, 49] 49 #[.slice l13a l13n l13c, .slice (some (blk ww31.heap.size)) 1 1]).run Try.prog ww32 = .ok (.slice a33a a33n a33c) ww34 ∧
  l1.elim False fun a35 =>
  canStore ww34 ((a35.add 3).add 0) ∧
  thenW (ww34.setCell ((a35.add 3).add 0) (.slice a33a a33n a33c)) fun ww36 =>
  thenW (ww36.drew) fun ww37 =>
  l1.elim False fun a38 =>
  ∃ (o39 : Option Addr), ww37.cell? (a38.add 0) = some (.pointer o39) ∧
  ∃ (xWriter40 : Int) (xIndex41 : Int) (xPrev42 : Int) (xAtT43 : Int) (xAtW44 : Int) (xEpoch45 : Int) (xBody46a : Option Addr) (xBody46n : Nat) (xBody46c : Nat) (xSig47 : Int), cellsAt ww37 (blk w.heap.size) [.int .i64 xWriter40, .int .i64 xIndex41, .int .u64 xPrev42, .int .i64 xAtT43, .int .i64 xAtW44, .int .i64 xEpoch45, .slice xBody46a xBody46n xBody46c, .int .u64 xSig47] 0 ∧
  Calls Try.prog 51 #[.pointer o39, .agg #[.int .i64 xWriter40, .int .i64 xIndex41, .int .u64 xPrev42, .int .i64 xAtT43, .int .i64 xAtW44, .int .i64 xEpoch45, .slice xBody46a xBody46n xBody46c, .int .u64 xSig47]] ww37 fun ee50 ww51 => ∃ (sum48 : Int) (sum49 : Int), ee50 = .returned (.tuple #[.int .u64 sum48, .int .i64 sum49]) ∧
  l1.elim False fun a52 =>
  canStore ww51 ((a52.add 4).add 0) ∧
  thenW (ww51.setCell ((a52.add 4).add 0) (.int .u64 sum48)) fun ww53 =>
  R (.tuple #[]) ww53

theorem chain_Log_put.eq (l1 : Option Addr) (eWriter2 : Int) (eIndex3 : Int) (ePrev4 : Int) (eAtT5 : Int) (eAtW6 : Int) (eEpoch7 : Int) (eBody8a : Option Addr) (eBody8n : Nat) (eBody8c : Nat) (eSig9 : Int) (R : Value → World → Prop) (w : World) : mfunc Try.prog [] 41 [.pointer l1, .agg #[.int .i64 eWriter2, .int .i64 eIndex3, .int .u64 ePrev4, .int .i64 eAtT5, .int .i64 eAtW6, .int .i64 eEpoch7, .slice eBody8a eBody8n eBody8c, .int .u64 eSig9]] R w = chain_Log_put.M l1 eWriter2 eIndex3 ePrev4 eAtT5 eAtW6 eEpoch7 eBody8a eBody8n eBody8c eSig9 R w := by kernel_rfl
theorem chain_Log_put.ok (l1 : Option Addr) (eWriter2 : Int) (eIndex3 : Int) (ePrev4 : Int) (eAtT5 : Int) (eAtW6 : Int) (eEpoch7 : Int) (eBody8a : Option Addr) (eBody8n : Nat) (eBody8c : Nat) (eSig9 : Int) {R : Value → World → Prop} {w : World} (h : chain_Log_put.M l1 eWriter2 eIndex3 ePrev4 eAtT5 eAtW6 eEpoch7 eBody8a eBody8n eBody8c eSig9 R w) : Calls Try.prog 41 #[.pointer l1, .agg #[.int .i64 eWriter2, .int .i64 eIndex3, .int .u64 ePrev4, .int .i64 eAtT5, .int .i64 eAtW6, .int .i64 eEpoch7, .slice eBody8a eBody8n eBody8c, .int .u64 eSig9]] w fun e w' => ∃ v, e = .returned v ∧ R v w' :=
  mfunc_ok follows (H := []) (args := [.pointer l1, .agg #[.int .i64 eWriter2, .int .i64 eIndex3, .int .u64 ePrev4, .int .i64 eAtT5, .int .i64 eAtW6, .int .i64 eEpoch7, .slice eBody8a eBody8n eBody8c, .int .u64 eSig9]]) (by rw [chain_Log_put.eq]; exact h)

def chain_Log_put.N (l1 : Option Addr) (eWriter2 : Int) (eIndex3 : Int) (ePrev4 : Int) (eAtT5 : Int) (eAtW6 : Int) (eEpoch7 : Int) (eBody8a : Option Addr) (eBody8n : Nat) (eBody8c : Nat) (eSig9 : Int) (R : Value → World → Prop) (w : World) : Prop :=
  ∃ a12 : Addr, l1 = some a12 ∧
  ∃ (l14a : Option Addr) (l14n : Nat) (l14c : Nat), w.cell? (a12.add 3) = some (.slice l14a l14n l14c) ∧
  ∀ (ww11 : World) (p15 : Nat), Ext no w ww11 → Priv w ww11 [p15] →
  Calls Try.prog 42 #[.agg #[.int .i64 eWriter2, .int .i64 eIndex3, .int .u64 ePrev4, .int .i64 eAtT5, .int .i64 eAtW6, .int .i64 eEpoch7, .slice eBody8a eBody8n eBody8c, .int .u64 eSig9]] ww11 fun ee24 ww25 => ∃ (Writer16 : Int) (Index17 : Int) (Prev18 : Int) (AtT19 : Int) (AtW20 : Int) (Epoch21 : Int) (Body22a : Option Addr) (Body22n : Nat) (Body22c : Nat) (Sig23 : Int), ee24 = .returned (.agg #[.int .i64 Writer16, .int .i64 Index17, .int .u64 Prev18, .int .i64 AtT19, .int .i64 AtW20, .int .i64 Epoch21, .slice Body22a Body22n Body22c, .int .u64 Sig23]) ∧
  Keep [p15] ww11 ww25 ∧
  ww25.cell? (a12.add 3) = some (.slice l14a l14n l14c) ∧
  ∀ (ww27 : World) (q28 : Nat), Ext no ww25 ww27 → Blk ww27 q28 39 [.int .i64 Writer16, .int .i64 Index17, .int .u64 Prev18, .int .i64 AtT19, .int .i64 AtW20, .int .i64 Epoch21, .slice Body22a Body22n Body22c, .int .u64 Sig23] → ww25.heap.size ≤ q28 → q28 < ww27.heap.size →
  ww27.cell? (a12.add 3) = some (.slice l14a l14n l14c) ∧
  ∃ (a30a : Option Addr) (a30n : Nat) (a30c : Nat) (ww31 : World), (Builtin.append_ #[49, 49] 49 #[.slice l14a l14n l14c, .slice (some (blk q28)) 1 1]).run Try.prog ww27 = .ok (.slice a30a a30n a30c) ww31 ∧
  Keep [p15] ww27 ww31 ∧
  canStore ww31 ((a12.add 3).add 0) ∧
  (∀ p ∈ [p15], p ≠ Addr.block (a12.add 3)) ∧
  thenW (ww31.setCell ((a12.add 3).add 0) (.slice a30a a30n a30c)) fun ww32 =>
  ∃ (o35 : Option Addr), ww32.cell? (a12.add 0) = some (.pointer o35) ∧
  ∀ (ww33 : World), Ext no ww32 ww33 →
  Calls Try.prog 51 #[.pointer o35, .agg #[.int .i64 eWriter2, .int .i64 eIndex3, .int .u64 ePrev4, .int .i64 eAtT5, .int .i64 eAtW6, .int .i64 eEpoch7, .slice eBody8a eBody8n eBody8c, .int .u64 eSig9]] ww33 fun ee38 ww39 => ∃ (sum36 : Int) (sum37 : Int), ee38 = .returned (.tuple #[.int .u64 sum36, .int .i64 sum37]) ∧
  canStore ww39 ((a12.add 4).add 0) ∧
  thenW (ww39.setCell ((a12.add 4).add 0) (.int .u64 sum36)) fun ww40 =>
  R (.tuple #[]) ww40

theorem chain_Log_put.up (l1 : Option Addr) (eWriter2 : Int) (eIndex3 : Int) (ePrev4 : Int) (eAtT5 : Int) (eAtW6 : Int) (eEpoch7 : Int) (eBody8a : Option Addr) (eBody8n : Nat) (eBody8c : Nat) (eSig9 : Int) {R : Value → World → Prop} {w : World} (h : chain_Log_put.N l1 eWriter2 eIndex3 ePrev4 eAtT5 eAtW6 eEpoch7 eBody8a eBody8n eBody8c eSig9 R w) : chain_Log_put.M l1 eWriter2 eIndex3 ePrev4 eAtT5 eAtW6 eEpoch7 eBody8a eBody8n eBody8c eSig9 R w := by
  unfold chain_Log_put.M
  unfold chain_Log_put.N at h
  refine thenW_in fun ww10 e10 => ?_
  have hb1 := Blk.of_new e10
  have hg1 := ((Ext.refl no w)).size
  have hx10 := (Ext.refl no w).x_alloc e10
  refine thenW_in fun ww11 e11 => ?_
  have hx11 := hx10.x_drew e11
  have hb1 := hb1.x_drew e11
  obtain ⟨a12, ha12, h⟩ := h
  refine elim_some ha12 ?_
  obtain ⟨l14a, l14n, l14c, hc13, h⟩ := h
  refine ⟨l14a, l14n, l14c, (hx11).cell hc13 id, ?_⟩
  refine ⟨eWriter2, eIndex3, ePrev4, eAtT5, eAtW6, eEpoch7, eBody8a, eBody8n, eBody8c, eSig9, ⟨hb1.celli 0 rfl rfl, hb1.celli 1 rfl rfl, hb1.celli 2 rfl rfl, hb1.celli 3 rfl rfl, hb1.celli 4 rfl rfl, hb1.celli 5 rfl rfl, hb1.celli 6 rfl rfl, hb1.celli 7 rfl rfl, trivial⟩, ?_⟩
  have h := h ww11 (w.heap.size) hx11 (Priv.cons hg1 hb1.lt Priv.nil)
  refine h.mono fun ee24 ww25 h => ?_
  obtain ⟨Writer16, Index17, Prev18, AtT19, AtW20, Epoch21, Body22a, Body22n, Body22c, Sig23, he, hk, h⟩ := h
  refine ⟨Writer16, Index17, Prev18, AtT19, AtW20, Epoch21, Body22a, Body22n, Body22c, Sig23, he, ?_⟩
  have hb1 := hk.blk hb1 (by simp)
  obtain ⟨ho26, h⟩ := h
  refine ⟨ho26, ?_⟩
  refine thenW_in fun ww27 e27 => ?_
  have hb1 := hb1.x_alloc e27
  have h := h ww27 ww25.heap.size ((Ext.refl no ww25).x_alloc e27) (Blk.of_new e27) ((Ext.refl no ww25)).size (size_lt_alloc e27)
  obtain ⟨ho29, h⟩ := h
  refine ⟨ho29, ?_⟩
  obtain ⟨a30a, a30n, a30c, ww31, hr, hk, h⟩ := h
  refine ⟨a30a, a30n, a30c, ww31, hr, ?_⟩
  have hb1 := hk.blk hb1 (by simp)
  refine elim_some ha12 ?_
  obtain ⟨hcs, hof, h⟩ := h
  refine ⟨hcs, thenW_in fun ww32 e32 => ?_⟩
  replace h := thenW_out h e32
  have hb1 := hb1.off (by rw [block_add]; exact hof _ (by simp)) e32
  refine thenW_in fun ww33 e33 => ?_
  have hx33 := (Ext.refl no ww32).x_drew e33
  have hb1 := hb1.x_drew e33
  refine elim_some ha12 ?_
  obtain ⟨o35, hc34, h⟩ := h
  refine ⟨o35, (hx33).cell hc34 id, ?_⟩
  refine ⟨eWriter2, eIndex3, ePrev4, eAtT5, eAtW6, eEpoch7, eBody8a, eBody8n, eBody8c, eSig9, ⟨hb1.celli 0 rfl rfl, hb1.celli 1 rfl rfl, hb1.celli 2 rfl rfl, hb1.celli 3 rfl rfl, hb1.celli 4 rfl rfl, hb1.celli 5 rfl rfl, hb1.celli 6 rfl rfl, hb1.celli 7 rfl rfl, trivial⟩, ?_⟩
  have h := h ww33 hx33
  refine h.mono fun ee38 ww39 h => ?_
  obtain ⟨sum36, sum37, he, h⟩ := h
  refine ⟨sum36, sum37, he, ?_⟩
  refine elim_some ha12 ?_
  obtain ⟨hcs, h⟩ := h
  refine ⟨hcs, thenW_in fun ww40 e40 => ?_⟩
  replace h := thenW_out h e40
  exact h

theorem chain_Log_put.go (l1 : Option Addr) (eWriter2 : Int) (eIndex3 : Int) (ePrev4 : Int) (eAtT5 : Int) (eAtW6 : Int) (eEpoch7 : Int) (eBody8a : Option Addr) (eBody8n : Nat) (eBody8c : Nat) (eSig9 : Int) {R : Value → World → Prop} {w : World} (h : chain_Log_put.N l1 eWriter2 eIndex3 ePrev4 eAtT5 eAtW6 eEpoch7 eBody8a eBody8n eBody8c eSig9 R w) : Calls Try.prog 41 #[.pointer l1, .agg #[.int .i64 eWriter2, .int .i64 eIndex3, .int .u64 ePrev4, .int .i64 eAtT5, .int .i64 eAtW6, .int .i64 eEpoch7, .slice eBody8a eBody8n eBody8c, .int .u64 eSig9]] w fun e w' => ∃ v, e = .returned v ∧ R v w' := chain_Log_put.ok l1 eWriter2 eIndex3 ePrev4 eAtT5 eAtW6 eEpoch7 eBody8a eBody8n eBody8c eSig9 (chain_Log_put.up l1 eWriter2 eIndex3 ePrev4 eAtT5 eAtW6 eEpoch7 eBody8a eBody8n eBody8c eSig9 h)
theorem chain_Log_put.run (l1 : Option Addr) (eWriter2 : Int) (eIndex3 : Int) (ePrev4 : Int) (eAtT5 : Int) (eAtW6 : Int) (eEpoch7 : Int) (eBody8a : Option Addr) (eBody8n : Nat) (eBody8c : Nat) (eSig9 : Int) {V : Value} {Q : World → Prop} {w : World} (h : chain_Log_put.N l1 eWriter2 eIndex3 ePrev4 eAtT5 eAtW6 eEpoch7 eBody8a eBody8n eBody8c eSig9 (fun v w' => v = V ∧ Q w') w) : Calls Try.prog 41 #[.pointer l1, .agg #[.int .i64 eWriter2, .int .i64 eIndex3, .int .u64 ePrev4, .int .i64 eAtT5, .int .i64 eAtW6, .int .i64 eEpoch7, .slice eBody8a eBody8n eBody8c, .int .u64 eSig9]] w (Ret V Q) := (chain_Log_put.go l1 eWriter2 eIndex3 ePrev4 eAtT5 eAtW6 eEpoch7 eBody8a eBody8n eBody8c eSig9 h).mono fun e w' ⟨v, he, hv, hq⟩ => ⟨by rw [he, hv], hq⟩

/-- (*chain.Log).Accept -/
def chain_Log_Accept.M (l1 : Option Addr) (eWriter2 : Int) (eIndex3 : Int) (ePrev4 : Int) (eAtT5 : Int) (eAtW6 : Int) (eEpoch7 : Int) (eBody8a : Option Addr) (eBody8n : Nat) (eBody8c : Nat) (eSig9 : Int) (R : Value → World → Prop) (w : World) : Prop :=
  thenW (w.alloc (.cells #[.int .i64 eWriter2, .int .i64 eIndex3, .int .u64 ePrev4, .int .i64 eAtT5, .int .i64 eAtW6, .int .i64 eEpoch7, .slice eBody8a eBody8n eBody8c, .int .u64 eSig9] 39)) fun ww10 =>
  ∃ (xWriter11 : Int) (xIndex12 : Int) (xPrev13 : Int) (xAtT14 : Int) (xAtW15 : Int) (xEpoch16 : Int) (xBody17a : Option Addr) (xBody17n : Nat) (xBody17c : Nat) (xSig18 : Int), cellsAt ww10 (blk w.heap.size) [.int .i64 xWriter11, .int .i64 xIndex12, .int .u64 xPrev13, .int .i64 xAtT14, .int .i64 xAtW15, .int .i64 xEpoch16, .slice xBody17a xBody17n xBody17c, .int .u64 xSig18] 0 ∧
  Calls Try.prog 26 #[.pointer l1, .agg #[.int .i64 xWriter11, .int .i64 xIndex12, .int .u64 xPrev13, .int .i64 xAtT14, .int .i64 xAtW15, .int .i64 xEpoch16, .slice xBody17a xBody17n xBody17c, .int .u64 xSig18]] ww10 fun ee20 ww21 => ∃ (check19 : Int), ee20 = .returned (.int .i64 check19) ∧
  bif check19 == 0 then (
  ∃ (xWriter22 : Int) (xIndex23 : Int) (xPrev24 : Int) (xAtT25 : Int) (xAtW26 : Int) (xEpoch27 : Int) (xBody28a : Option Addr) (xBody28n : Nat) (xBody28c : Nat) (xSig29 : Int), cellsAt ww21 (blk w.heap.size) [.int .i64 xWriter22, .int .i64 xIndex23, .int .u64 xPrev24, .int .i64 xAtT25, .int .i64 xAtW26, .int .i64 xEpoch27, .slice xBody28a xBody28n xBody28c, .int .u64 xSig29] 0 ∧
  Calls Try.prog 41 #[.pointer l1, .agg #[.int .i64 xWriter22, .int .i64 xIndex23, .int .u64 xPrev24, .int .i64 xAtT25, .int .i64 xAtW26, .int .i64 xEpoch27, .slice xBody28a xBody28n xBody28c, .int .u64 xSig29]] ww21 fun ee30 ww31 => ee30 = .returned (.tuple #[]) ∧
  R (.int .i64 check19) ww31) else (
  R (.int .i64 check19) ww21)

theorem chain_Log_Accept.eq (l1 : Option Addr) (eWriter2 : Int) (eIndex3 : Int) (ePrev4 : Int) (eAtT5 : Int) (eAtW6 : Int) (eEpoch7 : Int) (eBody8a : Option Addr) (eBody8n : Nat) (eBody8c : Nat) (eSig9 : Int) (R : Value → World → Prop) (w : World) : mfunc Try.prog [] 15 [.pointer l1, .agg #[.int .i64 eWriter2, .int .i64 eIndex3, .int .u64 ePrev4, .int .i64 eAtT5, .int .i64 eAtW6, .int .i64 eEpoch7, .slice eBody8a eBody8n eBody8c, .int .u64 eSig9]] R w = chain_Log_Accept.M l1 eWriter2 eIndex3 ePrev4 eAtT5 eAtW6 eEpoch7 eBody8a eBody8n eBody8c eSig9 R w := by kernel_rfl
theorem chain_Log_Accept.ok (l1 : Option Addr) (eWriter2 : Int) (eIndex3 : Int) (ePrev4 : Int) (eAtT5 : Int) (eAtW6 : Int) (eEpoch7 : Int) (eBody8a : Option Addr) (eBody8n : Nat) (eBody8c : Nat) (eSig9 : Int) {R : Value → World → Prop} {w : World} (h : chain_Log_Accept.M l1 eWriter2 eIndex3 ePrev4 eAtT5 eAtW6 eEpoch7 eBody8a eBody8n eBody8c eSig9 R w) : Calls Try.prog 15 #[.pointer l1, .agg #[.int .i64 eWriter2, .int .i64 eIndex3, .int .u64 ePrev4, .int .i64 eAtT5, .int .i64 eAtW6, .int .i64 eEpoch7, .slice eBody8a eBody8n eBody8c, .int .u64 eSig9]] w fun e w' => ∃ v, e = .returned v ∧ R v w' :=
  mfunc_ok follows (H := []) (args := [.pointer l1, .agg #[.int .i64 eWriter2, .int .i64 eIndex3, .int .u64 ePrev4, .int .i64 eAtT5, .int .i64 eAtW6, .int .i64 eEpoch7, .slice eBody8a eBody8n eBody8c, .int .u64 eSig9]]) (by rw [chain_Log_Accept.eq]; exact h)

def chain_Log_Accept.N (l1 : Option Addr) (eWriter2 : Int) (eIndex3 : Int) (ePrev4 : Int) (eAtT5 : Int) (eAtW6 : Int) (eEpoch7 : Int) (eBody8a : Option Addr) (eBody8n : Nat) (eBody8c : Nat) (eSig9 : Int) (R : Value → World → Prop) (w : World) : Prop :=
  ∀ (ww10 : World) (p11 : Nat), Ext no w ww10 → Priv w ww10 [p11] →
  Calls Try.prog 26 #[.pointer l1, .agg #[.int .i64 eWriter2, .int .i64 eIndex3, .int .u64 ePrev4, .int .i64 eAtT5, .int .i64 eAtW6, .int .i64 eEpoch7, .slice eBody8a eBody8n eBody8c, .int .u64 eSig9]] ww10 fun ee13 ww14 => ∃ (check12 : Int), ee13 = .returned (.int .i64 check12) ∧
  Keep [p11] ww10 ww14 ∧
  (check12 = 0 →
    Calls Try.prog 41 #[.pointer l1, .agg #[.int .i64 eWriter2, .int .i64 eIndex3, .int .u64 ePrev4, .int .i64 eAtT5, .int .i64 eAtW6, .int .i64 eEpoch7, .slice eBody8a eBody8n eBody8c, .int .u64 eSig9]] ww14 fun ee16 ww17 => ee16 = .returned (.tuple #[]) ∧
    R (.int .i64 check12) ww17) ∧
  (check12 ≠ 0 →
    R (.int .i64 check12) ww14)

theorem chain_Log_Accept.up (l1 : Option Addr) (eWriter2 : Int) (eIndex3 : Int) (ePrev4 : Int) (eAtT5 : Int) (eAtW6 : Int) (eEpoch7 : Int) (eBody8a : Option Addr) (eBody8n : Nat) (eBody8c : Nat) (eSig9 : Int) {R : Value → World → Prop} {w : World} (h : chain_Log_Accept.N l1 eWriter2 eIndex3 ePrev4 eAtT5 eAtW6 eEpoch7 eBody8a eBody8n eBody8c eSig9 R w) : chain_Log_Accept.M l1 eWriter2 eIndex3 ePrev4 eAtT5 eAtW6 eEpoch7 eBody8a eBody8n eBody8c eSig9 R w := by
  unfold chain_Log_Accept.M
  unfold chain_Log_Accept.N at h
  refine thenW_in fun ww10 e10 => ?_
  have hb1 := Blk.of_new e10
  have hg1 := ((Ext.refl no w)).size
  have hx10 := (Ext.refl no w).x_alloc e10
  refine ⟨eWriter2, eIndex3, ePrev4, eAtT5, eAtW6, eEpoch7, eBody8a, eBody8n, eBody8c, eSig9, ⟨hb1.celli 0 rfl rfl, hb1.celli 1 rfl rfl, hb1.celli 2 rfl rfl, hb1.celli 3 rfl rfl, hb1.celli 4 rfl rfl, hb1.celli 5 rfl rfl, hb1.celli 6 rfl rfl, hb1.celli 7 rfl rfl, trivial⟩, ?_⟩
  have h := h ww10 (w.heap.size) hx10 (Priv.cons hg1 hb1.lt Priv.nil)
  refine h.mono fun ee13 ww14 h => ?_
  obtain ⟨check12, he, hk, h⟩ := h
  refine ⟨check12, he, ?_⟩
  have hb1 := hk.blk hb1 (by simp)
  refine bif_of (fun c15 => ?_) (fun c15 => ?_)
  · have h := h.1 (beq_t c15)
    refine ⟨eWriter2, eIndex3, ePrev4, eAtT5, eAtW6, eEpoch7, eBody8a, eBody8n, eBody8c, eSig9, ⟨hb1.celli 0 rfl rfl, hb1.celli 1 rfl rfl, hb1.celli 2 rfl rfl, hb1.celli 3 rfl rfl, hb1.celli 4 rfl rfl, hb1.celli 5 rfl rfl, hb1.celli 6 rfl rfl, hb1.celli 7 rfl rfl, trivial⟩, ?_⟩
    refine h.mono fun ee16 ww17 h => ?_
    obtain ⟨he, h⟩ := h
    refine ⟨he, ?_⟩
    exact h
  · have h := h.2 (beq_f c15)
    exact h

theorem chain_Log_Accept.go (l1 : Option Addr) (eWriter2 : Int) (eIndex3 : Int) (ePrev4 : Int) (eAtT5 : Int) (eAtW6 : Int) (eEpoch7 : Int) (eBody8a : Option Addr) (eBody8n : Nat) (eBody8c : Nat) (eSig9 : Int) {R : Value → World → Prop} {w : World} (h : chain_Log_Accept.N l1 eWriter2 eIndex3 ePrev4 eAtT5 eAtW6 eEpoch7 eBody8a eBody8n eBody8c eSig9 R w) : Calls Try.prog 15 #[.pointer l1, .agg #[.int .i64 eWriter2, .int .i64 eIndex3, .int .u64 ePrev4, .int .i64 eAtT5, .int .i64 eAtW6, .int .i64 eEpoch7, .slice eBody8a eBody8n eBody8c, .int .u64 eSig9]] w fun e w' => ∃ v, e = .returned v ∧ R v w' := chain_Log_Accept.ok l1 eWriter2 eIndex3 ePrev4 eAtT5 eAtW6 eEpoch7 eBody8a eBody8n eBody8c eSig9 (chain_Log_Accept.up l1 eWriter2 eIndex3 ePrev4 eAtT5 eAtW6 eEpoch7 eBody8a eBody8n eBody8c eSig9 h)
theorem chain_Log_Accept.run (l1 : Option Addr) (eWriter2 : Int) (eIndex3 : Int) (ePrev4 : Int) (eAtT5 : Int) (eAtW6 : Int) (eEpoch7 : Int) (eBody8a : Option Addr) (eBody8n : Nat) (eBody8c : Nat) (eSig9 : Int) {V : Value} {Q : World → Prop} {w : World} (h : chain_Log_Accept.N l1 eWriter2 eIndex3 ePrev4 eAtT5 eAtW6 eEpoch7 eBody8a eBody8n eBody8c eSig9 (fun v w' => v = V ∧ Q w') w) : Calls Try.prog 15 #[.pointer l1, .agg #[.int .i64 eWriter2, .int .i64 eIndex3, .int .u64 ePrev4, .int .i64 eAtT5, .int .i64 eAtW6, .int .i64 eEpoch7, .slice eBody8a eBody8n eBody8c, .int .u64 eSig9]] w (Ret V Q) := (chain_Log_Accept.go l1 eWriter2 eIndex3 ePrev4 eAtT5 eAtW6 eEpoch7 eBody8a eBody8n eBody8c eSig9 h).mono fun e w' ⟨v, he, hv, hq⟩ => ⟨by rw [he, hv], hq⟩

/-- (*chain.Log).Issue -/
def chain_Log_Issue.M (l1 : Option Addr) (secret2 : Int) (atT3 : Int) (atW4 : Int) (epoch5 : Int) (body6a : Option Addr) (body6n : Nat) (body6c : Nat) (R : Value → World → Prop) (w : World) : Prop :=
  thenW (w.alloc (.cells #[.int .i64 atT3, .int .i64 atW4] 37)) fun ww7 =>
  thenW (ww7.alloc (.cells #[.int .i64 0, .int .i64 0, .int .u64 0, .int .i64 0, .int .i64 0, .int .i64 0, .slice none 0 0, .int .u64 0] 39)) fun ww8 =>
  bif Option.isNone l1 then (
  canStore ww8 ((blk ww7.heap.size).add 0) ∧
  thenW (ww8.setCell ((blk ww7.heap.size).add 0) (.int .i64 0)) fun ww9 =>
  canStore ww9 ((blk ww7.heap.size).add 1) ∧
  thenW (ww9.setCell ((blk ww7.heap.size).add 1) (.int .i64 0)) fun ww10 =>
  canStore ww10 ((blk ww7.heap.size).add 2) ∧
  thenW (ww10.setCell ((blk ww7.heap.size).add 2) (.int .u64 0)) fun ww11 =>
  canStore ww11 ((blk ww7.heap.size).add 3) ∧
  thenW (ww11.setCell ((blk ww7.heap.size).add 3) (.int .i64 0)) fun ww12 =>
  canStore ww12 ((blk ww7.heap.size).add 4) ∧
  thenW (ww12.setCell ((blk ww7.heap.size).add 4) (.int .i64 0)) fun ww13 =>
  canStore ww13 ((blk ww7.heap.size).add 5) ∧
  thenW (ww13.setCell ((blk ww7.heap.size).add 5) (.int .i64 0)) fun ww14 =>
  canStore ww14 ((blk ww7.heap.size).add 6) ∧
  thenW (ww14.setCell ((blk ww7.heap.size).add 6) (.slice none 0 0)) fun ww15 =>
  canStore ww15 ((blk ww7.heap.size).add 7) ∧
  thenW (ww15.setCell ((blk ww7.heap.size).add 7) (.int .u64 0)) fun ww16 =>
  ∃ (resWriter17 : Int) (resIndex18 : Int) (resPrev19 : Int) (resAtT20 : Int) (resAtW21 : Int) (resEpoch22 : Int) (resBody23a : Option Addr) (resBody23n : Nat) (resBody23c : Nat) (resSig24 : Int), cellsAt ww16 (blk ww7.heap.size) [.int .i64 resWriter17, .int .i64 resIndex18, .int .u64 resPrev19, .int .i64 resAtT20, .int .i64 resAtW21, .int .i64 resEpoch22, .slice resBody23a resBody23n resBody23c, .int .u64 resSig24] 0 ∧
  R (.tuple #[.agg #[.int .i64 resWriter17, .int .i64 resIndex18, .int .u64 resPrev19, .int .i64 resAtT20, .int .i64 resAtW21, .int .i64 resEpoch22, .slice resBody23a resBody23n resBody23c, .int .u64 resSig24], .int .i64 23]) ww16) else (
  l1.elim False fun a25 =>
  ∃ (l26a : Option Addr) (l26n : Nat) (l26c : Nat), ww8.cell? (a25.add 3) = some (.slice l26a l26n l26c) ∧
  bif decide ((l26n : Int) ≥ 200) then (
  canStore ww8 ((blk ww7.heap.size).add 0) ∧
  thenW (ww8.setCell ((blk ww7.heap.size).add 0) (.int .i64 0)) fun ww27 =>
  canStore ww27 ((blk ww7.heap.size).add 1) ∧
  thenW (ww27.setCell ((blk ww7.heap.size).add 1) (.int .i64 0)) fun ww28 =>
  canStore ww28 ((blk ww7.heap.size).add 2) ∧
  thenW (ww28.setCell ((blk ww7.heap.size).add 2) (.int .u64 0)) fun ww29 =>
  canStore ww29 ((blk ww7.heap.size).add 3) ∧
  thenW (ww29.setCell ((blk ww7.heap.size).add 3) (.int .i64 0)) fun ww30 =>
  canStore ww30 ((blk ww7.heap.size).add 4) ∧
  thenW (ww30.setCell ((blk ww7.heap.size).add 4) (.int .i64 0)) fun ww31 =>
  canStore ww31 ((blk ww7.heap.size).add 5) ∧
  thenW (ww31.setCell ((blk ww7.heap.size).add 5) (.int .i64 0)) fun ww32 =>
  canStore ww32 ((blk ww7.heap.size).add 6) ∧
  thenW (ww32.setCell ((blk ww7.heap.size).add 6) (.slice none 0 0)) fun ww33 =>
  canStore ww33 ((blk ww7.heap.size).add 7) ∧
  thenW (ww33.setCell ((blk ww7.heap.size).add 7) (.int .u64 0)) fun ww34 =>
  ∃ (resWriter35 : Int) (resIndex36 : Int) (resPrev37 : Int) (resAtT38 : Int) (resAtW39 : Int) (resEpoch40 : Int) (resBody41a : Option Addr) (resBody41n : Nat) (resBody41c : Nat) (resSig42 : Int), cellsAt ww34 (blk ww7.heap.size) [.int .i64 resWriter35, .int .i64 resIndex36, .int .u64 resPrev37, .int .i64 resAtT38, .int .i64 resAtW39, .int .i64 resEpoch40, .slice resBody41a resBody41n resBody41c, .int .u64 resSig42] 0 ∧
  R (.tuple #[.agg #[.int .i64 resWriter35, .int .i64 resIndex36, .int .u64 resPrev37, .int .i64 resAtT38, .int .i64 resAtW39, .int .i64 resEpoch40, .slice resBody41a resBody41n resBody41c, .int .u64 resSig42], .int .i64 3]) ww34) else (
  thenW (ww8.drew) fun ww43 =>
  l1.elim False fun a44 =>
  ∃ (wv45 : Int), ww43.cell? (a44.add 1) = some (.int .i64 wv45) ∧
  l1.elim False fun a46 =>
  ∃ (l47a : Option Addr) (l47n : Nat) (l47c : Nat), ww43.cell? (a46.add 3) = some (.slice l47a l47n l47c) ∧
  l1.elim False fun a48 =>
  ∃ (sum49 : Int), ww43.cell? (a48.add 4) = some (.int .u64 sum49) ∧
  ∃ (xT50 : Int) (xW51 : Int), cellsAt ww43 (blk w.heap.size) [.int .i64 xT50, .int .i64 xW51] 0 ∧
  thenW (ww43.alloc (.cells #[.int .i64 0, .int .i64 0, .int .u64 0, .int .i64 0, .int .i64 0, .int .i64 0, .slice none 0 0, .int .u64 0] 39)) fun ww52 =>
  cellsAt ww52 (blk w.heap.size) [.int .i64 xT50, .int .i64 xW51] 0 ∧
  ww52.cell? (a48.add 4) = some (.int .u64 sum49) ∧
  ww52.cell? (a46.add 3) = some (.slice l47a l47n l47c) ∧
  ww52.cell? (a44.add 1) = some (.int .i64 wv45) ∧
  canStore ww52 ((blk ww43.heap.size).add 0) ∧
  thenW (ww52.setCell ((blk ww43.heap.size).add 0) (.int .i64 wv45)) fun ww53 =>
  canStore ww53 ((blk ww43.heap.size).add 1) ∧
  thenW (ww53.setCell ((blk ww43.heap.size).add 1) (.int .i64 (l47n : Int))) fun ww54 =>
  canStore ww54 ((blk ww43.heap.size).add 2) ∧
  thenW (ww54.setCell ((blk ww43.heap.size).add 2) (.int .u64 sum49)) fun ww55 =>
  canStore ww55 ((blk ww43.heap.size).add 3) ∧
  thenW (ww55.setCell ((blk ww43.heap.size).add 3) (.int .i64 xT50)) fun ww56 =>
  canStore ww56 ((blk ww43.heap.size).add 4) ∧
  thenW (ww56.setCell ((blk ww43.heap.size).add 4) (.int .i64 xW51)) fun ww57 =>
  canStore ww57 ((blk ww43.heap.size).add 5) ∧
  thenW (ww57.setCell ((blk ww43.heap.size).add 5) (.int .i64 epoch5)) fun ww58 =>
  canStore ww58 ((blk ww43.heap.size).add 6) ∧
  thenW (ww58.setCell ((blk ww43.heap.size).add 6) (.slice body6a body6n body6c)) fun ww59 =>
  canStore ww59 ((blk ww43.heap.size).add 7) ∧
  thenW (ww59.setCell ((blk ww43.heap.size).add 7) (.int .u64 0)) fun ww60 =>
  ∃ (xWriter61 : Int) (xIndex62 : Int) (xPrev63 : Int) (xAtT64 : Int) (xAtW65 : Int) (xEpoch66 : Int) (xBody67a : Option Addr) (xBody67n : Nat) (xBody67c : Nat) (xSig68 : Int), cellsAt ww60 (blk ww43.heap.size) [.int .i64 xWriter61, .int .i64 xIndex62, .int .u64 xPrev63, .int .i64 xAtT64, .int .i64 xAtW65, .int .i64 xEpoch66, .slice xBody67a xBody67n xBody67c, .int .u64 xSig68] 0 ∧
  Calls Try.prog 38 #[.agg #[.int .i64 xWriter61, .int .i64 xIndex62, .int .u64 xPrev63, .int .i64 xAtT64, .int .i64 xAtW65, .int .i64 xEpoch66, .slice xBody67a xBody67n xBody67c, .int .u64 xSig68]] ww60 fun ee70 ww71 => ∃ (right69 : Bool), ee70 = .returned (.bool right69) ∧
  bif !right69 then (
  canStore ww71 ((blk ww7.heap.size).add 0) ∧
  thenW (ww71.setCell ((blk ww7.heap.size).add 0) (.int .i64 0)) fun ww72 =>
  canStore ww72 ((blk ww7.heap.size).add 1) ∧
  thenW (ww72.setCell ((blk ww7.heap.size).add 1) (.int .i64 0)) fun ww73 =>
  canStore ww73 ((blk ww7.heap.size).add 2) ∧
  thenW (ww73.setCell ((blk ww7.heap.size).add 2) (.int .u64 0)) fun ww74 =>
  canStore ww74 ((blk ww7.heap.size).add 3) ∧
  thenW (ww74.setCell ((blk ww7.heap.size).add 3) (.int .i64 0)) fun ww75 =>
  canStore ww75 ((blk ww7.heap.size).add 4) ∧
  thenW (ww75.setCell ((blk ww7.heap.size).add 4) (.int .i64 0)) fun ww76 =>
  canStore ww76 ((blk ww7.heap.size).add 5) ∧
  thenW (ww76.setCell ((blk ww7.heap.size).add 5) (.int .i64 0)) fun ww77 =>
  canStore ww77 ((blk ww7.heap.size).add 6) ∧
  thenW (ww77.setCell ((blk ww7.heap.size).add 6) (.slice none 0 0)) fun ww78 =>
  canStore ww78 ((blk ww7.heap.size).add 7) ∧
  thenW (ww78.setCell ((blk ww7.heap.size).add 7) (.int .u64 0)) fun ww79 =>
  ∃ (resWriter80 : Int) (resIndex81 : Int) (resPrev82 : Int) (resAtT83 : Int) (resAtW84 : Int) (resEpoch85 : Int) (resBody86a : Option Addr) (resBody86n : Nat) (resBody86c : Nat) (resSig87 : Int), cellsAt ww79 (blk ww7.heap.size) [.int .i64 resWriter80, .int .i64 resIndex81, .int .u64 resPrev82, .int .i64 resAtT83, .int .i64 resAtW84, .int .i64 resEpoch85, .slice resBody86a resBody86n resBody86c, .int .u64 resSig87] 0 ∧
  R (.tuple #[.agg #[.int .i64 resWriter80, .int .i64 resIndex81, .int .u64 resPrev82, .int .i64 resAtT83, .int .i64 resAtW84, .int .i64 resEpoch85, .slice resBody86a resBody86n resBody86c, .int .u64 resSig87], .int .i64 1]) ww79) else (
  ∃ (xWriter88 : Int) (xIndex89 : Int) (xPrev90 : Int) (xAtT91 : Int) (xAtW92 : Int) (xEpoch93 : Int) (xBody94a : Option Addr) (xBody94n : Nat) (xBody94c : Nat) (xSig95 : Int), cellsAt ww71 (blk ww43.heap.size) [.int .i64 xWriter88, .int .i64 xIndex89, .int .u64 xPrev90, .int .i64 xAtT91, .int .i64 xAtW92, .int .i64 xEpoch93, .slice xBody94a xBody94n xBody94c, .int .u64 xSig95] 0 ∧
  Calls Try.prog 39 #[.pointer l1, .agg #[.int .i64 xWriter88, .int .i64 xIndex89, .int .u64 xPrev90, .int .i64 xAtT91, .int .i64 xAtW92, .int .i64 xEpoch93, .slice xBody94a xBody94n xBody94c, .int .u64 xSig95]] ww71 fun ee97 ww98 => ∃ (behind96 : Int), ee97 = .returned (.int .i64 behind96) ∧
  bif behind96 != 0 then (
  canStore ww98 ((blk ww7.heap.size).add 0) ∧
  thenW (ww98.setCell ((blk ww7.heap.size).add 0) (.int .i64 0)) fun ww99 =>
  canStore ww99 ((blk ww7.heap.size).add 1) ∧
  thenW (ww99.setCell ((blk ww7.heap.size).add 1) (.int .i64 0)) fun ww100 =>
  canStore ww100 ((blk ww7.heap.size).add 2) ∧
  thenW (ww100.setCell ((blk ww7.heap.size).add 2) (.int .u64 0)) fun ww101 =>
  canStore ww101 ((blk ww7.heap.size).add 3) ∧
  thenW (ww101.setCell ((blk ww7.heap.size).add 3) (.int .i64 0)) fun ww102 =>
  canStore ww102 ((blk ww7.heap.size).add 4) ∧
  thenW (ww102.setCell ((blk ww7.heap.size).add 4) (.int .i64 0)) fun ww103 =>
  canStore ww103 ((blk ww7.heap.size).add 5) ∧
  thenW (ww103.setCell ((blk ww7.heap.size).add 5) (.int .i64 0)) fun ww104 =>
  canStore ww104 ((blk ww7.heap.size).add 6) ∧
  thenW (ww104.setCell ((blk ww7.heap.size).add 6) (.slice none 0 0)) fun ww105 =>
  canStore ww105 ((blk ww7.heap.size).add 7) ∧
  thenW (ww105.setCell ((blk ww7.heap.size).add 7) (.int .u64 0)) fun ww106 =>
  ∃ (resWriter107 : Int) (resIndex108 : Int) (resPrev109 : Int) (resAtT110 : Int) (resAtW111 : Int) (resEpoch112 : Int) (resBody113a : Option Addr) (resBody113n : Nat) (resBody113c : Nat) (resSig114 : Int), cellsAt ww106 (blk ww7.heap.size) [.int .i64 resWriter107, .int .i64 resIndex108, .int .u64 resPrev109, .int .i64 resAtT110, .int .i64 resAtW111, .int .i64 resEpoch112, .slice resBody113a resBody113n resBody113c, .int .u64 resSig114] 0 ∧
  R (.tuple #[.agg #[.int .i64 resWriter107, .int .i64 resIndex108, .int .u64 resPrev109, .int .i64 resAtT110, .int .i64 resAtW111, .int .i64 resEpoch112, .slice resBody113a resBody113n resBody113c, .int .u64 resSig114], .int .i64 behind96]) ww106) else (
  thenW (ww98.drew) fun ww115 =>
  l1.elim False fun a116 =>
  ∃ (o117 : Option Addr), ww115.cell? (a116.add 0) = some (.pointer o117) ∧
  ∃ (xWriter118 : Int) (xIndex119 : Int) (xPrev120 : Int) (xAtT121 : Int) (xAtW122 : Int) (xEpoch123 : Int) (xBody124a : Option Addr) (xBody124n : Nat) (xBody124c : Nat) (xSig125 : Int), cellsAt ww115 (blk ww43.heap.size) [.int .i64 xWriter118, .int .i64 xIndex119, .int .u64 xPrev120, .int .i64 xAtT121, .int .i64 xAtW122, .int .i64 xEpoch123, .slice xBody124a xBody124n xBody124c, .int .u64 xSig125] 0 ∧
  Calls Try.prog 40 #[.pointer o117, .int .u64 secret2, .agg #[.int .i64 xWriter118, .int .i64 xIndex119, .int .u64 xPrev120, .int .i64 xAtT121, .int .i64 xAtW122, .int .i64 xEpoch123, .slice xBody124a xBody124n xBody124c, .int .u64 xSig125]] ww115 fun ee135 ww136 => ∃ (Writer126 : Int) (Index127 : Int) (Prev128 : Int) (AtT129 : Int) (AtW130 : Int) (Epoch131 : Int) (Body132a : Option Addr) (Body132n : Nat) (Body132c : Nat) (Sig133 : Int) (sign134 : Int), ee135 = .returned (.tuple #[.agg #[.int .i64 Writer126, .int .i64 Index127, .int .u64 Prev128, .int .i64 AtT129, .int .i64 AtW130, .int .i64 Epoch131, .slice Body132a Body132n Body132c, .int .u64 Sig133], .int .i64 sign134]) ∧
  canStore ww136 ((blk ww43.heap.size).add 0) ∧
  thenW (ww136.setCell ((blk ww43.heap.size).add 0) (.int .i64 Writer126)) fun ww137 =>
  canStore ww137 ((blk ww43.heap.size).add 1) ∧
  thenW (ww137.setCell ((blk ww43.heap.size).add 1) (.int .i64 Index127)) fun ww138 =>
  canStore ww138 ((blk ww43.heap.size).add 2) ∧
  thenW (ww138.setCell ((blk ww43.heap.size).add 2) (.int .u64 Prev128)) fun ww139 =>
  canStore ww139 ((blk ww43.heap.size).add 3) ∧
  thenW (ww139.setCell ((blk ww43.heap.size).add 3) (.int .i64 AtT129)) fun ww140 =>
  canStore ww140 ((blk ww43.heap.size).add 4) ∧
  thenW (ww140.setCell ((blk ww43.heap.size).add 4) (.int .i64 AtW130)) fun ww141 =>
  canStore ww141 ((blk ww43.heap.size).add 5) ∧
  thenW (ww141.setCell ((blk ww43.heap.size).add 5) (.int .i64 Epoch131)) fun ww142 =>
  canStore ww142 ((blk ww43.heap.size).add 6) ∧
  thenW (ww142.setCell ((blk ww43.heap.size).add 6) (.slice Body132a Body132n Body132c)) fun ww143 =>
  canStore ww143 ((blk ww43.heap.size).add 7) ∧
  thenW (ww143.setCell ((blk ww43.heap.size).add 7) (.int .u64 Sig133)) fun ww144 =>
  bif sign134 != 0 then (
  canStore ww144 ((blk ww7.heap.size).add 0) ∧
  thenW (ww144.setCell ((blk ww7.heap.size).add 0) (.int .i64 0)) fun ww145 =>
  canStore ww145 ((blk ww7.heap.size).add 1) ∧
  thenW (ww145.setCell ((blk ww7.heap.size).add 1) (.int .i64 0)) fun ww146 =>
  canStore ww146 ((blk ww7.heap.size).add 2) ∧
  thenW (ww146.setCell ((blk ww7.heap.size).add 2) (.int .u64 0)) fun ww147 =>
  canStore ww147 ((blk ww7.heap.size).add 3) ∧
  thenW (ww147.setCell ((blk ww7.heap.size).add 3) (.int .i64 0)) fun ww148 =>
  canStore ww148 ((blk ww7.heap.size).add 4) ∧
  thenW (ww148.setCell ((blk ww7.heap.size).add 4) (.int .i64 0)) fun ww149 =>
  canStore ww149 ((blk ww7.heap.size).add 5) ∧
  thenW (ww149.setCell ((blk ww7.heap.size).add 5) (.int .i64 0)) fun ww150 =>
  canStore ww150 ((blk ww7.heap.size).add 6) ∧
  thenW (ww150.setCell ((blk ww7.heap.size).add 6) (.slice none 0 0)) fun ww151 =>
  canStore ww151 ((blk ww7.heap.size).add 7) ∧
  thenW (ww151.setCell ((blk ww7.heap.size).add 7) (.int .u64 0)) fun ww152 =>
  ∃ (resWriter153 : Int) (resIndex154 : Int) (resPrev155 : Int) (resAtT156 : Int) (resAtW157 : Int) (resEpoch158 : Int) (resBody159a : Option Addr) (resBody159n : Nat) (resBody159c : Nat) (resSig160 : Int), cellsAt ww152 (blk ww7.heap.size) [.int .i64 resWriter153, .int .i64 resIndex154, .int .u64 resPrev155, .int .i64 resAtT156, .int .i64 resAtW157, .int .i64 resEpoch158, .slice resBody159a resBody159n resBody159c, .int .u64 resSig160] 0 ∧
  R (.tuple #[.agg #[.int .i64 resWriter153, .int .i64 resIndex154, .int .u64 resPrev155, .int .i64 resAtT156, .int .i64 resAtW157, .int .i64 resEpoch158, .slice resBody159a resBody159n resBody159c, .int .u64 resSig160], .int .i64 sign134]) ww152) else (
  ∃ (xWriter161 : Int) (xIndex162 : Int) (xPrev163 : Int) (xAtT164 : Int) (xAtW165 : Int) (xEpoch166 : Int) (xBody167a : Option Addr) (xBody167n : Nat) (xBody167c : Nat) (xSig168 : Int), cellsAt ww144 (blk ww43.heap.size) [.int .i64 xWriter161, .int .i64 xIndex162, .int .u64 xPrev163, .int .i64 xAtT164, .int .i64 xAtW165, .int .i64 xEpoch166, .slice xBody167a xBody167n xBody167c, .int .u64 xSig168] 0 ∧
  Calls Try.prog 41 #[.pointer l1, .agg #[.int .i64 xWriter161, .int .i64 xIndex162, .int .u64 xPrev163, .int .i64 xAtT164, .int .i64 xAtW165, .int .i64 xEpoch166, .slice xBody167a xBody167n xBody167c, .int .u64 xSig168]] ww144 fun ee169 ww170 => ee169 = .returned (.tuple #[]) ∧
  ∃ (xWriter171 : Int) (xIndex172 : Int) (xPrev173 : Int) (xAtT174 : Int) (xAtW175 : Int) (xEpoch176 : Int) (xBody177a : Option Addr) (xBody177n : Nat) (xBody177c : Nat) (xSig178 : Int), cellsAt ww170 (blk ww43.heap.size) [.int .i64 xWriter171, .int .i64 xIndex172, .int .u64 xPrev173, .int .i64 xAtT174, .int .i64 xAtW175, .int .i64 xEpoch176, .slice xBody177a xBody177n xBody177c, .int .u64 xSig178] 0 ∧
  canStore ww170 ((blk ww7.heap.size).add 0) ∧
  thenW (ww170.setCell ((blk ww7.heap.size).add 0) (.int .i64 xWriter171)) fun ww179 =>
  canStore ww179 ((blk ww7.heap.size).add 1) ∧
  thenW (ww179.setCell ((blk ww7.heap.size).add 1) (.int .i64 xIndex172)) fun ww180 =>
  canStore ww180 ((blk ww7.heap.size).add 2) ∧
  thenW (ww180.setCell ((blk ww7.heap.size).add 2) (.int .u64 xPrev173)) fun ww181 =>
  canStore ww181 ((blk ww7.heap.size).add 3) ∧
  thenW (ww181.setCell ((blk ww7.heap.size).add 3) (.int .i64 xAtT174)) fun ww182 =>
  canStore ww182 ((blk ww7.heap.size).add 4) ∧
  thenW (ww182.setCell ((blk ww7.heap.size).add 4) (.int .i64 xAtW175)) fun ww183 =>
  canStore ww183 ((blk ww7.heap.size).add 5) ∧
  thenW (ww183.setCell ((blk ww7.heap.size).add 5) (.int .i64 xEpoch176)) fun ww184 =>
  canStore ww184 ((blk ww7.heap.size).add 6) ∧
  thenW (ww184.setCell ((blk ww7.heap.size).add 6) (.slice xBody177a xBody177n xBody177c)) fun ww185 =>
  canStore ww185 ((blk ww7.heap.size).add 7) ∧
  thenW (ww185.setCell ((blk ww7.heap.size).add 7) (.int .u64 xSig178)) fun ww186 =>
  ∃ (resWriter187 : Int) (resIndex188 : Int) (resPrev189 : Int) (resAtT190 : Int) (resAtW191 : Int) (resEpoch192 : Int) (resBody193a : Option Addr) (resBody193n : Nat) (resBody193c : Nat) (resSig194 : Int), cellsAt ww186 (blk ww7.heap.size) [.int .i64 resWriter187, .int .i64 resIndex188, .int .u64 resPrev189, .int .i64 resAtT190, .int .i64 resAtW191, .int .i64 resEpoch192, .slice resBody193a resBody193n resBody193c, .int .u64 resSig194] 0 ∧
  R (.tuple #[.agg #[.int .i64 resWriter187, .int .i64 resIndex188, .int .u64 resPrev189, .int .i64 resAtT190, .int .i64 resAtW191, .int .i64 resEpoch192, .slice resBody193a resBody193n resBody193c, .int .u64 resSig194], .int .i64 0]) ww186)))))

theorem chain_Log_Issue.eq (l1 : Option Addr) (secret2 : Int) (atT3 : Int) (atW4 : Int) (epoch5 : Int) (body6a : Option Addr) (body6n : Nat) (body6c : Nat) (R : Value → World → Prop) (w : World) : mfunc Try.prog [] 14 [.pointer l1, .int .u64 secret2, .agg #[.int .i64 atT3, .int .i64 atW4], .int .i64 epoch5, .slice body6a body6n body6c] R w = chain_Log_Issue.M l1 secret2 atT3 atW4 epoch5 body6a body6n body6c R w := by kernel_rfl
theorem chain_Log_Issue.ok (l1 : Option Addr) (secret2 : Int) (atT3 : Int) (atW4 : Int) (epoch5 : Int) (body6a : Option Addr) (body6n : Nat) (body6c : Nat) {R : Value → World → Prop} {w : World} (h : chain_Log_Issue.M l1 secret2 atT3 atW4 epoch5 body6a body6n body6c R w) : Calls Try.prog 14 #[.pointer l1, .int .u64 secret2, .agg #[.int .i64 atT3, .int .i64 atW4], .int .i64 epoch5, .slice body6a body6n body6c] w fun e w' => ∃ v, e = .returned v ∧ R v w' :=
  mfunc_ok follows (H := []) (args := [.pointer l1, .int .u64 secret2, .agg #[.int .i64 atT3, .int .i64 atW4], .int .i64 epoch5, .slice body6a body6n body6c]) (by rw [chain_Log_Issue.eq]; exact h)

def chain_Log_Issue.N (l1 : Option Addr) (secret2 : Int) (atT3 : Int) (atW4 : Int) (epoch5 : Int) (body6a : Option Addr) (body6n : Nat) (body6c : Nat) (R : Value → World → Prop) (w : World) : Prop :=
  (l1 = none →
    ∀ (ww17 : World), Ext no w ww17 →
    R (.tuple #[.agg #[.int .i64 0, .int .i64 0, .int .u64 0, .int .i64 0, .int .i64 0, .int .i64 0, .slice none 0 0, .int .u64 0], .int .i64 23]) ww17) ∧
  (l1 ≠ none →
    ∃ a20 : Addr, l1 = some a20 ∧
    ∃ (l22a : Option Addr) (l22n : Nat) (l22c : Nat), w.cell? (a20.add 3) = some (.slice l22a l22n l22c) ∧
    ((l22n : Int) ≥ 200 →
      ∀ (ww31 : World), Ext no w ww31 →
      R (.tuple #[.agg #[.int .i64 0, .int .i64 0, .int .u64 0, .int .i64 0, .int .i64 0, .int .i64 0, .slice none 0 0, .int .u64 0], .int .i64 3]) ww31) ∧
    ((l22n : Int) < 200 →
      ∃ (wv36 : Int), w.cell? (a20.add 1) = some (.int .i64 wv36) ∧
      ∃ (l38a : Option Addr) (l38n : Nat) (l38c : Nat), w.cell? (a20.add 3) = some (.slice l38a l38n l38c) ∧
      ∃ (sum40 : Int), w.cell? (a20.add 4) = some (.int .u64 sum40) ∧
      ((entry_Right.F wv36 (l38n : Int) sum40 atT3 atW4 epoch5 body6a body6n body6c 0) = false →
        ∀ (ww59 : World), Ext no w ww59 →
        R (.tuple #[.agg #[.int .i64 0, .int .i64 0, .int .u64 0, .int .i64 0, .int .i64 0, .int .i64 0, .slice none 0 0, .int .u64 0], .int .i64 1]) ww59) ∧
      ((entry_Right.F wv36 (l38n : Int) sum40 atT3 atW4 epoch5 body6a body6n body6c 0) = true →
        ∀ (ww50 : World) (p64 : Nat) (p65 : Nat), Ext no w ww50 → Priv w ww50 [p64, p65] →
        Calls Try.prog 39 #[.pointer l1, .agg #[.int .i64 wv36, .int .i64 (l38n : Int), .int .u64 sum40, .int .i64 atT3, .int .i64 atW4, .int .i64 epoch5, .slice body6a body6n body6c, .int .u64 0]] ww50 fun ee67 ww68 => ∃ (behind66 : Int), ee67 = .returned (.int .i64 behind66) ∧
        Keep [p64, p65] ww50 ww68 ∧
        (behind66 ≠ 0 →
          ∀ (ww77 : World), Ext (fun b => b = p64) ww68 ww77 →
          R (.tuple #[.agg #[.int .i64 0, .int .i64 0, .int .u64 0, .int .i64 0, .int .i64 0, .int .i64 0, .slice none 0 0, .int .u64 0], .int .i64 behind66]) ww77) ∧
        (behind66 = 0 →
          ∃ (o80 : Option Addr), ww68.cell? (a20.add 0) = some (.pointer o80) ∧
          ∀ (ww78 : World), Ext no ww68 ww78 →
          Calls Try.prog 40 #[.pointer o80, .int .u64 secret2, .agg #[.int .i64 wv36, .int .i64 (l38n : Int), .int .u64 sum40, .int .i64 atT3, .int .i64 atW4, .int .i64 epoch5, .slice body6a body6n body6c, .int .u64 0]] ww78 fun ee90 ww91 => ∃ (Writer81 : Int) (Index82 : Int) (Prev83 : Int) (AtT84 : Int) (AtW85 : Int) (Epoch86 : Int) (Body87a : Option Addr) (Body87n : Nat) (Body87c : Nat) (Sig88 : Int) (sign89 : Int), ee90 = .returned (.tuple #[.agg #[.int .i64 Writer81, .int .i64 Index82, .int .u64 Prev83, .int .i64 AtT84, .int .i64 AtW85, .int .i64 Epoch86, .slice Body87a Body87n Body87c, .int .u64 Sig88], .int .i64 sign89]) ∧
          Keep [p64, p65] ww78 ww91 ∧
          (sign89 ≠ 0 →
            ∀ (ww108 : World), Ext (fun b => b = p64 ∨ b = p65) ww91 ww108 →
            R (.tuple #[.agg #[.int .i64 0, .int .i64 0, .int .u64 0, .int .i64 0, .int .i64 0, .int .i64 0, .slice none 0 0, .int .u64 0], .int .i64 sign89]) ww108) ∧
          (sign89 = 0 →
            ∀ (ww99 : World), Ext (fun b => b = p65) ww91 ww99 →
            Calls Try.prog 41 #[.pointer l1, .agg #[.int .i64 Writer81, .int .i64 Index82, .int .u64 Prev83, .int .i64 AtT84, .int .i64 AtW85, .int .i64 Epoch86, .slice Body87a Body87n Body87c, .int .u64 Sig88]] ww99 fun ee109 ww110 => ee109 = .returned (.tuple #[]) ∧
            Keep [p64, p65] ww99 ww110 ∧
            ∀ (ww118 : World), Ext (fun b => b = p64) ww110 ww118 →
            R (.tuple #[.agg #[.int .i64 Writer81, .int .i64 Index82, .int .u64 Prev83, .int .i64 AtT84, .int .i64 AtW85, .int .i64 Epoch86, .slice Body87a Body87n Body87c, .int .u64 Sig88], .int .i64 0]) ww118)))))

theorem chain_Log_Issue.up (l1 : Option Addr) (secret2 : Int) (atT3 : Int) (atW4 : Int) (epoch5 : Int) (body6a : Option Addr) (body6n : Nat) (body6c : Nat) {R : Value → World → Prop} {w : World} (h : chain_Log_Issue.N l1 secret2 atT3 atW4 epoch5 body6a body6n body6c R w) : chain_Log_Issue.M l1 secret2 atT3 atW4 epoch5 body6a body6n body6c R w := by
  unfold chain_Log_Issue.M
  unfold chain_Log_Issue.N at h
  refine thenW_in fun ww7 e7 => ?_
  have hb1 := Blk.of_new e7
  have hg1 := ((Ext.refl no w)).size
  have hx7 := (Ext.refl no w).x_alloc e7
  refine thenW_in fun ww8 e8 => ?_
  have hb2 := Blk.of_new e8
  have hg2 := (hx7).size
  have hb1_2 := Nat.ne_of_lt hb1.lt
  have hb1 := hb1.x_alloc e8
  have hx8 := hx7.x_alloc e8
  refine bif_of (fun c9 => ?_) (fun c9 => ?_)
  · have h := h.1 (isNone_t c9)
    refine ⟨hb2.cani 0 rfl rfl, thenW_in fun ww10 e10 => ?_⟩
    have hx10 := hx8.x_set (q := ww7.heap.size) (i := 0) rfl (.inr hg2) e10
    have hb2 : Blk ww10 ww7.heap.size 39 [.int .i64 0, .int .i64 0, .int .u64 0, .int .i64 0, .int .i64 0, .int .i64 0, .slice none 0 0, .int .u64 0] := hb2.seti 0 rfl e10
    refine ⟨hb2.cani 1 rfl rfl, thenW_in fun ww11 e11 => ?_⟩
    have hx11 := hx10.x_set (q := ww7.heap.size) (i := 1) rfl (.inr hg2) e11
    have hb2 : Blk ww11 ww7.heap.size 39 [.int .i64 0, .int .i64 0, .int .u64 0, .int .i64 0, .int .i64 0, .int .i64 0, .slice none 0 0, .int .u64 0] := hb2.seti 1 rfl e11
    refine ⟨hb2.cani 2 rfl rfl, thenW_in fun ww12 e12 => ?_⟩
    have hx12 := hx11.x_set (q := ww7.heap.size) (i := 2) rfl (.inr hg2) e12
    have hb2 : Blk ww12 ww7.heap.size 39 [.int .i64 0, .int .i64 0, .int .u64 0, .int .i64 0, .int .i64 0, .int .i64 0, .slice none 0 0, .int .u64 0] := hb2.seti 2 rfl e12
    refine ⟨hb2.cani 3 rfl rfl, thenW_in fun ww13 e13 => ?_⟩
    have hx13 := hx12.x_set (q := ww7.heap.size) (i := 3) rfl (.inr hg2) e13
    have hb2 : Blk ww13 ww7.heap.size 39 [.int .i64 0, .int .i64 0, .int .u64 0, .int .i64 0, .int .i64 0, .int .i64 0, .slice none 0 0, .int .u64 0] := hb2.seti 3 rfl e13
    refine ⟨hb2.cani 4 rfl rfl, thenW_in fun ww14 e14 => ?_⟩
    have hx14 := hx13.x_set (q := ww7.heap.size) (i := 4) rfl (.inr hg2) e14
    have hb2 : Blk ww14 ww7.heap.size 39 [.int .i64 0, .int .i64 0, .int .u64 0, .int .i64 0, .int .i64 0, .int .i64 0, .slice none 0 0, .int .u64 0] := hb2.seti 4 rfl e14
    refine ⟨hb2.cani 5 rfl rfl, thenW_in fun ww15 e15 => ?_⟩
    have hx15 := hx14.x_set (q := ww7.heap.size) (i := 5) rfl (.inr hg2) e15
    have hb2 : Blk ww15 ww7.heap.size 39 [.int .i64 0, .int .i64 0, .int .u64 0, .int .i64 0, .int .i64 0, .int .i64 0, .slice none 0 0, .int .u64 0] := hb2.seti 5 rfl e15
    refine ⟨hb2.cani 6 rfl rfl, thenW_in fun ww16 e16 => ?_⟩
    have hx16 := hx15.x_set (q := ww7.heap.size) (i := 6) rfl (.inr hg2) e16
    have hb2 : Blk ww16 ww7.heap.size 39 [.int .i64 0, .int .i64 0, .int .u64 0, .int .i64 0, .int .i64 0, .int .i64 0, .slice none 0 0, .int .u64 0] := hb2.seti 6 rfl e16
    refine ⟨hb2.cani 7 rfl rfl, thenW_in fun ww17 e17 => ?_⟩
    have hx17 := hx16.x_set (q := ww7.heap.size) (i := 7) rfl (.inr hg2) e17
    have hb2 : Blk ww17 ww7.heap.size 39 [.int .i64 0, .int .i64 0, .int .u64 0, .int .i64 0, .int .i64 0, .int .i64 0, .slice none 0 0, .int .u64 0] := hb2.seti 7 rfl e17
    refine ⟨0, 0, 0, 0, 0, 0, none, 0, 0, 0, ⟨hb2.celli 0 rfl rfl, hb2.celli 1 rfl rfl, hb2.celli 2 rfl rfl, hb2.celli 3 rfl rfl, hb2.celli 4 rfl rfl, hb2.celli 5 rfl rfl, hb2.celli 6 rfl rfl, hb2.celli 7 rfl rfl, trivial⟩, ?_⟩
    have h := h ww17 hx17
    exact h
  · have h := h.2 (isNone_f c9)
    obtain ⟨a20, ha20, h⟩ := h
    refine elim_some ha20 ?_
    obtain ⟨l22a, l22n, l22c, hc21, h⟩ := h
    refine ⟨l22a, l22n, l22c, (hx8).cell hc21 id, ?_⟩
    refine bif_of (fun c23 => ?_) (fun c23 => ?_)
    · have h := h.1 (of_decide_eq_true c23)
      refine ⟨hb2.cani 0 rfl rfl, thenW_in fun ww24 e24 => ?_⟩
      have hx24 := hx8.x_set (q := ww7.heap.size) (i := 0) rfl (.inr hg2) e24
      have hb2 : Blk ww24 ww7.heap.size 39 [.int .i64 0, .int .i64 0, .int .u64 0, .int .i64 0, .int .i64 0, .int .i64 0, .slice none 0 0, .int .u64 0] := hb2.seti 0 rfl e24
      refine ⟨hb2.cani 1 rfl rfl, thenW_in fun ww25 e25 => ?_⟩
      have hx25 := hx24.x_set (q := ww7.heap.size) (i := 1) rfl (.inr hg2) e25
      have hb2 : Blk ww25 ww7.heap.size 39 [.int .i64 0, .int .i64 0, .int .u64 0, .int .i64 0, .int .i64 0, .int .i64 0, .slice none 0 0, .int .u64 0] := hb2.seti 1 rfl e25
      refine ⟨hb2.cani 2 rfl rfl, thenW_in fun ww26 e26 => ?_⟩
      have hx26 := hx25.x_set (q := ww7.heap.size) (i := 2) rfl (.inr hg2) e26
      have hb2 : Blk ww26 ww7.heap.size 39 [.int .i64 0, .int .i64 0, .int .u64 0, .int .i64 0, .int .i64 0, .int .i64 0, .slice none 0 0, .int .u64 0] := hb2.seti 2 rfl e26
      refine ⟨hb2.cani 3 rfl rfl, thenW_in fun ww27 e27 => ?_⟩
      have hx27 := hx26.x_set (q := ww7.heap.size) (i := 3) rfl (.inr hg2) e27
      have hb2 : Blk ww27 ww7.heap.size 39 [.int .i64 0, .int .i64 0, .int .u64 0, .int .i64 0, .int .i64 0, .int .i64 0, .slice none 0 0, .int .u64 0] := hb2.seti 3 rfl e27
      refine ⟨hb2.cani 4 rfl rfl, thenW_in fun ww28 e28 => ?_⟩
      have hx28 := hx27.x_set (q := ww7.heap.size) (i := 4) rfl (.inr hg2) e28
      have hb2 : Blk ww28 ww7.heap.size 39 [.int .i64 0, .int .i64 0, .int .u64 0, .int .i64 0, .int .i64 0, .int .i64 0, .slice none 0 0, .int .u64 0] := hb2.seti 4 rfl e28
      refine ⟨hb2.cani 5 rfl rfl, thenW_in fun ww29 e29 => ?_⟩
      have hx29 := hx28.x_set (q := ww7.heap.size) (i := 5) rfl (.inr hg2) e29
      have hb2 : Blk ww29 ww7.heap.size 39 [.int .i64 0, .int .i64 0, .int .u64 0, .int .i64 0, .int .i64 0, .int .i64 0, .slice none 0 0, .int .u64 0] := hb2.seti 5 rfl e29
      refine ⟨hb2.cani 6 rfl rfl, thenW_in fun ww30 e30 => ?_⟩
      have hx30 := hx29.x_set (q := ww7.heap.size) (i := 6) rfl (.inr hg2) e30
      have hb2 : Blk ww30 ww7.heap.size 39 [.int .i64 0, .int .i64 0, .int .u64 0, .int .i64 0, .int .i64 0, .int .i64 0, .slice none 0 0, .int .u64 0] := hb2.seti 6 rfl e30
      refine ⟨hb2.cani 7 rfl rfl, thenW_in fun ww31 e31 => ?_⟩
      have hx31 := hx30.x_set (q := ww7.heap.size) (i := 7) rfl (.inr hg2) e31
      have hb2 : Blk ww31 ww7.heap.size 39 [.int .i64 0, .int .i64 0, .int .u64 0, .int .i64 0, .int .i64 0, .int .i64 0, .slice none 0 0, .int .u64 0] := hb2.seti 7 rfl e31
      refine ⟨0, 0, 0, 0, 0, 0, none, 0, 0, 0, ⟨hb2.celli 0 rfl rfl, hb2.celli 1 rfl rfl, hb2.celli 2 rfl rfl, hb2.celli 3 rfl rfl, hb2.celli 4 rfl rfl, hb2.celli 5 rfl rfl, hb2.celli 6 rfl rfl, hb2.celli 7 rfl rfl, trivial⟩, ?_⟩
      have h := h ww31 hx31
      exact h
    · have h := h.2 (Int.not_le.1 (of_decide_eq_false c23))
      refine thenW_in fun ww34 e34 => ?_
      have hx34 := hx8.x_drew e34
      have hb1 := hb1.x_drew e34
      have hb2 := hb2.x_drew e34
      refine elim_some ha20 ?_
      obtain ⟨wv36, hc35, h⟩ := h
      refine ⟨wv36, (hx34).cell hc35 id, ?_⟩
      refine elim_some ha20 ?_
      obtain ⟨l38a, l38n, l38c, hc37, h⟩ := h
      refine ⟨l38a, l38n, l38c, (hx34).cell hc37 id, ?_⟩
      refine elim_some ha20 ?_
      obtain ⟨sum40, hc39, h⟩ := h
      refine ⟨sum40, (hx34).cell hc39 id, ?_⟩
      refine ⟨atT3, atW4, ⟨hb1.celli 0 rfl rfl, hb1.celli 1 rfl rfl, trivial⟩, ?_⟩
      refine thenW_in fun ww41 e41 => ?_
      have hb3 := Blk.of_new e41
      have hg3 := (hx34).size
      have hb1_3 := Nat.ne_of_lt hb1.lt
      have hb1 := hb1.x_alloc e41
      have hb2_3 := Nat.ne_of_lt hb2.lt
      have hb2 := hb2.x_alloc e41
      have hx41 := hx34.x_alloc e41
      refine ⟨⟨hb1.celli 0 rfl rfl, hb1.celli 1 rfl rfl, trivial⟩, (hx41).cell hc39 id, (hx41).cell hc37 id, (hx41).cell hc35 id, ?_⟩
      refine ⟨hb3.cani 0 rfl rfl, thenW_in fun ww42 e42 => ?_⟩
      have hx42 := hx41.x_set (q := ww34.heap.size) (i := 0) rfl (.inr hg3) e42
      have hb2 := hb2.oth (q := ww34.heap.size) (i := 0) rfl hb2_3 e42
      have hb3 : Blk ww42 ww34.heap.size 39 [.int .i64 wv36, .int .i64 0, .int .u64 0, .int .i64 0, .int .i64 0, .int .i64 0, .slice none 0 0, .int .u64 0] := hb3.seti 0 rfl e42
      refine ⟨hb3.cani 1 rfl rfl, thenW_in fun ww43 e43 => ?_⟩
      have hx43 := hx42.x_set (q := ww34.heap.size) (i := 1) rfl (.inr hg3) e43
      have hb2 := hb2.oth (q := ww34.heap.size) (i := 1) rfl hb2_3 e43
      have hb3 : Blk ww43 ww34.heap.size 39 [.int .i64 wv36, .int .i64 (l38n : Int), .int .u64 0, .int .i64 0, .int .i64 0, .int .i64 0, .slice none 0 0, .int .u64 0] := hb3.seti 1 rfl e43
      refine ⟨hb3.cani 2 rfl rfl, thenW_in fun ww44 e44 => ?_⟩
      have hx44 := hx43.x_set (q := ww34.heap.size) (i := 2) rfl (.inr hg3) e44
      have hb2 := hb2.oth (q := ww34.heap.size) (i := 2) rfl hb2_3 e44
      have hb3 : Blk ww44 ww34.heap.size 39 [.int .i64 wv36, .int .i64 (l38n : Int), .int .u64 sum40, .int .i64 0, .int .i64 0, .int .i64 0, .slice none 0 0, .int .u64 0] := hb3.seti 2 rfl e44
      refine ⟨hb3.cani 3 rfl rfl, thenW_in fun ww45 e45 => ?_⟩
      have hx45 := hx44.x_set (q := ww34.heap.size) (i := 3) rfl (.inr hg3) e45
      have hb2 := hb2.oth (q := ww34.heap.size) (i := 3) rfl hb2_3 e45
      have hb3 : Blk ww45 ww34.heap.size 39 [.int .i64 wv36, .int .i64 (l38n : Int), .int .u64 sum40, .int .i64 atT3, .int .i64 0, .int .i64 0, .slice none 0 0, .int .u64 0] := hb3.seti 3 rfl e45
      refine ⟨hb3.cani 4 rfl rfl, thenW_in fun ww46 e46 => ?_⟩
      have hx46 := hx45.x_set (q := ww34.heap.size) (i := 4) rfl (.inr hg3) e46
      have hb2 := hb2.oth (q := ww34.heap.size) (i := 4) rfl hb2_3 e46
      have hb3 : Blk ww46 ww34.heap.size 39 [.int .i64 wv36, .int .i64 (l38n : Int), .int .u64 sum40, .int .i64 atT3, .int .i64 atW4, .int .i64 0, .slice none 0 0, .int .u64 0] := hb3.seti 4 rfl e46
      refine ⟨hb3.cani 5 rfl rfl, thenW_in fun ww47 e47 => ?_⟩
      have hx47 := hx46.x_set (q := ww34.heap.size) (i := 5) rfl (.inr hg3) e47
      have hb2 := hb2.oth (q := ww34.heap.size) (i := 5) rfl hb2_3 e47
      have hb3 : Blk ww47 ww34.heap.size 39 [.int .i64 wv36, .int .i64 (l38n : Int), .int .u64 sum40, .int .i64 atT3, .int .i64 atW4, .int .i64 epoch5, .slice none 0 0, .int .u64 0] := hb3.seti 5 rfl e47
      refine ⟨hb3.cani 6 rfl rfl, thenW_in fun ww48 e48 => ?_⟩
      have hx48 := hx47.x_set (q := ww34.heap.size) (i := 6) rfl (.inr hg3) e48
      have hb2 := hb2.oth (q := ww34.heap.size) (i := 6) rfl hb2_3 e48
      have hb3 : Blk ww48 ww34.heap.size 39 [.int .i64 wv36, .int .i64 (l38n : Int), .int .u64 sum40, .int .i64 atT3, .int .i64 atW4, .int .i64 epoch5, .slice body6a body6n body6c, .int .u64 0] := hb3.seti 6 rfl e48
      refine ⟨hb3.cani 7 rfl rfl, thenW_in fun ww49 e49 => ?_⟩
      have hx49 := hx48.x_set (q := ww34.heap.size) (i := 7) rfl (.inr hg3) e49
      have hb2 := hb2.oth (q := ww34.heap.size) (i := 7) rfl hb2_3 e49
      have hb3 : Blk ww49 ww34.heap.size 39 [.int .i64 wv36, .int .i64 (l38n : Int), .int .u64 sum40, .int .i64 atT3, .int .i64 atW4, .int .i64 epoch5, .slice body6a body6n body6c, .int .u64 0] := hb3.seti 7 rfl e49
      refine ⟨wv36, (l38n : Int), sum40, atT3, atW4, epoch5, body6a, body6n, body6c, 0, ⟨hb3.celli 0 rfl rfl, hb3.celli 1 rfl rfl, hb3.celli 2 rfl rfl, hb3.celli 3 rfl rfl, hb3.celli 4 rfl rfl, hb3.celli 5 rfl rfl, hb3.celli 6 rfl rfl, hb3.celli 7 rfl rfl, trivial⟩, ?_⟩
      refine (entry_Right.pure wv36 (l38n : Int) sum40 atT3 atW4 epoch5 body6a body6n body6c 0).mono fun ee ww50 ⟨he, hxx⟩ => ⟨(entry_Right.F wv36 (l38n : Int) sum40 atT3 atW4 epoch5 body6a body6n body6c 0), he, ?_⟩
      have hx50 := hx49.trans hxx
      have hb2 := hb2.ext hxx id
      have hb3 := hb3.ext hxx id
      refine bif_of (fun c51 => ?_) (fun c51 => ?_)
      · have h := h.1 (not_t c51)
        refine ⟨hb2.cani 0 rfl rfl, thenW_in fun ww52 e52 => ?_⟩
        have hx52 := hx50.x_set (q := ww7.heap.size) (i := 0) rfl (.inr hg2) e52
        have hb2 : Blk ww52 ww7.heap.size 39 [.int .i64 0, .int .i64 0, .int .u64 0, .int .i64 0, .int .i64 0, .int .i64 0, .slice none 0 0, .int .u64 0] := hb2.seti 0 rfl e52
        refine ⟨hb2.cani 1 rfl rfl, thenW_in fun ww53 e53 => ?_⟩
        have hx53 := hx52.x_set (q := ww7.heap.size) (i := 1) rfl (.inr hg2) e53
        have hb2 : Blk ww53 ww7.heap.size 39 [.int .i64 0, .int .i64 0, .int .u64 0, .int .i64 0, .int .i64 0, .int .i64 0, .slice none 0 0, .int .u64 0] := hb2.seti 1 rfl e53
        refine ⟨hb2.cani 2 rfl rfl, thenW_in fun ww54 e54 => ?_⟩
        have hx54 := hx53.x_set (q := ww7.heap.size) (i := 2) rfl (.inr hg2) e54
        have hb2 : Blk ww54 ww7.heap.size 39 [.int .i64 0, .int .i64 0, .int .u64 0, .int .i64 0, .int .i64 0, .int .i64 0, .slice none 0 0, .int .u64 0] := hb2.seti 2 rfl e54
        refine ⟨hb2.cani 3 rfl rfl, thenW_in fun ww55 e55 => ?_⟩
        have hx55 := hx54.x_set (q := ww7.heap.size) (i := 3) rfl (.inr hg2) e55
        have hb2 : Blk ww55 ww7.heap.size 39 [.int .i64 0, .int .i64 0, .int .u64 0, .int .i64 0, .int .i64 0, .int .i64 0, .slice none 0 0, .int .u64 0] := hb2.seti 3 rfl e55
        refine ⟨hb2.cani 4 rfl rfl, thenW_in fun ww56 e56 => ?_⟩
        have hx56 := hx55.x_set (q := ww7.heap.size) (i := 4) rfl (.inr hg2) e56
        have hb2 : Blk ww56 ww7.heap.size 39 [.int .i64 0, .int .i64 0, .int .u64 0, .int .i64 0, .int .i64 0, .int .i64 0, .slice none 0 0, .int .u64 0] := hb2.seti 4 rfl e56
        refine ⟨hb2.cani 5 rfl rfl, thenW_in fun ww57 e57 => ?_⟩
        have hx57 := hx56.x_set (q := ww7.heap.size) (i := 5) rfl (.inr hg2) e57
        have hb2 : Blk ww57 ww7.heap.size 39 [.int .i64 0, .int .i64 0, .int .u64 0, .int .i64 0, .int .i64 0, .int .i64 0, .slice none 0 0, .int .u64 0] := hb2.seti 5 rfl e57
        refine ⟨hb2.cani 6 rfl rfl, thenW_in fun ww58 e58 => ?_⟩
        have hx58 := hx57.x_set (q := ww7.heap.size) (i := 6) rfl (.inr hg2) e58
        have hb2 : Blk ww58 ww7.heap.size 39 [.int .i64 0, .int .i64 0, .int .u64 0, .int .i64 0, .int .i64 0, .int .i64 0, .slice none 0 0, .int .u64 0] := hb2.seti 6 rfl e58
        refine ⟨hb2.cani 7 rfl rfl, thenW_in fun ww59 e59 => ?_⟩
        have hx59 := hx58.x_set (q := ww7.heap.size) (i := 7) rfl (.inr hg2) e59
        have hb2 : Blk ww59 ww7.heap.size 39 [.int .i64 0, .int .i64 0, .int .u64 0, .int .i64 0, .int .i64 0, .int .i64 0, .slice none 0 0, .int .u64 0] := hb2.seti 7 rfl e59
        refine ⟨0, 0, 0, 0, 0, 0, none, 0, 0, 0, ⟨hb2.celli 0 rfl rfl, hb2.celli 1 rfl rfl, hb2.celli 2 rfl rfl, hb2.celli 3 rfl rfl, hb2.celli 4 rfl rfl, hb2.celli 5 rfl rfl, hb2.celli 6 rfl rfl, hb2.celli 7 rfl rfl, trivial⟩, ?_⟩
        have h := h ww59 hx59
        exact h
      · have h := h.2 (not_f c51)
        refine ⟨wv36, (l38n : Int), sum40, atT3, atW4, epoch5, body6a, body6n, body6c, 0, ⟨hb3.celli 0 rfl rfl, hb3.celli 1 rfl rfl, hb3.celli 2 rfl rfl, hb3.celli 3 rfl rfl, hb3.celli 4 rfl rfl, hb3.celli 5 rfl rfl, hb3.celli 6 rfl rfl, hb3.celli 7 rfl rfl, trivial⟩, ?_⟩
        have h := h ww50 (ww7.heap.size) (ww34.heap.size) hx50 (Priv.cons hg2 hb2.lt (Priv.cons hg3 hb3.lt Priv.nil))
        refine h.mono fun ee67 ww68 h => ?_
        obtain ⟨behind66, he, hk, h⟩ := h
        refine ⟨behind66, he, ?_⟩
        have hb2 := hk.blk hb2 (by simp)
        have hb3 := hk.blk hb3 (by simp)
        refine bif_of (fun c69 => ?_) (fun c69 => ?_)
        · have h := h.1 (bne_t c69)
          have hm77 : Ext (fun b => b = ww7.heap.size) ww68 ww68 := ((Ext.refl no ww68)).none
          refine ⟨hb2.cani 0 rfl rfl, thenW_in fun ww70 e70 => ?_⟩
          have hx70 := hm77.x_set (q := ww7.heap.size) (i := 0) rfl (.inl rfl) e70
          have hb2 : Blk ww70 ww7.heap.size 39 [.int .i64 0, .int .i64 0, .int .u64 0, .int .i64 0, .int .i64 0, .int .i64 0, .slice none 0 0, .int .u64 0] := hb2.seti 0 rfl e70
          refine ⟨hb2.cani 1 rfl rfl, thenW_in fun ww71 e71 => ?_⟩
          have hx71 := hx70.x_set (q := ww7.heap.size) (i := 1) rfl (.inl rfl) e71
          have hb2 : Blk ww71 ww7.heap.size 39 [.int .i64 0, .int .i64 0, .int .u64 0, .int .i64 0, .int .i64 0, .int .i64 0, .slice none 0 0, .int .u64 0] := hb2.seti 1 rfl e71
          refine ⟨hb2.cani 2 rfl rfl, thenW_in fun ww72 e72 => ?_⟩
          have hx72 := hx71.x_set (q := ww7.heap.size) (i := 2) rfl (.inl rfl) e72
          have hb2 : Blk ww72 ww7.heap.size 39 [.int .i64 0, .int .i64 0, .int .u64 0, .int .i64 0, .int .i64 0, .int .i64 0, .slice none 0 0, .int .u64 0] := hb2.seti 2 rfl e72
          refine ⟨hb2.cani 3 rfl rfl, thenW_in fun ww73 e73 => ?_⟩
          have hx73 := hx72.x_set (q := ww7.heap.size) (i := 3) rfl (.inl rfl) e73
          have hb2 : Blk ww73 ww7.heap.size 39 [.int .i64 0, .int .i64 0, .int .u64 0, .int .i64 0, .int .i64 0, .int .i64 0, .slice none 0 0, .int .u64 0] := hb2.seti 3 rfl e73
          refine ⟨hb2.cani 4 rfl rfl, thenW_in fun ww74 e74 => ?_⟩
          have hx74 := hx73.x_set (q := ww7.heap.size) (i := 4) rfl (.inl rfl) e74
          have hb2 : Blk ww74 ww7.heap.size 39 [.int .i64 0, .int .i64 0, .int .u64 0, .int .i64 0, .int .i64 0, .int .i64 0, .slice none 0 0, .int .u64 0] := hb2.seti 4 rfl e74
          refine ⟨hb2.cani 5 rfl rfl, thenW_in fun ww75 e75 => ?_⟩
          have hx75 := hx74.x_set (q := ww7.heap.size) (i := 5) rfl (.inl rfl) e75
          have hb2 : Blk ww75 ww7.heap.size 39 [.int .i64 0, .int .i64 0, .int .u64 0, .int .i64 0, .int .i64 0, .int .i64 0, .slice none 0 0, .int .u64 0] := hb2.seti 5 rfl e75
          refine ⟨hb2.cani 6 rfl rfl, thenW_in fun ww76 e76 => ?_⟩
          have hx76 := hx75.x_set (q := ww7.heap.size) (i := 6) rfl (.inl rfl) e76
          have hb2 : Blk ww76 ww7.heap.size 39 [.int .i64 0, .int .i64 0, .int .u64 0, .int .i64 0, .int .i64 0, .int .i64 0, .slice none 0 0, .int .u64 0] := hb2.seti 6 rfl e76
          refine ⟨hb2.cani 7 rfl rfl, thenW_in fun ww77 e77 => ?_⟩
          have hx77 := hx76.x_set (q := ww7.heap.size) (i := 7) rfl (.inl rfl) e77
          have hb2 : Blk ww77 ww7.heap.size 39 [.int .i64 0, .int .i64 0, .int .u64 0, .int .i64 0, .int .i64 0, .int .i64 0, .slice none 0 0, .int .u64 0] := hb2.seti 7 rfl e77
          refine ⟨0, 0, 0, 0, 0, 0, none, 0, 0, 0, ⟨hb2.celli 0 rfl rfl, hb2.celli 1 rfl rfl, hb2.celli 2 rfl rfl, hb2.celli 3 rfl rfl, hb2.celli 4 rfl rfl, hb2.celli 5 rfl rfl, hb2.celli 6 rfl rfl, hb2.celli 7 rfl rfl, trivial⟩, ?_⟩
          have h := h ww77 hx77
          exact h
        · have h := h.2 (bne_f c69)
          refine thenW_in fun ww78 e78 => ?_
          have hx78 := (Ext.refl no ww68).x_drew e78
          have hb2 := hb2.x_drew e78
          have hb3 := hb3.x_drew e78
          refine elim_some ha20 ?_
          obtain ⟨o80, hc79, h⟩ := h
          refine ⟨o80, (hx78).cell hc79 id, ?_⟩
          refine ⟨wv36, (l38n : Int), sum40, atT3, atW4, epoch5, body6a, body6n, body6c, 0, ⟨hb3.celli 0 rfl rfl, hb3.celli 1 rfl rfl, hb3.celli 2 rfl rfl, hb3.celli 3 rfl rfl, hb3.celli 4 rfl rfl, hb3.celli 5 rfl rfl, hb3.celli 6 rfl rfl, hb3.celli 7 rfl rfl, trivial⟩, ?_⟩
          have h := h ww78 hx78
          refine h.mono fun ee90 ww91 h => ?_
          obtain ⟨Writer81, Index82, Prev83, AtT84, AtW85, Epoch86, Body87a, Body87n, Body87c, Sig88, sign89, he, hk, h⟩ := h
          refine ⟨Writer81, Index82, Prev83, AtT84, AtW85, Epoch86, Body87a, Body87n, Body87c, Sig88, sign89, he, ?_⟩
          have hb2 := hk.blk hb2 (by simp)
          have hb3 := hk.blk hb3 (by simp)
          have hm99 : Ext (fun b => b = ww34.heap.size) ww91 ww91 := ((Ext.refl no ww91)).none
          refine ⟨hb3.cani 0 rfl rfl, thenW_in fun ww92 e92 => ?_⟩
          have hx92 := hm99.x_set (q := ww34.heap.size) (i := 0) rfl (.inl rfl) e92
          have hb2 := hb2.oth (q := ww34.heap.size) (i := 0) rfl hb2_3 e92
          have hb3 : Blk ww92 ww34.heap.size 39 [.int .i64 Writer81, .int .i64 (l38n : Int), .int .u64 sum40, .int .i64 atT3, .int .i64 atW4, .int .i64 epoch5, .slice body6a body6n body6c, .int .u64 0] := hb3.seti 0 rfl e92
          refine ⟨hb3.cani 1 rfl rfl, thenW_in fun ww93 e93 => ?_⟩
          have hx93 := hx92.x_set (q := ww34.heap.size) (i := 1) rfl (.inl rfl) e93
          have hb2 := hb2.oth (q := ww34.heap.size) (i := 1) rfl hb2_3 e93
          have hb3 : Blk ww93 ww34.heap.size 39 [.int .i64 Writer81, .int .i64 Index82, .int .u64 sum40, .int .i64 atT3, .int .i64 atW4, .int .i64 epoch5, .slice body6a body6n body6c, .int .u64 0] := hb3.seti 1 rfl e93
          refine ⟨hb3.cani 2 rfl rfl, thenW_in fun ww94 e94 => ?_⟩
          have hx94 := hx93.x_set (q := ww34.heap.size) (i := 2) rfl (.inl rfl) e94
          have hb2 := hb2.oth (q := ww34.heap.size) (i := 2) rfl hb2_3 e94
          have hb3 : Blk ww94 ww34.heap.size 39 [.int .i64 Writer81, .int .i64 Index82, .int .u64 Prev83, .int .i64 atT3, .int .i64 atW4, .int .i64 epoch5, .slice body6a body6n body6c, .int .u64 0] := hb3.seti 2 rfl e94
          refine ⟨hb3.cani 3 rfl rfl, thenW_in fun ww95 e95 => ?_⟩
          have hx95 := hx94.x_set (q := ww34.heap.size) (i := 3) rfl (.inl rfl) e95
          have hb2 := hb2.oth (q := ww34.heap.size) (i := 3) rfl hb2_3 e95
          have hb3 : Blk ww95 ww34.heap.size 39 [.int .i64 Writer81, .int .i64 Index82, .int .u64 Prev83, .int .i64 AtT84, .int .i64 atW4, .int .i64 epoch5, .slice body6a body6n body6c, .int .u64 0] := hb3.seti 3 rfl e95
          refine ⟨hb3.cani 4 rfl rfl, thenW_in fun ww96 e96 => ?_⟩
          have hx96 := hx95.x_set (q := ww34.heap.size) (i := 4) rfl (.inl rfl) e96
          have hb2 := hb2.oth (q := ww34.heap.size) (i := 4) rfl hb2_3 e96
          have hb3 : Blk ww96 ww34.heap.size 39 [.int .i64 Writer81, .int .i64 Index82, .int .u64 Prev83, .int .i64 AtT84, .int .i64 AtW85, .int .i64 epoch5, .slice body6a body6n body6c, .int .u64 0] := hb3.seti 4 rfl e96
          refine ⟨hb3.cani 5 rfl rfl, thenW_in fun ww97 e97 => ?_⟩
          have hx97 := hx96.x_set (q := ww34.heap.size) (i := 5) rfl (.inl rfl) e97
          have hb2 := hb2.oth (q := ww34.heap.size) (i := 5) rfl hb2_3 e97
          have hb3 : Blk ww97 ww34.heap.size 39 [.int .i64 Writer81, .int .i64 Index82, .int .u64 Prev83, .int .i64 AtT84, .int .i64 AtW85, .int .i64 Epoch86, .slice body6a body6n body6c, .int .u64 0] := hb3.seti 5 rfl e97
          refine ⟨hb3.cani 6 rfl rfl, thenW_in fun ww98 e98 => ?_⟩
          have hx98 := hx97.x_set (q := ww34.heap.size) (i := 6) rfl (.inl rfl) e98
          have hb2 := hb2.oth (q := ww34.heap.size) (i := 6) rfl hb2_3 e98
          have hb3 : Blk ww98 ww34.heap.size 39 [.int .i64 Writer81, .int .i64 Index82, .int .u64 Prev83, .int .i64 AtT84, .int .i64 AtW85, .int .i64 Epoch86, .slice Body87a Body87n Body87c, .int .u64 0] := hb3.seti 6 rfl e98
          refine ⟨hb3.cani 7 rfl rfl, thenW_in fun ww99 e99 => ?_⟩
          have hx99 := hx98.x_set (q := ww34.heap.size) (i := 7) rfl (.inl rfl) e99
          have hb2 := hb2.oth (q := ww34.heap.size) (i := 7) rfl hb2_3 e99
          have hb3 : Blk ww99 ww34.heap.size 39 [.int .i64 Writer81, .int .i64 Index82, .int .u64 Prev83, .int .i64 AtT84, .int .i64 AtW85, .int .i64 Epoch86, .slice Body87a Body87n Body87c, .int .u64 Sig88] := hb3.seti 7 rfl e99
          refine bif_of (fun c100 => ?_) (fun c100 => ?_)
          · have h := h.1 (bne_t c100)
            have hm108 : Ext (fun b => b = ww7.heap.size ∨ b = ww34.heap.size) ww91 ww99 := (hx99).mono fun _ h _ => .inr h
            refine ⟨hb2.cani 0 rfl rfl, thenW_in fun ww101 e101 => ?_⟩
            have hx101 := hm108.x_set (q := ww7.heap.size) (i := 0) rfl (.inl (.inl rfl)) e101
            have hb2 : Blk ww101 ww7.heap.size 39 [.int .i64 0, .int .i64 0, .int .u64 0, .int .i64 0, .int .i64 0, .int .i64 0, .slice none 0 0, .int .u64 0] := hb2.seti 0 rfl e101
            refine ⟨hb2.cani 1 rfl rfl, thenW_in fun ww102 e102 => ?_⟩
            have hx102 := hx101.x_set (q := ww7.heap.size) (i := 1) rfl (.inl (.inl rfl)) e102
            have hb2 : Blk ww102 ww7.heap.size 39 [.int .i64 0, .int .i64 0, .int .u64 0, .int .i64 0, .int .i64 0, .int .i64 0, .slice none 0 0, .int .u64 0] := hb2.seti 1 rfl e102
            refine ⟨hb2.cani 2 rfl rfl, thenW_in fun ww103 e103 => ?_⟩
            have hx103 := hx102.x_set (q := ww7.heap.size) (i := 2) rfl (.inl (.inl rfl)) e103
            have hb2 : Blk ww103 ww7.heap.size 39 [.int .i64 0, .int .i64 0, .int .u64 0, .int .i64 0, .int .i64 0, .int .i64 0, .slice none 0 0, .int .u64 0] := hb2.seti 2 rfl e103
            refine ⟨hb2.cani 3 rfl rfl, thenW_in fun ww104 e104 => ?_⟩
            have hx104 := hx103.x_set (q := ww7.heap.size) (i := 3) rfl (.inl (.inl rfl)) e104
            have hb2 : Blk ww104 ww7.heap.size 39 [.int .i64 0, .int .i64 0, .int .u64 0, .int .i64 0, .int .i64 0, .int .i64 0, .slice none 0 0, .int .u64 0] := hb2.seti 3 rfl e104
            refine ⟨hb2.cani 4 rfl rfl, thenW_in fun ww105 e105 => ?_⟩
            have hx105 := hx104.x_set (q := ww7.heap.size) (i := 4) rfl (.inl (.inl rfl)) e105
            have hb2 : Blk ww105 ww7.heap.size 39 [.int .i64 0, .int .i64 0, .int .u64 0, .int .i64 0, .int .i64 0, .int .i64 0, .slice none 0 0, .int .u64 0] := hb2.seti 4 rfl e105
            refine ⟨hb2.cani 5 rfl rfl, thenW_in fun ww106 e106 => ?_⟩
            have hx106 := hx105.x_set (q := ww7.heap.size) (i := 5) rfl (.inl (.inl rfl)) e106
            have hb2 : Blk ww106 ww7.heap.size 39 [.int .i64 0, .int .i64 0, .int .u64 0, .int .i64 0, .int .i64 0, .int .i64 0, .slice none 0 0, .int .u64 0] := hb2.seti 5 rfl e106
            refine ⟨hb2.cani 6 rfl rfl, thenW_in fun ww107 e107 => ?_⟩
            have hx107 := hx106.x_set (q := ww7.heap.size) (i := 6) rfl (.inl (.inl rfl)) e107
            have hb2 : Blk ww107 ww7.heap.size 39 [.int .i64 0, .int .i64 0, .int .u64 0, .int .i64 0, .int .i64 0, .int .i64 0, .slice none 0 0, .int .u64 0] := hb2.seti 6 rfl e107
            refine ⟨hb2.cani 7 rfl rfl, thenW_in fun ww108 e108 => ?_⟩
            have hx108 := hx107.x_set (q := ww7.heap.size) (i := 7) rfl (.inl (.inl rfl)) e108
            have hb2 : Blk ww108 ww7.heap.size 39 [.int .i64 0, .int .i64 0, .int .u64 0, .int .i64 0, .int .i64 0, .int .i64 0, .slice none 0 0, .int .u64 0] := hb2.seti 7 rfl e108
            refine ⟨0, 0, 0, 0, 0, 0, none, 0, 0, 0, ⟨hb2.celli 0 rfl rfl, hb2.celli 1 rfl rfl, hb2.celli 2 rfl rfl, hb2.celli 3 rfl rfl, hb2.celli 4 rfl rfl, hb2.celli 5 rfl rfl, hb2.celli 6 rfl rfl, hb2.celli 7 rfl rfl, trivial⟩, ?_⟩
            have h := h ww108 hx108
            exact h
          · have h := h.2 (bne_f c100)
            refine ⟨Writer81, Index82, Prev83, AtT84, AtW85, Epoch86, Body87a, Body87n, Body87c, Sig88, ⟨hb3.celli 0 rfl rfl, hb3.celli 1 rfl rfl, hb3.celli 2 rfl rfl, hb3.celli 3 rfl rfl, hb3.celli 4 rfl rfl, hb3.celli 5 rfl rfl, hb3.celli 6 rfl rfl, hb3.celli 7 rfl rfl, trivial⟩, ?_⟩
            have h := h ww99 hx99
            refine h.mono fun ee109 ww110 h => ?_
            obtain ⟨he, hk, h⟩ := h
            refine ⟨he, ?_⟩
            have hb2 := hk.blk hb2 (by simp)
            have hb3 := hk.blk hb3 (by simp)
            refine ⟨Writer81, Index82, Prev83, AtT84, AtW85, Epoch86, Body87a, Body87n, Body87c, Sig88, ⟨hb3.celli 0 rfl rfl, hb3.celli 1 rfl rfl, hb3.celli 2 rfl rfl, hb3.celli 3 rfl rfl, hb3.celli 4 rfl rfl, hb3.celli 5 rfl rfl, hb3.celli 6 rfl rfl, hb3.celli 7 rfl rfl, trivial⟩, ?_⟩
            have hm118 : Ext (fun b => b = ww7.heap.size) ww110 ww110 := ((Ext.refl no ww110)).none
            refine ⟨hb2.cani 0 rfl rfl, thenW_in fun ww111 e111 => ?_⟩
            have hx111 := hm118.x_set (q := ww7.heap.size) (i := 0) rfl (.inl rfl) e111
            have hb2 : Blk ww111 ww7.heap.size 39 [.int .i64 Writer81, .int .i64 0, .int .u64 0, .int .i64 0, .int .i64 0, .int .i64 0, .slice none 0 0, .int .u64 0] := hb2.seti 0 rfl e111
            refine ⟨hb2.cani 1 rfl rfl, thenW_in fun ww112 e112 => ?_⟩
            have hx112 := hx111.x_set (q := ww7.heap.size) (i := 1) rfl (.inl rfl) e112
            have hb2 : Blk ww112 ww7.heap.size 39 [.int .i64 Writer81, .int .i64 Index82, .int .u64 0, .int .i64 0, .int .i64 0, .int .i64 0, .slice none 0 0, .int .u64 0] := hb2.seti 1 rfl e112
            refine ⟨hb2.cani 2 rfl rfl, thenW_in fun ww113 e113 => ?_⟩
            have hx113 := hx112.x_set (q := ww7.heap.size) (i := 2) rfl (.inl rfl) e113
            have hb2 : Blk ww113 ww7.heap.size 39 [.int .i64 Writer81, .int .i64 Index82, .int .u64 Prev83, .int .i64 0, .int .i64 0, .int .i64 0, .slice none 0 0, .int .u64 0] := hb2.seti 2 rfl e113
            refine ⟨hb2.cani 3 rfl rfl, thenW_in fun ww114 e114 => ?_⟩
            have hx114 := hx113.x_set (q := ww7.heap.size) (i := 3) rfl (.inl rfl) e114
            have hb2 : Blk ww114 ww7.heap.size 39 [.int .i64 Writer81, .int .i64 Index82, .int .u64 Prev83, .int .i64 AtT84, .int .i64 0, .int .i64 0, .slice none 0 0, .int .u64 0] := hb2.seti 3 rfl e114
            refine ⟨hb2.cani 4 rfl rfl, thenW_in fun ww115 e115 => ?_⟩
            have hx115 := hx114.x_set (q := ww7.heap.size) (i := 4) rfl (.inl rfl) e115
            have hb2 : Blk ww115 ww7.heap.size 39 [.int .i64 Writer81, .int .i64 Index82, .int .u64 Prev83, .int .i64 AtT84, .int .i64 AtW85, .int .i64 0, .slice none 0 0, .int .u64 0] := hb2.seti 4 rfl e115
            refine ⟨hb2.cani 5 rfl rfl, thenW_in fun ww116 e116 => ?_⟩
            have hx116 := hx115.x_set (q := ww7.heap.size) (i := 5) rfl (.inl rfl) e116
            have hb2 : Blk ww116 ww7.heap.size 39 [.int .i64 Writer81, .int .i64 Index82, .int .u64 Prev83, .int .i64 AtT84, .int .i64 AtW85, .int .i64 Epoch86, .slice none 0 0, .int .u64 0] := hb2.seti 5 rfl e116
            refine ⟨hb2.cani 6 rfl rfl, thenW_in fun ww117 e117 => ?_⟩
            have hx117 := hx116.x_set (q := ww7.heap.size) (i := 6) rfl (.inl rfl) e117
            have hb2 : Blk ww117 ww7.heap.size 39 [.int .i64 Writer81, .int .i64 Index82, .int .u64 Prev83, .int .i64 AtT84, .int .i64 AtW85, .int .i64 Epoch86, .slice Body87a Body87n Body87c, .int .u64 0] := hb2.seti 6 rfl e117
            refine ⟨hb2.cani 7 rfl rfl, thenW_in fun ww118 e118 => ?_⟩
            have hx118 := hx117.x_set (q := ww7.heap.size) (i := 7) rfl (.inl rfl) e118
            have hb2 : Blk ww118 ww7.heap.size 39 [.int .i64 Writer81, .int .i64 Index82, .int .u64 Prev83, .int .i64 AtT84, .int .i64 AtW85, .int .i64 Epoch86, .slice Body87a Body87n Body87c, .int .u64 Sig88] := hb2.seti 7 rfl e118
            refine ⟨Writer81, Index82, Prev83, AtT84, AtW85, Epoch86, Body87a, Body87n, Body87c, Sig88, ⟨hb2.celli 0 rfl rfl, hb2.celli 1 rfl rfl, hb2.celli 2 rfl rfl, hb2.celli 3 rfl rfl, hb2.celli 4 rfl rfl, hb2.celli 5 rfl rfl, hb2.celli 6 rfl rfl, hb2.celli 7 rfl rfl, trivial⟩, ?_⟩
            have h := h ww118 hx118
            exact h

theorem chain_Log_Issue.go (l1 : Option Addr) (secret2 : Int) (atT3 : Int) (atW4 : Int) (epoch5 : Int) (body6a : Option Addr) (body6n : Nat) (body6c : Nat) {R : Value → World → Prop} {w : World} (h : chain_Log_Issue.N l1 secret2 atT3 atW4 epoch5 body6a body6n body6c R w) : Calls Try.prog 14 #[.pointer l1, .int .u64 secret2, .agg #[.int .i64 atT3, .int .i64 atW4], .int .i64 epoch5, .slice body6a body6n body6c] w fun e w' => ∃ v, e = .returned v ∧ R v w' := chain_Log_Issue.ok l1 secret2 atT3 atW4 epoch5 body6a body6n body6c (chain_Log_Issue.up l1 secret2 atT3 atW4 epoch5 body6a body6n body6c h)
theorem chain_Log_Issue.run (l1 : Option Addr) (secret2 : Int) (atT3 : Int) (atW4 : Int) (epoch5 : Int) (body6a : Option Addr) (body6n : Nat) (body6c : Nat) {V : Value} {Q : World → Prop} {w : World} (h : chain_Log_Issue.N l1 secret2 atT3 atW4 epoch5 body6a body6n body6c (fun v w' => v = V ∧ Q w') w) : Calls Try.prog 14 #[.pointer l1, .int .u64 secret2, .agg #[.int .i64 atT3, .int .i64 atW4], .int .i64 epoch5, .slice body6a body6n body6c] w (Ret V Q) := (chain_Log_Issue.go l1 secret2 atT3 atW4 epoch5 body6a body6n body6c h).mono fun e w' ⟨v, he, hv, hq⟩ => ⟨by rw [he, hv], hq⟩

/-- slices.Clone[[]byte,byte] -/
def slices_Clone_byte_byte.M (s1a : Option Addr) (s1n : Nat) (s1c : Nat) (R : Value → World → Prop) (w : World) : Prop :=
  bif Option.isNone s1a then (
  R (.slice none 0 0) w) else (
  thenW (w.alloc (.cells #[] 5)) fun ww2 =>
  ∃ (a3a : Option Addr) (a3n : Nat) (a3c : Nat) (ww4 : World), (Builtin.append_ #[24, 24] 24 #[.slice (some (blk w.heap.size)) 0 0, .slice s1a s1n s1c]).run Try.prog ww2 = .ok (.slice a3a a3n a3c) ww4 ∧
  R (.slice a3a a3n a3c) ww4)

theorem slices_Clone_byte_byte.eq (s1a : Option Addr) (s1n : Nat) (s1c : Nat) (R : Value → World → Prop) (w : World) : mfunc Try.prog [] 60 [.slice s1a s1n s1c] R w = slices_Clone_byte_byte.M s1a s1n s1c R w := by kernel_rfl
theorem slices_Clone_byte_byte.ok (s1a : Option Addr) (s1n : Nat) (s1c : Nat) {R : Value → World → Prop} {w : World} (h : slices_Clone_byte_byte.M s1a s1n s1c R w) : Calls Try.prog 60 #[.slice s1a s1n s1c] w fun e w' => ∃ v, e = .returned v ∧ R v w' :=
  mfunc_ok follows (H := []) (args := [.slice s1a s1n s1c]) (by rw [slices_Clone_byte_byte.eq]; exact h)

def slices_Clone_byte_byte.N (s1a : Option Addr) (s1n : Nat) (s1c : Nat) (R : Value → World → Prop) (w : World) : Prop :=
  (s1a = none →
    R (.slice none 0 0) w) ∧
  (s1a ≠ none →
    ∀ (ww3 : World) (q4 : Nat), Ext no w ww3 → Blk ww3 q4 5 [] → w.heap.size ≤ q4 → q4 < ww3.heap.size →
    ∃ (a5a : Option Addr) (a5n : Nat) (a5c : Nat) (ww6 : World), (Builtin.append_ #[24, 24] 24 #[.slice (some (blk q4)) 0 0, .slice s1a s1n s1c]).run Try.prog ww3 = .ok (.slice a5a a5n a5c) ww6 ∧
    R (.slice a5a a5n a5c) ww6)

theorem slices_Clone_byte_byte.up (s1a : Option Addr) (s1n : Nat) (s1c : Nat) {R : Value → World → Prop} {w : World} (h : slices_Clone_byte_byte.N s1a s1n s1c R w) : slices_Clone_byte_byte.M s1a s1n s1c R w := by
  unfold slices_Clone_byte_byte.M
  unfold slices_Clone_byte_byte.N at h
  refine bif_of (fun c2 => ?_) (fun c2 => ?_)
  · have h := h.1 (isNone_t c2)
    exact h
  · have h := h.2 (isNone_f c2)
    refine thenW_in fun ww3 e3 => ?_
    have h := h ww3 w.heap.size ((Ext.refl no w).x_alloc e3) (Blk.of_new e3) ((Ext.refl no w)).size (size_lt_alloc e3)
    obtain ⟨a5a, a5n, a5c, ww6, hr, h⟩ := h
    refine ⟨a5a, a5n, a5c, ww6, hr, ?_⟩
    exact h

theorem slices_Clone_byte_byte.go (s1a : Option Addr) (s1n : Nat) (s1c : Nat) {R : Value → World → Prop} {w : World} (h : slices_Clone_byte_byte.N s1a s1n s1c R w) : Calls Try.prog 60 #[.slice s1a s1n s1c] w fun e w' => ∃ v, e = .returned v ∧ R v w' := slices_Clone_byte_byte.ok s1a s1n s1c (slices_Clone_byte_byte.up s1a s1n s1c h)
theorem slices_Clone_byte_byte.run (s1a : Option Addr) (s1n : Nat) (s1c : Nat) {V : Value} {Q : World → Prop} {w : World} (h : slices_Clone_byte_byte.N s1a s1n s1c (fun v w' => v = V ∧ Q w') w) : Calls Try.prog 60 #[.slice s1a s1n s1c] w (Ret V Q) := (slices_Clone_byte_byte.go s1a s1n s1c h).mono fun e w' ⟨v, he, hv, hq⟩ => ⟨by rw [he, hv], hq⟩

end Go.Proofs.Ytnppbflccbpoeaa

/- Stamps: which is less (the program's, and the reference's). -/
set_option linter.unusedVariables false
set_option linter.unusedSimpArgs false
set_option maxRecDepth 20000
set_option maxHeartbeats 2000000
namespace Go.Proofs.Ytnppbflccbpoeaa
open Go Go.Mx Go.Proofs
/-- cmp.isNaN[int64] -/
def cmp_isNaN_int64.M (x1 : Int) (R : Value → World → Prop) (w : World) : Prop :=
  R (.bool (x1 != x1)) w

theorem cmp_isNaN_int64.eq (x1 : Int) (R : Value → World → Prop) (w : World) : mfunc Try.prog [] 92 [.int .i64 x1] R w = cmp_isNaN_int64.M x1 R w := by kernel_rfl
theorem cmp_isNaN_int64.ok (x1 : Int) {R : Value → World → Prop} {w : World} (h : cmp_isNaN_int64.M x1 R w) : Calls Try.prog 92 #[.int .i64 x1] w fun e w' => ∃ v, e = .returned v ∧ R v w' :=
  mfunc_ok follows (H := []) (args := [.int .i64 x1]) (by rw [cmp_isNaN_int64.eq]; exact h)

def cmp_isNaN_int64.N (x1 : Int) (R : Value → World → Prop) (w : World) : Prop :=
  R (.bool (x1 != x1)) w

theorem cmp_isNaN_int64.up (x1 : Int) {R : Value → World → Prop} {w : World} (h : cmp_isNaN_int64.N x1 R w) : cmp_isNaN_int64.M x1 R w := by
  unfold cmp_isNaN_int64.M
  unfold cmp_isNaN_int64.N at h
  exact h

theorem cmp_isNaN_int64.go (x1 : Int) {R : Value → World → Prop} {w : World} (h : cmp_isNaN_int64.N x1 R w) : Calls Try.prog 92 #[.int .i64 x1] w fun e w' => ∃ v, e = .returned v ∧ R v w' := cmp_isNaN_int64.ok x1 (cmp_isNaN_int64.up x1 h)
theorem cmp_isNaN_int64.run (x1 : Int) {V : Value} {Q : World → Prop} {w : World} (h : cmp_isNaN_int64.N x1 (fun v w' => v = V ∧ Q w') w) : Calls Try.prog 92 #[.int .i64 x1] w (Ret V Q) := (cmp_isNaN_int64.go x1 h).mono fun e w' ⟨v, he, hv, hq⟩ => ⟨by rw [he, hv], hq⟩

def cmp_isNaN_int64.F (x1 : Int) : Bool :=
  (x1 != x1)
theorem cmp_isNaN_int64.pure (x1 : Int) {w : World} : Calls Try.prog 92 #[.int .i64 x1] w (Ret (.bool (cmp_isNaN_int64.F x1)) fun w' => Ext no w w') := by
  refine cmp_isNaN_int64.run x1 ?_
  unfold cmp_isNaN_int64.N
  exact ⟨by unfold cmp_isNaN_int64.F; rfl, Ext.refl _ _⟩

/-- cmp.isNaN[int] -/
def cmp_isNaN_int.M (x1 : Int) (R : Value → World → Prop) (w : World) : Prop :=
  R (.bool (x1 != x1)) w

theorem cmp_isNaN_int.eq (x1 : Int) (R : Value → World → Prop) (w : World) : mfunc Try.prog [] 93 [.int .i64 x1] R w = cmp_isNaN_int.M x1 R w := by kernel_rfl
theorem cmp_isNaN_int.ok (x1 : Int) {R : Value → World → Prop} {w : World} (h : cmp_isNaN_int.M x1 R w) : Calls Try.prog 93 #[.int .i64 x1] w fun e w' => ∃ v, e = .returned v ∧ R v w' :=
  mfunc_ok follows (H := []) (args := [.int .i64 x1]) (by rw [cmp_isNaN_int.eq]; exact h)

def cmp_isNaN_int.N (x1 : Int) (R : Value → World → Prop) (w : World) : Prop :=
  R (.bool (x1 != x1)) w

theorem cmp_isNaN_int.up (x1 : Int) {R : Value → World → Prop} {w : World} (h : cmp_isNaN_int.N x1 R w) : cmp_isNaN_int.M x1 R w := by
  unfold cmp_isNaN_int.M
  unfold cmp_isNaN_int.N at h
  exact h

theorem cmp_isNaN_int.go (x1 : Int) {R : Value → World → Prop} {w : World} (h : cmp_isNaN_int.N x1 R w) : Calls Try.prog 93 #[.int .i64 x1] w fun e w' => ∃ v, e = .returned v ∧ R v w' := cmp_isNaN_int.ok x1 (cmp_isNaN_int.up x1 h)
theorem cmp_isNaN_int.run (x1 : Int) {V : Value} {Q : World → Prop} {w : World} (h : cmp_isNaN_int.N x1 (fun v w' => v = V ∧ Q w') w) : Calls Try.prog 93 #[.int .i64 x1] w (Ret V Q) := (cmp_isNaN_int.go x1 h).mono fun e w' ⟨v, he, hv, hq⟩ => ⟨by rw [he, hv], hq⟩

def cmp_isNaN_int.F (x1 : Int) : Bool :=
  (x1 != x1)
theorem cmp_isNaN_int.pure (x1 : Int) {w : World} : Calls Try.prog 93 #[.int .i64 x1] w (Ret (.bool (cmp_isNaN_int.F x1)) fun w' => Ext no w w') := by
  refine cmp_isNaN_int.run x1 ?_
  unfold cmp_isNaN_int.N
  exact ⟨by unfold cmp_isNaN_int.F; rfl, Ext.refl _ _⟩

/-- cmp.Compare[int64] -/
def cmp_Compare_int64.M (x1 : Int) (y2 : Int) (R : Value → World → Prop) (w : World) : Prop :=
  Calls Try.prog 92 #[.int .i64 x1] w fun ee4 ww5 => ∃ (isnan3 : Bool), ee4 = .returned (.bool isnan3) ∧
  Calls Try.prog 92 #[.int .i64 y2] ww5 fun ee7 ww8 => ∃ (isnan6 : Bool), ee7 = .returned (.bool isnan6) ∧
  bif isnan3 then (
  bif isnan6 then (
  R (.int .i64 0) ww8) else (
  R (.int .i64 (-1)) ww8)) else (
  bif isnan6 then (
  R (.int .i64 1) ww8) else (
  bif decide (x1 < y2) then (
  R (.int .i64 (-1)) ww8) else (
  bif decide (x1 > y2) then (
  R (.int .i64 1) ww8) else (
  R (.int .i64 0) ww8))))

theorem cmp_Compare_int64.eq (x1 : Int) (y2 : Int) (R : Value → World → Prop) (w : World) : mfunc Try.prog [] 86 [.int .i64 x1, .int .i64 y2] R w = cmp_Compare_int64.M x1 y2 R w := by kernel_rfl
theorem cmp_Compare_int64.ok (x1 : Int) (y2 : Int) {R : Value → World → Prop} {w : World} (h : cmp_Compare_int64.M x1 y2 R w) : Calls Try.prog 86 #[.int .i64 x1, .int .i64 y2] w fun e w' => ∃ v, e = .returned v ∧ R v w' :=
  mfunc_ok follows (H := []) (args := [.int .i64 x1, .int .i64 y2]) (by rw [cmp_Compare_int64.eq]; exact h)

def cmp_Compare_int64.N (x1 : Int) (y2 : Int) (R : Value → World → Prop) (w : World) : Prop :=
  ((cmp_isNaN_int64.F x1) = true →
    ((cmp_isNaN_int64.F y2) = true →
      ∀ (ww4 : World), Ext no w ww4 →
      R (.int .i64 0) ww4) ∧
    ((cmp_isNaN_int64.F y2) = false →
      ∀ (ww4 : World), Ext no w ww4 →
      R (.int .i64 (-1)) ww4)) ∧
  ((cmp_isNaN_int64.F x1) = false →
    ((cmp_isNaN_int64.F y2) = true →
      ∀ (ww4 : World), Ext no w ww4 →
      R (.int .i64 1) ww4) ∧
    ((cmp_isNaN_int64.F y2) = false →
      (x1 < y2 →
        ∀ (ww4 : World), Ext no w ww4 →
        R (.int .i64 (-1)) ww4) ∧
      (y2 ≤ x1 →
        (x1 > y2 →
          ∀ (ww4 : World), Ext no w ww4 →
          R (.int .i64 1) ww4) ∧
        (x1 ≤ y2 →
          ∀ (ww4 : World), Ext no w ww4 →
          R (.int .i64 0) ww4))))

theorem cmp_Compare_int64.up (x1 : Int) (y2 : Int) {R : Value → World → Prop} {w : World} (h : cmp_Compare_int64.N x1 y2 R w) : cmp_Compare_int64.M x1 y2 R w := by
  unfold cmp_Compare_int64.M
  unfold cmp_Compare_int64.N at h
  refine (cmp_isNaN_int64.pure x1).mono fun ee ww3 ⟨he, hxx⟩ => ⟨(cmp_isNaN_int64.F x1), he, ?_⟩
  have hx3 := (Ext.refl no w).trans hxx
  refine (cmp_isNaN_int64.pure y2).mono fun ee ww4 ⟨he, hxx⟩ => ⟨(cmp_isNaN_int64.F y2), he, ?_⟩
  have hx4 := hx3.trans hxx
  refine bif_of (fun c5 => ?_) (fun c5 => ?_)
  · have h := h.1 c5
    refine bif_of (fun c6 => ?_) (fun c6 => ?_)
    · have h := h.1 c6
      have h := h ww4 hx4
      exact h
    · have h := h.2 c6
      have h := h ww4 hx4
      exact h
  · have h := h.2 c5
    refine bif_of (fun c7 => ?_) (fun c7 => ?_)
    · have h := h.1 c7
      have h := h ww4 hx4
      exact h
    · have h := h.2 c7
      refine bif_of (fun c8 => ?_) (fun c8 => ?_)
      · have h := h.1 (of_decide_eq_true c8)
        have h := h ww4 hx4
        exact h
      · have h := h.2 (Int.not_lt.1 (of_decide_eq_false c8))
        refine bif_of (fun c9 => ?_) (fun c9 => ?_)
        · have h := h.1 (of_decide_eq_true c9)
          have h := h ww4 hx4
          exact h
        · have h := h.2 (Int.not_lt.1 (of_decide_eq_false c9))
          have h := h ww4 hx4
          exact h

theorem cmp_Compare_int64.go (x1 : Int) (y2 : Int) {R : Value → World → Prop} {w : World} (h : cmp_Compare_int64.N x1 y2 R w) : Calls Try.prog 86 #[.int .i64 x1, .int .i64 y2] w fun e w' => ∃ v, e = .returned v ∧ R v w' := cmp_Compare_int64.ok x1 y2 (cmp_Compare_int64.up x1 y2 h)
theorem cmp_Compare_int64.run (x1 : Int) (y2 : Int) {V : Value} {Q : World → Prop} {w : World} (h : cmp_Compare_int64.N x1 y2 (fun v w' => v = V ∧ Q w') w) : Calls Try.prog 86 #[.int .i64 x1, .int .i64 y2] w (Ret V Q) := (cmp_Compare_int64.go x1 y2 h).mono fun e w' ⟨v, he, hv, hq⟩ => ⟨by rw [he, hv], hq⟩

def cmp_Compare_int64.F (x1 : Int) (y2 : Int) : Int :=
  if (cmp_isNaN_int64.F x1) = true then
    if (cmp_isNaN_int64.F y2) = true then
      0
    else
      (-1)
  else
    if (cmp_isNaN_int64.F y2) = true then
      1
    else
      if x1 < y2 then
        (-1)
      else
        if x1 > y2 then
          1
        else
          0
theorem cmp_Compare_int64.pure (x1 : Int) (y2 : Int) {w : World} : Calls Try.prog 86 #[.int .i64 x1, .int .i64 y2] w (Ret (.int .i64 (cmp_Compare_int64.F x1 y2)) fun w' => Ext no w w') := by
  refine cmp_Compare_int64.run x1 y2 ?_
  unfold cmp_Compare_int64.N
  refine ⟨fun c0 => ?_, fun c0 => ?_⟩
  · refine ⟨fun c1 => ?_, fun c1 => ?_⟩
    · intro w' hx; exact ⟨by unfold cmp_Compare_int64.F; rw [if_pos c0, if_pos c1], hx⟩
    · intro w' hx; exact ⟨by unfold cmp_Compare_int64.F; rw [if_pos c0, if_neg (by rw [c1]; decide)], hx⟩
  · refine ⟨fun c1 => ?_, fun c1 => ?_⟩
    · intro w' hx; exact ⟨by unfold cmp_Compare_int64.F; rw [if_neg (by rw [c0]; decide), if_pos c1], hx⟩
    · refine ⟨fun c2 => ?_, fun c2 => ?_⟩
      · intro w' hx; exact ⟨by unfold cmp_Compare_int64.F; rw [if_neg (by rw [c0]; decide), if_neg (by rw [c1]; decide), if_pos c2], hx⟩
      · refine ⟨fun c3 => ?_, fun c3 => ?_⟩
        · intro w' hx; exact ⟨by unfold cmp_Compare_int64.F; rw [if_neg (by rw [c0]; decide), if_neg (by rw [c1]; decide), if_neg (by omega), if_pos c3], hx⟩
        · intro w' hx; exact ⟨by unfold cmp_Compare_int64.F; rw [if_neg (by rw [c0]; decide), if_neg (by rw [c1]; decide), if_neg (by omega), if_neg (by omega)], hx⟩

/-- cmp.Compare[int] -/
def cmp_Compare_int.M (x1 : Int) (y2 : Int) (R : Value → World → Prop) (w : World) : Prop :=
  Calls Try.prog 93 #[.int .i64 x1] w fun ee4 ww5 => ∃ (isnan3 : Bool), ee4 = .returned (.bool isnan3) ∧
  Calls Try.prog 93 #[.int .i64 y2] ww5 fun ee7 ww8 => ∃ (isnan6 : Bool), ee7 = .returned (.bool isnan6) ∧
  bif isnan3 then (
  bif isnan6 then (
  R (.int .i64 0) ww8) else (
  R (.int .i64 (-1)) ww8)) else (
  bif isnan6 then (
  R (.int .i64 1) ww8) else (
  bif decide (x1 < y2) then (
  R (.int .i64 (-1)) ww8) else (
  bif decide (x1 > y2) then (
  R (.int .i64 1) ww8) else (
  R (.int .i64 0) ww8))))

theorem cmp_Compare_int.eq (x1 : Int) (y2 : Int) (R : Value → World → Prop) (w : World) : mfunc Try.prog [] 87 [.int .i64 x1, .int .i64 y2] R w = cmp_Compare_int.M x1 y2 R w := by kernel_rfl
theorem cmp_Compare_int.ok (x1 : Int) (y2 : Int) {R : Value → World → Prop} {w : World} (h : cmp_Compare_int.M x1 y2 R w) : Calls Try.prog 87 #[.int .i64 x1, .int .i64 y2] w fun e w' => ∃ v, e = .returned v ∧ R v w' :=
  mfunc_ok follows (H := []) (args := [.int .i64 x1, .int .i64 y2]) (by rw [cmp_Compare_int.eq]; exact h)

def cmp_Compare_int.N (x1 : Int) (y2 : Int) (R : Value → World → Prop) (w : World) : Prop :=
  ((cmp_isNaN_int.F x1) = true →
    ((cmp_isNaN_int.F y2) = true →
      ∀ (ww4 : World), Ext no w ww4 →
      R (.int .i64 0) ww4) ∧
    ((cmp_isNaN_int.F y2) = false →
      ∀ (ww4 : World), Ext no w ww4 →
      R (.int .i64 (-1)) ww4)) ∧
  ((cmp_isNaN_int.F x1) = false →
    ((cmp_isNaN_int.F y2) = true →
      ∀ (ww4 : World), Ext no w ww4 →
      R (.int .i64 1) ww4) ∧
    ((cmp_isNaN_int.F y2) = false →
      (x1 < y2 →
        ∀ (ww4 : World), Ext no w ww4 →
        R (.int .i64 (-1)) ww4) ∧
      (y2 ≤ x1 →
        (x1 > y2 →
          ∀ (ww4 : World), Ext no w ww4 →
          R (.int .i64 1) ww4) ∧
        (x1 ≤ y2 →
          ∀ (ww4 : World), Ext no w ww4 →
          R (.int .i64 0) ww4))))

theorem cmp_Compare_int.up (x1 : Int) (y2 : Int) {R : Value → World → Prop} {w : World} (h : cmp_Compare_int.N x1 y2 R w) : cmp_Compare_int.M x1 y2 R w := by
  unfold cmp_Compare_int.M
  unfold cmp_Compare_int.N at h
  refine (cmp_isNaN_int.pure x1).mono fun ee ww3 ⟨he, hxx⟩ => ⟨(cmp_isNaN_int.F x1), he, ?_⟩
  have hx3 := (Ext.refl no w).trans hxx
  refine (cmp_isNaN_int.pure y2).mono fun ee ww4 ⟨he, hxx⟩ => ⟨(cmp_isNaN_int.F y2), he, ?_⟩
  have hx4 := hx3.trans hxx
  refine bif_of (fun c5 => ?_) (fun c5 => ?_)
  · have h := h.1 c5
    refine bif_of (fun c6 => ?_) (fun c6 => ?_)
    · have h := h.1 c6
      have h := h ww4 hx4
      exact h
    · have h := h.2 c6
      have h := h ww4 hx4
      exact h
  · have h := h.2 c5
    refine bif_of (fun c7 => ?_) (fun c7 => ?_)
    · have h := h.1 c7
      have h := h ww4 hx4
      exact h
    · have h := h.2 c7
      refine bif_of (fun c8 => ?_) (fun c8 => ?_)
      · have h := h.1 (of_decide_eq_true c8)
        have h := h ww4 hx4
        exact h
      · have h := h.2 (Int.not_lt.1 (of_decide_eq_false c8))
        refine bif_of (fun c9 => ?_) (fun c9 => ?_)
        · have h := h.1 (of_decide_eq_true c9)
          have h := h ww4 hx4
          exact h
        · have h := h.2 (Int.not_lt.1 (of_decide_eq_false c9))
          have h := h ww4 hx4
          exact h

theorem cmp_Compare_int.go (x1 : Int) (y2 : Int) {R : Value → World → Prop} {w : World} (h : cmp_Compare_int.N x1 y2 R w) : Calls Try.prog 87 #[.int .i64 x1, .int .i64 y2] w fun e w' => ∃ v, e = .returned v ∧ R v w' := cmp_Compare_int.ok x1 y2 (cmp_Compare_int.up x1 y2 h)
theorem cmp_Compare_int.run (x1 : Int) (y2 : Int) {V : Value} {Q : World → Prop} {w : World} (h : cmp_Compare_int.N x1 y2 (fun v w' => v = V ∧ Q w') w) : Calls Try.prog 87 #[.int .i64 x1, .int .i64 y2] w (Ret V Q) := (cmp_Compare_int.go x1 y2 h).mono fun e w' ⟨v, he, hv, hq⟩ => ⟨by rw [he, hv], hq⟩

def cmp_Compare_int.F (x1 : Int) (y2 : Int) : Int :=
  if (cmp_isNaN_int.F x1) = true then
    if (cmp_isNaN_int.F y2) = true then
      0
    else
      (-1)
  else
    if (cmp_isNaN_int.F y2) = true then
      1
    else
      if x1 < y2 then
        (-1)
      else
        if x1 > y2 then
          1
        else
          0
theorem cmp_Compare_int.pure (x1 : Int) (y2 : Int) {w : World} : Calls Try.prog 87 #[.int .i64 x1, .int .i64 y2] w (Ret (.int .i64 (cmp_Compare_int.F x1 y2)) fun w' => Ext no w w') := by
  refine cmp_Compare_int.run x1 y2 ?_
  unfold cmp_Compare_int.N
  refine ⟨fun c0 => ?_, fun c0 => ?_⟩
  · refine ⟨fun c1 => ?_, fun c1 => ?_⟩
    · intro w' hx; exact ⟨by unfold cmp_Compare_int.F; rw [if_pos c0, if_pos c1], hx⟩
    · intro w' hx; exact ⟨by unfold cmp_Compare_int.F; rw [if_pos c0, if_neg (by rw [c1]; decide)], hx⟩
  · refine ⟨fun c1 => ?_, fun c1 => ?_⟩
    · intro w' hx; exact ⟨by unfold cmp_Compare_int.F; rw [if_neg (by rw [c0]; decide), if_pos c1], hx⟩
    · refine ⟨fun c2 => ?_, fun c2 => ?_⟩
      · intro w' hx; exact ⟨by unfold cmp_Compare_int.F; rw [if_neg (by rw [c0]; decide), if_neg (by rw [c1]; decide), if_pos c2], hx⟩
      · refine ⟨fun c3 => ?_, fun c3 => ?_⟩
        · intro w' hx; exact ⟨by unfold cmp_Compare_int.F; rw [if_neg (by rw [c0]; decide), if_neg (by rw [c1]; decide), if_neg (by omega), if_pos c3], hx⟩
        · intro w' hx; exact ⟨by unfold cmp_Compare_int.F; rw [if_neg (by rw [c0]; decide), if_neg (by rw [c1]; decide), if_neg (by omega), if_neg (by omega)], hx⟩

/-- cmp.Or[int] -/
def cmp_Or_int.M (vals1a : Option Addr) (vals1n : Nat) (vals1c : Nat) (R : Value → World → Prop) (w : World) : Prop :=
  ∃ (I0 : Nat → List Value → World → Prop) (m3 : Nat), I0 m3 [.int .i64 0] w ∧ ∀ (m4 : Nat) (ww5 : World) (t2 : Int), I0 m4 [.int .i64 t2] ww5 →
  bif decide (t2 < (vals1n : Int)) then (
  vals1a.elim False fun a6 =>
  0 ≤ (t2 : Int) ∧ (t2 : Int) < (vals1n : Int) ∧
  ∃ (x7 : Int), ww5.cell? (a6.add (Int.toNat t2 * 1)) = some (.int .i64 x7) ∧
  bif x7 != 0 then (
  R (.int .i64 x7) ww5) else (
  ∃ m8, m8 < m4 ∧ I0 m8 [.int .i64 (IntKind.i64.wrap (t2 + 1))] ww5)) else (
  R (.int .i64 0) ww5)

theorem cmp_Or_int.eq (vals1a : Option Addr) (vals1n : Nat) (vals1c : Nat) (R : Value → World → Prop) (w : World) : mfunc Try.prog [(0, [3, 6, 7], [(8, (.one (.int .i64)))])] 85 [.slice vals1a vals1n vals1c] R w = cmp_Or_int.M vals1a vals1n vals1c R w := by kernel_rfl
theorem cmp_Or_int.ok (vals1a : Option Addr) (vals1n : Nat) (vals1c : Nat) {R : Value → World → Prop} {w : World} (h : cmp_Or_int.M vals1a vals1n vals1c R w) : Calls Try.prog 85 #[.slice vals1a vals1n vals1c] w fun e w' => ∃ v, e = .returned v ∧ R v w' :=
  mfunc_ok follows (H := [(0, [3, 6, 7], [(8, (.one (.int .i64)))])]) (args := [.slice vals1a vals1n vals1c]) (by rw [cmp_Or_int.eq]; exact h)

def cmp_Or_int.N (vals1a : Option Addr) (vals1n : Nat) (vals1c : Nat) (R : Value → World → Prop) (w : World) : Prop :=
  ∃ (I0 : Nat → List Value → World → Prop) (m3 : Nat), I0 m3 [.int .i64 0] w ∧ ∀ (m4 : Nat) (ww5 : World) (t2 : Int), I0 m4 [.int .i64 t2] ww5 →
  (t2 < (vals1n : Int) →
    ∃ a7 : Addr, vals1a = some a7 ∧
    0 ≤ (t2 : Int) ∧ (t2 : Int) < (vals1n : Int) ∧
    ∃ (x9 : Int), ww5.cell? (a7.add (Int.toNat t2 * 1)) = some (.int .i64 x9) ∧
    (x9 ≠ 0 →
      R (.int .i64 x9) ww5) ∧
    (x9 = 0 →
      (-9223372036854775808 : Int) ≤ (t2 + 1) ∧ (t2 + 1) < 9223372036854775808 ∧
      ∃ m11, m11 < m4 ∧ I0 m11 [.int .i64 (t2 + 1)] ww5)) ∧
  ((vals1n : Int) ≤ t2 →
    R (.int .i64 0) ww5)

theorem cmp_Or_int.up (vals1a : Option Addr) (vals1n : Nat) (vals1c : Nat) {R : Value → World → Prop} {w : World} (h : cmp_Or_int.N vals1a vals1n vals1c R w) : cmp_Or_int.M vals1a vals1n vals1c R w := by
  unfold cmp_Or_int.M
  unfold cmp_Or_int.N at h
  obtain ⟨I0, m3, h0, h⟩ := h
  refine ⟨I0, m3, h0, fun m4 ww5 t2 hI => ?_⟩
  have h := h m4 ww5 t2 hI
  refine bif_of (fun c6 => ?_) (fun c6 => ?_)
  · have h := h.1 (of_decide_eq_true c6)
    obtain ⟨a7, ha7, h⟩ := h
    refine elim_some ha7 ?_
    obtain ⟨hq1, hq2, h⟩ := h
    refine ⟨hq1, hq2, ?_⟩
    obtain ⟨x9, hc8, h⟩ := h
    refine ⟨x9, hc8, ?_⟩
    refine bif_of (fun c10 => ?_) (fun c10 => ?_)
    · have h := h.1 (bne_t c10)
      exact h
    · have h := h.2 (bne_f c10)
      obtain ⟨hw1, hw2, h⟩ := h
      try rw [w64 hw1 hw2]
      obtain ⟨m11, hk, h⟩ := h
      exact ⟨m11, hk, h⟩
  · have h := h.2 (Int.not_lt.1 (of_decide_eq_false c6))
    exact h

theorem cmp_Or_int.go (vals1a : Option Addr) (vals1n : Nat) (vals1c : Nat) {R : Value → World → Prop} {w : World} (h : cmp_Or_int.N vals1a vals1n vals1c R w) : Calls Try.prog 85 #[.slice vals1a vals1n vals1c] w fun e w' => ∃ v, e = .returned v ∧ R v w' := cmp_Or_int.ok vals1a vals1n vals1c (cmp_Or_int.up vals1a vals1n vals1c h)
theorem cmp_Or_int.run (vals1a : Option Addr) (vals1n : Nat) (vals1c : Nat) {V : Value} {Q : World → Prop} {w : World} (h : cmp_Or_int.N vals1a vals1n vals1c (fun v w' => v = V ∧ Q w') w) : Calls Try.prog 85 #[.slice vals1a vals1n vals1c] w (Ret V Q) := (cmp_Or_int.go vals1a vals1n vals1c h).mono fun e w' ⟨v, he, hv, hq⟩ => ⟨by rw [he, hv], hq⟩

/-- stamp.Compare -/
def stamp_Compare.M (aT1 : Int) (aW2 : Int) (bT3 : Int) (bW4 : Int) (R : Value → World → Prop) (w : World) : Prop :=
  thenW (w.alloc (.cells #[.int .i64 aT1, .int .i64 aW2] 37)) fun ww5 =>
  thenW (ww5.alloc (.cells #[.int .i64 bT3, .int .i64 bW4] 37)) fun ww6 =>
  thenW (ww6.drew) fun ww7 =>
  ∃ (T8 : Int), ww7.cell? ((blk w.heap.size).add 0) = some (.int .i64 T8) ∧
  ∃ (T9 : Int), ww7.cell? ((blk ww5.heap.size).add 0) = some (.int .i64 T9) ∧
  ∃ (W10 : Int), ww7.cell? ((blk w.heap.size).add 1) = some (.int .i64 W10) ∧
  ∃ (W11 : Int), ww7.cell? ((blk ww5.heap.size).add 1) = some (.int .i64 W11) ∧
  Calls Try.prog 86 #[.int .i64 T8, .int .i64 T9] ww7 fun ee13 ww14 => ∃ (compare12 : Int), ee13 = .returned (.int .i64 compare12) ∧
  ww14.cell? ((blk ww5.heap.size).add 1) = some (.int .i64 W11) ∧
  ww14.cell? ((blk w.heap.size).add 1) = some (.int .i64 W10) ∧
  Calls Try.prog 87 #[.int .i64 W10, .int .i64 W11] ww14 fun ee16 ww17 => ∃ (compare15 : Int), ee16 = .returned (.int .i64 compare15) ∧
  thenW (ww17.alloc (.cells #[.int .i64 compare12, .int .i64 compare15] 3)) fun ww18 =>
  Calls Try.prog 85 #[.slice (some (blk ww17.heap.size)) 2 2] ww18 fun ee20 ww21 => ∃ (or19 : Int), ee20 = .returned (.int .i64 or19) ∧
  R (.int .i64 or19) ww21

theorem stamp_Compare.eq (aT1 : Int) (aW2 : Int) (bT3 : Int) (bW4 : Int) (R : Value → World → Prop) (w : World) : mfunc Try.prog [] 73 [.agg #[.int .i64 aT1, .int .i64 aW2], .agg #[.int .i64 bT3, .int .i64 bW4]] R w = stamp_Compare.M aT1 aW2 bT3 bW4 R w := by kernel_rfl
theorem stamp_Compare.ok (aT1 : Int) (aW2 : Int) (bT3 : Int) (bW4 : Int) {R : Value → World → Prop} {w : World} (h : stamp_Compare.M aT1 aW2 bT3 bW4 R w) : Calls Try.prog 73 #[.agg #[.int .i64 aT1, .int .i64 aW2], .agg #[.int .i64 bT3, .int .i64 bW4]] w fun e w' => ∃ v, e = .returned v ∧ R v w' :=
  mfunc_ok follows (H := []) (args := [.agg #[.int .i64 aT1, .int .i64 aW2], .agg #[.int .i64 bT3, .int .i64 bW4]]) (by rw [stamp_Compare.eq]; exact h)

def stamp_Compare.N (aT1 : Int) (aW2 : Int) (bT3 : Int) (bW4 : Int) (R : Value → World → Prop) (w : World) : Prop :=
  ∀ (ww10 : World) (q11 : Nat), Ext no w ww10 → Blk ww10 q11 3 [.int .i64 (cmp_Compare_int64.F aT1 bT3), .int .i64 (cmp_Compare_int.F aW2 bW4)] → w.heap.size ≤ q11 → q11 < ww10.heap.size →
  Calls Try.prog 85 #[.slice (some (blk q11)) 2 2] ww10 fun ee15 ww16 => ∃ (or14 : Int), ee15 = .returned (.int .i64 or14) ∧
  R (.int .i64 or14) ww16

theorem stamp_Compare.up (aT1 : Int) (aW2 : Int) (bT3 : Int) (bW4 : Int) {R : Value → World → Prop} {w : World} (h : stamp_Compare.N aT1 aW2 bT3 bW4 R w) : stamp_Compare.M aT1 aW2 bT3 bW4 R w := by
  unfold stamp_Compare.M
  unfold stamp_Compare.N at h
  refine thenW_in fun ww5 e5 => ?_
  have hb1 := Blk.of_new e5
  have hg1 := ((Ext.refl no w)).size
  have hx5 := (Ext.refl no w).x_alloc e5
  refine thenW_in fun ww6 e6 => ?_
  have hb2 := Blk.of_new e6
  have hg2 := (hx5).size
  have hb1_2 := Nat.ne_of_lt hb1.lt
  have hb1 := hb1.x_alloc e6
  have hx6 := hx5.x_alloc e6
  refine thenW_in fun ww7 e7 => ?_
  have hx7 := hx6.x_drew e7
  have hb1 := hb1.x_drew e7
  have hb2 := hb2.x_drew e7
  refine ⟨aT1, hb1.celli 0 rfl rfl, ?_⟩
  refine ⟨bT3, hb2.celli 0 rfl rfl, ?_⟩
  refine ⟨aW2, hb1.celli 1 rfl rfl, ?_⟩
  refine ⟨bW4, hb2.celli 1 rfl rfl, ?_⟩
  refine (cmp_Compare_int64.pure aT1 bT3).mono fun ee ww8 ⟨he, hxx⟩ => ⟨(cmp_Compare_int64.F aT1 bT3), he, ?_⟩
  have hx8 := hx7.trans hxx
  have hb1 := hb1.ext hxx id
  have hb2 := hb2.ext hxx id
  refine ⟨hb2.celli 1 rfl rfl, hb1.celli 1 rfl rfl, ?_⟩
  refine (cmp_Compare_int.pure aW2 bW4).mono fun ee ww9 ⟨he, hxx⟩ => ⟨(cmp_Compare_int.F aW2 bW4), he, ?_⟩
  have hx9 := hx8.trans hxx
  refine thenW_in fun ww10 e10 => ?_
  have h := h ww10 ww9.heap.size (hx9.x_alloc e10) (Blk.of_new e10) (hx9).size (size_lt_alloc e10)
  refine h.mono fun ee15 ww16 h => ?_
  obtain ⟨or14, he, h⟩ := h
  refine ⟨or14, he, ?_⟩
  exact h

theorem stamp_Compare.go (aT1 : Int) (aW2 : Int) (bT3 : Int) (bW4 : Int) {R : Value → World → Prop} {w : World} (h : stamp_Compare.N aT1 aW2 bT3 bW4 R w) : Calls Try.prog 73 #[.agg #[.int .i64 aT1, .int .i64 aW2], .agg #[.int .i64 bT3, .int .i64 bW4]] w fun e w' => ∃ v, e = .returned v ∧ R v w' := stamp_Compare.ok aT1 aW2 bT3 bW4 (stamp_Compare.up aT1 aW2 bT3 bW4 h)
theorem stamp_Compare.run (aT1 : Int) (aW2 : Int) (bT3 : Int) (bW4 : Int) {V : Value} {Q : World → Prop} {w : World} (h : stamp_Compare.N aT1 aW2 bT3 bW4 (fun v w' => v = V ∧ Q w') w) : Calls Try.prog 73 #[.agg #[.int .i64 aT1, .int .i64 aW2], .agg #[.int .i64 bT3, .int .i64 bW4]] w (Ret V Q) := (stamp_Compare.go aT1 aW2 bT3 bW4 h).mono fun e w' ⟨v, he, hv, hq⟩ => ⟨by rw [he, hv], hq⟩

/-- stamp.Less -/
def stamp_Less.M (aT1 : Int) (aW2 : Int) (bT3 : Int) (bW4 : Int) (R : Value → World → Prop) (w : World) : Prop :=
  thenW (w.alloc (.cells #[.int .i64 aT1, .int .i64 aW2] 37)) fun ww5 =>
  thenW (ww5.alloc (.cells #[.int .i64 bT3, .int .i64 bW4] 37)) fun ww6 =>
  ∃ (xT7 : Int) (xW8 : Int), cellsAt ww6 (blk w.heap.size) [.int .i64 xT7, .int .i64 xW8] 0 ∧
  ∃ (xT9 : Int) (xW10 : Int), cellsAt ww6 (blk ww5.heap.size) [.int .i64 xT9, .int .i64 xW10] 0 ∧
  Calls Try.prog 73 #[.agg #[.int .i64 xT7, .int .i64 xW8], .agg #[.int .i64 xT9, .int .i64 xW10]] ww6 fun ee12 ww13 => ∃ (compare11 : Int), ee12 = .returned (.int .i64 compare11) ∧
  R (.bool (decide (compare11 < 0))) ww13

theorem stamp_Less.eq (aT1 : Int) (aW2 : Int) (bT3 : Int) (bW4 : Int) (R : Value → World → Prop) (w : World) : mfunc Try.prog [] 56 [.agg #[.int .i64 aT1, .int .i64 aW2], .agg #[.int .i64 bT3, .int .i64 bW4]] R w = stamp_Less.M aT1 aW2 bT3 bW4 R w := by kernel_rfl
theorem stamp_Less.ok (aT1 : Int) (aW2 : Int) (bT3 : Int) (bW4 : Int) {R : Value → World → Prop} {w : World} (h : stamp_Less.M aT1 aW2 bT3 bW4 R w) : Calls Try.prog 56 #[.agg #[.int .i64 aT1, .int .i64 aW2], .agg #[.int .i64 bT3, .int .i64 bW4]] w fun e w' => ∃ v, e = .returned v ∧ R v w' :=
  mfunc_ok follows (H := []) (args := [.agg #[.int .i64 aT1, .int .i64 aW2], .agg #[.int .i64 bT3, .int .i64 bW4]]) (by rw [stamp_Less.eq]; exact h)

def stamp_Less.N (aT1 : Int) (aW2 : Int) (bT3 : Int) (bW4 : Int) (R : Value → World → Prop) (w : World) : Prop :=
  ∀ (ww6 : World), Ext no w ww6 →
  Calls Try.prog 73 #[.agg #[.int .i64 aT1, .int .i64 aW2], .agg #[.int .i64 bT3, .int .i64 bW4]] ww6 fun ee10 ww11 => ∃ (compare9 : Int), ee10 = .returned (.int .i64 compare9) ∧
  R (.bool (decide (compare9 < 0))) ww11

theorem stamp_Less.up (aT1 : Int) (aW2 : Int) (bT3 : Int) (bW4 : Int) {R : Value → World → Prop} {w : World} (h : stamp_Less.N aT1 aW2 bT3 bW4 R w) : stamp_Less.M aT1 aW2 bT3 bW4 R w := by
  unfold stamp_Less.M
  unfold stamp_Less.N at h
  refine thenW_in fun ww5 e5 => ?_
  have hb1 := Blk.of_new e5
  have hg1 := ((Ext.refl no w)).size
  have hx5 := (Ext.refl no w).x_alloc e5
  refine thenW_in fun ww6 e6 => ?_
  have hb2 := Blk.of_new e6
  have hg2 := (hx5).size
  have hb1_2 := Nat.ne_of_lt hb1.lt
  have hb1 := hb1.x_alloc e6
  have hx6 := hx5.x_alloc e6
  refine ⟨aT1, aW2, ⟨hb1.celli 0 rfl rfl, hb1.celli 1 rfl rfl, trivial⟩, ?_⟩
  refine ⟨bT3, bW4, ⟨hb2.celli 0 rfl rfl, hb2.celli 1 rfl rfl, trivial⟩, ?_⟩
  have h := h ww6 hx6
  refine h.mono fun ee10 ww11 h => ?_
  obtain ⟨compare9, he, h⟩ := h
  refine ⟨compare9, he, ?_⟩
  exact h

theorem stamp_Less.go (aT1 : Int) (aW2 : Int) (bT3 : Int) (bW4 : Int) {R : Value → World → Prop} {w : World} (h : stamp_Less.N aT1 aW2 bT3 bW4 R w) : Calls Try.prog 56 #[.agg #[.int .i64 aT1, .int .i64 aW2], .agg #[.int .i64 bT3, .int .i64 bW4]] w fun e w' => ∃ v, e = .returned v ∧ R v w' := stamp_Less.ok aT1 aW2 bT3 bW4 (stamp_Less.up aT1 aW2 bT3 bW4 h)
theorem stamp_Less.run (aT1 : Int) (aW2 : Int) (bT3 : Int) (bW4 : Int) {V : Value} {Q : World → Prop} {w : World} (h : stamp_Less.N aT1 aW2 bT3 bW4 (fun v w' => v = V ∧ Q w') w) : Calls Try.prog 56 #[.agg #[.int .i64 aT1, .int .i64 aW2], .agg #[.int .i64 bT3, .int .i64 bW4]] w (Ret V Q) := (stamp_Less.go aT1 aW2 bT3 bW4 h).mono fun e w' ⟨v, he, hv, hq⟩ => ⟨by rw [he, hv], hq⟩

def lessS (t1 w1 t2 w2 : Int) : Bool := decide (t1 < t2) || (decide (t1 = t2) && decide (w1 < w2))
theorem cmp64_F (x y : Int) : cmp_Compare_int64.F x y = if x < y then -1 else if x > y then 1 else 0 := by
  unfold cmp_Compare_int64.F cmp_isNaN_int64.F; simp
theorem cmpInt_F (x y : Int) : cmp_Compare_int.F x y = if x < y then -1 else if x > y then 1 else 0 := by
  unfold cmp_Compare_int.F cmp_isNaN_int.F; simp
theorem Or2_spec {w : World} {q : Nat} {x y : Int} (hb : Blk w q 3 [.int .i64 x, .int .i64 y]) :
    Calls Try.prog 85 #[.slice (some (blk q)) 2 2] w (Ret (.int .i64 (if x ≠ 0 then x else y)) fun w' => w' = w) := by
  refine cmp_Or_int.run _ _ _ ?_
  unfold cmp_Or_int.N
  refine ⟨fun m vs w1 => ∃ t : Nat, vs = [.int .i64 t] ∧ m + t = 2 ∧ w1 = w ∧ (0 < t → x = 0) ∧ (1 < t → y = 0), 2, ⟨0, rfl, rfl, rfl, fun h => absurd h (by decide), fun h => absurd h (by decide)⟩, ?_⟩
  rintro m w1 i ⟨t, hi, hm, rfl, h0, h1⟩
  simp only [List.cons.injEq, Value.int.injEq, true_and, and_true] at hi
  subst hi
  refine ⟨fun ht => ?_, fun ht => ⟨?_, rfl⟩⟩
  · have ht2 : t = 0 ∨ t = 1 := by omega
    rcases ht2 with rfl | rfl
    · refine ⟨_, rfl, by omega, by omega, x, hb.cella (i := 0) rfl, fun hx => ⟨by rw [if_pos hx], rfl⟩, fun hx => ⟨by omega, by omega, m - 1, by omega, 1, rfl, by omega, rfl, fun _ => hx, fun h => absurd h (by decide)⟩⟩
    · refine ⟨_, rfl, by omega, by omega, y, hb.cella (i := 1) rfl, fun hy => ⟨by rw [if_neg (not_not_intro (h0 (by decide)))], rfl⟩, fun hy => ⟨by omega, by omega, m - 1, by omega, 2, rfl, by omega, rfl, fun _ => h0 (by decide), fun _ => hy⟩⟩
  · have : t = 2 := by omega
    subst this
    rw [if_neg (not_not_intro (h0 (by decide))), h1 (by decide)]
theorem Less_spec (w : World) (t1 w1 t2 w2 : Int) : Calls Try.prog 56 #[.agg #[.int .i64 t1, .int .i64 w1], .agg #[.int .i64 t2, .int .i64 w2]] w (Ret (.bool (lessS t1 w1 t2 w2)) fun w' => Ext no w w') := by
  refine stamp_Less.run _ _ _ _ ?_
  unfold stamp_Less.N
  intro w6 X6
  have key : Calls Try.prog 73 #[.agg #[.int .i64 t1, .int .i64 w1], .agg #[.int .i64 t2, .int .i64 w2]] w6 (Ret (.int .i64 (if cmp_Compare_int64.F t1 t2 ≠ 0 then cmp_Compare_int64.F t1 t2 else cmp_Compare_int.F w1 w2)) fun w' => Ext no w6 w') := by
    refine stamp_Compare.run _ _ _ _ ?_
    unfold stamp_Compare.N
    intro w10 q X10 hb _ _
    exact (Or2_spec hb).mono fun e w' ⟨he, hw⟩ => ⟨_, he, rfl, by subst hw; exact X10⟩
  refine key.mono fun e w' ⟨he, X⟩ => ⟨_, he, ?_, X6.trans X⟩
  congr 1
  rw [cmp64_F, cmpInt_F]
  unfold lessS
  by_cases h : t1 < t2
  · simp [h]
  · by_cases h2 : t1 = t2
    · subst h2
      simp
      by_cases h3 : w1 < w2
      · simp [h3]
      · by_cases h4 : w2 < w1
        · simp [h3, h4]
        · simp [h3, h4]
    · have : t1 > t2 := by omega
      simp [h, h2, this]
end Go.Proofs.Ytnppbflccbpoeaa

/- Structs, and rows of structs, that are handed in; cells of a row of structs. -/
set_option linter.unusedSimpArgs false
set_option linter.unusedVariables false
set_option linter.unusedSectionVars false
namespace Go.Mx
/-- cells, one part behind the other. -/
def SeqQ : List (Nat × (World → List Value → Prop)) → World → List Value → Prop
  | [], _, cs => cs = []
  | q :: r, W, cs => ∃ x y, cs = x ++ y ∧ x.length = q.1 ∧ q.2 W x ∧ SeqQ r W y
def FieldsOk (P : Program) : List Field → Nat → List (Nat × (World → List Value → Prop)) → Nat → Prop
  | [], off, [], size => off = size
  | f :: r, off, q :: s, size => (f.offset = off ∧ P.cellsOf f.type = q.1 ∧ Opens P f.type q.2) ∧ FieldsOk P r (off + q.1) s size
  | _, _, _, _ => False
theorem seq_of {P : Program} {W : World} {cs : List Value} : ∀ {l : List Field} {off : Nat} {qs : List (Nat × (World → List Value → Prop))} {size : Nat}, FieldsOk P l off qs size → cs.length = size →
    (∀ (i : Nat) (f : Field), l[i]? = some f → ∀ Q, Opens P f.type Q → Q W ((cs.drop f.offset).take (P.cellsOf f.type))) → off ≤ cs.length → (∀ q ∈ qs, True) → SeqQ qs W (cs.drop off)
  | [], off, [], size, h, hl, _, _, _ => by
    simp only [FieldsOk] at h
    simp only [SeqQ]
    exact List.drop_eq_nil_of_le (by omega)
  | f :: r, off, q :: s, size, h, hl, hf, hle, _ => by
    obtain ⟨⟨h1, h2, h3⟩, h4⟩ := h
    have h0 := hf 0 f rfl q.2 h3
    rw [h1, h2] at h0
    have hsz : ∀ {l : List Field} {off : Nat} {qs : List (Nat × (World → List Value → Prop))}, FieldsOk P l off qs size → off ≤ size := by
      intro l
      induction l with
      | nil => intro off qs h; cases qs with | nil => exact Nat.le_of_eq h | cons _ _ => exact h.elim
      | cons f r ih => intro off qs h; cases qs with | nil => exact h.elim | cons q s => have := ih h.2; omega
    have hle2 := hsz h4
    refine ⟨(cs.drop off).take q.1, cs.drop (off + q.1), ?_, ?_, h0, ?_⟩
    · rw [← List.drop_drop, List.take_append_drop]
    · rw [List.length_take, List.length_drop]; omega
    · exact seq_of h4 hl (fun i f hi => hf (i + 1) f (by simpa using hi)) (by omega) (fun _ _ => trivial)
  | [], _, _ :: _, _, h, _, _, _, _ => h.elim
  | _ :: _, _, [], _, h, _, _, _, _ => h.elim
/-- a struct: its fields, one behind the other. -/
theorem opens_seq {P : Program} {t : TypeId} {fs : Array Field} {size : Nat} {qs : List (Nat × (World → List Value → Prop))} (ht : P.underlying t = some (.struct fs)) (hs : P.cellsOf t = size) (h : FieldsOk P fs.toList 0 qs size) : Opens P t (SeqQ qs) :=
  (opens_struct ht hs).mono fun W cs ⟨hl, hf⟩ => seq_of (off := 0) h hl (fun i f hi => hf i f (by rw [← Array.getElem?_toList]; exact hi)) (Nat.zero_le _) fun _ _ => trivial
/-- a row of structs. -/
theorem opens_rows {P : Program} {t e : TypeId} {size : Nat} {α : Type} {f : α → List Value} {G : World → α → Prop} (ht : P.underlying t = some (.slice e)) (hs : P.cellsOf e = size) (he : Opens P e fun W cs => ∃ x, cs = f x ∧ G W x) :
    Opens P t fun W cs => ∃ (a : Option Addr) (c : Nat) (l : List α), cs = [.slice a l.length c] ∧ l.length ≤ c ∧ c ≤ maxLen ∧ RowAt W a (l.flatMap f) ∧ ∀ x ∈ l, G W x :=
  (opens_slice (size := size) ht hs he).mono fun W cs ⟨a, l, c, rows, h1, h2, h3, h4, h5, h6⟩ => by
    obtain ⟨xs, h7, h8⟩ := rows_of (rows := rows) f (G W) fun r hr => (h6 r hr).2
    subst h7
    rw [List.length_map] at h4
    subst h4
    exact ⟨a, c, xs, h1, h2, h3, by rw [List.flatMap_def]; exact h5, h8⟩
section
variable {α : Type} {f : α → List Value} {n : Nat} {w : World} {a : Option Addr} {l : List α}
theorem flat_length (hf : ∀ x, (f x).length = n) (l : List α) : (l.flatMap f).length = l.length * n := by
  induction l with
  | nil => simp
  | cons x r ih => rw [List.flatMap_cons, List.length_append, ih, hf, List.length_cons, Nat.succ_mul]; omega
theorem flat_get (hf : ∀ x, (f x).length = n) : ∀ {l : List α} {i : Nat} {x : α}, l[i]? = some x → ∀ j, j < n → (l.flatMap f)[i * n + j]? = (f x)[j]?
  | [], i, x, hi, j, hj => by simp at hi
  | a :: r, 0, x, hi, j, hj => by
    simp only [List.getElem?_cons_zero, Option.some.injEq] at hi
    subst hi
    rw [List.flatMap_cons, Nat.zero_mul, Nat.zero_add, List.getElem?_append_left (by rw [hf]; exact hj)]
  | a :: r, i + 1, x, hi, j, hj => by
    simp only [List.getElem?_cons_succ] at hi
    rw [List.flatMap_cons, List.getElem?_append_right (by rw [hf, Nat.succ_mul]; omega), show (i + 1) * n + j - (f a).length = i * n + j by rw [hf, Nat.succ_mul]; omega]
    exact flat_get hf hi j hj
/-- a cell of a struct in a row. -/
theorem RowAt.fcell (hf : ∀ x, (f x).length = n) {ad : Addr} (h : RowAt w (some ad) (l.flatMap f)) {i : Nat} {x : α} (hi : l[i]? = some x) (j : Nat) {v : Value} (hv : (f x)[j]? = some v) : w.cell? ((ad.add (i * n)).add j) = some v := by
  rw [add_add]
  have hj : j < n := by rw [← hf x]; exact (List.getElem?_eq_some_iff.1 hv).1
  exact h.at_ ((flat_get hf hi j hj).trans hv)
theorem RowAt.faddr (hf : ∀ x, (f x).length = n) (hn : 0 < n) (h : RowAt w a (l.flatMap f)) {i : Nat} (hi : i < l.length) : ∃ ad, a = some ad := h.addr fun e => by
  have := flat_length hf l
  rw [e, List.length_nil] at this
  rcases Nat.mul_eq_zero.1 this.symm with h | h <;> omega
end
end Go.Mx
