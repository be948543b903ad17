/- The reference's entries with its oracle. -/
import Derived.Test.YtlfijjmjmgobhaaRefC
import Derived.Test.YtlfijjmjmgobhaaEntS
import Derived.Test.YtlfijjmjmgobhaaMxT
set_option linter.unusedVariables false
set_option linter.unusedSimpArgs false
set_option maxRecDepth 20000
namespace Go.Proofs.Ytlfijjmjmgobhaa
open Go Go.Mx Go.Proofs
open W (OwnB GivesW numR countR doneR zig unzig intR)
/-- the rows are few, and short. -/
structure RFine (n : Nat) (d : List Int) (L : List RRow) : Prop where
  draws : ∀ x ∈ d, 0 ≤ x ∧ x < 18446744073709551616
  short : L.length ≤ n
  bytes : ∀ r ∈ L, r.A.length < 1000000 ∧ r.B.length < 1000000
section
variable {w w' : World} {o o' : Own} {k n : Nat} {K : Nat → Prop} {S : OS} {d : List Int} {L : List RRow}
theorem RFine.rok (h : RFine n d L) (ok : Tags w o) (hn : n < 1000000) : ROk w o d L := ⟨ok, h.draws, Nat.lt_of_le_of_lt h.short hn, h.bytes⟩
theorem RFine.more (h : RFine n d L) : RFine (n + 1) d L := ⟨h.draws, Nat.le_succ_of_le h.short, h.bytes⟩
theorem RFine.put (h : RFine n d L) (r : RRow) (hr : r.A.length < 1000000 ∧ r.B.length < 1000000) : RFine (n + 1) (putR d L r).2.1 (putR d L r).2.2 := by
  refine ⟨freshR_draws h.draws, ?_, fun z hz => ?_⟩
  · have := h.short; rw [putR_len]; omega
  · rcases List.mem_append.1 hz with hz | hz
    · exact h.bytes z hz
    · simp at hz; subst hz; exact hr
theorem RFine.hash (h : RFine n d L) {b : List UInt8} (hb : b.length < 1000000) : RFine (n + 1) (hashR d L b).2.1 (hashR d L b).2.2 := by
  unfold hashR
  split
  · exact h.more
  · exact h.put _ ⟨hb, by show (0 : Nat) < _; decide⟩
theorem RFine.pair (h : RFine n d L) : RFine (n + 2) (pairR d L).2.1 (pairR d L).2.2 :=
  (h.put ⟨0, 3, [], [], 0, 0⟩ (by decide)).put _ ⟨by show (0 : Nat) < _; decide, by show (0 : Nat) < _; decide⟩
theorem RFine.sign (h : RFine n d L) (s : Int) {b : List UInt8} (hb : b.length < 1000000) : RFine (n + 1) (signR d L s b).2.1 (signR d L s b).2.2 := by
  unfold signR
  split
  · exact h.more
  · split
    · exact h.more
    · exact h.put _ ⟨hb, by show (0 : Nat) < _; decide⟩
theorem bytesL_le' {e : Ent} (hr : entRight e = true) : (bytesL e).length ≤ 1200 := by have := bytesK_le e; unfold bytesK at this; rw [if_pos hr] at this; exact this
theorem textL_le' {e : Ent} (hr : entRight e = true) : (textL e).length ≤ 1200 := by have := textK_le e; unfold textK at this; rw [if_pos hr] at this; exact this
/-- cachetteref06.Sign -/
def cachetteref06_Sign.M (o1 : Option Addr) (secret2 : Int) (eWriter3 : Int) (eIndex4 : Int) (ePrev5 : Int) (eAtT6 : Int) (eAtW7 : Int) (eEpoch8 : Int) (eBody9a : Option Addr) (eBody9n : Nat) (eBody9c : Nat) (eSig10 : Int) (R : Value → World → Prop) (w : World) : Prop :=
  thenW (w.alloc (.cells #[.int .i64 eWriter3, .int .i64 eIndex4, .int .u64 ePrev5, .int .i64 eAtT6, .int .i64 eAtW7, .int .i64 eEpoch8, .slice eBody9a eBody9n eBody9c, .int .u64 eSig10] 28)) fun ww11 =>
  thenW (ww11.alloc (.cells #[.int .i64 0, .int .i64 0, .int .u64 0, .int .i64 0, .int .i64 0, .int .i64 0, .slice none 0 0, .int .u64 0] 28)) fun ww12 =>
  ∃ (xWriter13 : Int) (xIndex14 : Int) (xPrev15 : Int) (xAtT16 : Int) (xAtW17 : Int) (xEpoch18 : Int) (xBody19a : Option Addr) (xBody19n : Nat) (xBody19c : Nat) (xSig20 : Int), cellsAt ww12 (blk w.heap.size) [.int .i64 xWriter13, .int .i64 xIndex14, .int .u64 xPrev15, .int .i64 xAtT16, .int .i64 xAtW17, .int .i64 xEpoch18, .slice xBody19a xBody19n xBody19c, .int .u64 xSig20] 0 ∧
  Calls Try.prog 50 #[.agg #[.int .i64 xWriter13, .int .i64 xIndex14, .int .u64 xPrev15, .int .i64 xAtT16, .int .i64 xAtW17, .int .i64 xEpoch18, .slice xBody19a xBody19n xBody19c, .int .u64 xSig20]] ww12 fun ee23 ww24 => ∃ (text21a : Option Addr) (text21n : Nat) (text21c : Nat) (text22 : Int), ee23 = .returned (.tuple #[.slice text21a text21n text21c, .int .i64 text22]) ∧
  bif text22 != 0 then (
  canStore ww24 ((blk ww11.heap.size).add 0) ∧
  thenW (ww24.setCell ((blk ww11.heap.size).add 0) (.int .i64 0)) fun ww25 =>
  canStore ww25 ((blk ww11.heap.size).add 1) ∧
  thenW (ww25.setCell ((blk ww11.heap.size).add 1) (.int .i64 0)) fun ww26 =>
  canStore ww26 ((blk ww11.heap.size).add 2) ∧
  thenW (ww26.setCell ((blk ww11.heap.size).add 2) (.int .u64 0)) fun ww27 =>
  canStore ww27 ((blk ww11.heap.size).add 3) ∧
  thenW (ww27.setCell ((blk ww11.heap.size).add 3) (.int .i64 0)) fun ww28 =>
  canStore ww28 ((blk ww11.heap.size).add 4) ∧
  thenW (ww28.setCell ((blk ww11.heap.size).add 4) (.int .i64 0)) fun ww29 =>
  canStore ww29 ((blk ww11.heap.size).add 5) ∧
  thenW (ww29.setCell ((blk ww11.heap.size).add 5) (.int .i64 0)) fun ww30 =>
  canStore ww30 ((blk ww11.heap.size).add 6) ∧
  thenW (ww30.setCell ((blk ww11.heap.size).add 6) (.slice none 0 0)) fun ww31 =>
  canStore ww31 ((blk ww11.heap.size).add 7) ∧
  thenW (ww31.setCell ((blk ww11.heap.size).add 7) (.int .u64 0)) fun ww32 =>
  ∃ (resWriter33 : Int) (resIndex34 : Int) (resPrev35 : Int) (resAtT36 : Int) (resAtW37 : Int) (resEpoch38 : Int) (resBody39a : Option Addr) (resBody39n : Nat) (resBody39c : Nat) (resSig40 : Int), cellsAt ww32 (blk ww11.heap.size) [.int .i64 resWriter33, .int .i64 resIndex34, .int .u64 resPrev35, .int .i64 resAtT36, .int .i64 resAtW37, .int .i64 resEpoch38, .slice resBody39a resBody39n resBody39c, .int .u64 resSig40] 0 ∧
  R (.tuple #[.agg #[.int .i64 resWriter33, .int .i64 resIndex34, .int .u64 resPrev35, .int .i64 resAtT36, .int .i64 resAtW37, .int .i64 resEpoch38, .slice resBody39a resBody39n resBody39c, .int .u64 resSig40], .int .i64 text22]) ww32) else (
  Calls Try.prog 51 #[.pointer o1, .int .u64 secret2, .slice text21a text21n text21c] ww24 fun ee43 ww44 => ∃ (sign41 : Int) (sign42 : Int), ee43 = .returned (.tuple #[.int .u64 sign41, .int .i64 sign42]) ∧
  bif sign42 != 0 then (
  canStore ww44 ((blk ww11.heap.size).add 0) ∧
  thenW (ww44.setCell ((blk ww11.heap.size).add 0) (.int .i64 0)) fun ww45 =>
  canStore ww45 ((blk ww11.heap.size).add 1) ∧
  thenW (ww45.setCell ((blk ww11.heap.size).add 1) (.int .i64 0)) fun ww46 =>
  canStore ww46 ((blk ww11.heap.size).add 2) ∧
  thenW (ww46.setCell ((blk ww11.heap.size).add 2) (.int .u64 0)) fun ww47 =>
  canStore ww47 ((blk ww11.heap.size).add 3) ∧
  thenW (ww47.setCell ((blk ww11.heap.size).add 3) (.int .i64 0)) fun ww48 =>
  canStore ww48 ((blk ww11.heap.size).add 4) ∧
  thenW (ww48.setCell ((blk ww11.heap.size).add 4) (.int .i64 0)) fun ww49 =>
  canStore ww49 ((blk ww11.heap.size).add 5) ∧
  thenW (ww49.setCell ((blk ww11.heap.size).add 5) (.int .i64 0)) fun ww50 =>
  canStore ww50 ((blk ww11.heap.size).add 6) ∧
  thenW (ww50.setCell ((blk ww11.heap.size).add 6) (.slice none 0 0)) fun ww51 =>
  canStore ww51 ((blk ww11.heap.size).add 7) ∧
  thenW (ww51.setCell ((blk ww11.heap.size).add 7) (.int .u64 0)) fun ww52 =>
  ∃ (resWriter53 : Int) (resIndex54 : Int) (resPrev55 : Int) (resAtT56 : Int) (resAtW57 : Int) (resEpoch58 : Int) (resBody59a : Option Addr) (resBody59n : Nat) (resBody59c : Nat) (resSig60 : Int), cellsAt ww52 (blk ww11.heap.size) [.int .i64 resWriter53, .int .i64 resIndex54, .int .u64 resPrev55, .int .i64 resAtT56, .int .i64 resAtW57, .int .i64 resEpoch58, .slice resBody59a resBody59n resBody59c, .int .u64 resSig60] 0 ∧
  R (.tuple #[.agg #[.int .i64 resWriter53, .int .i64 resIndex54, .int .u64 resPrev55, .int .i64 resAtT56, .int .i64 resAtW57, .int .i64 resEpoch58, .slice resBody59a resBody59n resBody59c, .int .u64 resSig60], .int .i64 sign42]) ww52) else (
  canStore ww44 (((blk w.heap.size).add 7).add 0) ∧
  thenW (ww44.setCell (((blk w.heap.size).add 7).add 0) (.int .u64 sign41)) fun ww61 =>
  ∃ (xWriter62 : Int) (xIndex63 : Int) (xPrev64 : Int) (xAtT65 : Int) (xAtW66 : Int) (xEpoch67 : Int) (xBody68a : Option Addr) (xBody68n : Nat) (xBody68c : Nat) (xSig69 : Int), cellsAt ww61 (blk w.heap.size) [.int .i64 xWriter62, .int .i64 xIndex63, .int .u64 xPrev64, .int .i64 xAtT65, .int .i64 xAtW66, .int .i64 xEpoch67, .slice xBody68a xBody68n xBody68c, .int .u64 xSig69] 0 ∧
  canStore ww61 ((blk ww11.heap.size).add 0) ∧
  thenW (ww61.setCell ((blk ww11.heap.size).add 0) (.int .i64 xWriter62)) fun ww70 =>
  canStore ww70 ((blk ww11.heap.size).add 1) ∧
  thenW (ww70.setCell ((blk ww11.heap.size).add 1) (.int .i64 xIndex63)) fun ww71 =>
  canStore ww71 ((blk ww11.heap.size).add 2) ∧
  thenW (ww71.setCell ((blk ww11.heap.size).add 2) (.int .u64 xPrev64)) fun ww72 =>
  canStore ww72 ((blk ww11.heap.size).add 3) ∧
  thenW (ww72.setCell ((blk ww11.heap.size).add 3) (.int .i64 xAtT65)) fun ww73 =>
  canStore ww73 ((blk ww11.heap.size).add 4) ∧
  thenW (ww73.setCell ((blk ww11.heap.size).add 4) (.int .i64 xAtW66)) fun ww74 =>
  canStore ww74 ((blk ww11.heap.size).add 5) ∧
  thenW (ww74.setCell ((blk ww11.heap.size).add 5) (.int .i64 xEpoch67)) fun ww75 =>
  canStore ww75 ((blk ww11.heap.size).add 6) ∧
  thenW (ww75.setCell ((blk ww11.heap.size).add 6) (.slice xBody68a xBody68n xBody68c)) fun ww76 =>
  canStore ww76 ((blk ww11.heap.size).add 7) ∧
  thenW (ww76.setCell ((blk ww11.heap.size).add 7) (.int .u64 xSig69)) fun ww77 =>
  ∃ (resWriter78 : Int) (resIndex79 : Int) (resPrev80 : Int) (resAtT81 : Int) (resAtW82 : Int) (resEpoch83 : Int) (resBody84a : Option Addr) (resBody84n : Nat) (resBody84c : Nat) (resSig85 : Int), cellsAt ww77 (blk ww11.heap.size) [.int .i64 resWriter78, .int .i64 resIndex79, .int .u64 resPrev80, .int .i64 resAtT81, .int .i64 resAtW82, .int .i64 resEpoch83, .slice resBody84a resBody84n resBody84c, .int .u64 resSig85] 0 ∧
  R (.tuple #[.agg #[.int .i64 resWriter78, .int .i64 resIndex79, .int .u64 resPrev80, .int .i64 resAtT81, .int .i64 resAtW82, .int .i64 resEpoch83, .slice resBody84a resBody84n resBody84c, .int .u64 resSig85], .int .i64 0]) ww77))

theorem cachetteref06_Sign.eq (o1 : Option Addr) (secret2 : Int) (eWriter3 : Int) (eIndex4 : Int) (ePrev5 : Int) (eAtT6 : Int) (eAtW7 : Int) (eEpoch8 : Int) (eBody9a : Option Addr) (eBody9n : Nat) (eBody9c : Nat) (eSig10 : Int) (R : Value → World → Prop) (w : World) : mfunc Try.prog [] 14 [.pointer o1, .int .u64 secret2, .agg #[.int .i64 eWriter3, .int .i64 eIndex4, .int .u64 ePrev5, .int .i64 eAtT6, .int .i64 eAtW7, .int .i64 eEpoch8, .slice eBody9a eBody9n eBody9c, .int .u64 eSig10]] R w = cachetteref06_Sign.M o1 secret2 eWriter3 eIndex4 ePrev5 eAtT6 eAtW7 eEpoch8 eBody9a eBody9n eBody9c eSig10 R w := by kernel_rfl
theorem cachetteref06_Sign.ok (o1 : Option Addr) (secret2 : Int) (eWriter3 : Int) (eIndex4 : Int) (ePrev5 : Int) (eAtT6 : Int) (eAtW7 : Int) (eEpoch8 : Int) (eBody9a : Option Addr) (eBody9n : Nat) (eBody9c : Nat) (eSig10 : Int) {R : Value → World → Prop} {w : World} (h : cachetteref06_Sign.M o1 secret2 eWriter3 eIndex4 ePrev5 eAtT6 eAtW7 eEpoch8 eBody9a eBody9n eBody9c eSig10 R w) : Calls Try.prog 14 #[.pointer o1, .int .u64 secret2, .agg #[.int .i64 eWriter3, .int .i64 eIndex4, .int .u64 ePrev5, .int .i64 eAtT6, .int .i64 eAtW7, .int .i64 eEpoch8, .slice eBody9a eBody9n eBody9c, .int .u64 eSig10]] w fun e w' => ∃ v, e = .returned v ∧ R v w' :=
  mfunc_ok follows (H := []) (args := [.pointer o1, .int .u64 secret2, .agg #[.int .i64 eWriter3, .int .i64 eIndex4, .int .u64 ePrev5, .int .i64 eAtT6, .int .i64 eAtW7, .int .i64 eEpoch8, .slice eBody9a eBody9n eBody9c, .int .u64 eSig10]]) (by rw [cachetteref06_Sign.eq]; exact h)

def cachetteref06_Sign.N (o1 : Option Addr) (secret2 : Int) (eWriter3 : Int) (eIndex4 : Int) (ePrev5 : Int) (eAtT6 : Int) (eAtW7 : Int) (eEpoch8 : Int) (eBody9a : Option Addr) (eBody9n : Nat) (eBody9c : Nat) (eSig10 : Int) (R : Value → World → Prop) (w : World) : Prop :=
  ∀ (ww12 : World) (p13 : Nat) (p14 : Nat), Ext no w ww12 → Priv w ww12 [p13, p14] →
  Calls Try.prog 50 #[.agg #[.int .i64 eWriter3, .int .i64 eIndex4, .int .u64 ePrev5, .int .i64 eAtT6, .int .i64 eAtW7, .int .i64 eEpoch8, .slice eBody9a eBody9n eBody9c, .int .u64 eSig10]] ww12 fun ee17 ww18 => ∃ (text15a : Option Addr) (text15n : Nat) (text15c : Nat) (text16 : Int), ee17 = .returned (.tuple #[.slice text15a text15n text15c, .int .i64 text16]) ∧
  Keep [p13, p14] ww12 ww18 ∧
  (text16 ≠ 0 →
    ∀ (ww27 : World), Ext (fun b => b = p14) ww18 ww27 →
    R (.tuple #[.agg #[.int .i64 0, .int .i64 0, .int .u64 0, .int .i64 0, .int .i64 0, .int .i64 0, .slice none 0 0, .int .u64 0], .int .i64 text16]) ww27) ∧
  (text16 = 0 →
    Calls Try.prog 51 #[.pointer o1, .int .u64 secret2, .slice text15a text15n text15c] ww18 fun ee30 ww31 => ∃ (sign28 : Int) (sign29 : Int), ee30 = .returned (.tuple #[.int .u64 sign28, .int .i64 sign29]) ∧
    Keep [p13, p14] ww18 ww31 ∧
    (sign29 ≠ 0 →
      ∀ (ww40 : World), Ext (fun b => b = p14) ww31 ww40 →
      R (.tuple #[.agg #[.int .i64 0, .int .i64 0, .int .u64 0, .int .i64 0, .int .i64 0, .int .i64 0, .slice none 0 0, .int .u64 0], .int .i64 sign29]) ww40) ∧
    (sign29 = 0 →
      ∀ (ww49 : World), Ext (fun b => b = p14 ∨ b = p13) ww31 ww49 →
      R (.tuple #[.agg #[.int .i64 eWriter3, .int .i64 eIndex4, .int .u64 ePrev5, .int .i64 eAtT6, .int .i64 eAtW7, .int .i64 eEpoch8, .slice eBody9a eBody9n eBody9c, .int .u64 sign28], .int .i64 0]) ww49))

theorem cachetteref06_Sign.up (o1 : Option Addr) (secret2 : Int) (eWriter3 : Int) (eIndex4 : Int) (ePrev5 : Int) (eAtT6 : Int) (eAtW7 : Int) (eEpoch8 : Int) (eBody9a : Option Addr) (eBody9n : Nat) (eBody9c : Nat) (eSig10 : Int) {R : Value → World → Prop} {w : World} (h : cachetteref06_Sign.N o1 secret2 eWriter3 eIndex4 ePrev5 eAtT6 eAtW7 eEpoch8 eBody9a eBody9n eBody9c eSig10 R w) : cachetteref06_Sign.M o1 secret2 eWriter3 eIndex4 ePrev5 eAtT6 eAtW7 eEpoch8 eBody9a eBody9n eBody9c eSig10 R w := by
  unfold cachetteref06_Sign.M
  unfold cachetteref06_Sign.N at h
  refine thenW_in fun ww11 e11 => ?_
  have hb1 := Blk.of_new e11
  have hg1 := ((Ext.refl no w)).size
  have hx11 := (Ext.refl no w).x_alloc e11
  refine thenW_in fun ww12 e12 => ?_
  have hb2 := Blk.of_new e12
  have hg2 := (hx11).size
  have hb1_2 := Nat.ne_of_lt hb1.lt
  have hb1 := hb1.x_alloc e12
  have hx12 := hx11.x_alloc e12
  refine ⟨eWriter3, eIndex4, ePrev5, eAtT6, eAtW7, eEpoch8, eBody9a, eBody9n, eBody9c, eSig10, ⟨hb1.celli 0 rfl rfl, hb1.celli 1 rfl rfl, hb1.celli 2 rfl rfl, hb1.celli 3 rfl rfl, hb1.celli 4 rfl rfl, hb1.celli 5 rfl rfl, hb1.celli 6 rfl rfl, hb1.celli 7 rfl rfl, trivial⟩, ?_⟩
  have h := h ww12 (w.heap.size) (ww11.heap.size) hx12 (Priv.cons hg1 hb1.lt (Priv.cons hg2 hb2.lt Priv.nil))
  refine h.mono fun ee17 ww18 h => ?_
  obtain ⟨text15a, text15n, text15c, text16, he, hk, h⟩ := h
  refine ⟨text15a, text15n, text15c, text16, he, ?_⟩
  have hb1 := hk.blk hb1 (by simp)
  have hb2 := hk.blk hb2 (by simp)
  refine bif_of (fun c19 => ?_) (fun c19 => ?_)
  · have h := h.1 (bne_t c19)
    have hm27 : Ext (fun b => b = ww11.heap.size) ww18 ww18 := ((Ext.refl no ww18)).none
    refine ⟨hb2.cani 0 rfl rfl, thenW_in fun ww20 e20 => ?_⟩
    have hx20 := hm27.x_set (q := ww11.heap.size) (i := 0) rfl (.inl rfl) e20
    have hb2 := hb2.seti 0 rfl e20
    refine ⟨hb2.cani 1 rfl rfl, thenW_in fun ww21 e21 => ?_⟩
    have hx21 := hx20.x_set (q := ww11.heap.size) (i := 1) rfl (.inl rfl) e21
    have hb2 := hb2.seti 1 rfl e21
    refine ⟨hb2.cani 2 rfl rfl, thenW_in fun ww22 e22 => ?_⟩
    have hx22 := hx21.x_set (q := ww11.heap.size) (i := 2) rfl (.inl rfl) e22
    have hb2 := hb2.seti 2 rfl e22
    refine ⟨hb2.cani 3 rfl rfl, thenW_in fun ww23 e23 => ?_⟩
    have hx23 := hx22.x_set (q := ww11.heap.size) (i := 3) rfl (.inl rfl) e23
    have hb2 := hb2.seti 3 rfl e23
    refine ⟨hb2.cani 4 rfl rfl, thenW_in fun ww24 e24 => ?_⟩
    have hx24 := hx23.x_set (q := ww11.heap.size) (i := 4) rfl (.inl rfl) e24
    have hb2 := hb2.seti 4 rfl e24
    refine ⟨hb2.cani 5 rfl rfl, thenW_in fun ww25 e25 => ?_⟩
    have hx25 := hx24.x_set (q := ww11.heap.size) (i := 5) rfl (.inl rfl) e25
    have hb2 := hb2.seti 5 rfl e25
    refine ⟨hb2.cani 6 rfl rfl, thenW_in fun ww26 e26 => ?_⟩
    have hx26 := hx25.x_set (q := ww11.heap.size) (i := 6) rfl (.inl rfl) e26
    have hb2 := hb2.seti 6 rfl e26
    refine ⟨hb2.cani 7 rfl rfl, thenW_in fun ww27 e27 => ?_⟩
    have hx27 := hx26.x_set (q := ww11.heap.size) (i := 7) rfl (.inl rfl) e27
    have hb2 := hb2.seti 7 rfl e27
    refine ⟨0, 0, 0, 0, 0, 0, none, 0, 0, 0, ⟨hb2.celli 0 rfl rfl, hb2.celli 1 rfl rfl, hb2.celli 2 rfl rfl, hb2.celli 3 rfl rfl, hb2.celli 4 rfl rfl, hb2.celli 5 rfl rfl, hb2.celli 6 rfl rfl, hb2.celli 7 rfl rfl, trivial⟩, ?_⟩
    have h := h ww27 hx27
    exact h
  · have h := h.2 (bne_f c19)
    refine h.mono fun ee30 ww31 h => ?_
    obtain ⟨sign28, sign29, he, hk, h⟩ := h
    refine ⟨sign28, sign29, he, ?_⟩
    have hb1 := hk.blk hb1 (by simp)
    have hb2 := hk.blk hb2 (by simp)
    refine bif_of (fun c32 => ?_) (fun c32 => ?_)
    · have h := h.1 (bne_t c32)
      have hm40 : Ext (fun b => b = ww11.heap.size) ww31 ww31 := ((Ext.refl no ww31)).none
      refine ⟨hb2.cani 0 rfl rfl, thenW_in fun ww33 e33 => ?_⟩
      have hx33 := hm40.x_set (q := ww11.heap.size) (i := 0) rfl (.inl rfl) e33
      have hb2 := hb2.seti 0 rfl e33
      refine ⟨hb2.cani 1 rfl rfl, thenW_in fun ww34 e34 => ?_⟩
      have hx34 := hx33.x_set (q := ww11.heap.size) (i := 1) rfl (.inl rfl) e34
      have hb2 := hb2.seti 1 rfl e34
      refine ⟨hb2.cani 2 rfl rfl, thenW_in fun ww35 e35 => ?_⟩
      have hx35 := hx34.x_set (q := ww11.heap.size) (i := 2) rfl (.inl rfl) e35
      have hb2 := hb2.seti 2 rfl e35
      refine ⟨hb2.cani 3 rfl rfl, thenW_in fun ww36 e36 => ?_⟩
      have hx36 := hx35.x_set (q := ww11.heap.size) (i := 3) rfl (.inl rfl) e36
      have hb2 := hb2.seti 3 rfl e36
      refine ⟨hb2.cani 4 rfl rfl, thenW_in fun ww37 e37 => ?_⟩
      have hx37 := hx36.x_set (q := ww11.heap.size) (i := 4) rfl (.inl rfl) e37
      have hb2 := hb2.seti 4 rfl e37
      refine ⟨hb2.cani 5 rfl rfl, thenW_in fun ww38 e38 => ?_⟩
      have hx38 := hx37.x_set (q := ww11.heap.size) (i := 5) rfl (.inl rfl) e38
      have hb2 := hb2.seti 5 rfl e38
      refine ⟨hb2.cani 6 rfl rfl, thenW_in fun ww39 e39 => ?_⟩
      have hx39 := hx38.x_set (q := ww11.heap.size) (i := 6) rfl (.inl rfl) e39
      have hb2 := hb2.seti 6 rfl e39
      refine ⟨hb2.cani 7 rfl rfl, thenW_in fun ww40 e40 => ?_⟩
      have hx40 := hx39.x_set (q := ww11.heap.size) (i := 7) rfl (.inl rfl) e40
      have hb2 := hb2.seti 7 rfl e40
      refine ⟨0, 0, 0, 0, 0, 0, none, 0, 0, 0, ⟨hb2.celli 0 rfl rfl, hb2.celli 1 rfl rfl, hb2.celli 2 rfl rfl, hb2.celli 3 rfl rfl, hb2.celli 4 rfl rfl, hb2.celli 5 rfl rfl, hb2.celli 6 rfl rfl, hb2.celli 7 rfl rfl, trivial⟩, ?_⟩
      have h := h ww40 hx40
      exact h
    · have h := h.2 (bne_f c32)
      have hm41 : Ext (fun b => b = w.heap.size) ww31 ww31 := ((Ext.refl no ww31)).none
      refine ⟨hb1.cani 7 rfl rfl, thenW_in fun ww41 e41 => ?_⟩
      have hx41 := hm41.x_set (q := w.heap.size) (i := 7) rfl (.inl rfl) e41
      have hb1 := hb1.seti 7 rfl e41
      have hb2 := hb2.oth (q := w.heap.size) (i := 7) rfl (Ne.symm hb1_2) e41
      refine ⟨eWriter3, eIndex4, ePrev5, eAtT6, eAtW7, eEpoch8, eBody9a, eBody9n, eBody9c, sign28, ⟨hb1.celli 0 rfl rfl, hb1.celli 1 rfl rfl, hb1.celli 2 rfl rfl, hb1.celli 3 rfl rfl, hb1.celli 4 rfl rfl, hb1.celli 5 rfl rfl, hb1.celli 6 rfl rfl, hb1.celli 7 rfl rfl, trivial⟩, ?_⟩
      have hm49 : Ext (fun b => b = ww11.heap.size ∨ b = w.heap.size) ww31 ww41 := (hx41).mono fun _ h _ => .inr h
      refine ⟨hb2.cani 0 rfl rfl, thenW_in fun ww42 e42 => ?_⟩
      have hx42 := hm49.x_set (q := ww11.heap.size) (i := 0) rfl (.inl (.inl rfl)) e42
      have hb2 := hb2.seti 0 rfl e42
      refine ⟨hb2.cani 1 rfl rfl, thenW_in fun ww43 e43 => ?_⟩
      have hx43 := hx42.x_set (q := ww11.heap.size) (i := 1) rfl (.inl (.inl rfl)) e43
      have hb2 := hb2.seti 1 rfl e43
      refine ⟨hb2.cani 2 rfl rfl, thenW_in fun ww44 e44 => ?_⟩
      have hx44 := hx43.x_set (q := ww11.heap.size) (i := 2) rfl (.inl (.inl rfl)) e44
      have hb2 := hb2.seti 2 rfl e44
      refine ⟨hb2.cani 3 rfl rfl, thenW_in fun ww45 e45 => ?_⟩
      have hx45 := hx44.x_set (q := ww11.heap.size) (i := 3) rfl (.inl (.inl rfl)) e45
      have hb2 := hb2.seti 3 rfl e45
      refine ⟨hb2.cani 4 rfl rfl, thenW_in fun ww46 e46 => ?_⟩
      have hx46 := hx45.x_set (q := ww11.heap.size) (i := 4) rfl (.inl (.inl rfl)) e46
      have hb2 := hb2.seti 4 rfl e46
      refine ⟨hb2.cani 5 rfl rfl, thenW_in fun ww47 e47 => ?_⟩
      have hx47 := hx46.x_set (q := ww11.heap.size) (i := 5) rfl (.inl (.inl rfl)) e47
      have hb2 := hb2.seti 5 rfl e47
      refine ⟨hb2.cani 6 rfl rfl, thenW_in fun ww48 e48 => ?_⟩
      have hx48 := hx47.x_set (q := ww11.heap.size) (i := 6) rfl (.inl (.inl rfl)) e48
      have hb2 := hb2.seti 6 rfl e48
      refine ⟨hb2.cani 7 rfl rfl, thenW_in fun ww49 e49 => ?_⟩
      have hx49 := hx48.x_set (q := ww11.heap.size) (i := 7) rfl (.inl (.inl rfl)) e49
      have hb2 := hb2.seti 7 rfl e49
      refine ⟨eWriter3, eIndex4, ePrev5, eAtT6, eAtW7, eEpoch8, eBody9a, eBody9n, eBody9c, sign28, ⟨hb2.celli 0 rfl rfl, hb2.celli 1 rfl rfl, hb2.celli 2 rfl rfl, hb2.celli 3 rfl rfl, hb2.celli 4 rfl rfl, hb2.celli 5 rfl rfl, hb2.celli 6 rfl rfl, hb2.celli 7 rfl rfl, trivial⟩, ?_⟩
      have h := h ww49 hx49
      exact h

theorem cachetteref06_Sign.go (o1 : Option Addr) (secret2 : Int) (eWriter3 : Int) (eIndex4 : Int) (ePrev5 : Int) (eAtT6 : Int) (eAtW7 : Int) (eEpoch8 : Int) (eBody9a : Option Addr) (eBody9n : Nat) (eBody9c : Nat) (eSig10 : Int) {R : Value → World → Prop} {w : World} (h : cachetteref06_Sign.N o1 secret2 eWriter3 eIndex4 ePrev5 eAtT6 eAtW7 eEpoch8 eBody9a eBody9n eBody9c eSig10 R w) : Calls Try.prog 14 #[.pointer o1, .int .u64 secret2, .agg #[.int .i64 eWriter3, .int .i64 eIndex4, .int .u64 ePrev5, .int .i64 eAtT6, .int .i64 eAtW7, .int .i64 eEpoch8, .slice eBody9a eBody9n eBody9c, .int .u64 eSig10]] w fun e w' => ∃ v, e = .returned v ∧ R v w' := cachetteref06_Sign.ok o1 secret2 eWriter3 eIndex4 ePrev5 eAtT6 eAtW7 eEpoch8 eBody9a eBody9n eBody9c eSig10 (cachetteref06_Sign.up o1 secret2 eWriter3 eIndex4 ePrev5 eAtT6 eAtW7 eEpoch8 eBody9a eBody9n eBody9c eSig10 h)
theorem cachetteref06_Sign.run (o1 : Option Addr) (secret2 : Int) (eWriter3 : Int) (eIndex4 : Int) (ePrev5 : Int) (eAtT6 : Int) (eAtW7 : Int) (eEpoch8 : Int) (eBody9a : Option Addr) (eBody9n : Nat) (eBody9c : Nat) (eSig10 : Int) {V : Value} {Q : World → Prop} {w : World} (h : cachetteref06_Sign.N o1 secret2 eWriter3 eIndex4 ePrev5 eAtT6 eAtW7 eEpoch8 eBody9a eBody9n eBody9c eSig10 (fun v w' => v = V ∧ Q w') w) : Calls Try.prog 14 #[.pointer o1, .int .u64 secret2, .agg #[.int .i64 eWriter3, .int .i64 eIndex4, .int .u64 ePrev5, .int .i64 eAtT6, .int .i64 eAtW7, .int .i64 eEpoch8, .slice eBody9a eBody9n eBody9c, .int .u64 eSig10]] w (Ret V Q) := (cachetteref06_Sign.go o1 secret2 eWriter3 eIndex4 ePrev5 eAtT6 eAtW7 eEpoch8 eBody9a eBody9n eBody9c eSig10 h).mono fun e w' ⟨v, he, hv, hq⟩ => ⟨by rw [he, hv], hq⟩

def signRE (d : List Int) (L : List RRow) (s : Int) (e : Ent) : (Ent × Int) × List Int × List RRow :=
  if entRight e = true then (if (signR d L s (textL e)).1.2 = 0 then (({ e with sg := (signR d L s (textL e)).1.1 }, 0), (signR d L s (textL e)).2) else ((Ent.zero, (signR d L s (textL e)).1.2), (signR d L s (textL e)).2)) else ((Ent.zero, 1), d, L)
theorem rESign_spec (h : ROrc w o k d L) (ok : ROk w o d L) (s : Int) {e : Ent} (hf : entRight e = true → e.fit) {ba : Option Addr} {bc : Nat} (hb : Row w o ba (bytesV e.body)) (hbc : e.body.length ≤ bc) :
    Calls Try.prog 14 #[.pointer (some (blk k)), .int .u64 s, entV e ba bc] w (fun x w' => ∃ o' a' c', x = .returned (.tuple #[entV (signRE d L s e).1.1 a' c', .int .i64 (signRE d L s e).1.2]) ∧ Step (fun j => j = k) w o w' o' ∧ ROrc w' o' k (signRE d L s e).2.1 (signRE d L s e).2.2 ∧ Row w' o' a' (bytesV (signRE d L s e).1.1.body) ∧ (signRE d L s e).1.1.body.length ≤ c') := by
  refine (cachetteref06_Sign.go (some (blk k)) s e.w e.i e.pv e.t e.tw e.ep ba e.body.length bc e.sg (R := fun v w' => ∃ o' a' c', v = (.tuple #[entV (signRE d L s e).1.1 a' c', .int .i64 (signRE d L s e).1.2]) ∧ Step (fun j => j = k) w o w' o' ∧ ROrc w' o' k (signRE d L s e).2.1 (signRE d L s e).2.2 ∧ Row w' o' a' (bytesV (signRE d L s e).1.1.body) ∧ (signRE d L s e).1.1.body.length ≤ c') ?_).mono fun x w' ⟨v, he, o', a', c', hv, hw⟩ => ⟨o', a', c', by rw [he, hv], hw⟩
  unfold cachetteref06_Sign.N
  intro w12 p13 p14 X12 hp
  obtain ⟨s12, M12⟩ := Step.priv X12 hp ok.tags
  have hkl := h.lt
  have g13 := hp p13 (by simp)
  have g14 := hp p14 (by simp)
  refine (rTextK_spec hf (hb.step s12).1).mono fun x w18 ⟨a, c, he, hO, X⟩ => ⟨_, _, _, _, he, X.kept, ?_⟩
  have s18' := Step.of_no X s12.ok
  have s18 := s12.trans s18'
  have M18 := M12.step s18'
  have h18 := h.step s18 id
  have ok18 : ROk w18 _ d L := ⟨s18.ok, ok.draws, ok.short, ok.bytes⟩
  unfold textK signRE at *
  by_cases hr : entRight e = true
  · rw [if_pos hr] at hO ⊢
    rw [if_pos hr]
    refine ⟨fun h => absurd rfl h, fun _ => ?_⟩
    refine (rSign_spec h18 ok18 s (OwnB.tight hO (Nat.le_refl _)) hO.le).mono fun x w31 ⟨o31, he, s31', h31⟩ => ⟨_, _, he, M18.keep s31' (by simp; omega), fun hne w40 X40 => ?_, fun heq w49 X49 => ?_⟩
    · have s31 := s18.none.trans s31'
      have s40 := Step.stores X40 s31.ok (M18.step s31') (by simp)
      rw [if_neg hne]
      exact ⟨_, none, 0, rfl, s31.trans' s40 fun j hj => .inr (by simp at hj; omega), h31.step s40 (by simp; omega), Row.nil _ _ _, Nat.le_refl _⟩
    · have s31 := s18.none.trans s31'
      have s49 := Step.stores X49 s31.ok (M18.step s31') (by simp)
      have s := s31.trans' s49 fun j hj => .inr (by simp at hj; omega)
      rw [if_pos heq]
      exact ⟨_, ba, bc, rfl, s, h31.step s49 (by simp; omega), hb.step s, hbc⟩
  · rw [if_neg hr]
    rw [if_neg hr]
    refine ⟨fun _ w27 X27 => ?_, fun h => absurd h (by decide)⟩
    have s27 := Step.stores X27 s18.ok M18 (by simp)
    exact ⟨_, none, 0, rfl, s18.none.trans' s27 fun j hj => .inr (by simp at hj; omega), h18.step s27 (by simp; omega), Row.nil _ _ _, Nat.le_refl _⟩
theorem esign_sim (h : Sim S d L) (s : Int) (e : Ent) : (signRE d L s e).1 = (signE S s e).1 ∧ Sim (signE S s e).2 (signRE d L s e).2.1 (signRE d L s e).2.2 := by
  unfold signRE signE
  by_cases hr : entRight e = true
  · rw [if_pos hr, if_pos hr]
    obtain ⟨h1, h2⟩ := sign_sim h s (textL e)
    rw [h1]
    cases hs : (signOf S s (textL e)).1.2
    · exact ⟨rfl, h2⟩
    · exact ⟨rfl, h2⟩
  · rw [if_neg hr, if_neg hr]
    exact ⟨rfl, h⟩
theorem RFine.esign (h : RFine n d L) (s : Int) (e : Ent) : RFine (n + 1) (signRE d L s e).2.1 (signRE d L s e).2.2 := by
  unfold signRE
  split
  · rename_i hr
    have := h.sign s (b := textL e) (by have := textL_le' hr; omega)
    split <;> exact this
  · exact h.more
theorem esign_inv (h : OInv S) (s : Int) (e : Ent) : OInv (signE S s e).2 := by
  unfold signE
  split
  · split <;> exact (sign_inv' h s _).1
  · exact h
theorem esign_fit (h : OInv S) (hl : S.used.length < 1000000) (s : Int) {e : Ent} (he : e.fit) : (signE S s e).1.1.fit := by
  have z : Ent.zero.fit := ⟨by decide, by decide, by decide, by decide⟩
  unfold signE
  split
  · split
    · rename_i ht
      by_cases hk : s ∈ S.secrets
      · obtain ⟨a1, a2, a3, a4, _⟩ := sign_inv h hk (textL e)
        have hx := a1.fit (by have := (signOf_ok h.ok s (textL e)).2; omega) (a1.su _ _ a4)
        exact ⟨he.pv0, he.pv1, hx.1, hx.2⟩
      · rw [sign_no hk] at ht; cases ht
    · exact z
  · exact z
/-- cachetteref06.Holds -/
def cachetteref06_Holds.M (o1 : Option Addr) (publicv2 : Int) (eWriter3 : Int) (eIndex4 : Int) (ePrev5 : Int) (eAtT6 : Int) (eAtW7 : Int) (eEpoch8 : Int) (eBody9a : Option Addr) (eBody9n : Nat) (eBody9c : Nat) (eSig10 : Int) (R : Value → World → Prop) (w : World) : Prop :=
  thenW (w.alloc (.cells #[.int .i64 eWriter3, .int .i64 eIndex4, .int .u64 ePrev5, .int .i64 eAtT6, .int .i64 eAtW7, .int .i64 eEpoch8, .slice eBody9a eBody9n eBody9c, .int .u64 eSig10] 28)) fun ww11 =>
  ∃ (xWriter12 : Int) (xIndex13 : Int) (xPrev14 : Int) (xAtT15 : Int) (xAtW16 : Int) (xEpoch17 : Int) (xBody18a : Option Addr) (xBody18n : Nat) (xBody18c : Nat) (xSig19 : Int), cellsAt ww11 (blk w.heap.size) [.int .i64 xWriter12, .int .i64 xIndex13, .int .u64 xPrev14, .int .i64 xAtT15, .int .i64 xAtW16, .int .i64 xEpoch17, .slice xBody18a xBody18n xBody18c, .int .u64 xSig19] 0 ∧
  Calls Try.prog 50 #[.agg #[.int .i64 xWriter12, .int .i64 xIndex13, .int .u64 xPrev14, .int .i64 xAtT15, .int .i64 xAtW16, .int .i64 xEpoch17, .slice xBody18a xBody18n xBody18c, .int .u64 xSig19]] ww11 fun ee22 ww23 => ∃ (text20a : Option Addr) (text20n : Nat) (text20c : Nat) (text21 : Int), ee22 = .returned (.tuple #[.slice text20a text20n text20c, .int .i64 text21]) ∧
  bif text21 == 0 then (
  ∃ (Sig24 : Int), ww23.cell? ((blk w.heap.size).add 7) = some (.int .u64 Sig24) ∧
  Calls Try.prog 70 #[.pointer o1, .int .u64 publicv2, .slice text20a text20n text20c, .int .u64 Sig24] ww23 fun ee26 ww27 => ∃ (verify25 : Bool), ee26 = .returned (.bool verify25) ∧
  R (.bool verify25) ww27) else (
  R (.bool false) ww23)

theorem cachetteref06_Holds.eq (o1 : Option Addr) (publicv2 : Int) (eWriter3 : Int) (eIndex4 : Int) (ePrev5 : Int) (eAtT6 : Int) (eAtW7 : Int) (eEpoch8 : Int) (eBody9a : Option Addr) (eBody9n : Nat) (eBody9c : Nat) (eSig10 : Int) (R : Value → World → Prop) (w : World) : mfunc Try.prog [] 58 [.pointer o1, .int .u64 publicv2, .agg #[.int .i64 eWriter3, .int .i64 eIndex4, .int .u64 ePrev5, .int .i64 eAtT6, .int .i64 eAtW7, .int .i64 eEpoch8, .slice eBody9a eBody9n eBody9c, .int .u64 eSig10]] R w = cachetteref06_Holds.M o1 publicv2 eWriter3 eIndex4 ePrev5 eAtT6 eAtW7 eEpoch8 eBody9a eBody9n eBody9c eSig10 R w := by kernel_rfl
theorem cachetteref06_Holds.ok (o1 : Option Addr) (publicv2 : Int) (eWriter3 : Int) (eIndex4 : Int) (ePrev5 : Int) (eAtT6 : Int) (eAtW7 : Int) (eEpoch8 : Int) (eBody9a : Option Addr) (eBody9n : Nat) (eBody9c : Nat) (eSig10 : Int) {R : Value → World → Prop} {w : World} (h : cachetteref06_Holds.M o1 publicv2 eWriter3 eIndex4 ePrev5 eAtT6 eAtW7 eEpoch8 eBody9a eBody9n eBody9c eSig10 R w) : Calls Try.prog 58 #[.pointer o1, .int .u64 publicv2, .agg #[.int .i64 eWriter3, .int .i64 eIndex4, .int .u64 ePrev5, .int .i64 eAtT6, .int .i64 eAtW7, .int .i64 eEpoch8, .slice eBody9a eBody9n eBody9c, .int .u64 eSig10]] w fun e w' => ∃ v, e = .returned v ∧ R v w' :=
  mfunc_ok follows (H := []) (args := [.pointer o1, .int .u64 publicv2, .agg #[.int .i64 eWriter3, .int .i64 eIndex4, .int .u64 ePrev5, .int .i64 eAtT6, .int .i64 eAtW7, .int .i64 eEpoch8, .slice eBody9a eBody9n eBody9c, .int .u64 eSig10]]) (by rw [cachetteref06_Holds.eq]; exact h)

def cachetteref06_Holds.N (o1 : Option Addr) (publicv2 : Int) (eWriter3 : Int) (eIndex4 : Int) (ePrev5 : Int) (eAtT6 : Int) (eAtW7 : Int) (eEpoch8 : Int) (eBody9a : Option Addr) (eBody9n : Nat) (eBody9c : Nat) (eSig10 : Int) (R : Value → World → Prop) (w : World) : Prop :=
  ∀ (ww11 : World) (p12 : Nat), Ext no w ww11 → Priv w ww11 [p12] →
  Calls Try.prog 50 #[.agg #[.int .i64 eWriter3, .int .i64 eIndex4, .int .u64 ePrev5, .int .i64 eAtT6, .int .i64 eAtW7, .int .i64 eEpoch8, .slice eBody9a eBody9n eBody9c, .int .u64 eSig10]] ww11 fun ee15 ww16 => ∃ (text13a : Option Addr) (text13n : Nat) (text13c : Nat) (text14 : Int), ee15 = .returned (.tuple #[.slice text13a text13n text13c, .int .i64 text14]) ∧
  Keep [p12] ww11 ww16 ∧
  (text14 = 0 →
    Calls Try.prog 70 #[.pointer o1, .int .u64 publicv2, .slice text13a text13n text13c, .int .u64 eSig10] ww16 fun ee19 ww20 => ∃ (verify18 : Bool), ee19 = .returned (.bool verify18) ∧
    R (.bool verify18) ww20) ∧
  (text14 ≠ 0 →
    R (.bool false) ww16)

theorem cachetteref06_Holds.up (o1 : Option Addr) (publicv2 : Int) (eWriter3 : Int) (eIndex4 : Int) (ePrev5 : Int) (eAtT6 : Int) (eAtW7 : Int) (eEpoch8 : Int) (eBody9a : Option Addr) (eBody9n : Nat) (eBody9c : Nat) (eSig10 : Int) {R : Value → World → Prop} {w : World} (h : cachetteref06_Holds.N o1 publicv2 eWriter3 eIndex4 ePrev5 eAtT6 eAtW7 eEpoch8 eBody9a eBody9n eBody9c eSig10 R w) : cachetteref06_Holds.M o1 publicv2 eWriter3 eIndex4 ePrev5 eAtT6 eAtW7 eEpoch8 eBody9a eBody9n eBody9c eSig10 R w := by
  unfold cachetteref06_Holds.M
  unfold cachetteref06_Holds.N at h
  refine thenW_in fun ww11 e11 => ?_
  have hb1 := Blk.of_new e11
  have hg1 := ((Ext.refl no w)).size
  have hx11 := (Ext.refl no w).x_alloc e11
  refine ⟨eWriter3, eIndex4, ePrev5, eAtT6, eAtW7, eEpoch8, eBody9a, eBody9n, eBody9c, eSig10, ⟨hb1.celli 0 rfl rfl, hb1.celli 1 rfl rfl, hb1.celli 2 rfl rfl, hb1.celli 3 rfl rfl, hb1.celli 4 rfl rfl, hb1.celli 5 rfl rfl, hb1.celli 6 rfl rfl, hb1.celli 7 rfl rfl, trivial⟩, ?_⟩
  have h := h ww11 (w.heap.size) hx11 (Priv.cons hg1 hb1.lt Priv.nil)
  refine h.mono fun ee15 ww16 h => ?_
  obtain ⟨text13a, text13n, text13c, text14, he, hk, h⟩ := h
  refine ⟨text13a, text13n, text13c, text14, he, ?_⟩
  have hb1 := hk.blk hb1 (by simp)
  refine bif_of (fun c17 => ?_) (fun c17 => ?_)
  · have h := h.1 (beq_t c17)
    refine ⟨eSig10, hb1.celli 7 rfl rfl, ?_⟩
    refine h.mono fun ee19 ww20 h => ?_
    obtain ⟨verify18, he, h⟩ := h
    refine ⟨verify18, he, ?_⟩
    exact h
  · have h := h.2 (beq_f c17)
    exact h

theorem cachetteref06_Holds.go (o1 : Option Addr) (publicv2 : Int) (eWriter3 : Int) (eIndex4 : Int) (ePrev5 : Int) (eAtT6 : Int) (eAtW7 : Int) (eEpoch8 : Int) (eBody9a : Option Addr) (eBody9n : Nat) (eBody9c : Nat) (eSig10 : Int) {R : Value → World → Prop} {w : World} (h : cachetteref06_Holds.N o1 publicv2 eWriter3 eIndex4 ePrev5 eAtT6 eAtW7 eEpoch8 eBody9a eBody9n eBody9c eSig10 R w) : Calls Try.prog 58 #[.pointer o1, .int .u64 publicv2, .agg #[.int .i64 eWriter3, .int .i64 eIndex4, .int .u64 ePrev5, .int .i64 eAtT6, .int .i64 eAtW7, .int .i64 eEpoch8, .slice eBody9a eBody9n eBody9c, .int .u64 eSig10]] w fun e w' => ∃ v, e = .returned v ∧ R v w' := cachetteref06_Holds.ok o1 publicv2 eWriter3 eIndex4 ePrev5 eAtT6 eAtW7 eEpoch8 eBody9a eBody9n eBody9c eSig10 (cachetteref06_Holds.up o1 publicv2 eWriter3 eIndex4 ePrev5 eAtT6 eAtW7 eEpoch8 eBody9a eBody9n eBody9c eSig10 h)
theorem cachetteref06_Holds.run (o1 : Option Addr) (publicv2 : Int) (eWriter3 : Int) (eIndex4 : Int) (ePrev5 : Int) (eAtT6 : Int) (eAtW7 : Int) (eEpoch8 : Int) (eBody9a : Option Addr) (eBody9n : Nat) (eBody9c : Nat) (eSig10 : Int) {V : Value} {Q : World → Prop} {w : World} (h : cachetteref06_Holds.N o1 publicv2 eWriter3 eIndex4 ePrev5 eAtT6 eAtW7 eEpoch8 eBody9a eBody9n eBody9c eSig10 (fun v w' => v = V ∧ Q w') w) : Calls Try.prog 58 #[.pointer o1, .int .u64 publicv2, .agg #[.int .i64 eWriter3, .int .i64 eIndex4, .int .u64 ePrev5, .int .i64 eAtT6, .int .i64 eAtW7, .int .i64 eEpoch8, .slice eBody9a eBody9n eBody9c, .int .u64 eSig10]] w (Ret V Q) := (cachetteref06_Holds.go o1 publicv2 eWriter3 eIndex4 ePrev5 eAtT6 eAtW7 eEpoch8 eBody9a eBody9n eBody9c eSig10 h).mono fun e w' ⟨v, he, hv, hq⟩ => ⟨by rw [he, hv], hq⟩

def holdsR (L : List RRow) (p : Int) (e : Ent) : Bool := entRight e && verifyR L p (textL e) e.sg
theorem rHolds_spec (h : ROrc w o k d L) (ok : ROk w o d L) (p : Int) {e : Ent} (hf : entRight e = true → e.fit) {ba : Option Addr} {bc : Nat} (hb : RowAt w ba (bytesV e.body)) :
    Calls Try.prog 58 #[.pointer (some (blk k)), .int .u64 p, entV e ba bc] w (Ret (.bool (holdsR L p e)) fun w' => Ext no w w') := by
  refine cachetteref06_Holds.run (some (blk k)) p e.w e.i e.pv e.t e.tw e.ep ba e.body.length bc e.sg ?_
  unfold cachetteref06_Holds.N
  intro w11 p12 X11 hp
  refine (rTextK_spec hf (hb.no X11)).mono fun x w16 ⟨a, c, he, hO, X⟩ => ⟨_, _, _, _, he, X.kept, ?_⟩
  have s := (Step.of_no X11 ok.tags).trans (Step.of_no X (Step.of_no X11 ok.tags).ok)
  unfold textK holdsR at *
  by_cases hr : entRight e = true
  · rw [if_pos hr] at hO ⊢
    rw [hr, Bool.true_and]
    refine ⟨fun _ => ?_, fun h => absurd rfl h⟩
    exact (rVerify_spec (h.step s id) ⟨s.ok, ok.draws, ok.short, ok.bytes⟩ p e.sg (OwnB.tight hO (Nat.le_refl _))).mono fun x w20 ⟨he, X20⟩ => ⟨_, he, rfl, (X11.trans X).trans X20⟩
  · rw [if_neg hr]
    rw [show entRight e = false by simpa using hr, Bool.false_and]
    exact ⟨fun h => absurd h (by decide), fun _ => ⟨rfl, X11.trans X⟩⟩
theorem holds_sim (h : Sim S d L) (p : Int) (e : Ent) : holdsR L p e = holdsE S p e := by unfold holdsR holdsE; rw [verify_sim h]
/-- both oracles. -/
structure Two (w : World) (o : Own) (k j : Nat) (S : OS) (d : List Int) (L : List RRow) (n : Nat) : Prop where
  p : POrc w o k S
  r : ROrc w o j d L
  sim : Sim S d L
  inv : OInv S
  fine : RFine n d L
  ok : Tags w o
  ne : k ≠ j
variable {j : Nat}
theorem Two.step (h : Two w o k j S d L n) (s : Step no w o w' o') : Two w' o' k j S d L n := ⟨h.p.step s id, h.r.step s id, h.sim, h.inv, h.fine, s.ok, h.ne⟩
theorem Two.len (h : Two w o k j S d L n) : S.used.length ≤ n := by rw [h.sim.us, List.length_map]; exact h.fine.short
theorem Two.rok (h : Two w o k j S d L n) (hn : n < 1000000) : ROk w o d L := h.fine.rok h.ok hn
theorem Two.turn {w1 : World} {o1 : Own} {S' : OS} {d' : List Int} {L' : List RRow} {n' : Nat} (h : Two w o k j S d L n) (s1 : Step (fun i => i = k) w o w1 o1) (p1 : POrc w1 o1 k S') (s2 : Step (fun i => i = j) w1 o1 w' o') (r2 : ROrc w' o' j d' L')
    (sim : Sim S' d' L') (inv : OInv S') (fine : RFine n' d' L') : Two w' o' k j S' d' L' n' ∧ Step (fun i => i = k ∨ i = j) w o w' o' :=
  ⟨⟨p1.step s2 h.ne, r2, sim, inv, fine, s2.ok, h.ne⟩, (s1.mono fun _ h _ => .inl h).trans (s2.mono fun _ h _ => .inr h)⟩
end
/-- the reference's, as it is made. -/
theorem ROrc.init {w w' : World} {o : Own} {q : Nat} {da : Option Addr} {dc : Nat} {d : List Int} (X : Ext no w w') (hb : Blk w' q 36 [.slice da d.length dc, .slice none 0 0]) (h1 : w.heap.size ≤ q) (h2 : q < w'.heap.size) (ok : Tags w o) (hd : Row w o da (d.map u64V)) (hc : d.length ≤ dc) :
    ∃ o', Step no w o w' o' ∧ ROrc w' o' q d [] := by
  have s := (Step.of_no X ok).tag h1 h2
  refine ⟨_, s, [], rfl, tag_self, ⟨da, dc, none, 0, hb, hc, hd.step s, Grows.nil _ _ _ _ _, fun ad ha => by cases ha⟩, fun x hx => by cases hx⟩
end Go.Proofs.Ytlfijjmjmgobhaa
