/- Entries: the reference's bytes, and its entry of bytes. -/
import Derived.Test.YtlfijjmjmgobhaaEntC
set_option linter.unusedVariables false
set_option linter.unusedSimpArgs false
set_option maxRecDepth 20000
namespace Go.Proofs.Ytlfijjmjmgobhaa
open Go Go.Mx Go.Proofs
open W (OwnB GivesW numR countR doneR zig unzig intR)
/-- cachetteref04.Put -/
def cachetteref04_Put.M (sT1 : Int) (sW2 : Int) (R : Value → World → Prop) (w : World) : Prop :=
  thenW (w.alloc (.cells #[.int .i64 sT1, .int .i64 sW2] 25)) fun ww3 =>
  thenW (ww3.drew) fun ww4 =>
  ∃ (T5 : Int), ww4.cell? ((blk w.heap.size).add 0) = some (.int .i64 T5) ∧
  ∃ (W6 : Int), ww4.cell? ((blk w.heap.size).add 1) = some (.int .i64 W6) ∧
  Calls Try.prog 82 #[.int .i64 T5] ww4 fun ee8 ww9 => ∃ (int7a : Option Addr) (int7n : Nat) (int7c : Nat), ee8 = .returned (.slice int7a int7n int7c) ∧
  ww9.cell? ((blk w.heap.size).add 1) = some (.int .i64 W6) ∧
  Calls Try.prog 64 #[.int .u64 (IntKind.u64.wrap (if (0 : Int) > W6 then 0 else W6))] ww9 fun ee11 ww12 => ∃ (num10a : Option Addr) (num10n : Nat) (num10c : Nat), ee11 = .returned (.slice num10a num10n num10c) ∧
  ∃ (a13a : Option Addr) (a13n : Nat) (a13c : Nat) (ww14 : World), (Builtin.append_ #[26, 26] 26 #[.slice int7a int7n int7c, .slice num10a num10n num10c]).run Try.prog ww12 = .ok (.slice a13a a13n a13c) ww14 ∧
  R (.slice a13a a13n a13c) ww14

theorem cachetteref04_Put.eq (sT1 : Int) (sW2 : Int) (R : Value → World → Prop) (w : World) : mfunc Try.prog [] 81 [.agg #[.int .i64 sT1, .int .i64 sW2]] R w = cachetteref04_Put.M sT1 sW2 R w := by kernel_rfl
theorem cachetteref04_Put.ok (sT1 : Int) (sW2 : Int) {R : Value → World → Prop} {w : World} (h : cachetteref04_Put.M sT1 sW2 R w) : Calls Try.prog 81 #[.agg #[.int .i64 sT1, .int .i64 sW2]] w fun e w' => ∃ v, e = .returned v ∧ R v w' :=
  mfunc_ok follows (H := []) (args := [.agg #[.int .i64 sT1, .int .i64 sW2]]) (by rw [cachetteref04_Put.eq]; exact h)

def cachetteref04_Put.N (sT1 : Int) (sW2 : Int) (R : Value → World → Prop) (w : World) : Prop :=
  ∀ (ww4 : World) (p5 : Nat), Ext no w ww4 → Priv w ww4 [p5] →
  Calls Try.prog 82 #[.int .i64 sT1] ww4 fun ee7 ww8 => ∃ (int6a : Option Addr) (int6n : Nat) (int6c : Nat), ee7 = .returned (.slice int6a int6n int6c) ∧
  Keep [p5] ww4 ww8 ∧
  Calls Try.prog 64 #[.int .u64 (IntKind.u64.wrap (if (0 : Int) > sW2 then 0 else sW2))] ww8 fun ee10 ww11 => ∃ (num9a : Option Addr) (num9n : Nat) (num9c : Nat), ee10 = .returned (.slice num9a num9n num9c) ∧
  ∃ (a12a : Option Addr) (a12n : Nat) (a12c : Nat) (ww13 : World), (Builtin.append_ #[26, 26] 26 #[.slice int6a int6n int6c, .slice num9a num9n num9c]).run Try.prog ww11 = .ok (.slice a12a a12n a12c) ww13 ∧
  R (.slice a12a a12n a12c) ww13

theorem cachetteref04_Put.up (sT1 : Int) (sW2 : Int) {R : Value → World → Prop} {w : World} (h : cachetteref04_Put.N sT1 sW2 R w) : cachetteref04_Put.M sT1 sW2 R w := by
  unfold cachetteref04_Put.M
  unfold cachetteref04_Put.N at h
  refine thenW_in fun ww3 e3 => ?_
  have hb1 := Blk.of_new e3
  have hg1 := ((Ext.refl no w)).size
  have hx3 := (Ext.refl no w).x_alloc e3
  refine thenW_in fun ww4 e4 => ?_
  have hx4 := hx3.x_drew e4
  have hb1 := hb1.x_drew e4
  refine ⟨sT1, hb1.celli 0 rfl rfl, ?_⟩
  refine ⟨sW2, hb1.celli 1 rfl rfl, ?_⟩
  have h := h ww4 (w.heap.size) hx4 (Priv.cons hg1 hb1.lt Priv.nil)
  refine h.mono fun ee7 ww8 h => ?_
  obtain ⟨int6a, int6n, int6c, he, hk, h⟩ := h
  refine ⟨int6a, int6n, int6c, he, ?_⟩
  have hb1 := hk.blk hb1 (by simp)
  refine ⟨hb1.celli 1 rfl rfl, ?_⟩
  refine h.mono fun ee10 ww11 h => ?_
  obtain ⟨num9a, num9n, num9c, he, h⟩ := h
  refine ⟨num9a, num9n, num9c, he, ?_⟩
  obtain ⟨a12a, a12n, a12c, ww13, hr, h⟩ := h
  refine ⟨a12a, a12n, a12c, ww13, hr, ?_⟩
  exact h

theorem cachetteref04_Put.go (sT1 : Int) (sW2 : Int) {R : Value → World → Prop} {w : World} (h : cachetteref04_Put.N sT1 sW2 R w) : Calls Try.prog 81 #[.agg #[.int .i64 sT1, .int .i64 sW2]] w fun e w' => ∃ v, e = .returned v ∧ R v w' := cachetteref04_Put.ok sT1 sW2 (cachetteref04_Put.up sT1 sW2 h)
theorem cachetteref04_Put.run (sT1 : Int) (sW2 : Int) {V : Value} {Q : World → Prop} {w : World} (h : cachetteref04_Put.N sT1 sW2 (fun v w' => v = V ∧ Q w') w) : Calls Try.prog 81 #[.agg #[.int .i64 sT1, .int .i64 sW2]] w (Ret V Q) := (cachetteref04_Put.go sT1 sW2 h).mono fun e w' ⟨v, he, hv, hq⟩ => ⟨by rw [he, hv], hq⟩

/-- cachetteref06.Text -/
def cachetteref06_Text.M (eWriter1 : Int) (eIndex2 : Int) (ePrev3 : Int) (eAtT4 : Int) (eAtW5 : Int) (eEpoch6 : Int) (eBody7a : Option Addr) (eBody7n : Nat) (eBody7c : Nat) (eSig8 : Int) (R : Value → World → Prop) (w : World) : Prop :=
  thenW (w.alloc (.cells #[.int .i64 eWriter1, .int .i64 eIndex2, .int .u64 ePrev3, .int .i64 eAtT4, .int .i64 eAtW5, .int .i64 eEpoch6, .slice eBody7a eBody7n eBody7c, .int .u64 eSig8] 28)) fun ww9 =>
  ∃ (xWriter10 : Int) (xIndex11 : Int) (xPrev12 : Int) (xAtT13 : Int) (xAtW14 : Int) (xEpoch15 : Int) (xBody16a : Option Addr) (xBody16n : Nat) (xBody16c : Nat) (xSig17 : Int), cellsAt ww9 (blk w.heap.size) [.int .i64 xWriter10, .int .i64 xIndex11, .int .u64 xPrev12, .int .i64 xAtT13, .int .i64 xAtW14, .int .i64 xEpoch15, .slice xBody16a xBody16n xBody16c, .int .u64 xSig17] 0 ∧
  Calls Try.prog 57 #[.agg #[.int .i64 xWriter10, .int .i64 xIndex11, .int .u64 xPrev12, .int .i64 xAtT13, .int .i64 xAtW14, .int .i64 xEpoch15, .slice xBody16a xBody16n xBody16c, .int .u64 xSig17]] ww9 fun ee19 ww20 => ∃ (right18 : Bool), ee19 = .returned (.bool right18) ∧
  bif !right18 then (
  R (.tuple #[.slice none 0 0, .int .i64 1]) ww20) else (
  ∃ (Writer21 : Int), ww20.cell? ((blk w.heap.size).add 0) = some (.int .i64 Writer21) ∧
  Calls Try.prog 64 #[.int .u64 (IntKind.u64.wrap Writer21)] ww20 fun ee23 ww24 => ∃ (num22a : Option Addr) (num22n : Nat) (num22c : Nat), ee23 = .returned (.slice num22a num22n num22c) ∧
  ∃ (Index25 : Int), ww24.cell? ((blk w.heap.size).add 1) = some (.int .i64 Index25) ∧
  Calls Try.prog 64 #[.int .u64 (IntKind.u64.wrap Index25)] ww24 fun ee27 ww28 => ∃ (num26a : Option Addr) (num26n : Nat) (num26c : Nat), ee27 = .returned (.slice num26a num26n num26c) ∧
  ∃ (a29a : Option Addr) (a29n : Nat) (a29c : Nat) (ww30 : World), (Builtin.append_ #[26, 26] 26 #[.slice num22a num22n num22c, .slice num26a num26n num26c]).run Try.prog ww28 = .ok (.slice a29a a29n a29c) ww30 ∧
  ∃ (Prev31 : Int), ww30.cell? ((blk w.heap.size).add 2) = some (.int .u64 Prev31) ∧
  Calls Try.prog 64 #[.int .u64 Prev31] ww30 fun ee33 ww34 => ∃ (num32a : Option Addr) (num32n : Nat) (num32c : Nat), ee33 = .returned (.slice num32a num32n num32c) ∧
  ∃ (a35a : Option Addr) (a35n : Nat) (a35c : Nat) (ww36 : World), (Builtin.append_ #[26, 26] 26 #[.slice a29a a29n a29c, .slice num32a num32n num32c]).run Try.prog ww34 = .ok (.slice a35a a35n a35c) ww36 ∧
  ∃ (AtT37 : Int) (AtW38 : Int), cellsAt ww36 ((blk w.heap.size).add 3) [.int .i64 AtT37, .int .i64 AtW38] 0 ∧
  Calls Try.prog 81 #[.agg #[.int .i64 AtT37, .int .i64 AtW38]] ww36 fun ee40 ww41 => ∃ (put39a : Option Addr) (put39n : Nat) (put39c : Nat), ee40 = .returned (.slice put39a put39n put39c) ∧
  ∃ (a42a : Option Addr) (a42n : Nat) (a42c : Nat) (ww43 : World), (Builtin.append_ #[26, 26] 26 #[.slice a35a a35n a35c, .slice put39a put39n put39c]).run Try.prog ww41 = .ok (.slice a42a a42n a42c) ww43 ∧
  ∃ (Epoch44 : Int), ww43.cell? ((blk w.heap.size).add 5) = some (.int .i64 Epoch44) ∧
  Calls Try.prog 82 #[.int .i64 Epoch44] ww43 fun ee46 ww47 => ∃ (int45a : Option Addr) (int45n : Nat) (int45c : Nat), ee46 = .returned (.slice int45a int45n int45c) ∧
  ∃ (a48a : Option Addr) (a48n : Nat) (a48c : Nat) (ww49 : World), (Builtin.append_ #[26, 26] 26 #[.slice a42a a42n a42c, .slice int45a int45n int45c]).run Try.prog ww47 = .ok (.slice a48a a48n a48c) ww49 ∧
  ∃ (Body50a : Option Addr) (Body50n : Nat) (Body50c : Nat), ww49.cell? ((blk w.heap.size).add 6) = some (.slice Body50a Body50n Body50c) ∧
  Calls Try.prog 83 #[.slice Body50a Body50n Body50c] ww49 fun ee52 ww53 => ∃ (bytes51a : Option Addr) (bytes51n : Nat) (bytes51c : Nat), ee52 = .returned (.slice bytes51a bytes51n bytes51c) ∧
  ∃ (a54a : Option Addr) (a54n : Nat) (a54c : Nat) (ww55 : World), (Builtin.append_ #[26, 26] 26 #[.slice a48a a48n a48c, .slice bytes51a bytes51n bytes51c]).run Try.prog ww53 = .ok (.slice a54a a54n a54c) ww55 ∧
  R (.tuple #[.slice a54a a54n a54c, .int .i64 0]) ww55)

theorem cachetteref06_Text.eq (eWriter1 : Int) (eIndex2 : Int) (ePrev3 : Int) (eAtT4 : Int) (eAtW5 : Int) (eEpoch6 : Int) (eBody7a : Option Addr) (eBody7n : Nat) (eBody7c : Nat) (eSig8 : Int) (R : Value → World → Prop) (w : World) : mfunc Try.prog [] 50 [.agg #[.int .i64 eWriter1, .int .i64 eIndex2, .int .u64 ePrev3, .int .i64 eAtT4, .int .i64 eAtW5, .int .i64 eEpoch6, .slice eBody7a eBody7n eBody7c, .int .u64 eSig8]] R w = cachetteref06_Text.M eWriter1 eIndex2 ePrev3 eAtT4 eAtW5 eEpoch6 eBody7a eBody7n eBody7c eSig8 R w := by kernel_rfl
theorem cachetteref06_Text.ok (eWriter1 : Int) (eIndex2 : Int) (ePrev3 : Int) (eAtT4 : Int) (eAtW5 : Int) (eEpoch6 : Int) (eBody7a : Option Addr) (eBody7n : Nat) (eBody7c : Nat) (eSig8 : Int) {R : Value → World → Prop} {w : World} (h : cachetteref06_Text.M eWriter1 eIndex2 ePrev3 eAtT4 eAtW5 eEpoch6 eBody7a eBody7n eBody7c eSig8 R w) : Calls Try.prog 50 #[.agg #[.int .i64 eWriter1, .int .i64 eIndex2, .int .u64 ePrev3, .int .i64 eAtT4, .int .i64 eAtW5, .int .i64 eEpoch6, .slice eBody7a eBody7n eBody7c, .int .u64 eSig8]] w fun e w' => ∃ v, e = .returned v ∧ R v w' :=
  mfunc_ok follows (H := []) (args := [.agg #[.int .i64 eWriter1, .int .i64 eIndex2, .int .u64 ePrev3, .int .i64 eAtT4, .int .i64 eAtW5, .int .i64 eEpoch6, .slice eBody7a eBody7n eBody7c, .int .u64 eSig8]]) (by rw [cachetteref06_Text.eq]; exact h)

def cachetteref06_Text.N (eWriter1 : Int) (eIndex2 : Int) (ePrev3 : Int) (eAtT4 : Int) (eAtW5 : Int) (eEpoch6 : Int) (eBody7a : Option Addr) (eBody7n : Nat) (eBody7c : Nat) (eSig8 : Int) (R : Value → World → Prop) (w : World) : Prop :=
  ((cachetteref06_Right.F eWriter1 eIndex2 ePrev3 eAtT4 eAtW5 eEpoch6 eBody7a eBody7n eBody7c eSig8) = false →
    ∀ (ww10 : World), Ext no w ww10 →
    R (.tuple #[.slice none 0 0, .int .i64 1]) ww10) ∧
  ((cachetteref06_Right.F eWriter1 eIndex2 ePrev3 eAtT4 eAtW5 eEpoch6 eBody7a eBody7n eBody7c eSig8) = true →
    ∀ (ww10 : World) (p13 : Nat), Ext no w ww10 → Priv w ww10 [p13] →
    Calls Try.prog 64 #[.int .u64 (IntKind.u64.wrap eWriter1)] ww10 fun ee15 ww16 => ∃ (num14a : Option Addr) (num14n : Nat) (num14c : Nat), ee15 = .returned (.slice num14a num14n num14c) ∧
    Keep [p13] ww10 ww16 ∧
    Calls Try.prog 64 #[.int .u64 (IntKind.u64.wrap eIndex2)] ww16 fun ee18 ww19 => ∃ (num17a : Option Addr) (num17n : Nat) (num17c : Nat), ee18 = .returned (.slice num17a num17n num17c) ∧
    Keep [p13] ww16 ww19 ∧
    ∃ (a20a : Option Addr) (a20n : Nat) (a20c : Nat) (ww21 : World), (Builtin.append_ #[26, 26] 26 #[.slice num14a num14n num14c, .slice num17a num17n num17c]).run Try.prog ww19 = .ok (.slice a20a a20n a20c) ww21 ∧
    Keep [p13] ww19 ww21 ∧
    Calls Try.prog 64 #[.int .u64 ePrev3] ww21 fun ee23 ww24 => ∃ (num22a : Option Addr) (num22n : Nat) (num22c : Nat), ee23 = .returned (.slice num22a num22n num22c) ∧
    Keep [p13] ww21 ww24 ∧
    ∃ (a25a : Option Addr) (a25n : Nat) (a25c : Nat) (ww26 : World), (Builtin.append_ #[26, 26] 26 #[.slice a20a a20n a20c, .slice num22a num22n num22c]).run Try.prog ww24 = .ok (.slice a25a a25n a25c) ww26 ∧
    Keep [p13] ww24 ww26 ∧
    Calls Try.prog 81 #[.agg #[.int .i64 eAtT4, .int .i64 eAtW5]] ww26 fun ee28 ww29 => ∃ (put27a : Option Addr) (put27n : Nat) (put27c : Nat), ee28 = .returned (.slice put27a put27n put27c) ∧
    Keep [p13] ww26 ww29 ∧
    ∃ (a30a : Option Addr) (a30n : Nat) (a30c : Nat) (ww31 : World), (Builtin.append_ #[26, 26] 26 #[.slice a25a a25n a25c, .slice put27a put27n put27c]).run Try.prog ww29 = .ok (.slice a30a a30n a30c) ww31 ∧
    Keep [p13] ww29 ww31 ∧
    Calls Try.prog 82 #[.int .i64 eEpoch6] ww31 fun ee33 ww34 => ∃ (int32a : Option Addr) (int32n : Nat) (int32c : Nat), ee33 = .returned (.slice int32a int32n int32c) ∧
    Keep [p13] ww31 ww34 ∧
    ∃ (a35a : Option Addr) (a35n : Nat) (a35c : Nat) (ww36 : World), (Builtin.append_ #[26, 26] 26 #[.slice a30a a30n a30c, .slice int32a int32n int32c]).run Try.prog ww34 = .ok (.slice a35a a35n a35c) ww36 ∧
    Keep [p13] ww34 ww36 ∧
    Calls Try.prog 83 #[.slice eBody7a eBody7n eBody7c] ww36 fun ee38 ww39 => ∃ (bytes37a : Option Addr) (bytes37n : Nat) (bytes37c : Nat), ee38 = .returned (.slice bytes37a bytes37n bytes37c) ∧
    ∃ (a40a : Option Addr) (a40n : Nat) (a40c : Nat) (ww41 : World), (Builtin.append_ #[26, 26] 26 #[.slice a35a a35n a35c, .slice bytes37a bytes37n bytes37c]).run Try.prog ww39 = .ok (.slice a40a a40n a40c) ww41 ∧
    R (.tuple #[.slice a40a a40n a40c, .int .i64 0]) ww41)

theorem cachetteref06_Text.up (eWriter1 : Int) (eIndex2 : Int) (ePrev3 : Int) (eAtT4 : Int) (eAtW5 : Int) (eEpoch6 : Int) (eBody7a : Option Addr) (eBody7n : Nat) (eBody7c : Nat) (eSig8 : Int) {R : Value → World → Prop} {w : World} (h : cachetteref06_Text.N eWriter1 eIndex2 ePrev3 eAtT4 eAtW5 eEpoch6 eBody7a eBody7n eBody7c eSig8 R w) : cachetteref06_Text.M eWriter1 eIndex2 ePrev3 eAtT4 eAtW5 eEpoch6 eBody7a eBody7n eBody7c eSig8 R w := by
  unfold cachetteref06_Text.M
  unfold cachetteref06_Text.N at h
  refine thenW_in fun ww9 e9 => ?_
  have hb1 := Blk.of_new e9
  have hg1 := ((Ext.refl no w)).size
  have hx9 := (Ext.refl no w).x_alloc e9
  refine ⟨eWriter1, eIndex2, ePrev3, eAtT4, eAtW5, eEpoch6, eBody7a, eBody7n, eBody7c, eSig8, ⟨hb1.celli 0 rfl rfl, hb1.celli 1 rfl rfl, hb1.celli 2 rfl rfl, hb1.celli 3 rfl rfl, hb1.celli 4 rfl rfl, hb1.celli 5 rfl rfl, hb1.celli 6 rfl rfl, hb1.celli 7 rfl rfl, trivial⟩, ?_⟩
  refine (cachetteref06_Right.pure eWriter1 eIndex2 ePrev3 eAtT4 eAtW5 eEpoch6 eBody7a eBody7n eBody7c eSig8).mono fun ee ww10 ⟨he, hxx⟩ => ⟨(cachetteref06_Right.F eWriter1 eIndex2 ePrev3 eAtT4 eAtW5 eEpoch6 eBody7a eBody7n eBody7c eSig8), he, ?_⟩
  have hx10 := hx9.trans hxx
  have hb1 := hb1.ext hxx id
  refine bif_of (fun c11 => ?_) (fun c11 => ?_)
  · have h := h.1 (not_t c11)
    have h := h ww10 hx10
    exact h
  · have h := h.2 (not_f c11)
    refine ⟨eWriter1, hb1.celli 0 rfl rfl, ?_⟩
    have h := h ww10 (w.heap.size) hx10 (Priv.cons hg1 hb1.lt Priv.nil)
    refine h.mono fun ee15 ww16 h => ?_
    obtain ⟨num14a, num14n, num14c, he, hk, h⟩ := h
    refine ⟨num14a, num14n, num14c, he, ?_⟩
    have hb1 := hk.blk hb1 (by simp)
    refine ⟨eIndex2, hb1.celli 1 rfl rfl, ?_⟩
    refine h.mono fun ee18 ww19 h => ?_
    obtain ⟨num17a, num17n, num17c, he, hk, h⟩ := h
    refine ⟨num17a, num17n, num17c, he, ?_⟩
    have hb1 := hk.blk hb1 (by simp)
    obtain ⟨a20a, a20n, a20c, ww21, hr, hk, h⟩ := h
    refine ⟨a20a, a20n, a20c, ww21, hr, ?_⟩
    have hb1 := hk.blk hb1 (by simp)
    refine ⟨ePrev3, hb1.celli 2 rfl rfl, ?_⟩
    refine h.mono fun ee23 ww24 h => ?_
    obtain ⟨num22a, num22n, num22c, he, hk, h⟩ := h
    refine ⟨num22a, num22n, num22c, he, ?_⟩
    have hb1 := hk.blk hb1 (by simp)
    obtain ⟨a25a, a25n, a25c, ww26, hr, hk, h⟩ := h
    refine ⟨a25a, a25n, a25c, ww26, hr, ?_⟩
    have hb1 := hk.blk hb1 (by simp)
    refine ⟨eAtT4, eAtW5, ⟨hb1.celli 3 rfl rfl, hb1.celli 4 rfl rfl, trivial⟩, ?_⟩
    refine h.mono fun ee28 ww29 h => ?_
    obtain ⟨put27a, put27n, put27c, he, hk, h⟩ := h
    refine ⟨put27a, put27n, put27c, he, ?_⟩
    have hb1 := hk.blk hb1 (by simp)
    obtain ⟨a30a, a30n, a30c, ww31, hr, hk, h⟩ := h
    refine ⟨a30a, a30n, a30c, ww31, hr, ?_⟩
    have hb1 := hk.blk hb1 (by simp)
    refine ⟨eEpoch6, hb1.celli 5 rfl rfl, ?_⟩
    refine h.mono fun ee33 ww34 h => ?_
    obtain ⟨int32a, int32n, int32c, he, hk, h⟩ := h
    refine ⟨int32a, int32n, int32c, he, ?_⟩
    have hb1 := hk.blk hb1 (by simp)
    obtain ⟨a35a, a35n, a35c, ww36, hr, hk, h⟩ := h
    refine ⟨a35a, a35n, a35c, ww36, hr, ?_⟩
    have hb1 := hk.blk hb1 (by simp)
    refine ⟨eBody7a, eBody7n, eBody7c, hb1.celli 6 rfl rfl, ?_⟩
    refine h.mono fun ee38 ww39 h => ?_
    obtain ⟨bytes37a, bytes37n, bytes37c, he, h⟩ := h
    refine ⟨bytes37a, bytes37n, bytes37c, he, ?_⟩
    obtain ⟨a40a, a40n, a40c, ww41, hr, h⟩ := h
    refine ⟨a40a, a40n, a40c, ww41, hr, ?_⟩
    exact h

theorem cachetteref06_Text.go (eWriter1 : Int) (eIndex2 : Int) (ePrev3 : Int) (eAtT4 : Int) (eAtW5 : Int) (eEpoch6 : Int) (eBody7a : Option Addr) (eBody7n : Nat) (eBody7c : Nat) (eSig8 : Int) {R : Value → World → Prop} {w : World} (h : cachetteref06_Text.N eWriter1 eIndex2 ePrev3 eAtT4 eAtW5 eEpoch6 eBody7a eBody7n eBody7c eSig8 R w) : Calls Try.prog 50 #[.agg #[.int .i64 eWriter1, .int .i64 eIndex2, .int .u64 ePrev3, .int .i64 eAtT4, .int .i64 eAtW5, .int .i64 eEpoch6, .slice eBody7a eBody7n eBody7c, .int .u64 eSig8]] w fun e w' => ∃ v, e = .returned v ∧ R v w' := cachetteref06_Text.ok eWriter1 eIndex2 ePrev3 eAtT4 eAtW5 eEpoch6 eBody7a eBody7n eBody7c eSig8 (cachetteref06_Text.up eWriter1 eIndex2 ePrev3 eAtT4 eAtW5 eEpoch6 eBody7a eBody7n eBody7c eSig8 h)
theorem cachetteref06_Text.run (eWriter1 : Int) (eIndex2 : Int) (ePrev3 : Int) (eAtT4 : Int) (eAtW5 : Int) (eEpoch6 : Int) (eBody7a : Option Addr) (eBody7n : Nat) (eBody7c : Nat) (eSig8 : Int) {V : Value} {Q : World → Prop} {w : World} (h : cachetteref06_Text.N eWriter1 eIndex2 ePrev3 eAtT4 eAtW5 eEpoch6 eBody7a eBody7n eBody7c eSig8 (fun v w' => v = V ∧ Q w') w) : Calls Try.prog 50 #[.agg #[.int .i64 eWriter1, .int .i64 eIndex2, .int .u64 ePrev3, .int .i64 eAtT4, .int .i64 eAtW5, .int .i64 eEpoch6, .slice eBody7a eBody7n eBody7c, .int .u64 eSig8]] w (Ret V Q) := (cachetteref06_Text.go eWriter1 eIndex2 ePrev3 eAtT4 eAtW5 eEpoch6 eBody7a eBody7n eBody7c eSig8 h).mono fun e w' ⟨v, he, hv, hq⟩ => ⟨by rw [he, hv], hq⟩

/-- cachetteref06.Same -/
def cachetteref06_Same.M (aWriter1 : Int) (aIndex2 : Int) (aPrev3 : Int) (aAtT4 : Int) (aAtW5 : Int) (aEpoch6 : Int) (aBody7a : Option Addr) (aBody7n : Nat) (aBody7c : Nat) (aSig8 : Int) (bWriter9 : Int) (bIndex10 : Int) (bPrev11 : Int) (bAtT12 : Int) (bAtW13 : Int) (bEpoch14 : Int) (bBody15a : Option Addr) (bBody15n : Nat) (bBody15c : Nat) (bSig16 : Int) (R : Value → World → Prop) (w : World) : Prop :=
  thenW (w.alloc (.cells #[.int .i64 aWriter1, .int .i64 aIndex2, .int .u64 aPrev3, .int .i64 aAtT4, .int .i64 aAtW5, .int .i64 aEpoch6, .slice aBody7a aBody7n aBody7c, .int .u64 aSig8] 28)) fun ww17 =>
  thenW (ww17.alloc (.cells #[.int .i64 bWriter9, .int .i64 bIndex10, .int .u64 bPrev11, .int .i64 bAtT12, .int .i64 bAtW13, .int .i64 bEpoch14, .slice bBody15a bBody15n bBody15c, .int .u64 bSig16] 28)) fun ww18 =>
  ∃ (Writer19 : Int), ww18.cell? ((blk w.heap.size).add 0) = some (.int .i64 Writer19) ∧
  ∃ (Writer20 : Int), ww18.cell? ((blk ww17.heap.size).add 0) = some (.int .i64 Writer20) ∧
  bif Writer19 == Writer20 then (
  ∃ (Index21 : Int), ww18.cell? ((blk w.heap.size).add 1) = some (.int .i64 Index21) ∧
  ∃ (Index22 : Int), ww18.cell? ((blk ww17.heap.size).add 1) = some (.int .i64 Index22) ∧
  bif Index21 == Index22 then (
  ∃ (Prev23 : Int), ww18.cell? ((blk w.heap.size).add 2) = some (.int .u64 Prev23) ∧
  ∃ (Prev24 : Int), ww18.cell? ((blk ww17.heap.size).add 2) = some (.int .u64 Prev24) ∧
  bif Prev23 == Prev24 then (
  ∃ (AtT25 : Int) (AtW26 : Int), cellsAt ww18 ((blk w.heap.size).add 3) [.int .i64 AtT25, .int .i64 AtW26] 0 ∧
  ∃ (AtT27 : Int) (AtW28 : Int), cellsAt ww18 ((blk ww17.heap.size).add 3) [.int .i64 AtT27, .int .i64 AtW28] 0 ∧
  ∃ (b29 : Bool), (binOp .eql 25 (.agg #[.int .i64 AtT25, .int .i64 AtW26]) (.agg #[.int .i64 AtT27, .int .i64 AtW28])).run Try.prog ww18 = .ok (.bool b29) ww18 ∧
  bif b29 then (
  ∃ (Epoch30 : Int), ww18.cell? ((blk w.heap.size).add 5) = some (.int .i64 Epoch30) ∧
  ∃ (Epoch31 : Int), ww18.cell? ((blk ww17.heap.size).add 5) = some (.int .i64 Epoch31) ∧
  bif Epoch30 == Epoch31 then (
  ∃ (Sig32 : Int), ww18.cell? ((blk w.heap.size).add 7) = some (.int .u64 Sig32) ∧
  ∃ (Sig33 : Int), ww18.cell? ((blk ww17.heap.size).add 7) = some (.int .u64 Sig33) ∧
  bif Sig32 == Sig33 then (
  ∃ (Body34a : Option Addr) (Body34n : Nat) (Body34c : Nat), ww18.cell? ((blk w.heap.size).add 6) = some (.slice Body34a Body34n Body34c) ∧
  ∃ (Body35a : Option Addr) (Body35n : Nat) (Body35c : Nat), ww18.cell? ((blk ww17.heap.size).add 6) = some (.slice Body35a Body35n Body35c) ∧
  Calls Try.prog 29 #[.slice Body34a Body34n Body34c, .slice Body35a Body35n Body35c] ww18 fun ee37 ww38 => ∃ (same36 : Bool), ee37 = .returned (.bool same36) ∧
  R (.bool same36) ww38) else (
  R (.bool false) ww18)) else (
  R (.bool false) ww18)) else (
  R (.bool false) ww18)) else (
  R (.bool false) ww18)) else (
  R (.bool false) ww18)) else (
  R (.bool false) ww18)

theorem cachetteref06_Same.eq (aWriter1 : Int) (aIndex2 : Int) (aPrev3 : Int) (aAtT4 : Int) (aAtW5 : Int) (aEpoch6 : Int) (aBody7a : Option Addr) (aBody7n : Nat) (aBody7c : Nat) (aSig8 : Int) (bWriter9 : Int) (bIndex10 : Int) (bPrev11 : Int) (bAtT12 : Int) (bAtW13 : Int) (bEpoch14 : Int) (bBody15a : Option Addr) (bBody15n : Nat) (bBody15c : Nat) (bSig16 : Int) (R : Value → World → Prop) (w : World) : mfunc Try.prog [] 15 [.agg #[.int .i64 aWriter1, .int .i64 aIndex2, .int .u64 aPrev3, .int .i64 aAtT4, .int .i64 aAtW5, .int .i64 aEpoch6, .slice aBody7a aBody7n aBody7c, .int .u64 aSig8], .agg #[.int .i64 bWriter9, .int .i64 bIndex10, .int .u64 bPrev11, .int .i64 bAtT12, .int .i64 bAtW13, .int .i64 bEpoch14, .slice bBody15a bBody15n bBody15c, .int .u64 bSig16]] R w = cachetteref06_Same.M aWriter1 aIndex2 aPrev3 aAtT4 aAtW5 aEpoch6 aBody7a aBody7n aBody7c aSig8 bWriter9 bIndex10 bPrev11 bAtT12 bAtW13 bEpoch14 bBody15a bBody15n bBody15c bSig16 R w := by kernel_rfl
theorem cachetteref06_Same.ok (aWriter1 : Int) (aIndex2 : Int) (aPrev3 : Int) (aAtT4 : Int) (aAtW5 : Int) (aEpoch6 : Int) (aBody7a : Option Addr) (aBody7n : Nat) (aBody7c : Nat) (aSig8 : Int) (bWriter9 : Int) (bIndex10 : Int) (bPrev11 : Int) (bAtT12 : Int) (bAtW13 : Int) (bEpoch14 : Int) (bBody15a : Option Addr) (bBody15n : Nat) (bBody15c : Nat) (bSig16 : Int) {R : Value → World → Prop} {w : World} (h : cachetteref06_Same.M aWriter1 aIndex2 aPrev3 aAtT4 aAtW5 aEpoch6 aBody7a aBody7n aBody7c aSig8 bWriter9 bIndex10 bPrev11 bAtT12 bAtW13 bEpoch14 bBody15a bBody15n bBody15c bSig16 R w) : Calls Try.prog 15 #[.agg #[.int .i64 aWriter1, .int .i64 aIndex2, .int .u64 aPrev3, .int .i64 aAtT4, .int .i64 aAtW5, .int .i64 aEpoch6, .slice aBody7a aBody7n aBody7c, .int .u64 aSig8], .agg #[.int .i64 bWriter9, .int .i64 bIndex10, .int .u64 bPrev11, .int .i64 bAtT12, .int .i64 bAtW13, .int .i64 bEpoch14, .slice bBody15a bBody15n bBody15c, .int .u64 bSig16]] w fun e w' => ∃ v, e = .returned v ∧ R v w' :=
  mfunc_ok follows (H := []) (args := [.agg #[.int .i64 aWriter1, .int .i64 aIndex2, .int .u64 aPrev3, .int .i64 aAtT4, .int .i64 aAtW5, .int .i64 aEpoch6, .slice aBody7a aBody7n aBody7c, .int .u64 aSig8], .agg #[.int .i64 bWriter9, .int .i64 bIndex10, .int .u64 bPrev11, .int .i64 bAtT12, .int .i64 bAtW13, .int .i64 bEpoch14, .slice bBody15a bBody15n bBody15c, .int .u64 bSig16]]) (by rw [cachetteref06_Same.eq]; exact h)

def cachetteref06_Same.N (aWriter1 : Int) (aIndex2 : Int) (aPrev3 : Int) (aAtT4 : Int) (aAtW5 : Int) (aEpoch6 : Int) (aBody7a : Option Addr) (aBody7n : Nat) (aBody7c : Nat) (aSig8 : Int) (bWriter9 : Int) (bIndex10 : Int) (bPrev11 : Int) (bAtT12 : Int) (bAtW13 : Int) (bEpoch14 : Int) (bBody15a : Option Addr) (bBody15n : Nat) (bBody15c : Nat) (bSig16 : Int) (R : Value → World → Prop) (w : World) : Prop :=
  (aWriter1 = bWriter9 →
    (aIndex2 = bIndex10 →
      (aPrev3 = bPrev11 →
        (aAtT4 = bAtT12 ∧ aAtW5 = bAtW13 →
          (aEpoch6 = bEpoch14 →
            (aSig8 = bSig16 →
              ∀ (ww18 : World), Ext no w ww18 →
              Calls Try.prog 29 #[.slice aBody7a aBody7n aBody7c, .slice bBody15a bBody15n bBody15c] ww18 fun ee28 ww29 => ∃ (same27 : Bool), ee28 = .returned (.bool same27) ∧
              R (.bool same27) ww29) ∧
            (aSig8 ≠ bSig16 →
              ∀ (ww18 : World), Ext no w ww18 →
              R (.bool false) ww18)) ∧
          (aEpoch6 ≠ bEpoch14 →
            ∀ (ww18 : World), Ext no w ww18 →
            R (.bool false) ww18)) ∧
        (¬ (aAtT4 = bAtT12 ∧ aAtW5 = bAtW13) →
          ∀ (ww18 : World), Ext no w ww18 →
          R (.bool false) ww18)) ∧
      (aPrev3 ≠ bPrev11 →
        ∀ (ww18 : World), Ext no w ww18 →
        R (.bool false) ww18)) ∧
    (aIndex2 ≠ bIndex10 →
      ∀ (ww18 : World), Ext no w ww18 →
      R (.bool false) ww18)) ∧
  (aWriter1 ≠ bWriter9 →
    ∀ (ww18 : World), Ext no w ww18 →
    R (.bool false) ww18)

theorem cachetteref06_Same.up (aWriter1 : Int) (aIndex2 : Int) (aPrev3 : Int) (aAtT4 : Int) (aAtW5 : Int) (aEpoch6 : Int) (aBody7a : Option Addr) (aBody7n : Nat) (aBody7c : Nat) (aSig8 : Int) (bWriter9 : Int) (bIndex10 : Int) (bPrev11 : Int) (bAtT12 : Int) (bAtW13 : Int) (bEpoch14 : Int) (bBody15a : Option Addr) (bBody15n : Nat) (bBody15c : Nat) (bSig16 : Int) {R : Value → World → Prop} {w : World} (h : cachetteref06_Same.N aWriter1 aIndex2 aPrev3 aAtT4 aAtW5 aEpoch6 aBody7a aBody7n aBody7c aSig8 bWriter9 bIndex10 bPrev11 bAtT12 bAtW13 bEpoch14 bBody15a bBody15n bBody15c bSig16 R w) : cachetteref06_Same.M aWriter1 aIndex2 aPrev3 aAtT4 aAtW5 aEpoch6 aBody7a aBody7n aBody7c aSig8 bWriter9 bIndex10 bPrev11 bAtT12 bAtW13 bEpoch14 bBody15a bBody15n bBody15c bSig16 R w := by
  unfold cachetteref06_Same.M
  unfold cachetteref06_Same.N at h
  refine thenW_in fun ww17 e17 => ?_
  have hb1 := Blk.of_new e17
  have hg1 := ((Ext.refl no w)).size
  have hx17 := (Ext.refl no w).x_alloc e17
  refine thenW_in fun ww18 e18 => ?_
  have hb2 := Blk.of_new e18
  have hg2 := (hx17).size
  have hb1_2 := Nat.ne_of_lt hb1.lt
  have hb1 := hb1.x_alloc e18
  have hx18 := hx17.x_alloc e18
  refine ⟨aWriter1, hb1.celli 0 rfl rfl, ?_⟩
  refine ⟨bWriter9, hb2.celli 0 rfl rfl, ?_⟩
  refine bif_of (fun c19 => ?_) (fun c19 => ?_)
  · have h := h.1 (beq_t c19)
    refine ⟨aIndex2, hb1.celli 1 rfl rfl, ?_⟩
    refine ⟨bIndex10, hb2.celli 1 rfl rfl, ?_⟩
    refine bif_of (fun c20 => ?_) (fun c20 => ?_)
    · have h := h.1 (beq_t c20)
      refine ⟨aPrev3, hb1.celli 2 rfl rfl, ?_⟩
      refine ⟨bPrev11, hb2.celli 2 rfl rfl, ?_⟩
      refine bif_of (fun c21 => ?_) (fun c21 => ?_)
      · have h := h.1 (beq_t c21)
        refine ⟨aAtT4, aAtW5, ⟨hb1.celli 3 rfl rfl, hb1.celli 4 rfl rfl, trivial⟩, ?_⟩
        refine ⟨bAtT12, bAtW13, ⟨hb2.celli 3 rfl rfl, hb2.celli 4 rfl rfl, trivial⟩, ?_⟩
        refine ⟨_, eqT25_eq aAtT4 aAtW5 bAtT12 bAtW13 _, ?_⟩
        refine bif_of (fun c22 => ?_) (fun c22 => ?_)
        · have h := h.1 (of_decide_eq_true c22)
          refine ⟨aEpoch6, hb1.celli 5 rfl rfl, ?_⟩
          refine ⟨bEpoch14, hb2.celli 5 rfl rfl, ?_⟩
          refine bif_of (fun c23 => ?_) (fun c23 => ?_)
          · have h := h.1 (beq_t c23)
            refine ⟨aSig8, hb1.celli 7 rfl rfl, ?_⟩
            refine ⟨bSig16, hb2.celli 7 rfl rfl, ?_⟩
            refine bif_of (fun c24 => ?_) (fun c24 => ?_)
            · have h := h.1 (beq_t c24)
              refine ⟨aBody7a, aBody7n, aBody7c, hb1.celli 6 rfl rfl, ?_⟩
              refine ⟨bBody15a, bBody15n, bBody15c, hb2.celli 6 rfl rfl, ?_⟩
              have h := h ww18 hx18
              refine h.mono fun ee28 ww29 h => ?_
              obtain ⟨same27, he, h⟩ := h
              refine ⟨same27, he, ?_⟩
              exact h
            · have h := h.2 (beq_f c24)
              have h := h ww18 hx18
              exact h
          · have h := h.2 (beq_f c23)
            have h := h ww18 hx18
            exact h
        · have h := h.2 (of_decide_eq_false c22)
          have h := h ww18 hx18
          exact h
      · have h := h.2 (beq_f c21)
        have h := h ww18 hx18
        exact h
    · have h := h.2 (beq_f c20)
      have h := h ww18 hx18
      exact h
  · have h := h.2 (beq_f c19)
    have h := h ww18 hx18
    exact h

theorem cachetteref06_Same.go (aWriter1 : Int) (aIndex2 : Int) (aPrev3 : Int) (aAtT4 : Int) (aAtW5 : Int) (aEpoch6 : Int) (aBody7a : Option Addr) (aBody7n : Nat) (aBody7c : Nat) (aSig8 : Int) (bWriter9 : Int) (bIndex10 : Int) (bPrev11 : Int) (bAtT12 : Int) (bAtW13 : Int) (bEpoch14 : Int) (bBody15a : Option Addr) (bBody15n : Nat) (bBody15c : Nat) (bSig16 : Int) {R : Value → World → Prop} {w : World} (h : cachetteref06_Same.N aWriter1 aIndex2 aPrev3 aAtT4 aAtW5 aEpoch6 aBody7a aBody7n aBody7c aSig8 bWriter9 bIndex10 bPrev11 bAtT12 bAtW13 bEpoch14 bBody15a bBody15n bBody15c bSig16 R w) : Calls Try.prog 15 #[.agg #[.int .i64 aWriter1, .int .i64 aIndex2, .int .u64 aPrev3, .int .i64 aAtT4, .int .i64 aAtW5, .int .i64 aEpoch6, .slice aBody7a aBody7n aBody7c, .int .u64 aSig8], .agg #[.int .i64 bWriter9, .int .i64 bIndex10, .int .u64 bPrev11, .int .i64 bAtT12, .int .i64 bAtW13, .int .i64 bEpoch14, .slice bBody15a bBody15n bBody15c, .int .u64 bSig16]] w fun e w' => ∃ v, e = .returned v ∧ R v w' := cachetteref06_Same.ok aWriter1 aIndex2 aPrev3 aAtT4 aAtW5 aEpoch6 aBody7a aBody7n aBody7c aSig8 bWriter9 bIndex10 bPrev11 bAtT12 bAtW13 bEpoch14 bBody15a bBody15n bBody15c bSig16 (cachetteref06_Same.up aWriter1 aIndex2 aPrev3 aAtT4 aAtW5 aEpoch6 aBody7a aBody7n aBody7c aSig8 bWriter9 bIndex10 bPrev11 bAtT12 bAtW13 bEpoch14 bBody15a bBody15n bBody15c bSig16 h)
theorem cachetteref06_Same.run (aWriter1 : Int) (aIndex2 : Int) (aPrev3 : Int) (aAtT4 : Int) (aAtW5 : Int) (aEpoch6 : Int) (aBody7a : Option Addr) (aBody7n : Nat) (aBody7c : Nat) (aSig8 : Int) (bWriter9 : Int) (bIndex10 : Int) (bPrev11 : Int) (bAtT12 : Int) (bAtW13 : Int) (bEpoch14 : Int) (bBody15a : Option Addr) (bBody15n : Nat) (bBody15c : Nat) (bSig16 : Int) {V : Value} {Q : World → Prop} {w : World} (h : cachetteref06_Same.N aWriter1 aIndex2 aPrev3 aAtT4 aAtW5 aEpoch6 aBody7a aBody7n aBody7c aSig8 bWriter9 bIndex10 bPrev11 bAtT12 bAtW13 bEpoch14 bBody15a bBody15n bBody15c bSig16 (fun v w' => v = V ∧ Q w') w) : Calls Try.prog 15 #[.agg #[.int .i64 aWriter1, .int .i64 aIndex2, .int .u64 aPrev3, .int .i64 aAtT4, .int .i64 aAtW5, .int .i64 aEpoch6, .slice aBody7a aBody7n aBody7c, .int .u64 aSig8], .agg #[.int .i64 bWriter9, .int .i64 bIndex10, .int .u64 bPrev11, .int .i64 bAtT12, .int .i64 bAtW13, .int .i64 bEpoch14, .slice bBody15a bBody15n bBody15c, .int .u64 bSig16]] w (Ret V Q) := (cachetteref06_Same.go aWriter1 aIndex2 aPrev3 aAtT4 aAtW5 aEpoch6 aBody7a aBody7n aBody7c aSig8 bWriter9 bIndex10 bPrev11 bAtT12 bAtW13 bEpoch14 bBody15a bBody15n bBody15c bSig16 h).mono fun e w' ⟨v, he, hv, hq⟩ => ⟨by rw [he, hv], hq⟩

section
variable {w w' : World} {a : Option Addr} {c N p : Nat} {bs : List UInt8} {k : Int}
theorem rPut_spec {t s : Int} (h0 : -9223372036854775808 ≤ t) (h1 : t < 9223372036854775808) (hs : s < 9223372036854775808) :
    Calls Try.prog 81 #[.agg #[.int .i64 t, .int .i64 s]] w (fun e w' => ∃ a' c', e = .returned (.slice a' (stampL t s).length c') ∧ OwnB w.heap.size w' a' c' (stampL t s) ∧ Ext no w w') := by
  refine (cachetteref04_Put.go _ _ (R := fun v w' => ∃ a' c', v = (.slice a' (stampL t s).length c') ∧ OwnB w.heap.size w' a' c' (stampL t s) ∧ Ext no w w') ?_).mono fun e w' ⟨v, he, a, c, hv, hw⟩ => ⟨a, c, by rw [he, hv], hw⟩
  unfold cachetteref04_Put.N
  intro w4 p5 X4 hp
  have hp := hp.one
  have e1 : IntKind.u64.wrap (if (0 : Int) > s then 0 else s) = ((s.toNat : Nat) : Int) := by split <;> rw [wu64 (by omega) (by omega)] <;> omega
  rw [e1]
  have g1 := W.numL_le (zig t); have g2 := W.numL_le s.toNat
  refine (rInt_spec h0 h1).mono fun e w8 ⟨a8, c8, he, hO, X8⟩ => ⟨a8, _, c8, he, X8.kept, ?_⟩
  refine (W.rNum_spec s.toNat w8 (by omega)).mono fun e w11 ⟨a11, c11, he, hO2, X11⟩ => ⟨a11, _, c11, he, ?_⟩
  obtain ⟨a', c', w13, hr, hB, Y, _, _⟩ := app (w0 := w) hO (X4.trans X8) X4.size X8.size X11 (xc := c11) hO2.row (by omega)
  exact ⟨a', _, c', w13, hr, a', c', rfl, OwnB.up hB X4.size, Y⟩
theorem rText_spec {e : Ent} (hf : entRight e = true → e.fit) {ba : Option Addr} {bc : Nat} (hb : RowAt w ba (bytesV e.body)) :
    Calls Try.prog 50 #[entV e ba bc] w (fun x w' => Ext no w w' ∧ ((entRight e = false ∧ x = .returned (.tuple #[.slice none 0 0, .int .i64 1])) ∨ (entRight e = true ∧ ∃ a' c', x = .returned (.tuple #[.slice a' (textL e).length c', .int .i64 0]) ∧ OwnB w.heap.size w' a' c' (textL e)))) := by
  refine (cachetteref06_Text.go e.w e.i e.pv e.t e.tw e.ep ba e.body.length bc e.sg (R := fun v w' => Ext no w w' ∧ ((entRight e = false ∧ v = (.tuple #[.slice none 0 0, .int .i64 1])) ∨ (entRight e = true ∧ ∃ a' c', v = (.tuple #[.slice a' (textL e).length c', .int .i64 0]) ∧ OwnB w.heap.size w' a' c' (textL e)))) ?_).mono fun x w' ⟨v, he, hx, hv⟩ => ⟨hx, hv.imp (fun ⟨h1, h2⟩ => ⟨h1, by rw [he, h2]⟩) fun ⟨h1, a, c, h2, h3⟩ => ⟨h1, a, c, by rw [he, h2], h3⟩⟩
  unfold cachetteref06_Text.N
  rw [refRight_F]
  refine ⟨fun h w10 X => ⟨X, .inl ⟨h, rfl⟩⟩, fun h w9 p X9 hp => ?_⟩
  have hp := hp.one
  have hf := hf h
  obtain ⟨h1, h2, h3, h4, h5, h6, h7, h8, h9, h10, h11⟩ := (entRight_iff e).1 h
  have f1 := hf.pv0; have f2 := hf.pv1
  rw [wu64 (n := e.w) h1 (by omega), wu64 (n := e.i) h3 (by omega), ← Int.toNat_of_nonneg h1, ← Int.toNat_of_nonneg h3, ← Int.toNat_of_nonneg f1]
  have g1 := W.numL_le e.w.toNat; have g2 := W.numL_le e.i.toNat; have g3 := W.numL_le e.pv.toNat; have g4 := stampL_le e.t e.tw; have g5 := W.numL_le (zig e.ep); have g6 := W.numL_le e.body.length
  refine (W.rNum_spec e.w.toNat w9 (by omega)).mono fun x w17 ⟨a1, c1, he, hB, X17⟩ => ⟨a1, _, c1, he, X17.kept, ?_⟩
  have Y := X9.trans X17
  have hN := X17.size
  have h0 := X9.size
  refine (W.rNum_spec e.i.toNat w17 (by omega)).mono fun x w20 ⟨a2, c2, he, hO, X20⟩ => ⟨a2, _, c2, he, X20.kept, ?_⟩
  obtain ⟨a3, c3, w22, hr, hB, Y, XA, hN⟩ := app hB Y h0 hN X20 (xc := c2) hO.row (by (try simp only [List.length_append]) <;> omega)
  refine ⟨a3, _, c3, w22, hr, keep1 XA (by omega), ?_⟩
  refine (W.rNum_spec e.pv.toNat w22 (by omega)).mono fun x w25 ⟨a2, c2, he, hO, X25⟩ => ⟨a2, _, c2, he, X25.kept, ?_⟩
  obtain ⟨a3, c3, w27, hr, hB, Y, XA, hN⟩ := app hB Y h0 hN X25 (xc := c2) hO.row (by (try simp only [List.length_append]) <;> omega)
  refine ⟨a3, _, c3, w27, hr, keep1 XA (by omega), ?_⟩
  refine (rPut_spec (by omega) (by omega) (by omega)).mono fun x w30 ⟨a2, c2, he, hO, X30⟩ => ⟨a2, _, c2, he, X30.kept, ?_⟩
  obtain ⟨a3, c3, w32, hr, hB, Y, XA, hN⟩ := app hB Y h0 hN X30 (xc := c2) hO.row (by (try simp only [List.length_append]) <;> omega)
  refine ⟨a3, _, c3, w32, hr, keep1 XA (by omega), ?_⟩
  refine (rInt_spec (by omega) (by omega)).mono fun x w35 ⟨a2, c2, he, hO, X35⟩ => ⟨a2, _, c2, he, X35.kept, ?_⟩
  obtain ⟨a3, c3, w37, hr, hB, Y, XA, hN⟩ := app hB Y h0 hN X35 (xc := c2) hO.row (by (try simp only [List.length_append]) <;> omega)
  refine ⟨a3, _, c3, w37, hr, keep1 XA (by omega), ?_⟩
  refine (rBytes_spec (hb.no Y) (by omega)).mono fun x w40 ⟨a2, c2, he, hO, X40⟩ => ⟨a2, _, c2, he, ?_⟩
  obtain ⟨a3, c3, w42, hr, hB, Y, XA, hN⟩ := app hB Y h0 hN X40 (xc := c2) hO.row (by (try simp only [List.length_append]) <;> omega)
  exact ⟨a3, _, c3, w42, hr, Y, .inr ⟨h, a3, c3, rfl, OwnB.up hB h0⟩⟩
/-- as the reference has it: an epoch that is out of range is -9. -/
def entT (s : RS) : Ent := { entR s with ep := if (entR s).ep < -1 ∨ (entR s).ep > 20 then -9 else (entR s).ep }
theorem entT_right (s : RS) : entRight (entT s) = entRight (entR s) ∧ (entRight (entR s) = true → entT s = entR s) := by
  unfold entT
  by_cases h : (entR s).ep < -1 ∨ (entR s).ep > 20
  · rw [if_pos h]
    have h1 : entRight { entR s with ep := -9 } = false := decide_eq_false (by show ¬ (_ ∧ _ ∧ _ ∧ _ ∧ (-1 : Int) ≤ -9 ∧ _); omega)
    have h2 : entRight (entR s) = false := decide_eq_false (by omega)
    rw [h1, h2]
    exact ⟨rfl, fun h => by cases h⟩
  · rw [if_neg h]; exact ⟨rfl, fun _ => rfl⟩
theorem rESame_spec {e f : Ent} {b : Option Addr} {d : Nat} (ha : RowAt w a (bytesV e.body)) (hb : RowAt w b (bytesV f.body)) (hl : e.body.length < 1000000) :
    Calls Try.prog 15 #[entV e a c, entV f b d] w (Ret (.bool (decide (e = f))) fun w' => Ext no w w') := by
  refine cachetteref06_Same.run _ _ _ _ _ _ _ _ _ _ _ _ _ _ _ _ _ _ _ _ ?_
  unfold cachetteref06_Same.N
  obtain ⟨e1, e2, e3, e4, e5, e6, e7, e8⟩ := e
  obtain ⟨f1, f2, f3, f4, f5, f6, f7, f8⟩ := f
  simp only [Ent.mk.injEq]
  refine ⟨fun c1 => ⟨fun c2 => ⟨fun c3 => ⟨fun c4 => ⟨fun c5 => ⟨fun c6 w18 X => ?_, fun c6 w18 X => ⟨?_, X⟩⟩, fun c5 w18 X => ⟨?_, X⟩⟩, fun c4 w18 X => ⟨?_, X⟩⟩, fun c3 w18 X => ⟨?_, X⟩⟩, fun c2 w18 X => ⟨?_, X⟩⟩, fun c1 w18 X => ⟨?_, X⟩⟩
  · refine (W.sameB_spec (ha.no X) (hb.no X) hl).mono fun x w31 ⟨he, X31⟩ => ⟨_, he, ?_, X.trans X31⟩
    congr 1; rw [Bool.eq_iff_iff, decide_eq_true_eq, decide_eq_true_eq]; exact ⟨fun h => ⟨c1, c2, c3, c4.1, c4.2, c5, h, c6⟩, fun h => h.2.2.2.2.2.2.1⟩
  · rw [decide_eq_false fun h => c6 h.2.2.2.2.2.2.2]
  · rw [decide_eq_false fun h => c5 h.2.2.2.2.2.1]
  · rw [decide_eq_false fun h => c4 ⟨h.2.2.2.1, h.2.2.2.2.1⟩]
  · rw [decide_eq_false fun h => c3 h.2.2.1]
  · rw [decide_eq_false fun h => c2 h.2.1]
  · rw [decide_eq_false fun h => c1 h.1]
end
end Go.Proofs.Ytlfijjmjmgobhaa
