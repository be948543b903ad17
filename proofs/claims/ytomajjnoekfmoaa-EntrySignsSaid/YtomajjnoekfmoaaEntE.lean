/- Entries: the reference's bytes, and its entry of bytes. -/
import Derived.Test.YtomajjnoekfmoaaEntC
set_option linter.unusedVariables false
set_option linter.unusedSimpArgs false
set_option maxRecDepth 20000
namespace Go.Proofs.Ytomajjnoekfmoaa
open Go Go.Mx Go.Proofs
open W (OwnB Rd RdR GivesW numR countR doneR zig unzig intR)
/-- cachetteref04.Put -/
def cachetteref04_Put.M (sT1 : Int) (sW2 : Int) (R : Value → World → Prop) (w : World) : Prop :=
  thenW (w.alloc (.cells #[.int .i64 sT1, .int .i64 sW2] 24)) fun ww3 =>
  thenW (ww3.drew) fun ww4 =>
  ∃ (T5 : Int), ww4.cell? ((blk w.heap.size).add 0) = some (.int .i64 T5) ∧
  ∃ (W6 : Int), ww4.cell? ((blk w.heap.size).add 1) = some (.int .i64 W6) ∧
  Calls Try.prog 46 #[.int .i64 T5] ww4 fun ee8 ww9 => ∃ (int7a : Option Addr) (int7n : Nat) (int7c : Nat), ee8 = .returned (.slice int7a int7n int7c) ∧
  ww9.cell? ((blk w.heap.size).add 1) = some (.int .i64 W6) ∧
  Calls Try.prog 44 #[.int .u64 (IntKind.u64.wrap (if (0 : Int) > W6 then 0 else W6))] ww9 fun ee11 ww12 => ∃ (num10a : Option Addr) (num10n : Nat) (num10c : Nat), ee11 = .returned (.slice num10a num10n num10c) ∧
  ∃ (a13a : Option Addr) (a13n : Nat) (a13c : Nat) (ww14 : World), (Builtin.append_ #[25, 25] 25 #[.slice int7a int7n int7c, .slice num10a num10n num10c]).run Try.prog ww12 = .ok (.slice a13a a13n a13c) ww14 ∧
  R (.slice a13a a13n a13c) ww14

theorem cachetteref04_Put.eq (sT1 : Int) (sW2 : Int) (R : Value → World → Prop) (w : World) : mfunc Try.prog [] 45 [.agg #[.int .i64 sT1, .int .i64 sW2]] R w = cachetteref04_Put.M sT1 sW2 R w := by kernel_rfl
theorem cachetteref04_Put.ok (sT1 : Int) (sW2 : Int) {R : Value → World → Prop} {w : World} (h : cachetteref04_Put.M sT1 sW2 R w) : Calls Try.prog 45 #[.agg #[.int .i64 sT1, .int .i64 sW2]] w fun e w' => ∃ v, e = .returned v ∧ R v w' :=
  mfunc_ok follows (H := []) (args := [.agg #[.int .i64 sT1, .int .i64 sW2]]) (by rw [cachetteref04_Put.eq]; exact h)

def cachetteref04_Put.N (sT1 : Int) (sW2 : Int) (R : Value → World → Prop) (w : World) : Prop :=
  ∀ (ww4 : World) (p5 : Nat), Ext no w ww4 → Priv w ww4 [p5] →
  Calls Try.prog 46 #[.int .i64 sT1] ww4 fun ee7 ww8 => ∃ (int6a : Option Addr) (int6n : Nat) (int6c : Nat), ee7 = .returned (.slice int6a int6n int6c) ∧
  Keep [p5] ww4 ww8 ∧
  Calls Try.prog 44 #[.int .u64 (IntKind.u64.wrap (if (0 : Int) > sW2 then 0 else sW2))] ww8 fun ee10 ww11 => ∃ (num9a : Option Addr) (num9n : Nat) (num9c : Nat), ee10 = .returned (.slice num9a num9n num9c) ∧
  ∃ (a12a : Option Addr) (a12n : Nat) (a12c : Nat) (ww13 : World), (Builtin.append_ #[25, 25] 25 #[.slice int6a int6n int6c, .slice num9a num9n num9c]).run Try.prog ww11 = .ok (.slice a12a a12n a12c) ww13 ∧
  R (.slice a12a a12n a12c) ww13

theorem cachetteref04_Put.up (sT1 : Int) (sW2 : Int) {R : Value → World → Prop} {w : World} (h : cachetteref04_Put.N sT1 sW2 R w) : cachetteref04_Put.M sT1 sW2 R w := by
  unfold cachetteref04_Put.M
  unfold cachetteref04_Put.N at h
  refine thenW_in fun ww3 e3 => ?_
  have hb1 := Blk.of_new e3
  have hg1 := ((Ext.refl no w)).size
  have hx3 := (Ext.refl no w).x_alloc e3
  refine thenW_in fun ww4 e4 => ?_
  have hx4 := hx3.x_drew e4
  have hb1 := hb1.x_drew e4
  refine ⟨sT1, hb1.celli 0 rfl rfl, ?_⟩
  refine ⟨sW2, hb1.celli 1 rfl rfl, ?_⟩
  have h := h ww4 (w.heap.size) hx4 (Priv.cons hg1 hb1.lt Priv.nil)
  refine h.mono fun ee7 ww8 h => ?_
  obtain ⟨int6a, int6n, int6c, he, hk, h⟩ := h
  refine ⟨int6a, int6n, int6c, he, ?_⟩
  have hb1 := hk.blk hb1 (by simp)
  refine ⟨hb1.celli 1 rfl rfl, ?_⟩
  refine h.mono fun ee10 ww11 h => ?_
  obtain ⟨num9a, num9n, num9c, he, h⟩ := h
  refine ⟨num9a, num9n, num9c, he, ?_⟩
  obtain ⟨a12a, a12n, a12c, ww13, hr, h⟩ := h
  refine ⟨a12a, a12n, a12c, ww13, hr, ?_⟩
  exact h

theorem cachetteref04_Put.go (sT1 : Int) (sW2 : Int) {R : Value → World → Prop} {w : World} (h : cachetteref04_Put.N sT1 sW2 R w) : Calls Try.prog 45 #[.agg #[.int .i64 sT1, .int .i64 sW2]] w fun e w' => ∃ v, e = .returned v ∧ R v w' := cachetteref04_Put.ok sT1 sW2 (cachetteref04_Put.up sT1 sW2 h)
theorem cachetteref04_Put.run (sT1 : Int) (sW2 : Int) {V : Value} {Q : World → Prop} {w : World} (h : cachetteref04_Put.N sT1 sW2 (fun v w' => v = V ∧ Q w') w) : Calls Try.prog 45 #[.agg #[.int .i64 sT1, .int .i64 sW2]] w (Ret V Q) := (cachetteref04_Put.go sT1 sW2 h).mono fun e w' ⟨v, he, hv, hq⟩ => ⟨by rw [he, hv], hq⟩

/-- cachetteref04.Get -/
def cachetteref04_Get.M (r1 : Option Addr) (R : Value → World → Prop) (w : World) : Prop :=
  thenW (w.alloc (.cells #[.int .i64 0, .int .i64 0] 24)) fun ww2 =>
  Calls Try.prog 75 #[.pointer r1] ww2 fun ee4 ww5 => ∃ (int3 : Int), ee4 = .returned (.int .i64 int3) ∧
  Calls Try.prog 72 #[.pointer r1, .int .i64 7] ww5 fun ee7 ww8 => ∃ (count6 : Int), ee7 = .returned (.int .i64 count6) ∧
  canStore ww8 ((blk w.heap.size).add 0) ∧
  thenW (ww8.setCell ((blk w.heap.size).add 0) (.int .i64 int3)) fun ww9 =>
  canStore ww9 ((blk w.heap.size).add 1) ∧
  thenW (ww9.setCell ((blk w.heap.size).add 1) (.int .i64 count6)) fun ww10 =>
  ∃ (resT11 : Int) (resW12 : Int), cellsAt ww10 (blk w.heap.size) [.int .i64 resT11, .int .i64 resW12] 0 ∧
  R (.agg #[.int .i64 resT11, .int .i64 resW12]) ww10

theorem cachetteref04_Get.eq (r1 : Option Addr) (R : Value → World → Prop) (w : World) : mfunc Try.prog [] 74 [.pointer r1] R w = cachetteref04_Get.M r1 R w := by kernel_rfl
theorem cachetteref04_Get.ok (r1 : Option Addr) {R : Value → World → Prop} {w : World} (h : cachetteref04_Get.M r1 R w) : Calls Try.prog 74 #[.pointer r1] w fun e w' => ∃ v, e = .returned v ∧ R v w' :=
  mfunc_ok follows (H := []) (args := [.pointer r1]) (by rw [cachetteref04_Get.eq]; exact h)

def cachetteref04_Get.N (r1 : Option Addr) (R : Value → World → Prop) (w : World) : Prop :=
  ∀ (ww2 : World) (p3 : Nat), Ext no w ww2 → Priv w ww2 [p3] →
  Calls Try.prog 75 #[.pointer r1] ww2 fun ee5 ww6 => ∃ (int4 : Int), ee5 = .returned (.int .i64 int4) ∧
  Keep [p3] ww2 ww6 ∧
  Calls Try.prog 72 #[.pointer r1, .int .i64 7] ww6 fun ee8 ww9 => ∃ (count7 : Int), ee8 = .returned (.int .i64 count7) ∧
  Keep [p3] ww6 ww9 ∧
  ∀ (ww11 : World), Ext (fun b => b = p3) ww9 ww11 →
  R (.agg #[.int .i64 int4, .int .i64 count7]) ww11

theorem cachetteref04_Get.up (r1 : Option Addr) {R : Value → World → Prop} {w : World} (h : cachetteref04_Get.N r1 R w) : cachetteref04_Get.M r1 R w := by
  unfold cachetteref04_Get.M
  unfold cachetteref04_Get.N at h
  refine thenW_in fun ww2 e2 => ?_
  have hb1 := Blk.of_new e2
  have hg1 := ((Ext.refl no w)).size
  have hx2 := (Ext.refl no w).x_alloc e2
  have h := h ww2 (w.heap.size) hx2 (Priv.cons hg1 hb1.lt Priv.nil)
  refine h.mono fun ee5 ww6 h => ?_
  obtain ⟨int4, he, hk, h⟩ := h
  refine ⟨int4, he, ?_⟩
  have hb1 := hk.blk hb1 (by simp)
  refine h.mono fun ee8 ww9 h => ?_
  obtain ⟨count7, he, hk, h⟩ := h
  refine ⟨count7, he, ?_⟩
  have hb1 := hk.blk hb1 (by simp)
  have hm11 : Ext (fun b => b = w.heap.size) ww9 ww9 := ((Ext.refl no ww9)).none
  refine ⟨hb1.cani 0 rfl rfl, thenW_in fun ww10 e10 => ?_⟩
  have hx10 := hm11.x_set (q := w.heap.size) (i := 0) rfl (.inl rfl) e10
  have hb1 := hb1.seti 0 rfl e10
  refine ⟨hb1.cani 1 rfl rfl, thenW_in fun ww11 e11 => ?_⟩
  have hx11 := hx10.x_set (q := w.heap.size) (i := 1) rfl (.inl rfl) e11
  have hb1 := hb1.seti 1 rfl e11
  refine ⟨int4, count7, ⟨hb1.celli 0 rfl rfl, hb1.celli 1 rfl rfl, trivial⟩, ?_⟩
  have h := h ww11 hx11
  exact h

theorem cachetteref04_Get.go (r1 : Option Addr) {R : Value → World → Prop} {w : World} (h : cachetteref04_Get.N r1 R w) : Calls Try.prog 74 #[.pointer r1] w fun e w' => ∃ v, e = .returned v ∧ R v w' := cachetteref04_Get.ok r1 (cachetteref04_Get.up r1 h)
theorem cachetteref04_Get.run (r1 : Option Addr) {V : Value} {Q : World → Prop} {w : World} (h : cachetteref04_Get.N r1 (fun v w' => v = V ∧ Q w') w) : Calls Try.prog 74 #[.pointer r1] w (Ret V Q) := (cachetteref04_Get.go r1 h).mono fun e w' ⟨v, he, hv, hq⟩ => ⟨by rw [he, hv], hq⟩

/-- cachetteref06.Text -/
def cachetteref06_Text.M (eWriter1 : Int) (eIndex2 : Int) (ePrev3 : Int) (eAtT4 : Int) (eAtW5 : Int) (eEpoch6 : Int) (eBody7a : Option Addr) (eBody7n : Nat) (eBody7c : Nat) (eSig8 : Int) (R : Value → World → Prop) (w : World) : Prop :=
  thenW (w.alloc (.cells #[.int .i64 eWriter1, .int .i64 eIndex2, .int .u64 ePrev3, .int .i64 eAtT4, .int .i64 eAtW5, .int .i64 eEpoch6, .slice eBody7a eBody7n eBody7c, .int .u64 eSig8] 27)) fun ww9 =>
  ∃ (xWriter10 : Int) (xIndex11 : Int) (xPrev12 : Int) (xAtT13 : Int) (xAtW14 : Int) (xEpoch15 : Int) (xBody16a : Option Addr) (xBody16n : Nat) (xBody16c : Nat) (xSig17 : Int), cellsAt ww9 (blk w.heap.size) [.int .i64 xWriter10, .int .i64 xIndex11, .int .u64 xPrev12, .int .i64 xAtT13, .int .i64 xAtW14, .int .i64 xEpoch15, .slice xBody16a xBody16n xBody16c, .int .u64 xSig17] 0 ∧
  Calls Try.prog 19 #[.agg #[.int .i64 xWriter10, .int .i64 xIndex11, .int .u64 xPrev12, .int .i64 xAtT13, .int .i64 xAtW14, .int .i64 xEpoch15, .slice xBody16a xBody16n xBody16c, .int .u64 xSig17]] ww9 fun ee19 ww20 => ∃ (right18 : Bool), ee19 = .returned (.bool right18) ∧
  bif !right18 then (
  R (.tuple #[.slice none 0 0, .int .i64 1]) ww20) else (
  ∃ (Writer21 : Int), ww20.cell? ((blk w.heap.size).add 0) = some (.int .i64 Writer21) ∧
  Calls Try.prog 44 #[.int .u64 (IntKind.u64.wrap Writer21)] ww20 fun ee23 ww24 => ∃ (num22a : Option Addr) (num22n : Nat) (num22c : Nat), ee23 = .returned (.slice num22a num22n num22c) ∧
  ∃ (Index25 : Int), ww24.cell? ((blk w.heap.size).add 1) = some (.int .i64 Index25) ∧
  Calls Try.prog 44 #[.int .u64 (IntKind.u64.wrap Index25)] ww24 fun ee27 ww28 => ∃ (num26a : Option Addr) (num26n : Nat) (num26c : Nat), ee27 = .returned (.slice num26a num26n num26c) ∧
  ∃ (a29a : Option Addr) (a29n : Nat) (a29c : Nat) (ww30 : World), (Builtin.append_ #[25, 25] 25 #[.slice num22a num22n num22c, .slice num26a num26n num26c]).run Try.prog ww28 = .ok (.slice a29a a29n a29c) ww30 ∧
  ∃ (Prev31 : Int), ww30.cell? ((blk w.heap.size).add 2) = some (.int .u64 Prev31) ∧
  Calls Try.prog 44 #[.int .u64 Prev31] ww30 fun ee33 ww34 => ∃ (num32a : Option Addr) (num32n : Nat) (num32c : Nat), ee33 = .returned (.slice num32a num32n num32c) ∧
  ∃ (a35a : Option Addr) (a35n : Nat) (a35c : Nat) (ww36 : World), (Builtin.append_ #[25, 25] 25 #[.slice a29a a29n a29c, .slice num32a num32n num32c]).run Try.prog ww34 = .ok (.slice a35a a35n a35c) ww36 ∧
  ∃ (AtT37 : Int) (AtW38 : Int), cellsAt ww36 ((blk w.heap.size).add 3) [.int .i64 AtT37, .int .i64 AtW38] 0 ∧
  Calls Try.prog 45 #[.agg #[.int .i64 AtT37, .int .i64 AtW38]] ww36 fun ee40 ww41 => ∃ (put39a : Option Addr) (put39n : Nat) (put39c : Nat), ee40 = .returned (.slice put39a put39n put39c) ∧
  ∃ (a42a : Option Addr) (a42n : Nat) (a42c : Nat) (ww43 : World), (Builtin.append_ #[25, 25] 25 #[.slice a35a a35n a35c, .slice put39a put39n put39c]).run Try.prog ww41 = .ok (.slice a42a a42n a42c) ww43 ∧
  ∃ (Epoch44 : Int), ww43.cell? ((blk w.heap.size).add 5) = some (.int .i64 Epoch44) ∧
  Calls Try.prog 46 #[.int .i64 Epoch44] ww43 fun ee46 ww47 => ∃ (int45a : Option Addr) (int45n : Nat) (int45c : Nat), ee46 = .returned (.slice int45a int45n int45c) ∧
  ∃ (a48a : Option Addr) (a48n : Nat) (a48c : Nat) (ww49 : World), (Builtin.append_ #[25, 25] 25 #[.slice a42a a42n a42c, .slice int45a int45n int45c]).run Try.prog ww47 = .ok (.slice a48a a48n a48c) ww49 ∧
  ∃ (Body50a : Option Addr) (Body50n : Nat) (Body50c : Nat), ww49.cell? ((blk w.heap.size).add 6) = some (.slice Body50a Body50n Body50c) ∧
  Calls Try.prog 47 #[.slice Body50a Body50n Body50c] ww49 fun ee52 ww53 => ∃ (bytes51a : Option Addr) (bytes51n : Nat) (bytes51c : Nat), ee52 = .returned (.slice bytes51a bytes51n bytes51c) ∧
  ∃ (a54a : Option Addr) (a54n : Nat) (a54c : Nat) (ww55 : World), (Builtin.append_ #[25, 25] 25 #[.slice a48a a48n a48c, .slice bytes51a bytes51n bytes51c]).run Try.prog ww53 = .ok (.slice a54a a54n a54c) ww55 ∧
  R (.tuple #[.slice a54a a54n a54c, .int .i64 0]) ww55)

theorem cachetteref06_Text.eq (eWriter1 : Int) (eIndex2 : Int) (ePrev3 : Int) (eAtT4 : Int) (eAtW5 : Int) (eEpoch6 : Int) (eBody7a : Option Addr) (eBody7n : Nat) (eBody7c : Nat) (eSig8 : Int) (R : Value → World → Prop) (w : World) : mfunc Try.prog [] 16 [.agg #[.int .i64 eWriter1, .int .i64 eIndex2, .int .u64 ePrev3, .int .i64 eAtT4, .int .i64 eAtW5, .int .i64 eEpoch6, .slice eBody7a eBody7n eBody7c, .int .u64 eSig8]] R w = cachetteref06_Text.M eWriter1 eIndex2 ePrev3 eAtT4 eAtW5 eEpoch6 eBody7a eBody7n eBody7c eSig8 R w := by kernel_rfl
theorem cachetteref06_Text.ok (eWriter1 : Int) (eIndex2 : Int) (ePrev3 : Int) (eAtT4 : Int) (eAtW5 : Int) (eEpoch6 : Int) (eBody7a : Option Addr) (eBody7n : Nat) (eBody7c : Nat) (eSig8 : Int) {R : Value → World → Prop} {w : World} (h : cachetteref06_Text.M eWriter1 eIndex2 ePrev3 eAtT4 eAtW5 eEpoch6 eBody7a eBody7n eBody7c eSig8 R w) : Calls Try.prog 16 #[.agg #[.int .i64 eWriter1, .int .i64 eIndex2, .int .u64 ePrev3, .int .i64 eAtT4, .int .i64 eAtW5, .int .i64 eEpoch6, .slice eBody7a eBody7n eBody7c, .int .u64 eSig8]] w fun e w' => ∃ v, e = .returned v ∧ R v w' :=
  mfunc_ok follows (H := []) (args := [.agg #[.int .i64 eWriter1, .int .i64 eIndex2, .int .u64 ePrev3, .int .i64 eAtT4, .int .i64 eAtW5, .int .i64 eEpoch6, .slice eBody7a eBody7n eBody7c, .int .u64 eSig8]]) (by rw [cachetteref06_Text.eq]; exact h)

def cachetteref06_Text.N (eWriter1 : Int) (eIndex2 : Int) (ePrev3 : Int) (eAtT4 : Int) (eAtW5 : Int) (eEpoch6 : Int) (eBody7a : Option Addr) (eBody7n : Nat) (eBody7c : Nat) (eSig8 : Int) (R : Value → World → Prop) (w : World) : Prop :=
  ((cachetteref06_Right.F eWriter1 eIndex2 ePrev3 eAtT4 eAtW5 eEpoch6 eBody7a eBody7n eBody7c eSig8) = false →
    ∀ (ww10 : World), Ext no w ww10 →
    R (.tuple #[.slice none 0 0, .int .i64 1]) ww10) ∧
  ((cachetteref06_Right.F eWriter1 eIndex2 ePrev3 eAtT4 eAtW5 eEpoch6 eBody7a eBody7n eBody7c eSig8) = true →
    ∀ (ww10 : World) (p13 : Nat), Ext no w ww10 → Priv w ww10 [p13] →
    Calls Try.prog 44 #[.int .u64 (IntKind.u64.wrap eWriter1)] ww10 fun ee15 ww16 => ∃ (num14a : Option Addr) (num14n : Nat) (num14c : Nat), ee15 = .returned (.slice num14a num14n num14c) ∧
    Keep [p13] ww10 ww16 ∧
    Calls Try.prog 44 #[.int .u64 (IntKind.u64.wrap eIndex2)] ww16 fun ee18 ww19 => ∃ (num17a : Option Addr) (num17n : Nat) (num17c : Nat), ee18 = .returned (.slice num17a num17n num17c) ∧
    Keep [p13] ww16 ww19 ∧
    ∃ (a20a : Option Addr) (a20n : Nat) (a20c : Nat) (ww21 : World), (Builtin.append_ #[25, 25] 25 #[.slice num14a num14n num14c, .slice num17a num17n num17c]).run Try.prog ww19 = .ok (.slice a20a a20n a20c) ww21 ∧
    Keep [p13] ww19 ww21 ∧
    Calls Try.prog 44 #[.int .u64 ePrev3] ww21 fun ee23 ww24 => ∃ (num22a : Option Addr) (num22n : Nat) (num22c : Nat), ee23 = .returned (.slice num22a num22n num22c) ∧
    Keep [p13] ww21 ww24 ∧
    ∃ (a25a : Option Addr) (a25n : Nat) (a25c : Nat) (ww26 : World), (Builtin.append_ #[25, 25] 25 #[.slice a20a a20n a20c, .slice num22a num22n num22c]).run Try.prog ww24 = .ok (.slice a25a a25n a25c) ww26 ∧
    Keep [p13] ww24 ww26 ∧
    Calls Try.prog 45 #[.agg #[.int .i64 eAtT4, .int .i64 eAtW5]] ww26 fun ee28 ww29 => ∃ (put27a : Option Addr) (put27n : Nat) (put27c : Nat), ee28 = .returned (.slice put27a put27n put27c) ∧
    Keep [p13] ww26 ww29 ∧
    ∃ (a30a : Option Addr) (a30n : Nat) (a30c : Nat) (ww31 : World), (Builtin.append_ #[25, 25] 25 #[.slice a25a a25n a25c, .slice put27a put27n put27c]).run Try.prog ww29 = .ok (.slice a30a a30n a30c) ww31 ∧
    Keep [p13] ww29 ww31 ∧
    Calls Try.prog 46 #[.int .i64 eEpoch6] ww31 fun ee33 ww34 => ∃ (int32a : Option Addr) (int32n : Nat) (int32c : Nat), ee33 = .returned (.slice int32a int32n int32c) ∧
    Keep [p13] ww31 ww34 ∧
    ∃ (a35a : Option Addr) (a35n : Nat) (a35c : Nat) (ww36 : World), (Builtin.append_ #[25, 25] 25 #[.slice a30a a30n a30c, .slice int32a int32n int32c]).run Try.prog ww34 = .ok (.slice a35a a35n a35c) ww36 ∧
    Keep [p13] ww34 ww36 ∧
    Calls Try.prog 47 #[.slice eBody7a eBody7n eBody7c] ww36 fun ee38 ww39 => ∃ (bytes37a : Option Addr) (bytes37n : Nat) (bytes37c : Nat), ee38 = .returned (.slice bytes37a bytes37n bytes37c) ∧
    ∃ (a40a : Option Addr) (a40n : Nat) (a40c : Nat) (ww41 : World), (Builtin.append_ #[25, 25] 25 #[.slice a35a a35n a35c, .slice bytes37a bytes37n bytes37c]).run Try.prog ww39 = .ok (.slice a40a a40n a40c) ww41 ∧
    R (.tuple #[.slice a40a a40n a40c, .int .i64 0]) ww41)

theorem cachetteref06_Text.up (eWriter1 : Int) (eIndex2 : Int) (ePrev3 : Int) (eAtT4 : Int) (eAtW5 : Int) (eEpoch6 : Int) (eBody7a : Option Addr) (eBody7n : Nat) (eBody7c : Nat) (eSig8 : Int) {R : Value → World → Prop} {w : World} (h : cachetteref06_Text.N eWriter1 eIndex2 ePrev3 eAtT4 eAtW5 eEpoch6 eBody7a eBody7n eBody7c eSig8 R w) : cachetteref06_Text.M eWriter1 eIndex2 ePrev3 eAtT4 eAtW5 eEpoch6 eBody7a eBody7n eBody7c eSig8 R w := by
  unfold cachetteref06_Text.M
  unfold cachetteref06_Text.N at h
  refine thenW_in fun ww9 e9 => ?_
  have hb1 := Blk.of_new e9
  have hg1 := ((Ext.refl no w)).size
  have hx9 := (Ext.refl no w).x_alloc e9
  refine ⟨eWriter1, eIndex2, ePrev3, eAtT4, eAtW5, eEpoch6, eBody7a, eBody7n, eBody7c, eSig8, ⟨hb1.celli 0 rfl rfl, hb1.celli 1 rfl rfl, hb1.celli 2 rfl rfl, hb1.celli 3 rfl rfl, hb1.celli 4 rfl rfl, hb1.celli 5 rfl rfl, hb1.celli 6 rfl rfl, hb1.celli 7 rfl rfl, trivial⟩, ?_⟩
  refine (cachetteref06_Right.pure eWriter1 eIndex2 ePrev3 eAtT4 eAtW5 eEpoch6 eBody7a eBody7n eBody7c eSig8).mono fun ee ww10 ⟨he, hxx⟩ => ⟨(cachetteref06_Right.F eWriter1 eIndex2 ePrev3 eAtT4 eAtW5 eEpoch6 eBody7a eBody7n eBody7c eSig8), he, ?_⟩
  have hx10 := hx9.trans hxx
  have hb1 := hb1.ext hxx id
  refine bif_of (fun c11 => ?_) (fun c11 => ?_)
  · have h := h.1 (not_t c11)
    have h := h ww10 hx10
    exact h
  · have h := h.2 (not_f c11)
    refine ⟨eWriter1, hb1.celli 0 rfl rfl, ?_⟩
    have h := h ww10 (w.heap.size) hx10 (Priv.cons hg1 hb1.lt Priv.nil)
    refine h.mono fun ee15 ww16 h => ?_
    obtain ⟨num14a, num14n, num14c, he, hk, h⟩ := h
    refine ⟨num14a, num14n, num14c, he, ?_⟩
    have hb1 := hk.blk hb1 (by simp)
    refine ⟨eIndex2, hb1.celli 1 rfl rfl, ?_⟩
    refine h.mono fun ee18 ww19 h => ?_
    obtain ⟨num17a, num17n, num17c, he, hk, h⟩ := h
    refine ⟨num17a, num17n, num17c, he, ?_⟩
    have hb1 := hk.blk hb1 (by simp)
    obtain ⟨a20a, a20n, a20c, ww21, hr, hk, h⟩ := h
    refine ⟨a20a, a20n, a20c, ww21, hr, ?_⟩
    have hb1 := hk.blk hb1 (by simp)
    refine ⟨ePrev3, hb1.celli 2 rfl rfl, ?_⟩
    refine h.mono fun ee23 ww24 h => ?_
    obtain ⟨num22a, num22n, num22c, he, hk, h⟩ := h
    refine ⟨num22a, num22n, num22c, he, ?_⟩
    have hb1 := hk.blk hb1 (by simp)
    obtain ⟨a25a, a25n, a25c, ww26, hr, hk, h⟩ := h
    refine ⟨a25a, a25n, a25c, ww26, hr, ?_⟩
    have hb1 := hk.blk hb1 (by simp)
    refine ⟨eAtT4, eAtW5, ⟨hb1.celli 3 rfl rfl, hb1.celli 4 rfl rfl, trivial⟩, ?_⟩
    refine h.mono fun ee28 ww29 h => ?_
    obtain ⟨put27a, put27n, put27c, he, hk, h⟩ := h
    refine ⟨put27a, put27n, put27c, he, ?_⟩
    have hb1 := hk.blk hb1 (by simp)
    obtain ⟨a30a, a30n, a30c, ww31, hr, hk, h⟩ := h
    refine ⟨a30a, a30n, a30c, ww31, hr, ?_⟩
    have hb1 := hk.blk hb1 (by simp)
    refine ⟨eEpoch6, hb1.celli 5 rfl rfl, ?_⟩
    refine h.mono fun ee33 ww34 h => ?_
    obtain ⟨int32a, int32n, int32c, he, hk, h⟩ := h
    refine ⟨int32a, int32n, int32c, he, ?_⟩
    have hb1 := hk.blk hb1 (by simp)
    obtain ⟨a35a, a35n, a35c, ww36, hr, hk, h⟩ := h
    refine ⟨a35a, a35n, a35c, ww36, hr, ?_⟩
    have hb1 := hk.blk hb1 (by simp)
    refine ⟨eBody7a, eBody7n, eBody7c, hb1.celli 6 rfl rfl, ?_⟩
    refine h.mono fun ee38 ww39 h => ?_
    obtain ⟨bytes37a, bytes37n, bytes37c, he, h⟩ := h
    refine ⟨bytes37a, bytes37n, bytes37c, he, ?_⟩
    obtain ⟨a40a, a40n, a40c, ww41, hr, h⟩ := h
    refine ⟨a40a, a40n, a40c, ww41, hr, ?_⟩
    exact h

theorem cachetteref06_Text.go (eWriter1 : Int) (eIndex2 : Int) (ePrev3 : Int) (eAtT4 : Int) (eAtW5 : Int) (eEpoch6 : Int) (eBody7a : Option Addr) (eBody7n : Nat) (eBody7c : Nat) (eSig8 : Int) {R : Value → World → Prop} {w : World} (h : cachetteref06_Text.N eWriter1 eIndex2 ePrev3 eAtT4 eAtW5 eEpoch6 eBody7a eBody7n eBody7c eSig8 R w) : Calls Try.prog 16 #[.agg #[.int .i64 eWriter1, .int .i64 eIndex2, .int .u64 ePrev3, .int .i64 eAtT4, .int .i64 eAtW5, .int .i64 eEpoch6, .slice eBody7a eBody7n eBody7c, .int .u64 eSig8]] w fun e w' => ∃ v, e = .returned v ∧ R v w' := cachetteref06_Text.ok eWriter1 eIndex2 ePrev3 eAtT4 eAtW5 eEpoch6 eBody7a eBody7n eBody7c eSig8 (cachetteref06_Text.up eWriter1 eIndex2 ePrev3 eAtT4 eAtW5 eEpoch6 eBody7a eBody7n eBody7c eSig8 h)
theorem cachetteref06_Text.run (eWriter1 : Int) (eIndex2 : Int) (ePrev3 : Int) (eAtT4 : Int) (eAtW5 : Int) (eEpoch6 : Int) (eBody7a : Option Addr) (eBody7n : Nat) (eBody7c : Nat) (eSig8 : Int) {V : Value} {Q : World → Prop} {w : World} (h : cachetteref06_Text.N eWriter1 eIndex2 ePrev3 eAtT4 eAtW5 eEpoch6 eBody7a eBody7n eBody7c eSig8 (fun v w' => v = V ∧ Q w') w) : Calls Try.prog 16 #[.agg #[.int .i64 eWriter1, .int .i64 eIndex2, .int .u64 ePrev3, .int .i64 eAtT4, .int .i64 eAtW5, .int .i64 eEpoch6, .slice eBody7a eBody7n eBody7c, .int .u64 eSig8]] w (Ret V Q) := (cachetteref06_Text.go eWriter1 eIndex2 ePrev3 eAtT4 eAtW5 eEpoch6 eBody7a eBody7n eBody7c eSig8 h).mono fun e w' ⟨v, he, hv, hq⟩ => ⟨by rw [he, hv], hq⟩

/-- cachetteref06.Bytes -/
def cachetteref06_Bytes.M (eWriter1 : Int) (eIndex2 : Int) (ePrev3 : Int) (eAtT4 : Int) (eAtW5 : Int) (eEpoch6 : Int) (eBody7a : Option Addr) (eBody7n : Nat) (eBody7c : Nat) (eSig8 : Int) (R : Value → World → Prop) (w : World) : Prop :=
  thenW (w.alloc (.cells #[.int .i64 eWriter1, .int .i64 eIndex2, .int .u64 ePrev3, .int .i64 eAtT4, .int .i64 eAtW5, .int .i64 eEpoch6, .slice eBody7a eBody7n eBody7c, .int .u64 eSig8] 27)) fun ww9 =>
  ∃ (xWriter10 : Int) (xIndex11 : Int) (xPrev12 : Int) (xAtT13 : Int) (xAtW14 : Int) (xEpoch15 : Int) (xBody16a : Option Addr) (xBody16n : Nat) (xBody16c : Nat) (xSig17 : Int), cellsAt ww9 (blk w.heap.size) [.int .i64 xWriter10, .int .i64 xIndex11, .int .u64 xPrev12, .int .i64 xAtT13, .int .i64 xAtW14, .int .i64 xEpoch15, .slice xBody16a xBody16n xBody16c, .int .u64 xSig17] 0 ∧
  Calls Try.prog 16 #[.agg #[.int .i64 xWriter10, .int .i64 xIndex11, .int .u64 xPrev12, .int .i64 xAtT13, .int .i64 xAtW14, .int .i64 xEpoch15, .slice xBody16a xBody16n xBody16c, .int .u64 xSig17]] ww9 fun ee20 ww21 => ∃ (text18a : Option Addr) (text18n : Nat) (text18c : Nat) (text19 : Int), ee20 = .returned (.tuple #[.slice text18a text18n text18c, .int .i64 text19]) ∧
  bif text19 != 0 then (
  R (.tuple #[.slice none 0 0, .int .i64 text19]) ww21) else (
  ∃ (Sig22 : Int), ww21.cell? ((blk w.heap.size).add 7) = some (.int .u64 Sig22) ∧
  Calls Try.prog 44 #[.int .u64 Sig22] ww21 fun ee24 ww25 => ∃ (num23a : Option Addr) (num23n : Nat) (num23c : Nat), ee24 = .returned (.slice num23a num23n num23c) ∧
  ∃ (a26a : Option Addr) (a26n : Nat) (a26c : Nat) (ww27 : World), (Builtin.append_ #[25, 25] 25 #[.slice text18a text18n text18c, .slice num23a num23n num23c]).run Try.prog ww25 = .ok (.slice a26a a26n a26c) ww27 ∧
  R (.tuple #[.slice a26a a26n a26c, .int .i64 0]) ww27)

theorem cachetteref06_Bytes.eq (eWriter1 : Int) (eIndex2 : Int) (ePrev3 : Int) (eAtT4 : Int) (eAtW5 : Int) (eEpoch6 : Int) (eBody7a : Option Addr) (eBody7n : Nat) (eBody7c : Nat) (eSig8 : Int) (R : Value → World → Prop) (w : World) : mfunc Try.prog [] 17 [.agg #[.int .i64 eWriter1, .int .i64 eIndex2, .int .u64 ePrev3, .int .i64 eAtT4, .int .i64 eAtW5, .int .i64 eEpoch6, .slice eBody7a eBody7n eBody7c, .int .u64 eSig8]] R w = cachetteref06_Bytes.M eWriter1 eIndex2 ePrev3 eAtT4 eAtW5 eEpoch6 eBody7a eBody7n eBody7c eSig8 R w := by kernel_rfl
theorem cachetteref06_Bytes.ok (eWriter1 : Int) (eIndex2 : Int) (ePrev3 : Int) (eAtT4 : Int) (eAtW5 : Int) (eEpoch6 : Int) (eBody7a : Option Addr) (eBody7n : Nat) (eBody7c : Nat) (eSig8 : Int) {R : Value → World → Prop} {w : World} (h : cachetteref06_Bytes.M eWriter1 eIndex2 ePrev3 eAtT4 eAtW5 eEpoch6 eBody7a eBody7n eBody7c eSig8 R w) : Calls Try.prog 17 #[.agg #[.int .i64 eWriter1, .int .i64 eIndex2, .int .u64 ePrev3, .int .i64 eAtT4, .int .i64 eAtW5, .int .i64 eEpoch6, .slice eBody7a eBody7n eBody7c, .int .u64 eSig8]] w fun e w' => ∃ v, e = .returned v ∧ R v w' :=
  mfunc_ok follows (H := []) (args := [.agg #[.int .i64 eWriter1, .int .i64 eIndex2, .int .u64 ePrev3, .int .i64 eAtT4, .int .i64 eAtW5, .int .i64 eEpoch6, .slice eBody7a eBody7n eBody7c, .int .u64 eSig8]]) (by rw [cachetteref06_Bytes.eq]; exact h)

def cachetteref06_Bytes.N (eWriter1 : Int) (eIndex2 : Int) (ePrev3 : Int) (eAtT4 : Int) (eAtW5 : Int) (eEpoch6 : Int) (eBody7a : Option Addr) (eBody7n : Nat) (eBody7c : Nat) (eSig8 : Int) (R : Value → World → Prop) (w : World) : Prop :=
  ∀ (ww9 : World) (p10 : Nat), Ext no w ww9 → Priv w ww9 [p10] →
  Calls Try.prog 16 #[.agg #[.int .i64 eWriter1, .int .i64 eIndex2, .int .u64 ePrev3, .int .i64 eAtT4, .int .i64 eAtW5, .int .i64 eEpoch6, .slice eBody7a eBody7n eBody7c, .int .u64 eSig8]] ww9 fun ee13 ww14 => ∃ (text11a : Option Addr) (text11n : Nat) (text11c : Nat) (text12 : Int), ee13 = .returned (.tuple #[.slice text11a text11n text11c, .int .i64 text12]) ∧
  Keep [p10] ww9 ww14 ∧
  (text12 ≠ 0 →
    R (.tuple #[.slice none 0 0, .int .i64 text12]) ww14) ∧
  (text12 = 0 →
    Calls Try.prog 44 #[.int .u64 eSig8] ww14 fun ee17 ww18 => ∃ (num16a : Option Addr) (num16n : Nat) (num16c : Nat), ee17 = .returned (.slice num16a num16n num16c) ∧
    ∃ (a19a : Option Addr) (a19n : Nat) (a19c : Nat) (ww20 : World), (Builtin.append_ #[25, 25] 25 #[.slice text11a text11n text11c, .slice num16a num16n num16c]).run Try.prog ww18 = .ok (.slice a19a a19n a19c) ww20 ∧
    R (.tuple #[.slice a19a a19n a19c, .int .i64 0]) ww20)

theorem cachetteref06_Bytes.up (eWriter1 : Int) (eIndex2 : Int) (ePrev3 : Int) (eAtT4 : Int) (eAtW5 : Int) (eEpoch6 : Int) (eBody7a : Option Addr) (eBody7n : Nat) (eBody7c : Nat) (eSig8 : Int) {R : Value → World → Prop} {w : World} (h : cachetteref06_Bytes.N eWriter1 eIndex2 ePrev3 eAtT4 eAtW5 eEpoch6 eBody7a eBody7n eBody7c eSig8 R w) : cachetteref06_Bytes.M eWriter1 eIndex2 ePrev3 eAtT4 eAtW5 eEpoch6 eBody7a eBody7n eBody7c eSig8 R w := by
  unfold cachetteref06_Bytes.M
  unfold cachetteref06_Bytes.N at h
  refine thenW_in fun ww9 e9 => ?_
  have hb1 := Blk.of_new e9
  have hg1 := ((Ext.refl no w)).size
  have hx9 := (Ext.refl no w).x_alloc e9
  refine ⟨eWriter1, eIndex2, ePrev3, eAtT4, eAtW5, eEpoch6, eBody7a, eBody7n, eBody7c, eSig8, ⟨hb1.celli 0 rfl rfl, hb1.celli 1 rfl rfl, hb1.celli 2 rfl rfl, hb1.celli 3 rfl rfl, hb1.celli 4 rfl rfl, hb1.celli 5 rfl rfl, hb1.celli 6 rfl rfl, hb1.celli 7 rfl rfl, trivial⟩, ?_⟩
  have h := h ww9 (w.heap.size) hx9 (Priv.cons hg1 hb1.lt Priv.nil)
  refine h.mono fun ee13 ww14 h => ?_
  obtain ⟨text11a, text11n, text11c, text12, he, hk, h⟩ := h
  refine ⟨text11a, text11n, text11c, text12, he, ?_⟩
  have hb1 := hk.blk hb1 (by simp)
  refine bif_of (fun c15 => ?_) (fun c15 => ?_)
  · have h := h.1 (bne_t c15)
    exact h
  · have h := h.2 (bne_f c15)
    refine ⟨eSig8, hb1.celli 7 rfl rfl, ?_⟩
    refine h.mono fun ee17 ww18 h => ?_
    obtain ⟨num16a, num16n, num16c, he, h⟩ := h
    refine ⟨num16a, num16n, num16c, he, ?_⟩
    obtain ⟨a19a, a19n, a19c, ww20, hr, h⟩ := h
    refine ⟨a19a, a19n, a19c, ww20, hr, ?_⟩
    exact h

theorem cachetteref06_Bytes.go (eWriter1 : Int) (eIndex2 : Int) (ePrev3 : Int) (eAtT4 : Int) (eAtW5 : Int) (eEpoch6 : Int) (eBody7a : Option Addr) (eBody7n : Nat) (eBody7c : Nat) (eSig8 : Int) {R : Value → World → Prop} {w : World} (h : cachetteref06_Bytes.N eWriter1 eIndex2 ePrev3 eAtT4 eAtW5 eEpoch6 eBody7a eBody7n eBody7c eSig8 R w) : Calls Try.prog 17 #[.agg #[.int .i64 eWriter1, .int .i64 eIndex2, .int .u64 ePrev3, .int .i64 eAtT4, .int .i64 eAtW5, .int .i64 eEpoch6, .slice eBody7a eBody7n eBody7c, .int .u64 eSig8]] w fun e w' => ∃ v, e = .returned v ∧ R v w' := cachetteref06_Bytes.ok eWriter1 eIndex2 ePrev3 eAtT4 eAtW5 eEpoch6 eBody7a eBody7n eBody7c eSig8 (cachetteref06_Bytes.up eWriter1 eIndex2 ePrev3 eAtT4 eAtW5 eEpoch6 eBody7a eBody7n eBody7c eSig8 h)
theorem cachetteref06_Bytes.run (eWriter1 : Int) (eIndex2 : Int) (ePrev3 : Int) (eAtT4 : Int) (eAtW5 : Int) (eEpoch6 : Int) (eBody7a : Option Addr) (eBody7n : Nat) (eBody7c : Nat) (eSig8 : Int) {V : Value} {Q : World → Prop} {w : World} (h : cachetteref06_Bytes.N eWriter1 eIndex2 ePrev3 eAtT4 eAtW5 eEpoch6 eBody7a eBody7n eBody7c eSig8 (fun v w' => v = V ∧ Q w') w) : Calls Try.prog 17 #[.agg #[.int .i64 eWriter1, .int .i64 eIndex2, .int .u64 ePrev3, .int .i64 eAtT4, .int .i64 eAtW5, .int .i64 eEpoch6, .slice eBody7a eBody7n eBody7c, .int .u64 eSig8]] w (Ret V Q) := (cachetteref06_Bytes.go eWriter1 eIndex2 ePrev3 eAtT4 eAtW5 eEpoch6 eBody7a eBody7n eBody7c eSig8 h).mono fun e w' ⟨v, he, hv, hq⟩ => ⟨by rw [he, hv], hq⟩

/-- cachetteref06.Take -/
def cachetteref06_Take.M (r1 : Option Addr) (R : Value → World → Prop) (w : World) : Prop :=
  thenW (w.alloc (.cells #[.int .i64 0, .int .i64 0, .int .u64 0, .int .i64 0, .int .i64 0, .int .i64 0, .slice none 0 0, .int .u64 0] 27)) fun ww2 =>
  thenW (ww2.alloc (.cells #[.int .i64 0, .int .i64 0, .int .u64 0, .int .i64 0, .int .i64 0, .int .i64 0, .slice none 0 0, .int .u64 0] 27)) fun ww3 =>
  canStore ww3 ((blk ww2.heap.size).add 0) ∧
  thenW (ww3.setCell ((blk ww2.heap.size).add 0) (.int .i64 0)) fun ww4 =>
  canStore ww4 ((blk ww2.heap.size).add 1) ∧
  thenW (ww4.setCell ((blk ww2.heap.size).add 1) (.int .i64 0)) fun ww5 =>
  canStore ww5 ((blk ww2.heap.size).add 2) ∧
  thenW (ww5.setCell ((blk ww2.heap.size).add 2) (.int .u64 0)) fun ww6 =>
  canStore ww6 ((blk ww2.heap.size).add 3) ∧
  thenW (ww6.setCell ((blk ww2.heap.size).add 3) (.int .i64 0)) fun ww7 =>
  canStore ww7 ((blk ww2.heap.size).add 4) ∧
  thenW (ww7.setCell ((blk ww2.heap.size).add 4) (.int .i64 0)) fun ww8 =>
  canStore ww8 ((blk ww2.heap.size).add 5) ∧
  thenW (ww8.setCell ((blk ww2.heap.size).add 5) (.int .i64 0)) fun ww9 =>
  canStore ww9 ((blk ww2.heap.size).add 6) ∧
  thenW (ww9.setCell ((blk ww2.heap.size).add 6) (.slice none 0 0)) fun ww10 =>
  canStore ww10 ((blk ww2.heap.size).add 7) ∧
  thenW (ww10.setCell ((blk ww2.heap.size).add 7) (.int .u64 0)) fun ww11 =>
  Calls Try.prog 72 #[.pointer r1, .int .i64 7] ww11 fun ee13 ww14 => ∃ (count12 : Int), ee13 = .returned (.int .i64 count12) ∧
  canStore ww14 (((blk ww2.heap.size).add 0).add 0) ∧
  thenW (ww14.setCell (((blk ww2.heap.size).add 0).add 0) (.int .i64 count12)) fun ww15 =>
  Calls Try.prog 72 #[.pointer r1, .int .i64 199] ww15 fun ee17 ww18 => ∃ (count16 : Int), ee17 = .returned (.int .i64 count16) ∧
  canStore ww18 (((blk ww2.heap.size).add 1).add 0) ∧
  thenW (ww18.setCell (((blk ww2.heap.size).add 1).add 0) (.int .i64 count16)) fun ww19 =>
  Calls Try.prog 73 #[.pointer r1] ww19 fun ee21 ww22 => ∃ (num20 : Int), ee21 = .returned (.int .u64 num20) ∧
  canStore ww22 (((blk ww2.heap.size).add 2).add 0) ∧
  thenW (ww22.setCell (((blk ww2.heap.size).add 2).add 0) (.int .u64 num20)) fun ww23 =>
  Calls Try.prog 74 #[.pointer r1] ww23 fun ee26 ww27 => ∃ (T24 : Int) (W25 : Int), ee26 = .returned (.agg #[.int .i64 T24, .int .i64 W25]) ∧
  canStore ww27 (((blk ww2.heap.size).add 3).add 0) ∧
  thenW (ww27.setCell (((blk ww2.heap.size).add 3).add 0) (.int .i64 T24)) fun ww28 =>
  canStore ww28 (((blk ww2.heap.size).add 3).add 1) ∧
  thenW (ww28.setCell (((blk ww2.heap.size).add 3).add 1) (.int .i64 W25)) fun ww29 =>
  Calls Try.prog 75 #[.pointer r1] ww29 fun ee31 ww32 => ∃ (int30 : Int), ee31 = .returned (.int .i64 int30) ∧
  canStore ww32 (((blk ww2.heap.size).add 5).add 0) ∧
  thenW (ww32.setCell (((blk ww2.heap.size).add 5).add 0) (.int .i64 int30)) fun ww33 =>
  bif decide (int30 < (-1)) then (
  canStore ww33 (((blk ww2.heap.size).add 5).add 0) ∧
  thenW (ww33.setCell (((blk ww2.heap.size).add 5).add 0) (.int .i64 (-9))) fun ww34 =>
  Calls Try.prog 76 #[.pointer r1, .int .i64 1100] ww34 fun ee36 ww37 => ∃ (bytes35a : Option Addr) (bytes35n : Nat) (bytes35c : Nat), ee36 = .returned (.slice bytes35a bytes35n bytes35c) ∧
  canStore ww37 (((blk ww2.heap.size).add 6).add 0) ∧
  thenW (ww37.setCell (((blk ww2.heap.size).add 6).add 0) (.slice bytes35a bytes35n bytes35c)) fun ww38 =>
  Calls Try.prog 73 #[.pointer r1] ww38 fun ee40 ww41 => ∃ (num39 : Int), ee40 = .returned (.int .u64 num39) ∧
  canStore ww41 (((blk ww2.heap.size).add 7).add 0) ∧
  thenW (ww41.setCell (((blk ww2.heap.size).add 7).add 0) (.int .u64 num39)) fun ww42 =>
  ∃ (xWriter43 : Int) (xIndex44 : Int) (xPrev45 : Int) (xAtT46 : Int) (xAtW47 : Int) (xEpoch48 : Int) (xBody49a : Option Addr) (xBody49n : Nat) (xBody49c : Nat) (xSig50 : Int), cellsAt ww42 (blk ww2.heap.size) [.int .i64 xWriter43, .int .i64 xIndex44, .int .u64 xPrev45, .int .i64 xAtT46, .int .i64 xAtW47, .int .i64 xEpoch48, .slice xBody49a xBody49n xBody49c, .int .u64 xSig50] 0 ∧
  canStore ww42 ((blk w.heap.size).add 0) ∧
  thenW (ww42.setCell ((blk w.heap.size).add 0) (.int .i64 xWriter43)) fun ww51 =>
  canStore ww51 ((blk w.heap.size).add 1) ∧
  thenW (ww51.setCell ((blk w.heap.size).add 1) (.int .i64 xIndex44)) fun ww52 =>
  canStore ww52 ((blk w.heap.size).add 2) ∧
  thenW (ww52.setCell ((blk w.heap.size).add 2) (.int .u64 xPrev45)) fun ww53 =>
  canStore ww53 ((blk w.heap.size).add 3) ∧
  thenW (ww53.setCell ((blk w.heap.size).add 3) (.int .i64 xAtT46)) fun ww54 =>
  canStore ww54 ((blk w.heap.size).add 4) ∧
  thenW (ww54.setCell ((blk w.heap.size).add 4) (.int .i64 xAtW47)) fun ww55 =>
  canStore ww55 ((blk w.heap.size).add 5) ∧
  thenW (ww55.setCell ((blk w.heap.size).add 5) (.int .i64 xEpoch48)) fun ww56 =>
  canStore ww56 ((blk w.heap.size).add 6) ∧
  thenW (ww56.setCell ((blk w.heap.size).add 6) (.slice xBody49a xBody49n xBody49c)) fun ww57 =>
  canStore ww57 ((blk w.heap.size).add 7) ∧
  thenW (ww57.setCell ((blk w.heap.size).add 7) (.int .u64 xSig50)) fun ww58 =>
  ∃ (resWriter59 : Int) (resIndex60 : Int) (resPrev61 : Int) (resAtT62 : Int) (resAtW63 : Int) (resEpoch64 : Int) (resBody65a : Option Addr) (resBody65n : Nat) (resBody65c : Nat) (resSig66 : Int), cellsAt ww58 (blk w.heap.size) [.int .i64 resWriter59, .int .i64 resIndex60, .int .u64 resPrev61, .int .i64 resAtT62, .int .i64 resAtW63, .int .i64 resEpoch64, .slice resBody65a resBody65n resBody65c, .int .u64 resSig66] 0 ∧
  R (.agg #[.int .i64 resWriter59, .int .i64 resIndex60, .int .u64 resPrev61, .int .i64 resAtT62, .int .i64 resAtW63, .int .i64 resEpoch64, .slice resBody65a resBody65n resBody65c, .int .u64 resSig66]) ww58) else (
  bif decide (int30 > 20) then (
  canStore ww33 (((blk ww2.heap.size).add 5).add 0) ∧
  thenW (ww33.setCell (((blk ww2.heap.size).add 5).add 0) (.int .i64 (-9))) fun ww67 =>
  Calls Try.prog 76 #[.pointer r1, .int .i64 1100] ww67 fun ee69 ww70 => ∃ (bytes68a : Option Addr) (bytes68n : Nat) (bytes68c : Nat), ee69 = .returned (.slice bytes68a bytes68n bytes68c) ∧
  canStore ww70 (((blk ww2.heap.size).add 6).add 0) ∧
  thenW (ww70.setCell (((blk ww2.heap.size).add 6).add 0) (.slice bytes68a bytes68n bytes68c)) fun ww71 =>
  Calls Try.prog 73 #[.pointer r1] ww71 fun ee73 ww74 => ∃ (num72 : Int), ee73 = .returned (.int .u64 num72) ∧
  canStore ww74 (((blk ww2.heap.size).add 7).add 0) ∧
  thenW (ww74.setCell (((blk ww2.heap.size).add 7).add 0) (.int .u64 num72)) fun ww75 =>
  ∃ (xWriter76 : Int) (xIndex77 : Int) (xPrev78 : Int) (xAtT79 : Int) (xAtW80 : Int) (xEpoch81 : Int) (xBody82a : Option Addr) (xBody82n : Nat) (xBody82c : Nat) (xSig83 : Int), cellsAt ww75 (blk ww2.heap.size) [.int .i64 xWriter76, .int .i64 xIndex77, .int .u64 xPrev78, .int .i64 xAtT79, .int .i64 xAtW80, .int .i64 xEpoch81, .slice xBody82a xBody82n xBody82c, .int .u64 xSig83] 0 ∧
  canStore ww75 ((blk w.heap.size).add 0) ∧
  thenW (ww75.setCell ((blk w.heap.size).add 0) (.int .i64 xWriter76)) fun ww84 =>
  canStore ww84 ((blk w.heap.size).add 1) ∧
  thenW (ww84.setCell ((blk w.heap.size).add 1) (.int .i64 xIndex77)) fun ww85 =>
  canStore ww85 ((blk w.heap.size).add 2) ∧
  thenW (ww85.setCell ((blk w.heap.size).add 2) (.int .u64 xPrev78)) fun ww86 =>
  canStore ww86 ((blk w.heap.size).add 3) ∧
  thenW (ww86.setCell ((blk w.heap.size).add 3) (.int .i64 xAtT79)) fun ww87 =>
  canStore ww87 ((blk w.heap.size).add 4) ∧
  thenW (ww87.setCell ((blk w.heap.size).add 4) (.int .i64 xAtW80)) fun ww88 =>
  canStore ww88 ((blk w.heap.size).add 5) ∧
  thenW (ww88.setCell ((blk w.heap.size).add 5) (.int .i64 xEpoch81)) fun ww89 =>
  canStore ww89 ((blk w.heap.size).add 6) ∧
  thenW (ww89.setCell ((blk w.heap.size).add 6) (.slice xBody82a xBody82n xBody82c)) fun ww90 =>
  canStore ww90 ((blk w.heap.size).add 7) ∧
  thenW (ww90.setCell ((blk w.heap.size).add 7) (.int .u64 xSig83)) fun ww91 =>
  ∃ (resWriter92 : Int) (resIndex93 : Int) (resPrev94 : Int) (resAtT95 : Int) (resAtW96 : Int) (resEpoch97 : Int) (resBody98a : Option Addr) (resBody98n : Nat) (resBody98c : Nat) (resSig99 : Int), cellsAt ww91 (blk w.heap.size) [.int .i64 resWriter92, .int .i64 resIndex93, .int .u64 resPrev94, .int .i64 resAtT95, .int .i64 resAtW96, .int .i64 resEpoch97, .slice resBody98a resBody98n resBody98c, .int .u64 resSig99] 0 ∧
  R (.agg #[.int .i64 resWriter92, .int .i64 resIndex93, .int .u64 resPrev94, .int .i64 resAtT95, .int .i64 resAtW96, .int .i64 resEpoch97, .slice resBody98a resBody98n resBody98c, .int .u64 resSig99]) ww91) else (
  Calls Try.prog 76 #[.pointer r1, .int .i64 1100] ww33 fun ee101 ww102 => ∃ (bytes100a : Option Addr) (bytes100n : Nat) (bytes100c : Nat), ee101 = .returned (.slice bytes100a bytes100n bytes100c) ∧
  canStore ww102 (((blk ww2.heap.size).add 6).add 0) ∧
  thenW (ww102.setCell (((blk ww2.heap.size).add 6).add 0) (.slice bytes100a bytes100n bytes100c)) fun ww103 =>
  Calls Try.prog 73 #[.pointer r1] ww103 fun ee105 ww106 => ∃ (num104 : Int), ee105 = .returned (.int .u64 num104) ∧
  canStore ww106 (((blk ww2.heap.size).add 7).add 0) ∧
  thenW (ww106.setCell (((blk ww2.heap.size).add 7).add 0) (.int .u64 num104)) fun ww107 =>
  ∃ (xWriter108 : Int) (xIndex109 : Int) (xPrev110 : Int) (xAtT111 : Int) (xAtW112 : Int) (xEpoch113 : Int) (xBody114a : Option Addr) (xBody114n : Nat) (xBody114c : Nat) (xSig115 : Int), cellsAt ww107 (blk ww2.heap.size) [.int .i64 xWriter108, .int .i64 xIndex109, .int .u64 xPrev110, .int .i64 xAtT111, .int .i64 xAtW112, .int .i64 xEpoch113, .slice xBody114a xBody114n xBody114c, .int .u64 xSig115] 0 ∧
  canStore ww107 ((blk w.heap.size).add 0) ∧
  thenW (ww107.setCell ((blk w.heap.size).add 0) (.int .i64 xWriter108)) fun ww116 =>
  canStore ww116 ((blk w.heap.size).add 1) ∧
  thenW (ww116.setCell ((blk w.heap.size).add 1) (.int .i64 xIndex109)) fun ww117 =>
  canStore ww117 ((blk w.heap.size).add 2) ∧
  thenW (ww117.setCell ((blk w.heap.size).add 2) (.int .u64 xPrev110)) fun ww118 =>
  canStore ww118 ((blk w.heap.size).add 3) ∧
  thenW (ww118.setCell ((blk w.heap.size).add 3) (.int .i64 xAtT111)) fun ww119 =>
  canStore ww119 ((blk w.heap.size).add 4) ∧
  thenW (ww119.setCell ((blk w.heap.size).add 4) (.int .i64 xAtW112)) fun ww120 =>
  canStore ww120 ((blk w.heap.size).add 5) ∧
  thenW (ww120.setCell ((blk w.heap.size).add 5) (.int .i64 xEpoch113)) fun ww121 =>
  canStore ww121 ((blk w.heap.size).add 6) ∧
  thenW (ww121.setCell ((blk w.heap.size).add 6) (.slice xBody114a xBody114n xBody114c)) fun ww122 =>
  canStore ww122 ((blk w.heap.size).add 7) ∧
  thenW (ww122.setCell ((blk w.heap.size).add 7) (.int .u64 xSig115)) fun ww123 =>
  ∃ (resWriter124 : Int) (resIndex125 : Int) (resPrev126 : Int) (resAtT127 : Int) (resAtW128 : Int) (resEpoch129 : Int) (resBody130a : Option Addr) (resBody130n : Nat) (resBody130c : Nat) (resSig131 : Int), cellsAt ww123 (blk w.heap.size) [.int .i64 resWriter124, .int .i64 resIndex125, .int .u64 resPrev126, .int .i64 resAtT127, .int .i64 resAtW128, .int .i64 resEpoch129, .slice resBody130a resBody130n resBody130c, .int .u64 resSig131] 0 ∧
  R (.agg #[.int .i64 resWriter124, .int .i64 resIndex125, .int .u64 resPrev126, .int .i64 resAtT127, .int .i64 resAtW128, .int .i64 resEpoch129, .slice resBody130a resBody130n resBody130c, .int .u64 resSig131]) ww123))

theorem cachetteref06_Take.eq (r1 : Option Addr) (R : Value → World → Prop) (w : World) : mfunc Try.prog [] 48 [.pointer r1] R w = cachetteref06_Take.M r1 R w := by kernel_rfl
theorem cachetteref06_Take.ok (r1 : Option Addr) {R : Value → World → Prop} {w : World} (h : cachetteref06_Take.M r1 R w) : Calls Try.prog 48 #[.pointer r1] w fun e w' => ∃ v, e = .returned v ∧ R v w' :=
  mfunc_ok follows (H := []) (args := [.pointer r1]) (by rw [cachetteref06_Take.eq]; exact h)

def cachetteref06_Take.N (r1 : Option Addr) (R : Value → World → Prop) (w : World) : Prop :=
  ∀ (ww11 : World) (p12 : Nat) (p13 : Nat), Ext no w ww11 → Priv w ww11 [p12, p13] →
  Calls Try.prog 72 #[.pointer r1, .int .i64 7] ww11 fun ee15 ww16 => ∃ (count14 : Int), ee15 = .returned (.int .i64 count14) ∧
  Keep [p12, p13] ww11 ww16 ∧
  ∀ (ww17 : World), Ext (fun b => b = p13) ww16 ww17 →
  Calls Try.prog 72 #[.pointer r1, .int .i64 199] ww17 fun ee19 ww20 => ∃ (count18 : Int), ee19 = .returned (.int .i64 count18) ∧
  Keep [p12, p13] ww17 ww20 ∧
  ∀ (ww21 : World), Ext (fun b => b = p13) ww20 ww21 →
  Calls Try.prog 73 #[.pointer r1] ww21 fun ee23 ww24 => ∃ (num22 : Int), ee23 = .returned (.int .u64 num22) ∧
  Keep [p12, p13] ww21 ww24 ∧
  ∀ (ww25 : World), Ext (fun b => b = p13) ww24 ww25 →
  Calls Try.prog 74 #[.pointer r1] ww25 fun ee28 ww29 => ∃ (T26 : Int) (W27 : Int), ee28 = .returned (.agg #[.int .i64 T26, .int .i64 W27]) ∧
  Keep [p12, p13] ww25 ww29 ∧
  ∀ (ww31 : World), Ext (fun b => b = p13) ww29 ww31 →
  Calls Try.prog 75 #[.pointer r1] ww31 fun ee33 ww34 => ∃ (int32 : Int), ee33 = .returned (.int .i64 int32) ∧
  Keep [p12, p13] ww31 ww34 ∧
  (int32 < (-1) →
    ∀ (ww37 : World), Ext (fun b => b = p13) ww34 ww37 →
    Calls Try.prog 76 #[.pointer r1, .int .i64 1100] ww37 fun ee39 ww40 => ∃ (bytes38a : Option Addr) (bytes38n : Nat) (bytes38c : Nat), ee39 = .returned (.slice bytes38a bytes38n bytes38c) ∧
    Keep [p12, p13] ww37 ww40 ∧
    ∀ (ww41 : World), Ext (fun b => b = p13) ww40 ww41 →
    Calls Try.prog 73 #[.pointer r1] ww41 fun ee43 ww44 => ∃ (num42 : Int), ee43 = .returned (.int .u64 num42) ∧
    Keep [p12, p13] ww41 ww44 ∧
    ∀ (ww53 : World), Ext (fun b => b = p12 ∨ b = p13) ww44 ww53 →
    R (.agg #[.int .i64 count14, .int .i64 count18, .int .u64 num22, .int .i64 T26, .int .i64 W27, .int .i64 (-9), .slice bytes38a bytes38n bytes38c, .int .u64 num42]) ww53) ∧
  (((-1) : Int) ≤ int32 →
    (int32 > 20 →
      ∀ (ww55 : World), Ext (fun b => b = p13) ww34 ww55 →
      Calls Try.prog 76 #[.pointer r1, .int .i64 1100] ww55 fun ee57 ww58 => ∃ (bytes56a : Option Addr) (bytes56n : Nat) (bytes56c : Nat), ee57 = .returned (.slice bytes56a bytes56n bytes56c) ∧
      Keep [p12, p13] ww55 ww58 ∧
      ∀ (ww59 : World), Ext (fun b => b = p13) ww58 ww59 →
      Calls Try.prog 73 #[.pointer r1] ww59 fun ee61 ww62 => ∃ (num60 : Int), ee61 = .returned (.int .u64 num60) ∧
      Keep [p12, p13] ww59 ww62 ∧
      ∀ (ww71 : World), Ext (fun b => b = p12 ∨ b = p13) ww62 ww71 →
      R (.agg #[.int .i64 count14, .int .i64 count18, .int .u64 num22, .int .i64 T26, .int .i64 W27, .int .i64 (-9), .slice bytes56a bytes56n bytes56c, .int .u64 num60]) ww71) ∧
    (int32 ≤ 20 →
      ∀ (ww35 : World), Ext (fun b => b = p13) ww34 ww35 →
      Calls Try.prog 76 #[.pointer r1, .int .i64 1100] ww35 fun ee73 ww74 => ∃ (bytes72a : Option Addr) (bytes72n : Nat) (bytes72c : Nat), ee73 = .returned (.slice bytes72a bytes72n bytes72c) ∧
      Keep [p12, p13] ww35 ww74 ∧
      ∀ (ww75 : World), Ext (fun b => b = p13) ww74 ww75 →
      Calls Try.prog 73 #[.pointer r1] ww75 fun ee77 ww78 => ∃ (num76 : Int), ee77 = .returned (.int .u64 num76) ∧
      Keep [p12, p13] ww75 ww78 ∧
      ∀ (ww87 : World), Ext (fun b => b = p12 ∨ b = p13) ww78 ww87 →
      R (.agg #[.int .i64 count14, .int .i64 count18, .int .u64 num22, .int .i64 T26, .int .i64 W27, .int .i64 int32, .slice bytes72a bytes72n bytes72c, .int .u64 num76]) ww87))

theorem cachetteref06_Take.up (r1 : Option Addr) {R : Value → World → Prop} {w : World} (h : cachetteref06_Take.N r1 R w) : cachetteref06_Take.M r1 R w := by
  unfold cachetteref06_Take.M
  unfold cachetteref06_Take.N at h
  refine thenW_in fun ww2 e2 => ?_
  have hb1 := Blk.of_new e2
  have hg1 := ((Ext.refl no w)).size
  have hx2 := (Ext.refl no w).x_alloc e2
  refine thenW_in fun ww3 e3 => ?_
  have hb2 := Blk.of_new e3
  have hg2 := (hx2).size
  have hb1_2 := Nat.ne_of_lt hb1.lt
  have hb1 := hb1.x_alloc e3
  have hx3 := hx2.x_alloc e3
  refine ⟨hb2.cani 0 rfl rfl, thenW_in fun ww4 e4 => ?_⟩
  have hx4 := hx3.x_set (q := ww2.heap.size) (i := 0) rfl (.inr hg2) e4
  have hb1 := hb1.oth (q := ww2.heap.size) (i := 0) rfl hb1_2 e4
  have hb2 := hb2.seti 0 rfl e4
  refine ⟨hb2.cani 1 rfl rfl, thenW_in fun ww5 e5 => ?_⟩
  have hx5 := hx4.x_set (q := ww2.heap.size) (i := 1) rfl (.inr hg2) e5
  have hb1 := hb1.oth (q := ww2.heap.size) (i := 1) rfl hb1_2 e5
  have hb2 := hb2.seti 1 rfl e5
  refine ⟨hb2.cani 2 rfl rfl, thenW_in fun ww6 e6 => ?_⟩
  have hx6 := hx5.x_set (q := ww2.heap.size) (i := 2) rfl (.inr hg2) e6
  have hb1 := hb1.oth (q := ww2.heap.size) (i := 2) rfl hb1_2 e6
  have hb2 := hb2.seti 2 rfl e6
  refine ⟨hb2.cani 3 rfl rfl, thenW_in fun ww7 e7 => ?_⟩
  have hx7 := hx6.x_set (q := ww2.heap.size) (i := 3) rfl (.inr hg2) e7
  have hb1 := hb1.oth (q := ww2.heap.size) (i := 3) rfl hb1_2 e7
  have hb2 := hb2.seti 3 rfl e7
  refine ⟨hb2.cani 4 rfl rfl, thenW_in fun ww8 e8 => ?_⟩
  have hx8 := hx7.x_set (q := ww2.heap.size) (i := 4) rfl (.inr hg2) e8
  have hb1 := hb1.oth (q := ww2.heap.size) (i := 4) rfl hb1_2 e8
  have hb2 := hb2.seti 4 rfl e8
  refine ⟨hb2.cani 5 rfl rfl, thenW_in fun ww9 e9 => ?_⟩
  have hx9 := hx8.x_set (q := ww2.heap.size) (i := 5) rfl (.inr hg2) e9
  have hb1 := hb1.oth (q := ww2.heap.size) (i := 5) rfl hb1_2 e9
  have hb2 := hb2.seti 5 rfl e9
  refine ⟨hb2.cani 6 rfl rfl, thenW_in fun ww10 e10 => ?_⟩
  have hx10 := hx9.x_set (q := ww2.heap.size) (i := 6) rfl (.inr hg2) e10
  have hb1 := hb1.oth (q := ww2.heap.size) (i := 6) rfl hb1_2 e10
  have hb2 := hb2.seti 6 rfl e10
  refine ⟨hb2.cani 7 rfl rfl, thenW_in fun ww11 e11 => ?_⟩
  have hx11 := hx10.x_set (q := ww2.heap.size) (i := 7) rfl (.inr hg2) e11
  have hb1 := hb1.oth (q := ww2.heap.size) (i := 7) rfl hb1_2 e11
  have hb2 := hb2.seti 7 rfl e11
  have h := h ww11 (w.heap.size) (ww2.heap.size) hx11 (Priv.cons hg1 hb1.lt (Priv.cons hg2 hb2.lt Priv.nil))
  refine h.mono fun ee15 ww16 h => ?_
  obtain ⟨count14, he, hk, h⟩ := h
  refine ⟨count14, he, ?_⟩
  have hb1 := hk.blk hb1 (by simp)
  have hb2 := hk.blk hb2 (by simp)
  have hm17 : Ext (fun b => b = ww2.heap.size) ww16 ww16 := ((Ext.refl no ww16)).none
  refine ⟨hb2.cani 0 rfl rfl, thenW_in fun ww17 e17 => ?_⟩
  have hx17 := hm17.x_set (q := ww2.heap.size) (i := 0) rfl (.inl rfl) e17
  have hb1 := hb1.oth (q := ww2.heap.size) (i := 0) rfl hb1_2 e17
  have hb2 := hb2.seti 0 rfl e17
  have h := h ww17 hx17
  refine h.mono fun ee19 ww20 h => ?_
  obtain ⟨count18, he, hk, h⟩ := h
  refine ⟨count18, he, ?_⟩
  have hb1 := hk.blk hb1 (by simp)
  have hb2 := hk.blk hb2 (by simp)
  have hm21 : Ext (fun b => b = ww2.heap.size) ww20 ww20 := ((Ext.refl no ww20)).none
  refine ⟨hb2.cani 1 rfl rfl, thenW_in fun ww21 e21 => ?_⟩
  have hx21 := hm21.x_set (q := ww2.heap.size) (i := 1) rfl (.inl rfl) e21
  have hb1 := hb1.oth (q := ww2.heap.size) (i := 1) rfl hb1_2 e21
  have hb2 := hb2.seti 1 rfl e21
  have h := h ww21 hx21
  refine h.mono fun ee23 ww24 h => ?_
  obtain ⟨num22, he, hk, h⟩ := h
  refine ⟨num22, he, ?_⟩
  have hb1 := hk.blk hb1 (by simp)
  have hb2 := hk.blk hb2 (by simp)
  have hm25 : Ext (fun b => b = ww2.heap.size) ww24 ww24 := ((Ext.refl no ww24)).none
  refine ⟨hb2.cani 2 rfl rfl, thenW_in fun ww25 e25 => ?_⟩
  have hx25 := hm25.x_set (q := ww2.heap.size) (i := 2) rfl (.inl rfl) e25
  have hb1 := hb1.oth (q := ww2.heap.size) (i := 2) rfl hb1_2 e25
  have hb2 := hb2.seti 2 rfl e25
  have h := h ww25 hx25
  refine h.mono fun ee28 ww29 h => ?_
  obtain ⟨T26, W27, he, hk, h⟩ := h
  refine ⟨T26, W27, he, ?_⟩
  have hb1 := hk.blk hb1 (by simp)
  have hb2 := hk.blk hb2 (by simp)
  have hm31 : Ext (fun b => b = ww2.heap.size) ww29 ww29 := ((Ext.refl no ww29)).none
  refine ⟨hb2.cani 3 rfl rfl, thenW_in fun ww30 e30 => ?_⟩
  have hx30 := hm31.x_set (q := ww2.heap.size) (i := 3) rfl (.inl rfl) e30
  have hb1 := hb1.oth (q := ww2.heap.size) (i := 3) rfl hb1_2 e30
  have hb2 := hb2.seti 3 rfl e30
  refine ⟨hb2.cani 4 rfl rfl, thenW_in fun ww31 e31 => ?_⟩
  have hx31 := hx30.x_set (q := ww2.heap.size) (i := 4) rfl (.inl rfl) e31
  have hb1 := hb1.oth (q := ww2.heap.size) (i := 4) rfl hb1_2 e31
  have hb2 := hb2.seti 4 rfl e31
  have h := h ww31 hx31
  refine h.mono fun ee33 ww34 h => ?_
  obtain ⟨int32, he, hk, h⟩ := h
  refine ⟨int32, he, ?_⟩
  have hb1 := hk.blk hb1 (by simp)
  have hb2 := hk.blk hb2 (by simp)
  have hm35 : Ext (fun b => b = ww2.heap.size) ww34 ww34 := ((Ext.refl no ww34)).none
  refine ⟨hb2.cani 5 rfl rfl, thenW_in fun ww35 e35 => ?_⟩
  have hx35 := hm35.x_set (q := ww2.heap.size) (i := 5) rfl (.inl rfl) e35
  have hb1 := hb1.oth (q := ww2.heap.size) (i := 5) rfl hb1_2 e35
  have hb2 := hb2.seti 5 rfl e35
  refine bif_of (fun c36 => ?_) (fun c36 => ?_)
  · have h := h.1 (of_decide_eq_true c36)
    refine ⟨hb2.cani 5 rfl rfl, thenW_in fun ww37 e37 => ?_⟩
    have hx37 := hx35.x_set (q := ww2.heap.size) (i := 5) rfl (.inl rfl) e37
    have hb1 := hb1.oth (q := ww2.heap.size) (i := 5) rfl hb1_2 e37
    have hb2 := hb2.seti 5 rfl e37
    have h := h ww37 hx37
    refine h.mono fun ee39 ww40 h => ?_
    obtain ⟨bytes38a, bytes38n, bytes38c, he, hk, h⟩ := h
    refine ⟨bytes38a, bytes38n, bytes38c, he, ?_⟩
    have hb1 := hk.blk hb1 (by simp)
    have hb2 := hk.blk hb2 (by simp)
    have hm41 : Ext (fun b => b = ww2.heap.size) ww40 ww40 := ((Ext.refl no ww40)).none
    refine ⟨hb2.cani 6 rfl rfl, thenW_in fun ww41 e41 => ?_⟩
    have hx41 := hm41.x_set (q := ww2.heap.size) (i := 6) rfl (.inl rfl) e41
    have hb1 := hb1.oth (q := ww2.heap.size) (i := 6) rfl hb1_2 e41
    have hb2 := hb2.seti 6 rfl e41
    have h := h ww41 hx41
    refine h.mono fun ee43 ww44 h => ?_
    obtain ⟨num42, he, hk, h⟩ := h
    refine ⟨num42, he, ?_⟩
    have hb1 := hk.blk hb1 (by simp)
    have hb2 := hk.blk hb2 (by simp)
    have hm45 : Ext (fun b => b = ww2.heap.size) ww44 ww44 := ((Ext.refl no ww44)).none
    refine ⟨hb2.cani 7 rfl rfl, thenW_in fun ww45 e45 => ?_⟩
    have hx45 := hm45.x_set (q := ww2.heap.size) (i := 7) rfl (.inl rfl) e45
    have hb1 := hb1.oth (q := ww2.heap.size) (i := 7) rfl hb1_2 e45
    have hb2 := hb2.seti 7 rfl e45
    refine ⟨count14, count18, num22, T26, W27, (-9), bytes38a, bytes38n, bytes38c, num42, ⟨hb2.celli 0 rfl rfl, hb2.celli 1 rfl rfl, hb2.celli 2 rfl rfl, hb2.celli 3 rfl rfl, hb2.celli 4 rfl rfl, hb2.celli 5 rfl rfl, hb2.celli 6 rfl rfl, hb2.celli 7 rfl rfl, trivial⟩, ?_⟩
    have hm53 : Ext (fun b => b = w.heap.size ∨ b = ww2.heap.size) ww44 ww45 := (hx45).mono fun _ h _ => .inr h
    refine ⟨hb1.cani 0 rfl rfl, thenW_in fun ww46 e46 => ?_⟩
    have hx46 := hm53.x_set (q := w.heap.size) (i := 0) rfl (.inl (.inl rfl)) e46
    have hb1 := hb1.seti 0 rfl e46
    refine ⟨hb1.cani 1 rfl rfl, thenW_in fun ww47 e47 => ?_⟩
    have hx47 := hx46.x_set (q := w.heap.size) (i := 1) rfl (.inl (.inl rfl)) e47
    have hb1 := hb1.seti 1 rfl e47
    refine ⟨hb1.cani 2 rfl rfl, thenW_in fun ww48 e48 => ?_⟩
    have hx48 := hx47.x_set (q := w.heap.size) (i := 2) rfl (.inl (.inl rfl)) e48
    have hb1 := hb1.seti 2 rfl e48
    refine ⟨hb1.cani 3 rfl rfl, thenW_in fun ww49 e49 => ?_⟩
    have hx49 := hx48.x_set (q := w.heap.size) (i := 3) rfl (.inl (.inl rfl)) e49
    have hb1 := hb1.seti 3 rfl e49
    refine ⟨hb1.cani 4 rfl rfl, thenW_in fun ww50 e50 => ?_⟩
    have hx50 := hx49.x_set (q := w.heap.size) (i := 4) rfl (.inl (.inl rfl)) e50
    have hb1 := hb1.seti 4 rfl e50
    refine ⟨hb1.cani 5 rfl rfl, thenW_in fun ww51 e51 => ?_⟩
    have hx51 := hx50.x_set (q := w.heap.size) (i := 5) rfl (.inl (.inl rfl)) e51
    have hb1 := hb1.seti 5 rfl e51
    refine ⟨hb1.cani 6 rfl rfl, thenW_in fun ww52 e52 => ?_⟩
    have hx52 := hx51.x_set (q := w.heap.size) (i := 6) rfl (.inl (.inl rfl)) e52
    have hb1 := hb1.seti 6 rfl e52
    refine ⟨hb1.cani 7 rfl rfl, thenW_in fun ww53 e53 => ?_⟩
    have hx53 := hx52.x_set (q := w.heap.size) (i := 7) rfl (.inl (.inl rfl)) e53
    have hb1 := hb1.seti 7 rfl e53
    refine ⟨count14, count18, num22, T26, W27, (-9), bytes38a, bytes38n, bytes38c, num42, ⟨hb1.celli 0 rfl rfl, hb1.celli 1 rfl rfl, hb1.celli 2 rfl rfl, hb1.celli 3 rfl rfl, hb1.celli 4 rfl rfl, hb1.celli 5 rfl rfl, hb1.celli 6 rfl rfl, hb1.celli 7 rfl rfl, trivial⟩, ?_⟩
    have h := h ww53 hx53
    exact h
  · have h := h.2 (Int.not_lt.1 (of_decide_eq_false c36))
    refine bif_of (fun c54 => ?_) (fun c54 => ?_)
    · have h := h.1 (of_decide_eq_true c54)
      refine ⟨hb2.cani 5 rfl rfl, thenW_in fun ww55 e55 => ?_⟩
      have hx55 := hx35.x_set (q := ww2.heap.size) (i := 5) rfl (.inl rfl) e55
      have hb1 := hb1.oth (q := ww2.heap.size) (i := 5) rfl hb1_2 e55
      have hb2 := hb2.seti 5 rfl e55
      have h := h ww55 hx55
      refine h.mono fun ee57 ww58 h => ?_
      obtain ⟨bytes56a, bytes56n, bytes56c, he, hk, h⟩ := h
      refine ⟨bytes56a, bytes56n, bytes56c, he, ?_⟩
      have hb1 := hk.blk hb1 (by simp)
      have hb2 := hk.blk hb2 (by simp)
      have hm59 : Ext (fun b => b = ww2.heap.size) ww58 ww58 := ((Ext.refl no ww58)).none
      refine ⟨hb2.cani 6 rfl rfl, thenW_in fun ww59 e59 => ?_⟩
      have hx59 := hm59.x_set (q := ww2.heap.size) (i := 6) rfl (.inl rfl) e59
      have hb1 := hb1.oth (q := ww2.heap.size) (i := 6) rfl hb1_2 e59
      have hb2 := hb2.seti 6 rfl e59
      have h := h ww59 hx59
      refine h.mono fun ee61 ww62 h => ?_
      obtain ⟨num60, he, hk, h⟩ := h
      refine ⟨num60, he, ?_⟩
      have hb1 := hk.blk hb1 (by simp)
      have hb2 := hk.blk hb2 (by simp)
      have hm63 : Ext (fun b => b = ww2.heap.size) ww62 ww62 := ((Ext.refl no ww62)).none
      refine ⟨hb2.cani 7 rfl rfl, thenW_in fun ww63 e63 => ?_⟩
      have hx63 := hm63.x_set (q := ww2.heap.size) (i := 7) rfl (.inl rfl) e63
      have hb1 := hb1.oth (q := ww2.heap.size) (i := 7) rfl hb1_2 e63
      have hb2 := hb2.seti 7 rfl e63
      refine ⟨count14, count18, num22, T26, W27, (-9), bytes56a, bytes56n, bytes56c, num60, ⟨hb2.celli 0 rfl rfl, hb2.celli 1 rfl rfl, hb2.celli 2 rfl rfl, hb2.celli 3 rfl rfl, hb2.celli 4 rfl rfl, hb2.celli 5 rfl rfl, hb2.celli 6 rfl rfl, hb2.celli 7 rfl rfl, trivial⟩, ?_⟩
      have hm71 : Ext (fun b => b = w.heap.size ∨ b = ww2.heap.size) ww62 ww63 := (hx63).mono fun _ h _ => .inr h
      refine ⟨hb1.cani 0 rfl rfl, thenW_in fun ww64 e64 => ?_⟩
      have hx64 := hm71.x_set (q := w.heap.size) (i := 0) rfl (.inl (.inl rfl)) e64
      have hb1 := hb1.seti 0 rfl e64
      refine ⟨hb1.cani 1 rfl rfl, thenW_in fun ww65 e65 => ?_⟩
      have hx65 := hx64.x_set (q := w.heap.size) (i := 1) rfl (.inl (.inl rfl)) e65
      have hb1 := hb1.seti 1 rfl e65
      refine ⟨hb1.cani 2 rfl rfl, thenW_in fun ww66 e66 => ?_⟩
      have hx66 := hx65.x_set (q := w.heap.size) (i := 2) rfl (.inl (.inl rfl)) e66
      have hb1 := hb1.seti 2 rfl e66
      refine ⟨hb1.cani 3 rfl rfl, thenW_in fun ww67 e67 => ?_⟩
      have hx67 := hx66.x_set (q := w.heap.size) (i := 3) rfl (.inl (.inl rfl)) e67
      have hb1 := hb1.seti 3 rfl e67
      refine ⟨hb1.cani 4 rfl rfl, thenW_in fun ww68 e68 => ?_⟩
      have hx68 := hx67.x_set (q := w.heap.size) (i := 4) rfl (.inl (.inl rfl)) e68
      have hb1 := hb1.seti 4 rfl e68
      refine ⟨hb1.cani 5 rfl rfl, thenW_in fun ww69 e69 => ?_⟩
      have hx69 := hx68.x_set (q := w.heap.size) (i := 5) rfl (.inl (.inl rfl)) e69
      have hb1 := hb1.seti 5 rfl e69
      refine ⟨hb1.cani 6 rfl rfl, thenW_in fun ww70 e70 => ?_⟩
      have hx70 := hx69.x_set (q := w.heap.size) (i := 6) rfl (.inl (.inl rfl)) e70
      have hb1 := hb1.seti 6 rfl e70
      refine ⟨hb1.cani 7 rfl rfl, thenW_in fun ww71 e71 => ?_⟩
      have hx71 := hx70.x_set (q := w.heap.size) (i := 7) rfl (.inl (.inl rfl)) e71
      have hb1 := hb1.seti 7 rfl e71
      refine ⟨count14, count18, num22, T26, W27, (-9), bytes56a, bytes56n, bytes56c, num60, ⟨hb1.celli 0 rfl rfl, hb1.celli 1 rfl rfl, hb1.celli 2 rfl rfl, hb1.celli 3 rfl rfl, hb1.celli 4 rfl rfl, hb1.celli 5 rfl rfl, hb1.celli 6 rfl rfl, hb1.celli 7 rfl rfl, trivial⟩, ?_⟩
      have h := h ww71 hx71
      exact h
    · have h := h.2 (Int.not_lt.1 (of_decide_eq_false c54))
      have h := h ww35 hx35
      refine h.mono fun ee73 ww74 h => ?_
      obtain ⟨bytes72a, bytes72n, bytes72c, he, hk, h⟩ := h
      refine ⟨bytes72a, bytes72n, bytes72c, he, ?_⟩
      have hb1 := hk.blk hb1 (by simp)
      have hb2 := hk.blk hb2 (by simp)
      have hm75 : Ext (fun b => b = ww2.heap.size) ww74 ww74 := ((Ext.refl no ww74)).none
      refine ⟨hb2.cani 6 rfl rfl, thenW_in fun ww75 e75 => ?_⟩
      have hx75 := hm75.x_set (q := ww2.heap.size) (i := 6) rfl (.inl rfl) e75
      have hb1 := hb1.oth (q := ww2.heap.size) (i := 6) rfl hb1_2 e75
      have hb2 := hb2.seti 6 rfl e75
      have h := h ww75 hx75
      refine h.mono fun ee77 ww78 h => ?_
      obtain ⟨num76, he, hk, h⟩ := h
      refine ⟨num76, he, ?_⟩
      have hb1 := hk.blk hb1 (by simp)
      have hb2 := hk.blk hb2 (by simp)
      have hm79 : Ext (fun b => b = ww2.heap.size) ww78 ww78 := ((Ext.refl no ww78)).none
      refine ⟨hb2.cani 7 rfl rfl, thenW_in fun ww79 e79 => ?_⟩
      have hx79 := hm79.x_set (q := ww2.heap.size) (i := 7) rfl (.inl rfl) e79
      have hb1 := hb1.oth (q := ww2.heap.size) (i := 7) rfl hb1_2 e79
      have hb2 := hb2.seti 7 rfl e79
      refine ⟨count14, count18, num22, T26, W27, int32, bytes72a, bytes72n, bytes72c, num76, ⟨hb2.celli 0 rfl rfl, hb2.celli 1 rfl rfl, hb2.celli 2 rfl rfl, hb2.celli 3 rfl rfl, hb2.celli 4 rfl rfl, hb2.celli 5 rfl rfl, hb2.celli 6 rfl rfl, hb2.celli 7 rfl rfl, trivial⟩, ?_⟩
      have hm87 : Ext (fun b => b = w.heap.size ∨ b = ww2.heap.size) ww78 ww79 := (hx79).mono fun _ h _ => .inr h
      refine ⟨hb1.cani 0 rfl rfl, thenW_in fun ww80 e80 => ?_⟩
      have hx80 := hm87.x_set (q := w.heap.size) (i := 0) rfl (.inl (.inl rfl)) e80
      have hb1 := hb1.seti 0 rfl e80
      refine ⟨hb1.cani 1 rfl rfl, thenW_in fun ww81 e81 => ?_⟩
      have hx81 := hx80.x_set (q := w.heap.size) (i := 1) rfl (.inl (.inl rfl)) e81
      have hb1 := hb1.seti 1 rfl e81
      refine ⟨hb1.cani 2 rfl rfl, thenW_in fun ww82 e82 => ?_⟩
      have hx82 := hx81.x_set (q := w.heap.size) (i := 2) rfl (.inl (.inl rfl)) e82
      have hb1 := hb1.seti 2 rfl e82
      refine ⟨hb1.cani 3 rfl rfl, thenW_in fun ww83 e83 => ?_⟩
      have hx83 := hx82.x_set (q := w.heap.size) (i := 3) rfl (.inl (.inl rfl)) e83
      have hb1 := hb1.seti 3 rfl e83
      refine ⟨hb1.cani 4 rfl rfl, thenW_in fun ww84 e84 => ?_⟩
      have hx84 := hx83.x_set (q := w.heap.size) (i := 4) rfl (.inl (.inl rfl)) e84
      have hb1 := hb1.seti 4 rfl e84
      refine ⟨hb1.cani 5 rfl rfl, thenW_in fun ww85 e85 => ?_⟩
      have hx85 := hx84.x_set (q := w.heap.size) (i := 5) rfl (.inl (.inl rfl)) e85
      have hb1 := hb1.seti 5 rfl e85
      refine ⟨hb1.cani 6 rfl rfl, thenW_in fun ww86 e86 => ?_⟩
      have hx86 := hx85.x_set (q := w.heap.size) (i := 6) rfl (.inl (.inl rfl)) e86
      have hb1 := hb1.seti 6 rfl e86
      refine ⟨hb1.cani 7 rfl rfl, thenW_in fun ww87 e87 => ?_⟩
      have hx87 := hx86.x_set (q := w.heap.size) (i := 7) rfl (.inl (.inl rfl)) e87
      have hb1 := hb1.seti 7 rfl e87
      refine ⟨count14, count18, num22, T26, W27, int32, bytes72a, bytes72n, bytes72c, num76, ⟨hb1.celli 0 rfl rfl, hb1.celli 1 rfl rfl, hb1.celli 2 rfl rfl, hb1.celli 3 rfl rfl, hb1.celli 4 rfl rfl, hb1.celli 5 rfl rfl, hb1.celli 6 rfl rfl, hb1.celli 7 rfl rfl, trivial⟩, ?_⟩
      have h := h ww87 hx87
      exact h

theorem cachetteref06_Take.go (r1 : Option Addr) {R : Value → World → Prop} {w : World} (h : cachetteref06_Take.N r1 R w) : Calls Try.prog 48 #[.pointer r1] w fun e w' => ∃ v, e = .returned v ∧ R v w' := cachetteref06_Take.ok r1 (cachetteref06_Take.up r1 h)
theorem cachetteref06_Take.run (r1 : Option Addr) {V : Value} {Q : World → Prop} {w : World} (h : cachetteref06_Take.N r1 (fun v w' => v = V ∧ Q w') w) : Calls Try.prog 48 #[.pointer r1] w (Ret V Q) := (cachetteref06_Take.go r1 h).mono fun e w' ⟨v, he, hv, hq⟩ => ⟨by rw [he, hv], hq⟩

/-- cachetteref06.Read -/
def cachetteref06_Read.M (b1a : Option Addr) (b1n : Nat) (b1c : Nat) (R : Value → World → Prop) (w : World) : Prop :=
  thenW (w.alloc (.cells #[.int .i64 0, .int .i64 0, .int .u64 0, .int .i64 0, .int .i64 0, .int .i64 0, .slice none 0 0, .int .u64 0] 27)) fun ww2 =>
  thenW (ww2.alloc (.cells #[.slice b1a b1n b1c, .int .i64 0] 77)) fun ww3 =>
  Calls Try.prog 48 #[.pointer (some (blk ww2.heap.size))] ww3 fun ee12 ww13 => ∃ (Writer4 : Int) (Index5 : Int) (Prev6 : Int) (AtT7 : Int) (AtW8 : Int) (Epoch9 : Int) (Body10a : Option Addr) (Body10n : Nat) (Body10c : Nat) (Sig11 : Int), ee12 = .returned (.agg #[.int .i64 Writer4, .int .i64 Index5, .int .u64 Prev6, .int .i64 AtT7, .int .i64 AtW8, .int .i64 Epoch9, .slice Body10a Body10n Body10c, .int .u64 Sig11]) ∧
  thenW (ww13.alloc (.cells #[.int .i64 0, .int .i64 0, .int .u64 0, .int .i64 0, .int .i64 0, .int .i64 0, .slice none 0 0, .int .u64 0] 27)) fun ww14 =>
  canStore ww14 ((blk ww13.heap.size).add 0) ∧
  thenW (ww14.setCell ((blk ww13.heap.size).add 0) (.int .i64 Writer4)) fun ww15 =>
  canStore ww15 ((blk ww13.heap.size).add 1) ∧
  thenW (ww15.setCell ((blk ww13.heap.size).add 1) (.int .i64 Index5)) fun ww16 =>
  canStore ww16 ((blk ww13.heap.size).add 2) ∧
  thenW (ww16.setCell ((blk ww13.heap.size).add 2) (.int .u64 Prev6)) fun ww17 =>
  canStore ww17 ((blk ww13.heap.size).add 3) ∧
  thenW (ww17.setCell ((blk ww13.heap.size).add 3) (.int .i64 AtT7)) fun ww18 =>
  canStore ww18 ((blk ww13.heap.size).add 4) ∧
  thenW (ww18.setCell ((blk ww13.heap.size).add 4) (.int .i64 AtW8)) fun ww19 =>
  canStore ww19 ((blk ww13.heap.size).add 5) ∧
  thenW (ww19.setCell ((blk ww13.heap.size).add 5) (.int .i64 Epoch9)) fun ww20 =>
  canStore ww20 ((blk ww13.heap.size).add 6) ∧
  thenW (ww20.setCell ((blk ww13.heap.size).add 6) (.slice Body10a Body10n Body10c)) fun ww21 =>
  canStore ww21 ((blk ww13.heap.size).add 7) ∧
  thenW (ww21.setCell ((blk ww13.heap.size).add 7) (.int .u64 Sig11)) fun ww22 =>
  Calls Try.prog 49 #[.pointer (some (blk ww2.heap.size))] ww22 fun ee24 ww25 => ∃ (done23 : Int), ee24 = .returned (.int .i64 done23) ∧
  bif done23 != 0 then (
  canStore ww25 ((blk w.heap.size).add 0) ∧
  thenW (ww25.setCell ((blk w.heap.size).add 0) (.int .i64 0)) fun ww26 =>
  canStore ww26 ((blk w.heap.size).add 1) ∧
  thenW (ww26.setCell ((blk w.heap.size).add 1) (.int .i64 0)) fun ww27 =>
  canStore ww27 ((blk w.heap.size).add 2) ∧
  thenW (ww27.setCell ((blk w.heap.size).add 2) (.int .u64 0)) fun ww28 =>
  canStore ww28 ((blk w.heap.size).add 3) ∧
  thenW (ww28.setCell ((blk w.heap.size).add 3) (.int .i64 0)) fun ww29 =>
  canStore ww29 ((blk w.heap.size).add 4) ∧
  thenW (ww29.setCell ((blk w.heap.size).add 4) (.int .i64 0)) fun ww30 =>
  canStore ww30 ((blk w.heap.size).add 5) ∧
  thenW (ww30.setCell ((blk w.heap.size).add 5) (.int .i64 0)) fun ww31 =>
  canStore ww31 ((blk w.heap.size).add 6) ∧
  thenW (ww31.setCell ((blk w.heap.size).add 6) (.slice none 0 0)) fun ww32 =>
  canStore ww32 ((blk w.heap.size).add 7) ∧
  thenW (ww32.setCell ((blk w.heap.size).add 7) (.int .u64 0)) fun ww33 =>
  ∃ (resWriter34 : Int) (resIndex35 : Int) (resPrev36 : Int) (resAtT37 : Int) (resAtW38 : Int) (resEpoch39 : Int) (resBody40a : Option Addr) (resBody40n : Nat) (resBody40c : Nat) (resSig41 : Int), cellsAt ww33 (blk w.heap.size) [.int .i64 resWriter34, .int .i64 resIndex35, .int .u64 resPrev36, .int .i64 resAtT37, .int .i64 resAtW38, .int .i64 resEpoch39, .slice resBody40a resBody40n resBody40c, .int .u64 resSig41] 0 ∧
  R (.tuple #[.agg #[.int .i64 resWriter34, .int .i64 resIndex35, .int .u64 resPrev36, .int .i64 resAtT37, .int .i64 resAtW38, .int .i64 resEpoch39, .slice resBody40a resBody40n resBody40c, .int .u64 resSig41], .int .i64 done23]) ww33) else (
  ∃ (xWriter42 : Int) (xIndex43 : Int) (xPrev44 : Int) (xAtT45 : Int) (xAtW46 : Int) (xEpoch47 : Int) (xBody48a : Option Addr) (xBody48n : Nat) (xBody48c : Nat) (xSig49 : Int), cellsAt ww25 (blk ww13.heap.size) [.int .i64 xWriter42, .int .i64 xIndex43, .int .u64 xPrev44, .int .i64 xAtT45, .int .i64 xAtW46, .int .i64 xEpoch47, .slice xBody48a xBody48n xBody48c, .int .u64 xSig49] 0 ∧
  Calls Try.prog 19 #[.agg #[.int .i64 xWriter42, .int .i64 xIndex43, .int .u64 xPrev44, .int .i64 xAtT45, .int .i64 xAtW46, .int .i64 xEpoch47, .slice xBody48a xBody48n xBody48c, .int .u64 xSig49]] ww25 fun ee51 ww52 => ∃ (right50 : Bool), ee51 = .returned (.bool right50) ∧
  bif !right50 then (
  canStore ww52 ((blk w.heap.size).add 0) ∧
  thenW (ww52.setCell ((blk w.heap.size).add 0) (.int .i64 0)) fun ww53 =>
  canStore ww53 ((blk w.heap.size).add 1) ∧
  thenW (ww53.setCell ((blk w.heap.size).add 1) (.int .i64 0)) fun ww54 =>
  canStore ww54 ((blk w.heap.size).add 2) ∧
  thenW (ww54.setCell ((blk w.heap.size).add 2) (.int .u64 0)) fun ww55 =>
  canStore ww55 ((blk w.heap.size).add 3) ∧
  thenW (ww55.setCell ((blk w.heap.size).add 3) (.int .i64 0)) fun ww56 =>
  canStore ww56 ((blk w.heap.size).add 4) ∧
  thenW (ww56.setCell ((blk w.heap.size).add 4) (.int .i64 0)) fun ww57 =>
  canStore ww57 ((blk w.heap.size).add 5) ∧
  thenW (ww57.setCell ((blk w.heap.size).add 5) (.int .i64 0)) fun ww58 =>
  canStore ww58 ((blk w.heap.size).add 6) ∧
  thenW (ww58.setCell ((blk w.heap.size).add 6) (.slice none 0 0)) fun ww59 =>
  canStore ww59 ((blk w.heap.size).add 7) ∧
  thenW (ww59.setCell ((blk w.heap.size).add 7) (.int .u64 0)) fun ww60 =>
  ∃ (resWriter61 : Int) (resIndex62 : Int) (resPrev63 : Int) (resAtT64 : Int) (resAtW65 : Int) (resEpoch66 : Int) (resBody67a : Option Addr) (resBody67n : Nat) (resBody67c : Nat) (resSig68 : Int), cellsAt ww60 (blk w.heap.size) [.int .i64 resWriter61, .int .i64 resIndex62, .int .u64 resPrev63, .int .i64 resAtT64, .int .i64 resAtW65, .int .i64 resEpoch66, .slice resBody67a resBody67n resBody67c, .int .u64 resSig68] 0 ∧
  R (.tuple #[.agg #[.int .i64 resWriter61, .int .i64 resIndex62, .int .u64 resPrev63, .int .i64 resAtT64, .int .i64 resAtW65, .int .i64 resEpoch66, .slice resBody67a resBody67n resBody67c, .int .u64 resSig68], .int .i64 4]) ww60) else (
  ∃ (xWriter69 : Int) (xIndex70 : Int) (xPrev71 : Int) (xAtT72 : Int) (xAtW73 : Int) (xEpoch74 : Int) (xBody75a : Option Addr) (xBody75n : Nat) (xBody75c : Nat) (xSig76 : Int), cellsAt ww52 (blk ww13.heap.size) [.int .i64 xWriter69, .int .i64 xIndex70, .int .u64 xPrev71, .int .i64 xAtT72, .int .i64 xAtW73, .int .i64 xEpoch74, .slice xBody75a xBody75n xBody75c, .int .u64 xSig76] 0 ∧
  canStore ww52 ((blk w.heap.size).add 0) ∧
  thenW (ww52.setCell ((blk w.heap.size).add 0) (.int .i64 xWriter69)) fun ww77 =>
  canStore ww77 ((blk w.heap.size).add 1) ∧
  thenW (ww77.setCell ((blk w.heap.size).add 1) (.int .i64 xIndex70)) fun ww78 =>
  canStore ww78 ((blk w.heap.size).add 2) ∧
  thenW (ww78.setCell ((blk w.heap.size).add 2) (.int .u64 xPrev71)) fun ww79 =>
  canStore ww79 ((blk w.heap.size).add 3) ∧
  thenW (ww79.setCell ((blk w.heap.size).add 3) (.int .i64 xAtT72)) fun ww80 =>
  canStore ww80 ((blk w.heap.size).add 4) ∧
  thenW (ww80.setCell ((blk w.heap.size).add 4) (.int .i64 xAtW73)) fun ww81 =>
  canStore ww81 ((blk w.heap.size).add 5) ∧
  thenW (ww81.setCell ((blk w.heap.size).add 5) (.int .i64 xEpoch74)) fun ww82 =>
  canStore ww82 ((blk w.heap.size).add 6) ∧
  thenW (ww82.setCell ((blk w.heap.size).add 6) (.slice xBody75a xBody75n xBody75c)) fun ww83 =>
  canStore ww83 ((blk w.heap.size).add 7) ∧
  thenW (ww83.setCell ((blk w.heap.size).add 7) (.int .u64 xSig76)) fun ww84 =>
  ∃ (resWriter85 : Int) (resIndex86 : Int) (resPrev87 : Int) (resAtT88 : Int) (resAtW89 : Int) (resEpoch90 : Int) (resBody91a : Option Addr) (resBody91n : Nat) (resBody91c : Nat) (resSig92 : Int), cellsAt ww84 (blk w.heap.size) [.int .i64 resWriter85, .int .i64 resIndex86, .int .u64 resPrev87, .int .i64 resAtT88, .int .i64 resAtW89, .int .i64 resEpoch90, .slice resBody91a resBody91n resBody91c, .int .u64 resSig92] 0 ∧
  R (.tuple #[.agg #[.int .i64 resWriter85, .int .i64 resIndex86, .int .u64 resPrev87, .int .i64 resAtT88, .int .i64 resAtW89, .int .i64 resEpoch90, .slice resBody91a resBody91n resBody91c, .int .u64 resSig92], .int .i64 0]) ww84))

theorem cachetteref06_Read.eq (b1a : Option Addr) (b1n : Nat) (b1c : Nat) (R : Value → World → Prop) (w : World) : mfunc Try.prog [] 18 [.slice b1a b1n b1c] R w = cachetteref06_Read.M b1a b1n b1c R w := by kernel_rfl
theorem cachetteref06_Read.ok (b1a : Option Addr) (b1n : Nat) (b1c : Nat) {R : Value → World → Prop} {w : World} (h : cachetteref06_Read.M b1a b1n b1c R w) : Calls Try.prog 18 #[.slice b1a b1n b1c] w fun e w' => ∃ v, e = .returned v ∧ R v w' :=
  mfunc_ok follows (H := []) (args := [.slice b1a b1n b1c]) (by rw [cachetteref06_Read.eq]; exact h)

def cachetteref06_Read.N (b1a : Option Addr) (b1n : Nat) (b1c : Nat) (R : Value → World → Prop) (w : World) : Prop :=
  ∀ (ww3 : World) (q4 : Nat) (p5 : Nat), Ext no w ww3 → Blk ww3 q4 77 [.slice b1a b1n b1c, .int .i64 0] → w.heap.size ≤ q4 → q4 < ww3.heap.size → Privq w q4 [p5] →
  Calls Try.prog 48 #[.pointer (some (blk q4))] ww3 fun ee14 ww15 => ∃ (Writer6 : Int) (Index7 : Int) (Prev8 : Int) (AtT9 : Int) (AtW10 : Int) (Epoch11 : Int) (Body12a : Option Addr) (Body12n : Nat) (Body12c : Nat) (Sig13 : Int), ee14 = .returned (.agg #[.int .i64 Writer6, .int .i64 Index7, .int .u64 Prev8, .int .i64 AtT9, .int .i64 AtW10, .int .i64 Epoch11, .slice Body12a Body12n Body12c, .int .u64 Sig13]) ∧
  Keep [p5] ww3 ww15 ∧
  ∀ (ww24 : World) (p25 : Nat), Ext no ww15 ww24 → Priv ww15 ww24 [p25] →
  Calls Try.prog 49 #[.pointer (some (blk q4))] ww24 fun ee27 ww28 => ∃ (done26 : Int), ee27 = .returned (.int .i64 done26) ∧
  Keep [p5, p25] ww24 ww28 ∧
  (done26 ≠ 0 →
    ∀ (ww37 : World), Ext (fun b => b = p5) ww28 ww37 →
    R (.tuple #[.agg #[.int .i64 0, .int .i64 0, .int .u64 0, .int .i64 0, .int .i64 0, .int .i64 0, .slice none 0 0, .int .u64 0], .int .i64 done26]) ww37) ∧
  (done26 = 0 →
    ((cachetteref06_Right.F Writer6 Index7 Prev8 AtT9 AtW10 Epoch11 Body12a Body12n Body12c Sig13) = false →
      ∀ (ww47 : World), Ext (fun b => b = p5) ww28 ww47 →
      R (.tuple #[.agg #[.int .i64 0, .int .i64 0, .int .u64 0, .int .i64 0, .int .i64 0, .int .i64 0, .slice none 0 0, .int .u64 0], .int .i64 4]) ww47) ∧
    ((cachetteref06_Right.F Writer6 Index7 Prev8 AtT9 AtW10 Epoch11 Body12a Body12n Body12c Sig13) = true →
      ∀ (ww55 : World), Ext (fun b => b = p5) ww28 ww55 →
      R (.tuple #[.agg #[.int .i64 Writer6, .int .i64 Index7, .int .u64 Prev8, .int .i64 AtT9, .int .i64 AtW10, .int .i64 Epoch11, .slice Body12a Body12n Body12c, .int .u64 Sig13], .int .i64 0]) ww55))

theorem cachetteref06_Read.up (b1a : Option Addr) (b1n : Nat) (b1c : Nat) {R : Value → World → Prop} {w : World} (h : cachetteref06_Read.N b1a b1n b1c R w) : cachetteref06_Read.M b1a b1n b1c R w := by
  unfold cachetteref06_Read.M
  unfold cachetteref06_Read.N at h
  refine thenW_in fun ww2 e2 => ?_
  have hb1 := Blk.of_new e2
  have hg1 := ((Ext.refl no w)).size
  have hx2 := (Ext.refl no w).x_alloc e2
  refine thenW_in fun ww3 e3 => ?_
  have hl1 := hb1.lt
  have hb1 := hb1.x_alloc e3
  have h := h ww3 ww2.heap.size (w.heap.size) (hx2.x_alloc e3) (Blk.of_new e3) (hx2).size (size_lt_alloc e3) (Privq.cons hg1 hl1 Privq.nil)
  refine h.mono fun ee14 ww15 h => ?_
  obtain ⟨Writer6, Index7, Prev8, AtT9, AtW10, Epoch11, Body12a, Body12n, Body12c, Sig13, he, hk, h⟩ := h
  refine ⟨Writer6, Index7, Prev8, AtT9, AtW10, Epoch11, Body12a, Body12n, Body12c, Sig13, he, ?_⟩
  have hb1 := hk.blk hb1 (by simp)
  refine thenW_in fun ww16 e16 => ?_
  have hb2 := Blk.of_new e16
  have hg2 := ((Ext.refl no ww15)).size
  have hb1_2 := Nat.ne_of_lt hb1.lt
  have hb1 := hb1.x_alloc e16
  have hx16 := (Ext.refl no ww15).x_alloc e16
  refine ⟨hb2.cani 0 rfl rfl, thenW_in fun ww17 e17 => ?_⟩
  have hx17 := hx16.x_set (q := ww15.heap.size) (i := 0) rfl (.inr hg2) e17
  have hb1 := hb1.oth (q := ww15.heap.size) (i := 0) rfl hb1_2 e17
  have hb2 := hb2.seti 0 rfl e17
  refine ⟨hb2.cani 1 rfl rfl, thenW_in fun ww18 e18 => ?_⟩
  have hx18 := hx17.x_set (q := ww15.heap.size) (i := 1) rfl (.inr hg2) e18
  have hb1 := hb1.oth (q := ww15.heap.size) (i := 1) rfl hb1_2 e18
  have hb2 := hb2.seti 1 rfl e18
  refine ⟨hb2.cani 2 rfl rfl, thenW_in fun ww19 e19 => ?_⟩
  have hx19 := hx18.x_set (q := ww15.heap.size) (i := 2) rfl (.inr hg2) e19
  have hb1 := hb1.oth (q := ww15.heap.size) (i := 2) rfl hb1_2 e19
  have hb2 := hb2.seti 2 rfl e19
  refine ⟨hb2.cani 3 rfl rfl, thenW_in fun ww20 e20 => ?_⟩
  have hx20 := hx19.x_set (q := ww15.heap.size) (i := 3) rfl (.inr hg2) e20
  have hb1 := hb1.oth (q := ww15.heap.size) (i := 3) rfl hb1_2 e20
  have hb2 := hb2.seti 3 rfl e20
  refine ⟨hb2.cani 4 rfl rfl, thenW_in fun ww21 e21 => ?_⟩
  have hx21 := hx20.x_set (q := ww15.heap.size) (i := 4) rfl (.inr hg2) e21
  have hb1 := hb1.oth (q := ww15.heap.size) (i := 4) rfl hb1_2 e21
  have hb2 := hb2.seti 4 rfl e21
  refine ⟨hb2.cani 5 rfl rfl, thenW_in fun ww22 e22 => ?_⟩
  have hx22 := hx21.x_set (q := ww15.heap.size) (i := 5) rfl (.inr hg2) e22
  have hb1 := hb1.oth (q := ww15.heap.size) (i := 5) rfl hb1_2 e22
  have hb2 := hb2.seti 5 rfl e22
  refine ⟨hb2.cani 6 rfl rfl, thenW_in fun ww23 e23 => ?_⟩
  have hx23 := hx22.x_set (q := ww15.heap.size) (i := 6) rfl (.inr hg2) e23
  have hb1 := hb1.oth (q := ww15.heap.size) (i := 6) rfl hb1_2 e23
  have hb2 := hb2.seti 6 rfl e23
  refine ⟨hb2.cani 7 rfl rfl, thenW_in fun ww24 e24 => ?_⟩
  have hx24 := hx23.x_set (q := ww15.heap.size) (i := 7) rfl (.inr hg2) e24
  have hb1 := hb1.oth (q := ww15.heap.size) (i := 7) rfl hb1_2 e24
  have hb2 := hb2.seti 7 rfl e24
  have h := h ww24 (ww15.heap.size) hx24 (Priv.cons hg2 hb2.lt Priv.nil)
  refine h.mono fun ee27 ww28 h => ?_
  obtain ⟨done26, he, hk, h⟩ := h
  refine ⟨done26, he, ?_⟩
  have hb1 := hk.blk hb1 (by simp)
  have hb2 := hk.blk hb2 (by simp)
  refine bif_of (fun c29 => ?_) (fun c29 => ?_)
  · have h := h.1 (bne_t c29)
    have hm37 : Ext (fun b => b = w.heap.size) ww28 ww28 := ((Ext.refl no ww28)).none
    refine ⟨hb1.cani 0 rfl rfl, thenW_in fun ww30 e30 => ?_⟩
    have hx30 := hm37.x_set (q := w.heap.size) (i := 0) rfl (.inl rfl) e30
    have hb1 := hb1.seti 0 rfl e30
    refine ⟨hb1.cani 1 rfl rfl, thenW_in fun ww31 e31 => ?_⟩
    have hx31 := hx30.x_set (q := w.heap.size) (i := 1) rfl (.inl rfl) e31
    have hb1 := hb1.seti 1 rfl e31
    refine ⟨hb1.cani 2 rfl rfl, thenW_in fun ww32 e32 => ?_⟩
    have hx32 := hx31.x_set (q := w.heap.size) (i := 2) rfl (.inl rfl) e32
    have hb1 := hb1.seti 2 rfl e32
    refine ⟨hb1.cani 3 rfl rfl, thenW_in fun ww33 e33 => ?_⟩
    have hx33 := hx32.x_set (q := w.heap.size) (i := 3) rfl (.inl rfl) e33
    have hb1 := hb1.seti 3 rfl e33
    refine ⟨hb1.cani 4 rfl rfl, thenW_in fun ww34 e34 => ?_⟩
    have hx34 := hx33.x_set (q := w.heap.size) (i := 4) rfl (.inl rfl) e34
    have hb1 := hb1.seti 4 rfl e34
    refine ⟨hb1.cani 5 rfl rfl, thenW_in fun ww35 e35 => ?_⟩
    have hx35 := hx34.x_set (q := w.heap.size) (i := 5) rfl (.inl rfl) e35
    have hb1 := hb1.seti 5 rfl e35
    refine ⟨hb1.cani 6 rfl rfl, thenW_in fun ww36 e36 => ?_⟩
    have hx36 := hx35.x_set (q := w.heap.size) (i := 6) rfl (.inl rfl) e36
    have hb1 := hb1.seti 6 rfl e36
    refine ⟨hb1.cani 7 rfl rfl, thenW_in fun ww37 e37 => ?_⟩
    have hx37 := hx36.x_set (q := w.heap.size) (i := 7) rfl (.inl rfl) e37
    have hb1 := hb1.seti 7 rfl e37
    refine ⟨0, 0, 0, 0, 0, 0, none, 0, 0, 0, ⟨hb1.celli 0 rfl rfl, hb1.celli 1 rfl rfl, hb1.celli 2 rfl rfl, hb1.celli 3 rfl rfl, hb1.celli 4 rfl rfl, hb1.celli 5 rfl rfl, hb1.celli 6 rfl rfl, hb1.celli 7 rfl rfl, trivial⟩, ?_⟩
    have h := h ww37 hx37
    exact h
  · have h := h.2 (bne_f c29)
    refine ⟨Writer6, Index7, Prev8, AtT9, AtW10, Epoch11, Body12a, Body12n, Body12c, Sig13, ⟨hb2.celli 0 rfl rfl, hb2.celli 1 rfl rfl, hb2.celli 2 rfl rfl, hb2.celli 3 rfl rfl, hb2.celli 4 rfl rfl, hb2.celli 5 rfl rfl, hb2.celli 6 rfl rfl, hb2.celli 7 rfl rfl, trivial⟩, ?_⟩
    refine (cachetteref06_Right.pure Writer6 Index7 Prev8 AtT9 AtW10 Epoch11 Body12a Body12n Body12c Sig13).mono fun ee ww38 ⟨he, hxx⟩ => ⟨(cachetteref06_Right.F Writer6 Index7 Prev8 AtT9 AtW10 Epoch11 Body12a Body12n Body12c Sig13), he, ?_⟩
    have hx38 := (Ext.refl no ww28).trans hxx
    have hb1 := hb1.ext hxx id
    have hb2 := hb2.ext hxx id
    refine bif_of (fun c39 => ?_) (fun c39 => ?_)
    · have h := h.1 (not_t c39)
      have hm47 : Ext (fun b => b = w.heap.size) ww28 ww38 := (hx38).none
      refine ⟨hb1.cani 0 rfl rfl, thenW_in fun ww40 e40 => ?_⟩
      have hx40 := hm47.x_set (q := w.heap.size) (i := 0) rfl (.inl rfl) e40
      have hb1 := hb1.seti 0 rfl e40
      refine ⟨hb1.cani 1 rfl rfl, thenW_in fun ww41 e41 => ?_⟩
      have hx41 := hx40.x_set (q := w.heap.size) (i := 1) rfl (.inl rfl) e41
      have hb1 := hb1.seti 1 rfl e41
      refine ⟨hb1.cani 2 rfl rfl, thenW_in fun ww42 e42 => ?_⟩
      have hx42 := hx41.x_set (q := w.heap.size) (i := 2) rfl (.inl rfl) e42
      have hb1 := hb1.seti 2 rfl e42
      refine ⟨hb1.cani 3 rfl rfl, thenW_in fun ww43 e43 => ?_⟩
      have hx43 := hx42.x_set (q := w.heap.size) (i := 3) rfl (.inl rfl) e43
      have hb1 := hb1.seti 3 rfl e43
      refine ⟨hb1.cani 4 rfl rfl, thenW_in fun ww44 e44 => ?_⟩
      have hx44 := hx43.x_set (q := w.heap.size) (i := 4) rfl (.inl rfl) e44
      have hb1 := hb1.seti 4 rfl e44
      refine ⟨hb1.cani 5 rfl rfl, thenW_in fun ww45 e45 => ?_⟩
      have hx45 := hx44.x_set (q := w.heap.size) (i := 5) rfl (.inl rfl) e45
      have hb1 := hb1.seti 5 rfl e45
      refine ⟨hb1.cani 6 rfl rfl, thenW_in fun ww46 e46 => ?_⟩
      have hx46 := hx45.x_set (q := w.heap.size) (i := 6) rfl (.inl rfl) e46
      have hb1 := hb1.seti 6 rfl e46
      refine ⟨hb1.cani 7 rfl rfl, thenW_in fun ww47 e47 => ?_⟩
      have hx47 := hx46.x_set (q := w.heap.size) (i := 7) rfl (.inl rfl) e47
      have hb1 := hb1.seti 7 rfl e47
      refine ⟨0, 0, 0, 0, 0, 0, none, 0, 0, 0, ⟨hb1.celli 0 rfl rfl, hb1.celli 1 rfl rfl, hb1.celli 2 rfl rfl, hb1.celli 3 rfl rfl, hb1.celli 4 rfl rfl, hb1.celli 5 rfl rfl, hb1.celli 6 rfl rfl, hb1.celli 7 rfl rfl, trivial⟩, ?_⟩
      have h := h ww47 hx47
      exact h
    · have h := h.2 (not_f c39)
      refine ⟨Writer6, Index7, Prev8, AtT9, AtW10, Epoch11, Body12a, Body12n, Body12c, Sig13, ⟨hb2.celli 0 rfl rfl, hb2.celli 1 rfl rfl, hb2.celli 2 rfl rfl, hb2.celli 3 rfl rfl, hb2.celli 4 rfl rfl, hb2.celli 5 rfl rfl, hb2.celli 6 rfl rfl, hb2.celli 7 rfl rfl, trivial⟩, ?_⟩
      have hm55 : Ext (fun b => b = w.heap.size) ww28 ww38 := (hx38).none
      refine ⟨hb1.cani 0 rfl rfl, thenW_in fun ww48 e48 => ?_⟩
      have hx48 := hm55.x_set (q := w.heap.size) (i := 0) rfl (.inl rfl) e48
      have hb1 := hb1.seti 0 rfl e48
      refine ⟨hb1.cani 1 rfl rfl, thenW_in fun ww49 e49 => ?_⟩
      have hx49 := hx48.x_set (q := w.heap.size) (i := 1) rfl (.inl rfl) e49
      have hb1 := hb1.seti 1 rfl e49
      refine ⟨hb1.cani 2 rfl rfl, thenW_in fun ww50 e50 => ?_⟩
      have hx50 := hx49.x_set (q := w.heap.size) (i := 2) rfl (.inl rfl) e50
      have hb1 := hb1.seti 2 rfl e50
      refine ⟨hb1.cani 3 rfl rfl, thenW_in fun ww51 e51 => ?_⟩
      have hx51 := hx50.x_set (q := w.heap.size) (i := 3) rfl (.inl rfl) e51
      have hb1 := hb1.seti 3 rfl e51
      refine ⟨hb1.cani 4 rfl rfl, thenW_in fun ww52 e52 => ?_⟩
      have hx52 := hx51.x_set (q := w.heap.size) (i := 4) rfl (.inl rfl) e52
      have hb1 := hb1.seti 4 rfl e52
      refine ⟨hb1.cani 5 rfl rfl, thenW_in fun ww53 e53 => ?_⟩
      have hx53 := hx52.x_set (q := w.heap.size) (i := 5) rfl (.inl rfl) e53
      have hb1 := hb1.seti 5 rfl e53
      refine ⟨hb1.cani 6 rfl rfl, thenW_in fun ww54 e54 => ?_⟩
      have hx54 := hx53.x_set (q := w.heap.size) (i := 6) rfl (.inl rfl) e54
      have hb1 := hb1.seti 6 rfl e54
      refine ⟨hb1.cani 7 rfl rfl, thenW_in fun ww55 e55 => ?_⟩
      have hx55 := hx54.x_set (q := w.heap.size) (i := 7) rfl (.inl rfl) e55
      have hb1 := hb1.seti 7 rfl e55
      refine ⟨Writer6, Index7, Prev8, AtT9, AtW10, Epoch11, Body12a, Body12n, Body12c, Sig13, ⟨hb1.celli 0 rfl rfl, hb1.celli 1 rfl rfl, hb1.celli 2 rfl rfl, hb1.celli 3 rfl rfl, hb1.celli 4 rfl rfl, hb1.celli 5 rfl rfl, hb1.celli 6 rfl rfl, hb1.celli 7 rfl rfl, trivial⟩, ?_⟩
      have h := h ww55 hx55
      exact h

theorem cachetteref06_Read.go (b1a : Option Addr) (b1n : Nat) (b1c : Nat) {R : Value → World → Prop} {w : World} (h : cachetteref06_Read.N b1a b1n b1c R w) : Calls Try.prog 18 #[.slice b1a b1n b1c] w fun e w' => ∃ v, e = .returned v ∧ R v w' := cachetteref06_Read.ok b1a b1n b1c (cachetteref06_Read.up b1a b1n b1c h)
theorem cachetteref06_Read.run (b1a : Option Addr) (b1n : Nat) (b1c : Nat) {V : Value} {Q : World → Prop} {w : World} (h : cachetteref06_Read.N b1a b1n b1c (fun v w' => v = V ∧ Q w') w) : Calls Try.prog 18 #[.slice b1a b1n b1c] w (Ret V Q) := (cachetteref06_Read.go b1a b1n b1c h).mono fun e w' ⟨v, he, hv, hq⟩ => ⟨by rw [he, hv], hq⟩

/-- cachetteref06.Bound -/
def cachetteref06_Bound.M (writer1 : Int) (indexv2 : Int) (epoch3 : Int) (R : Value → World → Prop) (w : World) : Prop :=
  Calls Try.prog 44 #[.int .u64 (IntKind.u64.wrap (if (0 : Int) > writer1 then 0 else writer1))] w fun ee5 ww6 => ∃ (num4a : Option Addr) (num4n : Nat) (num4c : Nat), ee5 = .returned (.slice num4a num4n num4c) ∧
  Calls Try.prog 44 #[.int .u64 (IntKind.u64.wrap (if (0 : Int) > indexv2 then 0 else indexv2))] ww6 fun ee8 ww9 => ∃ (num7a : Option Addr) (num7n : Nat) (num7c : Nat), ee8 = .returned (.slice num7a num7n num7c) ∧
  ∃ (a10a : Option Addr) (a10n : Nat) (a10c : Nat) (ww11 : World), (Builtin.append_ #[25, 25] 25 #[.slice num4a num4n num4c, .slice num7a num7n num7c]).run Try.prog ww9 = .ok (.slice a10a a10n a10c) ww11 ∧
  Calls Try.prog 46 #[.int .i64 epoch3] ww11 fun ee13 ww14 => ∃ (int12a : Option Addr) (int12n : Nat) (int12c : Nat), ee13 = .returned (.slice int12a int12n int12c) ∧
  ∃ (a15a : Option Addr) (a15n : Nat) (a15c : Nat) (ww16 : World), (Builtin.append_ #[25, 25] 25 #[.slice a10a a10n a10c, .slice int12a int12n int12c]).run Try.prog ww14 = .ok (.slice a15a a15n a15c) ww16 ∧
  R (.slice a15a a15n a15c) ww16

theorem cachetteref06_Bound.eq (writer1 : Int) (indexv2 : Int) (epoch3 : Int) (R : Value → World → Prop) (w : World) : mfunc Try.prog [] 22 [.int .i64 writer1, .int .i64 indexv2, .int .i64 epoch3] R w = cachetteref06_Bound.M writer1 indexv2 epoch3 R w := by kernel_rfl
theorem cachetteref06_Bound.ok (writer1 : Int) (indexv2 : Int) (epoch3 : Int) {R : Value → World → Prop} {w : World} (h : cachetteref06_Bound.M writer1 indexv2 epoch3 R w) : Calls Try.prog 22 #[.int .i64 writer1, .int .i64 indexv2, .int .i64 epoch3] w fun e w' => ∃ v, e = .returned v ∧ R v w' :=
  mfunc_ok follows (H := []) (args := [.int .i64 writer1, .int .i64 indexv2, .int .i64 epoch3]) (by rw [cachetteref06_Bound.eq]; exact h)

def cachetteref06_Bound.N (writer1 : Int) (indexv2 : Int) (epoch3 : Int) (R : Value → World → Prop) (w : World) : Prop :=
  Calls Try.prog 44 #[.int .u64 (IntKind.u64.wrap (if (0 : Int) > writer1 then 0 else writer1))] w fun ee5 ww6 => ∃ (num4a : Option Addr) (num4n : Nat) (num4c : Nat), ee5 = .returned (.slice num4a num4n num4c) ∧
  Calls Try.prog 44 #[.int .u64 (IntKind.u64.wrap (if (0 : Int) > indexv2 then 0 else indexv2))] ww6 fun ee8 ww9 => ∃ (num7a : Option Addr) (num7n : Nat) (num7c : Nat), ee8 = .returned (.slice num7a num7n num7c) ∧
  ∃ (a10a : Option Addr) (a10n : Nat) (a10c : Nat) (ww11 : World), (Builtin.append_ #[25, 25] 25 #[.slice num4a num4n num4c, .slice num7a num7n num7c]).run Try.prog ww9 = .ok (.slice a10a a10n a10c) ww11 ∧
  Calls Try.prog 46 #[.int .i64 epoch3] ww11 fun ee13 ww14 => ∃ (int12a : Option Addr) (int12n : Nat) (int12c : Nat), ee13 = .returned (.slice int12a int12n int12c) ∧
  ∃ (a15a : Option Addr) (a15n : Nat) (a15c : Nat) (ww16 : World), (Builtin.append_ #[25, 25] 25 #[.slice a10a a10n a10c, .slice int12a int12n int12c]).run Try.prog ww14 = .ok (.slice a15a a15n a15c) ww16 ∧
  R (.slice a15a a15n a15c) ww16

theorem cachetteref06_Bound.up (writer1 : Int) (indexv2 : Int) (epoch3 : Int) {R : Value → World → Prop} {w : World} (h : cachetteref06_Bound.N writer1 indexv2 epoch3 R w) : cachetteref06_Bound.M writer1 indexv2 epoch3 R w := by
  unfold cachetteref06_Bound.M
  unfold cachetteref06_Bound.N at h
  refine h.mono fun ee5 ww6 h => ?_
  obtain ⟨num4a, num4n, num4c, he, h⟩ := h
  refine ⟨num4a, num4n, num4c, he, ?_⟩
  refine h.mono fun ee8 ww9 h => ?_
  obtain ⟨num7a, num7n, num7c, he, h⟩ := h
  refine ⟨num7a, num7n, num7c, he, ?_⟩
  obtain ⟨a10a, a10n, a10c, ww11, hr, h⟩ := h
  refine ⟨a10a, a10n, a10c, ww11, hr, ?_⟩
  refine h.mono fun ee13 ww14 h => ?_
  obtain ⟨int12a, int12n, int12c, he, h⟩ := h
  refine ⟨int12a, int12n, int12c, he, ?_⟩
  obtain ⟨a15a, a15n, a15c, ww16, hr, h⟩ := h
  refine ⟨a15a, a15n, a15c, ww16, hr, ?_⟩
  exact h

theorem cachetteref06_Bound.go (writer1 : Int) (indexv2 : Int) (epoch3 : Int) {R : Value → World → Prop} {w : World} (h : cachetteref06_Bound.N writer1 indexv2 epoch3 R w) : Calls Try.prog 22 #[.int .i64 writer1, .int .i64 indexv2, .int .i64 epoch3] w fun e w' => ∃ v, e = .returned v ∧ R v w' := cachetteref06_Bound.ok writer1 indexv2 epoch3 (cachetteref06_Bound.up writer1 indexv2 epoch3 h)
theorem cachetteref06_Bound.run (writer1 : Int) (indexv2 : Int) (epoch3 : Int) {V : Value} {Q : World → Prop} {w : World} (h : cachetteref06_Bound.N writer1 indexv2 epoch3 (fun v w' => v = V ∧ Q w') w) : Calls Try.prog 22 #[.int .i64 writer1, .int .i64 indexv2, .int .i64 epoch3] w (Ret V Q) := (cachetteref06_Bound.go writer1 indexv2 epoch3 h).mono fun e w' ⟨v, he, hv, hq⟩ => ⟨by rw [he, hv], hq⟩

/-- cachetteref06.Same -/
def cachetteref06_Same.M (aWriter1 : Int) (aIndex2 : Int) (aPrev3 : Int) (aAtT4 : Int) (aAtW5 : Int) (aEpoch6 : Int) (aBody7a : Option Addr) (aBody7n : Nat) (aBody7c : Nat) (aSig8 : Int) (bWriter9 : Int) (bIndex10 : Int) (bPrev11 : Int) (bAtT12 : Int) (bAtW13 : Int) (bEpoch14 : Int) (bBody15a : Option Addr) (bBody15n : Nat) (bBody15c : Nat) (bSig16 : Int) (R : Value → World → Prop) (w : World) : Prop :=
  thenW (w.alloc (.cells #[.int .i64 aWriter1, .int .i64 aIndex2, .int .u64 aPrev3, .int .i64 aAtT4, .int .i64 aAtW5, .int .i64 aEpoch6, .slice aBody7a aBody7n aBody7c, .int .u64 aSig8] 27)) fun ww17 =>
  thenW (ww17.alloc (.cells #[.int .i64 bWriter9, .int .i64 bIndex10, .int .u64 bPrev11, .int .i64 bAtT12, .int .i64 bAtW13, .int .i64 bEpoch14, .slice bBody15a bBody15n bBody15c, .int .u64 bSig16] 27)) fun ww18 =>
  ∃ (Writer19 : Int), ww18.cell? ((blk w.heap.size).add 0) = some (.int .i64 Writer19) ∧
  ∃ (Writer20 : Int), ww18.cell? ((blk ww17.heap.size).add 0) = some (.int .i64 Writer20) ∧
  bif Writer19 == Writer20 then (
  ∃ (Index21 : Int), ww18.cell? ((blk w.heap.size).add 1) = some (.int .i64 Index21) ∧
  ∃ (Index22 : Int), ww18.cell? ((blk ww17.heap.size).add 1) = some (.int .i64 Index22) ∧
  bif Index21 == Index22 then (
  ∃ (Prev23 : Int), ww18.cell? ((blk w.heap.size).add 2) = some (.int .u64 Prev23) ∧
  ∃ (Prev24 : Int), ww18.cell? ((blk ww17.heap.size).add 2) = some (.int .u64 Prev24) ∧
  bif Prev23 == Prev24 then (
  ∃ (AtT25 : Int) (AtW26 : Int), cellsAt ww18 ((blk w.heap.size).add 3) [.int .i64 AtT25, .int .i64 AtW26] 0 ∧
  ∃ (AtT27 : Int) (AtW28 : Int), cellsAt ww18 ((blk ww17.heap.size).add 3) [.int .i64 AtT27, .int .i64 AtW28] 0 ∧
  ∃ (b29 : Bool), (binOp .eql 24 (.agg #[.int .i64 AtT25, .int .i64 AtW26]) (.agg #[.int .i64 AtT27, .int .i64 AtW28])).run Try.prog ww18 = .ok (.bool b29) ww18 ∧
  bif b29 then (
  ∃ (Epoch30 : Int), ww18.cell? ((blk w.heap.size).add 5) = some (.int .i64 Epoch30) ∧
  ∃ (Epoch31 : Int), ww18.cell? ((blk ww17.heap.size).add 5) = some (.int .i64 Epoch31) ∧
  bif Epoch30 == Epoch31 then (
  ∃ (Sig32 : Int), ww18.cell? ((blk w.heap.size).add 7) = some (.int .u64 Sig32) ∧
  ∃ (Sig33 : Int), ww18.cell? ((blk ww17.heap.size).add 7) = some (.int .u64 Sig33) ∧
  bif Sig32 == Sig33 then (
  ∃ (Body34a : Option Addr) (Body34n : Nat) (Body34c : Nat), ww18.cell? ((blk w.heap.size).add 6) = some (.slice Body34a Body34n Body34c) ∧
  ∃ (Body35a : Option Addr) (Body35n : Nat) (Body35c : Nat), ww18.cell? ((blk ww17.heap.size).add 6) = some (.slice Body35a Body35n Body35c) ∧
  Calls Try.prog 14 #[.slice Body34a Body34n Body34c, .slice Body35a Body35n Body35c] ww18 fun ee37 ww38 => ∃ (same36 : Bool), ee37 = .returned (.bool same36) ∧
  R (.bool same36) ww38) else (
  R (.bool false) ww18)) else (
  R (.bool false) ww18)) else (
  R (.bool false) ww18)) else (
  R (.bool false) ww18)) else (
  R (.bool false) ww18)) else (
  R (.bool false) ww18)

theorem cachetteref06_Same.eq (aWriter1 : Int) (aIndex2 : Int) (aPrev3 : Int) (aAtT4 : Int) (aAtW5 : Int) (aEpoch6 : Int) (aBody7a : Option Addr) (aBody7n : Nat) (aBody7c : Nat) (aSig8 : Int) (bWriter9 : Int) (bIndex10 : Int) (bPrev11 : Int) (bAtT12 : Int) (bAtW13 : Int) (bEpoch14 : Int) (bBody15a : Option Addr) (bBody15n : Nat) (bBody15c : Nat) (bSig16 : Int) (R : Value → World → Prop) (w : World) : mfunc Try.prog [] 20 [.agg #[.int .i64 aWriter1, .int .i64 aIndex2, .int .u64 aPrev3, .int .i64 aAtT4, .int .i64 aAtW5, .int .i64 aEpoch6, .slice aBody7a aBody7n aBody7c, .int .u64 aSig8], .agg #[.int .i64 bWriter9, .int .i64 bIndex10, .int .u64 bPrev11, .int .i64 bAtT12, .int .i64 bAtW13, .int .i64 bEpoch14, .slice bBody15a bBody15n bBody15c, .int .u64 bSig16]] R w = cachetteref06_Same.M aWriter1 aIndex2 aPrev3 aAtT4 aAtW5 aEpoch6 aBody7a aBody7n aBody7c aSig8 bWriter9 bIndex10 bPrev11 bAtT12 bAtW13 bEpoch14 bBody15a bBody15n bBody15c bSig16 R w := by kernel_rfl
theorem cachetteref06_Same.ok (aWriter1 : Int) (aIndex2 : Int) (aPrev3 : Int) (aAtT4 : Int) (aAtW5 : Int) (aEpoch6 : Int) (aBody7a : Option Addr) (aBody7n : Nat) (aBody7c : Nat) (aSig8 : Int) (bWriter9 : Int) (bIndex10 : Int) (bPrev11 : Int) (bAtT12 : Int) (bAtW13 : Int) (bEpoch14 : Int) (bBody15a : Option Addr) (bBody15n : Nat) (bBody15c : Nat) (bSig16 : Int) {R : Value → World → Prop} {w : World} (h : cachetteref06_Same.M aWriter1 aIndex2 aPrev3 aAtT4 aAtW5 aEpoch6 aBody7a aBody7n aBody7c aSig8 bWriter9 bIndex10 bPrev11 bAtT12 bAtW13 bEpoch14 bBody15a bBody15n bBody15c bSig16 R w) : Calls Try.prog 20 #[.agg #[.int .i64 aWriter1, .int .i64 aIndex2, .int .u64 aPrev3, .int .i64 aAtT4, .int .i64 aAtW5, .int .i64 aEpoch6, .slice aBody7a aBody7n aBody7c, .int .u64 aSig8], .agg #[.int .i64 bWriter9, .int .i64 bIndex10, .int .u64 bPrev11, .int .i64 bAtT12, .int .i64 bAtW13, .int .i64 bEpoch14, .slice bBody15a bBody15n bBody15c, .int .u64 bSig16]] w fun e w' => ∃ v, e = .returned v ∧ R v w' :=
  mfunc_ok follows (H := []) (args := [.agg #[.int .i64 aWriter1, .int .i64 aIndex2, .int .u64 aPrev3, .int .i64 aAtT4, .int .i64 aAtW5, .int .i64 aEpoch6, .slice aBody7a aBody7n aBody7c, .int .u64 aSig8], .agg #[.int .i64 bWriter9, .int .i64 bIndex10, .int .u64 bPrev11, .int .i64 bAtT12, .int .i64 bAtW13, .int .i64 bEpoch14, .slice bBody15a bBody15n bBody15c, .int .u64 bSig16]]) (by rw [cachetteref06_Same.eq]; exact h)

def cachetteref06_Same.N (aWriter1 : Int) (aIndex2 : Int) (aPrev3 : Int) (aAtT4 : Int) (aAtW5 : Int) (aEpoch6 : Int) (aBody7a : Option Addr) (aBody7n : Nat) (aBody7c : Nat) (aSig8 : Int) (bWriter9 : Int) (bIndex10 : Int) (bPrev11 : Int) (bAtT12 : Int) (bAtW13 : Int) (bEpoch14 : Int) (bBody15a : Option Addr) (bBody15n : Nat) (bBody15c : Nat) (bSig16 : Int) (R : Value → World → Prop) (w : World) : Prop :=
  (aWriter1 = bWriter9 →
    (aIndex2 = bIndex10 →
      (aPrev3 = bPrev11 →
        (aAtT4 = bAtT12 ∧ aAtW5 = bAtW13 →
          (aEpoch6 = bEpoch14 →
            (aSig8 = bSig16 →
              ∀ (ww18 : World), Ext no w ww18 →
              Calls Try.prog 14 #[.slice aBody7a aBody7n aBody7c, .slice bBody15a bBody15n bBody15c] ww18 fun ee28 ww29 => ∃ (same27 : Bool), ee28 = .returned (.bool same27) ∧
              R (.bool same27) ww29) ∧
            (aSig8 ≠ bSig16 →
              ∀ (ww18 : World), Ext no w ww18 →
              R (.bool false) ww18)) ∧
          (aEpoch6 ≠ bEpoch14 →
            ∀ (ww18 : World), Ext no w ww18 →
            R (.bool false) ww18)) ∧
        (¬ (aAtT4 = bAtT12 ∧ aAtW5 = bAtW13) →
          ∀ (ww18 : World), Ext no w ww18 →
          R (.bool false) ww18)) ∧
      (aPrev3 ≠ bPrev11 →
        ∀ (ww18 : World), Ext no w ww18 →
        R (.bool false) ww18)) ∧
    (aIndex2 ≠ bIndex10 →
      ∀ (ww18 : World), Ext no w ww18 →
      R (.bool false) ww18)) ∧
  (aWriter1 ≠ bWriter9 →
    ∀ (ww18 : World), Ext no w ww18 →
    R (.bool false) ww18)

theorem cachetteref06_Same.up (aWriter1 : Int) (aIndex2 : Int) (aPrev3 : Int) (aAtT4 : Int) (aAtW5 : Int) (aEpoch6 : Int) (aBody7a : Option Addr) (aBody7n : Nat) (aBody7c : Nat) (aSig8 : Int) (bWriter9 : Int) (bIndex10 : Int) (bPrev11 : Int) (bAtT12 : Int) (bAtW13 : Int) (bEpoch14 : Int) (bBody15a : Option Addr) (bBody15n : Nat) (bBody15c : Nat) (bSig16 : Int) {R : Value → World → Prop} {w : World} (h : cachetteref06_Same.N aWriter1 aIndex2 aPrev3 aAtT4 aAtW5 aEpoch6 aBody7a aBody7n aBody7c aSig8 bWriter9 bIndex10 bPrev11 bAtT12 bAtW13 bEpoch14 bBody15a bBody15n bBody15c bSig16 R w) : cachetteref06_Same.M aWriter1 aIndex2 aPrev3 aAtT4 aAtW5 aEpoch6 aBody7a aBody7n aBody7c aSig8 bWriter9 bIndex10 bPrev11 bAtT12 bAtW13 bEpoch14 bBody15a bBody15n bBody15c bSig16 R w := by
  unfold cachetteref06_Same.M
  unfold cachetteref06_Same.N at h
  refine thenW_in fun ww17 e17 => ?_
  have hb1 := Blk.of_new e17
  have hg1 := ((Ext.refl no w)).size
  have hx17 := (Ext.refl no w).x_alloc e17
  refine thenW_in fun ww18 e18 => ?_
  have hb2 := Blk.of_new e18
  have hg2 := (hx17).size
  have hb1_2 := Nat.ne_of_lt hb1.lt
  have hb1 := hb1.x_alloc e18
  have hx18 := hx17.x_alloc e18
  refine ⟨aWriter1, hb1.celli 0 rfl rfl, ?_⟩
  refine ⟨bWriter9, hb2.celli 0 rfl rfl, ?_⟩
  refine bif_of (fun c19 => ?_) (fun c19 => ?_)
  · have h := h.1 (beq_t c19)
    refine ⟨aIndex2, hb1.celli 1 rfl rfl, ?_⟩
    refine ⟨bIndex10, hb2.celli 1 rfl rfl, ?_⟩
    refine bif_of (fun c20 => ?_) (fun c20 => ?_)
    · have h := h.1 (beq_t c20)
      refine ⟨aPrev3, hb1.celli 2 rfl rfl, ?_⟩
      refine ⟨bPrev11, hb2.celli 2 rfl rfl, ?_⟩
      refine bif_of (fun c21 => ?_) (fun c21 => ?_)
      · have h := h.1 (beq_t c21)
        refine ⟨aAtT4, aAtW5, ⟨hb1.celli 3 rfl rfl, hb1.celli 4 rfl rfl, trivial⟩, ?_⟩
        refine ⟨bAtT12, bAtW13, ⟨hb2.celli 3 rfl rfl, hb2.celli 4 rfl rfl, trivial⟩, ?_⟩
        refine ⟨_, eqT24_eq aAtT4 aAtW5 bAtT12 bAtW13 _, ?_⟩
        refine bif_of (fun c22 => ?_) (fun c22 => ?_)
        · have h := h.1 (of_decide_eq_true c22)
          refine ⟨aEpoch6, hb1.celli 5 rfl rfl, ?_⟩
          refine ⟨bEpoch14, hb2.celli 5 rfl rfl, ?_⟩
          refine bif_of (fun c23 => ?_) (fun c23 => ?_)
          · have h := h.1 (beq_t c23)
            refine ⟨aSig8, hb1.celli 7 rfl rfl, ?_⟩
            refine ⟨bSig16, hb2.celli 7 rfl rfl, ?_⟩
            refine bif_of (fun c24 => ?_) (fun c24 => ?_)
            · have h := h.1 (beq_t c24)
              refine ⟨aBody7a, aBody7n, aBody7c, hb1.celli 6 rfl rfl, ?_⟩
              refine ⟨bBody15a, bBody15n, bBody15c, hb2.celli 6 rfl rfl, ?_⟩
              have h := h ww18 hx18
              refine h.mono fun ee28 ww29 h => ?_
              obtain ⟨same27, he, h⟩ := h
              refine ⟨same27, he, ?_⟩
              exact h
            · have h := h.2 (beq_f c24)
              have h := h ww18 hx18
              exact h
          · have h := h.2 (beq_f c23)
            have h := h ww18 hx18
            exact h
        · have h := h.2 (of_decide_eq_false c22)
          have h := h ww18 hx18
          exact h
      · have h := h.2 (beq_f c21)
        have h := h ww18 hx18
        exact h
    · have h := h.2 (beq_f c20)
      have h := h ww18 hx18
      exact h
  · have h := h.2 (beq_f c19)
    have h := h ww18 hx18
    exact h

theorem cachetteref06_Same.go (aWriter1 : Int) (aIndex2 : Int) (aPrev3 : Int) (aAtT4 : Int) (aAtW5 : Int) (aEpoch6 : Int) (aBody7a : Option Addr) (aBody7n : Nat) (aBody7c : Nat) (aSig8 : Int) (bWriter9 : Int) (bIndex10 : Int) (bPrev11 : Int) (bAtT12 : Int) (bAtW13 : Int) (bEpoch14 : Int) (bBody15a : Option Addr) (bBody15n : Nat) (bBody15c : Nat) (bSig16 : Int) {R : Value → World → Prop} {w : World} (h : cachetteref06_Same.N aWriter1 aIndex2 aPrev3 aAtT4 aAtW5 aEpoch6 aBody7a aBody7n aBody7c aSig8 bWriter9 bIndex10 bPrev11 bAtT12 bAtW13 bEpoch14 bBody15a bBody15n bBody15c bSig16 R w) : Calls Try.prog 20 #[.agg #[.int .i64 aWriter1, .int .i64 aIndex2, .int .u64 aPrev3, .int .i64 aAtT4, .int .i64 aAtW5, .int .i64 aEpoch6, .slice aBody7a aBody7n aBody7c, .int .u64 aSig8], .agg #[.int .i64 bWriter9, .int .i64 bIndex10, .int .u64 bPrev11, .int .i64 bAtT12, .int .i64 bAtW13, .int .i64 bEpoch14, .slice bBody15a bBody15n bBody15c, .int .u64 bSig16]] w fun e w' => ∃ v, e = .returned v ∧ R v w' := cachetteref06_Same.ok aWriter1 aIndex2 aPrev3 aAtT4 aAtW5 aEpoch6 aBody7a aBody7n aBody7c aSig8 bWriter9 bIndex10 bPrev11 bAtT12 bAtW13 bEpoch14 bBody15a bBody15n bBody15c bSig16 (cachetteref06_Same.up aWriter1 aIndex2 aPrev3 aAtT4 aAtW5 aEpoch6 aBody7a aBody7n aBody7c aSig8 bWriter9 bIndex10 bPrev11 bAtT12 bAtW13 bEpoch14 bBody15a bBody15n bBody15c bSig16 h)
theorem cachetteref06_Same.run (aWriter1 : Int) (aIndex2 : Int) (aPrev3 : Int) (aAtT4 : Int) (aAtW5 : Int) (aEpoch6 : Int) (aBody7a : Option Addr) (aBody7n : Nat) (aBody7c : Nat) (aSig8 : Int) (bWriter9 : Int) (bIndex10 : Int) (bPrev11 : Int) (bAtT12 : Int) (bAtW13 : Int) (bEpoch14 : Int) (bBody15a : Option Addr) (bBody15n : Nat) (bBody15c : Nat) (bSig16 : Int) {V : Value} {Q : World → Prop} {w : World} (h : cachetteref06_Same.N aWriter1 aIndex2 aPrev3 aAtT4 aAtW5 aEpoch6 aBody7a aBody7n aBody7c aSig8 bWriter9 bIndex10 bPrev11 bAtT12 bAtW13 bEpoch14 bBody15a bBody15n bBody15c bSig16 (fun v w' => v = V ∧ Q w') w) : Calls Try.prog 20 #[.agg #[.int .i64 aWriter1, .int .i64 aIndex2, .int .u64 aPrev3, .int .i64 aAtT4, .int .i64 aAtW5, .int .i64 aEpoch6, .slice aBody7a aBody7n aBody7c, .int .u64 aSig8], .agg #[.int .i64 bWriter9, .int .i64 bIndex10, .int .u64 bPrev11, .int .i64 bAtT12, .int .i64 bAtW13, .int .i64 bEpoch14, .slice bBody15a bBody15n bBody15c, .int .u64 bSig16]] w (Ret V Q) := (cachetteref06_Same.go aWriter1 aIndex2 aPrev3 aAtT4 aAtW5 aEpoch6 aBody7a aBody7n aBody7c aSig8 bWriter9 bIndex10 bPrev11 bAtT12 bAtW13 bEpoch14 bBody15a bBody15n bBody15c bSig16 h).mono fun e w' ⟨v, he, hv, hq⟩ => ⟨by rw [he, hv], hq⟩

section
variable {w w' : World} {a : Option Addr} {c N p : Nat} {bs : List UInt8} {k : Int}
theorem rPut_spec {t s : Int} (h0 : -9223372036854775808 ≤ t) (h1 : t < 9223372036854775808) (hs : s < 9223372036854775808) :
    Calls Try.prog 45 #[.agg #[.int .i64 t, .int .i64 s]] w (fun e w' => ∃ a' c', e = .returned (.slice a' (stampL t s).length c') ∧ OwnB w.heap.size w' a' c' (stampL t s) ∧ Ext no w w') := by
  refine (cachetteref04_Put.go _ _ (R := fun v w' => ∃ a' c', v = (.slice a' (stampL t s).length c') ∧ OwnB w.heap.size w' a' c' (stampL t s) ∧ Ext no w w') ?_).mono fun e w' ⟨v, he, a, c, hv, hw⟩ => ⟨a, c, by rw [he, hv], hw⟩
  unfold cachetteref04_Put.N
  intro w4 p5 X4 hp
  have hp := hp.one
  have e1 : IntKind.u64.wrap (if (0 : Int) > s then 0 else s) = ((s.toNat : Nat) : Int) := by split <;> rw [wu64 (by omega) (by omega)] <;> omega
  rw [e1]
  have g1 := W.numL_le (zig t); have g2 := W.numL_le s.toNat
  refine (rInt_spec h0 h1).mono fun e w8 ⟨a8, c8, he, hO, X8⟩ => ⟨a8, _, c8, he, X8.kept, ?_⟩
  refine (W.rNum_spec s.toNat w8 (by omega)).mono fun e w11 ⟨a11, c11, he, hO2, X11⟩ => ⟨a11, _, c11, he, ?_⟩
  obtain ⟨a', c', w13, hr, hB, Y, _, _⟩ := app (w0 := w) hO (X4.trans X8) X4.size X8.size X11 (xc := c11) hO2.row (by omega)
  exact ⟨a', _, c', w13, hr, a', c', rfl, OwnB.up hB X4.size, Y⟩
theorem rText_spec {e : Ent} (hf : entRight e = true → e.fit) {ba : Option Addr} {bc : Nat} (hb : RowAt w ba (bytesV e.body)) :
    Calls Try.prog 16 #[entV e ba bc] w (fun x w' => Ext no w w' ∧ ((entRight e = false ∧ x = .returned (.tuple #[.slice none 0 0, .int .i64 1])) ∨ (entRight e = true ∧ ∃ a' c', x = .returned (.tuple #[.slice a' (textL e).length c', .int .i64 0]) ∧ OwnB w.heap.size w' a' c' (textL e)))) := by
  refine (cachetteref06_Text.go e.w e.i e.pv e.t e.tw e.ep ba e.body.length bc e.sg (R := fun v w' => Ext no w w' ∧ ((entRight e = false ∧ v = (.tuple #[.slice none 0 0, .int .i64 1])) ∨ (entRight e = true ∧ ∃ a' c', v = (.tuple #[.slice a' (textL e).length c', .int .i64 0]) ∧ OwnB w.heap.size w' a' c' (textL e)))) ?_).mono fun x w' ⟨v, he, hx, hv⟩ => ⟨hx, hv.imp (fun ⟨h1, h2⟩ => ⟨h1, by rw [he, h2]⟩) fun ⟨h1, a, c, h2, h3⟩ => ⟨h1, a, c, by rw [he, h2], h3⟩⟩
  unfold cachetteref06_Text.N
  rw [refRight_F]
  refine ⟨fun h w10 X => ⟨X, .inl ⟨h, rfl⟩⟩, fun h w9 p X9 hp => ?_⟩
  have hp := hp.one
  have hf := hf h
  obtain ⟨h1, h2, h3, h4, h5, h6, h7, h8, h9, h10, h11⟩ := (entRight_iff e).1 h
  have f1 := hf.pv0; have f2 := hf.pv1
  rw [wu64 (n := e.w) h1 (by omega), wu64 (n := e.i) h3 (by omega), ← Int.toNat_of_nonneg h1, ← Int.toNat_of_nonneg h3, ← Int.toNat_of_nonneg f1]
  have g1 := W.numL_le e.w.toNat; have g2 := W.numL_le e.i.toNat; have g3 := W.numL_le e.pv.toNat; have g4 := stampL_le e.t e.tw; have g5 := W.numL_le (zig e.ep); have g6 := W.numL_le e.body.length
  refine (W.rNum_spec e.w.toNat w9 (by omega)).mono fun x w17 ⟨a1, c1, he, hB, X17⟩ => ⟨a1, _, c1, he, X17.kept, ?_⟩
  have Y := X9.trans X17
  have hN := X17.size
  have h0 := X9.size
  refine (W.rNum_spec e.i.toNat w17 (by omega)).mono fun x w20 ⟨a2, c2, he, hO, X20⟩ => ⟨a2, _, c2, he, X20.kept, ?_⟩
  obtain ⟨a3, c3, w22, hr, hB, Y, XA, hN⟩ := app hB Y h0 hN X20 (xc := c2) hO.row (by (try simp only [List.length_append]) <;> omega)
  refine ⟨a3, _, c3, w22, hr, keep1 XA (by omega), ?_⟩
  refine (W.rNum_spec e.pv.toNat w22 (by omega)).mono fun x w25 ⟨a2, c2, he, hO, X25⟩ => ⟨a2, _, c2, he, X25.kept, ?_⟩
  obtain ⟨a3, c3, w27, hr, hB, Y, XA, hN⟩ := app hB Y h0 hN X25 (xc := c2) hO.row (by (try simp only [List.length_append]) <;> omega)
  refine ⟨a3, _, c3, w27, hr, keep1 XA (by omega), ?_⟩
  refine (rPut_spec (by omega) (by omega) (by omega)).mono fun x w30 ⟨a2, c2, he, hO, X30⟩ => ⟨a2, _, c2, he, X30.kept, ?_⟩
  obtain ⟨a3, c3, w32, hr, hB, Y, XA, hN⟩ := app hB Y h0 hN X30 (xc := c2) hO.row (by (try simp only [List.length_append]) <;> omega)
  refine ⟨a3, _, c3, w32, hr, keep1 XA (by omega), ?_⟩
  refine (rInt_spec (by omega) (by omega)).mono fun x w35 ⟨a2, c2, he, hO, X35⟩ => ⟨a2, _, c2, he, X35.kept, ?_⟩
  obtain ⟨a3, c3, w37, hr, hB, Y, XA, hN⟩ := app hB Y h0 hN X35 (xc := c2) hO.row (by (try simp only [List.length_append]) <;> omega)
  refine ⟨a3, _, c3, w37, hr, keep1 XA (by omega), ?_⟩
  refine (rBytes_spec (hb.no Y) (by omega)).mono fun x w40 ⟨a2, c2, he, hO, X40⟩ => ⟨a2, _, c2, he, ?_⟩
  obtain ⟨a3, c3, w42, hr, hB, Y, XA, hN⟩ := app hB Y h0 hN X40 (xc := c2) hO.row (by (try simp only [List.length_append]) <;> omega)
  exact ⟨a3, _, c3, w42, hr, Y, .inr ⟨h, a3, c3, rfl, OwnB.up hB h0⟩⟩
theorem rEBytes_spec {e : Ent} (hf : entRight e = true → e.fit) {ba : Option Addr} {bc : Nat} (hb : RowAt w ba (bytesV e.body)) :
    Calls Try.prog 17 #[entV e ba bc] w (fun x w' => Ext no w w' ∧ ((entRight e = false ∧ x = .returned (.tuple #[.slice none 0 0, .int .i64 1])) ∨ (entRight e = true ∧ ∃ a' c', x = .returned (.tuple #[.slice a' (bytesL e).length c', .int .i64 0]) ∧ OwnB w.heap.size w' a' c' (bytesL e)))) := by
  refine (cachetteref06_Bytes.go e.w e.i e.pv e.t e.tw e.ep ba e.body.length bc e.sg (R := fun v w' => Ext no w w' ∧ ((entRight e = false ∧ v = (.tuple #[.slice none 0 0, .int .i64 1])) ∨ (entRight e = true ∧ ∃ a' c', v = (.tuple #[.slice a' (bytesL e).length c', .int .i64 0]) ∧ OwnB w.heap.size w' a' c' (bytesL e)))) ?_).mono fun x w' ⟨v, he, hx, hv⟩ => ⟨hx, hv.imp (fun ⟨h1, h2⟩ => ⟨h1, by rw [he, h2]⟩) fun ⟨h1, a, c, h2, h3⟩ => ⟨h1, a, c, by rw [he, h2], h3⟩⟩
  unfold cachetteref06_Bytes.N
  intro w9 p X9 hp
  refine (rText_spec hf (hb.no X9)).mono fun x w14 ⟨X14, hor⟩ => ?_
  rcases hor with ⟨h, he⟩ | ⟨h, a1, c1, he, hB⟩
  · exact ⟨_, _, _, _, he, X14.kept, fun _ => ⟨X9.trans X14, .inl ⟨h, rfl⟩⟩, fun h => absurd h (by decide)⟩
  · have hf := hf h
    have f3 := hf.sg0; have f4 := hf.sg1
    have hbl := ((entRight_iff e).1 h).2.2.2.2.2.2.2.2.2.1
    have htl := textL_le e
    have g1 := W.numL_le e.sg.toNat
    rw [← Int.toNat_of_nonneg f3]
    refine ⟨_, _, _, _, he, X14.kept, fun h => absurd rfl h, fun _ => ?_⟩
    refine (W.rNum_spec e.sg.toNat w14 (by omega)).mono fun x w18 ⟨a2, c2, he, hO, X18⟩ => ⟨a2, _, c2, he, ?_⟩
    obtain ⟨a3, c3, w20, hr, hB, Y, XA, hN⟩ := app hB (X9.trans X14) X9.size X14.size X18 (xc := c2) hO.row (by omega)
    exact ⟨a3, _, c3, w20, hr, Y, .inr ⟨h, a3, c3, rfl, OwnB.up hB X9.size⟩⟩
theorem rBound_spec {x y z : Int} (hx : x < 9223372036854775808) (hy : y < 9223372036854775808) (hz0 : -9223372036854775808 ≤ z) (hz : z < 9223372036854775808) :
    Calls Try.prog 22 #[.int .i64 x, .int .i64 y, .int .i64 z] w (fun e w' => ∃ a' c', e = .returned (.slice a' (boundL x y z).length c') ∧ OwnB w.heap.size w' a' c' (boundL x y z) ∧ Ext no w w') := by
  refine (cachetteref06_Bound.go x y z (R := fun v w' => ∃ a' c', v = (.slice a' (boundL x y z).length c') ∧ OwnB w.heap.size w' a' c' (boundL x y z) ∧ Ext no w w') ?_).mono fun x w' ⟨v, he, a, c, hv, hw⟩ => ⟨a, c, by rw [he, hv], hw⟩
  unfold cachetteref06_Bound.N
  have e1 : ∀ s : Int, s < 9223372036854775808 → IntKind.u64.wrap (if (0 : Int) > s then 0 else s) = ((s.toNat : Nat) : Int) := fun s hs => by split <;> rw [wu64 (by omega) (by omega)] <;> omega
  rw [e1 x hx, e1 y hy]
  have g1 := W.numL_le x.toNat; have g2 := W.numL_le y.toNat; have g3 := W.numL_le (zig z)
  refine (W.rNum_spec x.toNat w (by omega)).mono fun e w6 ⟨a1, c1, he, hB, X6⟩ => ⟨a1, _, c1, he, ?_⟩
  refine (W.rNum_spec y.toNat w6 (by omega)).mono fun e w9 ⟨a2, c2, he, hO, X9⟩ => ⟨a2, _, c2, he, ?_⟩
  obtain ⟨a3, c3, w11, hr, hB, Y, XA, hN⟩ := app hB X6 (Nat.le_refl _) X6.size X9 (xc := c2) hO.row (by omega)
  refine ⟨a3, _, c3, w11, hr, ?_⟩
  refine (rInt_spec hz0 hz).mono fun e w14 ⟨a2, c2, he, hO, X14⟩ => ⟨a2, _, c2, he, ?_⟩
  obtain ⟨a3, c3, w16, hr, hB, Y, XA, hN⟩ := app hB Y (Nat.le_refl _) hN X14 (xc := c2) hO.row (by (try simp only [List.length_append]) <;> omega)
  exact ⟨a3, _, c3, w16, hr, a3, c3, rfl, hB, Y⟩
theorem rGet_spec (h : RdR w p N bs k) (hl : bs.length < 1000000) :
    Calls Try.prog 74 #[.pointer (some (blk p))] w (GivesW (.agg #[.int .i64 (stampR (bs, k)).1.1, .int .i64 (stampR (bs, k)).1.2]) fun w' => RdR w' p N (stampR (bs, k)).2.1 (stampR (bs, k)).2.2 ∧ Ext (fun b => b = p) w w') := by
  refine (cachetteref04_Get.run _ (Q := fun w' => RdR w' p N (stampR (bs, k)).2.1 (stampR (bs, k)).2.2 ∧ Ext (fun b => b = p) w w') ?_)
  unfold cachetteref04_Get.N
  intro w2 p3 X2 hp
  have hp := hp.one
  have hpp : p < p3 := by have := h.lt; omega
  refine (rRInt_spec (h.no X2) hl).mono fun e w6 ⟨he, h6, X6⟩ => ⟨_, he, keep1 X6 (by omega), ?_⟩
  have hlen := intR_len (bs, k)
  have hc := W.rCount_spec h6 (by simp only at hlen; omega) (m := 7) (by decide) (by decide)
  refine hc.mono fun e w9 ⟨he, h9, X9⟩ => ⟨_, he, keep1 X9 (by omega), fun w11 X11 => ?_⟩
  have h11 := h9.up X11 fun b hb => by omega
  exact ⟨rfl, h11, (((X2.none.trans X6).trans X9)).then X11 fun b hb => .inr (by omega)⟩
/-- as the reference has it: an epoch that is out of range is -9. -/
def entT (s : RS) : Ent := { entR s with ep := if (entR s).ep < -1 ∨ (entR s).ep > 20 then -9 else (entR s).ep }
theorem rTake_spec (h : RdR w p N bs k) (hl : bs.length < 1000000) :
    Calls Try.prog 48 #[.pointer (some (blk p))] w (fun e w' => ∃ a' c', e = .returned (entV (entT (bs, k)) a' c') ∧ (entT (bs, k)).body.length ≤ c' ∧ RowAt w' a' (bytesV (entT (bs, k)).body) ∧ (bytesV (entT (bs, k)).body ≠ [] → ∀ ad, a' = some ad → ad.block < N) ∧ RdR w' p N (entR7 (bs, k)).1 (entR7 (bs, k)).2 ∧ Ext (fun b => b = p) w w') := by
  refine (cachetteref06_Take.go _ (R := fun v w' => ∃ a' c', v = (entV (entT (bs, k)) a' c') ∧ (entT (bs, k)).body.length ≤ c' ∧ RowAt w' a' (bytesV (entT (bs, k)).body) ∧ (bytesV (entT (bs, k)).body ≠ [] → ∀ ad, a' = some ad → ad.block < N) ∧ RdR w' p N (entR7 (bs, k)).1 (entR7 (bs, k)).2 ∧ Ext (fun b => b = p) w w') ?_).mono fun e w' ⟨v, he, a, c, hv, hw⟩ => ⟨a, c, by rw [he, hv], hw⟩
  unfold cachetteref06_Take.N
  intro w11 p12 p13 Y11' hp
  obtain ⟨hp12, hp13⟩ := hp.two
  have hpl := h.lt
  have Y11 : Ext (fun b => b = p) w w11 := Y11'.none
  obtain ⟨L1, L2, L3, L4, L5, L6, L7⟩ := entR_len (bs, k)
  simp only at L1 L2 L3 L4 L5 L6 L7
  have new : ∀ {w1 w2 : World}, Ext (fun b => b = p) w w1 → Ext (fun b => b = p) w1 w2 → Ext (fun b => b = p) w w2 := fun h1 h2 => h1.trans h2
  have new13 : ∀ {w1 w2 : World}, Ext (fun b => b = p) w w1 → Ext (fun b => b = p13) w1 w2 → Ext (fun b => b = p) w w2 := fun h1 h2 => h1.then h2 fun b hb => .inr (by omega)
  have new1213 : ∀ {w1 w2 : World}, Ext (fun b => b = p) w w1 → Ext (fun b => b = p12 ∨ b = p13) w1 w2 → Ext (fun b => b = p) w w2 := fun h1 h2 => h1.then h2 fun b hb => .inr (by omega)
  have up13 : ∀ b, b = p13 → p < b := fun b hb => by omega
  have k12 : ¬ (p12 = p) := by omega
  have k13 : ¬ (p13 = p) := by omega
  refine (W.rCount_spec (h.no Y11') hl (m := 7) (by decide) (by decide)).mono fun e w16 ⟨he, hr16, X16⟩ => ⟨_, he, keep2 X16 k12 k13, fun w17 X17 => ?_⟩
  refine (W.rCount_spec (bs := (entR1 (bs, k)).1) (k := (entR1 (bs, k)).2) (hr16.up X17 up13) (by omega) (m := 199) (by decide) (by decide)).mono fun e w20 ⟨he, hr20, X20⟩ => ⟨_, he, keep2 X20 k12 k13, fun w21 X21 => ?_⟩
  refine (W.rRNum_spec (bs := (entR2 (bs, k)).1) (k := (entR2 (bs, k)).2) (hr20.up X21 up13) (by omega)).mono fun e w24 ⟨he, hr24, X24⟩ => ⟨_, he, keep2 X24 k12 k13, fun w25 X25 => ?_⟩
  refine (rGet_spec (bs := (entR3 (bs, k)).1) (k := (entR3 (bs, k)).2) (hr24.up X25 up13) (by omega)).mono fun e w29 ⟨he, hr29, X29⟩ => ⟨_, _, he, keep2 X29 k12 k13, fun w31 X31 => ?_⟩
  refine (rRInt_spec (bs := (entR4 (bs, k)).1) (k := (entR4 (bs, k)).2) (hr29.up X31 up13) (by omega)).mono fun e w34 ⟨he, hr34, X34⟩ => ⟨_, he, keep2 X34 k12 k13, ?_⟩
  refine ⟨fun hn w37 XX => ?_, fun hn => ⟨fun hn2 w55 XX => ?_, fun hn2 w35 XX => ?_⟩⟩
  · skip
    have Y34 := new (new13 (new (new13 (new (new13 (new (new13 (new Y11 X16) X17) X20) X21) X24) X25) X29) X31) X34
    refine (rRBytes_spec (bs := (entR5 (bs, k)).1) (k := (entR5 (bs, k)).2) (hr34.up XX up13) (by omega) (m := 1100) (by decide) (by decide)).mono fun e w40 ⟨ba, bc, he, hle, hrow, hbp, hr40, X40⟩ => ⟨ba, _, bc, he, keep2 X40 k12 k13, fun w41 X41 => ?_⟩
    refine (W.rRNum_spec (bs := (entR6 (bs, k)).1) (k := (entR6 (bs, k)).2) (hr40.up X41 up13) (by omega)).mono fun e w44 ⟨he, hr44, X44⟩ => ⟨_, he, keep2 X44 k12 k13, fun w53 X53 => ?_⟩
    refine ⟨ba, bc, ?_, hle, ?_, hbp, hr44.up X53 fun b hb => by omega, new1213 (new (new13 (new (new13 Y34 XX) X40) X41) X44) X53⟩
    · unfold entT
      first
        | rw [if_pos (.inl (show (entR (bs, k)).ep < -1 from ‹_›))]
        | rw [if_pos (.inr (show (entR (bs, k)).ep > 20 from ‹_›))]
        | rw [if_neg (show ¬ ((entR (bs, k)).ep < -1 ∨ (entR (bs, k)).ep > 20) from fun h => h.elim (fun h => absurd hn (Int.not_le.2 h)) (fun h => absurd hn2 (Int.not_le.2 h)))]
      rfl
    · refine ((hrow.ext' X41 fun h0 ad ha hb => ?_).ext' X44 fun h0 ad ha hb => ?_).ext' X53 fun h0 ad ha hb => ?_
      · have := hbp h0 ad ha; have := h.1; omega
      · have := hbp h0 ad ha; have := h.1; omega
      · have := hbp h0 ad ha; have := h.1; omega
  · skip
    have Y34 := new (new13 (new (new13 (new (new13 (new (new13 (new Y11 X16) X17) X20) X21) X24) X25) X29) X31) X34
    refine (rRBytes_spec (bs := (entR5 (bs, k)).1) (k := (entR5 (bs, k)).2) (hr34.up XX up13) (by omega) (m := 1100) (by decide) (by decide)).mono fun e w40 ⟨ba, bc, he, hle, hrow, hbp, hr40, X40⟩ => ⟨ba, _, bc, he, keep2 X40 k12 k13, fun w41 X41 => ?_⟩
    refine (W.rRNum_spec (bs := (entR6 (bs, k)).1) (k := (entR6 (bs, k)).2) (hr40.up X41 up13) (by omega)).mono fun e w44 ⟨he, hr44, X44⟩ => ⟨_, he, keep2 X44 k12 k13, fun w53 X53 => ?_⟩
    refine ⟨ba, bc, ?_, hle, ?_, hbp, hr44.up X53 fun b hb => by omega, new1213 (new (new13 (new (new13 Y34 XX) X40) X41) X44) X53⟩
    · unfold entT
      first
        | rw [if_pos (.inl (show (entR (bs, k)).ep < -1 from ‹_›))]
        | rw [if_pos (.inr (show (entR (bs, k)).ep > 20 from ‹_›))]
        | rw [if_neg (show ¬ ((entR (bs, k)).ep < -1 ∨ (entR (bs, k)).ep > 20) from fun h => h.elim (fun h => absurd hn (Int.not_le.2 h)) (fun h => absurd hn2 (Int.not_le.2 h)))]
      rfl
    · refine ((hrow.ext' X41 fun h0 ad ha hb => ?_).ext' X44 fun h0 ad ha hb => ?_).ext' X53 fun h0 ad ha hb => ?_
      · have := hbp h0 ad ha; have := h.1; omega
      · have := hbp h0 ad ha; have := h.1; omega
      · have := hbp h0 ad ha; have := h.1; omega
  · skip
    have Y34 := new (new13 (new (new13 (new (new13 (new (new13 (new Y11 X16) X17) X20) X21) X24) X25) X29) X31) X34
    refine (rRBytes_spec (bs := (entR5 (bs, k)).1) (k := (entR5 (bs, k)).2) (hr34.up XX up13) (by omega) (m := 1100) (by decide) (by decide)).mono fun e w40 ⟨ba, bc, he, hle, hrow, hbp, hr40, X40⟩ => ⟨ba, _, bc, he, keep2 X40 k12 k13, fun w41 X41 => ?_⟩
    refine (W.rRNum_spec (bs := (entR6 (bs, k)).1) (k := (entR6 (bs, k)).2) (hr40.up X41 up13) (by omega)).mono fun e w44 ⟨he, hr44, X44⟩ => ⟨_, he, keep2 X44 k12 k13, fun w53 X53 => ?_⟩
    refine ⟨ba, bc, ?_, hle, ?_, hbp, hr44.up X53 fun b hb => by omega, new1213 (new (new13 (new (new13 Y34 XX) X40) X41) X44) X53⟩
    · unfold entT
      first
        | rw [if_pos (.inl (show (entR (bs, k)).ep < -1 from ‹_›))]
        | rw [if_pos (.inr (show (entR (bs, k)).ep > 20 from ‹_›))]
        | rw [if_neg (show ¬ ((entR (bs, k)).ep < -1 ∨ (entR (bs, k)).ep > 20) from fun h => h.elim (fun h => absurd hn (Int.not_le.2 h)) (fun h => absurd hn2 (Int.not_le.2 h)))]
      rfl
    · refine ((hrow.ext' X41 fun h0 ad ha hb => ?_).ext' X44 fun h0 ad ha hb => ?_).ext' X53 fun h0 ad ha hb => ?_
      · have := hbp h0 ad ha; have := h.1; omega
      · have := hbp h0 ad ha; have := h.1; omega
      · have := hbp h0 ad ha; have := h.1; omega
theorem entT_right (s : RS) : entRight (entT s) = entRight (entR s) ∧ (entRight (entR s) = true → entT s = entR s) := by
  unfold entT
  by_cases h : (entR s).ep < -1 ∨ (entR s).ep > 20
  · rw [if_pos h]
    have h1 : entRight { entR s with ep := -9 } = false := decide_eq_false (by show ¬ (_ ∧ _ ∧ _ ∧ _ ∧ (-1 : Int) ≤ -9 ∧ _); omega)
    have h2 : entRight (entR s) = false := decide_eq_false (by omega)
    rw [h1, h2]
    exact ⟨rfl, fun h => by cases h⟩
  · rw [if_neg h]; exact ⟨rfl, fun _ => rfl⟩
theorem rRead_spec (h : RowAt w a (bytesV bs)) (hc : bs.length ≤ c) (hl : bs.length < 1000000) :
    Calls Try.prog 18 #[.slice a bs.length c] w (fun e w' => ∃ a' c', e = .returned (.tuple #[entV (readE bs).1 a' c', .int .i64 (readE bs).2]) ∧ RowAt w' a' (bytesV (readE bs).1.body) ∧ Ext no w w') := by
  refine (cachetteref06_Read.go _ _ _ (R := fun v w' => ∃ a' c', v = (.tuple #[entV (readE bs).1 a' c', .int .i64 (readE bs).2]) ∧ RowAt w' a' (bytesV (readE bs).1.body) ∧ Ext no w w') ?_).mono fun e w' ⟨v, he, a, c, hv, hw⟩ => ⟨a, c, by rw [he, hv], hw⟩
  unfold cachetteref06_Read.N
  intro w3 q4 p5 X3 hq hq1 hq2 hp5
  have hp5 := hp5.one
  have hR : RdR w3 q4 w.heap.size bs 0 := ⟨hq1, a, c, hq, hc, h.no X3, fun h0 ad ha => by exact h.lt (fun e => h0 e) ha⟩
  refine (rTake_spec hR hl).mono fun e w15 ⟨ba, bc, he, hle, hrow, hbp, hr15, X15⟩ => ⟨_, _, _, _, _, _, _, _, _, _, he, keep1 X15 (by omega), fun w24 p25 X24 hp25 => ?_⟩
  have hp25 := hp25.one
  have Y24 : Ext no w w24 := (X3.then X15 fun b hb => .inr (by omega)).trans X24
  refine (W.rDone_spec (hr15.no X24)).mono fun e w28 ⟨he, hw⟩ => ⟨_, he, by subst hw; exact Keep.refl _ _, ?_⟩
  subst hw
  obtain ⟨g1, g2⟩ := entT_right (bs, 0)
  have new5 : ∀ {w1 w2 : World}, Ext no w w1 → Ext (fun b => b = p5) w1 w2 → Ext no w w2 := fun h1 h2 => h1.then h2 fun b hb => .inr (by omega)
  have hF : cachetteref06_Right.F (entT (bs, 0)).w (entT (bs, 0)).i (entT (bs, 0)).pv (entT (bs, 0)).t (entT (bs, 0)).tw (entT (bs, 0)).ep ba (entT (bs, 0)).body.length bc (entT (bs, 0)).sg = entRight (entR (bs, 0)) := (refRight_F _ _ _).trans g1
  rw [hF]
  refine ⟨fun hd w37 X37 => ?_, fun hd => ⟨fun hr w49 X49 => ?_, fun hr w57 X57 => ?_⟩⟩
  · have : readE bs = (Ent.zero, doneR (entR7 (bs, 0))) := by unfold readE; rw [if_pos hd]
    rw [this]
    exact ⟨none, 0, rfl, RowAt.nil _ _, new5 Y24 X37⟩
  · have : readE bs = (Ent.zero, 4) := by unfold readE; rw [if_neg (by rw [hd]; simp), if_neg (by rw [hr]; simp)]
    rw [this]
    exact ⟨none, 0, rfl, RowAt.nil _ _, new5 Y24 X49⟩
  · have : readE bs = (entR (bs, 0), 0) := by unfold readE; rw [if_neg (by rw [hd]; simp), if_pos hr]
    rw [this]
    rw [g2 hr] at hrow hbp ⊢
    refine ⟨ba, bc, rfl, (hrow.no X24).ext' X57 fun h0 ad ha hb => ?_, new5 Y24 X57⟩
    have := hbp h0 ad ha
    omega
theorem rESame_spec {e f : Ent} {b : Option Addr} {d : Nat} (ha : RowAt w a (bytesV e.body)) (hb : RowAt w b (bytesV f.body)) (hl : e.body.length < 1000000) :
    Calls Try.prog 20 #[entV e a c, entV f b d] w (Ret (.bool (decide (e = f))) fun w' => Ext no w w') := by
  refine cachetteref06_Same.run _ _ _ _ _ _ _ _ _ _ _ _ _ _ _ _ _ _ _ _ ?_
  unfold cachetteref06_Same.N
  obtain ⟨e1, e2, e3, e4, e5, e6, e7, e8⟩ := e
  obtain ⟨f1, f2, f3, f4, f5, f6, f7, f8⟩ := f
  simp only [Ent.mk.injEq]
  refine ⟨fun c1 => ⟨fun c2 => ⟨fun c3 => ⟨fun c4 => ⟨fun c5 => ⟨fun c6 w18 X => ?_, fun c6 w18 X => ⟨?_, X⟩⟩, fun c5 w18 X => ⟨?_, X⟩⟩, fun c4 w18 X => ⟨?_, X⟩⟩, fun c3 w18 X => ⟨?_, X⟩⟩, fun c2 w18 X => ⟨?_, X⟩⟩, fun c1 w18 X => ⟨?_, X⟩⟩
  · refine (W.sameB_spec (ha.no X) (hb.no X) hl).mono fun x w31 ⟨he, X31⟩ => ⟨_, he, ?_, X.trans X31⟩
    congr 1; rw [Bool.eq_iff_iff, decide_eq_true_eq, decide_eq_true_eq]; exact ⟨fun h => ⟨c1, c2, c3, c4.1, c4.2, c5, h, c6⟩, fun h => h.2.2.2.2.2.2.1⟩
  · rw [decide_eq_false fun h => c6 h.2.2.2.2.2.2.2]
  · rw [decide_eq_false fun h => c5 h.2.2.2.2.2.1]
  · rw [decide_eq_false fun h => c4 ⟨h.2.2.2.1, h.2.2.2.2.1⟩]
  · rw [decide_eq_false fun h => c3 h.2.2.1]
  · rw [decide_eq_false fun h => c2 h.2.1]
  · rw [decide_eq_false fun h => c1 h.1]
end
end Go.Proofs.Ytomajjnoekfmoaa
