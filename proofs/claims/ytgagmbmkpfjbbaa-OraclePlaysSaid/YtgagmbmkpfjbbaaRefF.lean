/- The reference's oracle: Seal, Open, Wrap, Unwrap. -/
import Derived.Test.YtgagmbmkpfjbbaaRefD
set_option linter.unusedVariables false
set_option linter.unusedSimpArgs false
set_option maxRecDepth 20000
set_option maxHeartbeats 2000000
namespace Go.Proofs.Ytgagmbmkpfjbbaa
open Go Go.Mx Go.Proofs
open W (OwnB)
/-- (*cachetteref03.Oracle).Seal -/
def cachetteref03_Oracle_Seal.M (o1 : Option Addr) (key2 : Int) (bound3a : Option Addr) (bound3n : Nat) (bound3c : Nat) (plain4a : Option Addr) (plain4n : Nat) (plain4c : Nat) (R : Value → World → Prop) (w : World) : Prop :=
  Calls Try.prog 37 #[.pointer o1, .int .u64 key2, .int .i64 2] w fun ee12 ww13 => ∃ (H5 : Int) (Kind6 : Int) (A7a : Option Addr) (A7n : Nat) (A7c : Nat) (B8a : Option Addr) (B8n : Nat) (B8c : Nat) (N9 : Int) (M10 : Int) (isv11 : Bool), ee12 = .returned (.tuple #[.agg #[.int .u64 H5, .int .i64 Kind6, .slice A7a A7n A7c, .slice B8a B8n B8c, .int .u64 N9, .int .u64 M10], .bool isv11]) ∧
  thenW (ww13.alloc (.cells #[.int .u64 0, .int .i64 0, .slice none 0 0, .slice none 0 0, .int .u64 0, .int .u64 0] 75)) fun ww14 =>
  canStore ww14 ((blk ww13.heap.size).add 0) ∧
  thenW (ww14.setCell ((blk ww13.heap.size).add 0) (.int .u64 H5)) fun ww15 =>
  canStore ww15 ((blk ww13.heap.size).add 1) ∧
  thenW (ww15.setCell ((blk ww13.heap.size).add 1) (.int .i64 Kind6)) fun ww16 =>
  canStore ww16 ((blk ww13.heap.size).add 2) ∧
  thenW (ww16.setCell ((blk ww13.heap.size).add 2) (.slice A7a A7n A7c)) fun ww17 =>
  canStore ww17 ((blk ww13.heap.size).add 3) ∧
  thenW (ww17.setCell ((blk ww13.heap.size).add 3) (.slice B8a B8n B8c)) fun ww18 =>
  canStore ww18 ((blk ww13.heap.size).add 4) ∧
  thenW (ww18.setCell ((blk ww13.heap.size).add 4) (.int .u64 N9)) fun ww19 =>
  canStore ww19 ((blk ww13.heap.size).add 5) ∧
  thenW (ww19.setCell ((blk ww13.heap.size).add 5) (.int .u64 M10)) fun ww20 =>
  bif !isv11 then (
  R (.tuple #[.slice none 0 0, .int .i64 11]) ww20) else (
  Calls Try.prog 42 #[.int .i64 (plain4n : Int)] ww20 fun ee22 ww23 => ∃ (classv21 : Int), ee22 = .returned (.int .i64 classv21) ∧
  bif decide (classv21 < 0) then (
  R (.tuple #[.slice none 0 0, .int .i64 3]) ww23) else (
  Calls Try.prog 36 #[.pointer o1, .agg #[.int .u64 0, .int .i64 6, .slice bound3a bound3n bound3c, .slice plain4a plain4n plain4c, .int .u64 key2, .int .u64 0]] ww23 fun ee25 ww26 => ∃ (put24 : Int), ee25 = .returned (.int .u64 put24) ∧
  Calls Try.prog 43 #[.int .u64 put24] ww26 fun ee28 ww29 => ∃ (eight27a : Option Addr) (eight27n : Nat) (eight27c : Nat), ee28 = .returned (.slice eight27a eight27n eight27c) ∧
  Calls Try.prog 44 #[.int .i64 classv21] ww29 fun ee31 ww32 => ∃ (size30 : Int), ee31 = .returned (.int .i64 size30) ∧
  ∃ (a33a : Option Addr) (a33n : Nat) (a33c : Nat) (ww34 : World), (Builtin.append_ #[23, 3] 23 #[.slice eight27a eight27n eight27c, .int .i64 size30]).run Try.prog ww32 = .ok (.slice a33a a33n a33c) ww34 ∧
  R (.tuple #[.slice a33a a33n a33c, .int .i64 0]) ww34))

theorem cachetteref03_Oracle_Seal.eq (o1 : Option Addr) (key2 : Int) (bound3a : Option Addr) (bound3n : Nat) (bound3c : Nat) (plain4a : Option Addr) (plain4n : Nat) (plain4c : Nat) (R : Value → World → Prop) (w : World) : mfunc Try.prog [] 27 [.pointer o1, .int .u64 key2, .slice bound3a bound3n bound3c, .slice plain4a plain4n plain4c] R w = cachetteref03_Oracle_Seal.M o1 key2 bound3a bound3n bound3c plain4a plain4n plain4c R w := by kernel_rfl
theorem cachetteref03_Oracle_Seal.ok (o1 : Option Addr) (key2 : Int) (bound3a : Option Addr) (bound3n : Nat) (bound3c : Nat) (plain4a : Option Addr) (plain4n : Nat) (plain4c : Nat) {R : Value → World → Prop} {w : World} (h : cachetteref03_Oracle_Seal.M o1 key2 bound3a bound3n bound3c plain4a plain4n plain4c R w) : Calls Try.prog 27 #[.pointer o1, .int .u64 key2, .slice bound3a bound3n bound3c, .slice plain4a plain4n plain4c] w fun e w' => ∃ v, e = .returned v ∧ R v w' :=
  mfunc_ok follows (H := []) (args := [.pointer o1, .int .u64 key2, .slice bound3a bound3n bound3c, .slice plain4a plain4n plain4c]) (by rw [cachetteref03_Oracle_Seal.eq]; exact h)

def cachetteref03_Oracle_Seal.N (o1 : Option Addr) (key2 : Int) (bound3a : Option Addr) (bound3n : Nat) (bound3c : Nat) (plain4a : Option Addr) (plain4n : Nat) (plain4c : Nat) (R : Value → World → Prop) (w : World) : Prop :=
  Calls Try.prog 37 #[.pointer o1, .int .u64 key2, .int .i64 2] w fun ee12 ww13 => ∃ (H5 : Int) (Kind6 : Int) (A7a : Option Addr) (A7n : Nat) (A7c : Nat) (B8a : Option Addr) (B8n : Nat) (B8c : Nat) (N9 : Int) (M10 : Int) (isv11 : Bool), ee12 = .returned (.tuple #[.agg #[.int .u64 H5, .int .i64 Kind6, .slice A7a A7n A7c, .slice B8a B8n B8c, .int .u64 N9, .int .u64 M10], .bool isv11]) ∧
  (isv11 = false →
    ∀ (ww20 : World), Ext no ww13 ww20 →
    R (.tuple #[.slice none 0 0, .int .i64 11]) ww20) ∧
  (isv11 = true →
    ∀ (ww20 : World), Ext no ww13 ww20 →
    Calls Try.prog 42 #[.int .i64 (plain4n : Int)] ww20 fun ee25 ww26 => ∃ (classv24 : Int), ee25 = .returned (.int .i64 classv24) ∧
    (classv24 < 0 →
      R (.tuple #[.slice none 0 0, .int .i64 3]) ww26) ∧
    ((0 : Int) ≤ classv24 →
      Calls Try.prog 36 #[.pointer o1, .agg #[.int .u64 0, .int .i64 6, .slice bound3a bound3n bound3c, .slice plain4a plain4n plain4c, .int .u64 key2, .int .u64 0]] ww26 fun ee29 ww30 => ∃ (put28 : Int), ee29 = .returned (.int .u64 put28) ∧
      Calls Try.prog 43 #[.int .u64 put28] ww30 fun ee32 ww33 => ∃ (eight31a : Option Addr) (eight31n : Nat) (eight31c : Nat), ee32 = .returned (.slice eight31a eight31n eight31c) ∧
      Calls Try.prog 44 #[.int .i64 classv24] ww33 fun ee35 ww36 => ∃ (size34 : Int), ee35 = .returned (.int .i64 size34) ∧
      ∃ (a37a : Option Addr) (a37n : Nat) (a37c : Nat) (ww38 : World), (Builtin.append_ #[23, 3] 23 #[.slice eight31a eight31n eight31c, .int .i64 size34]).run Try.prog ww36 = .ok (.slice a37a a37n a37c) ww38 ∧
      R (.tuple #[.slice a37a a37n a37c, .int .i64 0]) ww38))

theorem cachetteref03_Oracle_Seal.up (o1 : Option Addr) (key2 : Int) (bound3a : Option Addr) (bound3n : Nat) (bound3c : Nat) (plain4a : Option Addr) (plain4n : Nat) (plain4c : Nat) {R : Value → World → Prop} {w : World} (h : cachetteref03_Oracle_Seal.N o1 key2 bound3a bound3n bound3c plain4a plain4n plain4c R w) : cachetteref03_Oracle_Seal.M o1 key2 bound3a bound3n bound3c plain4a plain4n plain4c R w := by
  unfold cachetteref03_Oracle_Seal.M
  unfold cachetteref03_Oracle_Seal.N at h
  refine h.mono fun ee12 ww13 h => ?_
  obtain ⟨H5, Kind6, A7a, A7n, A7c, B8a, B8n, B8c, N9, M10, isv11, he, h⟩ := h
  refine ⟨H5, Kind6, A7a, A7n, A7c, B8a, B8n, B8c, N9, M10, isv11, he, ?_⟩
  refine thenW_in fun ww14 e14 => ?_
  have hb1 := Blk.of_new e14
  have hg1 := ((Ext.refl no ww13)).size
  have hx14 := (Ext.refl no ww13).x_alloc e14
  refine ⟨hb1.cani 0 rfl rfl, thenW_in fun ww15 e15 => ?_⟩
  have hx15 := hx14.x_set (q := ww13.heap.size) (i := 0) rfl (.inr hg1) e15
  have hb1 := hb1.seti 0 rfl e15
  refine ⟨hb1.cani 1 rfl rfl, thenW_in fun ww16 e16 => ?_⟩
  have hx16 := hx15.x_set (q := ww13.heap.size) (i := 1) rfl (.inr hg1) e16
  have hb1 := hb1.seti 1 rfl e16
  refine ⟨hb1.cani 2 rfl rfl, thenW_in fun ww17 e17 => ?_⟩
  have hx17 := hx16.x_set (q := ww13.heap.size) (i := 2) rfl (.inr hg1) e17
  have hb1 := hb1.seti 2 rfl e17
  refine ⟨hb1.cani 3 rfl rfl, thenW_in fun ww18 e18 => ?_⟩
  have hx18 := hx17.x_set (q := ww13.heap.size) (i := 3) rfl (.inr hg1) e18
  have hb1 := hb1.seti 3 rfl e18
  refine ⟨hb1.cani 4 rfl rfl, thenW_in fun ww19 e19 => ?_⟩
  have hx19 := hx18.x_set (q := ww13.heap.size) (i := 4) rfl (.inr hg1) e19
  have hb1 := hb1.seti 4 rfl e19
  refine ⟨hb1.cani 5 rfl rfl, thenW_in fun ww20 e20 => ?_⟩
  have hx20 := hx19.x_set (q := ww13.heap.size) (i := 5) rfl (.inr hg1) e20
  have hb1 := hb1.seti 5 rfl e20
  refine bif_of (fun c21 => ?_) (fun c21 => ?_)
  · have h := h.1 (not_t c21)
    have h := h ww20 hx20
    exact h
  · have h := h.2 (not_f c21)
    have h := h ww20 hx20
    refine h.mono fun ee25 ww26 h => ?_
    obtain ⟨classv24, he, h⟩ := h
    refine ⟨classv24, he, ?_⟩
    refine bif_of (fun c27 => ?_) (fun c27 => ?_)
    · have h := h.1 (of_decide_eq_true c27)
      exact h
    · have h := h.2 (Int.not_lt.1 (of_decide_eq_false c27))
      refine h.mono fun ee29 ww30 h => ?_
      obtain ⟨put28, he, h⟩ := h
      refine ⟨put28, he, ?_⟩
      refine h.mono fun ee32 ww33 h => ?_
      obtain ⟨eight31a, eight31n, eight31c, he, h⟩ := h
      refine ⟨eight31a, eight31n, eight31c, he, ?_⟩
      refine h.mono fun ee35 ww36 h => ?_
      obtain ⟨size34, he, h⟩ := h
      refine ⟨size34, he, ?_⟩
      obtain ⟨a37a, a37n, a37c, ww38, hr, h⟩ := h
      refine ⟨a37a, a37n, a37c, ww38, hr, ?_⟩
      exact h

theorem cachetteref03_Oracle_Seal.go (o1 : Option Addr) (key2 : Int) (bound3a : Option Addr) (bound3n : Nat) (bound3c : Nat) (plain4a : Option Addr) (plain4n : Nat) (plain4c : Nat) {R : Value → World → Prop} {w : World} (h : cachetteref03_Oracle_Seal.N o1 key2 bound3a bound3n bound3c plain4a plain4n plain4c R w) : Calls Try.prog 27 #[.pointer o1, .int .u64 key2, .slice bound3a bound3n bound3c, .slice plain4a plain4n plain4c] w fun e w' => ∃ v, e = .returned v ∧ R v w' := cachetteref03_Oracle_Seal.ok o1 key2 bound3a bound3n bound3c plain4a plain4n plain4c (cachetteref03_Oracle_Seal.up o1 key2 bound3a bound3n bound3c plain4a plain4n plain4c h)
theorem cachetteref03_Oracle_Seal.run (o1 : Option Addr) (key2 : Int) (bound3a : Option Addr) (bound3n : Nat) (bound3c : Nat) (plain4a : Option Addr) (plain4n : Nat) (plain4c : Nat) {V : Value} {Q : World → Prop} {w : World} (h : cachetteref03_Oracle_Seal.N o1 key2 bound3a bound3n bound3c plain4a plain4n plain4c (fun v w' => v = V ∧ Q w') w) : Calls Try.prog 27 #[.pointer o1, .int .u64 key2, .slice bound3a bound3n bound3c, .slice plain4a plain4n plain4c] w (Ret V Q) := (cachetteref03_Oracle_Seal.go o1 key2 bound3a bound3n bound3c plain4a plain4n plain4c h).mono fun e w' ⟨v, he, hv, hq⟩ => ⟨by rw [he, hv], hq⟩

/-- (*cachetteref03.Oracle).Open -/
def cachetteref03_Oracle_Open.M (o1 : Option Addr) (key2 : Int) (bound3a : Option Addr) (bound3n : Nat) (bound3c : Nat) (b4a : Option Addr) (b4n : Nat) (b4c : Nat) (R : Value → World → Prop) (w : World) : Prop :=
  Calls Try.prog 47 #[.slice b4a b4n b4c] w fun ee6 ww7 => ∃ (handle5 : Int), ee6 = .returned (.int .u64 handle5) ∧
  Calls Try.prog 37 #[.pointer o1, .int .u64 handle5, .int .i64 6] ww7 fun ee15 ww16 => ∃ (H8 : Int) (Kind9 : Int) (A10a : Option Addr) (A10n : Nat) (A10c : Nat) (B11a : Option Addr) (B11n : Nat) (B11c : Nat) (N12 : Int) (M13 : Int) (isv14 : Bool), ee15 = .returned (.tuple #[.agg #[.int .u64 H8, .int .i64 Kind9, .slice A10a A10n A10c, .slice B11a B11n B11c, .int .u64 N12, .int .u64 M13], .bool isv14]) ∧
  thenW (ww16.alloc (.cells #[.int .u64 0, .int .i64 0, .slice none 0 0, .slice none 0 0, .int .u64 0, .int .u64 0] 75)) fun ww17 =>
  canStore ww17 ((blk ww16.heap.size).add 0) ∧
  thenW (ww17.setCell ((blk ww16.heap.size).add 0) (.int .u64 H8)) fun ww18 =>
  canStore ww18 ((blk ww16.heap.size).add 1) ∧
  thenW (ww18.setCell ((blk ww16.heap.size).add 1) (.int .i64 Kind9)) fun ww19 =>
  canStore ww19 ((blk ww16.heap.size).add 2) ∧
  thenW (ww19.setCell ((blk ww16.heap.size).add 2) (.slice A10a A10n A10c)) fun ww20 =>
  canStore ww20 ((blk ww16.heap.size).add 3) ∧
  thenW (ww20.setCell ((blk ww16.heap.size).add 3) (.slice B11a B11n B11c)) fun ww21 =>
  canStore ww21 ((blk ww16.heap.size).add 4) ∧
  thenW (ww21.setCell ((blk ww16.heap.size).add 4) (.int .u64 N12)) fun ww22 =>
  canStore ww22 ((blk ww16.heap.size).add 5) ∧
  thenW (ww22.setCell ((blk ww16.heap.size).add 5) (.int .u64 M13)) fun ww23 =>
  bif !isv14 then (
  R (.tuple #[.slice none 0 0, .int .i64 4]) ww23) else (
  ∃ (B24a : Option Addr) (B24n : Nat) (B24c : Nat), ww23.cell? ((blk ww16.heap.size).add 3) = some (.slice B24a B24n B24c) ∧
  Calls Try.prog 42 #[.int .i64 (B24n : Int)] ww23 fun ee26 ww27 => ∃ (classv25 : Int), ee26 = .returned (.int .i64 classv25) ∧
  Calls Try.prog 44 #[.int .i64 classv25] ww27 fun ee29 ww30 => ∃ (size28 : Int), ee29 = .returned (.int .i64 size28) ∧
  bif (b4n : Int) != (IntKind.i64.wrap ((8 : Int) + size28)) then (
  R (.tuple #[.slice none 0 0, .int .i64 4]) ww30) else (
  ∃ (N31 : Int), ww30.cell? ((blk ww16.heap.size).add 4) = some (.int .u64 N31) ∧
  bif N31 != key2 then (
  R (.tuple #[.slice none 0 0, .int .i64 11]) ww30) else (
  ∃ (A32a : Option Addr) (A32n : Nat) (A32c : Nat), ww30.cell? ((blk ww16.heap.size).add 2) = some (.slice A32a A32n A32c) ∧
  Calls Try.prog 9 #[.slice A32a A32n A32c, .slice bound3a bound3n bound3c] ww30 fun ee34 ww35 => ∃ (same33 : Bool), ee34 = .returned (.bool same33) ∧
  bif !same33 then (
  R (.tuple #[.slice none 0 0, .int .i64 5]) ww35) else (
  ∃ (B36a : Option Addr) (B36n : Nat) (B36c : Nat), ww35.cell? ((blk ww16.heap.size).add 3) = some (.slice B36a B36n B36c) ∧
  R (.tuple #[.slice B36a B36n B36c, .int .i64 0]) ww35))))

theorem cachetteref03_Oracle_Open.eq (o1 : Option Addr) (key2 : Int) (bound3a : Option Addr) (bound3n : Nat) (bound3c : Nat) (b4a : Option Addr) (b4n : Nat) (b4c : Nat) (R : Value → World → Prop) (w : World) : mfunc Try.prog [] 32 [.pointer o1, .int .u64 key2, .slice bound3a bound3n bound3c, .slice b4a b4n b4c] R w = cachetteref03_Oracle_Open.M o1 key2 bound3a bound3n bound3c b4a b4n b4c R w := by kernel_rfl
theorem cachetteref03_Oracle_Open.ok (o1 : Option Addr) (key2 : Int) (bound3a : Option Addr) (bound3n : Nat) (bound3c : Nat) (b4a : Option Addr) (b4n : Nat) (b4c : Nat) {R : Value → World → Prop} {w : World} (h : cachetteref03_Oracle_Open.M o1 key2 bound3a bound3n bound3c b4a b4n b4c R w) : Calls Try.prog 32 #[.pointer o1, .int .u64 key2, .slice bound3a bound3n bound3c, .slice b4a b4n b4c] w fun e w' => ∃ v, e = .returned v ∧ R v w' :=
  mfunc_ok follows (H := []) (args := [.pointer o1, .int .u64 key2, .slice bound3a bound3n bound3c, .slice b4a b4n b4c]) (by rw [cachetteref03_Oracle_Open.eq]; exact h)

def cachetteref03_Oracle_Open.N (o1 : Option Addr) (key2 : Int) (bound3a : Option Addr) (bound3n : Nat) (bound3c : Nat) (b4a : Option Addr) (b4n : Nat) (b4c : Nat) (R : Value → World → Prop) (w : World) : Prop :=
  Calls Try.prog 47 #[.slice b4a b4n b4c] w fun ee6 ww7 => ∃ (handle5 : Int), ee6 = .returned (.int .u64 handle5) ∧
  Calls Try.prog 37 #[.pointer o1, .int .u64 handle5, .int .i64 6] ww7 fun ee15 ww16 => ∃ (H8 : Int) (Kind9 : Int) (A10a : Option Addr) (A10n : Nat) (A10c : Nat) (B11a : Option Addr) (B11n : Nat) (B11c : Nat) (N12 : Int) (M13 : Int) (isv14 : Bool), ee15 = .returned (.tuple #[.agg #[.int .u64 H8, .int .i64 Kind9, .slice A10a A10n A10c, .slice B11a B11n B11c, .int .u64 N12, .int .u64 M13], .bool isv14]) ∧
  (isv14 = false →
    ∀ (ww23 : World), Ext no ww16 ww23 →
    R (.tuple #[.slice none 0 0, .int .i64 4]) ww23) ∧
  (isv14 = true →
    ∀ (ww23 : World) (p26 : Nat), Ext no ww16 ww23 → Priv ww16 ww23 [p26] →
    Calls Try.prog 42 #[.int .i64 (B11n : Int)] ww23 fun ee28 ww29 => ∃ (classv27 : Int), ee28 = .returned (.int .i64 classv27) ∧
    Keep [p26] ww23 ww29 ∧
    Calls Try.prog 44 #[.int .i64 classv27] ww29 fun ee31 ww32 => ∃ (size30 : Int), ee31 = .returned (.int .i64 size30) ∧
    Keep [p26] ww29 ww32 ∧
    (-9223372036854775808 : Int) ≤ ((8 : Int) + size30) ∧ ((8 : Int) + size30) < 9223372036854775808 ∧
    ((b4n : Int) ≠ ((8 : Int) + size30) →
      R (.tuple #[.slice none 0 0, .int .i64 4]) ww32) ∧
    ((b4n : Int) = ((8 : Int) + size30) →
      (N12 ≠ key2 →
        R (.tuple #[.slice none 0 0, .int .i64 11]) ww32) ∧
      (N12 = key2 →
        Calls Try.prog 9 #[.slice A10a A10n A10c, .slice bound3a bound3n bound3c] ww32 fun ee36 ww37 => ∃ (same35 : Bool), ee36 = .returned (.bool same35) ∧
        Keep [p26] ww32 ww37 ∧
        (same35 = false →
          R (.tuple #[.slice none 0 0, .int .i64 5]) ww37) ∧
        (same35 = true →
          R (.tuple #[.slice B11a B11n B11c, .int .i64 0]) ww37))))

theorem cachetteref03_Oracle_Open.up (o1 : Option Addr) (key2 : Int) (bound3a : Option Addr) (bound3n : Nat) (bound3c : Nat) (b4a : Option Addr) (b4n : Nat) (b4c : Nat) {R : Value → World → Prop} {w : World} (h : cachetteref03_Oracle_Open.N o1 key2 bound3a bound3n bound3c b4a b4n b4c R w) : cachetteref03_Oracle_Open.M o1 key2 bound3a bound3n bound3c b4a b4n b4c R w := by
  unfold cachetteref03_Oracle_Open.M
  unfold cachetteref03_Oracle_Open.N at h
  refine h.mono fun ee6 ww7 h => ?_
  obtain ⟨handle5, he, h⟩ := h
  refine ⟨handle5, he, ?_⟩
  refine h.mono fun ee15 ww16 h => ?_
  obtain ⟨H8, Kind9, A10a, A10n, A10c, B11a, B11n, B11c, N12, M13, isv14, he, h⟩ := h
  refine ⟨H8, Kind9, A10a, A10n, A10c, B11a, B11n, B11c, N12, M13, isv14, he, ?_⟩
  refine thenW_in fun ww17 e17 => ?_
  have hb1 := Blk.of_new e17
  have hg1 := ((Ext.refl no ww16)).size
  have hx17 := (Ext.refl no ww16).x_alloc e17
  refine ⟨hb1.cani 0 rfl rfl, thenW_in fun ww18 e18 => ?_⟩
  have hx18 := hx17.x_set (q := ww16.heap.size) (i := 0) rfl (.inr hg1) e18
  have hb1 := hb1.seti 0 rfl e18
  refine ⟨hb1.cani 1 rfl rfl, thenW_in fun ww19 e19 => ?_⟩
  have hx19 := hx18.x_set (q := ww16.heap.size) (i := 1) rfl (.inr hg1) e19
  have hb1 := hb1.seti 1 rfl e19
  refine ⟨hb1.cani 2 rfl rfl, thenW_in fun ww20 e20 => ?_⟩
  have hx20 := hx19.x_set (q := ww16.heap.size) (i := 2) rfl (.inr hg1) e20
  have hb1 := hb1.seti 2 rfl e20
  refine ⟨hb1.cani 3 rfl rfl, thenW_in fun ww21 e21 => ?_⟩
  have hx21 := hx20.x_set (q := ww16.heap.size) (i := 3) rfl (.inr hg1) e21
  have hb1 := hb1.seti 3 rfl e21
  refine ⟨hb1.cani 4 rfl rfl, thenW_in fun ww22 e22 => ?_⟩
  have hx22 := hx21.x_set (q := ww16.heap.size) (i := 4) rfl (.inr hg1) e22
  have hb1 := hb1.seti 4 rfl e22
  refine ⟨hb1.cani 5 rfl rfl, thenW_in fun ww23 e23 => ?_⟩
  have hx23 := hx22.x_set (q := ww16.heap.size) (i := 5) rfl (.inr hg1) e23
  have hb1 := hb1.seti 5 rfl e23
  refine bif_of (fun c24 => ?_) (fun c24 => ?_)
  · have h := h.1 (not_t c24)
    have h := h ww23 hx23
    exact h
  · have h := h.2 (not_f c24)
    refine ⟨B11a, B11n, B11c, hb1.celli 3 rfl rfl, ?_⟩
    have h := h ww23 (ww16.heap.size) hx23 (Priv.cons hg1 hb1.lt Priv.nil)
    refine h.mono fun ee28 ww29 h => ?_
    obtain ⟨classv27, he, hk, h⟩ := h
    refine ⟨classv27, he, ?_⟩
    have hb1 := hk.blk hb1 (by simp)
    refine h.mono fun ee31 ww32 h => ?_
    obtain ⟨size30, he, hk, h⟩ := h
    refine ⟨size30, he, ?_⟩
    have hb1 := hk.blk hb1 (by simp)
    obtain ⟨hw1, hw2, h⟩ := h
    try rw [w64 hw1 hw2]
    refine bif_of (fun c33 => ?_) (fun c33 => ?_)
    · have h := h.1 (bne_t c33)
      exact h
    · have h := h.2 (bne_f c33)
      refine ⟨N12, hb1.celli 4 rfl rfl, ?_⟩
      refine bif_of (fun c34 => ?_) (fun c34 => ?_)
      · have h := h.1 (bne_t c34)
        exact h
      · have h := h.2 (bne_f c34)
        refine ⟨A10a, A10n, A10c, hb1.celli 2 rfl rfl, ?_⟩
        refine h.mono fun ee36 ww37 h => ?_
        obtain ⟨same35, he, hk, h⟩ := h
        refine ⟨same35, he, ?_⟩
        have hb1 := hk.blk hb1 (by simp)
        refine bif_of (fun c38 => ?_) (fun c38 => ?_)
        · have h := h.1 (not_t c38)
          exact h
        · have h := h.2 (not_f c38)
          refine ⟨B11a, B11n, B11c, hb1.celli 3 rfl rfl, ?_⟩
          exact h

theorem cachetteref03_Oracle_Open.go (o1 : Option Addr) (key2 : Int) (bound3a : Option Addr) (bound3n : Nat) (bound3c : Nat) (b4a : Option Addr) (b4n : Nat) (b4c : Nat) {R : Value → World → Prop} {w : World} (h : cachetteref03_Oracle_Open.N o1 key2 bound3a bound3n bound3c b4a b4n b4c R w) : Calls Try.prog 32 #[.pointer o1, .int .u64 key2, .slice bound3a bound3n bound3c, .slice b4a b4n b4c] w fun e w' => ∃ v, e = .returned v ∧ R v w' := cachetteref03_Oracle_Open.ok o1 key2 bound3a bound3n bound3c b4a b4n b4c (cachetteref03_Oracle_Open.up o1 key2 bound3a bound3n bound3c b4a b4n b4c h)
theorem cachetteref03_Oracle_Open.run (o1 : Option Addr) (key2 : Int) (bound3a : Option Addr) (bound3n : Nat) (bound3c : Nat) (b4a : Option Addr) (b4n : Nat) (b4c : Nat) {V : Value} {Q : World → Prop} {w : World} (h : cachetteref03_Oracle_Open.N o1 key2 bound3a bound3n bound3c b4a b4n b4c (fun v w' => v = V ∧ Q w') w) : Calls Try.prog 32 #[.pointer o1, .int .u64 key2, .slice bound3a bound3n bound3c, .slice b4a b4n b4c] w (Ret V Q) := (cachetteref03_Oracle_Open.go o1 key2 bound3a bound3n bound3c b4a b4n b4c h).mono fun e w' ⟨v, he, hv, hq⟩ => ⟨by rw [he, hv], hq⟩

/-- (*cachetteref03.Oracle).Wrap -/
def cachetteref03_Oracle_Wrap.M (o1 : Option Addr) (publicv2 : Int) (key3 : Int) (R : Value → World → Prop) (w : World) : Prop :=
  Calls Try.prog 37 #[.pointer o1, .int .u64 publicv2, .int .i64 4] w fun ee11 ww12 => ∃ (H4 : Int) (Kind5 : Int) (A6a : Option Addr) (A6n : Nat) (A6c : Nat) (B7a : Option Addr) (B7n : Nat) (B7c : Nat) (N8 : Int) (M9 : Int) (isv10 : Bool), ee11 = .returned (.tuple #[.agg #[.int .u64 H4, .int .i64 Kind5, .slice A6a A6n A6c, .slice B7a B7n B7c, .int .u64 N8, .int .u64 M9], .bool isv10]) ∧
  thenW (ww12.alloc (.cells #[.int .u64 0, .int .i64 0, .slice none 0 0, .slice none 0 0, .int .u64 0, .int .u64 0] 75)) fun ww13 =>
  canStore ww13 ((blk ww12.heap.size).add 0) ∧
  thenW (ww13.setCell ((blk ww12.heap.size).add 0) (.int .u64 H4)) fun ww14 =>
  canStore ww14 ((blk ww12.heap.size).add 1) ∧
  thenW (ww14.setCell ((blk ww12.heap.size).add 1) (.int .i64 Kind5)) fun ww15 =>
  canStore ww15 ((blk ww12.heap.size).add 2) ∧
  thenW (ww15.setCell ((blk ww12.heap.size).add 2) (.slice A6a A6n A6c)) fun ww16 =>
  canStore ww16 ((blk ww12.heap.size).add 3) ∧
  thenW (ww16.setCell ((blk ww12.heap.size).add 3) (.slice B7a B7n B7c)) fun ww17 =>
  canStore ww17 ((blk ww12.heap.size).add 4) ∧
  thenW (ww17.setCell ((blk ww12.heap.size).add 4) (.int .u64 N8)) fun ww18 =>
  canStore ww18 ((blk ww12.heap.size).add 5) ∧
  thenW (ww18.setCell ((blk ww12.heap.size).add 5) (.int .u64 M9)) fun ww19 =>
  bif !isv10 then (
  R (.tuple #[.slice none 0 0, .int .i64 20]) ww19) else (
  Calls Try.prog 37 #[.pointer o1, .int .u64 key3, .int .i64 2] ww19 fun ee27 ww28 => ∃ (H20 : Int) (Kind21 : Int) (A22a : Option Addr) (A22n : Nat) (A22c : Nat) (B23a : Option Addr) (B23n : Nat) (B23c : Nat) (N24 : Int) (M25 : Int) (isv26 : Bool), ee27 = .returned (.tuple #[.agg #[.int .u64 H20, .int .i64 Kind21, .slice A22a A22n A22c, .slice B23a B23n B23c, .int .u64 N24, .int .u64 M25], .bool isv26]) ∧
  thenW (ww28.alloc (.cells #[.int .u64 0, .int .i64 0, .slice none 0 0, .slice none 0 0, .int .u64 0, .int .u64 0] 75)) fun ww29 =>
  canStore ww29 ((blk ww28.heap.size).add 0) ∧
  thenW (ww29.setCell ((blk ww28.heap.size).add 0) (.int .u64 H20)) fun ww30 =>
  canStore ww30 ((blk ww28.heap.size).add 1) ∧
  thenW (ww30.setCell ((blk ww28.heap.size).add 1) (.int .i64 Kind21)) fun ww31 =>
  canStore ww31 ((blk ww28.heap.size).add 2) ∧
  thenW (ww31.setCell ((blk ww28.heap.size).add 2) (.slice A22a A22n A22c)) fun ww32 =>
  canStore ww32 ((blk ww28.heap.size).add 3) ∧
  thenW (ww32.setCell ((blk ww28.heap.size).add 3) (.slice B23a B23n B23c)) fun ww33 =>
  canStore ww33 ((blk ww28.heap.size).add 4) ∧
  thenW (ww33.setCell ((blk ww28.heap.size).add 4) (.int .u64 N24)) fun ww34 =>
  canStore ww34 ((blk ww28.heap.size).add 5) ∧
  thenW (ww34.setCell ((blk ww28.heap.size).add 5) (.int .u64 M25)) fun ww35 =>
  bif !isv26 then (
  R (.tuple #[.slice none 0 0, .int .i64 11]) ww35) else (
  Calls Try.prog 36 #[.pointer o1, .agg #[.int .u64 0, .int .i64 7, .slice none 0 0, .slice none 0 0, .int .u64 publicv2, .int .u64 key3]] ww35 fun ee37 ww38 => ∃ (put36 : Int), ee37 = .returned (.int .u64 put36) ∧
  Calls Try.prog 43 #[.int .u64 put36] ww38 fun ee40 ww41 => ∃ (eight39a : Option Addr) (eight39n : Nat) (eight39c : Nat), ee40 = .returned (.slice eight39a eight39n eight39c) ∧
  ∃ (a42a : Option Addr) (a42n : Nat) (a42c : Nat) (ww43 : World), (Builtin.append_ #[23, 3] 23 #[.slice eight39a eight39n eight39c, .int .i64 8]).run Try.prog ww41 = .ok (.slice a42a a42n a42c) ww43 ∧
  R (.tuple #[.slice a42a a42n a42c, .int .i64 0]) ww43))

theorem cachetteref03_Oracle_Wrap.eq (o1 : Option Addr) (publicv2 : Int) (key3 : Int) (R : Value → World → Prop) (w : World) : mfunc Try.prog [] 29 [.pointer o1, .int .u64 publicv2, .int .u64 key3] R w = cachetteref03_Oracle_Wrap.M o1 publicv2 key3 R w := by kernel_rfl
theorem cachetteref03_Oracle_Wrap.ok (o1 : Option Addr) (publicv2 : Int) (key3 : Int) {R : Value → World → Prop} {w : World} (h : cachetteref03_Oracle_Wrap.M o1 publicv2 key3 R w) : Calls Try.prog 29 #[.pointer o1, .int .u64 publicv2, .int .u64 key3] w fun e w' => ∃ v, e = .returned v ∧ R v w' :=
  mfunc_ok follows (H := []) (args := [.pointer o1, .int .u64 publicv2, .int .u64 key3]) (by rw [cachetteref03_Oracle_Wrap.eq]; exact h)

def cachetteref03_Oracle_Wrap.N (o1 : Option Addr) (publicv2 : Int) (key3 : Int) (R : Value → World → Prop) (w : World) : Prop :=
  Calls Try.prog 37 #[.pointer o1, .int .u64 publicv2, .int .i64 4] w fun ee11 ww12 => ∃ (H4 : Int) (Kind5 : Int) (A6a : Option Addr) (A6n : Nat) (A6c : Nat) (B7a : Option Addr) (B7n : Nat) (B7c : Nat) (N8 : Int) (M9 : Int) (isv10 : Bool), ee11 = .returned (.tuple #[.agg #[.int .u64 H4, .int .i64 Kind5, .slice A6a A6n A6c, .slice B7a B7n B7c, .int .u64 N8, .int .u64 M9], .bool isv10]) ∧
  (isv10 = false →
    ∀ (ww19 : World), Ext no ww12 ww19 →
    R (.tuple #[.slice none 0 0, .int .i64 20]) ww19) ∧
  (isv10 = true →
    ∀ (ww19 : World), Ext no ww12 ww19 →
    Calls Try.prog 37 #[.pointer o1, .int .u64 key3, .int .i64 2] ww19 fun ee30 ww31 => ∃ (H23 : Int) (Kind24 : Int) (A25a : Option Addr) (A25n : Nat) (A25c : Nat) (B26a : Option Addr) (B26n : Nat) (B26c : Nat) (N27 : Int) (M28 : Int) (isv29 : Bool), ee30 = .returned (.tuple #[.agg #[.int .u64 H23, .int .i64 Kind24, .slice A25a A25n A25c, .slice B26a B26n B26c, .int .u64 N27, .int .u64 M28], .bool isv29]) ∧
    (isv29 = false →
      ∀ (ww38 : World), Ext no ww31 ww38 →
      R (.tuple #[.slice none 0 0, .int .i64 11]) ww38) ∧
    (isv29 = true →
      ∀ (ww38 : World), Ext no ww31 ww38 →
      Calls Try.prog 36 #[.pointer o1, .agg #[.int .u64 0, .int .i64 7, .slice none 0 0, .slice none 0 0, .int .u64 publicv2, .int .u64 key3]] ww38 fun ee43 ww44 => ∃ (put42 : Int), ee43 = .returned (.int .u64 put42) ∧
      Calls Try.prog 43 #[.int .u64 put42] ww44 fun ee46 ww47 => ∃ (eight45a : Option Addr) (eight45n : Nat) (eight45c : Nat), ee46 = .returned (.slice eight45a eight45n eight45c) ∧
      ∃ (a48a : Option Addr) (a48n : Nat) (a48c : Nat) (ww49 : World), (Builtin.append_ #[23, 3] 23 #[.slice eight45a eight45n eight45c, .int .i64 8]).run Try.prog ww47 = .ok (.slice a48a a48n a48c) ww49 ∧
      R (.tuple #[.slice a48a a48n a48c, .int .i64 0]) ww49))

theorem cachetteref03_Oracle_Wrap.up (o1 : Option Addr) (publicv2 : Int) (key3 : Int) {R : Value → World → Prop} {w : World} (h : cachetteref03_Oracle_Wrap.N o1 publicv2 key3 R w) : cachetteref03_Oracle_Wrap.M o1 publicv2 key3 R w := by
  unfold cachetteref03_Oracle_Wrap.M
  unfold cachetteref03_Oracle_Wrap.N at h
  refine h.mono fun ee11 ww12 h => ?_
  obtain ⟨H4, Kind5, A6a, A6n, A6c, B7a, B7n, B7c, N8, M9, isv10, he, h⟩ := h
  refine ⟨H4, Kind5, A6a, A6n, A6c, B7a, B7n, B7c, N8, M9, isv10, he, ?_⟩
  refine thenW_in fun ww13 e13 => ?_
  have hb1 := Blk.of_new e13
  have hg1 := ((Ext.refl no ww12)).size
  have hx13 := (Ext.refl no ww12).x_alloc e13
  refine ⟨hb1.cani 0 rfl rfl, thenW_in fun ww14 e14 => ?_⟩
  have hx14 := hx13.x_set (q := ww12.heap.size) (i := 0) rfl (.inr hg1) e14
  have hb1 := hb1.seti 0 rfl e14
  refine ⟨hb1.cani 1 rfl rfl, thenW_in fun ww15 e15 => ?_⟩
  have hx15 := hx14.x_set (q := ww12.heap.size) (i := 1) rfl (.inr hg1) e15
  have hb1 := hb1.seti 1 rfl e15
  refine ⟨hb1.cani 2 rfl rfl, thenW_in fun ww16 e16 => ?_⟩
  have hx16 := hx15.x_set (q := ww12.heap.size) (i := 2) rfl (.inr hg1) e16
  have hb1 := hb1.seti 2 rfl e16
  refine ⟨hb1.cani 3 rfl rfl, thenW_in fun ww17 e17 => ?_⟩
  have hx17 := hx16.x_set (q := ww12.heap.size) (i := 3) rfl (.inr hg1) e17
  have hb1 := hb1.seti 3 rfl e17
  refine ⟨hb1.cani 4 rfl rfl, thenW_in fun ww18 e18 => ?_⟩
  have hx18 := hx17.x_set (q := ww12.heap.size) (i := 4) rfl (.inr hg1) e18
  have hb1 := hb1.seti 4 rfl e18
  refine ⟨hb1.cani 5 rfl rfl, thenW_in fun ww19 e19 => ?_⟩
  have hx19 := hx18.x_set (q := ww12.heap.size) (i := 5) rfl (.inr hg1) e19
  have hb1 := hb1.seti 5 rfl e19
  refine bif_of (fun c20 => ?_) (fun c20 => ?_)
  · have h := h.1 (not_t c20)
    have h := h ww19 hx19
    exact h
  · have h := h.2 (not_f c20)
    have h := h ww19 hx19
    refine h.mono fun ee30 ww31 h => ?_
    obtain ⟨H23, Kind24, A25a, A25n, A25c, B26a, B26n, B26c, N27, M28, isv29, he, h⟩ := h
    refine ⟨H23, Kind24, A25a, A25n, A25c, B26a, B26n, B26c, N27, M28, isv29, he, ?_⟩
    refine thenW_in fun ww32 e32 => ?_
    have hb2 := Blk.of_new e32
    have hg2 := ((Ext.refl no ww31)).size
    have hx32 := (Ext.refl no ww31).x_alloc e32
    refine ⟨hb2.cani 0 rfl rfl, thenW_in fun ww33 e33 => ?_⟩
    have hx33 := hx32.x_set (q := ww31.heap.size) (i := 0) rfl (.inr hg2) e33
    have hb2 := hb2.seti 0 rfl e33
    refine ⟨hb2.cani 1 rfl rfl, thenW_in fun ww34 e34 => ?_⟩
    have hx34 := hx33.x_set (q := ww31.heap.size) (i := 1) rfl (.inr hg2) e34
    have hb2 := hb2.seti 1 rfl e34
    refine ⟨hb2.cani 2 rfl rfl, thenW_in fun ww35 e35 => ?_⟩
    have hx35 := hx34.x_set (q := ww31.heap.size) (i := 2) rfl (.inr hg2) e35
    have hb2 := hb2.seti 2 rfl e35
    refine ⟨hb2.cani 3 rfl rfl, thenW_in fun ww36 e36 => ?_⟩
    have hx36 := hx35.x_set (q := ww31.heap.size) (i := 3) rfl (.inr hg2) e36
    have hb2 := hb2.seti 3 rfl e36
    refine ⟨hb2.cani 4 rfl rfl, thenW_in fun ww37 e37 => ?_⟩
    have hx37 := hx36.x_set (q := ww31.heap.size) (i := 4) rfl (.inr hg2) e37
    have hb2 := hb2.seti 4 rfl e37
    refine ⟨hb2.cani 5 rfl rfl, thenW_in fun ww38 e38 => ?_⟩
    have hx38 := hx37.x_set (q := ww31.heap.size) (i := 5) rfl (.inr hg2) e38
    have hb2 := hb2.seti 5 rfl e38
    refine bif_of (fun c39 => ?_) (fun c39 => ?_)
    · have h := h.1 (not_t c39)
      have h := h ww38 hx38
      exact h
    · have h := h.2 (not_f c39)
      have h := h ww38 hx38
      refine h.mono fun ee43 ww44 h => ?_
      obtain ⟨put42, he, h⟩ := h
      refine ⟨put42, he, ?_⟩
      refine h.mono fun ee46 ww47 h => ?_
      obtain ⟨eight45a, eight45n, eight45c, he, h⟩ := h
      refine ⟨eight45a, eight45n, eight45c, he, ?_⟩
      obtain ⟨a48a, a48n, a48c, ww49, hr, h⟩ := h
      refine ⟨a48a, a48n, a48c, ww49, hr, ?_⟩
      exact h

theorem cachetteref03_Oracle_Wrap.go (o1 : Option Addr) (publicv2 : Int) (key3 : Int) {R : Value → World → Prop} {w : World} (h : cachetteref03_Oracle_Wrap.N o1 publicv2 key3 R w) : Calls Try.prog 29 #[.pointer o1, .int .u64 publicv2, .int .u64 key3] w fun e w' => ∃ v, e = .returned v ∧ R v w' := cachetteref03_Oracle_Wrap.ok o1 publicv2 key3 (cachetteref03_Oracle_Wrap.up o1 publicv2 key3 h)
theorem cachetteref03_Oracle_Wrap.run (o1 : Option Addr) (publicv2 : Int) (key3 : Int) {V : Value} {Q : World → Prop} {w : World} (h : cachetteref03_Oracle_Wrap.N o1 publicv2 key3 (fun v w' => v = V ∧ Q w') w) : Calls Try.prog 29 #[.pointer o1, .int .u64 publicv2, .int .u64 key3] w (Ret V Q) := (cachetteref03_Oracle_Wrap.go o1 publicv2 key3 h).mono fun e w' ⟨v, he, hv, hq⟩ => ⟨by rw [he, hv], hq⟩

/-- (*cachetteref03.Oracle).Unwrap -/
def cachetteref03_Oracle_Unwrap.M (o1 : Option Addr) (secret2 : Int) (b3a : Option Addr) (b3n : Nat) (b3c : Nat) (R : Value → World → Prop) (w : World) : Prop :=
  Calls Try.prog 47 #[.slice b3a b3n b3c] w fun ee5 ww6 => ∃ (handle4 : Int), ee5 = .returned (.int .u64 handle4) ∧
  Calls Try.prog 37 #[.pointer o1, .int .u64 handle4, .int .i64 7] ww6 fun ee14 ww15 => ∃ (H7 : Int) (Kind8 : Int) (A9a : Option Addr) (A9n : Nat) (A9c : Nat) (B10a : Option Addr) (B10n : Nat) (B10c : Nat) (N11 : Int) (M12 : Int) (isv13 : Bool), ee14 = .returned (.tuple #[.agg #[.int .u64 H7, .int .i64 Kind8, .slice A9a A9n A9c, .slice B10a B10n B10c, .int .u64 N11, .int .u64 M12], .bool isv13]) ∧
  thenW (ww15.alloc (.cells #[.int .u64 0, .int .i64 0, .slice none 0 0, .slice none 0 0, .int .u64 0, .int .u64 0] 75)) fun ww16 =>
  canStore ww16 ((blk ww15.heap.size).add 0) ∧
  thenW (ww16.setCell ((blk ww15.heap.size).add 0) (.int .u64 H7)) fun ww17 =>
  canStore ww17 ((blk ww15.heap.size).add 1) ∧
  thenW (ww17.setCell ((blk ww15.heap.size).add 1) (.int .i64 Kind8)) fun ww18 =>
  canStore ww18 ((blk ww15.heap.size).add 2) ∧
  thenW (ww18.setCell ((blk ww15.heap.size).add 2) (.slice A9a A9n A9c)) fun ww19 =>
  canStore ww19 ((blk ww15.heap.size).add 3) ∧
  thenW (ww19.setCell ((blk ww15.heap.size).add 3) (.slice B10a B10n B10c)) fun ww20 =>
  canStore ww20 ((blk ww15.heap.size).add 4) ∧
  thenW (ww20.setCell ((blk ww15.heap.size).add 4) (.int .u64 N11)) fun ww21 =>
  canStore ww21 ((blk ww15.heap.size).add 5) ∧
  thenW (ww21.setCell ((blk ww15.heap.size).add 5) (.int .u64 M12)) fun ww22 =>
  bif !isv13 then (
  R (.tuple #[.int .u64 0, .int .i64 4]) ww22) else (
  bif (b3n : Int) != 16 then (
  R (.tuple #[.int .u64 0, .int .i64 4]) ww22) else (
  ∃ (N23 : Int), ww22.cell? ((blk ww15.heap.size).add 4) = some (.int .u64 N23) ∧
  Calls Try.prog 37 #[.pointer o1, .int .u64 N23, .int .i64 4] ww22 fun ee31 ww32 => ∃ (H24 : Int) (Kind25 : Int) (A26a : Option Addr) (A26n : Nat) (A26c : Nat) (B27a : Option Addr) (B27n : Nat) (B27c : Nat) (N28 : Int) (M29 : Int) (isv30 : Bool), ee31 = .returned (.tuple #[.agg #[.int .u64 H24, .int .i64 Kind25, .slice A26a A26n A26c, .slice B27a B27n B27c, .int .u64 N28, .int .u64 M29], .bool isv30]) ∧
  thenW (ww32.alloc (.cells #[.int .u64 0, .int .i64 0, .slice none 0 0, .slice none 0 0, .int .u64 0, .int .u64 0] 75)) fun ww33 =>
  canStore ww33 ((blk ww32.heap.size).add 0) ∧
  thenW (ww33.setCell ((blk ww32.heap.size).add 0) (.int .u64 H24)) fun ww34 =>
  canStore ww34 ((blk ww32.heap.size).add 1) ∧
  thenW (ww34.setCell ((blk ww32.heap.size).add 1) (.int .i64 Kind25)) fun ww35 =>
  canStore ww35 ((blk ww32.heap.size).add 2) ∧
  thenW (ww35.setCell ((blk ww32.heap.size).add 2) (.slice A26a A26n A26c)) fun ww36 =>
  canStore ww36 ((blk ww32.heap.size).add 3) ∧
  thenW (ww36.setCell ((blk ww32.heap.size).add 3) (.slice B27a B27n B27c)) fun ww37 =>
  canStore ww37 ((blk ww32.heap.size).add 4) ∧
  thenW (ww37.setCell ((blk ww32.heap.size).add 4) (.int .u64 N28)) fun ww38 =>
  canStore ww38 ((blk ww32.heap.size).add 5) ∧
  thenW (ww38.setCell ((blk ww32.heap.size).add 5) (.int .u64 M29)) fun ww39 =>
  ∃ (N40 : Int), ww39.cell? ((blk ww32.heap.size).add 4) = some (.int .u64 N40) ∧
  bif N40 != secret2 then (
  R (.tuple #[.int .u64 0, .int .i64 11]) ww39) else (
  ∃ (M41 : Int), ww39.cell? ((blk ww15.heap.size).add 5) = some (.int .u64 M41) ∧
  R (.tuple #[.int .u64 M41, .int .i64 0]) ww39)))

theorem cachetteref03_Oracle_Unwrap.eq (o1 : Option Addr) (secret2 : Int) (b3a : Option Addr) (b3n : Nat) (b3c : Nat) (R : Value → World → Prop) (w : World) : mfunc Try.prog [] 34 [.pointer o1, .int .u64 secret2, .slice b3a b3n b3c] R w = cachetteref03_Oracle_Unwrap.M o1 secret2 b3a b3n b3c R w := by kernel_rfl
theorem cachetteref03_Oracle_Unwrap.ok (o1 : Option Addr) (secret2 : Int) (b3a : Option Addr) (b3n : Nat) (b3c : Nat) {R : Value → World → Prop} {w : World} (h : cachetteref03_Oracle_Unwrap.M o1 secret2 b3a b3n b3c R w) : Calls Try.prog 34 #[.pointer o1, .int .u64 secret2, .slice b3a b3n b3c] w fun e w' => ∃ v, e = .returned v ∧ R v w' :=
  mfunc_ok follows (H := []) (args := [.pointer o1, .int .u64 secret2, .slice b3a b3n b3c]) (by rw [cachetteref03_Oracle_Unwrap.eq]; exact h)

def cachetteref03_Oracle_Unwrap.N (o1 : Option Addr) (secret2 : Int) (b3a : Option Addr) (b3n : Nat) (b3c : Nat) (R : Value → World → Prop) (w : World) : Prop :=
  Calls Try.prog 47 #[.slice b3a b3n b3c] w fun ee5 ww6 => ∃ (handle4 : Int), ee5 = .returned (.int .u64 handle4) ∧
  Calls Try.prog 37 #[.pointer o1, .int .u64 handle4, .int .i64 7] ww6 fun ee14 ww15 => ∃ (H7 : Int) (Kind8 : Int) (A9a : Option Addr) (A9n : Nat) (A9c : Nat) (B10a : Option Addr) (B10n : Nat) (B10c : Nat) (N11 : Int) (M12 : Int) (isv13 : Bool), ee14 = .returned (.tuple #[.agg #[.int .u64 H7, .int .i64 Kind8, .slice A9a A9n A9c, .slice B10a B10n B10c, .int .u64 N11, .int .u64 M12], .bool isv13]) ∧
  (isv13 = false →
    ∀ (ww22 : World), Ext no ww15 ww22 →
    R (.tuple #[.int .u64 0, .int .i64 4]) ww22) ∧
  (isv13 = true →
    ((b3n : Int) ≠ 16 →
      ∀ (ww22 : World), Ext no ww15 ww22 →
      R (.tuple #[.int .u64 0, .int .i64 4]) ww22) ∧
    ((b3n : Int) = 16 →
      ∀ (ww22 : World) (p27 : Nat), Ext no ww15 ww22 → Priv ww15 ww22 [p27] →
      Calls Try.prog 37 #[.pointer o1, .int .u64 N11, .int .i64 4] ww22 fun ee35 ww36 => ∃ (H28 : Int) (Kind29 : Int) (A30a : Option Addr) (A30n : Nat) (A30c : Nat) (B31a : Option Addr) (B31n : Nat) (B31c : Nat) (N32 : Int) (M33 : Int) (isv34 : Bool), ee35 = .returned (.tuple #[.agg #[.int .u64 H28, .int .i64 Kind29, .slice A30a A30n A30c, .slice B31a B31n B31c, .int .u64 N32, .int .u64 M33], .bool isv34]) ∧
      Keep [p27] ww22 ww36 ∧
      (N32 ≠ secret2 →
        ∀ (ww43 : World), Ext no ww36 ww43 →
        R (.tuple #[.int .u64 0, .int .i64 11]) ww43) ∧
      (N32 = secret2 →
        ∀ (ww43 : World), Ext no ww36 ww43 →
        R (.tuple #[.int .u64 M12, .int .i64 0]) ww43)))

theorem cachetteref03_Oracle_Unwrap.up (o1 : Option Addr) (secret2 : Int) (b3a : Option Addr) (b3n : Nat) (b3c : Nat) {R : Value → World → Prop} {w : World} (h : cachetteref03_Oracle_Unwrap.N o1 secret2 b3a b3n b3c R w) : cachetteref03_Oracle_Unwrap.M o1 secret2 b3a b3n b3c R w := by
  unfold cachetteref03_Oracle_Unwrap.M
  unfold cachetteref03_Oracle_Unwrap.N at h
  refine h.mono fun ee5 ww6 h => ?_
  obtain ⟨handle4, he, h⟩ := h
  refine ⟨handle4, he, ?_⟩
  refine h.mono fun ee14 ww15 h => ?_
  obtain ⟨H7, Kind8, A9a, A9n, A9c, B10a, B10n, B10c, N11, M12, isv13, he, h⟩ := h
  refine ⟨H7, Kind8, A9a, A9n, A9c, B10a, B10n, B10c, N11, M12, isv13, he, ?_⟩
  refine thenW_in fun ww16 e16 => ?_
  have hb1 := Blk.of_new e16
  have hg1 := ((Ext.refl no ww15)).size
  have hx16 := (Ext.refl no ww15).x_alloc e16
  refine ⟨hb1.cani 0 rfl rfl, thenW_in fun ww17 e17 => ?_⟩
  have hx17 := hx16.x_set (q := ww15.heap.size) (i := 0) rfl (.inr hg1) e17
  have hb1 := hb1.seti 0 rfl e17
  refine ⟨hb1.cani 1 rfl rfl, thenW_in fun ww18 e18 => ?_⟩
  have hx18 := hx17.x_set (q := ww15.heap.size) (i := 1) rfl (.inr hg1) e18
  have hb1 := hb1.seti 1 rfl e18
  refine ⟨hb1.cani 2 rfl rfl, thenW_in fun ww19 e19 => ?_⟩
  have hx19 := hx18.x_set (q := ww15.heap.size) (i := 2) rfl (.inr hg1) e19
  have hb1 := hb1.seti 2 rfl e19
  refine ⟨hb1.cani 3 rfl rfl, thenW_in fun ww20 e20 => ?_⟩
  have hx20 := hx19.x_set (q := ww15.heap.size) (i := 3) rfl (.inr hg1) e20
  have hb1 := hb1.seti 3 rfl e20
  refine ⟨hb1.cani 4 rfl rfl, thenW_in fun ww21 e21 => ?_⟩
  have hx21 := hx20.x_set (q := ww15.heap.size) (i := 4) rfl (.inr hg1) e21
  have hb1 := hb1.seti 4 rfl e21
  refine ⟨hb1.cani 5 rfl rfl, thenW_in fun ww22 e22 => ?_⟩
  have hx22 := hx21.x_set (q := ww15.heap.size) (i := 5) rfl (.inr hg1) e22
  have hb1 := hb1.seti 5 rfl e22
  refine bif_of (fun c23 => ?_) (fun c23 => ?_)
  · have h := h.1 (not_t c23)
    have h := h ww22 hx22
    exact h
  · have h := h.2 (not_f c23)
    refine bif_of (fun c25 => ?_) (fun c25 => ?_)
    · have h := h.1 (bne_t c25)
      have h := h ww22 hx22
      exact h
    · have h := h.2 (bne_f c25)
      refine ⟨N11, hb1.celli 4 rfl rfl, ?_⟩
      have h := h ww22 (ww15.heap.size) hx22 (Priv.cons hg1 hb1.lt Priv.nil)
      refine h.mono fun ee35 ww36 h => ?_
      obtain ⟨H28, Kind29, A30a, A30n, A30c, B31a, B31n, B31c, N32, M33, isv34, he, hk, h⟩ := h
      refine ⟨H28, Kind29, A30a, A30n, A30c, B31a, B31n, B31c, N32, M33, isv34, he, ?_⟩
      have hb1 := hk.blk hb1 (by simp)
      refine thenW_in fun ww37 e37 => ?_
      have hb2 := Blk.of_new e37
      have hg2 := ((Ext.refl no ww36)).size
      have hb1_2 := Nat.ne_of_lt hb1.lt
      have hb1 := hb1.x_alloc e37
      have hx37 := (Ext.refl no ww36).x_alloc e37
      refine ⟨hb2.cani 0 rfl rfl, thenW_in fun ww38 e38 => ?_⟩
      have hx38 := hx37.x_set (q := ww36.heap.size) (i := 0) rfl (.inr hg2) e38
      have hb1 := hb1.oth (q := ww36.heap.size) (i := 0) rfl hb1_2 e38
      have hb2 := hb2.seti 0 rfl e38
      refine ⟨hb2.cani 1 rfl rfl, thenW_in fun ww39 e39 => ?_⟩
      have hx39 := hx38.x_set (q := ww36.heap.size) (i := 1) rfl (.inr hg2) e39
      have hb1 := hb1.oth (q := ww36.heap.size) (i := 1) rfl hb1_2 e39
      have hb2 := hb2.seti 1 rfl e39
      refine ⟨hb2.cani 2 rfl rfl, thenW_in fun ww40 e40 => ?_⟩
      have hx40 := hx39.x_set (q := ww36.heap.size) (i := 2) rfl (.inr hg2) e40
      have hb1 := hb1.oth (q := ww36.heap.size) (i := 2) rfl hb1_2 e40
      have hb2 := hb2.seti 2 rfl e40
      refine ⟨hb2.cani 3 rfl rfl, thenW_in fun ww41 e41 => ?_⟩
      have hx41 := hx40.x_set (q := ww36.heap.size) (i := 3) rfl (.inr hg2) e41
      have hb1 := hb1.oth (q := ww36.heap.size) (i := 3) rfl hb1_2 e41
      have hb2 := hb2.seti 3 rfl e41
      refine ⟨hb2.cani 4 rfl rfl, thenW_in fun ww42 e42 => ?_⟩
      have hx42 := hx41.x_set (q := ww36.heap.size) (i := 4) rfl (.inr hg2) e42
      have hb1 := hb1.oth (q := ww36.heap.size) (i := 4) rfl hb1_2 e42
      have hb2 := hb2.seti 4 rfl e42
      refine ⟨hb2.cani 5 rfl rfl, thenW_in fun ww43 e43 => ?_⟩
      have hx43 := hx42.x_set (q := ww36.heap.size) (i := 5) rfl (.inr hg2) e43
      have hb1 := hb1.oth (q := ww36.heap.size) (i := 5) rfl hb1_2 e43
      have hb2 := hb2.seti 5 rfl e43
      refine ⟨N32, hb2.celli 4 rfl rfl, ?_⟩
      refine bif_of (fun c44 => ?_) (fun c44 => ?_)
      · have h := h.1 (bne_t c44)
        have h := h ww43 hx43
        exact h
      · have h := h.2 (bne_f c44)
        refine ⟨M12, hb1.celli 5 rfl rfl, ?_⟩
        have h := h ww43 hx43
        exact h

theorem cachetteref03_Oracle_Unwrap.go (o1 : Option Addr) (secret2 : Int) (b3a : Option Addr) (b3n : Nat) (b3c : Nat) {R : Value → World → Prop} {w : World} (h : cachetteref03_Oracle_Unwrap.N o1 secret2 b3a b3n b3c R w) : Calls Try.prog 34 #[.pointer o1, .int .u64 secret2, .slice b3a b3n b3c] w fun e w' => ∃ v, e = .returned v ∧ R v w' := cachetteref03_Oracle_Unwrap.ok o1 secret2 b3a b3n b3c (cachetteref03_Oracle_Unwrap.up o1 secret2 b3a b3n b3c h)
theorem cachetteref03_Oracle_Unwrap.run (o1 : Option Addr) (secret2 : Int) (b3a : Option Addr) (b3n : Nat) (b3c : Nat) {V : Value} {Q : World → Prop} {w : World} (h : cachetteref03_Oracle_Unwrap.N o1 secret2 b3a b3n b3c (fun v w' => v = V ∧ Q w') w) : Calls Try.prog 34 #[.pointer o1, .int .u64 secret2, .slice b3a b3n b3c] w (Ret V Q) := (cachetteref03_Oracle_Unwrap.go o1 secret2 b3a b3n b3c h).mono fun e w' ⟨v, he, hv, hq⟩ => ⟨by rw [he, hv], hq⟩

def sealR (d : List Int) (L : List RRow) (k : Int) (b p : List UInt8) : (List UInt8 × Int) × List Int × List RRow :=
  match isR L k 2 with
  | none => (([], 11), d, L)
  | some _ => if classOf p.length < 0 then (([], 3), d, L) else
    ((boxL (putR d L ⟨0, 6, b, p, k, 0⟩).1.toNat (sizeN (classOf p.length)), 0), (putR d L ⟨0, 6, b, p, k, 0⟩).2)
def openR (L : List RRow) (k : Int) (b x : List UInt8) : List UInt8 × Int :=
  match isR L (handL x) 6 with
  | none => ([], 4)
  | some r => if x.length ≠ 8 + sizeN (classOf r.B.length) then ([], 4) else if r.n ≠ k then ([], 11) else if r.A ≠ b then ([], 5) else (r.B, 0)
def wrapR (d : List Int) (L : List RRow) (p k : Int) : (List UInt8 × Int) × List Int × List RRow :=
  match isR L p 4 with
  | none => (([], 20), d, L)
  | some _ => match isR L k 2 with
    | none => (([], 11), d, L)
    | some _ => ((boxL (putR d L ⟨0, 7, [], [], p, k⟩).1.toNat 8, 0), (putR d L ⟨0, 7, [], [], p, k⟩).2)
def unwrapR (L : List RRow) (s : Int) (x : List UInt8) : Int × Int :=
  match isR L (handL x) 7 with
  | none => (0, 4)
  | some r => if x.length ≠ 16 then (0, 4) else if ((isR L r.n 4).map RRow.n).getD 0 ≠ s then (0, 11) else (r.m, 0)
theorem freshR_rng {d used : List Int} (hd : ∀ x ∈ d, 0 ≤ x ∧ x < 18446744073709551616) (hu : used.length < 1000000) : 0 ≤ (freshR d used).1 ∧ (freshR d used).1 < 18446744073709551616 := by
  unfold freshR
  cases hp : pickD d used with
  | some q => obtain ⟨x, r⟩ := q; exact hd x (pickD_spec hp).2.2
  | none =>
    obtain ⟨a, b, _⟩ := pickN_spec used (used.length + 1) 1 (Int.le_refl _) (gap used _ _ (by omega))
    exact ⟨by show 0 ≤ pickN _ _ _; omega, by show pickN _ _ _ < _; omega⟩
theorem boxL_more (h m : Nat) : boxL h m = boxL h 0 ++ List.replicate m 0 := by rw [boxL_eq, boxL_eq]; simp
theorem sizeN_pos {c : Int} (h0 : 0 ≤ c) (h7 : c < 7) : 0 < sizeN c := by
  unfold sizeN
  rw [if_pos ⟨h0, h7⟩]
  exact Nat.mul_pos (by decide) (Nat.pow_pos (by decide))
section
variable {w w' : World} {o o' : Own} {k : Nat} {K : Nat → Prop} {d : List Int} {L : List RRow}
/-- bytes that are handed out, and what then is. -/
def Gb (K : Nat → Prop) (w : World) (o : Own) (r : List UInt8 × Int) (Q : World → Own → Prop) (e : Ending) (w' : World) : Prop := ∃ o' a' c', e = .returned (.tuple #[.slice a' r.1.length c', .int .i64 r.2]) ∧ Step K w o w' o' ∧ Row w' o' a' (bytesV r.1) ∧ r.1.length ≤ c' ∧ Q w' o'
theorem rSeal_spec (h : ROrc w o k d L) (hk : ROk w o d L) (key : Int) {ba pa : Option Addr} {bc pc : Nat} {b p : List UInt8} (hb : Row w o ba (bytesV b)) (hbc : b.length ≤ bc) (hp : Row w o pa (bytesV p)) (hpc : p.length ≤ pc) :
    Calls Try.prog 27 #[.pointer (some (blk k)), .int .u64 key, .slice ba b.length bc, .slice pa p.length pc] w (Gb (fun j => j = k) w o (sealR d L key b p).1 fun w' o' => ROrc w' o' k (sealR d L key b p).2.1 (sealR d L key b p).2.2) := by
  refine (cachetteref03_Oracle_Seal.go _ _ _ _ _ _ _ _ (R := fun v w' => ∃ o' a' c', v = .tuple #[.slice a' (sealR d L key b p).1.1.length c', .int .i64 (sealR d L key b p).1.2] ∧ Step (fun j => j = k) w o w' o' ∧ Row w' o' a' (bytesV (sealR d L key b p).1.1) ∧ (sealR d L key b p).1.1.length ≤ c' ∧ ROrc w' o' k (sealR d L key b p).2.1 (sealR d L key b p).2.2) ?_).mono fun e w' ⟨v, he, o', a', c', hv, hw⟩ => ⟨o', a', c', by rw [he, hv], hw⟩
  unfold cachetteref03_Oracle_Seal.N
  obtain ⟨R, hLR, h0⟩ := id h
  have hlen : L.length = R.length := by rw [hLR, List.length_map]
  have hk1 := hk.short
  refine (is_spec h0 hk.tags (by omega) key 2).mono fun e w13 ⟨X13, hor⟩ => ?_
  rw [← hLR] at hor
  have s13 := Step.of_no X13 hk.tags
  rcases hor with ⟨hn, he⟩ | ⟨y, hy, hn, he⟩
  · refine ⟨_, _, _, _, _, _, _, _, _, _, _, he, fun _ w20 X20 => ?_, fun h => (by cases h)⟩
    have s20 := s13.trans (Step.of_no X20 s13.ok)
    have hres : sealR d L key b p = (([], 11), d, L) := by unfold sealR; rw [hn]
    rw [hres]
    exact ⟨_, none, 0, rfl, s20.none, Row.nil _ _ _, Nat.le_refl _, h.step s20 id⟩
  · refine ⟨_, _, _, _, _, _, _, _, _, _, _, he, fun h => (by cases h), fun _ w20 X20 => ?_⟩
    have s20 := s13.trans (Step.of_no X20 s13.ok)
    refine (rClass_spec p.length w20).mono fun e w26 ⟨he, X26⟩ => ⟨_, he, fun hneg => ?_, fun hpos => ?_⟩
    · have s26 := s20.trans (Step.of_no X26 s20.ok)
      have hres : sealR d L key b p = (([], 3), d, L) := by unfold sealR; rw [hn]; exact if_pos hneg
      rw [hres]
      exact ⟨_, none, 0, rfl, s26.none, Row.nil _ _ _, Nat.le_refl _, h.step s26 id⟩
    · have s26 := s20.trans (Step.of_no X26 s20.ok)
      have hres : sealR d L key b p = ((boxL (putR d L ⟨0, 6, b, p, key, 0⟩).1.toNat (sizeN (classOf p.length)), 0), (putR d L ⟨0, 6, b, p, key, 0⟩).2) := by unfold sealR; rw [hn]; exact if_neg (by omega)
      rw [hres]
      refine (put_spec (h.step s26 id) s26.ok hk.draws hk.short ⟨⟨0, 6, b, p, key, 0⟩, ba, bc, pa, pc⟩ ⟨hb.step s26, hp.step s26, hbc, hpc⟩).mono fun e w30 ⟨o30, he, s30, h30⟩ => ⟨_, he, ?_⟩
      have hrng := freshR_rng (used := L.map RRow.h) hk.draws (by rw [List.length_map]; exact hk.short)
      obtain ⟨z, hz⟩ : ∃ z : Nat, (putR d L ⟨0, 6, b, p, key, 0⟩).1 = z := ⟨_, (Int.toNat_of_nonneg hrng.1).symm⟩
      have hz2 : z < 18446744073709551616 := by have : (putR d L ⟨0, 6, b, p, key, 0⟩).1 < 18446744073709551616 := hrng.2; omega
      rw [hz, Int.toNat_natCast]
      refine (rEight_spec hz2 w30).mono fun e w33 ⟨ea, ec, he, hO, X33⟩ => ⟨_, _, _, he, ?_⟩
      have s33' := Step.of_no X33 s30.ok
      refine (rSize_spec (classOf p.length) w33).mono fun e w36 ⟨he, X36⟩ => ⟨_, he, ?_⟩
      have s36' := s33'.trans (Step.of_no X36 s33'.ok)
      have hcr := classOf_range p.length
      have hsz := sizeN_pos hpos hcr.2
      have hsl := sizeN_le (classOf p.length)
      obtain ⟨a', c', w38, hr, hO', hx⟩ := OwnB.appendz (hO.no X36) (Nat.le_trans X33.size X36.size) hsz (by omega) (by rw [boxL_length]; omega)
      rw [← boxL_more] at hr hO'
      have X : Ext no w30 w38 := (X33.trans X36).then hx fun b hb => .inr hb
      have s38 := Step.of_no X s30.ok
      exact ⟨a', _, c', w38, hr, _, a', c', rfl, (s26.none.trans s30).trans s38.none, Row.fresh hO'.row fun ad ha => (hO'.fr ad ha).1, hO'.le, h30.step s38 id⟩
theorem rOpen_spec (h : ROrc w o k d L) (hk : ROk w o d L) (key : Int) {ba xa : Option Addr} {bc xc : Nat} {b x : List UInt8} (hb : Row w o ba (bytesV b)) (hx : Row w o xa (bytesV x)) (hxl : x.length < 1000000) :
    Calls Try.prog 32 #[.pointer (some (blk k)), .int .u64 key, .slice ba b.length bc, .slice xa x.length xc] w (Gb no w o (openR L key b x) fun w' o' => True) := by
  refine (cachetteref03_Oracle_Open.go _ _ _ _ _ _ _ _ (R := fun v w' => ∃ o' a' c', v = .tuple #[.slice a' (openR L key b x).1.length c', .int .i64 (openR L key b x).2] ∧ Step no w o w' o' ∧ Row w' o' a' (bytesV (openR L key b x).1) ∧ (openR L key b x).1.length ≤ c' ∧ True) ?_).mono fun e w' ⟨v, he, o', a', c', hv, hw⟩ => ⟨o', a', c', by rw [he, hv], hw⟩
  unfold cachetteref03_Oracle_Open.N
  obtain ⟨R, hLR, h0⟩ := id h
  have hlen : L.length = R.length := by rw [hLR, List.length_map]
  have hk1 := hk.short
  refine (rHandle_spec hx.1 hxl).mono fun e w7 ⟨he, hw⟩ => ⟨_, he, ?_⟩
  subst hw
  refine (is_spec h0 hk.tags (by omega) (handL x) 6).mono fun e w16 ⟨X16, hor⟩ => ?_
  rw [← hLR] at hor
  have s16 := Step.of_no X16 hk.tags
  rcases hor with ⟨hn, he⟩ | ⟨y, hy, hn, he⟩
  · refine ⟨_, _, _, _, _, _, _, _, _, _, _, he, fun _ w23 X23 => ?_, fun h => (by cases h)⟩
    have s23 := s16.trans (Step.of_no X23 s16.ok)
    have hres : openR L key b x = ([], 4) := by unfold openR; rw [hn]
    rw [hres]
    exact ⟨_, none, 0, rfl, s23, Row.nil _ _ _, Nat.le_refl _, trivial⟩
  · refine ⟨_, _, _, _, _, _, _, _, _, _, _, he, fun h => (by cases h), fun _ w23 p26 X23 hp => ?_⟩
    have s23 := s16.trans (Step.of_no X23 s16.ok)
    have hyL : y.r ∈ L := by rw [hLR]; exact List.mem_map.2 ⟨y, hy, rfl⟩
    have hyb := hk.bytes _ hyL
    refine (rClass_spec y.r.B.length w23).mono fun e w29 ⟨he, X29⟩ => ⟨_, he, X29.kept, ?_⟩
    refine (rSize_spec (classOf y.r.B.length) w29).mono fun e w32 ⟨he, X32⟩ => ⟨_, he, X32.kept, ?_⟩
    have s29 := s23.trans (Step.of_no X29 s23.ok)
    have s32 := s29.trans (Step.of_no X32 s29.ok)
    have hsl := sizeN_le (classOf y.r.B.length)
    have hval : openR L key b x = if x.length ≠ 8 + sizeN (classOf y.r.B.length) then ([], 4) else if y.r.n ≠ key then ([], 11) else if y.r.A ≠ b then ([], 5) else (y.r.B, 0) := by unfold openR; rw [hn]
    refine ⟨by omega, by omega, fun h1 => ?_, fun h1 => ⟨fun h2 => ?_, fun h2 => ?_⟩⟩
    · rw [if_pos (by omega)] at hval
      rw [hval]
      exact ⟨_, none, 0, rfl, s32, Row.nil _ _ _, Nat.le_refl _, trivial⟩
    · rw [if_neg (by omega), if_pos h2] at hval
      rw [hval]
      exact ⟨_, none, 0, rfl, s32, Row.nil _ _ _, Nat.le_refl _, trivial⟩
    · rw [if_neg (by omega), if_neg (not_not_intro h2)] at hval
      have hok := (h0.rows y hy).step s32
      refine (W.sameB_spec hok.1.1 (hb.step s32).1 hyb.1).mono fun e w37 ⟨he, X37⟩ => ⟨_, he, X37.kept, fun hs => ?_, fun hs => ?_⟩
      · have s37 := s32.trans (Step.of_no X37 s32.ok)
        rw [if_pos (of_decide_eq_false hs)] at hval
        rw [hval]
        exact ⟨_, none, 0, rfl, s37, Row.nil _ _ _, Nat.le_refl _, trivial⟩
      · have s37' := Step.of_no X37 s32.ok
        rw [if_neg (not_not_intro (of_decide_eq_true hs))] at hval
        rw [hval]
        exact ⟨_, y.aB, y.cB, rfl, s32.trans s37', (hok.step s37').2.1, hok.2.2.2, trivial⟩
theorem rWrap_spec (h : ROrc w o k d L) (hk : ROk w o d L) (p key : Int) :
    Calls Try.prog 29 #[.pointer (some (blk k)), .int .u64 p, .int .u64 key] w (Gb (fun j => j = k) w o (wrapR d L p key).1 fun w' o' => ROrc w' o' k (wrapR d L p key).2.1 (wrapR d L p key).2.2) := by
  refine (cachetteref03_Oracle_Wrap.go _ _ _ (R := fun v w' => ∃ o' a' c', v = .tuple #[.slice a' (wrapR d L p key).1.1.length c', .int .i64 (wrapR d L p key).1.2] ∧ Step (fun j => j = k) w o w' o' ∧ Row w' o' a' (bytesV (wrapR d L p key).1.1) ∧ (wrapR d L p key).1.1.length ≤ c' ∧ ROrc w' o' k (wrapR d L p key).2.1 (wrapR d L p key).2.2) ?_).mono fun e w' ⟨v, he, o', a', c', hv, hw⟩ => ⟨o', a', c', by rw [he, hv], hw⟩
  unfold cachetteref03_Oracle_Wrap.N
  obtain ⟨R, hLR, h0⟩ := id h
  have hlen : L.length = R.length := by rw [hLR, List.length_map]
  have hk1 := hk.short
  refine (is_spec h0 hk.tags (by omega) p 4).mono fun e w12 ⟨X12, hor⟩ => ?_
  rw [← hLR] at hor
  have s12 := Step.of_no X12 hk.tags
  rcases hor with ⟨hn, he⟩ | ⟨y, hy, hn, he⟩
  · refine ⟨_, _, _, _, _, _, _, _, _, _, _, he, fun _ w19 X19 => ?_, fun h => (by cases h)⟩
    have s19 := s12.trans (Step.of_no X19 s12.ok)
    have hres : wrapR d L p key = (([], 20), d, L) := by unfold wrapR; rw [hn]
    rw [hres]
    exact ⟨_, none, 0, rfl, s19.none, Row.nil _ _ _, Nat.le_refl _, h.step s19 id⟩
  · refine ⟨_, _, _, _, _, _, _, _, _, _, _, he, fun h => (by cases h), fun _ w19 X19 => ?_⟩
    have s19 := s12.trans (Step.of_no X19 s12.ok)
    refine (is_spec (h0.step s19 id) s19.ok (by omega) key 2).mono fun e w31 ⟨X31, hor2⟩ => ?_
    rw [← hLR] at hor2
    have s31 := s19.trans (Step.of_no X31 s19.ok)
    rcases hor2 with ⟨hn2, he⟩ | ⟨y2, hy2, hn2, he⟩
    · refine ⟨_, _, _, _, _, _, _, _, _, _, _, he, fun _ w38 X38 => ?_, fun h => (by cases h)⟩
      have s38 := s31.trans (Step.of_no X38 s31.ok)
      have hres : wrapR d L p key = (([], 11), d, L) := by unfold wrapR; rw [hn]; simp only [hn2]
      rw [hres]
      exact ⟨_, none, 0, rfl, s38.none, Row.nil _ _ _, Nat.le_refl _, h.step s38 id⟩
    · refine ⟨_, _, _, _, _, _, _, _, _, _, _, he, fun h => (by cases h), fun _ w38 X38 => ?_⟩
      have s38 := s31.trans (Step.of_no X38 s31.ok)
      have hres : wrapR d L p key = ((boxL (putR d L ⟨0, 7, [], [], p, key⟩).1.toNat 8, 0), (putR d L ⟨0, 7, [], [], p, key⟩).2) := by unfold wrapR; rw [hn]; simp only [hn2]
      rw [hres]
      refine (put_spec (h.step s38 id) s38.ok hk.draws hk.short ⟨⟨0, 7, [], [], p, key⟩, none, 0, none, 0⟩ ⟨Row.nil _ _ _, Row.nil _ _ _, Nat.le_refl _, Nat.le_refl _⟩).mono fun e w44 ⟨o44, he, s44, h44⟩ => ⟨_, he, ?_⟩
      have hrng := freshR_rng (used := L.map RRow.h) hk.draws (by rw [List.length_map]; exact hk.short)
      obtain ⟨z, hz⟩ : ∃ z : Nat, (putR d L ⟨0, 7, [], [], p, key⟩).1 = z := ⟨_, (Int.toNat_of_nonneg hrng.1).symm⟩
      have hz2 : z < 18446744073709551616 := by have : (putR d L ⟨0, 7, [], [], p, key⟩).1 < 18446744073709551616 := hrng.2; omega
      rw [hz, Int.toNat_natCast]
      refine (rEight_spec hz2 w44).mono fun e w47 ⟨ea, ec, he, hO, X47⟩ => ⟨_, _, _, he, ?_⟩
      obtain ⟨a', c', w49, hr, hO', hx⟩ := OwnB.appendz hO X47.size (m := 8) (by decide) (by decide) (by rw [boxL_length]; omega)
      rw [← boxL_more] at hr hO'
      have X : Ext no w44 w49 := X47.then hx fun b hb => .inr hb
      have s49 := Step.of_no X s44.ok
      exact ⟨a', _, c', w49, hr, _, a', c', rfl, (s38.none.trans s44).trans s49.none, Row.fresh hO'.row fun ad ha => (hO'.fr ad ha).1, hO'.le, h44.step s49 id⟩
theorem rUnwrap_spec (h : ROrc w o k d L) (hk : ROk w o d L) (s : Int) {xa : Option Addr} {xc : Nat} {x : List UInt8} (hx : RowAt w xa (bytesV x)) (hxl : x.length < 1000000) :
    Calls Try.prog 34 #[.pointer (some (blk k)), .int .u64 s, .slice xa x.length xc] w (Ret (.tuple #[.int .u64 (unwrapR L s x).1, .int .i64 (unwrapR L s x).2]) fun w' => Ext no w w') := by
  refine cachetteref03_Oracle_Unwrap.run _ _ _ _ _ ?_
  unfold cachetteref03_Oracle_Unwrap.N
  obtain ⟨R, hLR, h0⟩ := id h
  have hlen : L.length = R.length := by rw [hLR, List.length_map]
  have hk1 := hk.short
  refine (rHandle_spec hx hxl).mono fun e w6 ⟨he, hw⟩ => ⟨_, he, ?_⟩
  subst hw
  refine (is_spec h0 hk.tags (by omega) (handL x) 7).mono fun e w15 ⟨X15, hor⟩ => ?_
  rw [← hLR] at hor
  have s15 := Step.of_no X15 hk.tags
  rcases hor with ⟨hn, he⟩ | ⟨y, hy, hn, he⟩
  · refine ⟨_, _, _, _, _, _, _, _, _, _, _, he, fun _ w22 X22 => ?_, fun h => (by cases h)⟩
    have hres : unwrapR L s x = (0, 4) := by unfold unwrapR; rw [hn]
    rw [hres]
    exact ⟨rfl, X15.trans X22⟩
  · have hval : unwrapR L s x = if x.length ≠ 16 then (0, 4) else if ((isR L y.r.n 4).map RRow.n).getD 0 ≠ s then (0, 11) else (y.r.m, 0) := by unfold unwrapR; rw [hn]
    refine ⟨_, _, _, _, _, _, _, _, _, _, _, he, fun h => (by cases h), fun _ => ⟨fun h1 w22 X22 => ?_, fun h1 w22 p27 X22 hp => ?_⟩⟩
    · rw [if_pos (by omega)] at hval
      rw [hval]
      exact ⟨rfl, X15.trans X22⟩
    · rw [if_neg (by omega)] at hval
      have s22 := s15.trans (Step.of_no X22 s15.ok)
      refine (is_spec (h0.step s22 id) s22.ok (by omega) y.r.n 4).mono fun e w36 ⟨X36, hor2⟩ => ?_
      rw [← hLR] at hor2
      have X := (X15.trans X22).trans X36
      rcases hor2 with ⟨hn2, he⟩ | ⟨y2, hy2, hn2, he⟩
      · rw [hn2] at hval
        have hval : unwrapR L s x = if (0 : Int) ≠ s then (0, 11) else (y.r.m, 0) := hval
        refine ⟨_, _, _, _, _, _, _, _, _, _, _, he, X36.kept, fun h2 w43 X43 => ?_, fun h2 w43 X43 => ?_⟩
        · rw [if_pos h2] at hval; rw [hval]; exact ⟨rfl, X.trans X43⟩
        · rw [if_neg (not_not_intro h2)] at hval; rw [hval]; exact ⟨rfl, X.trans X43⟩
      · rw [hn2] at hval
        have hval : unwrapR L s x = if y2.r.n ≠ s then (0, 11) else (y.r.m, 0) := hval
        refine ⟨_, _, _, _, _, _, _, _, _, _, _, he, X36.kept, fun h2 w43 X43 => ?_, fun h2 w43 X43 => ?_⟩
        · rw [if_pos h2] at hval; rw [hval]; exact ⟨rfl, X.trans X43⟩
        · rw [if_neg (not_not_intro h2)] at hval; rw [hval]; exact ⟨rfl, X.trans X43⟩
end
end Go.Proofs.Ytgagmbmkpfjbbaa
