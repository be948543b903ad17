/- Entries: their bytes, and the entry of bytes (the program's). -/
import Derived.Test.YtomajjnoekfmoaaEntA
set_option linter.unusedVariables false
set_option linter.unusedSimpArgs false
set_option maxRecDepth 20000
namespace Go.Proofs.Ytomajjnoekfmoaa
open Go Go.Mx Go.Proofs
open W (OwnB Rd RdR GivesW numR countR doneR zig unzig intR)
/-- bytes.Equal -/
def bytes_Equal.M (a1a : Option Addr) (a1n : Nat) (a1c : Nat) (b2a : Option Addr) (b2n : Nat) (b2c : Nat) (R : Value → World → Prop) (w : World) : Prop :=
  ∃ (s3 : ByteArray), (convert 25 9 (.slice a1a a1n a1c)).run Try.prog w = .ok (.string s3) w ∧
  ∃ (s4 : ByteArray), (convert 25 9 (.slice b2a b2n b2c)).run Try.prog w = .ok (.string s4) w ∧
  R (.bool (s3.toList == s4.toList)) w

theorem bytes_Equal.eq (a1a : Option Addr) (a1n : Nat) (a1c : Nat) (b2a : Option Addr) (b2n : Nat) (b2c : Nat) (R : Value → World → Prop) (w : World) : mfunc Try.prog [] 43 [.slice a1a a1n a1c, .slice b2a b2n b2c] R w = bytes_Equal.M a1a a1n a1c b2a b2n b2c R w := by kernel_rfl
theorem bytes_Equal.ok (a1a : Option Addr) (a1n : Nat) (a1c : Nat) (b2a : Option Addr) (b2n : Nat) (b2c : Nat) {R : Value → World → Prop} {w : World} (h : bytes_Equal.M a1a a1n a1c b2a b2n b2c R w) : Calls Try.prog 43 #[.slice a1a a1n a1c, .slice b2a b2n b2c] w fun e w' => ∃ v, e = .returned v ∧ R v w' :=
  mfunc_ok follows (H := []) (args := [.slice a1a a1n a1c, .slice b2a b2n b2c]) (by rw [bytes_Equal.eq]; exact h)

def bytes_Equal.N (a1a : Option Addr) (a1n : Nat) (a1c : Nat) (b2a : Option Addr) (b2n : Nat) (b2c : Nat) (R : Value → World → Prop) (w : World) : Prop :=
  ∃ (s3 : ByteArray), (convert 25 9 (.slice a1a a1n a1c)).run Try.prog w = .ok (.string s3) w ∧
  ∃ (s5 : ByteArray), (convert 25 9 (.slice b2a b2n b2c)).run Try.prog w = .ok (.string s5) w ∧
  R (.bool (s3.toList == s5.toList)) w

theorem bytes_Equal.up (a1a : Option Addr) (a1n : Nat) (a1c : Nat) (b2a : Option Addr) (b2n : Nat) (b2c : Nat) {R : Value → World → Prop} {w : World} (h : bytes_Equal.N a1a a1n a1c b2a b2n b2c R w) : bytes_Equal.M a1a a1n a1c b2a b2n b2c R w := by
  unfold bytes_Equal.M
  unfold bytes_Equal.N at h
  obtain ⟨s3, hs4, h⟩ := h
  refine ⟨s3, hs4, ?_⟩
  obtain ⟨s5, hs6, h⟩ := h
  refine ⟨s5, hs6, ?_⟩
  exact h

theorem bytes_Equal.go (a1a : Option Addr) (a1n : Nat) (a1c : Nat) (b2a : Option Addr) (b2n : Nat) (b2c : Nat) {R : Value → World → Prop} {w : World} (h : bytes_Equal.N a1a a1n a1c b2a b2n b2c R w) : Calls Try.prog 43 #[.slice a1a a1n a1c, .slice b2a b2n b2c] w fun e w' => ∃ v, e = .returned v ∧ R v w' := bytes_Equal.ok a1a a1n a1c b2a b2n b2c (bytes_Equal.up a1a a1n a1c b2a b2n b2c h)
theorem bytes_Equal.run (a1a : Option Addr) (a1n : Nat) (a1c : Nat) (b2a : Option Addr) (b2n : Nat) (b2c : Nat) {V : Value} {Q : World → Prop} {w : World} (h : bytes_Equal.N a1a a1n a1c b2a b2n b2c (fun v w' => v = V ∧ Q w') w) : Calls Try.prog 43 #[.slice a1a a1n a1c, .slice b2a b2n b2c] w (Ret V Q) := (bytes_Equal.go a1a a1n a1c b2a b2n b2c h).mono fun e w' ⟨v, he, hv, hq⟩ => ⟨by rw [he, hv], hq⟩

/-- stamp.Put -/
def stamp_Put.M (b1a : Option Addr) (b1n : Nat) (b1c : Nat) (sT2 : Int) (sW3 : Int) (R : Value → World → Prop) (w : World) : Prop :=
  thenW (w.alloc (.cells #[.int .i64 sT2, .int .i64 sW3] 24)) fun ww4 =>
  thenW (ww4.drew) fun ww5 =>
  ∃ (T6 : Int), ww5.cell? ((blk w.heap.size).add 0) = some (.int .i64 T6) ∧
  ∃ (W7 : Int), ww5.cell? ((blk w.heap.size).add 1) = some (.int .i64 W7) ∧
  Calls Try.prog 51 #[.slice b1a b1n b1c, .int .i64 T6] ww5 fun ee9 ww10 => ∃ (int8a : Option Addr) (int8n : Nat) (int8c : Nat), ee9 = .returned (.slice int8a int8n int8c) ∧
  ww10.cell? ((blk w.heap.size).add 1) = some (.int .i64 W7) ∧
  Calls Try.prog 32 #[.slice int8a int8n int8c, .int .u64 (IntKind.u64.wrap (if (0 : Int) > W7 then 0 else W7))] ww10 fun ee12 ww13 => ∃ (num11a : Option Addr) (num11n : Nat) (num11c : Nat), ee12 = .returned (.slice num11a num11n num11c) ∧
  R (.slice num11a num11n num11c) ww13

theorem stamp_Put.eq (b1a : Option Addr) (b1n : Nat) (b1c : Nat) (sT2 : Int) (sW3 : Int) (R : Value → World → Prop) (w : World) : mfunc Try.prog [] 64 [.slice b1a b1n b1c, .agg #[.int .i64 sT2, .int .i64 sW3]] R w = stamp_Put.M b1a b1n b1c sT2 sW3 R w := by kernel_rfl
theorem stamp_Put.ok (b1a : Option Addr) (b1n : Nat) (b1c : Nat) (sT2 : Int) (sW3 : Int) {R : Value → World → Prop} {w : World} (h : stamp_Put.M b1a b1n b1c sT2 sW3 R w) : Calls Try.prog 64 #[.slice b1a b1n b1c, .agg #[.int .i64 sT2, .int .i64 sW3]] w fun e w' => ∃ v, e = .returned v ∧ R v w' :=
  mfunc_ok follows (H := []) (args := [.slice b1a b1n b1c, .agg #[.int .i64 sT2, .int .i64 sW3]]) (by rw [stamp_Put.eq]; exact h)

def stamp_Put.N (b1a : Option Addr) (b1n : Nat) (b1c : Nat) (sT2 : Int) (sW3 : Int) (R : Value → World → Prop) (w : World) : Prop :=
  ∀ (ww5 : World) (p6 : Nat), Ext no w ww5 → Priv w ww5 [p6] →
  Calls Try.prog 51 #[.slice b1a b1n b1c, .int .i64 sT2] ww5 fun ee8 ww9 => ∃ (int7a : Option Addr) (int7n : Nat) (int7c : Nat), ee8 = .returned (.slice int7a int7n int7c) ∧
  Keep [p6] ww5 ww9 ∧
  Calls Try.prog 32 #[.slice int7a int7n int7c, .int .u64 (IntKind.u64.wrap (if (0 : Int) > sW3 then 0 else sW3))] ww9 fun ee11 ww12 => ∃ (num10a : Option Addr) (num10n : Nat) (num10c : Nat), ee11 = .returned (.slice num10a num10n num10c) ∧
  R (.slice num10a num10n num10c) ww12

theorem stamp_Put.up (b1a : Option Addr) (b1n : Nat) (b1c : Nat) (sT2 : Int) (sW3 : Int) {R : Value → World → Prop} {w : World} (h : stamp_Put.N b1a b1n b1c sT2 sW3 R w) : stamp_Put.M b1a b1n b1c sT2 sW3 R w := by
  unfold stamp_Put.M
  unfold stamp_Put.N at h
  refine thenW_in fun ww4 e4 => ?_
  have hb1 := Blk.of_new e4
  have hg1 := ((Ext.refl no w)).size
  have hx4 := (Ext.refl no w).x_alloc e4
  refine thenW_in fun ww5 e5 => ?_
  have hx5 := hx4.x_drew e5
  have hb1 := hb1.x_drew e5
  refine ⟨sT2, hb1.celli 0 rfl rfl, ?_⟩
  refine ⟨sW3, hb1.celli 1 rfl rfl, ?_⟩
  have h := h ww5 (w.heap.size) hx5 (Priv.cons hg1 hb1.lt Priv.nil)
  refine h.mono fun ee8 ww9 h => ?_
  obtain ⟨int7a, int7n, int7c, he, hk, h⟩ := h
  refine ⟨int7a, int7n, int7c, he, ?_⟩
  have hb1 := hk.blk hb1 (by simp)
  refine ⟨hb1.celli 1 rfl rfl, ?_⟩
  refine h.mono fun ee11 ww12 h => ?_
  obtain ⟨num10a, num10n, num10c, he, h⟩ := h
  refine ⟨num10a, num10n, num10c, he, ?_⟩
  exact h

theorem stamp_Put.go (b1a : Option Addr) (b1n : Nat) (b1c : Nat) (sT2 : Int) (sW3 : Int) {R : Value → World → Prop} {w : World} (h : stamp_Put.N b1a b1n b1c sT2 sW3 R w) : Calls Try.prog 64 #[.slice b1a b1n b1c, .agg #[.int .i64 sT2, .int .i64 sW3]] w fun e w' => ∃ v, e = .returned v ∧ R v w' := stamp_Put.ok b1a b1n b1c sT2 sW3 (stamp_Put.up b1a b1n b1c sT2 sW3 h)
theorem stamp_Put.run (b1a : Option Addr) (b1n : Nat) (b1c : Nat) (sT2 : Int) (sW3 : Int) {V : Value} {Q : World → Prop} {w : World} (h : stamp_Put.N b1a b1n b1c sT2 sW3 (fun v w' => v = V ∧ Q w') w) : Calls Try.prog 64 #[.slice b1a b1n b1c, .agg #[.int .i64 sT2, .int .i64 sW3]] w (Ret V Q) := (stamp_Put.go b1a b1n b1c sT2 sW3 h).mono fun e w' ⟨v, he, hv, hq⟩ => ⟨by rw [he, hv], hq⟩

/-- stamp.Get -/
def stamp_Get.M (r1 : Option Addr) (R : Value → World → Prop) (w : World) : Prop :=
  thenW (w.alloc (.cells #[.int .i64 0, .int .i64 0] 24)) fun ww2 =>
  Calls Try.prog 40 #[.pointer r1] ww2 fun ee4 ww5 => ∃ (int3 : Int), ee4 = .returned (.int .i64 int3) ∧
  canStore ww5 (((blk w.heap.size).add 0).add 0) ∧
  thenW (ww5.setCell (((blk w.heap.size).add 0).add 0) (.int .i64 int3)) fun ww6 =>
  Calls Try.prog 37 #[.pointer r1, .int .i64 7] ww6 fun ee8 ww9 => ∃ (count7 : Int), ee8 = .returned (.int .i64 count7) ∧
  canStore ww9 (((blk w.heap.size).add 1).add 0) ∧
  thenW (ww9.setCell (((blk w.heap.size).add 1).add 0) (.int .i64 count7)) fun ww10 =>
  ∃ (xT11 : Int) (xW12 : Int), cellsAt ww10 (blk w.heap.size) [.int .i64 xT11, .int .i64 xW12] 0 ∧
  canStore ww10 ((blk w.heap.size).add 0) ∧
  thenW (ww10.setCell ((blk w.heap.size).add 0) (.int .i64 xT11)) fun ww13 =>
  canStore ww13 ((blk w.heap.size).add 1) ∧
  thenW (ww13.setCell ((blk w.heap.size).add 1) (.int .i64 xW12)) fun ww14 =>
  ∃ (resT15 : Int) (resW16 : Int), cellsAt ww14 (blk w.heap.size) [.int .i64 resT15, .int .i64 resW16] 0 ∧
  R (.agg #[.int .i64 resT15, .int .i64 resW16]) ww14

theorem stamp_Get.eq (r1 : Option Addr) (R : Value → World → Prop) (w : World) : mfunc Try.prog [] 39 [.pointer r1] R w = stamp_Get.M r1 R w := by kernel_rfl
theorem stamp_Get.ok (r1 : Option Addr) {R : Value → World → Prop} {w : World} (h : stamp_Get.M r1 R w) : Calls Try.prog 39 #[.pointer r1] w fun e w' => ∃ v, e = .returned v ∧ R v w' :=
  mfunc_ok follows (H := []) (args := [.pointer r1]) (by rw [stamp_Get.eq]; exact h)

def stamp_Get.N (r1 : Option Addr) (R : Value → World → Prop) (w : World) : Prop :=
  ∀ (ww2 : World) (p3 : Nat), Ext no w ww2 → Priv w ww2 [p3] →
  Calls Try.prog 40 #[.pointer r1] ww2 fun ee5 ww6 => ∃ (int4 : Int), ee5 = .returned (.int .i64 int4) ∧
  Keep [p3] ww2 ww6 ∧
  ∀ (ww7 : World), Ext (fun b => b = p3) ww6 ww7 →
  Calls Try.prog 37 #[.pointer r1, .int .i64 7] ww7 fun ee9 ww10 => ∃ (count8 : Int), ee9 = .returned (.int .i64 count8) ∧
  Keep [p3] ww7 ww10 ∧
  ∀ (ww13 : World), Ext (fun b => b = p3) ww10 ww13 →
  R (.agg #[.int .i64 int4, .int .i64 count8]) ww13

theorem stamp_Get.up (r1 : Option Addr) {R : Value → World → Prop} {w : World} (h : stamp_Get.N r1 R w) : stamp_Get.M r1 R w := by
  unfold stamp_Get.M
  unfold stamp_Get.N at h
  refine thenW_in fun ww2 e2 => ?_
  have hb1 := Blk.of_new e2
  have hg1 := ((Ext.refl no w)).size
  have hx2 := (Ext.refl no w).x_alloc e2
  have h := h ww2 (w.heap.size) hx2 (Priv.cons hg1 hb1.lt Priv.nil)
  refine h.mono fun ee5 ww6 h => ?_
  obtain ⟨int4, he, hk, h⟩ := h
  refine ⟨int4, he, ?_⟩
  have hb1 := hk.blk hb1 (by simp)
  have hm7 : Ext (fun b => b = w.heap.size) ww6 ww6 := ((Ext.refl no ww6)).none
  refine ⟨hb1.cani 0 rfl rfl, thenW_in fun ww7 e7 => ?_⟩
  have hx7 := hm7.x_set (q := w.heap.size) (i := 0) rfl (.inl rfl) e7
  have hb1 := hb1.seti 0 rfl e7
  have h := h ww7 hx7
  refine h.mono fun ee9 ww10 h => ?_
  obtain ⟨count8, he, hk, h⟩ := h
  refine ⟨count8, he, ?_⟩
  have hb1 := hk.blk hb1 (by simp)
  have hm11 : Ext (fun b => b = w.heap.size) ww10 ww10 := ((Ext.refl no ww10)).none
  refine ⟨hb1.cani 1 rfl rfl, thenW_in fun ww11 e11 => ?_⟩
  have hx11 := hm11.x_set (q := w.heap.size) (i := 1) rfl (.inl rfl) e11
  have hb1 := hb1.seti 1 rfl e11
  refine ⟨int4, count8, ⟨hb1.celli 0 rfl rfl, hb1.celli 1 rfl rfl, trivial⟩, ?_⟩
  refine ⟨hb1.cani 0 rfl rfl, thenW_in fun ww12 e12 => ?_⟩
  have hx12 := hx11.x_set (q := w.heap.size) (i := 0) rfl (.inl rfl) e12
  have hb1 := hb1.seti 0 rfl e12
  refine ⟨hb1.cani 1 rfl rfl, thenW_in fun ww13 e13 => ?_⟩
  have hx13 := hx12.x_set (q := w.heap.size) (i := 1) rfl (.inl rfl) e13
  have hb1 := hb1.seti 1 rfl e13
  refine ⟨int4, count8, ⟨hb1.celli 0 rfl rfl, hb1.celli 1 rfl rfl, trivial⟩, ?_⟩
  have h := h ww13 hx13
  exact h

theorem stamp_Get.go (r1 : Option Addr) {R : Value → World → Prop} {w : World} (h : stamp_Get.N r1 R w) : Calls Try.prog 39 #[.pointer r1] w fun e w' => ∃ v, e = .returned v ∧ R v w' := stamp_Get.ok r1 (stamp_Get.up r1 h)
theorem stamp_Get.run (r1 : Option Addr) {V : Value} {Q : World → Prop} {w : World} (h : stamp_Get.N r1 (fun v w' => v = V ∧ Q w') w) : Calls Try.prog 39 #[.pointer r1] w (Ret V Q) := (stamp_Get.go r1 h).mono fun e w' ⟨v, he, hv, hq⟩ => ⟨by rw [he, hv], hq⟩

/-- (*entry.writer).nums -/
def entry_writer_nums.M (wv1 : Option Addr) (l2a : Option Addr) (l2n : Nat) (l2c : Nat) (R : Value → World → Prop) (w : World) : Prop :=
  ∃ (I0 : Nat → List Value → World → Prop) (m4 : Nat), I0 m4 [.int .i64 0] w ∧ ∀ (m5 : Nat) (ww6 : World) (t3 : Int), I0 m5 [.int .i64 t3] ww6 →
  bif decide (t3 < (l2n : Int)) then (
  l2a.elim False fun a7 =>
  0 ≤ (t3 : Int) ∧ (t3 : Int) < (l2n : Int) ∧
  ∃ (x8 : Int), ww6.cell? (a7.add (Int.toNat t3 * 1)) = some (.int .u64 x8) ∧
  wv1.elim False fun a9 =>
  ∃ (x10a : Option Addr) (x10n : Nat) (x10c : Nat), ww6.cell? a9 = some (.slice x10a x10n x10c) ∧
  Calls Try.prog 32 #[.slice x10a x10n x10c, .int .u64 x8] ww6 fun ee12 ww13 => ∃ (num11a : Option Addr) (num11n : Nat) (num11c : Nat), ee12 = .returned (.slice num11a num11n num11c) ∧
  wv1.elim False fun a14 =>
  canStore ww13 (a14.add 0) ∧
  thenW (ww13.setCell (a14.add 0) (.slice num11a num11n num11c)) fun ww15 =>
  ∃ m16, m16 < m5 ∧ I0 m16 [.int .i64 (IntKind.i64.wrap (t3 + 1))] ww15) else (
  R (.tuple #[]) ww6)

theorem entry_writer_nums.eq (wv1 : Option Addr) (l2a : Option Addr) (l2n : Nat) (l2c : Nat) (R : Value → World → Prop) (w : World) : mfunc Try.prog [(0, [0, 6, 7], [(8, (.one (.int .i64)))])] 63 [.pointer wv1, .slice l2a l2n l2c] R w = entry_writer_nums.M wv1 l2a l2n l2c R w := by kernel_rfl
theorem entry_writer_nums.ok (wv1 : Option Addr) (l2a : Option Addr) (l2n : Nat) (l2c : Nat) {R : Value → World → Prop} {w : World} (h : entry_writer_nums.M wv1 l2a l2n l2c R w) : Calls Try.prog 63 #[.pointer wv1, .slice l2a l2n l2c] w fun e w' => ∃ v, e = .returned v ∧ R v w' :=
  mfunc_ok follows (H := [(0, [0, 6, 7], [(8, (.one (.int .i64)))])]) (args := [.pointer wv1, .slice l2a l2n l2c]) (by rw [entry_writer_nums.eq]; exact h)

def entry_writer_nums.N (wv1 : Option Addr) (l2a : Option Addr) (l2n : Nat) (l2c : Nat) (R : Value → World → Prop) (w : World) : Prop :=
  ∃ (I0 : Nat → List Value → World → Prop) (m4 : Nat), I0 m4 [.int .i64 0] w ∧ ∀ (m5 : Nat) (ww6 : World) (t3 : Int), I0 m5 [.int .i64 t3] ww6 →
  (t3 < (l2n : Int) →
    ∃ a8 : Addr, l2a = some a8 ∧
    0 ≤ (t3 : Int) ∧ (t3 : Int) < (l2n : Int) ∧
    ∃ (x10 : Int), ww6.cell? (a8.add (Int.toNat t3 * 1)) = some (.int .u64 x10) ∧
    ∃ a11 : Addr, wv1 = some a11 ∧
    ∃ (x13a : Option Addr) (x13n : Nat) (x13c : Nat), ww6.cell? a11 = some (.slice x13a x13n x13c) ∧
    Calls Try.prog 32 #[.slice x13a x13n x13c, .int .u64 x10] ww6 fun ee15 ww16 => ∃ (num14a : Option Addr) (num14n : Nat) (num14c : Nat), ee15 = .returned (.slice num14a num14n num14c) ∧
    canStore ww16 (a11.add 0) ∧
    thenW (ww16.setCell (a11.add 0) (.slice num14a num14n num14c)) fun ww17 =>
    (-9223372036854775808 : Int) ≤ (t3 + 1) ∧ (t3 + 1) < 9223372036854775808 ∧
    ∃ m18, m18 < m5 ∧ I0 m18 [.int .i64 (t3 + 1)] ww17) ∧
  ((l2n : Int) ≤ t3 →
    R (.tuple #[]) ww6)

theorem entry_writer_nums.up (wv1 : Option Addr) (l2a : Option Addr) (l2n : Nat) (l2c : Nat) {R : Value → World → Prop} {w : World} (h : entry_writer_nums.N wv1 l2a l2n l2c R w) : entry_writer_nums.M wv1 l2a l2n l2c R w := by
  unfold entry_writer_nums.M
  unfold entry_writer_nums.N at h
  obtain ⟨I0, m4, h0, h⟩ := h
  refine ⟨I0, m4, h0, fun m5 ww6 t3 hI => ?_⟩
  have h := h m5 ww6 t3 hI
  refine bif_of (fun c7 => ?_) (fun c7 => ?_)
  · have h := h.1 (of_decide_eq_true c7)
    obtain ⟨a8, ha8, h⟩ := h
    refine elim_some ha8 ?_
    obtain ⟨hq1, hq2, h⟩ := h
    refine ⟨hq1, hq2, ?_⟩
    obtain ⟨x10, hc9, h⟩ := h
    refine ⟨x10, hc9, ?_⟩
    obtain ⟨a11, ha11, h⟩ := h
    refine elim_some ha11 ?_
    obtain ⟨x13a, x13n, x13c, hc12, h⟩ := h
    refine ⟨x13a, x13n, x13c, hc12, ?_⟩
    refine h.mono fun ee15 ww16 h => ?_
    obtain ⟨num14a, num14n, num14c, he, h⟩ := h
    refine ⟨num14a, num14n, num14c, he, ?_⟩
    refine elim_some ha11 ?_
    obtain ⟨hcs, h⟩ := h
    refine ⟨hcs, thenW_in fun ww17 e17 => ?_⟩
    replace h := thenW_out h e17
    obtain ⟨hw1, hw2, h⟩ := h
    try rw [w64 hw1 hw2]
    obtain ⟨m18, hk, h⟩ := h
    exact ⟨m18, hk, h⟩
  · have h := h.2 (Int.not_lt.1 (of_decide_eq_false c7))
    exact h

theorem entry_writer_nums.go (wv1 : Option Addr) (l2a : Option Addr) (l2n : Nat) (l2c : Nat) {R : Value → World → Prop} {w : World} (h : entry_writer_nums.N wv1 l2a l2n l2c R w) : Calls Try.prog 63 #[.pointer wv1, .slice l2a l2n l2c] w fun e w' => ∃ v, e = .returned v ∧ R v w' := entry_writer_nums.ok wv1 l2a l2n l2c (entry_writer_nums.up wv1 l2a l2n l2c h)
theorem entry_writer_nums.run (wv1 : Option Addr) (l2a : Option Addr) (l2n : Nat) (l2c : Nat) {V : Value} {Q : World → Prop} {w : World} (h : entry_writer_nums.N wv1 l2a l2n l2c (fun v w' => v = V ∧ Q w') w) : Calls Try.prog 63 #[.pointer wv1, .slice l2a l2n l2c] w (Ret V Q) := (entry_writer_nums.go wv1 l2a l2n l2c h).mono fun e w' ⟨v, he, hv, hq⟩ => ⟨by rw [he, hv], hq⟩

/-- entry.text -/
def entry_text.M (eWriter1 : Int) (eIndex2 : Int) (ePrev3 : Int) (eAtT4 : Int) (eAtW5 : Int) (eEpoch6 : Int) (eBody7a : Option Addr) (eBody7n : Nat) (eBody7c : Nat) (eSig8 : Int) (R : Value → World → Prop) (w : World) : Prop :=
  thenW (w.alloc (.cells #[.int .i64 eWriter1, .int .i64 eIndex2, .int .u64 ePrev3, .int .i64 eAtT4, .int .i64 eAtW5, .int .i64 eEpoch6, .slice eBody7a eBody7n eBody7c, .int .u64 eSig8] 27)) fun ww9 =>
  thenW (ww9.alloc (.cells #[.slice none 0 0] 97)) fun ww10 =>
  ∃ (Writer11 : Int), ww10.cell? ((blk w.heap.size).add 0) = some (.int .i64 Writer11) ∧
  ∃ (Index12 : Int), ww10.cell? ((blk w.heap.size).add 1) = some (.int .i64 Index12) ∧
  ∃ (Prev13 : Int), ww10.cell? ((blk w.heap.size).add 2) = some (.int .u64 Prev13) ∧
  thenW (ww10.alloc (.cells #[.int .u64 (IntKind.u64.wrap Writer11), .int .u64 (IntKind.u64.wrap Index12), .int .u64 Prev13] 22)) fun ww14 =>
  Calls Try.prog 63 #[.pointer (some (blk ww9.heap.size)), .slice (some (blk ww10.heap.size)) 3 3] ww14 fun ee15 ww16 => ee15 = .returned (.tuple #[]) ∧
  thenW (ww16.drew) fun ww17 =>
  ∃ (x18a : Option Addr) (x18n : Nat) (x18c : Nat), ww17.cell? (blk ww9.heap.size) = some (.slice x18a x18n x18c) ∧
  ∃ (AtT19 : Int) (AtW20 : Int), cellsAt ww17 ((blk w.heap.size).add 3) [.int .i64 AtT19, .int .i64 AtW20] 0 ∧
  ∃ (Epoch21 : Int), ww17.cell? ((blk w.heap.size).add 5) = some (.int .i64 Epoch21) ∧
  Calls Try.prog 64 #[.slice x18a x18n x18c, .agg #[.int .i64 AtT19, .int .i64 AtW20]] ww17 fun ee23 ww24 => ∃ (put22a : Option Addr) (put22n : Nat) (put22c : Nat), ee23 = .returned (.slice put22a put22n put22c) ∧
  ww24.cell? ((blk w.heap.size).add 5) = some (.int .i64 Epoch21) ∧
  Calls Try.prog 51 #[.slice put22a put22n put22c, .int .i64 Epoch21] ww24 fun ee26 ww27 => ∃ (int25a : Option Addr) (int25n : Nat) (int25c : Nat), ee26 = .returned (.slice int25a int25n int25c) ∧
  ∃ (Body28a : Option Addr) (Body28n : Nat) (Body28c : Nat), ww27.cell? ((blk w.heap.size).add 6) = some (.slice Body28a Body28n Body28c) ∧
  Calls Try.prog 65 #[.slice int25a int25n int25c, .slice Body28a Body28n Body28c] ww27 fun ee30 ww31 => ∃ (bytes29a : Option Addr) (bytes29n : Nat) (bytes29c : Nat), ee30 = .returned (.slice bytes29a bytes29n bytes29c) ∧
  R (.slice bytes29a bytes29n bytes29c) ww31

theorem entry_text.eq (eWriter1 : Int) (eIndex2 : Int) (ePrev3 : Int) (eAtT4 : Int) (eAtW5 : Int) (eEpoch6 : Int) (eBody7a : Option Addr) (eBody7n : Nat) (eBody7c : Nat) (eSig8 : Int) (R : Value → World → Prop) (w : World) : mfunc Try.prog [] 33 [.agg #[.int .i64 eWriter1, .int .i64 eIndex2, .int .u64 ePrev3, .int .i64 eAtT4, .int .i64 eAtW5, .int .i64 eEpoch6, .slice eBody7a eBody7n eBody7c, .int .u64 eSig8]] R w = entry_text.M eWriter1 eIndex2 ePrev3 eAtT4 eAtW5 eEpoch6 eBody7a eBody7n eBody7c eSig8 R w := by kernel_rfl
theorem entry_text.ok (eWriter1 : Int) (eIndex2 : Int) (ePrev3 : Int) (eAtT4 : Int) (eAtW5 : Int) (eEpoch6 : Int) (eBody7a : Option Addr) (eBody7n : Nat) (eBody7c : Nat) (eSig8 : Int) {R : Value → World → Prop} {w : World} (h : entry_text.M eWriter1 eIndex2 ePrev3 eAtT4 eAtW5 eEpoch6 eBody7a eBody7n eBody7c eSig8 R w) : Calls Try.prog 33 #[.agg #[.int .i64 eWriter1, .int .i64 eIndex2, .int .u64 ePrev3, .int .i64 eAtT4, .int .i64 eAtW5, .int .i64 eEpoch6, .slice eBody7a eBody7n eBody7c, .int .u64 eSig8]] w fun e w' => ∃ v, e = .returned v ∧ R v w' :=
  mfunc_ok follows (H := []) (args := [.agg #[.int .i64 eWriter1, .int .i64 eIndex2, .int .u64 ePrev3, .int .i64 eAtT4, .int .i64 eAtW5, .int .i64 eEpoch6, .slice eBody7a eBody7n eBody7c, .int .u64 eSig8]]) (by rw [entry_text.eq]; exact h)

def entry_text.N (eWriter1 : Int) (eIndex2 : Int) (ePrev3 : Int) (eAtT4 : Int) (eAtW5 : Int) (eEpoch6 : Int) (eBody7a : Option Addr) (eBody7n : Nat) (eBody7c : Nat) (eSig8 : Int) (R : Value → World → Prop) (w : World) : Prop :=
  ∀ (ww10 : World) (q11 : Nat) (p12 : Nat), Ext no w ww10 → Blk ww10 q11 97 [.slice none 0 0] → w.heap.size ≤ q11 → q11 < ww10.heap.size → Privq w q11 [p12] →
  ∀ (ww13 : World) (q14 : Nat), Ext no ww10 ww13 → Blk ww13 q14 22 [.int .u64 (IntKind.u64.wrap eWriter1), .int .u64 (IntKind.u64.wrap eIndex2), .int .u64 ePrev3] → ww10.heap.size ≤ q14 → q14 < ww13.heap.size →
  Calls Try.prog 63 #[.pointer (some (blk q11)), .slice (some (blk q14)) 3 3] ww13 fun ee15 ww16 => ee15 = .returned (.tuple #[]) ∧
  Keep [p12] ww13 ww16 ∧
  ∃ (x19a : Option Addr) (x19n : Nat) (x19c : Nat), ww16.cell? (blk q11) = some (.slice x19a x19n x19c) ∧
  ∀ (ww17 : World), Ext no ww16 ww17 →
  Calls Try.prog 64 #[.slice x19a x19n x19c, .agg #[.int .i64 eAtT4, .int .i64 eAtW5]] ww17 fun ee21 ww22 => ∃ (put20a : Option Addr) (put20n : Nat) (put20c : Nat), ee21 = .returned (.slice put20a put20n put20c) ∧
  Keep [p12] ww17 ww22 ∧
  Calls Try.prog 51 #[.slice put20a put20n put20c, .int .i64 eEpoch6] ww22 fun ee24 ww25 => ∃ (int23a : Option Addr) (int23n : Nat) (int23c : Nat), ee24 = .returned (.slice int23a int23n int23c) ∧
  Keep [p12] ww22 ww25 ∧
  Calls Try.prog 65 #[.slice int23a int23n int23c, .slice eBody7a eBody7n eBody7c] ww25 fun ee27 ww28 => ∃ (bytes26a : Option Addr) (bytes26n : Nat) (bytes26c : Nat), ee27 = .returned (.slice bytes26a bytes26n bytes26c) ∧
  R (.slice bytes26a bytes26n bytes26c) ww28

theorem entry_text.up (eWriter1 : Int) (eIndex2 : Int) (ePrev3 : Int) (eAtT4 : Int) (eAtW5 : Int) (eEpoch6 : Int) (eBody7a : Option Addr) (eBody7n : Nat) (eBody7c : Nat) (eSig8 : Int) {R : Value → World → Prop} {w : World} (h : entry_text.N eWriter1 eIndex2 ePrev3 eAtT4 eAtW5 eEpoch6 eBody7a eBody7n eBody7c eSig8 R w) : entry_text.M eWriter1 eIndex2 ePrev3 eAtT4 eAtW5 eEpoch6 eBody7a eBody7n eBody7c eSig8 R w := by
  unfold entry_text.M
  unfold entry_text.N at h
  refine thenW_in fun ww9 e9 => ?_
  have hb1 := Blk.of_new e9
  have hg1 := ((Ext.refl no w)).size
  have hx9 := (Ext.refl no w).x_alloc e9
  refine thenW_in fun ww10 e10 => ?_
  have hl1 := hb1.lt
  have hb1 := hb1.x_alloc e10
  have h := h ww10 ww9.heap.size (w.heap.size) (hx9.x_alloc e10) (Blk.of_new e10) (hx9).size (size_lt_alloc e10) (Privq.cons hg1 hl1 Privq.nil)
  refine ⟨eWriter1, hb1.celli 0 rfl rfl, ?_⟩
  refine ⟨eIndex2, hb1.celli 1 rfl rfl, ?_⟩
  refine ⟨ePrev3, hb1.celli 2 rfl rfl, ?_⟩
  refine thenW_in fun ww13 e13 => ?_
  have hb1 := hb1.x_alloc e13
  have h := h ww13 ww10.heap.size ((Ext.refl no ww10).x_alloc e13) (Blk.of_new e13) ((Ext.refl no ww10)).size (size_lt_alloc e13)
  refine h.mono fun ee15 ww16 h => ?_
  obtain ⟨he, hk, h⟩ := h
  refine ⟨he, ?_⟩
  have hb1 := hk.blk hb1 (by simp)
  refine thenW_in fun ww17 e17 => ?_
  have hx17 := (Ext.refl no ww16).x_drew e17
  have hb1 := hb1.x_drew e17
  obtain ⟨x19a, x19n, x19c, hc18, h⟩ := h
  refine ⟨x19a, x19n, x19c, (hx17).cell hc18 id, ?_⟩
  refine ⟨eAtT4, eAtW5, ⟨hb1.celli 3 rfl rfl, hb1.celli 4 rfl rfl, trivial⟩, ?_⟩
  refine ⟨eEpoch6, hb1.celli 5 rfl rfl, ?_⟩
  have h := h ww17 hx17
  refine h.mono fun ee21 ww22 h => ?_
  obtain ⟨put20a, put20n, put20c, he, hk, h⟩ := h
  refine ⟨put20a, put20n, put20c, he, ?_⟩
  have hb1 := hk.blk hb1 (by simp)
  refine ⟨hb1.celli 5 rfl rfl, ?_⟩
  refine h.mono fun ee24 ww25 h => ?_
  obtain ⟨int23a, int23n, int23c, he, hk, h⟩ := h
  refine ⟨int23a, int23n, int23c, he, ?_⟩
  have hb1 := hk.blk hb1 (by simp)
  refine ⟨eBody7a, eBody7n, eBody7c, hb1.celli 6 rfl rfl, ?_⟩
  refine h.mono fun ee27 ww28 h => ?_
  obtain ⟨bytes26a, bytes26n, bytes26c, he, h⟩ := h
  refine ⟨bytes26a, bytes26n, bytes26c, he, ?_⟩
  exact h

theorem entry_text.go (eWriter1 : Int) (eIndex2 : Int) (ePrev3 : Int) (eAtT4 : Int) (eAtW5 : Int) (eEpoch6 : Int) (eBody7a : Option Addr) (eBody7n : Nat) (eBody7c : Nat) (eSig8 : Int) {R : Value → World → Prop} {w : World} (h : entry_text.N eWriter1 eIndex2 ePrev3 eAtT4 eAtW5 eEpoch6 eBody7a eBody7n eBody7c eSig8 R w) : Calls Try.prog 33 #[.agg #[.int .i64 eWriter1, .int .i64 eIndex2, .int .u64 ePrev3, .int .i64 eAtT4, .int .i64 eAtW5, .int .i64 eEpoch6, .slice eBody7a eBody7n eBody7c, .int .u64 eSig8]] w fun e w' => ∃ v, e = .returned v ∧ R v w' := entry_text.ok eWriter1 eIndex2 ePrev3 eAtT4 eAtW5 eEpoch6 eBody7a eBody7n eBody7c eSig8 (entry_text.up eWriter1 eIndex2 ePrev3 eAtT4 eAtW5 eEpoch6 eBody7a eBody7n eBody7c eSig8 h)
theorem entry_text.run (eWriter1 : Int) (eIndex2 : Int) (ePrev3 : Int) (eAtT4 : Int) (eAtW5 : Int) (eEpoch6 : Int) (eBody7a : Option Addr) (eBody7n : Nat) (eBody7c : Nat) (eSig8 : Int) {V : Value} {Q : World → Prop} {w : World} (h : entry_text.N eWriter1 eIndex2 ePrev3 eAtT4 eAtW5 eEpoch6 eBody7a eBody7n eBody7c eSig8 (fun v w' => v = V ∧ Q w') w) : Calls Try.prog 33 #[.agg #[.int .i64 eWriter1, .int .i64 eIndex2, .int .u64 ePrev3, .int .i64 eAtT4, .int .i64 eAtW5, .int .i64 eEpoch6, .slice eBody7a eBody7n eBody7c, .int .u64 eSig8]] w (Ret V Q) := (entry_text.go eWriter1 eIndex2 ePrev3 eAtT4 eAtW5 eEpoch6 eBody7a eBody7n eBody7c eSig8 h).mono fun e w' ⟨v, he, hv, hq⟩ => ⟨by rw [he, hv], hq⟩

/-- entry.Text -/
def entry_Text.M (eWriter1 : Int) (eIndex2 : Int) (ePrev3 : Int) (eAtT4 : Int) (eAtW5 : Int) (eEpoch6 : Int) (eBody7a : Option Addr) (eBody7n : Nat) (eBody7c : Nat) (eSig8 : Int) (R : Value → World → Prop) (w : World) : Prop :=
  thenW (w.alloc (.cells #[.int .i64 eWriter1, .int .i64 eIndex2, .int .u64 ePrev3, .int .i64 eAtT4, .int .i64 eAtW5, .int .i64 eEpoch6, .slice eBody7a eBody7n eBody7c, .int .u64 eSig8] 27)) fun ww9 =>
  ∃ (xWriter10 : Int) (xIndex11 : Int) (xPrev12 : Int) (xAtT13 : Int) (xAtW14 : Int) (xEpoch15 : Int) (xBody16a : Option Addr) (xBody16n : Nat) (xBody16c : Nat) (xSig17 : Int), cellsAt ww9 (blk w.heap.size) [.int .i64 xWriter10, .int .i64 xIndex11, .int .u64 xPrev12, .int .i64 xAtT13, .int .i64 xAtW14, .int .i64 xEpoch15, .slice xBody16a xBody16n xBody16c, .int .u64 xSig17] 0 ∧
  Calls Try.prog 11 #[.agg #[.int .i64 xWriter10, .int .i64 xIndex11, .int .u64 xPrev12, .int .i64 xAtT13, .int .i64 xAtW14, .int .i64 xEpoch15, .slice xBody16a xBody16n xBody16c, .int .u64 xSig17]] ww9 fun ee19 ww20 => ∃ (right18 : Bool), ee19 = .returned (.bool right18) ∧
  bif !right18 then (
  R (.tuple #[.slice none 0 0, .int .i64 1]) ww20) else (
  ∃ (xWriter21 : Int) (xIndex22 : Int) (xPrev23 : Int) (xAtT24 : Int) (xAtW25 : Int) (xEpoch26 : Int) (xBody27a : Option Addr) (xBody27n : Nat) (xBody27c : Nat) (xSig28 : Int), cellsAt ww20 (blk w.heap.size) [.int .i64 xWriter21, .int .i64 xIndex22, .int .u64 xPrev23, .int .i64 xAtT24, .int .i64 xAtW25, .int .i64 xEpoch26, .slice xBody27a xBody27n xBody27c, .int .u64 xSig28] 0 ∧
  Calls Try.prog 33 #[.agg #[.int .i64 xWriter21, .int .i64 xIndex22, .int .u64 xPrev23, .int .i64 xAtT24, .int .i64 xAtW25, .int .i64 xEpoch26, .slice xBody27a xBody27n xBody27c, .int .u64 xSig28]] ww20 fun ee30 ww31 => ∃ (text29a : Option Addr) (text29n : Nat) (text29c : Nat), ee30 = .returned (.slice text29a text29n text29c) ∧
  R (.tuple #[.slice text29a text29n text29c, .int .i64 0]) ww31)

theorem entry_Text.eq (eWriter1 : Int) (eIndex2 : Int) (ePrev3 : Int) (eAtT4 : Int) (eAtW5 : Int) (eEpoch6 : Int) (eBody7a : Option Addr) (eBody7n : Nat) (eBody7c : Nat) (eSig8 : Int) (R : Value → World → Prop) (w : World) : mfunc Try.prog [] 15 [.agg #[.int .i64 eWriter1, .int .i64 eIndex2, .int .u64 ePrev3, .int .i64 eAtT4, .int .i64 eAtW5, .int .i64 eEpoch6, .slice eBody7a eBody7n eBody7c, .int .u64 eSig8]] R w = entry_Text.M eWriter1 eIndex2 ePrev3 eAtT4 eAtW5 eEpoch6 eBody7a eBody7n eBody7c eSig8 R w := by kernel_rfl
theorem entry_Text.ok (eWriter1 : Int) (eIndex2 : Int) (ePrev3 : Int) (eAtT4 : Int) (eAtW5 : Int) (eEpoch6 : Int) (eBody7a : Option Addr) (eBody7n : Nat) (eBody7c : Nat) (eSig8 : Int) {R : Value → World → Prop} {w : World} (h : entry_Text.M eWriter1 eIndex2 ePrev3 eAtT4 eAtW5 eEpoch6 eBody7a eBody7n eBody7c eSig8 R w) : Calls Try.prog 15 #[.agg #[.int .i64 eWriter1, .int .i64 eIndex2, .int .u64 ePrev3, .int .i64 eAtT4, .int .i64 eAtW5, .int .i64 eEpoch6, .slice eBody7a eBody7n eBody7c, .int .u64 eSig8]] w fun e w' => ∃ v, e = .returned v ∧ R v w' :=
  mfunc_ok follows (H := []) (args := [.agg #[.int .i64 eWriter1, .int .i64 eIndex2, .int .u64 ePrev3, .int .i64 eAtT4, .int .i64 eAtW5, .int .i64 eEpoch6, .slice eBody7a eBody7n eBody7c, .int .u64 eSig8]]) (by rw [entry_Text.eq]; exact h)

def entry_Text.N (eWriter1 : Int) (eIndex2 : Int) (ePrev3 : Int) (eAtT4 : Int) (eAtW5 : Int) (eEpoch6 : Int) (eBody7a : Option Addr) (eBody7n : Nat) (eBody7c : Nat) (eSig8 : Int) (R : Value → World → Prop) (w : World) : Prop :=
  ((entry_Right.F eWriter1 eIndex2 ePrev3 eAtT4 eAtW5 eEpoch6 eBody7a eBody7n eBody7c eSig8) = false →
    ∀ (ww10 : World), Ext no w ww10 →
    R (.tuple #[.slice none 0 0, .int .i64 1]) ww10) ∧
  ((entry_Right.F eWriter1 eIndex2 ePrev3 eAtT4 eAtW5 eEpoch6 eBody7a eBody7n eBody7c eSig8) = true →
    ∀ (ww10 : World), Ext no w ww10 →
    Calls Try.prog 33 #[.agg #[.int .i64 eWriter1, .int .i64 eIndex2, .int .u64 ePrev3, .int .i64 eAtT4, .int .i64 eAtW5, .int .i64 eEpoch6, .slice eBody7a eBody7n eBody7c, .int .u64 eSig8]] ww10 fun ee15 ww16 => ∃ (text14a : Option Addr) (text14n : Nat) (text14c : Nat), ee15 = .returned (.slice text14a text14n text14c) ∧
    R (.tuple #[.slice text14a text14n text14c, .int .i64 0]) ww16)

theorem entry_Text.up (eWriter1 : Int) (eIndex2 : Int) (ePrev3 : Int) (eAtT4 : Int) (eAtW5 : Int) (eEpoch6 : Int) (eBody7a : Option Addr) (eBody7n : Nat) (eBody7c : Nat) (eSig8 : Int) {R : Value → World → Prop} {w : World} (h : entry_Text.N eWriter1 eIndex2 ePrev3 eAtT4 eAtW5 eEpoch6 eBody7a eBody7n eBody7c eSig8 R w) : entry_Text.M eWriter1 eIndex2 ePrev3 eAtT4 eAtW5 eEpoch6 eBody7a eBody7n eBody7c eSig8 R w := by
  unfold entry_Text.M
  unfold entry_Text.N at h
  refine thenW_in fun ww9 e9 => ?_
  have hb1 := Blk.of_new e9
  have hg1 := ((Ext.refl no w)).size
  have hx9 := (Ext.refl no w).x_alloc e9
  refine ⟨eWriter1, eIndex2, ePrev3, eAtT4, eAtW5, eEpoch6, eBody7a, eBody7n, eBody7c, eSig8, ⟨hb1.celli 0 rfl rfl, hb1.celli 1 rfl rfl, hb1.celli 2 rfl rfl, hb1.celli 3 rfl rfl, hb1.celli 4 rfl rfl, hb1.celli 5 rfl rfl, hb1.celli 6 rfl rfl, hb1.celli 7 rfl rfl, trivial⟩, ?_⟩
  refine (entry_Right.pure eWriter1 eIndex2 ePrev3 eAtT4 eAtW5 eEpoch6 eBody7a eBody7n eBody7c eSig8).mono fun ee ww10 ⟨he, hxx⟩ => ⟨(entry_Right.F eWriter1 eIndex2 ePrev3 eAtT4 eAtW5 eEpoch6 eBody7a eBody7n eBody7c eSig8), he, ?_⟩
  have hx10 := hx9.trans hxx
  have hb1 := hb1.ext hxx id
  refine bif_of (fun c11 => ?_) (fun c11 => ?_)
  · have h := h.1 (not_t c11)
    have h := h ww10 hx10
    exact h
  · have h := h.2 (not_f c11)
    refine ⟨eWriter1, eIndex2, ePrev3, eAtT4, eAtW5, eEpoch6, eBody7a, eBody7n, eBody7c, eSig8, ⟨hb1.celli 0 rfl rfl, hb1.celli 1 rfl rfl, hb1.celli 2 rfl rfl, hb1.celli 3 rfl rfl, hb1.celli 4 rfl rfl, hb1.celli 5 rfl rfl, hb1.celli 6 rfl rfl, hb1.celli 7 rfl rfl, trivial⟩, ?_⟩
    have h := h ww10 hx10
    refine h.mono fun ee15 ww16 h => ?_
    obtain ⟨text14a, text14n, text14c, he, h⟩ := h
    refine ⟨text14a, text14n, text14c, he, ?_⟩
    exact h

theorem entry_Text.go (eWriter1 : Int) (eIndex2 : Int) (ePrev3 : Int) (eAtT4 : Int) (eAtW5 : Int) (eEpoch6 : Int) (eBody7a : Option Addr) (eBody7n : Nat) (eBody7c : Nat) (eSig8 : Int) {R : Value → World → Prop} {w : World} (h : entry_Text.N eWriter1 eIndex2 ePrev3 eAtT4 eAtW5 eEpoch6 eBody7a eBody7n eBody7c eSig8 R w) : Calls Try.prog 15 #[.agg #[.int .i64 eWriter1, .int .i64 eIndex2, .int .u64 ePrev3, .int .i64 eAtT4, .int .i64 eAtW5, .int .i64 eEpoch6, .slice eBody7a eBody7n eBody7c, .int .u64 eSig8]] w fun e w' => ∃ v, e = .returned v ∧ R v w' := entry_Text.ok eWriter1 eIndex2 ePrev3 eAtT4 eAtW5 eEpoch6 eBody7a eBody7n eBody7c eSig8 (entry_Text.up eWriter1 eIndex2 ePrev3 eAtT4 eAtW5 eEpoch6 eBody7a eBody7n eBody7c eSig8 h)
theorem entry_Text.run (eWriter1 : Int) (eIndex2 : Int) (ePrev3 : Int) (eAtT4 : Int) (eAtW5 : Int) (eEpoch6 : Int) (eBody7a : Option Addr) (eBody7n : Nat) (eBody7c : Nat) (eSig8 : Int) {V : Value} {Q : World → Prop} {w : World} (h : entry_Text.N eWriter1 eIndex2 ePrev3 eAtT4 eAtW5 eEpoch6 eBody7a eBody7n eBody7c eSig8 (fun v w' => v = V ∧ Q w') w) : Calls Try.prog 15 #[.agg #[.int .i64 eWriter1, .int .i64 eIndex2, .int .u64 ePrev3, .int .i64 eAtT4, .int .i64 eAtW5, .int .i64 eEpoch6, .slice eBody7a eBody7n eBody7c, .int .u64 eSig8]] w (Ret V Q) := (entry_Text.go eWriter1 eIndex2 ePrev3 eAtT4 eAtW5 eEpoch6 eBody7a eBody7n eBody7c eSig8 h).mono fun e w' ⟨v, he, hv, hq⟩ => ⟨by rw [he, hv], hq⟩

/-- entry.Bytes -/
def entry_Bytes.M (eWriter1 : Int) (eIndex2 : Int) (ePrev3 : Int) (eAtT4 : Int) (eAtW5 : Int) (eEpoch6 : Int) (eBody7a : Option Addr) (eBody7n : Nat) (eBody7c : Nat) (eSig8 : Int) (R : Value → World → Prop) (w : World) : Prop :=
  thenW (w.alloc (.cells #[.int .i64 eWriter1, .int .i64 eIndex2, .int .u64 ePrev3, .int .i64 eAtT4, .int .i64 eAtW5, .int .i64 eEpoch6, .slice eBody7a eBody7n eBody7c, .int .u64 eSig8] 27)) fun ww9 =>
  ∃ (xWriter10 : Int) (xIndex11 : Int) (xPrev12 : Int) (xAtT13 : Int) (xAtW14 : Int) (xEpoch15 : Int) (xBody16a : Option Addr) (xBody16n : Nat) (xBody16c : Nat) (xSig17 : Int), cellsAt ww9 (blk w.heap.size) [.int .i64 xWriter10, .int .i64 xIndex11, .int .u64 xPrev12, .int .i64 xAtT13, .int .i64 xAtW14, .int .i64 xEpoch15, .slice xBody16a xBody16n xBody16c, .int .u64 xSig17] 0 ∧
  Calls Try.prog 11 #[.agg #[.int .i64 xWriter10, .int .i64 xIndex11, .int .u64 xPrev12, .int .i64 xAtT13, .int .i64 xAtW14, .int .i64 xEpoch15, .slice xBody16a xBody16n xBody16c, .int .u64 xSig17]] ww9 fun ee19 ww20 => ∃ (right18 : Bool), ee19 = .returned (.bool right18) ∧
  bif !right18 then (
  R (.tuple #[.slice none 0 0, .int .i64 1]) ww20) else (
  thenW (ww20.drew) fun ww21 =>
  ∃ (xWriter22 : Int) (xIndex23 : Int) (xPrev24 : Int) (xAtT25 : Int) (xAtW26 : Int) (xEpoch27 : Int) (xBody28a : Option Addr) (xBody28n : Nat) (xBody28c : Nat) (xSig29 : Int), cellsAt ww21 (blk w.heap.size) [.int .i64 xWriter22, .int .i64 xIndex23, .int .u64 xPrev24, .int .i64 xAtT25, .int .i64 xAtW26, .int .i64 xEpoch27, .slice xBody28a xBody28n xBody28c, .int .u64 xSig29] 0 ∧
  ∃ (Sig30 : Int), ww21.cell? ((blk w.heap.size).add 7) = some (.int .u64 Sig30) ∧
  Calls Try.prog 33 #[.agg #[.int .i64 xWriter22, .int .i64 xIndex23, .int .u64 xPrev24, .int .i64 xAtT25, .int .i64 xAtW26, .int .i64 xEpoch27, .slice xBody28a xBody28n xBody28c, .int .u64 xSig29]] ww21 fun ee32 ww33 => ∃ (text31a : Option Addr) (text31n : Nat) (text31c : Nat), ee32 = .returned (.slice text31a text31n text31c) ∧
  ww33.cell? ((blk w.heap.size).add 7) = some (.int .u64 Sig30) ∧
  Calls Try.prog 32 #[.slice text31a text31n text31c, .int .u64 Sig30] ww33 fun ee35 ww36 => ∃ (num34a : Option Addr) (num34n : Nat) (num34c : Nat), ee35 = .returned (.slice num34a num34n num34c) ∧
  R (.tuple #[.slice num34a num34n num34c, .int .i64 0]) ww36)

theorem entry_Bytes.eq (eWriter1 : Int) (eIndex2 : Int) (ePrev3 : Int) (eAtT4 : Int) (eAtW5 : Int) (eEpoch6 : Int) (eBody7a : Option Addr) (eBody7n : Nat) (eBody7c : Nat) (eSig8 : Int) (R : Value → World → Prop) (w : World) : mfunc Try.prog [] 10 [.agg #[.int .i64 eWriter1, .int .i64 eIndex2, .int .u64 ePrev3, .int .i64 eAtT4, .int .i64 eAtW5, .int .i64 eEpoch6, .slice eBody7a eBody7n eBody7c, .int .u64 eSig8]] R w = entry_Bytes.M eWriter1 eIndex2 ePrev3 eAtT4 eAtW5 eEpoch6 eBody7a eBody7n eBody7c eSig8 R w := by kernel_rfl
theorem entry_Bytes.ok (eWriter1 : Int) (eIndex2 : Int) (ePrev3 : Int) (eAtT4 : Int) (eAtW5 : Int) (eEpoch6 : Int) (eBody7a : Option Addr) (eBody7n : Nat) (eBody7c : Nat) (eSig8 : Int) {R : Value → World → Prop} {w : World} (h : entry_Bytes.M eWriter1 eIndex2 ePrev3 eAtT4 eAtW5 eEpoch6 eBody7a eBody7n eBody7c eSig8 R w) : Calls Try.prog 10 #[.agg #[.int .i64 eWriter1, .int .i64 eIndex2, .int .u64 ePrev3, .int .i64 eAtT4, .int .i64 eAtW5, .int .i64 eEpoch6, .slice eBody7a eBody7n eBody7c, .int .u64 eSig8]] w fun e w' => ∃ v, e = .returned v ∧ R v w' :=
  mfunc_ok follows (H := []) (args := [.agg #[.int .i64 eWriter1, .int .i64 eIndex2, .int .u64 ePrev3, .int .i64 eAtT4, .int .i64 eAtW5, .int .i64 eEpoch6, .slice eBody7a eBody7n eBody7c, .int .u64 eSig8]]) (by rw [entry_Bytes.eq]; exact h)

def entry_Bytes.N (eWriter1 : Int) (eIndex2 : Int) (ePrev3 : Int) (eAtT4 : Int) (eAtW5 : Int) (eEpoch6 : Int) (eBody7a : Option Addr) (eBody7n : Nat) (eBody7c : Nat) (eSig8 : Int) (R : Value → World → Prop) (w : World) : Prop :=
  ((entry_Right.F eWriter1 eIndex2 ePrev3 eAtT4 eAtW5 eEpoch6 eBody7a eBody7n eBody7c eSig8) = false →
    ∀ (ww10 : World), Ext no w ww10 →
    R (.tuple #[.slice none 0 0, .int .i64 1]) ww10) ∧
  ((entry_Right.F eWriter1 eIndex2 ePrev3 eAtT4 eAtW5 eEpoch6 eBody7a eBody7n eBody7c eSig8) = true →
    ∀ (ww13 : World) (p14 : Nat), Ext no w ww13 → Priv w ww13 [p14] →
    Calls Try.prog 33 #[.agg #[.int .i64 eWriter1, .int .i64 eIndex2, .int .u64 ePrev3, .int .i64 eAtT4, .int .i64 eAtW5, .int .i64 eEpoch6, .slice eBody7a eBody7n eBody7c, .int .u64 eSig8]] ww13 fun ee16 ww17 => ∃ (text15a : Option Addr) (text15n : Nat) (text15c : Nat), ee16 = .returned (.slice text15a text15n text15c) ∧
    Keep [p14] ww13 ww17 ∧
    Calls Try.prog 32 #[.slice text15a text15n text15c, .int .u64 eSig8] ww17 fun ee19 ww20 => ∃ (num18a : Option Addr) (num18n : Nat) (num18c : Nat), ee19 = .returned (.slice num18a num18n num18c) ∧
    R (.tuple #[.slice num18a num18n num18c, .int .i64 0]) ww20)

theorem entry_Bytes.up (eWriter1 : Int) (eIndex2 : Int) (ePrev3 : Int) (eAtT4 : Int) (eAtW5 : Int) (eEpoch6 : Int) (eBody7a : Option Addr) (eBody7n : Nat) (eBody7c : Nat) (eSig8 : Int) {R : Value → World → Prop} {w : World} (h : entry_Bytes.N eWriter1 eIndex2 ePrev3 eAtT4 eAtW5 eEpoch6 eBody7a eBody7n eBody7c eSig8 R w) : entry_Bytes.M eWriter1 eIndex2 ePrev3 eAtT4 eAtW5 eEpoch6 eBody7a eBody7n eBody7c eSig8 R w := by
  unfold entry_Bytes.M
  unfold entry_Bytes.N at h
  refine thenW_in fun ww9 e9 => ?_
  have hb1 := Blk.of_new e9
  have hg1 := ((Ext.refl no w)).size
  have hx9 := (Ext.refl no w).x_alloc e9
  refine ⟨eWriter1, eIndex2, ePrev3, eAtT4, eAtW5, eEpoch6, eBody7a, eBody7n, eBody7c, eSig8, ⟨hb1.celli 0 rfl rfl, hb1.celli 1 rfl rfl, hb1.celli 2 rfl rfl, hb1.celli 3 rfl rfl, hb1.celli 4 rfl rfl, hb1.celli 5 rfl rfl, hb1.celli 6 rfl rfl, hb1.celli 7 rfl rfl, trivial⟩, ?_⟩
  refine (entry_Right.pure eWriter1 eIndex2 ePrev3 eAtT4 eAtW5 eEpoch6 eBody7a eBody7n eBody7c eSig8).mono fun ee ww10 ⟨he, hxx⟩ => ⟨(entry_Right.F eWriter1 eIndex2 ePrev3 eAtT4 eAtW5 eEpoch6 eBody7a eBody7n eBody7c eSig8), he, ?_⟩
  have hx10 := hx9.trans hxx
  have hb1 := hb1.ext hxx id
  refine bif_of (fun c11 => ?_) (fun c11 => ?_)
  · have h := h.1 (not_t c11)
    have h := h ww10 hx10
    exact h
  · have h := h.2 (not_f c11)
    refine thenW_in fun ww13 e13 => ?_
    have hx13 := hx10.x_drew e13
    have hb1 := hb1.x_drew e13
    refine ⟨eWriter1, eIndex2, ePrev3, eAtT4, eAtW5, eEpoch6, eBody7a, eBody7n, eBody7c, eSig8, ⟨hb1.celli 0 rfl rfl, hb1.celli 1 rfl rfl, hb1.celli 2 rfl rfl, hb1.celli 3 rfl rfl, hb1.celli 4 rfl rfl, hb1.celli 5 rfl rfl, hb1.celli 6 rfl rfl, hb1.celli 7 rfl rfl, trivial⟩, ?_⟩
    refine ⟨eSig8, hb1.celli 7 rfl rfl, ?_⟩
    have h := h ww13 (w.heap.size) hx13 (Priv.cons hg1 hb1.lt Priv.nil)
    refine h.mono fun ee16 ww17 h => ?_
    obtain ⟨text15a, text15n, text15c, he, hk, h⟩ := h
    refine ⟨text15a, text15n, text15c, he, ?_⟩
    have hb1 := hk.blk hb1 (by simp)
    refine ⟨hb1.celli 7 rfl rfl, ?_⟩
    refine h.mono fun ee19 ww20 h => ?_
    obtain ⟨num18a, num18n, num18c, he, h⟩ := h
    refine ⟨num18a, num18n, num18c, he, ?_⟩
    exact h

theorem entry_Bytes.go (eWriter1 : Int) (eIndex2 : Int) (ePrev3 : Int) (eAtT4 : Int) (eAtW5 : Int) (eEpoch6 : Int) (eBody7a : Option Addr) (eBody7n : Nat) (eBody7c : Nat) (eSig8 : Int) {R : Value → World → Prop} {w : World} (h : entry_Bytes.N eWriter1 eIndex2 ePrev3 eAtT4 eAtW5 eEpoch6 eBody7a eBody7n eBody7c eSig8 R w) : Calls Try.prog 10 #[.agg #[.int .i64 eWriter1, .int .i64 eIndex2, .int .u64 ePrev3, .int .i64 eAtT4, .int .i64 eAtW5, .int .i64 eEpoch6, .slice eBody7a eBody7n eBody7c, .int .u64 eSig8]] w fun e w' => ∃ v, e = .returned v ∧ R v w' := entry_Bytes.ok eWriter1 eIndex2 ePrev3 eAtT4 eAtW5 eEpoch6 eBody7a eBody7n eBody7c eSig8 (entry_Bytes.up eWriter1 eIndex2 ePrev3 eAtT4 eAtW5 eEpoch6 eBody7a eBody7n eBody7c eSig8 h)
theorem entry_Bytes.run (eWriter1 : Int) (eIndex2 : Int) (ePrev3 : Int) (eAtT4 : Int) (eAtW5 : Int) (eEpoch6 : Int) (eBody7a : Option Addr) (eBody7n : Nat) (eBody7c : Nat) (eSig8 : Int) {V : Value} {Q : World → Prop} {w : World} (h : entry_Bytes.N eWriter1 eIndex2 ePrev3 eAtT4 eAtW5 eEpoch6 eBody7a eBody7n eBody7c eSig8 (fun v w' => v = V ∧ Q w') w) : Calls Try.prog 10 #[.agg #[.int .i64 eWriter1, .int .i64 eIndex2, .int .u64 ePrev3, .int .i64 eAtT4, .int .i64 eAtW5, .int .i64 eEpoch6, .slice eBody7a eBody7n eBody7c, .int .u64 eSig8]] w (Ret V Q) := (entry_Bytes.go eWriter1 eIndex2 ePrev3 eAtT4 eAtW5 eEpoch6 eBody7a eBody7n eBody7c eSig8 h).mono fun e w' ⟨v, he, hv, hq⟩ => ⟨by rw [he, hv], hq⟩

/-- entry.Read -/
def entry_Read.M (b1a : Option Addr) (b1n : Nat) (b1c : Nat) (R : Value → World → Prop) (w : World) : Prop :=
  thenW (w.alloc (.cells #[.int .i64 0, .int .i64 0, .int .u64 0, .int .i64 0, .int .i64 0, .int .i64 0, .slice none 0 0, .int .u64 0] 27)) fun ww2 =>
  Calls Try.prog 36 #[.slice b1a b1n b1c] ww2 fun ee4 ww5 => ∃ (read3 : Option Addr), ee4 = .returned (.pointer read3) ∧
  thenW (ww5.alloc (.cells #[.int .i64 0, .int .i64 0, .int .u64 0, .int .i64 0, .int .i64 0, .int .i64 0, .slice none 0 0, .int .u64 0] 27)) fun ww6 =>
  Calls Try.prog 37 #[.pointer read3, .int .i64 7] ww6 fun ee8 ww9 => ∃ (count7 : Int), ee8 = .returned (.int .i64 count7) ∧
  canStore ww9 (((blk ww5.heap.size).add 0).add 0) ∧
  thenW (ww9.setCell (((blk ww5.heap.size).add 0).add 0) (.int .i64 count7)) fun ww10 =>
  Calls Try.prog 37 #[.pointer read3, .int .i64 199] ww10 fun ee12 ww13 => ∃ (count11 : Int), ee12 = .returned (.int .i64 count11) ∧
  canStore ww13 (((blk ww5.heap.size).add 1).add 0) ∧
  thenW (ww13.setCell (((blk ww5.heap.size).add 1).add 0) (.int .i64 count11)) fun ww14 =>
  Calls Try.prog 38 #[.pointer read3] ww14 fun ee16 ww17 => ∃ (num15 : Int), ee16 = .returned (.int .u64 num15) ∧
  canStore ww17 (((blk ww5.heap.size).add 2).add 0) ∧
  thenW (ww17.setCell (((blk ww5.heap.size).add 2).add 0) (.int .u64 num15)) fun ww18 =>
  Calls Try.prog 39 #[.pointer read3] ww18 fun ee21 ww22 => ∃ (T19 : Int) (W20 : Int), ee21 = .returned (.agg #[.int .i64 T19, .int .i64 W20]) ∧
  canStore ww22 (((blk ww5.heap.size).add 3).add 0) ∧
  thenW (ww22.setCell (((blk ww5.heap.size).add 3).add 0) (.int .i64 T19)) fun ww23 =>
  canStore ww23 (((blk ww5.heap.size).add 3).add 1) ∧
  thenW (ww23.setCell (((blk ww5.heap.size).add 3).add 1) (.int .i64 W20)) fun ww24 =>
  Calls Try.prog 40 #[.pointer read3] ww24 fun ee26 ww27 => ∃ (int25 : Int), ee26 = .returned (.int .i64 int25) ∧
  Calls Try.prog 41 #[.pointer read3, .int .i64 1100] ww27 fun ee29 ww30 => ∃ (bytes28a : Option Addr) (bytes28n : Nat) (bytes28c : Nat), ee29 = .returned (.slice bytes28a bytes28n bytes28c) ∧
  canStore ww30 (((blk ww5.heap.size).add 6).add 0) ∧
  thenW (ww30.setCell (((blk ww5.heap.size).add 6).add 0) (.slice bytes28a bytes28n bytes28c)) fun ww31 =>
  Calls Try.prog 38 #[.pointer read3] ww31 fun ee33 ww34 => ∃ (num32 : Int), ee33 = .returned (.int .u64 num32) ∧
  canStore ww34 (((blk ww5.heap.size).add 7).add 0) ∧
  thenW (ww34.setCell (((blk ww5.heap.size).add 7).add 0) (.int .u64 num32)) fun ww35 =>
  Calls Try.prog 42 #[.pointer read3] ww35 fun ee37 ww38 => ∃ (done36 : Int), ee37 = .returned (.int .i64 done36) ∧
  bif done36 != 0 then (
  canStore ww38 ((blk w.heap.size).add 0) ∧
  thenW (ww38.setCell ((blk w.heap.size).add 0) (.int .i64 0)) fun ww39 =>
  canStore ww39 ((blk w.heap.size).add 1) ∧
  thenW (ww39.setCell ((blk w.heap.size).add 1) (.int .i64 0)) fun ww40 =>
  canStore ww40 ((blk w.heap.size).add 2) ∧
  thenW (ww40.setCell ((blk w.heap.size).add 2) (.int .u64 0)) fun ww41 =>
  canStore ww41 ((blk w.heap.size).add 3) ∧
  thenW (ww41.setCell ((blk w.heap.size).add 3) (.int .i64 0)) fun ww42 =>
  canStore ww42 ((blk w.heap.size).add 4) ∧
  thenW (ww42.setCell ((blk w.heap.size).add 4) (.int .i64 0)) fun ww43 =>
  canStore ww43 ((blk w.heap.size).add 5) ∧
  thenW (ww43.setCell ((blk w.heap.size).add 5) (.int .i64 0)) fun ww44 =>
  canStore ww44 ((blk w.heap.size).add 6) ∧
  thenW (ww44.setCell ((blk w.heap.size).add 6) (.slice none 0 0)) fun ww45 =>
  canStore ww45 ((blk w.heap.size).add 7) ∧
  thenW (ww45.setCell ((blk w.heap.size).add 7) (.int .u64 0)) fun ww46 =>
  ∃ (resWriter47 : Int) (resIndex48 : Int) (resPrev49 : Int) (resAtT50 : Int) (resAtW51 : Int) (resEpoch52 : Int) (resBody53a : Option Addr) (resBody53n : Nat) (resBody53c : Nat) (resSig54 : Int), cellsAt ww46 (blk w.heap.size) [.int .i64 resWriter47, .int .i64 resIndex48, .int .u64 resPrev49, .int .i64 resAtT50, .int .i64 resAtW51, .int .i64 resEpoch52, .slice resBody53a resBody53n resBody53c, .int .u64 resSig54] 0 ∧
  R (.tuple #[.agg #[.int .i64 resWriter47, .int .i64 resIndex48, .int .u64 resPrev49, .int .i64 resAtT50, .int .i64 resAtW51, .int .i64 resEpoch52, .slice resBody53a resBody53n resBody53c, .int .u64 resSig54], .int .i64 done36]) ww46) else (
  canStore ww38 (((blk ww5.heap.size).add 5).add 0) ∧
  thenW (ww38.setCell (((blk ww5.heap.size).add 5).add 0) (.int .i64 int25)) fun ww55 =>
  ∃ (Epoch56 : Int), ww55.cell? ((blk ww5.heap.size).add 5) = some (.int .i64 Epoch56) ∧
  bif Epoch56 != int25 then (
  canStore ww55 ((blk w.heap.size).add 0) ∧
  thenW (ww55.setCell ((blk w.heap.size).add 0) (.int .i64 0)) fun ww57 =>
  canStore ww57 ((blk w.heap.size).add 1) ∧
  thenW (ww57.setCell ((blk w.heap.size).add 1) (.int .i64 0)) fun ww58 =>
  canStore ww58 ((blk w.heap.size).add 2) ∧
  thenW (ww58.setCell ((blk w.heap.size).add 2) (.int .u64 0)) fun ww59 =>
  canStore ww59 ((blk w.heap.size).add 3) ∧
  thenW (ww59.setCell ((blk w.heap.size).add 3) (.int .i64 0)) fun ww60 =>
  canStore ww60 ((blk w.heap.size).add 4) ∧
  thenW (ww60.setCell ((blk w.heap.size).add 4) (.int .i64 0)) fun ww61 =>
  canStore ww61 ((blk w.heap.size).add 5) ∧
  thenW (ww61.setCell ((blk w.heap.size).add 5) (.int .i64 0)) fun ww62 =>
  canStore ww62 ((blk w.heap.size).add 6) ∧
  thenW (ww62.setCell ((blk w.heap.size).add 6) (.slice none 0 0)) fun ww63 =>
  canStore ww63 ((blk w.heap.size).add 7) ∧
  thenW (ww63.setCell ((blk w.heap.size).add 7) (.int .u64 0)) fun ww64 =>
  ∃ (resWriter65 : Int) (resIndex66 : Int) (resPrev67 : Int) (resAtT68 : Int) (resAtW69 : Int) (resEpoch70 : Int) (resBody71a : Option Addr) (resBody71n : Nat) (resBody71c : Nat) (resSig72 : Int), cellsAt ww64 (blk w.heap.size) [.int .i64 resWriter65, .int .i64 resIndex66, .int .u64 resPrev67, .int .i64 resAtT68, .int .i64 resAtW69, .int .i64 resEpoch70, .slice resBody71a resBody71n resBody71c, .int .u64 resSig72] 0 ∧
  R (.tuple #[.agg #[.int .i64 resWriter65, .int .i64 resIndex66, .int .u64 resPrev67, .int .i64 resAtT68, .int .i64 resAtW69, .int .i64 resEpoch70, .slice resBody71a resBody71n resBody71c, .int .u64 resSig72], .int .i64 4]) ww64) else (
  ∃ (xWriter73 : Int) (xIndex74 : Int) (xPrev75 : Int) (xAtT76 : Int) (xAtW77 : Int) (xEpoch78 : Int) (xBody79a : Option Addr) (xBody79n : Nat) (xBody79c : Nat) (xSig80 : Int), cellsAt ww55 (blk ww5.heap.size) [.int .i64 xWriter73, .int .i64 xIndex74, .int .u64 xPrev75, .int .i64 xAtT76, .int .i64 xAtW77, .int .i64 xEpoch78, .slice xBody79a xBody79n xBody79c, .int .u64 xSig80] 0 ∧
  Calls Try.prog 11 #[.agg #[.int .i64 xWriter73, .int .i64 xIndex74, .int .u64 xPrev75, .int .i64 xAtT76, .int .i64 xAtW77, .int .i64 xEpoch78, .slice xBody79a xBody79n xBody79c, .int .u64 xSig80]] ww55 fun ee82 ww83 => ∃ (right81 : Bool), ee82 = .returned (.bool right81) ∧
  bif !right81 then (
  canStore ww83 ((blk w.heap.size).add 0) ∧
  thenW (ww83.setCell ((blk w.heap.size).add 0) (.int .i64 0)) fun ww84 =>
  canStore ww84 ((blk w.heap.size).add 1) ∧
  thenW (ww84.setCell ((blk w.heap.size).add 1) (.int .i64 0)) fun ww85 =>
  canStore ww85 ((blk w.heap.size).add 2) ∧
  thenW (ww85.setCell ((blk w.heap.size).add 2) (.int .u64 0)) fun ww86 =>
  canStore ww86 ((blk w.heap.size).add 3) ∧
  thenW (ww86.setCell ((blk w.heap.size).add 3) (.int .i64 0)) fun ww87 =>
  canStore ww87 ((blk w.heap.size).add 4) ∧
  thenW (ww87.setCell ((blk w.heap.size).add 4) (.int .i64 0)) fun ww88 =>
  canStore ww88 ((blk w.heap.size).add 5) ∧
  thenW (ww88.setCell ((blk w.heap.size).add 5) (.int .i64 0)) fun ww89 =>
  canStore ww89 ((blk w.heap.size).add 6) ∧
  thenW (ww89.setCell ((blk w.heap.size).add 6) (.slice none 0 0)) fun ww90 =>
  canStore ww90 ((blk w.heap.size).add 7) ∧
  thenW (ww90.setCell ((blk w.heap.size).add 7) (.int .u64 0)) fun ww91 =>
  ∃ (resWriter92 : Int) (resIndex93 : Int) (resPrev94 : Int) (resAtT95 : Int) (resAtW96 : Int) (resEpoch97 : Int) (resBody98a : Option Addr) (resBody98n : Nat) (resBody98c : Nat) (resSig99 : Int), cellsAt ww91 (blk w.heap.size) [.int .i64 resWriter92, .int .i64 resIndex93, .int .u64 resPrev94, .int .i64 resAtT95, .int .i64 resAtW96, .int .i64 resEpoch97, .slice resBody98a resBody98n resBody98c, .int .u64 resSig99] 0 ∧
  R (.tuple #[.agg #[.int .i64 resWriter92, .int .i64 resIndex93, .int .u64 resPrev94, .int .i64 resAtT95, .int .i64 resAtW96, .int .i64 resEpoch97, .slice resBody98a resBody98n resBody98c, .int .u64 resSig99], .int .i64 4]) ww91) else (
  ∃ (xWriter100 : Int) (xIndex101 : Int) (xPrev102 : Int) (xAtT103 : Int) (xAtW104 : Int) (xEpoch105 : Int) (xBody106a : Option Addr) (xBody106n : Nat) (xBody106c : Nat) (xSig107 : Int), cellsAt ww83 (blk ww5.heap.size) [.int .i64 xWriter100, .int .i64 xIndex101, .int .u64 xPrev102, .int .i64 xAtT103, .int .i64 xAtW104, .int .i64 xEpoch105, .slice xBody106a xBody106n xBody106c, .int .u64 xSig107] 0 ∧
  canStore ww83 ((blk w.heap.size).add 0) ∧
  thenW (ww83.setCell ((blk w.heap.size).add 0) (.int .i64 xWriter100)) fun ww108 =>
  canStore ww108 ((blk w.heap.size).add 1) ∧
  thenW (ww108.setCell ((blk w.heap.size).add 1) (.int .i64 xIndex101)) fun ww109 =>
  canStore ww109 ((blk w.heap.size).add 2) ∧
  thenW (ww109.setCell ((blk w.heap.size).add 2) (.int .u64 xPrev102)) fun ww110 =>
  canStore ww110 ((blk w.heap.size).add 3) ∧
  thenW (ww110.setCell ((blk w.heap.size).add 3) (.int .i64 xAtT103)) fun ww111 =>
  canStore ww111 ((blk w.heap.size).add 4) ∧
  thenW (ww111.setCell ((blk w.heap.size).add 4) (.int .i64 xAtW104)) fun ww112 =>
  canStore ww112 ((blk w.heap.size).add 5) ∧
  thenW (ww112.setCell ((blk w.heap.size).add 5) (.int .i64 xEpoch105)) fun ww113 =>
  canStore ww113 ((blk w.heap.size).add 6) ∧
  thenW (ww113.setCell ((blk w.heap.size).add 6) (.slice xBody106a xBody106n xBody106c)) fun ww114 =>
  canStore ww114 ((blk w.heap.size).add 7) ∧
  thenW (ww114.setCell ((blk w.heap.size).add 7) (.int .u64 xSig107)) fun ww115 =>
  ∃ (resWriter116 : Int) (resIndex117 : Int) (resPrev118 : Int) (resAtT119 : Int) (resAtW120 : Int) (resEpoch121 : Int) (resBody122a : Option Addr) (resBody122n : Nat) (resBody122c : Nat) (resSig123 : Int), cellsAt ww115 (blk w.heap.size) [.int .i64 resWriter116, .int .i64 resIndex117, .int .u64 resPrev118, .int .i64 resAtT119, .int .i64 resAtW120, .int .i64 resEpoch121, .slice resBody122a resBody122n resBody122c, .int .u64 resSig123] 0 ∧
  R (.tuple #[.agg #[.int .i64 resWriter116, .int .i64 resIndex117, .int .u64 resPrev118, .int .i64 resAtT119, .int .i64 resAtW120, .int .i64 resEpoch121, .slice resBody122a resBody122n resBody122c, .int .u64 resSig123], .int .i64 0]) ww115)))

theorem entry_Read.eq (b1a : Option Addr) (b1n : Nat) (b1c : Nat) (R : Value → World → Prop) (w : World) : mfunc Try.prog [] 12 [.slice b1a b1n b1c] R w = entry_Read.M b1a b1n b1c R w := by kernel_rfl
theorem entry_Read.ok (b1a : Option Addr) (b1n : Nat) (b1c : Nat) {R : Value → World → Prop} {w : World} (h : entry_Read.M b1a b1n b1c R w) : Calls Try.prog 12 #[.slice b1a b1n b1c] w fun e w' => ∃ v, e = .returned v ∧ R v w' :=
  mfunc_ok follows (H := []) (args := [.slice b1a b1n b1c]) (by rw [entry_Read.eq]; exact h)

def entry_Read.N (b1a : Option Addr) (b1n : Nat) (b1c : Nat) (R : Value → World → Prop) (w : World) : Prop :=
  ∀ (ww2 : World) (p3 : Nat), Ext no w ww2 → Priv w ww2 [p3] →
  Calls Try.prog 36 #[.slice b1a b1n b1c] ww2 fun ee5 ww6 => ∃ (read4 : Option Addr), ee5 = .returned (.pointer read4) ∧
  Keep [p3] ww2 ww6 ∧
  ∀ (ww7 : World) (p8 : Nat), Ext no ww6 ww7 → Priv ww6 ww7 [p8] →
  Calls Try.prog 37 #[.pointer read4, .int .i64 7] ww7 fun ee10 ww11 => ∃ (count9 : Int), ee10 = .returned (.int .i64 count9) ∧
  Keep [p3, p8] ww7 ww11 ∧
  ∀ (ww12 : World), Ext (fun b => b = p8) ww11 ww12 →
  Calls Try.prog 37 #[.pointer read4, .int .i64 199] ww12 fun ee14 ww15 => ∃ (count13 : Int), ee14 = .returned (.int .i64 count13) ∧
  Keep [p3, p8] ww12 ww15 ∧
  ∀ (ww16 : World), Ext (fun b => b = p8) ww15 ww16 →
  Calls Try.prog 38 #[.pointer read4] ww16 fun ee18 ww19 => ∃ (num17 : Int), ee18 = .returned (.int .u64 num17) ∧
  Keep [p3, p8] ww16 ww19 ∧
  ∀ (ww20 : World), Ext (fun b => b = p8) ww19 ww20 →
  Calls Try.prog 39 #[.pointer read4] ww20 fun ee23 ww24 => ∃ (T21 : Int) (W22 : Int), ee23 = .returned (.agg #[.int .i64 T21, .int .i64 W22]) ∧
  Keep [p3, p8] ww20 ww24 ∧
  ∀ (ww26 : World), Ext (fun b => b = p8) ww24 ww26 →
  Calls Try.prog 40 #[.pointer read4] ww26 fun ee28 ww29 => ∃ (int27 : Int), ee28 = .returned (.int .i64 int27) ∧
  Keep [p3, p8] ww26 ww29 ∧
  Calls Try.prog 41 #[.pointer read4, .int .i64 1100] ww29 fun ee31 ww32 => ∃ (bytes30a : Option Addr) (bytes30n : Nat) (bytes30c : Nat), ee31 = .returned (.slice bytes30a bytes30n bytes30c) ∧
  Keep [p3, p8] ww29 ww32 ∧
  ∀ (ww33 : World), Ext (fun b => b = p8) ww32 ww33 →
  Calls Try.prog 38 #[.pointer read4] ww33 fun ee35 ww36 => ∃ (num34 : Int), ee35 = .returned (.int .u64 num34) ∧
  Keep [p3, p8] ww33 ww36 ∧
  ∀ (ww37 : World), Ext (fun b => b = p8) ww36 ww37 →
  Calls Try.prog 42 #[.pointer read4] ww37 fun ee39 ww40 => ∃ (done38 : Int), ee39 = .returned (.int .i64 done38) ∧
  Keep [p3, p8] ww37 ww40 ∧
  (done38 ≠ 0 →
    ∀ (ww49 : World), Ext (fun b => b = p3) ww40 ww49 →
    R (.tuple #[.agg #[.int .i64 0, .int .i64 0, .int .u64 0, .int .i64 0, .int .i64 0, .int .i64 0, .slice none 0 0, .int .u64 0], .int .i64 done38]) ww49) ∧
  (done38 = 0 →
    (int27 ≠ int27 →
      ∀ (ww59 : World), Ext (fun b => b = p3 ∨ b = p8) ww40 ww59 →
      R (.tuple #[.agg #[.int .i64 0, .int .i64 0, .int .u64 0, .int .i64 0, .int .i64 0, .int .i64 0, .slice none 0 0, .int .u64 0], .int .i64 4]) ww59) ∧
    (int27 = int27 →
      ((entry_Right.F count9 count13 num17 T21 W22 int27 bytes30a bytes30n bytes30c num34) = false →
        ∀ (ww69 : World), Ext (fun b => b = p3 ∨ b = p8) ww40 ww69 →
        R (.tuple #[.agg #[.int .i64 0, .int .i64 0, .int .u64 0, .int .i64 0, .int .i64 0, .int .i64 0, .slice none 0 0, .int .u64 0], .int .i64 4]) ww69) ∧
      ((entry_Right.F count9 count13 num17 T21 W22 int27 bytes30a bytes30n bytes30c num34) = true →
        ∀ (ww77 : World), Ext (fun b => b = p3 ∨ b = p8) ww40 ww77 →
        R (.tuple #[.agg #[.int .i64 count9, .int .i64 count13, .int .u64 num17, .int .i64 T21, .int .i64 W22, .int .i64 int27, .slice bytes30a bytes30n bytes30c, .int .u64 num34], .int .i64 0]) ww77)))

theorem entry_Read.up (b1a : Option Addr) (b1n : Nat) (b1c : Nat) {R : Value → World → Prop} {w : World} (h : entry_Read.N b1a b1n b1c R w) : entry_Read.M b1a b1n b1c R w := by
  unfold entry_Read.M
  unfold entry_Read.N at h
  refine thenW_in fun ww2 e2 => ?_
  have hb1 := Blk.of_new e2
  have hg1 := ((Ext.refl no w)).size
  have hx2 := (Ext.refl no w).x_alloc e2
  have h := h ww2 (w.heap.size) hx2 (Priv.cons hg1 hb1.lt Priv.nil)
  refine h.mono fun ee5 ww6 h => ?_
  obtain ⟨read4, he, hk, h⟩ := h
  refine ⟨read4, he, ?_⟩
  have hb1 := hk.blk hb1 (by simp)
  refine thenW_in fun ww7 e7 => ?_
  have hb2 := Blk.of_new e7
  have hg2 := ((Ext.refl no ww6)).size
  have hb1_2 := Nat.ne_of_lt hb1.lt
  have hb1 := hb1.x_alloc e7
  have hx7 := (Ext.refl no ww6).x_alloc e7
  have h := h ww7 (ww6.heap.size) hx7 (Priv.cons hg2 hb2.lt Priv.nil)
  refine h.mono fun ee10 ww11 h => ?_
  obtain ⟨count9, he, hk, h⟩ := h
  refine ⟨count9, he, ?_⟩
  have hb1 := hk.blk hb1 (by simp)
  have hb2 := hk.blk hb2 (by simp)
  have hm12 : Ext (fun b => b = ww6.heap.size) ww11 ww11 := ((Ext.refl no ww11)).none
  refine ⟨hb2.cani 0 rfl rfl, thenW_in fun ww12 e12 => ?_⟩
  have hx12 := hm12.x_set (q := ww6.heap.size) (i := 0) rfl (.inl rfl) e12
  have hb1 := hb1.oth (q := ww6.heap.size) (i := 0) rfl hb1_2 e12
  have hb2 := hb2.seti 0 rfl e12
  have h := h ww12 hx12
  refine h.mono fun ee14 ww15 h => ?_
  obtain ⟨count13, he, hk, h⟩ := h
  refine ⟨count13, he, ?_⟩
  have hb1 := hk.blk hb1 (by simp)
  have hb2 := hk.blk hb2 (by simp)
  have hm16 : Ext (fun b => b = ww6.heap.size) ww15 ww15 := ((Ext.refl no ww15)).none
  refine ⟨hb2.cani 1 rfl rfl, thenW_in fun ww16 e16 => ?_⟩
  have hx16 := hm16.x_set (q := ww6.heap.size) (i := 1) rfl (.inl rfl) e16
  have hb1 := hb1.oth (q := ww6.heap.size) (i := 1) rfl hb1_2 e16
  have hb2 := hb2.seti 1 rfl e16
  have h := h ww16 hx16
  refine h.mono fun ee18 ww19 h => ?_
  obtain ⟨num17, he, hk, h⟩ := h
  refine ⟨num17, he, ?_⟩
  have hb1 := hk.blk hb1 (by simp)
  have hb2 := hk.blk hb2 (by simp)
  have hm20 : Ext (fun b => b = ww6.heap.size) ww19 ww19 := ((Ext.refl no ww19)).none
  refine ⟨hb2.cani 2 rfl rfl, thenW_in fun ww20 e20 => ?_⟩
  have hx20 := hm20.x_set (q := ww6.heap.size) (i := 2) rfl (.inl rfl) e20
  have hb1 := hb1.oth (q := ww6.heap.size) (i := 2) rfl hb1_2 e20
  have hb2 := hb2.seti 2 rfl e20
  have h := h ww20 hx20
  refine h.mono fun ee23 ww24 h => ?_
  obtain ⟨T21, W22, he, hk, h⟩ := h
  refine ⟨T21, W22, he, ?_⟩
  have hb1 := hk.blk hb1 (by simp)
  have hb2 := hk.blk hb2 (by simp)
  have hm26 : Ext (fun b => b = ww6.heap.size) ww24 ww24 := ((Ext.refl no ww24)).none
  refine ⟨hb2.cani 3 rfl rfl, thenW_in fun ww25 e25 => ?_⟩
  have hx25 := hm26.x_set (q := ww6.heap.size) (i := 3) rfl (.inl rfl) e25
  have hb1 := hb1.oth (q := ww6.heap.size) (i := 3) rfl hb1_2 e25
  have hb2 := hb2.seti 3 rfl e25
  refine ⟨hb2.cani 4 rfl rfl, thenW_in fun ww26 e26 => ?_⟩
  have hx26 := hx25.x_set (q := ww6.heap.size) (i := 4) rfl (.inl rfl) e26
  have hb1 := hb1.oth (q := ww6.heap.size) (i := 4) rfl hb1_2 e26
  have hb2 := hb2.seti 4 rfl e26
  have h := h ww26 hx26
  refine h.mono fun ee28 ww29 h => ?_
  obtain ⟨int27, he, hk, h⟩ := h
  refine ⟨int27, he, ?_⟩
  have hb1 := hk.blk hb1 (by simp)
  have hb2 := hk.blk hb2 (by simp)
  refine h.mono fun ee31 ww32 h => ?_
  obtain ⟨bytes30a, bytes30n, bytes30c, he, hk, h⟩ := h
  refine ⟨bytes30a, bytes30n, bytes30c, he, ?_⟩
  have hb1 := hk.blk hb1 (by simp)
  have hb2 := hk.blk hb2 (by simp)
  have hm33 : Ext (fun b => b = ww6.heap.size) ww32 ww32 := ((Ext.refl no ww32)).none
  refine ⟨hb2.cani 6 rfl rfl, thenW_in fun ww33 e33 => ?_⟩
  have hx33 := hm33.x_set (q := ww6.heap.size) (i := 6) rfl (.inl rfl) e33
  have hb1 := hb1.oth (q := ww6.heap.size) (i := 6) rfl hb1_2 e33
  have hb2 := hb2.seti 6 rfl e33
  have h := h ww33 hx33
  refine h.mono fun ee35 ww36 h => ?_
  obtain ⟨num34, he, hk, h⟩ := h
  refine ⟨num34, he, ?_⟩
  have hb1 := hk.blk hb1 (by simp)
  have hb2 := hk.blk hb2 (by simp)
  have hm37 : Ext (fun b => b = ww6.heap.size) ww36 ww36 := ((Ext.refl no ww36)).none
  refine ⟨hb2.cani 7 rfl rfl, thenW_in fun ww37 e37 => ?_⟩
  have hx37 := hm37.x_set (q := ww6.heap.size) (i := 7) rfl (.inl rfl) e37
  have hb1 := hb1.oth (q := ww6.heap.size) (i := 7) rfl hb1_2 e37
  have hb2 := hb2.seti 7 rfl e37
  have h := h ww37 hx37
  refine h.mono fun ee39 ww40 h => ?_
  obtain ⟨done38, he, hk, h⟩ := h
  refine ⟨done38, he, ?_⟩
  have hb1 := hk.blk hb1 (by simp)
  have hb2 := hk.blk hb2 (by simp)
  refine bif_of (fun c41 => ?_) (fun c41 => ?_)
  · have h := h.1 (bne_t c41)
    have hm49 : Ext (fun b => b = w.heap.size) ww40 ww40 := ((Ext.refl no ww40)).none
    refine ⟨hb1.cani 0 rfl rfl, thenW_in fun ww42 e42 => ?_⟩
    have hx42 := hm49.x_set (q := w.heap.size) (i := 0) rfl (.inl rfl) e42
    have hb1 := hb1.seti 0 rfl e42
    refine ⟨hb1.cani 1 rfl rfl, thenW_in fun ww43 e43 => ?_⟩
    have hx43 := hx42.x_set (q := w.heap.size) (i := 1) rfl (.inl rfl) e43
    have hb1 := hb1.seti 1 rfl e43
    refine ⟨hb1.cani 2 rfl rfl, thenW_in fun ww44 e44 => ?_⟩
    have hx44 := hx43.x_set (q := w.heap.size) (i := 2) rfl (.inl rfl) e44
    have hb1 := hb1.seti 2 rfl e44
    refine ⟨hb1.cani 3 rfl rfl, thenW_in fun ww45 e45 => ?_⟩
    have hx45 := hx44.x_set (q := w.heap.size) (i := 3) rfl (.inl rfl) e45
    have hb1 := hb1.seti 3 rfl e45
    refine ⟨hb1.cani 4 rfl rfl, thenW_in fun ww46 e46 => ?_⟩
    have hx46 := hx45.x_set (q := w.heap.size) (i := 4) rfl (.inl rfl) e46
    have hb1 := hb1.seti 4 rfl e46
    refine ⟨hb1.cani 5 rfl rfl, thenW_in fun ww47 e47 => ?_⟩
    have hx47 := hx46.x_set (q := w.heap.size) (i := 5) rfl (.inl rfl) e47
    have hb1 := hb1.seti 5 rfl e47
    refine ⟨hb1.cani 6 rfl rfl, thenW_in fun ww48 e48 => ?_⟩
    have hx48 := hx47.x_set (q := w.heap.size) (i := 6) rfl (.inl rfl) e48
    have hb1 := hb1.seti 6 rfl e48
    refine ⟨hb1.cani 7 rfl rfl, thenW_in fun ww49 e49 => ?_⟩
    have hx49 := hx48.x_set (q := w.heap.size) (i := 7) rfl (.inl rfl) e49
    have hb1 := hb1.seti 7 rfl e49
    refine ⟨0, 0, 0, 0, 0, 0, none, 0, 0, 0, ⟨hb1.celli 0 rfl rfl, hb1.celli 1 rfl rfl, hb1.celli 2 rfl rfl, hb1.celli 3 rfl rfl, hb1.celli 4 rfl rfl, hb1.celli 5 rfl rfl, hb1.celli 6 rfl rfl, hb1.celli 7 rfl rfl, trivial⟩, ?_⟩
    have h := h ww49 hx49
    exact h
  · have h := h.2 (bne_f c41)
    have hm50 : Ext (fun b => b = ww6.heap.size) ww40 ww40 := ((Ext.refl no ww40)).none
    refine ⟨hb2.cani 5 rfl rfl, thenW_in fun ww50 e50 => ?_⟩
    have hx50 := hm50.x_set (q := ww6.heap.size) (i := 5) rfl (.inl rfl) e50
    have hb1 := hb1.oth (q := ww6.heap.size) (i := 5) rfl hb1_2 e50
    have hb2 := hb2.seti 5 rfl e50
    refine ⟨int27, hb2.celli 5 rfl rfl, ?_⟩
    refine bif_of (fun c51 => ?_) (fun c51 => ?_)
    · have h := h.1 (bne_t c51)
      have hm59 : Ext (fun b => b = w.heap.size ∨ b = ww6.heap.size) ww40 ww50 := (hx50).mono fun _ h _ => .inr h
      refine ⟨hb1.cani 0 rfl rfl, thenW_in fun ww52 e52 => ?_⟩
      have hx52 := hm59.x_set (q := w.heap.size) (i := 0) rfl (.inl (.inl rfl)) e52
      have hb1 := hb1.seti 0 rfl e52
      refine ⟨hb1.cani 1 rfl rfl, thenW_in fun ww53 e53 => ?_⟩
      have hx53 := hx52.x_set (q := w.heap.size) (i := 1) rfl (.inl (.inl rfl)) e53
      have hb1 := hb1.seti 1 rfl e53
      refine ⟨hb1.cani 2 rfl rfl, thenW_in fun ww54 e54 => ?_⟩
      have hx54 := hx53.x_set (q := w.heap.size) (i := 2) rfl (.inl (.inl rfl)) e54
      have hb1 := hb1.seti 2 rfl e54
      refine ⟨hb1.cani 3 rfl rfl, thenW_in fun ww55 e55 => ?_⟩
      have hx55 := hx54.x_set (q := w.heap.size) (i := 3) rfl (.inl (.inl rfl)) e55
      have hb1 := hb1.seti 3 rfl e55
      refine ⟨hb1.cani 4 rfl rfl, thenW_in fun ww56 e56 => ?_⟩
      have hx56 := hx55.x_set (q := w.heap.size) (i := 4) rfl (.inl (.inl rfl)) e56
      have hb1 := hb1.seti 4 rfl e56
      refine ⟨hb1.cani 5 rfl rfl, thenW_in fun ww57 e57 => ?_⟩
      have hx57 := hx56.x_set (q := w.heap.size) (i := 5) rfl (.inl (.inl rfl)) e57
      have hb1 := hb1.seti 5 rfl e57
      refine ⟨hb1.cani 6 rfl rfl, thenW_in fun ww58 e58 => ?_⟩
      have hx58 := hx57.x_set (q := w.heap.size) (i := 6) rfl (.inl (.inl rfl)) e58
      have hb1 := hb1.seti 6 rfl e58
      refine ⟨hb1.cani 7 rfl rfl, thenW_in fun ww59 e59 => ?_⟩
      have hx59 := hx58.x_set (q := w.heap.size) (i := 7) rfl (.inl (.inl rfl)) e59
      have hb1 := hb1.seti 7 rfl e59
      refine ⟨0, 0, 0, 0, 0, 0, none, 0, 0, 0, ⟨hb1.celli 0 rfl rfl, hb1.celli 1 rfl rfl, hb1.celli 2 rfl rfl, hb1.celli 3 rfl rfl, hb1.celli 4 rfl rfl, hb1.celli 5 rfl rfl, hb1.celli 6 rfl rfl, hb1.celli 7 rfl rfl, trivial⟩, ?_⟩
      have h := h ww59 hx59
      exact h
    · have h := h.2 (bne_f c51)
      refine ⟨count9, count13, num17, T21, W22, int27, bytes30a, bytes30n, bytes30c, num34, ⟨hb2.celli 0 rfl rfl, hb2.celli 1 rfl rfl, hb2.celli 2 rfl rfl, hb2.celli 3 rfl rfl, hb2.celli 4 rfl rfl, hb2.celli 5 rfl rfl, hb2.celli 6 rfl rfl, hb2.celli 7 rfl rfl, trivial⟩, ?_⟩
      refine (entry_Right.pure count9 count13 num17 T21 W22 int27 bytes30a bytes30n bytes30c num34).mono fun ee ww60 ⟨he, hxx⟩ => ⟨(entry_Right.F count9 count13 num17 T21 W22 int27 bytes30a bytes30n bytes30c num34), he, ?_⟩
      have hx60 := hx50.trans hxx.none
      have hb1 := hb1.ext hxx id
      have hb2 := hb2.ext hxx id
      refine bif_of (fun c61 => ?_) (fun c61 => ?_)
      · have h := h.1 (not_t c61)
        have hm69 : Ext (fun b => b = w.heap.size ∨ b = ww6.heap.size) ww40 ww60 := (hx60).mono fun _ h _ => .inr h
        refine ⟨hb1.cani 0 rfl rfl, thenW_in fun ww62 e62 => ?_⟩
        have hx62 := hm69.x_set (q := w.heap.size) (i := 0) rfl (.inl (.inl rfl)) e62
        have hb1 := hb1.seti 0 rfl e62
        refine ⟨hb1.cani 1 rfl rfl, thenW_in fun ww63 e63 => ?_⟩
        have hx63 := hx62.x_set (q := w.heap.size) (i := 1) rfl (.inl (.inl rfl)) e63
        have hb1 := hb1.seti 1 rfl e63
        refine ⟨hb1.cani 2 rfl rfl, thenW_in fun ww64 e64 => ?_⟩
        have hx64 := hx63.x_set (q := w.heap.size) (i := 2) rfl (.inl (.inl rfl)) e64
        have hb1 := hb1.seti 2 rfl e64
        refine ⟨hb1.cani 3 rfl rfl, thenW_in fun ww65 e65 => ?_⟩
        have hx65 := hx64.x_set (q := w.heap.size) (i := 3) rfl (.inl (.inl rfl)) e65
        have hb1 := hb1.seti 3 rfl e65
        refine ⟨hb1.cani 4 rfl rfl, thenW_in fun ww66 e66 => ?_⟩
        have hx66 := hx65.x_set (q := w.heap.size) (i := 4) rfl (.inl (.inl rfl)) e66
        have hb1 := hb1.seti 4 rfl e66
        refine ⟨hb1.cani 5 rfl rfl, thenW_in fun ww67 e67 => ?_⟩
        have hx67 := hx66.x_set (q := w.heap.size) (i := 5) rfl (.inl (.inl rfl)) e67
        have hb1 := hb1.seti 5 rfl e67
        refine ⟨hb1.cani 6 rfl rfl, thenW_in fun ww68 e68 => ?_⟩
        have hx68 := hx67.x_set (q := w.heap.size) (i := 6) rfl (.inl (.inl rfl)) e68
        have hb1 := hb1.seti 6 rfl e68
        refine ⟨hb1.cani 7 rfl rfl, thenW_in fun ww69 e69 => ?_⟩
        have hx69 := hx68.x_set (q := w.heap.size) (i := 7) rfl (.inl (.inl rfl)) e69
        have hb1 := hb1.seti 7 rfl e69
        refine ⟨0, 0, 0, 0, 0, 0, none, 0, 0, 0, ⟨hb1.celli 0 rfl rfl, hb1.celli 1 rfl rfl, hb1.celli 2 rfl rfl, hb1.celli 3 rfl rfl, hb1.celli 4 rfl rfl, hb1.celli 5 rfl rfl, hb1.celli 6 rfl rfl, hb1.celli 7 rfl rfl, trivial⟩, ?_⟩
        have h := h ww69 hx69
        exact h
      · have h := h.2 (not_f c61)
        refine ⟨count9, count13, num17, T21, W22, int27, bytes30a, bytes30n, bytes30c, num34, ⟨hb2.celli 0 rfl rfl, hb2.celli 1 rfl rfl, hb2.celli 2 rfl rfl, hb2.celli 3 rfl rfl, hb2.celli 4 rfl rfl, hb2.celli 5 rfl rfl, hb2.celli 6 rfl rfl, hb2.celli 7 rfl rfl, trivial⟩, ?_⟩
        have hm77 : Ext (fun b => b = w.heap.size ∨ b = ww6.heap.size) ww40 ww60 := (hx60).mono fun _ h _ => .inr h
        refine ⟨hb1.cani 0 rfl rfl, thenW_in fun ww70 e70 => ?_⟩
        have hx70 := hm77.x_set (q := w.heap.size) (i := 0) rfl (.inl (.inl rfl)) e70
        have hb1 := hb1.seti 0 rfl e70
        refine ⟨hb1.cani 1 rfl rfl, thenW_in fun ww71 e71 => ?_⟩
        have hx71 := hx70.x_set (q := w.heap.size) (i := 1) rfl (.inl (.inl rfl)) e71
        have hb1 := hb1.seti 1 rfl e71
        refine ⟨hb1.cani 2 rfl rfl, thenW_in fun ww72 e72 => ?_⟩
        have hx72 := hx71.x_set (q := w.heap.size) (i := 2) rfl (.inl (.inl rfl)) e72
        have hb1 := hb1.seti 2 rfl e72
        refine ⟨hb1.cani 3 rfl rfl, thenW_in fun ww73 e73 => ?_⟩
        have hx73 := hx72.x_set (q := w.heap.size) (i := 3) rfl (.inl (.inl rfl)) e73
        have hb1 := hb1.seti 3 rfl e73
        refine ⟨hb1.cani 4 rfl rfl, thenW_in fun ww74 e74 => ?_⟩
        have hx74 := hx73.x_set (q := w.heap.size) (i := 4) rfl (.inl (.inl rfl)) e74
        have hb1 := hb1.seti 4 rfl e74
        refine ⟨hb1.cani 5 rfl rfl, thenW_in fun ww75 e75 => ?_⟩
        have hx75 := hx74.x_set (q := w.heap.size) (i := 5) rfl (.inl (.inl rfl)) e75
        have hb1 := hb1.seti 5 rfl e75
        refine ⟨hb1.cani 6 rfl rfl, thenW_in fun ww76 e76 => ?_⟩
        have hx76 := hx75.x_set (q := w.heap.size) (i := 6) rfl (.inl (.inl rfl)) e76
        have hb1 := hb1.seti 6 rfl e76
        refine ⟨hb1.cani 7 rfl rfl, thenW_in fun ww77 e77 => ?_⟩
        have hx77 := hx76.x_set (q := w.heap.size) (i := 7) rfl (.inl (.inl rfl)) e77
        have hb1 := hb1.seti 7 rfl e77
        refine ⟨count9, count13, num17, T21, W22, int27, bytes30a, bytes30n, bytes30c, num34, ⟨hb1.celli 0 rfl rfl, hb1.celli 1 rfl rfl, hb1.celli 2 rfl rfl, hb1.celli 3 rfl rfl, hb1.celli 4 rfl rfl, hb1.celli 5 rfl rfl, hb1.celli 6 rfl rfl, hb1.celli 7 rfl rfl, trivial⟩, ?_⟩
        have h := h ww77 hx77
        exact h

theorem entry_Read.go (b1a : Option Addr) (b1n : Nat) (b1c : Nat) {R : Value → World → Prop} {w : World} (h : entry_Read.N b1a b1n b1c R w) : Calls Try.prog 12 #[.slice b1a b1n b1c] w fun e w' => ∃ v, e = .returned v ∧ R v w' := entry_Read.ok b1a b1n b1c (entry_Read.up b1a b1n b1c h)
theorem entry_Read.run (b1a : Option Addr) (b1n : Nat) (b1c : Nat) {V : Value} {Q : World → Prop} {w : World} (h : entry_Read.N b1a b1n b1c (fun v w' => v = V ∧ Q w') w) : Calls Try.prog 12 #[.slice b1a b1n b1c] w (Ret V Q) := (entry_Read.go b1a b1n b1c h).mono fun e w' ⟨v, he, hv, hq⟩ => ⟨by rw [he, hv], hq⟩

/-- entry.Bound -/
def entry_Bound.M (writer1 : Int) (indexv2 : Int) (epoch3 : Int) (R : Value → World → Prop) (w : World) : Prop :=
  Calls Try.prog 32 #[.slice none 0 0, .int .u64 (IntKind.u64.wrap (if (0 : Int) > writer1 then 0 else writer1))] w fun ee5 ww6 => ∃ (num4a : Option Addr) (num4n : Nat) (num4c : Nat), ee5 = .returned (.slice num4a num4n num4c) ∧
  Calls Try.prog 32 #[.slice num4a num4n num4c, .int .u64 (IntKind.u64.wrap (if (0 : Int) > indexv2 then 0 else indexv2))] ww6 fun ee8 ww9 => ∃ (num7a : Option Addr) (num7n : Nat) (num7c : Nat), ee8 = .returned (.slice num7a num7n num7c) ∧
  Calls Try.prog 51 #[.slice num7a num7n num7c, .int .i64 epoch3] ww9 fun ee11 ww12 => ∃ (int10a : Option Addr) (int10n : Nat) (int10c : Nat), ee11 = .returned (.slice int10a int10n int10c) ∧
  R (.slice int10a int10n int10c) ww12

theorem entry_Bound.eq (writer1 : Int) (indexv2 : Int) (epoch3 : Int) (R : Value → World → Prop) (w : World) : mfunc Try.prog [] 21 [.int .i64 writer1, .int .i64 indexv2, .int .i64 epoch3] R w = entry_Bound.M writer1 indexv2 epoch3 R w := by kernel_rfl
theorem entry_Bound.ok (writer1 : Int) (indexv2 : Int) (epoch3 : Int) {R : Value → World → Prop} {w : World} (h : entry_Bound.M writer1 indexv2 epoch3 R w) : Calls Try.prog 21 #[.int .i64 writer1, .int .i64 indexv2, .int .i64 epoch3] w fun e w' => ∃ v, e = .returned v ∧ R v w' :=
  mfunc_ok follows (H := []) (args := [.int .i64 writer1, .int .i64 indexv2, .int .i64 epoch3]) (by rw [entry_Bound.eq]; exact h)

def entry_Bound.N (writer1 : Int) (indexv2 : Int) (epoch3 : Int) (R : Value → World → Prop) (w : World) : Prop :=
  Calls Try.prog 32 #[.slice none 0 0, .int .u64 (IntKind.u64.wrap (if (0 : Int) > writer1 then 0 else writer1))] w fun ee5 ww6 => ∃ (num4a : Option Addr) (num4n : Nat) (num4c : Nat), ee5 = .returned (.slice num4a num4n num4c) ∧
  Calls Try.prog 32 #[.slice num4a num4n num4c, .int .u64 (IntKind.u64.wrap (if (0 : Int) > indexv2 then 0 else indexv2))] ww6 fun ee8 ww9 => ∃ (num7a : Option Addr) (num7n : Nat) (num7c : Nat), ee8 = .returned (.slice num7a num7n num7c) ∧
  Calls Try.prog 51 #[.slice num7a num7n num7c, .int .i64 epoch3] ww9 fun ee11 ww12 => ∃ (int10a : Option Addr) (int10n : Nat) (int10c : Nat), ee11 = .returned (.slice int10a int10n int10c) ∧
  R (.slice int10a int10n int10c) ww12

theorem entry_Bound.up (writer1 : Int) (indexv2 : Int) (epoch3 : Int) {R : Value → World → Prop} {w : World} (h : entry_Bound.N writer1 indexv2 epoch3 R w) : entry_Bound.M writer1 indexv2 epoch3 R w := by
  unfold entry_Bound.M
  unfold entry_Bound.N at h
  refine h.mono fun ee5 ww6 h => ?_
  obtain ⟨num4a, num4n, num4c, he, h⟩ := h
  refine ⟨num4a, num4n, num4c, he, ?_⟩
  refine h.mono fun ee8 ww9 h => ?_
  obtain ⟨num7a, num7n, num7c, he, h⟩ := h
  refine ⟨num7a, num7n, num7c, he, ?_⟩
  refine h.mono fun ee11 ww12 h => ?_
  obtain ⟨int10a, int10n, int10c, he, h⟩ := h
  refine ⟨int10a, int10n, int10c, he, ?_⟩
  exact h

theorem entry_Bound.go (writer1 : Int) (indexv2 : Int) (epoch3 : Int) {R : Value → World → Prop} {w : World} (h : entry_Bound.N writer1 indexv2 epoch3 R w) : Calls Try.prog 21 #[.int .i64 writer1, .int .i64 indexv2, .int .i64 epoch3] w fun e w' => ∃ v, e = .returned v ∧ R v w' := entry_Bound.ok writer1 indexv2 epoch3 (entry_Bound.up writer1 indexv2 epoch3 h)
theorem entry_Bound.run (writer1 : Int) (indexv2 : Int) (epoch3 : Int) {V : Value} {Q : World → Prop} {w : World} (h : entry_Bound.N writer1 indexv2 epoch3 (fun v w' => v = V ∧ Q w') w) : Calls Try.prog 21 #[.int .i64 writer1, .int .i64 indexv2, .int .i64 epoch3] w (Ret V Q) := (entry_Bound.go writer1 indexv2 epoch3 h).mono fun e w' ⟨v, he, hv, hq⟩ => ⟨by rw [he, hv], hq⟩

/-- entry.Same -/
def entry_Same.M (aWriter1 : Int) (aIndex2 : Int) (aPrev3 : Int) (aAtT4 : Int) (aAtW5 : Int) (aEpoch6 : Int) (aBody7a : Option Addr) (aBody7n : Nat) (aBody7c : Nat) (aSig8 : Int) (bWriter9 : Int) (bIndex10 : Int) (bPrev11 : Int) (bAtT12 : Int) (bAtW13 : Int) (bEpoch14 : Int) (bBody15a : Option Addr) (bBody15n : Nat) (bBody15c : Nat) (bSig16 : Int) (R : Value → World → Prop) (w : World) : Prop :=
  thenW (w.alloc (.cells #[.int .i64 aWriter1, .int .i64 aIndex2, .int .u64 aPrev3, .int .i64 aAtT4, .int .i64 aAtW5, .int .i64 aEpoch6, .slice aBody7a aBody7n aBody7c, .int .u64 aSig8] 27)) fun ww17 =>
  thenW (ww17.alloc (.cells #[.int .i64 bWriter9, .int .i64 bIndex10, .int .u64 bPrev11, .int .i64 bAtT12, .int .i64 bAtW13, .int .i64 bEpoch14, .slice bBody15a bBody15n bBody15c, .int .u64 bSig16] 27)) fun ww18 =>
  thenW (ww18.drew) fun ww19 =>
  ∃ (Body20a : Option Addr) (Body20n : Nat) (Body20c : Nat), ww19.cell? ((blk w.heap.size).add 6) = some (.slice Body20a Body20n Body20c) ∧
  ∃ (Body21a : Option Addr) (Body21n : Nat) (Body21c : Nat), ww19.cell? ((blk ww17.heap.size).add 6) = some (.slice Body21a Body21n Body21c) ∧
  Calls Try.prog 43 #[.slice Body20a Body20n Body20c, .slice Body21a Body21n Body21c] ww19 fun ee23 ww24 => ∃ (equal22 : Bool), ee23 = .returned (.bool equal22) ∧
  bif equal22 then (
  ∃ (Writer25 : Int), ww24.cell? ((blk w.heap.size).add 0) = some (.int .i64 Writer25) ∧
  ∃ (Writer26 : Int), ww24.cell? ((blk ww17.heap.size).add 0) = some (.int .i64 Writer26) ∧
  bif Writer25 == Writer26 then (
  ∃ (Index27 : Int), ww24.cell? ((blk w.heap.size).add 1) = some (.int .i64 Index27) ∧
  ∃ (Index28 : Int), ww24.cell? ((blk ww17.heap.size).add 1) = some (.int .i64 Index28) ∧
  bif Index27 == Index28 then (
  ∃ (Prev29 : Int), ww24.cell? ((blk w.heap.size).add 2) = some (.int .u64 Prev29) ∧
  ∃ (Prev30 : Int), ww24.cell? ((blk ww17.heap.size).add 2) = some (.int .u64 Prev30) ∧
  bif Prev29 == Prev30 then (
  ∃ (AtT31 : Int) (AtW32 : Int), cellsAt ww24 ((blk w.heap.size).add 3) [.int .i64 AtT31, .int .i64 AtW32] 0 ∧
  ∃ (AtT33 : Int) (AtW34 : Int), cellsAt ww24 ((blk ww17.heap.size).add 3) [.int .i64 AtT33, .int .i64 AtW34] 0 ∧
  ∃ (b35 : Bool), (binOp .eql 24 (.agg #[.int .i64 AtT31, .int .i64 AtW32]) (.agg #[.int .i64 AtT33, .int .i64 AtW34])).run Try.prog ww24 = .ok (.bool b35) ww24 ∧
  bif b35 then (
  ∃ (Epoch36 : Int), ww24.cell? ((blk w.heap.size).add 5) = some (.int .i64 Epoch36) ∧
  ∃ (Epoch37 : Int), ww24.cell? ((blk ww17.heap.size).add 5) = some (.int .i64 Epoch37) ∧
  bif Epoch36 == Epoch37 then (
  ∃ (Sig38 : Int), ww24.cell? ((blk w.heap.size).add 7) = some (.int .u64 Sig38) ∧
  ∃ (Sig39 : Int), ww24.cell? ((blk ww17.heap.size).add 7) = some (.int .u64 Sig39) ∧
  R (.bool (Sig38 == Sig39)) ww24) else (
  R (.bool false) ww24)) else (
  R (.bool false) ww24)) else (
  R (.bool false) ww24)) else (
  R (.bool false) ww24)) else (
  R (.bool false) ww24)) else (
  R (.bool false) ww24)

theorem entry_Same.eq (aWriter1 : Int) (aIndex2 : Int) (aPrev3 : Int) (aAtT4 : Int) (aAtW5 : Int) (aEpoch6 : Int) (aBody7a : Option Addr) (aBody7n : Nat) (aBody7c : Nat) (aSig8 : Int) (bWriter9 : Int) (bIndex10 : Int) (bPrev11 : Int) (bAtT12 : Int) (bAtW13 : Int) (bEpoch14 : Int) (bBody15a : Option Addr) (bBody15n : Nat) (bBody15c : Nat) (bSig16 : Int) (R : Value → World → Prop) (w : World) : mfunc Try.prog [] 13 [.agg #[.int .i64 aWriter1, .int .i64 aIndex2, .int .u64 aPrev3, .int .i64 aAtT4, .int .i64 aAtW5, .int .i64 aEpoch6, .slice aBody7a aBody7n aBody7c, .int .u64 aSig8], .agg #[.int .i64 bWriter9, .int .i64 bIndex10, .int .u64 bPrev11, .int .i64 bAtT12, .int .i64 bAtW13, .int .i64 bEpoch14, .slice bBody15a bBody15n bBody15c, .int .u64 bSig16]] R w = entry_Same.M aWriter1 aIndex2 aPrev3 aAtT4 aAtW5 aEpoch6 aBody7a aBody7n aBody7c aSig8 bWriter9 bIndex10 bPrev11 bAtT12 bAtW13 bEpoch14 bBody15a bBody15n bBody15c bSig16 R w := by kernel_rfl
theorem entry_Same.ok (aWriter1 : Int) (aIndex2 : Int) (aPrev3 : Int) (aAtT4 : Int) (aAtW5 : Int) (aEpoch6 : Int) (aBody7a : Option Addr) (aBody7n : Nat) (aBody7c : Nat) (aSig8 : Int) (bWriter9 : Int) (bIndex10 : Int) (bPrev11 : Int) (bAtT12 : Int) (bAtW13 : Int) (bEpoch14 : Int) (bBody15a : Option Addr) (bBody15n : Nat) (bBody15c : Nat) (bSig16 : Int) {R : Value → World → Prop} {w : World} (h : entry_Same.M aWriter1 aIndex2 aPrev3 aAtT4 aAtW5 aEpoch6 aBody7a aBody7n aBody7c aSig8 bWriter9 bIndex10 bPrev11 bAtT12 bAtW13 bEpoch14 bBody15a bBody15n bBody15c bSig16 R w) : Calls Try.prog 13 #[.agg #[.int .i64 aWriter1, .int .i64 aIndex2, .int .u64 aPrev3, .int .i64 aAtT4, .int .i64 aAtW5, .int .i64 aEpoch6, .slice aBody7a aBody7n aBody7c, .int .u64 aSig8], .agg #[.int .i64 bWriter9, .int .i64 bIndex10, .int .u64 bPrev11, .int .i64 bAtT12, .int .i64 bAtW13, .int .i64 bEpoch14, .slice bBody15a bBody15n bBody15c, .int .u64 bSig16]] w fun e w' => ∃ v, e = .returned v ∧ R v w' :=
  mfunc_ok follows (H := []) (args := [.agg #[.int .i64 aWriter1, .int .i64 aIndex2, .int .u64 aPrev3, .int .i64 aAtT4, .int .i64 aAtW5, .int .i64 aEpoch6, .slice aBody7a aBody7n aBody7c, .int .u64 aSig8], .agg #[.int .i64 bWriter9, .int .i64 bIndex10, .int .u64 bPrev11, .int .i64 bAtT12, .int .i64 bAtW13, .int .i64 bEpoch14, .slice bBody15a bBody15n bBody15c, .int .u64 bSig16]]) (by rw [entry_Same.eq]; exact h)

def entry_Same.N (aWriter1 : Int) (aIndex2 : Int) (aPrev3 : Int) (aAtT4 : Int) (aAtW5 : Int) (aEpoch6 : Int) (aBody7a : Option Addr) (aBody7n : Nat) (aBody7c : Nat) (aSig8 : Int) (bWriter9 : Int) (bIndex10 : Int) (bPrev11 : Int) (bAtT12 : Int) (bAtW13 : Int) (bEpoch14 : Int) (bBody15a : Option Addr) (bBody15n : Nat) (bBody15c : Nat) (bSig16 : Int) (R : Value → World → Prop) (w : World) : Prop :=
  ∀ (ww19 : World) (p20 : Nat) (p21 : Nat), Ext no w ww19 → Priv w ww19 [p20, p21] →
  Calls Try.prog 43 #[.slice aBody7a aBody7n aBody7c, .slice bBody15a bBody15n bBody15c] ww19 fun ee23 ww24 => ∃ (equal22 : Bool), ee23 = .returned (.bool equal22) ∧
  Keep [p20, p21] ww19 ww24 ∧
  (equal22 = true →
    (aWriter1 = bWriter9 →
      (aIndex2 = bIndex10 →
        (aPrev3 = bPrev11 →
          (aAtT4 = bAtT12 ∧ aAtW5 = bAtW13 →
            (aEpoch6 = bEpoch14 →
              R (.bool (aSig8 == bSig16)) ww24) ∧
            (aEpoch6 ≠ bEpoch14 →
              R (.bool false) ww24)) ∧
          (¬ (aAtT4 = bAtT12 ∧ aAtW5 = bAtW13) →
            R (.bool false) ww24)) ∧
        (aPrev3 ≠ bPrev11 →
          R (.bool false) ww24)) ∧
      (aIndex2 ≠ bIndex10 →
        R (.bool false) ww24)) ∧
    (aWriter1 ≠ bWriter9 →
      R (.bool false) ww24)) ∧
  (equal22 = false →
    R (.bool false) ww24)

theorem entry_Same.up (aWriter1 : Int) (aIndex2 : Int) (aPrev3 : Int) (aAtT4 : Int) (aAtW5 : Int) (aEpoch6 : Int) (aBody7a : Option Addr) (aBody7n : Nat) (aBody7c : Nat) (aSig8 : Int) (bWriter9 : Int) (bIndex10 : Int) (bPrev11 : Int) (bAtT12 : Int) (bAtW13 : Int) (bEpoch14 : Int) (bBody15a : Option Addr) (bBody15n : Nat) (bBody15c : Nat) (bSig16 : Int) {R : Value → World → Prop} {w : World} (h : entry_Same.N aWriter1 aIndex2 aPrev3 aAtT4 aAtW5 aEpoch6 aBody7a aBody7n aBody7c aSig8 bWriter9 bIndex10 bPrev11 bAtT12 bAtW13 bEpoch14 bBody15a bBody15n bBody15c bSig16 R w) : entry_Same.M aWriter1 aIndex2 aPrev3 aAtT4 aAtW5 aEpoch6 aBody7a aBody7n aBody7c aSig8 bWriter9 bIndex10 bPrev11 bAtT12 bAtW13 bEpoch14 bBody15a bBody15n bBody15c bSig16 R w := by
  unfold entry_Same.M
  unfold entry_Same.N at h
  refine thenW_in fun ww17 e17 => ?_
  have hb1 := Blk.of_new e17
  have hg1 := ((Ext.refl no w)).size
  have hx17 := (Ext.refl no w).x_alloc e17
  refine thenW_in fun ww18 e18 => ?_
  have hb2 := Blk.of_new e18
  have hg2 := (hx17).size
  have hb1_2 := Nat.ne_of_lt hb1.lt
  have hb1 := hb1.x_alloc e18
  have hx18 := hx17.x_alloc e18
  refine thenW_in fun ww19 e19 => ?_
  have hx19 := hx18.x_drew e19
  have hb1 := hb1.x_drew e19
  have hb2 := hb2.x_drew e19
  refine ⟨aBody7a, aBody7n, aBody7c, hb1.celli 6 rfl rfl, ?_⟩
  refine ⟨bBody15a, bBody15n, bBody15c, hb2.celli 6 rfl rfl, ?_⟩
  have h := h ww19 (w.heap.size) (ww17.heap.size) hx19 (Priv.cons hg1 hb1.lt (Priv.cons hg2 hb2.lt Priv.nil))
  refine h.mono fun ee23 ww24 h => ?_
  obtain ⟨equal22, he, hk, h⟩ := h
  refine ⟨equal22, he, ?_⟩
  have hb1 := hk.blk hb1 (by simp)
  have hb2 := hk.blk hb2 (by simp)
  refine bif_of (fun c25 => ?_) (fun c25 => ?_)
  · have h := h.1 c25
    refine ⟨aWriter1, hb1.celli 0 rfl rfl, ?_⟩
    refine ⟨bWriter9, hb2.celli 0 rfl rfl, ?_⟩
    refine bif_of (fun c26 => ?_) (fun c26 => ?_)
    · have h := h.1 (beq_t c26)
      refine ⟨aIndex2, hb1.celli 1 rfl rfl, ?_⟩
      refine ⟨bIndex10, hb2.celli 1 rfl rfl, ?_⟩
      refine bif_of (fun c27 => ?_) (fun c27 => ?_)
      · have h := h.1 (beq_t c27)
        refine ⟨aPrev3, hb1.celli 2 rfl rfl, ?_⟩
        refine ⟨bPrev11, hb2.celli 2 rfl rfl, ?_⟩
        refine bif_of (fun c28 => ?_) (fun c28 => ?_)
        · have h := h.1 (beq_t c28)
          refine ⟨aAtT4, aAtW5, ⟨hb1.celli 3 rfl rfl, hb1.celli 4 rfl rfl, trivial⟩, ?_⟩
          refine ⟨bAtT12, bAtW13, ⟨hb2.celli 3 rfl rfl, hb2.celli 4 rfl rfl, trivial⟩, ?_⟩
          refine ⟨_, eqT24_eq aAtT4 aAtW5 bAtT12 bAtW13 _, ?_⟩
          refine bif_of (fun c29 => ?_) (fun c29 => ?_)
          · have h := h.1 (of_decide_eq_true c29)
            refine ⟨aEpoch6, hb1.celli 5 rfl rfl, ?_⟩
            refine ⟨bEpoch14, hb2.celli 5 rfl rfl, ?_⟩
            refine bif_of (fun c30 => ?_) (fun c30 => ?_)
            · have h := h.1 (beq_t c30)
              refine ⟨aSig8, hb1.celli 7 rfl rfl, ?_⟩
              refine ⟨bSig16, hb2.celli 7 rfl rfl, ?_⟩
              exact h
            · have h := h.2 (beq_f c30)
              exact h
          · have h := h.2 (of_decide_eq_false c29)
            exact h
        · have h := h.2 (beq_f c28)
          exact h
      · have h := h.2 (beq_f c27)
        exact h
    · have h := h.2 (beq_f c26)
      exact h
  · have h := h.2 c25
    exact h

theorem entry_Same.go (aWriter1 : Int) (aIndex2 : Int) (aPrev3 : Int) (aAtT4 : Int) (aAtW5 : Int) (aEpoch6 : Int) (aBody7a : Option Addr) (aBody7n : Nat) (aBody7c : Nat) (aSig8 : Int) (bWriter9 : Int) (bIndex10 : Int) (bPrev11 : Int) (bAtT12 : Int) (bAtW13 : Int) (bEpoch14 : Int) (bBody15a : Option Addr) (bBody15n : Nat) (bBody15c : Nat) (bSig16 : Int) {R : Value → World → Prop} {w : World} (h : entry_Same.N aWriter1 aIndex2 aPrev3 aAtT4 aAtW5 aEpoch6 aBody7a aBody7n aBody7c aSig8 bWriter9 bIndex10 bPrev11 bAtT12 bAtW13 bEpoch14 bBody15a bBody15n bBody15c bSig16 R w) : Calls Try.prog 13 #[.agg #[.int .i64 aWriter1, .int .i64 aIndex2, .int .u64 aPrev3, .int .i64 aAtT4, .int .i64 aAtW5, .int .i64 aEpoch6, .slice aBody7a aBody7n aBody7c, .int .u64 aSig8], .agg #[.int .i64 bWriter9, .int .i64 bIndex10, .int .u64 bPrev11, .int .i64 bAtT12, .int .i64 bAtW13, .int .i64 bEpoch14, .slice bBody15a bBody15n bBody15c, .int .u64 bSig16]] w fun e w' => ∃ v, e = .returned v ∧ R v w' := entry_Same.ok aWriter1 aIndex2 aPrev3 aAtT4 aAtW5 aEpoch6 aBody7a aBody7n aBody7c aSig8 bWriter9 bIndex10 bPrev11 bAtT12 bAtW13 bEpoch14 bBody15a bBody15n bBody15c bSig16 (entry_Same.up aWriter1 aIndex2 aPrev3 aAtT4 aAtW5 aEpoch6 aBody7a aBody7n aBody7c aSig8 bWriter9 bIndex10 bPrev11 bAtT12 bAtW13 bEpoch14 bBody15a bBody15n bBody15c bSig16 h)
theorem entry_Same.run (aWriter1 : Int) (aIndex2 : Int) (aPrev3 : Int) (aAtT4 : Int) (aAtW5 : Int) (aEpoch6 : Int) (aBody7a : Option Addr) (aBody7n : Nat) (aBody7c : Nat) (aSig8 : Int) (bWriter9 : Int) (bIndex10 : Int) (bPrev11 : Int) (bAtT12 : Int) (bAtW13 : Int) (bEpoch14 : Int) (bBody15a : Option Addr) (bBody15n : Nat) (bBody15c : Nat) (bSig16 : Int) {V : Value} {Q : World → Prop} {w : World} (h : entry_Same.N aWriter1 aIndex2 aPrev3 aAtT4 aAtW5 aEpoch6 aBody7a aBody7n aBody7c aSig8 bWriter9 bIndex10 bPrev11 bAtT12 bAtW13 bEpoch14 bBody15a bBody15n bBody15c bSig16 (fun v w' => v = V ∧ Q w') w) : Calls Try.prog 13 #[.agg #[.int .i64 aWriter1, .int .i64 aIndex2, .int .u64 aPrev3, .int .i64 aAtT4, .int .i64 aAtW5, .int .i64 aEpoch6, .slice aBody7a aBody7n aBody7c, .int .u64 aSig8], .agg #[.int .i64 bWriter9, .int .i64 bIndex10, .int .u64 bPrev11, .int .i64 bAtT12, .int .i64 bAtW13, .int .i64 bEpoch14, .slice bBody15a bBody15n bBody15c, .int .u64 bSig16]] w (Ret V Q) := (entry_Same.go aWriter1 aIndex2 aPrev3 aAtT4 aAtW5 aEpoch6 aBody7a aBody7n aBody7c aSig8 bWriter9 bIndex10 bPrev11 bAtT12 bAtW13 bEpoch14 bBody15a bBody15n bBody15c bSig16 h).mono fun e w' ⟨v, he, hv, hq⟩ => ⟨by rw [he, hv], hq⟩

theorem keep1 {w w' : World} {m : Nat → Prop} {p : Nat} (h : Ext m w w') (hp : ¬ m p) : Keep [p] w w' := h.keep fun q hq _ => by simp at hq; subst hq; exact hp
theorem keep2 {w w' : World} {m : Nat → Prop} {p q : Nat} (h : Ext m w w') (hp : ¬ m p) (hq : ¬ m q) : Keep [p, q] w w' := h.keep fun r hr _ => by
  simp at hr
  rcases hr with rfl | rfl
  · exact hp
  · exact hq
theorem OwnB.up {N M : Nat} {w : World} {a : Option Addr} {c : Nat} {bs : List UInt8} (h : OwnB N w a c bs) (hM : M ≤ N) : OwnB M w a c bs := ⟨h.own, fun ad ha => ⟨Nat.le_trans hM (h.fr ad ha).1, (h.fr ad ha).2⟩⟩
/-- a row of one's own, and bytes that came behind it. -/
theorem app {w0 wi w1 : World} {N : Nat} {a xa : Option Addr} {c xc : Nat} {l x : List UInt8} (hB : OwnB N wi a c l) (X : Ext no w0 wi) (h0 : w0.heap.size ≤ N) (hN : N ≤ wi.heap.size) (hx : Ext no wi w1) (hO : RowAt w1 xa (bytesV x)) (hl : l.length + x.length ≤ 100000000) :
    ∃ a' c' w', (Builtin.append_ #[25, 25] 25 #[.slice a l.length c, .slice xa x.length xc]).run Try.prog w1 = .ok (.slice a' (l ++ x).length c') w' ∧ OwnB N w' a' c' (l ++ x) ∧ Ext no w0 w' ∧ Ext (fun b => N ≤ b) w1 w' ∧ N ≤ w'.heap.size := by
  obtain ⟨a', c', w', hr, hO2, hx2⟩ := (hB.no hx).append (t := 25) (ty := 25) Try.underlying25 (Nat.le_trans hN hx.size) (xc := xc) hO hl
  exact ⟨a', c', w', hr, hO2, (X.trans hx).then hx2 fun b hb => .inr (Nat.le_trans h0 hb), hx2, Nat.le_trans hN (Nat.le_trans hx.size hx2.size)⟩
section
variable {w w' : World} {a : Option Addr} {c N p : Nat} {bs : List UInt8} {k : Int}
theorem Put_spec (h : RowAt w a (bytesV bs)) (hl : bs.length ≤ 900000) {t s : Int} (h0 : -9223372036854775808 ≤ t) (h1 : t < 9223372036854775808) (hs : s < 9223372036854775808) :
    Calls Try.prog 64 #[.slice a bs.length c, .agg #[.int .i64 t, .int .i64 s]] w (fun e w' => ∃ a' c', e = .returned (.slice a' (bs ++ stampL t s).length c') ∧ OwnB w.heap.size w' a' c' (bs ++ stampL t s) ∧ Ext no w w') := by
  refine (stamp_Put.go _ _ _ _ _ (R := fun v w' => ∃ a' c', v = (.slice a' (bs ++ stampL t s).length c') ∧ OwnB w.heap.size w' a' c' (bs ++ stampL t s) ∧ Ext no w w') ?_).mono fun e w' ⟨v, he, a, c, hv, hw⟩ => ⟨a, c, by rw [he, hv], hw⟩
  unfold stamp_Put.N
  intro w5 p6 hx5 hp
  refine (W.Int_spec (h.no hx5) (by omega) h0 h1).mono fun e w9 ⟨a9, c9, he, hO, hx9⟩ => ⟨a9, _, c9, he, hx9.kept, ?_⟩
  have e1 : IntKind.u64.wrap (if (0 : Int) > s then 0 else s) = ((s.toNat : Nat) : Int) := by split <;> rw [wu64 (by omega) (by omega)] <;> omega
  rw [e1]
  have hz := W.numL_le (zig t)
  refine (W.Num_spec hO.row (by rw [List.length_append]; omega) (n := s.toNat) (by omega)).mono fun e w12 ⟨a12, c12, he, hO2, hx12⟩ => ⟨a12, _, c12, he, a12, c12, ?_, ?_, (hx5.trans hx9).trans hx12⟩
  · unfold stampL; rw [List.append_assoc]
  · unfold stampL; rw [← List.append_assoc]; exact OwnB.up hO2 (Nat.le_trans hx5.size hx9.size)
theorem nums_spec {q : Nat} (hq : Blk w q 97 [.slice a bs.length c]) (h : RowAt w a (bytesV bs)) (ho : ∀ ad, a = some ad → ad.block ≠ q) {la : Option Addr} {lc : Nat} {xs : List Nat} (hx : RowAt w la (xs.map fun (n : Nat) => Value.int .u64 (n : Int))) (hla : ∀ ad, la = some ad → ad.block ≠ q)
    (hxs : ∀ n ∈ xs, n < 18446744073709551616) (hl : bs.length + xs.length * 10 ≤ 900000) :
    Calls Try.prog 63 #[.pointer (some (blk q)), .slice la xs.length lc] w (fun e w' => e = .returned (.tuple #[]) ∧ ∃ a' c', Blk w' q 97 [.slice a' (bs ++ xs.flatMap numL).length c'] ∧ RowAt w' a' (bytesV (bs ++ xs.flatMap numL)) ∧ (∀ ad, a' = some ad → ad.block ≠ q ∧ (a' = a ∨ w.heap.size ≤ ad.block)) ∧ Ext (fun b => b = q) w w') := by
  refine (entry_writer_nums.go _ _ _ _ (R := fun v w' => v = .tuple #[] ∧ ∃ a' c', Blk w' q 97 [.slice a' (bs ++ xs.flatMap numL).length c'] ∧ RowAt w' a' (bytesV (bs ++ xs.flatMap numL)) ∧ (∀ ad, a' = some ad → ad.block ≠ q ∧ (a' = a ∨ w.heap.size ≤ ad.block)) ∧ Ext (fun b => b = q) w w') ?_).mono fun e w' ⟨v, he, hv, hw⟩ => ⟨by rw [he, hv], hw⟩
  unfold entry_writer_nums.N
  refine ⟨fun k vs w1 => ∃ (t : Nat) (a1 : Option Addr) (c1 : Nat) (l1 : List UInt8), vs = [.int .i64 t] ∧ k + t = xs.length ∧ l1 = bs ++ (xs.take t).flatMap numL ∧ l1.length ≤ bs.length + t * 10 ∧ Blk w1 q 97 [.slice a1 l1.length c1] ∧ RowAt w1 a1 (bytesV l1) ∧ (∀ ad, a1 = some ad → ad.block ≠ q ∧ (a1 = a ∨ w.heap.size ≤ ad.block)) ∧ Ext (fun b => b = q) w w1, xs.length,
    ⟨0, a, c, bs, rfl, rfl, by simp, by omega, hq, h, fun ad ha => ⟨ho ad ha, .inl rfl⟩, Ext.refl _ _⟩, ?_⟩
  rintro k w1 i ⟨t, a1, c1, l1, hi, hk, hl1, hlen, hb, hr, hf, X⟩
  simp only [List.cons.injEq, Value.int.injEq, true_and, and_true] at hi
  subst hi
  refine ⟨fun ht => ?_, fun ht => ?_⟩
  · have htl : t < xs.length := by omega
    have hx1 := hx.ext' X fun _ ad ha => hla ad ha
    obtain ⟨ad, rfl⟩ := hx1.addr (by intro e; rw [List.map_eq_nil_iff] at e; subst e; simp at htl)
    have hnb := hxs xs[t] (List.getElem_mem htl)
    refine ⟨ad, rfl, by omega, by omega, xs[t], by rw [Int.toNat_natCast, Nat.mul_one]; exact hx1.at_ (by simp [htl]), blk q, rfl, a1, _, c1, hb.cella (i := 0) rfl, ?_⟩
    refine (W.Num_spec hr (by omega) hnb).mono fun e w16 ⟨a2, c2, he, hO, hx16⟩ => ⟨a2, _, c2, he, (hb.ext hx16 id).cana (i := 0) rfl, thenW_in fun w18 e18 => ?_⟩
    have hb18 := (hb.ext hx16 id).seti 0 rfl e18
    have x18 : Ext (fun b => b = q) w16 w18 := (Ext.refl (fun b => b = q) w16).x_set (q := q) (i := 0) rfl (.inl rfl) e18
    have hne : ∀ ad, a2 = some ad → ad.block ≠ q := fun ad ha e => by have := (hO.fr ad ha).1; have := hb.lt; omega
    have htk : xs.take (t + 1) = xs.take t ++ [xs[t]] := by rw [List.take_add_one]; simp [htl]
    have hnl := W.numL_le xs[t]
    refine ⟨by omega, by omega, k - 1, by omega, t + 1, a2, c2, l1 ++ numL xs[t], rfl, by omega, ?_, by rw [List.length_append]; omega, hb18, hO.row.ext' x18 fun _ ad ha => hne ad ha, fun ad ha => ⟨hne ad ha, .inr (Nat.le_trans X.size (hO.fr ad ha).1)⟩, (X.trans hx16.none).trans x18⟩
    rw [hl1, htk, List.flatMap_append, List.append_assoc]; simp
  · obtain rfl : t = xs.length := by omega
    rw [List.take_length] at hl1
    subst hl1
    exact ⟨rfl, a1, c1, hb, hr, hf, X⟩
theorem text_spec {e : Ent} (hr : entRight e = true) (hf : e.fit) {ba : Option Addr} {bc : Nat} (hb : RowAt w ba (bytesV e.body)) :
    Calls Try.prog 33 #[entV e ba bc] w (fun x w' => ∃ a' c', x = .returned (.slice a' (textL e).length c') ∧ OwnB w.heap.size w' a' c' (textL e) ∧ Ext no w w') := by
  obtain ⟨h1, h2, h3, h4, h5, h6, h7, h8, h9, h10, h11⟩ := (entRight_iff e).1 hr
  have f1 := hf.pv0; have f2 := hf.pv1
  refine (entry_text.go e.w e.i e.pv e.t e.tw e.ep ba e.body.length bc e.sg (R := fun v w' => ∃ a' c', v = (.slice a' (textL e).length c') ∧ OwnB w.heap.size w' a' c' (textL e) ∧ Ext no w w') ?_).mono fun x w' ⟨v, he, a, c, hv, hw⟩ => ⟨a, c, by rw [he, hv], hw⟩
  unfold entry_text.N
  intro w10 q p X10 hq hq1 hq2 hp w13 q2 X13 hq3 hq4 hq5
  rw [wu64 (n := e.w) h1 (by omega), wu64 (n := e.i) h3 (by omega)] at hq3
  have hrow : RowAt w13 (some (blk q2)) (([e.w.toNat, e.i.toNat, e.pv.toNat] : List Nat).map fun (n : Nat) => Value.int .u64 (n : Int)) := by
    have := RowAt.of_blk hq3
    simp only [List.map_cons, List.map_nil, Int.toNat_of_nonneg h1, Int.toNat_of_nonneg h3, Int.toNat_of_nonneg f1]
    exact this
  have hp1 := hp.one
  refine (nums_spec (bs := []) (q := q) (hq.ext X13 id) (RowAt.nil _ _) (fun ad ha => by cases ha) hrow (fun ad ha => by cases ha; simp only [blk]; omega) (by simp; omega) (by simp)).mono fun x w16 ⟨he, a1, c1, hb1, hr1, hf1, X16⟩ => ?_
  have hw16 : Ext no w w16 := (X10.trans X13).then X16 fun b hb => .inr (by omega)
  have hpq : p ≠ q := by omega
  have e1 : ([] ++ [e.w.toNat, e.i.toNat, e.pv.toNat].flatMap numL) = numL e.w.toNat ++ numL e.i.toNat ++ numL e.pv.toNat := by simp
  rw [e1] at hr1 hb1
  refine ⟨he, keep1 X16 hpq, a1, _, c1, hb1.cell (i := 0) rfl, fun w17 X17 => ?_⟩
  have g1 := W.numL_le e.w.toNat; have g2 := W.numL_le e.i.toNat; have g3 := W.numL_le e.pv.toNat; have g4 := stampL_le e.t e.tw; have g5 := W.numL_le (zig e.ep)
  have h17 := hw16.trans X17
  refine (Put_spec (hr1.no X17) (by simp only [List.length_append]; omega) (by omega) (by omega) (by omega)).mono fun x w22 ⟨a2, c2, he, hO2, X22⟩ => ⟨a2, _, c2, he, X22.kept, ?_⟩
  refine (W.Int_spec hO2.row (by simp only [List.length_append]; omega) (by omega) (by omega)).mono fun x w25 ⟨a3, c3, he, hO3, X25⟩ => ⟨a3, _, c3, he, X25.kept, ?_⟩
  have h25 := (h17.trans X22).trans X25
  refine (W.Bytes_spec hO3.row (by simp only [List.length_append]; omega) (hb.no h25) (by omega)).mono fun x w28 ⟨a4, c4, he, hO4, X28⟩ => ⟨a4, _, c4, he, a4, c4, ?_, ?_, h25.trans X28⟩
  · unfold textL; simp only [List.append_assoc]
  · unfold textL; rw [← List.append_assoc]; exact OwnB.up hO4 h25.size
theorem Text_spec {e : Ent} (hf : entRight e = true → e.fit) {ba : Option Addr} {bc : Nat} (hb : RowAt w ba (bytesV e.body)) :
    Calls Try.prog 15 #[entV e ba bc] w (fun x w' => Ext no w w' ∧ ((entRight e = false ∧ x = .returned (.tuple #[.slice none 0 0, .int .i64 1])) ∨ (entRight e = true ∧ ∃ a' c', x = .returned (.tuple #[.slice a' (textL e).length c', .int .i64 0]) ∧ OwnB w.heap.size w' a' c' (textL e)))) := by
  refine (entry_Text.go e.w e.i e.pv e.t e.tw e.ep ba e.body.length bc e.sg (R := fun v w' => Ext no w w' ∧ ((entRight e = false ∧ v = (.tuple #[.slice none 0 0, .int .i64 1])) ∨ (entRight e = true ∧ ∃ a' c', v = (.tuple #[.slice a' (textL e).length c', .int .i64 0]) ∧ OwnB w.heap.size w' a' c' (textL e)))) ?_).mono fun x w' ⟨v, he, hx, hv⟩ => ⟨hx, hv.imp (fun ⟨h1, h2⟩ => ⟨h1, by rw [he, h2]⟩) fun ⟨h1, a, c, h2, h3⟩ => ⟨h1, a, c, by rw [he, h2], h3⟩⟩
  unfold entry_Text.N
  rw [entRight_F]
  refine ⟨fun h w10 X => ⟨X, .inl ⟨h, rfl⟩⟩, fun h w10 X => ?_⟩
  exact (text_spec h (hf h) (hb.no X)).mono fun x w16 ⟨a1, c1, he, hO, X16⟩ => ⟨a1, _, c1, he, X.trans X16, .inr ⟨h, a1, c1, rfl, OwnB.up hO X.size⟩⟩
theorem EBytes_spec {e : Ent} (hf : entRight e = true → e.fit) {ba : Option Addr} {bc : Nat} (hb : RowAt w ba (bytesV e.body)) :
    Calls Try.prog 10 #[entV e ba bc] w (fun x w' => Ext no w w' ∧ ((entRight e = false ∧ x = .returned (.tuple #[.slice none 0 0, .int .i64 1])) ∨ (entRight e = true ∧ ∃ a' c', x = .returned (.tuple #[.slice a' (bytesL e).length c', .int .i64 0]) ∧ OwnB w.heap.size w' a' c' (bytesL e)))) := by
  refine (entry_Bytes.go e.w e.i e.pv e.t e.tw e.ep ba e.body.length bc e.sg (R := fun v w' => Ext no w w' ∧ ((entRight e = false ∧ v = (.tuple #[.slice none 0 0, .int .i64 1])) ∨ (entRight e = true ∧ ∃ a' c', v = (.tuple #[.slice a' (bytesL e).length c', .int .i64 0]) ∧ OwnB w.heap.size w' a' c' (bytesL e)))) ?_).mono fun x w' ⟨v, he, hx, hv⟩ => ⟨hx, hv.imp (fun ⟨h1, h2⟩ => ⟨h1, by rw [he, h2]⟩) fun ⟨h1, a, c, h2, h3⟩ => ⟨h1, a, c, by rw [he, h2], h3⟩⟩
  unfold entry_Bytes.N
  rw [entRight_F]
  refine ⟨fun h w10 X => ⟨X, .inl ⟨h, rfl⟩⟩, fun h w13 p X hp => ?_⟩
  have hf := hf h
  have f3 := hf.sg0; have f4 := hf.sg1
  have hbl := ((entRight_iff e).1 h).2.2.2.2.2.2.2.2.2.1
  have htl := textL_le e
  refine (text_spec h hf (hb.no X)).mono fun x w17 ⟨a1, c1, he, hO, X17⟩ => ⟨a1, _, c1, he, X17.kept, ?_⟩
  rw [← Int.toNat_of_nonneg f3]
  refine (W.Num_spec hO.row (by omega) (n := e.sg.toNat) (by omega)).mono fun x w20 ⟨a2, c2, he, hO2, X20⟩ => ⟨a2, _, c2, he, (X.trans X17).trans X20, .inr ⟨h, a2, c2, rfl, OwnB.up hO2 (X.trans X17).size⟩⟩
theorem Bound_spec {x y z : Int} (hx : x < 9223372036854775808) (hy : y < 9223372036854775808) (hz0 : -9223372036854775808 ≤ z) (hz : z < 9223372036854775808) :
    Calls Try.prog 21 #[.int .i64 x, .int .i64 y, .int .i64 z] w (fun e w' => ∃ a' c', e = .returned (.slice a' (boundL x y z).length c') ∧ OwnB w.heap.size w' a' c' (boundL x y z) ∧ Ext no w w') := by
  refine (entry_Bound.go x y z (R := fun v w' => ∃ a' c', v = (.slice a' (boundL x y z).length c') ∧ OwnB w.heap.size w' a' c' (boundL x y z) ∧ Ext no w w') ?_).mono fun x w' ⟨v, he, a, c, hv, hw⟩ => ⟨a, c, by rw [he, hv], hw⟩
  unfold entry_Bound.N
  have e1 : ∀ s : Int, s < 9223372036854775808 → IntKind.u64.wrap (if (0 : Int) > s then 0 else s) = ((s.toNat : Nat) : Int) := fun s hs => by split <;> rw [wu64 (by omega) (by omega)] <;> omega
  rw [e1 x hx, e1 y hy]
  have g1 := W.numL_le x.toNat; have g2 := W.numL_le y.toNat
  refine (W.Num_spec (bs := []) (RowAt.nil _ _) (by simp) (n := x.toNat) (by omega)).mono fun e w6 ⟨a1, c1, he, hO1, X6⟩ => ⟨a1, _, c1, he, ?_⟩
  refine (W.Num_spec hO1.row (by simp; omega) (n := y.toNat) (by omega)).mono fun e w9 ⟨a2, c2, he, hO2, X9⟩ => ⟨a2, _, c2, he, ?_⟩
  refine (W.Int_spec hO2.row (by simp; omega) hz0 hz).mono fun e w12 ⟨a3, c3, he, hO3, X12⟩ => ⟨a3, _, c3, he, a3, c3, ?_, ?_, (X6.trans X9).trans X12⟩
  · unfold boundL; simp
  · exact OwnB.up hO3 (X6.trans X9).size
/-! ### reading -/
theorem Get_spec (h : Rd w p bs k) (hl : bs.length < 1000000) :
    Calls Try.prog 39 #[.pointer (some (blk p))] w (GivesW (.agg #[.int .i64 (stampR (bs, k)).1.1, .int .i64 (stampR (bs, k)).1.2]) fun w' => Rd w' p (stampR (bs, k)).2.1 (stampR (bs, k)).2.2 ∧ Ext (fun b => b = p) w w') := by
  refine (stamp_Get.run _ (Q := fun w' => Rd w' p (stampR (bs, k)).2.1 (stampR (bs, k)).2.2 ∧ Ext (fun b => b = p) w w') ?_)
  unfold stamp_Get.N
  intro w2 p3 X2 hp
  have hp := hp.one
  have hpp : p < p3 := by have := h.lt; omega
  refine (W.RInt_spec (h.no X2) hl).mono fun e w6 ⟨he, h6, X6⟩ => ⟨_, he, keep1 X6 (by omega), fun w7 X7 => ?_⟩
  have h7 := h6.up X7 fun b hb => by omega
  have hlen := intR_len (bs, k)
  have hc := W.Count_spec h7 (by simp only at hlen; omega) (m := 7) (by decide)
  refine hc.mono fun e w10 ⟨he, h10, X10⟩ => ⟨_, he, keep1 X10 (by omega), fun w13 X13 => ?_⟩
  have h13 := h10.up X13 fun b hb => by omega
  refine ⟨rfl, h13, ?_⟩
  have y1 : Ext (fun b => b = p) w w7 := (X2.none.trans X6).then X7 fun b hb => .inr (by omega)
  exact (y1.trans X10).then X13 fun b hb => .inr (by omega)
theorem Read_spec (h : RowAt w a (bytesV bs)) (hc : bs.length ≤ c) (hl : bs.length < 1000000) :
    Calls Try.prog 12 #[.slice a bs.length c] w (fun e w' => ∃ a' c', e = .returned (.tuple #[entV (readE bs).1 a' c', .int .i64 (readE bs).2]) ∧ RowAt w' a' (bytesV (readE bs).1.body) ∧ (∀ ad, a' = some ad → w.heap.size ≤ ad.block) ∧ Ext no w w') := by
  refine (entry_Read.go _ _ _ (R := fun v w' => ∃ a' c', v = (.tuple #[entV (readE bs).1 a' c', .int .i64 (readE bs).2]) ∧ RowAt w' a' (bytesV (readE bs).1.body) ∧ (∀ ad, a' = some ad → w.heap.size ≤ ad.block) ∧ Ext no w w') ?_).mono fun e w' ⟨v, he, a, c, hv, hw⟩ => ⟨a, c, by rw [he, hv], hw⟩
  unfold entry_Read.N
  intro w2 p3 X2 hp3
  have hp3 := hp3.one
  obtain ⟨L1, L2, L3, L4, L5, L6, L7⟩ := entR_len (bs, 0)
  simp only at L1 L2 L3 L4 L5 L6 L7
  refine (W.Read_spec (h.no X2) hc).mono fun e w6 ⟨q, he, hr6, hq6, X6⟩ => ⟨_, he, X6.kept, fun w7 p8 X7 hp8 => ?_⟩
  have hp8 := hp8.one
  have hq7 := hr6.lt
  have s6 := X6.size
  have Y7 : Ext no w w7 := (X2.trans X6).trans X7
  -- what is changed is new
  have new : ∀ {w1 w2 : World}, Ext no w w1 → Ext (fun b => b = q) w1 w2 → Ext no w w2 := fun h1 h2 => h1.then h2 fun b hb => .inr (by omega)
  have new8 : ∀ {w1 w2 : World}, Ext no w w1 → Ext (fun b => b = p8) w1 w2 → Ext no w w2 := fun h1 h2 => h1.then h2 fun b hb => .inr (by omega)
  have new3 : ∀ {w1 w2 : World}, Ext no w w1 → Ext (fun b => b = p3) w1 w2 → Ext no w w2 := fun h1 h2 => h1.then h2 fun b hb => .inr (by omega)
  have up8 : ∀ b, b = p8 → q < b := fun b hb => by omega
  have k8 : ¬ (p8 = q) := by omega
  have k3 : ¬ (p3 = q) := by omega
  refine (W.Count_spec (hr6.no X7) hl (m := 7) (by decide)).mono fun e w11 ⟨he, hr11, X11⟩ => ⟨_, he, keep2 X11 k3 k8, fun w12 X12 => ?_⟩
  refine (W.Count_spec (bs := (entR1 (bs, 0)).1) (k := (entR1 (bs, 0)).2) (hr11.up X12 up8) (by omega) (m := 199) (by decide)).mono fun e w15 ⟨he, hr15, X15⟩ => ⟨_, he, keep2 X15 k3 k8, fun w16 X16 => ?_⟩
  refine (W.RNum_spec (bs := (entR2 (bs, 0)).1) (k := (entR2 (bs, 0)).2) (hr15.up X16 up8) (by omega)).mono fun e w19 ⟨he, hr19, X19⟩ => ⟨_, he, keep2 X19 k3 k8, fun w20 X20 => ?_⟩
  refine (Get_spec (bs := (entR3 (bs, 0)).1) (k := (entR3 (bs, 0)).2) (hr19.up X20 up8) (by omega)).mono fun e w24 ⟨he, hr24, X24⟩ => ⟨_, _, he, keep2 X24 k3 k8, fun w26 X26 => ?_⟩
  refine (W.RInt_spec (bs := (entR4 (bs, 0)).1) (k := (entR4 (bs, 0)).2) (hr24.up X26 up8) (by omega)).mono fun e w29 ⟨he, hr29, X29⟩ => ⟨_, he, keep2 X29 k3 k8, ?_⟩
  refine (RBytes_spec (bs := (entR5 (bs, 0)).1) (k := (entR5 (bs, 0)).2) hr29 (by omega) (m := 1100) (by decide)).mono fun e w32 ⟨ba, bc, he, hO, hr32, X32⟩ => ⟨ba, _, bc, he, keep2 X32 k3 k8, fun w33 X33 => ?_⟩
  have Y29 := new (new8 (new (new8 (new (new8 (new (new8 (new Y7 X11) X12) X15) X16) X19) X20) X24) X26) X29
  have hO33 : OwnB w29.heap.size w33 ba bc (bytesR 1100 (entR5 (bs, 0))).1 := hO.ext X33 fun ad ha hb => by have := (hO.fr ad ha).1; have := X29.size; have := X26.size; have := X24.size; have := X20.size; have := X19.size; have := X16.size; have := X15.size; have := X12.size; have := X11.size; omega
  have s29 : w7.heap.size ≤ w29.heap.size := by have := X29.size; have := X26.size; have := X24.size; have := X20.size; have := X19.size; have := X16.size; have := X15.size; have := X12.size; have := X11.size; omega
  refine (W.RNum_spec (bs := (entR6 (bs, 0)).1) (k := (entR6 (bs, 0)).2) (hr32.up X33 up8) (by omega)).mono fun e w36 ⟨he, hr36, X36⟩ => ⟨_, he, keep2 X36 k3 k8, fun w37 X37 => ?_⟩
  have hO37 : OwnB w29.heap.size w37 ba bc (bytesR 1100 (entR5 (bs, 0))).1 := (hO33.ext X36 fun ad ha hb => by have := (hO.fr ad ha).1; have := X7.size; omega).ext X37 fun ad ha hb => by have := (hO.fr ad ha).1; omega
  refine (W.Done_spec (bs := (entR7 (bs, 0)).1) (k := (entR7 (bs, 0)).2) (hr36.up X37 up8)).mono fun e w40 ⟨he, hw⟩ => ⟨_, he, Keep.refl _ _ |> fun k => by subst hw; exact k, ?_⟩
  subst hw
  have Y40 := new8 (new (new8 (new Y29 X32) X33) X36) X37
  have hF := entRight_F (entR (bs, 0)) ba bc
  have hF' : entry_Right.F ((countR 7 (bs, 0)).1 : Int) ((countR 199 (entR1 (bs, 0))).1 : Int) ((numR (entR2 (bs, 0))).1 : Int) (stampR (entR3 (bs, 0))).1.1 ((stampR (entR3 (bs, 0))).1.2 : Int) (intR (entR4 (bs, 0))).1 ba (bytesR 1100 (entR5 (bs, 0))).1.length bc ((numR (entR6 (bs, 0))).1 : Int) = entRight (entR (bs, 0)) := hF
  have new38 : ∀ {w1 w2 : World}, Ext no w w1 → Ext (fun b => b = p3 ∨ b = p8) w1 w2 → Ext no w w2 := fun h1 h2 => h1.then h2 fun b hb => .inr (by omega)
  refine ⟨fun hd w49 X49 => ?_, fun hd => ⟨fun hn => absurd rfl hn, fun _ => ⟨fun hr w69 X69 => ?_, fun hr w77 X77 => ?_⟩⟩⟩
  · have : readE bs = (Ent.zero, doneR (entR7 (bs, 0))) := by unfold readE; rw [if_pos hd]
    rw [this]
    exact ⟨none, 0, rfl, RowAt.nil _ _, fun ad ha => by (cases ha), new3 Y40 X49⟩
  · rw [hF'] at hr
    have : readE bs = (Ent.zero, 4) := by unfold readE; rw [if_neg (by rw [hd]; simp), if_neg (by rw [hr]; simp)]
    rw [this]
    exact ⟨none, 0, rfl, RowAt.nil _ _, fun ad ha => by (cases ha), new38 Y40 X69⟩
  · rw [hF'] at hr
    have : readE bs = (entR (bs, 0), 0) := by unfold readE; rw [if_neg (by rw [hd]; simp), if_pos hr]
    rw [this]
    refine ⟨ba, bc, rfl, ?_, fun ad ha => ?_, new38 Y40 X77⟩
    · refine (hO37.ext X77 fun ad ha hb => ?_).row
      have := (hO.fr ad ha).1; have := X7.size; omega
    · have := (hO.fr ad ha).1; have := Y7.size; omega
end
end Go.Proofs.Ytomajjnoekfmoaa
