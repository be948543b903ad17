/- Entries: their bytes, and the entry of bytes (the program's). -/
import Derived.Test.YtlfijjmjmgobhaaEntA
set_option linter.unusedVariables false
set_option linter.unusedSimpArgs false
set_option maxRecDepth 20000
namespace Go.Proofs.Ytlfijjmjmgobhaa
open Go Go.Mx Go.Proofs
open W (OwnB GivesW numR countR doneR zig unzig intR)
/-- bytes.Equal -/
def bytes_Equal.M (a1a : Option Addr) (a1n : Nat) (a1c : Nat) (b2a : Option Addr) (b2n : Nat) (b2c : Nat) (R : Value → World → Prop) (w : World) : Prop :=
  ∃ (s3 : ByteArray), (convert 26 9 (.slice a1a a1n a1c)).run Try.prog w = .ok (.string s3) w ∧
  ∃ (s4 : ByteArray), (convert 26 9 (.slice b2a b2n b2c)).run Try.prog w = .ok (.string s4) w ∧
  R (.bool (s3.toList == s4.toList)) w

theorem bytes_Equal.eq (a1a : Option Addr) (a1n : Nat) (a1c : Nat) (b2a : Option Addr) (b2n : Nat) (b2c : Nat) (R : Value → World → Prop) (w : World) : mfunc Try.prog [] 86 [.slice a1a a1n a1c, .slice b2a b2n b2c] R w = bytes_Equal.M a1a a1n a1c b2a b2n b2c R w := by kernel_rfl
theorem bytes_Equal.ok (a1a : Option Addr) (a1n : Nat) (a1c : Nat) (b2a : Option Addr) (b2n : Nat) (b2c : Nat) {R : Value → World → Prop} {w : World} (h : bytes_Equal.M a1a a1n a1c b2a b2n b2c R w) : Calls Try.prog 86 #[.slice a1a a1n a1c, .slice b2a b2n b2c] w fun e w' => ∃ v, e = .returned v ∧ R v w' :=
  mfunc_ok follows (H := []) (args := [.slice a1a a1n a1c, .slice b2a b2n b2c]) (by rw [bytes_Equal.eq]; exact h)

def bytes_Equal.N (a1a : Option Addr) (a1n : Nat) (a1c : Nat) (b2a : Option Addr) (b2n : Nat) (b2c : Nat) (R : Value → World → Prop) (w : World) : Prop :=
  ∃ (s3 : ByteArray), (convert 26 9 (.slice a1a a1n a1c)).run Try.prog w = .ok (.string s3) w ∧
  ∃ (s5 : ByteArray), (convert 26 9 (.slice b2a b2n b2c)).run Try.prog w = .ok (.string s5) w ∧
  R (.bool (s3.toList == s5.toList)) w

theorem bytes_Equal.up (a1a : Option Addr) (a1n : Nat) (a1c : Nat) (b2a : Option Addr) (b2n : Nat) (b2c : Nat) {R : Value → World → Prop} {w : World} (h : bytes_Equal.N a1a a1n a1c b2a b2n b2c R w) : bytes_Equal.M a1a a1n a1c b2a b2n b2c R w := by
  unfold bytes_Equal.M
  unfold bytes_Equal.N at h
  obtain ⟨s3, hs4, h⟩ := h
  refine ⟨s3, hs4, ?_⟩
  obtain ⟨s5, hs6, h⟩ := h
  refine ⟨s5, hs6, ?_⟩
  exact h

theorem bytes_Equal.go (a1a : Option Addr) (a1n : Nat) (a1c : Nat) (b2a : Option Addr) (b2n : Nat) (b2c : Nat) {R : Value → World → Prop} {w : World} (h : bytes_Equal.N a1a a1n a1c b2a b2n b2c R w) : Calls Try.prog 86 #[.slice a1a a1n a1c, .slice b2a b2n b2c] w fun e w' => ∃ v, e = .returned v ∧ R v w' := bytes_Equal.ok a1a a1n a1c b2a b2n b2c (bytes_Equal.up a1a a1n a1c b2a b2n b2c h)
theorem bytes_Equal.run (a1a : Option Addr) (a1n : Nat) (a1c : Nat) (b2a : Option Addr) (b2n : Nat) (b2c : Nat) {V : Value} {Q : World → Prop} {w : World} (h : bytes_Equal.N a1a a1n a1c b2a b2n b2c (fun v w' => v = V ∧ Q w') w) : Calls Try.prog 86 #[.slice a1a a1n a1c, .slice b2a b2n b2c] w (Ret V Q) := (bytes_Equal.go a1a a1n a1c b2a b2n b2c h).mono fun e w' ⟨v, he, hv, hq⟩ => ⟨by rw [he, hv], hq⟩

/-- stamp.Put -/
def stamp_Put.M (b1a : Option Addr) (b1n : Nat) (b1c : Nat) (sT2 : Int) (sW3 : Int) (R : Value → World → Prop) (w : World) : Prop :=
  thenW (w.alloc (.cells #[.int .i64 sT2, .int .i64 sW3] 25)) fun ww4 =>
  thenW (ww4.drew) fun ww5 =>
  ∃ (T6 : Int), ww5.cell? ((blk w.heap.size).add 0) = some (.int .i64 T6) ∧
  ∃ (W7 : Int), ww5.cell? ((blk w.heap.size).add 1) = some (.int .i64 W7) ∧
  Calls Try.prog 102 #[.slice b1a b1n b1c, .int .i64 T6] ww5 fun ee9 ww10 => ∃ (int8a : Option Addr) (int8n : Nat) (int8c : Nat), ee9 = .returned (.slice int8a int8n int8c) ∧
  ww10.cell? ((blk w.heap.size).add 1) = some (.int .i64 W7) ∧
  Calls Try.prog 62 #[.slice int8a int8n int8c, .int .u64 (IntKind.u64.wrap (if (0 : Int) > W7 then 0 else W7))] ww10 fun ee12 ww13 => ∃ (num11a : Option Addr) (num11n : Nat) (num11c : Nat), ee12 = .returned (.slice num11a num11n num11c) ∧
  R (.slice num11a num11n num11c) ww13

theorem stamp_Put.eq (b1a : Option Addr) (b1n : Nat) (b1c : Nat) (sT2 : Int) (sW3 : Int) (R : Value → World → Prop) (w : World) : mfunc Try.prog [] 103 [.slice b1a b1n b1c, .agg #[.int .i64 sT2, .int .i64 sW3]] R w = stamp_Put.M b1a b1n b1c sT2 sW3 R w := by kernel_rfl
theorem stamp_Put.ok (b1a : Option Addr) (b1n : Nat) (b1c : Nat) (sT2 : Int) (sW3 : Int) {R : Value → World → Prop} {w : World} (h : stamp_Put.M b1a b1n b1c sT2 sW3 R w) : Calls Try.prog 103 #[.slice b1a b1n b1c, .agg #[.int .i64 sT2, .int .i64 sW3]] w fun e w' => ∃ v, e = .returned v ∧ R v w' :=
  mfunc_ok follows (H := []) (args := [.slice b1a b1n b1c, .agg #[.int .i64 sT2, .int .i64 sW3]]) (by rw [stamp_Put.eq]; exact h)

def stamp_Put.N (b1a : Option Addr) (b1n : Nat) (b1c : Nat) (sT2 : Int) (sW3 : Int) (R : Value → World → Prop) (w : World) : Prop :=
  ∀ (ww5 : World) (p6 : Nat), Ext no w ww5 → Priv w ww5 [p6] →
  Calls Try.prog 102 #[.slice b1a b1n b1c, .int .i64 sT2] ww5 fun ee8 ww9 => ∃ (int7a : Option Addr) (int7n : Nat) (int7c : Nat), ee8 = .returned (.slice int7a int7n int7c) ∧
  Keep [p6] ww5 ww9 ∧
  Calls Try.prog 62 #[.slice int7a int7n int7c, .int .u64 (IntKind.u64.wrap (if (0 : Int) > sW3 then 0 else sW3))] ww9 fun ee11 ww12 => ∃ (num10a : Option Addr) (num10n : Nat) (num10c : Nat), ee11 = .returned (.slice num10a num10n num10c) ∧
  R (.slice num10a num10n num10c) ww12

theorem stamp_Put.up (b1a : Option Addr) (b1n : Nat) (b1c : Nat) (sT2 : Int) (sW3 : Int) {R : Value → World → Prop} {w : World} (h : stamp_Put.N b1a b1n b1c sT2 sW3 R w) : stamp_Put.M b1a b1n b1c sT2 sW3 R w := by
  unfold stamp_Put.M
  unfold stamp_Put.N at h
  refine thenW_in fun ww4 e4 => ?_
  have hb1 := Blk.of_new e4
  have hg1 := ((Ext.refl no w)).size
  have hx4 := (Ext.refl no w).x_alloc e4
  refine thenW_in fun ww5 e5 => ?_
  have hx5 := hx4.x_drew e5
  have hb1 := hb1.x_drew e5
  refine ⟨sT2, hb1.celli 0 rfl rfl, ?_⟩
  refine ⟨sW3, hb1.celli 1 rfl rfl, ?_⟩
  have h := h ww5 (w.heap.size) hx5 (Priv.cons hg1 hb1.lt Priv.nil)
  refine h.mono fun ee8 ww9 h => ?_
  obtain ⟨int7a, int7n, int7c, he, hk, h⟩ := h
  refine ⟨int7a, int7n, int7c, he, ?_⟩
  have hb1 := hk.blk hb1 (by simp)
  refine ⟨hb1.celli 1 rfl rfl, ?_⟩
  refine h.mono fun ee11 ww12 h => ?_
  obtain ⟨num10a, num10n, num10c, he, h⟩ := h
  refine ⟨num10a, num10n, num10c, he, ?_⟩
  exact h

theorem stamp_Put.go (b1a : Option Addr) (b1n : Nat) (b1c : Nat) (sT2 : Int) (sW3 : Int) {R : Value → World → Prop} {w : World} (h : stamp_Put.N b1a b1n b1c sT2 sW3 R w) : Calls Try.prog 103 #[.slice b1a b1n b1c, .agg #[.int .i64 sT2, .int .i64 sW3]] w fun e w' => ∃ v, e = .returned v ∧ R v w' := stamp_Put.ok b1a b1n b1c sT2 sW3 (stamp_Put.up b1a b1n b1c sT2 sW3 h)
theorem stamp_Put.run (b1a : Option Addr) (b1n : Nat) (b1c : Nat) (sT2 : Int) (sW3 : Int) {V : Value} {Q : World → Prop} {w : World} (h : stamp_Put.N b1a b1n b1c sT2 sW3 (fun v w' => v = V ∧ Q w') w) : Calls Try.prog 103 #[.slice b1a b1n b1c, .agg #[.int .i64 sT2, .int .i64 sW3]] w (Ret V Q) := (stamp_Put.go b1a b1n b1c sT2 sW3 h).mono fun e w' ⟨v, he, hv, hq⟩ => ⟨by rw [he, hv], hq⟩

/-- (*entry.writer).nums -/
def entry_writer_nums.M (wv1 : Option Addr) (l2a : Option Addr) (l2n : Nat) (l2c : Nat) (R : Value → World → Prop) (w : World) : Prop :=
  ∃ (I0 : Nat → List Value → World → Prop) (m4 : Nat), I0 m4 [.int .i64 0] w ∧ ∀ (m5 : Nat) (ww6 : World) (t3 : Int), I0 m5 [.int .i64 t3] ww6 →
  bif decide (t3 < (l2n : Int)) then (
  l2a.elim False fun a7 =>
  0 ≤ (t3 : Int) ∧ (t3 : Int) < (l2n : Int) ∧
  ∃ (x8 : Int), ww6.cell? (a7.add (Int.toNat t3 * 1)) = some (.int .u64 x8) ∧
  wv1.elim False fun a9 =>
  ∃ (x10a : Option Addr) (x10n : Nat) (x10c : Nat), ww6.cell? a9 = some (.slice x10a x10n x10c) ∧
  Calls Try.prog 62 #[.slice x10a x10n x10c, .int .u64 x8] ww6 fun ee12 ww13 => ∃ (num11a : Option Addr) (num11n : Nat) (num11c : Nat), ee12 = .returned (.slice num11a num11n num11c) ∧
  wv1.elim False fun a14 =>
  canStore ww13 (a14.add 0) ∧
  thenW (ww13.setCell (a14.add 0) (.slice num11a num11n num11c)) fun ww15 =>
  ∃ m16, m16 < m5 ∧ I0 m16 [.int .i64 (IntKind.i64.wrap (t3 + 1))] ww15) else (
  R (.tuple #[]) ww6)

theorem entry_writer_nums.eq (wv1 : Option Addr) (l2a : Option Addr) (l2n : Nat) (l2c : Nat) (R : Value → World → Prop) (w : World) : mfunc Try.prog [(0, [0, 6, 7], [(8, (.one (.int .i64)))])] 101 [.pointer wv1, .slice l2a l2n l2c] R w = entry_writer_nums.M wv1 l2a l2n l2c R w := by kernel_rfl
theorem entry_writer_nums.ok (wv1 : Option Addr) (l2a : Option Addr) (l2n : Nat) (l2c : Nat) {R : Value → World → Prop} {w : World} (h : entry_writer_nums.M wv1 l2a l2n l2c R w) : Calls Try.prog 101 #[.pointer wv1, .slice l2a l2n l2c] w fun e w' => ∃ v, e = .returned v ∧ R v w' :=
  mfunc_ok follows (H := [(0, [0, 6, 7], [(8, (.one (.int .i64)))])]) (args := [.pointer wv1, .slice l2a l2n l2c]) (by rw [entry_writer_nums.eq]; exact h)

def entry_writer_nums.N (wv1 : Option Addr) (l2a : Option Addr) (l2n : Nat) (l2c : Nat) (R : Value → World → Prop) (w : World) : Prop :=
  ∃ (I0 : Nat → List Value → World → Prop) (m4 : Nat), I0 m4 [.int .i64 0] w ∧ ∀ (m5 : Nat) (ww6 : World) (t3 : Int), I0 m5 [.int .i64 t3] ww6 →
  (t3 < (l2n : Int) →
    ∃ a8 : Addr, l2a = some a8 ∧
    0 ≤ (t3 : Int) ∧ (t3 : Int) < (l2n : Int) ∧
    ∃ (x10 : Int), ww6.cell? (a8.add (Int.toNat t3 * 1)) = some (.int .u64 x10) ∧
    ∃ a11 : Addr, wv1 = some a11 ∧
    ∃ (x13a : Option Addr) (x13n : Nat) (x13c : Nat), ww6.cell? a11 = some (.slice x13a x13n x13c) ∧
    Calls Try.prog 62 #[.slice x13a x13n x13c, .int .u64 x10] ww6 fun ee15 ww16 => ∃ (num14a : Option Addr) (num14n : Nat) (num14c : Nat), ee15 = .returned (.slice num14a num14n num14c) ∧
    canStore ww16 (a11.add 0) ∧
    thenW (ww16.setCell (a11.add 0) (.slice num14a num14n num14c)) fun ww17 =>
    (-9223372036854775808 : Int) ≤ (t3 + 1) ∧ (t3 + 1) < 9223372036854775808 ∧
    ∃ m18, m18 < m5 ∧ I0 m18 [.int .i64 (t3 + 1)] ww17) ∧
  ((l2n : Int) ≤ t3 →
    R (.tuple #[]) ww6)

theorem entry_writer_nums.up (wv1 : Option Addr) (l2a : Option Addr) (l2n : Nat) (l2c : Nat) {R : Value → World → Prop} {w : World} (h : entry_writer_nums.N wv1 l2a l2n l2c R w) : entry_writer_nums.M wv1 l2a l2n l2c R w := by
  unfold entry_writer_nums.M
  unfold entry_writer_nums.N at h
  obtain ⟨I0, m4, h0, h⟩ := h
  refine ⟨I0, m4, h0, fun m5 ww6 t3 hI => ?_⟩
  have h := h m5 ww6 t3 hI
  refine bif_of (fun c7 => ?_) (fun c7 => ?_)
  · have h := h.1 (of_decide_eq_true c7)
    obtain ⟨a8, ha8, h⟩ := h
    refine elim_some ha8 ?_
    obtain ⟨hq1, hq2, h⟩ := h
    refine ⟨hq1, hq2, ?_⟩
    obtain ⟨x10, hc9, h⟩ := h
    refine ⟨x10, hc9, ?_⟩
    obtain ⟨a11, ha11, h⟩ := h
    refine elim_some ha11 ?_
    obtain ⟨x13a, x13n, x13c, hc12, h⟩ := h
    refine ⟨x13a, x13n, x13c, hc12, ?_⟩
    refine h.mono fun ee15 ww16 h => ?_
    obtain ⟨num14a, num14n, num14c, he, h⟩ := h
    refine ⟨num14a, num14n, num14c, he, ?_⟩
    refine elim_some ha11 ?_
    obtain ⟨hcs, h⟩ := h
    refine ⟨hcs, thenW_in fun ww17 e17 => ?_⟩
    replace h := thenW_out h e17
    obtain ⟨hw1, hw2, h⟩ := h
    try rw [w64 hw1 hw2]
    obtain ⟨m18, hk, h⟩ := h
    exact ⟨m18, hk, h⟩
  · have h := h.2 (Int.not_lt.1 (of_decide_eq_false c7))
    exact h

theorem entry_writer_nums.go (wv1 : Option Addr) (l2a : Option Addr) (l2n : Nat) (l2c : Nat) {R : Value → World → Prop} {w : World} (h : entry_writer_nums.N wv1 l2a l2n l2c R w) : Calls Try.prog 101 #[.pointer wv1, .slice l2a l2n l2c] w fun e w' => ∃ v, e = .returned v ∧ R v w' := entry_writer_nums.ok wv1 l2a l2n l2c (entry_writer_nums.up wv1 l2a l2n l2c h)
theorem entry_writer_nums.run (wv1 : Option Addr) (l2a : Option Addr) (l2n : Nat) (l2c : Nat) {V : Value} {Q : World → Prop} {w : World} (h : entry_writer_nums.N wv1 l2a l2n l2c (fun v w' => v = V ∧ Q w') w) : Calls Try.prog 101 #[.pointer wv1, .slice l2a l2n l2c] w (Ret V Q) := (entry_writer_nums.go wv1 l2a l2n l2c h).mono fun e w' ⟨v, he, hv, hq⟩ => ⟨by rw [he, hv], hq⟩

/-- entry.text -/
def entry_text.M (eWriter1 : Int) (eIndex2 : Int) (ePrev3 : Int) (eAtT4 : Int) (eAtW5 : Int) (eEpoch6 : Int) (eBody7a : Option Addr) (eBody7n : Nat) (eBody7c : Nat) (eSig8 : Int) (R : Value → World → Prop) (w : World) : Prop :=
  thenW (w.alloc (.cells #[.int .i64 eWriter1, .int .i64 eIndex2, .int .u64 ePrev3, .int .i64 eAtT4, .int .i64 eAtW5, .int .i64 eEpoch6, .slice eBody7a eBody7n eBody7c, .int .u64 eSig8] 28)) fun ww9 =>
  thenW (ww9.alloc (.cells #[.slice none 0 0] 168)) fun ww10 =>
  ∃ (Writer11 : Int), ww10.cell? ((blk w.heap.size).add 0) = some (.int .i64 Writer11) ∧
  ∃ (Index12 : Int), ww10.cell? ((blk w.heap.size).add 1) = some (.int .i64 Index12) ∧
  ∃ (Prev13 : Int), ww10.cell? ((blk w.heap.size).add 2) = some (.int .u64 Prev13) ∧
  thenW (ww10.alloc (.cells #[.int .u64 (IntKind.u64.wrap Writer11), .int .u64 (IntKind.u64.wrap Index12), .int .u64 Prev13] 23)) fun ww14 =>
  Calls Try.prog 101 #[.pointer (some (blk ww9.heap.size)), .slice (some (blk ww10.heap.size)) 3 3] ww14 fun ee15 ww16 => ee15 = .returned (.tuple #[]) ∧
  thenW (ww16.drew) fun ww17 =>
  ∃ (x18a : Option Addr) (x18n : Nat) (x18c : Nat), ww17.cell? (blk ww9.heap.size) = some (.slice x18a x18n x18c) ∧
  ∃ (AtT19 : Int) (AtW20 : Int), cellsAt ww17 ((blk w.heap.size).add 3) [.int .i64 AtT19, .int .i64 AtW20] 0 ∧
  ∃ (Epoch21 : Int), ww17.cell? ((blk w.heap.size).add 5) = some (.int .i64 Epoch21) ∧
  Calls Try.prog 103 #[.slice x18a x18n x18c, .agg #[.int .i64 AtT19, .int .i64 AtW20]] ww17 fun ee23 ww24 => ∃ (put22a : Option Addr) (put22n : Nat) (put22c : Nat), ee23 = .returned (.slice put22a put22n put22c) ∧
  ww24.cell? ((blk w.heap.size).add 5) = some (.int .i64 Epoch21) ∧
  Calls Try.prog 102 #[.slice put22a put22n put22c, .int .i64 Epoch21] ww24 fun ee26 ww27 => ∃ (int25a : Option Addr) (int25n : Nat) (int25c : Nat), ee26 = .returned (.slice int25a int25n int25c) ∧
  ∃ (Body28a : Option Addr) (Body28n : Nat) (Body28c : Nat), ww27.cell? ((blk w.heap.size).add 6) = some (.slice Body28a Body28n Body28c) ∧
  Calls Try.prog 104 #[.slice int25a int25n int25c, .slice Body28a Body28n Body28c] ww27 fun ee30 ww31 => ∃ (bytes29a : Option Addr) (bytes29n : Nat) (bytes29c : Nat), ee30 = .returned (.slice bytes29a bytes29n bytes29c) ∧
  R (.slice bytes29a bytes29n bytes29c) ww31

theorem entry_text.eq (eWriter1 : Int) (eIndex2 : Int) (ePrev3 : Int) (eAtT4 : Int) (eAtW5 : Int) (eEpoch6 : Int) (eBody7a : Option Addr) (eBody7n : Nat) (eBody7c : Nat) (eSig8 : Int) (R : Value → World → Prop) (w : World) : mfunc Try.prog [] 80 [.agg #[.int .i64 eWriter1, .int .i64 eIndex2, .int .u64 ePrev3, .int .i64 eAtT4, .int .i64 eAtW5, .int .i64 eEpoch6, .slice eBody7a eBody7n eBody7c, .int .u64 eSig8]] R w = entry_text.M eWriter1 eIndex2 ePrev3 eAtT4 eAtW5 eEpoch6 eBody7a eBody7n eBody7c eSig8 R w := by kernel_rfl
theorem entry_text.ok (eWriter1 : Int) (eIndex2 : Int) (ePrev3 : Int) (eAtT4 : Int) (eAtW5 : Int) (eEpoch6 : Int) (eBody7a : Option Addr) (eBody7n : Nat) (eBody7c : Nat) (eSig8 : Int) {R : Value → World → Prop} {w : World} (h : entry_text.M eWriter1 eIndex2 ePrev3 eAtT4 eAtW5 eEpoch6 eBody7a eBody7n eBody7c eSig8 R w) : Calls Try.prog 80 #[.agg #[.int .i64 eWriter1, .int .i64 eIndex2, .int .u64 ePrev3, .int .i64 eAtT4, .int .i64 eAtW5, .int .i64 eEpoch6, .slice eBody7a eBody7n eBody7c, .int .u64 eSig8]] w fun e w' => ∃ v, e = .returned v ∧ R v w' :=
  mfunc_ok follows (H := []) (args := [.agg #[.int .i64 eWriter1, .int .i64 eIndex2, .int .u64 ePrev3, .int .i64 eAtT4, .int .i64 eAtW5, .int .i64 eEpoch6, .slice eBody7a eBody7n eBody7c, .int .u64 eSig8]]) (by rw [entry_text.eq]; exact h)

def entry_text.N (eWriter1 : Int) (eIndex2 : Int) (ePrev3 : Int) (eAtT4 : Int) (eAtW5 : Int) (eEpoch6 : Int) (eBody7a : Option Addr) (eBody7n : Nat) (eBody7c : Nat) (eSig8 : Int) (R : Value → World → Prop) (w : World) : Prop :=
  ∀ (ww10 : World) (q11 : Nat) (p12 : Nat), Ext no w ww10 → Blk ww10 q11 168 [.slice none 0 0] → w.heap.size ≤ q11 → q11 < ww10.heap.size → Privq w q11 [p12] →
  ∀ (ww13 : World) (q14 : Nat), Ext no ww10 ww13 → Blk ww13 q14 23 [.int .u64 (IntKind.u64.wrap eWriter1), .int .u64 (IntKind.u64.wrap eIndex2), .int .u64 ePrev3] → ww10.heap.size ≤ q14 → q14 < ww13.heap.size →
  Calls Try.prog 101 #[.pointer (some (blk q11)), .slice (some (blk q14)) 3 3] ww13 fun ee15 ww16 => ee15 = .returned (.tuple #[]) ∧
  Keep [p12] ww13 ww16 ∧
  ∃ (x19a : Option Addr) (x19n : Nat) (x19c : Nat), ww16.cell? (blk q11) = some (.slice x19a x19n x19c) ∧
  ∀ (ww17 : World), Ext no ww16 ww17 →
  Calls Try.prog 103 #[.slice x19a x19n x19c, .agg #[.int .i64 eAtT4, .int .i64 eAtW5]] ww17 fun ee21 ww22 => ∃ (put20a : Option Addr) (put20n : Nat) (put20c : Nat), ee21 = .returned (.slice put20a put20n put20c) ∧
  Keep [p12] ww17 ww22 ∧
  Calls Try.prog 102 #[.slice put20a put20n put20c, .int .i64 eEpoch6] ww22 fun ee24 ww25 => ∃ (int23a : Option Addr) (int23n : Nat) (int23c : Nat), ee24 = .returned (.slice int23a int23n int23c) ∧
  Keep [p12] ww22 ww25 ∧
  Calls Try.prog 104 #[.slice int23a int23n int23c, .slice eBody7a eBody7n eBody7c] ww25 fun ee27 ww28 => ∃ (bytes26a : Option Addr) (bytes26n : Nat) (bytes26c : Nat), ee27 = .returned (.slice bytes26a bytes26n bytes26c) ∧
  R (.slice bytes26a bytes26n bytes26c) ww28

theorem entry_text.up (eWriter1 : Int) (eIndex2 : Int) (ePrev3 : Int) (eAtT4 : Int) (eAtW5 : Int) (eEpoch6 : Int) (eBody7a : Option Addr) (eBody7n : Nat) (eBody7c : Nat) (eSig8 : Int) {R : Value → World → Prop} {w : World} (h : entry_text.N eWriter1 eIndex2 ePrev3 eAtT4 eAtW5 eEpoch6 eBody7a eBody7n eBody7c eSig8 R w) : entry_text.M eWriter1 eIndex2 ePrev3 eAtT4 eAtW5 eEpoch6 eBody7a eBody7n eBody7c eSig8 R w := by
  unfold entry_text.M
  unfold entry_text.N at h
  refine thenW_in fun ww9 e9 => ?_
  have hb1 := Blk.of_new e9
  have hg1 := ((Ext.refl no w)).size
  have hx9 := (Ext.refl no w).x_alloc e9
  refine thenW_in fun ww10 e10 => ?_
  have hl1 := hb1.lt
  have hb1 := hb1.x_alloc e10
  have h := h ww10 ww9.heap.size (w.heap.size) (hx9.x_alloc e10) (Blk.of_new e10) (hx9).size (size_lt_alloc e10) (Privq.cons hg1 hl1 Privq.nil)
  refine ⟨eWriter1, hb1.celli 0 rfl rfl, ?_⟩
  refine ⟨eIndex2, hb1.celli 1 rfl rfl, ?_⟩
  refine ⟨ePrev3, hb1.celli 2 rfl rfl, ?_⟩
  refine thenW_in fun ww13 e13 => ?_
  have hb1 := hb1.x_alloc e13
  have h := h ww13 ww10.heap.size ((Ext.refl no ww10).x_alloc e13) (Blk.of_new e13) ((Ext.refl no ww10)).size (size_lt_alloc e13)
  refine h.mono fun ee15 ww16 h => ?_
  obtain ⟨he, hk, h⟩ := h
  refine ⟨he, ?_⟩
  have hb1 := hk.blk hb1 (by simp)
  refine thenW_in fun ww17 e17 => ?_
  have hx17 := (Ext.refl no ww16).x_drew e17
  have hb1 := hb1.x_drew e17
  obtain ⟨x19a, x19n, x19c, hc18, h⟩ := h
  refine ⟨x19a, x19n, x19c, (hx17).cell hc18 id, ?_⟩
  refine ⟨eAtT4, eAtW5, ⟨hb1.celli 3 rfl rfl, hb1.celli 4 rfl rfl, trivial⟩, ?_⟩
  refine ⟨eEpoch6, hb1.celli 5 rfl rfl, ?_⟩
  have h := h ww17 hx17
  refine h.mono fun ee21 ww22 h => ?_
  obtain ⟨put20a, put20n, put20c, he, hk, h⟩ := h
  refine ⟨put20a, put20n, put20c, he, ?_⟩
  have hb1 := hk.blk hb1 (by simp)
  refine ⟨hb1.celli 5 rfl rfl, ?_⟩
  refine h.mono fun ee24 ww25 h => ?_
  obtain ⟨int23a, int23n, int23c, he, hk, h⟩ := h
  refine ⟨int23a, int23n, int23c, he, ?_⟩
  have hb1 := hk.blk hb1 (by simp)
  refine ⟨eBody7a, eBody7n, eBody7c, hb1.celli 6 rfl rfl, ?_⟩
  refine h.mono fun ee27 ww28 h => ?_
  obtain ⟨bytes26a, bytes26n, bytes26c, he, h⟩ := h
  refine ⟨bytes26a, bytes26n, bytes26c, he, ?_⟩
  exact h

theorem entry_text.go (eWriter1 : Int) (eIndex2 : Int) (ePrev3 : Int) (eAtT4 : Int) (eAtW5 : Int) (eEpoch6 : Int) (eBody7a : Option Addr) (eBody7n : Nat) (eBody7c : Nat) (eSig8 : Int) {R : Value → World → Prop} {w : World} (h : entry_text.N eWriter1 eIndex2 ePrev3 eAtT4 eAtW5 eEpoch6 eBody7a eBody7n eBody7c eSig8 R w) : Calls Try.prog 80 #[.agg #[.int .i64 eWriter1, .int .i64 eIndex2, .int .u64 ePrev3, .int .i64 eAtT4, .int .i64 eAtW5, .int .i64 eEpoch6, .slice eBody7a eBody7n eBody7c, .int .u64 eSig8]] w fun e w' => ∃ v, e = .returned v ∧ R v w' := entry_text.ok eWriter1 eIndex2 ePrev3 eAtT4 eAtW5 eEpoch6 eBody7a eBody7n eBody7c eSig8 (entry_text.up eWriter1 eIndex2 ePrev3 eAtT4 eAtW5 eEpoch6 eBody7a eBody7n eBody7c eSig8 h)
theorem entry_text.run (eWriter1 : Int) (eIndex2 : Int) (ePrev3 : Int) (eAtT4 : Int) (eAtW5 : Int) (eEpoch6 : Int) (eBody7a : Option Addr) (eBody7n : Nat) (eBody7c : Nat) (eSig8 : Int) {V : Value} {Q : World → Prop} {w : World} (h : entry_text.N eWriter1 eIndex2 ePrev3 eAtT4 eAtW5 eEpoch6 eBody7a eBody7n eBody7c eSig8 (fun v w' => v = V ∧ Q w') w) : Calls Try.prog 80 #[.agg #[.int .i64 eWriter1, .int .i64 eIndex2, .int .u64 ePrev3, .int .i64 eAtT4, .int .i64 eAtW5, .int .i64 eEpoch6, .slice eBody7a eBody7n eBody7c, .int .u64 eSig8]] w (Ret V Q) := (entry_text.go eWriter1 eIndex2 ePrev3 eAtT4 eAtW5 eEpoch6 eBody7a eBody7n eBody7c eSig8 h).mono fun e w' ⟨v, he, hv, hq⟩ => ⟨by rw [he, hv], hq⟩

/-- entry.Text -/
def entry_Text.M (eWriter1 : Int) (eIndex2 : Int) (ePrev3 : Int) (eAtT4 : Int) (eAtW5 : Int) (eEpoch6 : Int) (eBody7a : Option Addr) (eBody7n : Nat) (eBody7c : Nat) (eSig8 : Int) (R : Value → World → Prop) (w : World) : Prop :=
  thenW (w.alloc (.cells #[.int .i64 eWriter1, .int .i64 eIndex2, .int .u64 ePrev3, .int .i64 eAtT4, .int .i64 eAtW5, .int .i64 eEpoch6, .slice eBody7a eBody7n eBody7c, .int .u64 eSig8] 28)) fun ww9 =>
  ∃ (xWriter10 : Int) (xIndex11 : Int) (xPrev12 : Int) (xAtT13 : Int) (xAtW14 : Int) (xEpoch15 : Int) (xBody16a : Option Addr) (xBody16n : Nat) (xBody16c : Nat) (xSig17 : Int), cellsAt ww9 (blk w.heap.size) [.int .i64 xWriter10, .int .i64 xIndex11, .int .u64 xPrev12, .int .i64 xAtT13, .int .i64 xAtW14, .int .i64 xEpoch15, .slice xBody16a xBody16n xBody16c, .int .u64 xSig17] 0 ∧
  Calls Try.prog 71 #[.agg #[.int .i64 xWriter10, .int .i64 xIndex11, .int .u64 xPrev12, .int .i64 xAtT13, .int .i64 xAtW14, .int .i64 xEpoch15, .slice xBody16a xBody16n xBody16c, .int .u64 xSig17]] ww9 fun ee19 ww20 => ∃ (right18 : Bool), ee19 = .returned (.bool right18) ∧
  bif !right18 then (
  R (.tuple #[.slice none 0 0, .int .i64 1]) ww20) else (
  ∃ (xWriter21 : Int) (xIndex22 : Int) (xPrev23 : Int) (xAtT24 : Int) (xAtW25 : Int) (xEpoch26 : Int) (xBody27a : Option Addr) (xBody27n : Nat) (xBody27c : Nat) (xSig28 : Int), cellsAt ww20 (blk w.heap.size) [.int .i64 xWriter21, .int .i64 xIndex22, .int .u64 xPrev23, .int .i64 xAtT24, .int .i64 xAtW25, .int .i64 xEpoch26, .slice xBody27a xBody27n xBody27c, .int .u64 xSig28] 0 ∧
  Calls Try.prog 80 #[.agg #[.int .i64 xWriter21, .int .i64 xIndex22, .int .u64 xPrev23, .int .i64 xAtT24, .int .i64 xAtW25, .int .i64 xEpoch26, .slice xBody27a xBody27n xBody27c, .int .u64 xSig28]] ww20 fun ee30 ww31 => ∃ (text29a : Option Addr) (text29n : Nat) (text29c : Nat), ee30 = .returned (.slice text29a text29n text29c) ∧
  R (.tuple #[.slice text29a text29n text29c, .int .i64 0]) ww31)

theorem entry_Text.eq (eWriter1 : Int) (eIndex2 : Int) (ePrev3 : Int) (eAtT4 : Int) (eAtW5 : Int) (eEpoch6 : Int) (eBody7a : Option Addr) (eBody7n : Nat) (eBody7c : Nat) (eSig8 : Int) (R : Value → World → Prop) (w : World) : mfunc Try.prog [] 47 [.agg #[.int .i64 eWriter1, .int .i64 eIndex2, .int .u64 ePrev3, .int .i64 eAtT4, .int .i64 eAtW5, .int .i64 eEpoch6, .slice eBody7a eBody7n eBody7c, .int .u64 eSig8]] R w = entry_Text.M eWriter1 eIndex2 ePrev3 eAtT4 eAtW5 eEpoch6 eBody7a eBody7n eBody7c eSig8 R w := by kernel_rfl
theorem entry_Text.ok (eWriter1 : Int) (eIndex2 : Int) (ePrev3 : Int) (eAtT4 : Int) (eAtW5 : Int) (eEpoch6 : Int) (eBody7a : Option Addr) (eBody7n : Nat) (eBody7c : Nat) (eSig8 : Int) {R : Value → World → Prop} {w : World} (h : entry_Text.M eWriter1 eIndex2 ePrev3 eAtT4 eAtW5 eEpoch6 eBody7a eBody7n eBody7c eSig8 R w) : Calls Try.prog 47 #[.agg #[.int .i64 eWriter1, .int .i64 eIndex2, .int .u64 ePrev3, .int .i64 eAtT4, .int .i64 eAtW5, .int .i64 eEpoch6, .slice eBody7a eBody7n eBody7c, .int .u64 eSig8]] w fun e w' => ∃ v, e = .returned v ∧ R v w' :=
  mfunc_ok follows (H := []) (args := [.agg #[.int .i64 eWriter1, .int .i64 eIndex2, .int .u64 ePrev3, .int .i64 eAtT4, .int .i64 eAtW5, .int .i64 eEpoch6, .slice eBody7a eBody7n eBody7c, .int .u64 eSig8]]) (by rw [entry_Text.eq]; exact h)

def entry_Text.N (eWriter1 : Int) (eIndex2 : Int) (ePrev3 : Int) (eAtT4 : Int) (eAtW5 : Int) (eEpoch6 : Int) (eBody7a : Option Addr) (eBody7n : Nat) (eBody7c : Nat) (eSig8 : Int) (R : Value → World → Prop) (w : World) : Prop :=
  ((entry_Right.F eWriter1 eIndex2 ePrev3 eAtT4 eAtW5 eEpoch6 eBody7a eBody7n eBody7c eSig8) = false →
    ∀ (ww10 : World), Ext no w ww10 →
    R (.tuple #[.slice none 0 0, .int .i64 1]) ww10) ∧
  ((entry_Right.F eWriter1 eIndex2 ePrev3 eAtT4 eAtW5 eEpoch6 eBody7a eBody7n eBody7c eSig8) = true →
    ∀ (ww10 : World), Ext no w ww10 →
    Calls Try.prog 80 #[.agg #[.int .i64 eWriter1, .int .i64 eIndex2, .int .u64 ePrev3, .int .i64 eAtT4, .int .i64 eAtW5, .int .i64 eEpoch6, .slice eBody7a eBody7n eBody7c, .int .u64 eSig8]] ww10 fun ee15 ww16 => ∃ (text14a : Option Addr) (text14n : Nat) (text14c : Nat), ee15 = .returned (.slice text14a text14n text14c) ∧
    R (.tuple #[.slice text14a text14n text14c, .int .i64 0]) ww16)

theorem entry_Text.up (eWriter1 : Int) (eIndex2 : Int) (ePrev3 : Int) (eAtT4 : Int) (eAtW5 : Int) (eEpoch6 : Int) (eBody7a : Option Addr) (eBody7n : Nat) (eBody7c : Nat) (eSig8 : Int) {R : Value → World → Prop} {w : World} (h : entry_Text.N eWriter1 eIndex2 ePrev3 eAtT4 eAtW5 eEpoch6 eBody7a eBody7n eBody7c eSig8 R w) : entry_Text.M eWriter1 eIndex2 ePrev3 eAtT4 eAtW5 eEpoch6 eBody7a eBody7n eBody7c eSig8 R w := by
  unfold entry_Text.M
  unfold entry_Text.N at h
  refine thenW_in fun ww9 e9 => ?_
  have hb1 := Blk.of_new e9
  have hg1 := ((Ext.refl no w)).size
  have hx9 := (Ext.refl no w).x_alloc e9
  refine ⟨eWriter1, eIndex2, ePrev3, eAtT4, eAtW5, eEpoch6, eBody7a, eBody7n, eBody7c, eSig8, ⟨hb1.celli 0 rfl rfl, hb1.celli 1 rfl rfl, hb1.celli 2 rfl rfl, hb1.celli 3 rfl rfl, hb1.celli 4 rfl rfl, hb1.celli 5 rfl rfl, hb1.celli 6 rfl rfl, hb1.celli 7 rfl rfl, trivial⟩, ?_⟩
  refine (entry_Right.pure eWriter1 eIndex2 ePrev3 eAtT4 eAtW5 eEpoch6 eBody7a eBody7n eBody7c eSig8).mono fun ee ww10 ⟨he, hxx⟩ => ⟨(entry_Right.F eWriter1 eIndex2 ePrev3 eAtT4 eAtW5 eEpoch6 eBody7a eBody7n eBody7c eSig8), he, ?_⟩
  have hx10 := hx9.trans hxx
  have hb1 := hb1.ext hxx id
  refine bif_of (fun c11 => ?_) (fun c11 => ?_)
  · have h := h.1 (not_t c11)
    have h := h ww10 hx10
    exact h
  · have h := h.2 (not_f c11)
    refine ⟨eWriter1, eIndex2, ePrev3, eAtT4, eAtW5, eEpoch6, eBody7a, eBody7n, eBody7c, eSig8, ⟨hb1.celli 0 rfl rfl, hb1.celli 1 rfl rfl, hb1.celli 2 rfl rfl, hb1.celli 3 rfl rfl, hb1.celli 4 rfl rfl, hb1.celli 5 rfl rfl, hb1.celli 6 rfl rfl, hb1.celli 7 rfl rfl, trivial⟩, ?_⟩
    have h := h ww10 hx10
    refine h.mono fun ee15 ww16 h => ?_
    obtain ⟨text14a, text14n, text14c, he, h⟩ := h
    refine ⟨text14a, text14n, text14c, he, ?_⟩
    exact h

theorem entry_Text.go (eWriter1 : Int) (eIndex2 : Int) (ePrev3 : Int) (eAtT4 : Int) (eAtW5 : Int) (eEpoch6 : Int) (eBody7a : Option Addr) (eBody7n : Nat) (eBody7c : Nat) (eSig8 : Int) {R : Value → World → Prop} {w : World} (h : entry_Text.N eWriter1 eIndex2 ePrev3 eAtT4 eAtW5 eEpoch6 eBody7a eBody7n eBody7c eSig8 R w) : Calls Try.prog 47 #[.agg #[.int .i64 eWriter1, .int .i64 eIndex2, .int .u64 ePrev3, .int .i64 eAtT4, .int .i64 eAtW5, .int .i64 eEpoch6, .slice eBody7a eBody7n eBody7c, .int .u64 eSig8]] w fun e w' => ∃ v, e = .returned v ∧ R v w' := entry_Text.ok eWriter1 eIndex2 ePrev3 eAtT4 eAtW5 eEpoch6 eBody7a eBody7n eBody7c eSig8 (entry_Text.up eWriter1 eIndex2 ePrev3 eAtT4 eAtW5 eEpoch6 eBody7a eBody7n eBody7c eSig8 h)
theorem entry_Text.run (eWriter1 : Int) (eIndex2 : Int) (ePrev3 : Int) (eAtT4 : Int) (eAtW5 : Int) (eEpoch6 : Int) (eBody7a : Option Addr) (eBody7n : Nat) (eBody7c : Nat) (eSig8 : Int) {V : Value} {Q : World → Prop} {w : World} (h : entry_Text.N eWriter1 eIndex2 ePrev3 eAtT4 eAtW5 eEpoch6 eBody7a eBody7n eBody7c eSig8 (fun v w' => v = V ∧ Q w') w) : Calls Try.prog 47 #[.agg #[.int .i64 eWriter1, .int .i64 eIndex2, .int .u64 ePrev3, .int .i64 eAtT4, .int .i64 eAtW5, .int .i64 eEpoch6, .slice eBody7a eBody7n eBody7c, .int .u64 eSig8]] w (Ret V Q) := (entry_Text.go eWriter1 eIndex2 ePrev3 eAtT4 eAtW5 eEpoch6 eBody7a eBody7n eBody7c eSig8 h).mono fun e w' ⟨v, he, hv, hq⟩ => ⟨by rw [he, hv], hq⟩

/-- entry.Bytes -/
def entry_Bytes.M (eWriter1 : Int) (eIndex2 : Int) (ePrev3 : Int) (eAtT4 : Int) (eAtW5 : Int) (eEpoch6 : Int) (eBody7a : Option Addr) (eBody7n : Nat) (eBody7c : Nat) (eSig8 : Int) (R : Value → World → Prop) (w : World) : Prop :=
  thenW (w.alloc (.cells #[.int .i64 eWriter1, .int .i64 eIndex2, .int .u64 ePrev3, .int .i64 eAtT4, .int .i64 eAtW5, .int .i64 eEpoch6, .slice eBody7a eBody7n eBody7c, .int .u64 eSig8] 28)) fun ww9 =>
  ∃ (xWriter10 : Int) (xIndex11 : Int) (xPrev12 : Int) (xAtT13 : Int) (xAtW14 : Int) (xEpoch15 : Int) (xBody16a : Option Addr) (xBody16n : Nat) (xBody16c : Nat) (xSig17 : Int), cellsAt ww9 (blk w.heap.size) [.int .i64 xWriter10, .int .i64 xIndex11, .int .u64 xPrev12, .int .i64 xAtT13, .int .i64 xAtW14, .int .i64 xEpoch15, .slice xBody16a xBody16n xBody16c, .int .u64 xSig17] 0 ∧
  Calls Try.prog 71 #[.agg #[.int .i64 xWriter10, .int .i64 xIndex11, .int .u64 xPrev12, .int .i64 xAtT13, .int .i64 xAtW14, .int .i64 xEpoch15, .slice xBody16a xBody16n xBody16c, .int .u64 xSig17]] ww9 fun ee19 ww20 => ∃ (right18 : Bool), ee19 = .returned (.bool right18) ∧
  bif !right18 then (
  R (.tuple #[.slice none 0 0, .int .i64 1]) ww20) else (
  thenW (ww20.drew) fun ww21 =>
  ∃ (xWriter22 : Int) (xIndex23 : Int) (xPrev24 : Int) (xAtT25 : Int) (xAtW26 : Int) (xEpoch27 : Int) (xBody28a : Option Addr) (xBody28n : Nat) (xBody28c : Nat) (xSig29 : Int), cellsAt ww21 (blk w.heap.size) [.int .i64 xWriter22, .int .i64 xIndex23, .int .u64 xPrev24, .int .i64 xAtT25, .int .i64 xAtW26, .int .i64 xEpoch27, .slice xBody28a xBody28n xBody28c, .int .u64 xSig29] 0 ∧
  ∃ (Sig30 : Int), ww21.cell? ((blk w.heap.size).add 7) = some (.int .u64 Sig30) ∧
  Calls Try.prog 80 #[.agg #[.int .i64 xWriter22, .int .i64 xIndex23, .int .u64 xPrev24, .int .i64 xAtT25, .int .i64 xAtW26, .int .i64 xEpoch27, .slice xBody28a xBody28n xBody28c, .int .u64 xSig29]] ww21 fun ee32 ww33 => ∃ (text31a : Option Addr) (text31n : Nat) (text31c : Nat), ee32 = .returned (.slice text31a text31n text31c) ∧
  ww33.cell? ((blk w.heap.size).add 7) = some (.int .u64 Sig30) ∧
  Calls Try.prog 62 #[.slice text31a text31n text31c, .int .u64 Sig30] ww33 fun ee35 ww36 => ∃ (num34a : Option Addr) (num34n : Nat) (num34c : Nat), ee35 = .returned (.slice num34a num34n num34c) ∧
  R (.tuple #[.slice num34a num34n num34c, .int .i64 0]) ww36)

theorem entry_Bytes.eq (eWriter1 : Int) (eIndex2 : Int) (ePrev3 : Int) (eAtT4 : Int) (eAtW5 : Int) (eEpoch6 : Int) (eBody7a : Option Addr) (eBody7n : Nat) (eBody7c : Nat) (eSig8 : Int) (R : Value → World → Prop) (w : World) : mfunc Try.prog [] 109 [.agg #[.int .i64 eWriter1, .int .i64 eIndex2, .int .u64 ePrev3, .int .i64 eAtT4, .int .i64 eAtW5, .int .i64 eEpoch6, .slice eBody7a eBody7n eBody7c, .int .u64 eSig8]] R w = entry_Bytes.M eWriter1 eIndex2 ePrev3 eAtT4 eAtW5 eEpoch6 eBody7a eBody7n eBody7c eSig8 R w := by kernel_rfl
theorem entry_Bytes.ok (eWriter1 : Int) (eIndex2 : Int) (ePrev3 : Int) (eAtT4 : Int) (eAtW5 : Int) (eEpoch6 : Int) (eBody7a : Option Addr) (eBody7n : Nat) (eBody7c : Nat) (eSig8 : Int) {R : Value → World → Prop} {w : World} (h : entry_Bytes.M eWriter1 eIndex2 ePrev3 eAtT4 eAtW5 eEpoch6 eBody7a eBody7n eBody7c eSig8 R w) : Calls Try.prog 109 #[.agg #[.int .i64 eWriter1, .int .i64 eIndex2, .int .u64 ePrev3, .int .i64 eAtT4, .int .i64 eAtW5, .int .i64 eEpoch6, .slice eBody7a eBody7n eBody7c, .int .u64 eSig8]] w fun e w' => ∃ v, e = .returned v ∧ R v w' :=
  mfunc_ok follows (H := []) (args := [.agg #[.int .i64 eWriter1, .int .i64 eIndex2, .int .u64 ePrev3, .int .i64 eAtT4, .int .i64 eAtW5, .int .i64 eEpoch6, .slice eBody7a eBody7n eBody7c, .int .u64 eSig8]]) (by rw [entry_Bytes.eq]; exact h)

def entry_Bytes.N (eWriter1 : Int) (eIndex2 : Int) (ePrev3 : Int) (eAtT4 : Int) (eAtW5 : Int) (eEpoch6 : Int) (eBody7a : Option Addr) (eBody7n : Nat) (eBody7c : Nat) (eSig8 : Int) (R : Value → World → Prop) (w : World) : Prop :=
  ((entry_Right.F eWriter1 eIndex2 ePrev3 eAtT4 eAtW5 eEpoch6 eBody7a eBody7n eBody7c eSig8) = false →
    ∀ (ww10 : World), Ext no w ww10 →
    R (.tuple #[.slice none 0 0, .int .i64 1]) ww10) ∧
  ((entry_Right.F eWriter1 eIndex2 ePrev3 eAtT4 eAtW5 eEpoch6 eBody7a eBody7n eBody7c eSig8) = true →
    ∀ (ww13 : World) (p14 : Nat), Ext no w ww13 → Priv w ww13 [p14] →
    Calls Try.prog 80 #[.agg #[.int .i64 eWriter1, .int .i64 eIndex2, .int .u64 ePrev3, .int .i64 eAtT4, .int .i64 eAtW5, .int .i64 eEpoch6, .slice eBody7a eBody7n eBody7c, .int .u64 eSig8]] ww13 fun ee16 ww17 => ∃ (text15a : Option Addr) (text15n : Nat) (text15c : Nat), ee16 = .returned (.slice text15a text15n text15c) ∧
    Keep [p14] ww13 ww17 ∧
    Calls Try.prog 62 #[.slice text15a text15n text15c, .int .u64 eSig8] ww17 fun ee19 ww20 => ∃ (num18a : Option Addr) (num18n : Nat) (num18c : Nat), ee19 = .returned (.slice num18a num18n num18c) ∧
    R (.tuple #[.slice num18a num18n num18c, .int .i64 0]) ww20)

theorem entry_Bytes.up (eWriter1 : Int) (eIndex2 : Int) (ePrev3 : Int) (eAtT4 : Int) (eAtW5 : Int) (eEpoch6 : Int) (eBody7a : Option Addr) (eBody7n : Nat) (eBody7c : Nat) (eSig8 : Int) {R : Value → World → Prop} {w : World} (h : entry_Bytes.N eWriter1 eIndex2 ePrev3 eAtT4 eAtW5 eEpoch6 eBody7a eBody7n eBody7c eSig8 R w) : entry_Bytes.M eWriter1 eIndex2 ePrev3 eAtT4 eAtW5 eEpoch6 eBody7a eBody7n eBody7c eSig8 R w := by
  unfold entry_Bytes.M
  unfold entry_Bytes.N at h
  refine thenW_in fun ww9 e9 => ?_
  have hb1 := Blk.of_new e9
  have hg1 := ((Ext.refl no w)).size
  have hx9 := (Ext.refl no w).x_alloc e9
  refine ⟨eWriter1, eIndex2, ePrev3, eAtT4, eAtW5, eEpoch6, eBody7a, eBody7n, eBody7c, eSig8, ⟨hb1.celli 0 rfl rfl, hb1.celli 1 rfl rfl, hb1.celli 2 rfl rfl, hb1.celli 3 rfl rfl, hb1.celli 4 rfl rfl, hb1.celli 5 rfl rfl, hb1.celli 6 rfl rfl, hb1.celli 7 rfl rfl, trivial⟩, ?_⟩
  refine (entry_Right.pure eWriter1 eIndex2 ePrev3 eAtT4 eAtW5 eEpoch6 eBody7a eBody7n eBody7c eSig8).mono fun ee ww10 ⟨he, hxx⟩ => ⟨(entry_Right.F eWriter1 eIndex2 ePrev3 eAtT4 eAtW5 eEpoch6 eBody7a eBody7n eBody7c eSig8), he, ?_⟩
  have hx10 := hx9.trans hxx
  have hb1 := hb1.ext hxx id
  refine bif_of (fun c11 => ?_) (fun c11 => ?_)
  · have h := h.1 (not_t c11)
    have h := h ww10 hx10
    exact h
  · have h := h.2 (not_f c11)
    refine thenW_in fun ww13 e13 => ?_
    have hx13 := hx10.x_drew e13
    have hb1 := hb1.x_drew e13
    refine ⟨eWriter1, eIndex2, ePrev3, eAtT4, eAtW5, eEpoch6, eBody7a, eBody7n, eBody7c, eSig8, ⟨hb1.celli 0 rfl rfl, hb1.celli 1 rfl rfl, hb1.celli 2 rfl rfl, hb1.celli 3 rfl rfl, hb1.celli 4 rfl rfl, hb1.celli 5 rfl rfl, hb1.celli 6 rfl rfl, hb1.celli 7 rfl rfl, trivial⟩, ?_⟩
    refine ⟨eSig8, hb1.celli 7 rfl rfl, ?_⟩
    have h := h ww13 (w.heap.size) hx13 (Priv.cons hg1 hb1.lt Priv.nil)
    refine h.mono fun ee16 ww17 h => ?_
    obtain ⟨text15a, text15n, text15c, he, hk, h⟩ := h
    refine ⟨text15a, text15n, text15c, he, ?_⟩
    have hb1 := hk.blk hb1 (by simp)
    refine ⟨hb1.celli 7 rfl rfl, ?_⟩
    refine h.mono fun ee19 ww20 h => ?_
    obtain ⟨num18a, num18n, num18c, he, h⟩ := h
    refine ⟨num18a, num18n, num18c, he, ?_⟩
    exact h

theorem entry_Bytes.go (eWriter1 : Int) (eIndex2 : Int) (ePrev3 : Int) (eAtT4 : Int) (eAtW5 : Int) (eEpoch6 : Int) (eBody7a : Option Addr) (eBody7n : Nat) (eBody7c : Nat) (eSig8 : Int) {R : Value → World → Prop} {w : World} (h : entry_Bytes.N eWriter1 eIndex2 ePrev3 eAtT4 eAtW5 eEpoch6 eBody7a eBody7n eBody7c eSig8 R w) : Calls Try.prog 109 #[.agg #[.int .i64 eWriter1, .int .i64 eIndex2, .int .u64 ePrev3, .int .i64 eAtT4, .int .i64 eAtW5, .int .i64 eEpoch6, .slice eBody7a eBody7n eBody7c, .int .u64 eSig8]] w fun e w' => ∃ v, e = .returned v ∧ R v w' := entry_Bytes.ok eWriter1 eIndex2 ePrev3 eAtT4 eAtW5 eEpoch6 eBody7a eBody7n eBody7c eSig8 (entry_Bytes.up eWriter1 eIndex2 ePrev3 eAtT4 eAtW5 eEpoch6 eBody7a eBody7n eBody7c eSig8 h)
theorem entry_Bytes.run (eWriter1 : Int) (eIndex2 : Int) (ePrev3 : Int) (eAtT4 : Int) (eAtW5 : Int) (eEpoch6 : Int) (eBody7a : Option Addr) (eBody7n : Nat) (eBody7c : Nat) (eSig8 : Int) {V : Value} {Q : World → Prop} {w : World} (h : entry_Bytes.N eWriter1 eIndex2 ePrev3 eAtT4 eAtW5 eEpoch6 eBody7a eBody7n eBody7c eSig8 (fun v w' => v = V ∧ Q w') w) : Calls Try.prog 109 #[.agg #[.int .i64 eWriter1, .int .i64 eIndex2, .int .u64 ePrev3, .int .i64 eAtT4, .int .i64 eAtW5, .int .i64 eEpoch6, .slice eBody7a eBody7n eBody7c, .int .u64 eSig8]] w (Ret V Q) := (entry_Bytes.go eWriter1 eIndex2 ePrev3 eAtT4 eAtW5 eEpoch6 eBody7a eBody7n eBody7c eSig8 h).mono fun e w' ⟨v, he, hv, hq⟩ => ⟨by rw [he, hv], hq⟩

/-- entry.Same -/
def entry_Same.M (aWriter1 : Int) (aIndex2 : Int) (aPrev3 : Int) (aAtT4 : Int) (aAtW5 : Int) (aEpoch6 : Int) (aBody7a : Option Addr) (aBody7n : Nat) (aBody7c : Nat) (aSig8 : Int) (bWriter9 : Int) (bIndex10 : Int) (bPrev11 : Int) (bAtT12 : Int) (bAtW13 : Int) (bEpoch14 : Int) (bBody15a : Option Addr) (bBody15n : Nat) (bBody15c : Nat) (bSig16 : Int) (R : Value → World → Prop) (w : World) : Prop :=
  thenW (w.alloc (.cells #[.int .i64 aWriter1, .int .i64 aIndex2, .int .u64 aPrev3, .int .i64 aAtT4, .int .i64 aAtW5, .int .i64 aEpoch6, .slice aBody7a aBody7n aBody7c, .int .u64 aSig8] 28)) fun ww17 =>
  thenW (ww17.alloc (.cells #[.int .i64 bWriter9, .int .i64 bIndex10, .int .u64 bPrev11, .int .i64 bAtT12, .int .i64 bAtW13, .int .i64 bEpoch14, .slice bBody15a bBody15n bBody15c, .int .u64 bSig16] 28)) fun ww18 =>
  thenW (ww18.drew) fun ww19 =>
  ∃ (Body20a : Option Addr) (Body20n : Nat) (Body20c : Nat), ww19.cell? ((blk w.heap.size).add 6) = some (.slice Body20a Body20n Body20c) ∧
  ∃ (Body21a : Option Addr) (Body21n : Nat) (Body21c : Nat), ww19.cell? ((blk ww17.heap.size).add 6) = some (.slice Body21a Body21n Body21c) ∧
  Calls Try.prog 86 #[.slice Body20a Body20n Body20c, .slice Body21a Body21n Body21c] ww19 fun ee23 ww24 => ∃ (equal22 : Bool), ee23 = .returned (.bool equal22) ∧
  bif equal22 then (
  ∃ (Writer25 : Int), ww24.cell? ((blk w.heap.size).add 0) = some (.int .i64 Writer25) ∧
  ∃ (Writer26 : Int), ww24.cell? ((blk ww17.heap.size).add 0) = some (.int .i64 Writer26) ∧
  bif Writer25 == Writer26 then (
  ∃ (Index27 : Int), ww24.cell? ((blk w.heap.size).add 1) = some (.int .i64 Index27) ∧
  ∃ (Index28 : Int), ww24.cell? ((blk ww17.heap.size).add 1) = some (.int .i64 Index28) ∧
  bif Index27 == Index28 then (
  ∃ (Prev29 : Int), ww24.cell? ((blk w.heap.size).add 2) = some (.int .u64 Prev29) ∧
  ∃ (Prev30 : Int), ww24.cell? ((blk ww17.heap.size).add 2) = some (.int .u64 Prev30) ∧
  bif Prev29 == Prev30 then (
  ∃ (AtT31 : Int) (AtW32 : Int), cellsAt ww24 ((blk w.heap.size).add 3) [.int .i64 AtT31, .int .i64 AtW32] 0 ∧
  ∃ (AtT33 : Int) (AtW34 : Int), cellsAt ww24 ((blk ww17.heap.size).add 3) [.int .i64 AtT33, .int .i64 AtW34] 0 ∧
  ∃ (b35 : Bool), (binOp .eql 25 (.agg #[.int .i64 AtT31, .int .i64 AtW32]) (.agg #[.int .i64 AtT33, .int .i64 AtW34])).run Try.prog ww24 = .ok (.bool b35) ww24 ∧
  bif b35 then (
  ∃ (Epoch36 : Int), ww24.cell? ((blk w.heap.size).add 5) = some (.int .i64 Epoch36) ∧
  ∃ (Epoch37 : Int), ww24.cell? ((blk ww17.heap.size).add 5) = some (.int .i64 Epoch37) ∧
  bif Epoch36 == Epoch37 then (
  ∃ (Sig38 : Int), ww24.cell? ((blk w.heap.size).add 7) = some (.int .u64 Sig38) ∧
  ∃ (Sig39 : Int), ww24.cell? ((blk ww17.heap.size).add 7) = some (.int .u64 Sig39) ∧
  R (.bool (Sig38 == Sig39)) ww24) else (
  R (.bool false) ww24)) else (
  R (.bool false) ww24)) else (
  R (.bool false) ww24)) else (
  R (.bool false) ww24)) else (
  R (.bool false) ww24)) else (
  R (.bool false) ww24)

theorem entry_Same.eq (aWriter1 : Int) (aIndex2 : Int) (aPrev3 : Int) (aAtT4 : Int) (aAtW5 : Int) (aEpoch6 : Int) (aBody7a : Option Addr) (aBody7n : Nat) (aBody7c : Nat) (aSig8 : Int) (bWriter9 : Int) (bIndex10 : Int) (bPrev11 : Int) (bAtT12 : Int) (bAtW13 : Int) (bEpoch14 : Int) (bBody15a : Option Addr) (bBody15n : Nat) (bBody15c : Nat) (bSig16 : Int) (R : Value → World → Prop) (w : World) : mfunc Try.prog [] 59 [.agg #[.int .i64 aWriter1, .int .i64 aIndex2, .int .u64 aPrev3, .int .i64 aAtT4, .int .i64 aAtW5, .int .i64 aEpoch6, .slice aBody7a aBody7n aBody7c, .int .u64 aSig8], .agg #[.int .i64 bWriter9, .int .i64 bIndex10, .int .u64 bPrev11, .int .i64 bAtT12, .int .i64 bAtW13, .int .i64 bEpoch14, .slice bBody15a bBody15n bBody15c, .int .u64 bSig16]] R w = entry_Same.M aWriter1 aIndex2 aPrev3 aAtT4 aAtW5 aEpoch6 aBody7a aBody7n aBody7c aSig8 bWriter9 bIndex10 bPrev11 bAtT12 bAtW13 bEpoch14 bBody15a bBody15n bBody15c bSig16 R w := by kernel_rfl
theorem entry_Same.ok (aWriter1 : Int) (aIndex2 : Int) (aPrev3 : Int) (aAtT4 : Int) (aAtW5 : Int) (aEpoch6 : Int) (aBody7a : Option Addr) (aBody7n : Nat) (aBody7c : Nat) (aSig8 : Int) (bWriter9 : Int) (bIndex10 : Int) (bPrev11 : Int) (bAtT12 : Int) (bAtW13 : Int) (bEpoch14 : Int) (bBody15a : Option Addr) (bBody15n : Nat) (bBody15c : Nat) (bSig16 : Int) {R : Value → World → Prop} {w : World} (h : entry_Same.M aWriter1 aIndex2 aPrev3 aAtT4 aAtW5 aEpoch6 aBody7a aBody7n aBody7c aSig8 bWriter9 bIndex10 bPrev11 bAtT12 bAtW13 bEpoch14 bBody15a bBody15n bBody15c bSig16 R w) : Calls Try.prog 59 #[.agg #[.int .i64 aWriter1, .int .i64 aIndex2, .int .u64 aPrev3, .int .i64 aAtT4, .int .i64 aAtW5, .int .i64 aEpoch6, .slice aBody7a aBody7n aBody7c, .int .u64 aSig8], .agg #[.int .i64 bWriter9, .int .i64 bIndex10, .int .u64 bPrev11, .int .i64 bAtT12, .int .i64 bAtW13, .int .i64 bEpoch14, .slice bBody15a bBody15n bBody15c, .int .u64 bSig16]] w fun e w' => ∃ v, e = .returned v ∧ R v w' :=
  mfunc_ok follows (H := []) (args := [.agg #[.int .i64 aWriter1, .int .i64 aIndex2, .int .u64 aPrev3, .int .i64 aAtT4, .int .i64 aAtW5, .int .i64 aEpoch6, .slice aBody7a aBody7n aBody7c, .int .u64 aSig8], .agg #[.int .i64 bWriter9, .int .i64 bIndex10, .int .u64 bPrev11, .int .i64 bAtT12, .int .i64 bAtW13, .int .i64 bEpoch14, .slice bBody15a bBody15n bBody15c, .int .u64 bSig16]]) (by rw [entry_Same.eq]; exact h)

def entry_Same.N (aWriter1 : Int) (aIndex2 : Int) (aPrev3 : Int) (aAtT4 : Int) (aAtW5 : Int) (aEpoch6 : Int) (aBody7a : Option Addr) (aBody7n : Nat) (aBody7c : Nat) (aSig8 : Int) (bWriter9 : Int) (bIndex10 : Int) (bPrev11 : Int) (bAtT12 : Int) (bAtW13 : Int) (bEpoch14 : Int) (bBody15a : Option Addr) (bBody15n : Nat) (bBody15c : Nat) (bSig16 : Int) (R : Value → World → Prop) (w : World) : Prop :=
  ∀ (ww19 : World) (p20 : Nat) (p21 : Nat), Ext no w ww19 → Priv w ww19 [p20, p21] →
  Calls Try.prog 86 #[.slice aBody7a aBody7n aBody7c, .slice bBody15a bBody15n bBody15c] ww19 fun ee23 ww24 => ∃ (equal22 : Bool), ee23 = .returned (.bool equal22) ∧
  Keep [p20, p21] ww19 ww24 ∧
  (equal22 = true →
    (aWriter1 = bWriter9 →
      (aIndex2 = bIndex10 →
        (aPrev3 = bPrev11 →
          (aAtT4 = bAtT12 ∧ aAtW5 = bAtW13 →
            (aEpoch6 = bEpoch14 →
              R (.bool (aSig8 == bSig16)) ww24) ∧
            (aEpoch6 ≠ bEpoch14 →
              R (.bool false) ww24)) ∧
          (¬ (aAtT4 = bAtT12 ∧ aAtW5 = bAtW13) →
            R (.bool false) ww24)) ∧
        (aPrev3 ≠ bPrev11 →
          R (.bool false) ww24)) ∧
      (aIndex2 ≠ bIndex10 →
        R (.bool false) ww24)) ∧
    (aWriter1 ≠ bWriter9 →
      R (.bool false) ww24)) ∧
  (equal22 = false →
    R (.bool false) ww24)

theorem entry_Same.up (aWriter1 : Int) (aIndex2 : Int) (aPrev3 : Int) (aAtT4 : Int) (aAtW5 : Int) (aEpoch6 : Int) (aBody7a : Option Addr) (aBody7n : Nat) (aBody7c : Nat) (aSig8 : Int) (bWriter9 : Int) (bIndex10 : Int) (bPrev11 : Int) (bAtT12 : Int) (bAtW13 : Int) (bEpoch14 : Int) (bBody15a : Option Addr) (bBody15n : Nat) (bBody15c : Nat) (bSig16 : Int) {R : Value → World → Prop} {w : World} (h : entry_Same.N aWriter1 aIndex2 aPrev3 aAtT4 aAtW5 aEpoch6 aBody7a aBody7n aBody7c aSig8 bWriter9 bIndex10 bPrev11 bAtT12 bAtW13 bEpoch14 bBody15a bBody15n bBody15c bSig16 R w) : entry_Same.M aWriter1 aIndex2 aPrev3 aAtT4 aAtW5 aEpoch6 aBody7a aBody7n aBody7c aSig8 bWriter9 bIndex10 bPrev11 bAtT12 bAtW13 bEpoch14 bBody15a bBody15n bBody15c bSig16 R w := by
  unfold entry_Same.M
  unfold entry_Same.N at h
  refine thenW_in fun ww17 e17 => ?_
  have hb1 := Blk.of_new e17
  have hg1 := ((Ext.refl no w)).size
  have hx17 := (Ext.refl no w).x_alloc e17
  refine thenW_in fun ww18 e18 => ?_
  have hb2 := Blk.of_new e18
  have hg2 := (hx17).size
  have hb1_2 := Nat.ne_of_lt hb1.lt
  have hb1 := hb1.x_alloc e18
  have hx18 := hx17.x_alloc e18
  refine thenW_in fun ww19 e19 => ?_
  have hx19 := hx18.x_drew e19
  have hb1 := hb1.x_drew e19
  have hb2 := hb2.x_drew e19
  refine ⟨aBody7a, aBody7n, aBody7c, hb1.celli 6 rfl rfl, ?_⟩
  refine ⟨bBody15a, bBody15n, bBody15c, hb2.celli 6 rfl rfl, ?_⟩
  have h := h ww19 (w.heap.size) (ww17.heap.size) hx19 (Priv.cons hg1 hb1.lt (Priv.cons hg2 hb2.lt Priv.nil))
  refine h.mono fun ee23 ww24 h => ?_
  obtain ⟨equal22, he, hk, h⟩ := h
  refine ⟨equal22, he, ?_⟩
  have hb1 := hk.blk hb1 (by simp)
  have hb2 := hk.blk hb2 (by simp)
  refine bif_of (fun c25 => ?_) (fun c25 => ?_)
  · have h := h.1 c25
    refine ⟨aWriter1, hb1.celli 0 rfl rfl, ?_⟩
    refine ⟨bWriter9, hb2.celli 0 rfl rfl, ?_⟩
    refine bif_of (fun c26 => ?_) (fun c26 => ?_)
    · have h := h.1 (beq_t c26)
      refine ⟨aIndex2, hb1.celli 1 rfl rfl, ?_⟩
      refine ⟨bIndex10, hb2.celli 1 rfl rfl, ?_⟩
      refine bif_of (fun c27 => ?_) (fun c27 => ?_)
      · have h := h.1 (beq_t c27)
        refine ⟨aPrev3, hb1.celli 2 rfl rfl, ?_⟩
        refine ⟨bPrev11, hb2.celli 2 rfl rfl, ?_⟩
        refine bif_of (fun c28 => ?_) (fun c28 => ?_)
        · have h := h.1 (beq_t c28)
          refine ⟨aAtT4, aAtW5, ⟨hb1.celli 3 rfl rfl, hb1.celli 4 rfl rfl, trivial⟩, ?_⟩
          refine ⟨bAtT12, bAtW13, ⟨hb2.celli 3 rfl rfl, hb2.celli 4 rfl rfl, trivial⟩, ?_⟩
          refine ⟨_, eqT25_eq aAtT4 aAtW5 bAtT12 bAtW13 _, ?_⟩
          refine bif_of (fun c29 => ?_) (fun c29 => ?_)
          · have h := h.1 (of_decide_eq_true c29)
            refine ⟨aEpoch6, hb1.celli 5 rfl rfl, ?_⟩
            refine ⟨bEpoch14, hb2.celli 5 rfl rfl, ?_⟩
            refine bif_of (fun c30 => ?_) (fun c30 => ?_)
            · have h := h.1 (beq_t c30)
              refine ⟨aSig8, hb1.celli 7 rfl rfl, ?_⟩
              refine ⟨bSig16, hb2.celli 7 rfl rfl, ?_⟩
              exact h
            · have h := h.2 (beq_f c30)
              exact h
          · have h := h.2 (of_decide_eq_false c29)
            exact h
        · have h := h.2 (beq_f c28)
          exact h
      · have h := h.2 (beq_f c27)
        exact h
    · have h := h.2 (beq_f c26)
      exact h
  · have h := h.2 c25
    exact h

theorem entry_Same.go (aWriter1 : Int) (aIndex2 : Int) (aPrev3 : Int) (aAtT4 : Int) (aAtW5 : Int) (aEpoch6 : Int) (aBody7a : Option Addr) (aBody7n : Nat) (aBody7c : Nat) (aSig8 : Int) (bWriter9 : Int) (bIndex10 : Int) (bPrev11 : Int) (bAtT12 : Int) (bAtW13 : Int) (bEpoch14 : Int) (bBody15a : Option Addr) (bBody15n : Nat) (bBody15c : Nat) (bSig16 : Int) {R : Value → World → Prop} {w : World} (h : entry_Same.N aWriter1 aIndex2 aPrev3 aAtT4 aAtW5 aEpoch6 aBody7a aBody7n aBody7c aSig8 bWriter9 bIndex10 bPrev11 bAtT12 bAtW13 bEpoch14 bBody15a bBody15n bBody15c bSig16 R w) : Calls Try.prog 59 #[.agg #[.int .i64 aWriter1, .int .i64 aIndex2, .int .u64 aPrev3, .int .i64 aAtT4, .int .i64 aAtW5, .int .i64 aEpoch6, .slice aBody7a aBody7n aBody7c, .int .u64 aSig8], .agg #[.int .i64 bWriter9, .int .i64 bIndex10, .int .u64 bPrev11, .int .i64 bAtT12, .int .i64 bAtW13, .int .i64 bEpoch14, .slice bBody15a bBody15n bBody15c, .int .u64 bSig16]] w fun e w' => ∃ v, e = .returned v ∧ R v w' := entry_Same.ok aWriter1 aIndex2 aPrev3 aAtT4 aAtW5 aEpoch6 aBody7a aBody7n aBody7c aSig8 bWriter9 bIndex10 bPrev11 bAtT12 bAtW13 bEpoch14 bBody15a bBody15n bBody15c bSig16 (entry_Same.up aWriter1 aIndex2 aPrev3 aAtT4 aAtW5 aEpoch6 aBody7a aBody7n aBody7c aSig8 bWriter9 bIndex10 bPrev11 bAtT12 bAtW13 bEpoch14 bBody15a bBody15n bBody15c bSig16 h)
theorem entry_Same.run (aWriter1 : Int) (aIndex2 : Int) (aPrev3 : Int) (aAtT4 : Int) (aAtW5 : Int) (aEpoch6 : Int) (aBody7a : Option Addr) (aBody7n : Nat) (aBody7c : Nat) (aSig8 : Int) (bWriter9 : Int) (bIndex10 : Int) (bPrev11 : Int) (bAtT12 : Int) (bAtW13 : Int) (bEpoch14 : Int) (bBody15a : Option Addr) (bBody15n : Nat) (bBody15c : Nat) (bSig16 : Int) {V : Value} {Q : World → Prop} {w : World} (h : entry_Same.N aWriter1 aIndex2 aPrev3 aAtT4 aAtW5 aEpoch6 aBody7a aBody7n aBody7c aSig8 bWriter9 bIndex10 bPrev11 bAtT12 bAtW13 bEpoch14 bBody15a bBody15n bBody15c bSig16 (fun v w' => v = V ∧ Q w') w) : Calls Try.prog 59 #[.agg #[.int .i64 aWriter1, .int .i64 aIndex2, .int .u64 aPrev3, .int .i64 aAtT4, .int .i64 aAtW5, .int .i64 aEpoch6, .slice aBody7a aBody7n aBody7c, .int .u64 aSig8], .agg #[.int .i64 bWriter9, .int .i64 bIndex10, .int .u64 bPrev11, .int .i64 bAtT12, .int .i64 bAtW13, .int .i64 bEpoch14, .slice bBody15a bBody15n bBody15c, .int .u64 bSig16]] w (Ret V Q) := (entry_Same.go aWriter1 aIndex2 aPrev3 aAtT4 aAtW5 aEpoch6 aBody7a aBody7n aBody7c aSig8 bWriter9 bIndex10 bPrev11 bAtT12 bAtW13 bEpoch14 bBody15a bBody15n bBody15c bSig16 h).mono fun e w' ⟨v, he, hv, hq⟩ => ⟨by rw [he, hv], hq⟩

theorem keep1 {w w' : World} {m : Nat → Prop} {p : Nat} (h : Ext m w w') (hp : ¬ m p) : Keep [p] w w' := h.keep fun q hq _ => by simp at hq; subst hq; exact hp
theorem keep2 {w w' : World} {m : Nat → Prop} {p q : Nat} (h : Ext m w w') (hp : ¬ m p) (hq : ¬ m q) : Keep [p, q] w w' := h.keep fun r hr _ => by
  simp at hr
  rcases hr with rfl | rfl
  · exact hp
  · exact hq
theorem OwnB.up {N M : Nat} {w : World} {a : Option Addr} {c : Nat} {bs : List UInt8} (h : OwnB N w a c bs) (hM : M ≤ N) : OwnB M w a c bs := ⟨h.own, fun ad ha => ⟨Nat.le_trans hM (h.fr ad ha).1, (h.fr ad ha).2⟩⟩
/-- a row of one's own, and bytes that came behind it. -/
theorem app {w0 wi w1 : World} {N : Nat} {a xa : Option Addr} {c xc : Nat} {l x : List UInt8} (hB : OwnB N wi a c l) (X : Ext no w0 wi) (h0 : w0.heap.size ≤ N) (hN : N ≤ wi.heap.size) (hx : Ext no wi w1) (hO : RowAt w1 xa (bytesV x)) (hl : l.length + x.length ≤ 100000000) :
    ∃ a' c' w', (Builtin.append_ #[26, 26] 26 #[.slice a l.length c, .slice xa x.length xc]).run Try.prog w1 = .ok (.slice a' (l ++ x).length c') w' ∧ OwnB N w' a' c' (l ++ x) ∧ Ext no w0 w' ∧ Ext (fun b => N ≤ b) w1 w' ∧ N ≤ w'.heap.size := by
  obtain ⟨a', c', w', hr, hO2, hx2⟩ := (hB.no hx).append (t := 26) (ty := 26) Try.underlying26 (Nat.le_trans hN hx.size) (xc := xc) hO hl
  exact ⟨a', c', w', hr, hO2, (X.trans hx).then hx2 fun b hb => .inr (Nat.le_trans h0 hb), hx2, Nat.le_trans hN (Nat.le_trans hx.size hx2.size)⟩
section
variable {w w' : World} {a : Option Addr} {c N p : Nat} {bs : List UInt8} {k : Int}
theorem Put_spec (h : RowAt w a (bytesV bs)) (hl : bs.length ≤ 900000) {t s : Int} (h0 : -9223372036854775808 ≤ t) (h1 : t < 9223372036854775808) (hs : s < 9223372036854775808) :
    Calls Try.prog 103 #[.slice a bs.length c, .agg #[.int .i64 t, .int .i64 s]] w (fun e w' => ∃ a' c', e = .returned (.slice a' (bs ++ stampL t s).length c') ∧ OwnB w.heap.size w' a' c' (bs ++ stampL t s) ∧ Ext no w w') := by
  refine (stamp_Put.go _ _ _ _ _ (R := fun v w' => ∃ a' c', v = (.slice a' (bs ++ stampL t s).length c') ∧ OwnB w.heap.size w' a' c' (bs ++ stampL t s) ∧ Ext no w w') ?_).mono fun e w' ⟨v, he, a, c, hv, hw⟩ => ⟨a, c, by rw [he, hv], hw⟩
  unfold stamp_Put.N
  intro w5 p6 hx5 hp
  refine (W.Int_spec (h.no hx5) (by omega) h0 h1).mono fun e w9 ⟨a9, c9, he, hO, hx9⟩ => ⟨a9, _, c9, he, hx9.kept, ?_⟩
  have e1 : IntKind.u64.wrap (if (0 : Int) > s then 0 else s) = ((s.toNat : Nat) : Int) := by split <;> rw [wu64 (by omega) (by omega)] <;> omega
  rw [e1]
  have hz := W.numL_le (zig t)
  refine (W.Num_spec hO.row (by rw [List.length_append]; omega) (n := s.toNat) (by omega)).mono fun e w12 ⟨a12, c12, he, hO2, hx12⟩ => ⟨a12, _, c12, he, a12, c12, ?_, ?_, (hx5.trans hx9).trans hx12⟩
  · unfold stampL; rw [List.append_assoc]
  · unfold stampL; rw [← List.append_assoc]; exact OwnB.up hO2 (Nat.le_trans hx5.size hx9.size)
theorem nums_spec {q : Nat} (hq : Blk w q 168 [.slice a bs.length c]) (h : RowAt w a (bytesV bs)) (ho : ∀ ad, a = some ad → ad.block ≠ q) {la : Option Addr} {lc : Nat} {xs : List Nat} (hx : RowAt w la (xs.map fun (n : Nat) => Value.int .u64 (n : Int))) (hla : ∀ ad, la = some ad → ad.block ≠ q)
    (hxs : ∀ n ∈ xs, n < 18446744073709551616) (hl : bs.length + xs.length * 10 ≤ 900000) :
    Calls Try.prog 101 #[.pointer (some (blk q)), .slice la xs.length lc] w (fun e w' => e = .returned (.tuple #[]) ∧ ∃ a' c', Blk w' q 168 [.slice a' (bs ++ xs.flatMap numL).length c'] ∧ RowAt w' a' (bytesV (bs ++ xs.flatMap numL)) ∧ (∀ ad, a' = some ad → ad.block ≠ q ∧ (a' = a ∨ w.heap.size ≤ ad.block)) ∧ Ext (fun b => b = q) w w') := by
  refine (entry_writer_nums.go _ _ _ _ (R := fun v w' => v = .tuple #[] ∧ ∃ a' c', Blk w' q 168 [.slice a' (bs ++ xs.flatMap numL).length c'] ∧ RowAt w' a' (bytesV (bs ++ xs.flatMap numL)) ∧ (∀ ad, a' = some ad → ad.block ≠ q ∧ (a' = a ∨ w.heap.size ≤ ad.block)) ∧ Ext (fun b => b = q) w w') ?_).mono fun e w' ⟨v, he, hv, hw⟩ => ⟨by rw [he, hv], hw⟩
  unfold entry_writer_nums.N
  refine ⟨fun k vs w1 => ∃ (t : Nat) (a1 : Option Addr) (c1 : Nat) (l1 : List UInt8), vs = [.int .i64 t] ∧ k + t = xs.length ∧ l1 = bs ++ (xs.take t).flatMap numL ∧ l1.length ≤ bs.length + t * 10 ∧ Blk w1 q 168 [.slice a1 l1.length c1] ∧ RowAt w1 a1 (bytesV l1) ∧ (∀ ad, a1 = some ad → ad.block ≠ q ∧ (a1 = a ∨ w.heap.size ≤ ad.block)) ∧ Ext (fun b => b = q) w w1, xs.length,
    ⟨0, a, c, bs, rfl, rfl, by simp, by omega, hq, h, fun ad ha => ⟨ho ad ha, .inl rfl⟩, Ext.refl _ _⟩, ?_⟩
  rintro k w1 i ⟨t, a1, c1, l1, hi, hk, hl1, hlen, hb, hr, hf, X⟩
  simp only [List.cons.injEq, Value.int.injEq, true_and, and_true] at hi
  subst hi
  refine ⟨fun ht => ?_, fun ht => ?_⟩
  · have htl : t < xs.length := by omega
    have hx1 := hx.ext' X fun _ ad ha => hla ad ha
    obtain ⟨ad, rfl⟩ := hx1.addr (by intro e; rw [List.map_eq_nil_iff] at e; subst e; simp at htl)
    have hnb := hxs xs[t] (List.getElem_mem htl)
    refine ⟨ad, rfl, by omega, by omega, xs[t], by rw [Int.toNat_natCast, Nat.mul_one]; exact hx1.at_ (by simp [htl]), blk q, rfl, a1, _, c1, hb.cella (i := 0) rfl, ?_⟩
    refine (W.Num_spec hr (by omega) hnb).mono fun e w16 ⟨a2, c2, he, hO, hx16⟩ => ⟨a2, _, c2, he, (hb.ext hx16 id).cana (i := 0) rfl, thenW_in fun w18 e18 => ?_⟩
    have hb18 := (hb.ext hx16 id).seti 0 rfl e18
    have x18 : Ext (fun b => b = q) w16 w18 := (Ext.refl (fun b => b = q) w16).x_set (q := q) (i := 0) rfl (.inl rfl) e18
    have hne : ∀ ad, a2 = some ad → ad.block ≠ q := fun ad ha e => by have := (hO.fr ad ha).1; have := hb.lt; omega
    have htk : xs.take (t + 1) = xs.take t ++ [xs[t]] := by rw [List.take_add_one]; simp [htl]
    have hnl := W.numL_le xs[t]
    refine ⟨by omega, by omega, k - 1, by omega, t + 1, a2, c2, l1 ++ numL xs[t], rfl, by omega, ?_, by rw [List.length_append]; omega, hb18, hO.row.ext' x18 fun _ ad ha => hne ad ha, fun ad ha => ⟨hne ad ha, .inr (Nat.le_trans X.size (hO.fr ad ha).1)⟩, (X.trans hx16.none).trans x18⟩
    rw [hl1, htk, List.flatMap_append, List.append_assoc]; simp
  · obtain rfl : t = xs.length := by omega
    rw [List.take_length] at hl1
    subst hl1
    exact ⟨rfl, a1, c1, hb, hr, hf, X⟩
theorem text_spec {e : Ent} (hr : entRight e = true) (hf : e.fit) {ba : Option Addr} {bc : Nat} (hb : RowAt w ba (bytesV e.body)) :
    Calls Try.prog 80 #[entV e ba bc] w (fun x w' => ∃ a' c', x = .returned (.slice a' (textL e).length c') ∧ OwnB w.heap.size w' a' c' (textL e) ∧ Ext no w w') := by
  obtain ⟨h1, h2, h3, h4, h5, h6, h7, h8, h9, h10, h11⟩ := (entRight_iff e).1 hr
  have f1 := hf.pv0; have f2 := hf.pv1
  refine (entry_text.go e.w e.i e.pv e.t e.tw e.ep ba e.body.length bc e.sg (R := fun v w' => ∃ a' c', v = (.slice a' (textL e).length c') ∧ OwnB w.heap.size w' a' c' (textL e) ∧ Ext no w w') ?_).mono fun x w' ⟨v, he, a, c, hv, hw⟩ => ⟨a, c, by rw [he, hv], hw⟩
  unfold entry_text.N
  intro w10 q p X10 hq hq1 hq2 hp w13 q2 X13 hq3 hq4 hq5
  rw [wu64 (n := e.w) h1 (by omega), wu64 (n := e.i) h3 (by omega)] at hq3
  have hrow : RowAt w13 (some (blk q2)) (([e.w.toNat, e.i.toNat, e.pv.toNat] : List Nat).map fun (n : Nat) => Value.int .u64 (n : Int)) := by
    have := RowAt.of_blk hq3
    simp only [List.map_cons, List.map_nil, Int.toNat_of_nonneg h1, Int.toNat_of_nonneg h3, Int.toNat_of_nonneg f1]
    exact this
  have hp1 := hp.one
  refine (nums_spec (bs := []) (q := q) (hq.ext X13 id) (RowAt.nil _ _) (fun ad ha => by cases ha) hrow (fun ad ha => by cases ha; simp only [blk]; omega) (by simp; omega) (by simp)).mono fun x w16 ⟨he, a1, c1, hb1, hr1, hf1, X16⟩ => ?_
  have hw16 : Ext no w w16 := (X10.trans X13).then X16 fun b hb => .inr (by omega)
  have hpq : p ≠ q := by omega
  have e1 : ([] ++ [e.w.toNat, e.i.toNat, e.pv.toNat].flatMap numL) = numL e.w.toNat ++ numL e.i.toNat ++ numL e.pv.toNat := by simp
  rw [e1] at hr1 hb1
  refine ⟨he, keep1 X16 hpq, a1, _, c1, hb1.cell (i := 0) rfl, fun w17 X17 => ?_⟩
  have g1 := W.numL_le e.w.toNat; have g2 := W.numL_le e.i.toNat; have g3 := W.numL_le e.pv.toNat; have g4 := stampL_le e.t e.tw; have g5 := W.numL_le (zig e.ep)
  have h17 := hw16.trans X17
  refine (Put_spec (hr1.no X17) (by simp only [List.length_append]; omega) (by omega) (by omega) (by omega)).mono fun x w22 ⟨a2, c2, he, hO2, X22⟩ => ⟨a2, _, c2, he, X22.kept, ?_⟩
  refine (W.Int_spec hO2.row (by simp only [List.length_append]; omega) (by omega) (by omega)).mono fun x w25 ⟨a3, c3, he, hO3, X25⟩ => ⟨a3, _, c3, he, X25.kept, ?_⟩
  have h25 := (h17.trans X22).trans X25
  refine (W.Bytes_spec hO3.row (by simp only [List.length_append]; omega) (hb.no h25) (by omega)).mono fun x w28 ⟨a4, c4, he, hO4, X28⟩ => ⟨a4, _, c4, he, a4, c4, ?_, ?_, h25.trans X28⟩
  · unfold textL; simp only [List.append_assoc]
  · unfold textL; rw [← List.append_assoc]; exact OwnB.up hO4 h25.size
theorem Text_spec {e : Ent} (hf : entRight e = true → e.fit) {ba : Option Addr} {bc : Nat} (hb : RowAt w ba (bytesV e.body)) :
    Calls Try.prog 47 #[entV e ba bc] w (fun x w' => Ext no w w' ∧ ((entRight e = false ∧ x = .returned (.tuple #[.slice none 0 0, .int .i64 1])) ∨ (entRight e = true ∧ ∃ a' c', x = .returned (.tuple #[.slice a' (textL e).length c', .int .i64 0]) ∧ OwnB w.heap.size w' a' c' (textL e)))) := by
  refine (entry_Text.go e.w e.i e.pv e.t e.tw e.ep ba e.body.length bc e.sg (R := fun v w' => Ext no w w' ∧ ((entRight e = false ∧ v = (.tuple #[.slice none 0 0, .int .i64 1])) ∨ (entRight e = true ∧ ∃ a' c', v = (.tuple #[.slice a' (textL e).length c', .int .i64 0]) ∧ OwnB w.heap.size w' a' c' (textL e)))) ?_).mono fun x w' ⟨v, he, hx, hv⟩ => ⟨hx, hv.imp (fun ⟨h1, h2⟩ => ⟨h1, by rw [he, h2]⟩) fun ⟨h1, a, c, h2, h3⟩ => ⟨h1, a, c, by rw [he, h2], h3⟩⟩
  unfold entry_Text.N
  rw [entRight_F]
  refine ⟨fun h w10 X => ⟨X, .inl ⟨h, rfl⟩⟩, fun h w10 X => ?_⟩
  exact (text_spec h (hf h) (hb.no X)).mono fun x w16 ⟨a1, c1, he, hO, X16⟩ => ⟨a1, _, c1, he, X.trans X16, .inr ⟨h, a1, c1, rfl, OwnB.up hO X.size⟩⟩
theorem EBytes_spec {e : Ent} (hf : entRight e = true → e.fit) {ba : Option Addr} {bc : Nat} (hb : RowAt w ba (bytesV e.body)) :
    Calls Try.prog 109 #[entV e ba bc] w (fun x w' => Ext no w w' ∧ ((entRight e = false ∧ x = .returned (.tuple #[.slice none 0 0, .int .i64 1])) ∨ (entRight e = true ∧ ∃ a' c', x = .returned (.tuple #[.slice a' (bytesL e).length c', .int .i64 0]) ∧ OwnB w.heap.size w' a' c' (bytesL e)))) := by
  refine (entry_Bytes.go e.w e.i e.pv e.t e.tw e.ep ba e.body.length bc e.sg (R := fun v w' => Ext no w w' ∧ ((entRight e = false ∧ v = (.tuple #[.slice none 0 0, .int .i64 1])) ∨ (entRight e = true ∧ ∃ a' c', v = (.tuple #[.slice a' (bytesL e).length c', .int .i64 0]) ∧ OwnB w.heap.size w' a' c' (bytesL e)))) ?_).mono fun x w' ⟨v, he, hx, hv⟩ => ⟨hx, hv.imp (fun ⟨h1, h2⟩ => ⟨h1, by rw [he, h2]⟩) fun ⟨h1, a, c, h2, h3⟩ => ⟨h1, a, c, by rw [he, h2], h3⟩⟩
  unfold entry_Bytes.N
  rw [entRight_F]
  refine ⟨fun h w10 X => ⟨X, .inl ⟨h, rfl⟩⟩, fun h w13 p X hp => ?_⟩
  have hf := hf h
  have f3 := hf.sg0; have f4 := hf.sg1
  have hbl := ((entRight_iff e).1 h).2.2.2.2.2.2.2.2.2.1
  have htl := textL_le e
  refine (text_spec h hf (hb.no X)).mono fun x w17 ⟨a1, c1, he, hO, X17⟩ => ⟨a1, _, c1, he, X17.kept, ?_⟩
  rw [← Int.toNat_of_nonneg f3]
  refine (W.Num_spec hO.row (by omega) (n := e.sg.toNat) (by omega)).mono fun x w20 ⟨a2, c2, he, hO2, X20⟩ => ⟨a2, _, c2, he, (X.trans X17).trans X20, .inr ⟨h, a2, c2, rfl, OwnB.up hO2 (X.trans X17).size⟩⟩
/-! ### reading -/
end
end Go.Proofs.Ytlfijjmjmgobhaa
