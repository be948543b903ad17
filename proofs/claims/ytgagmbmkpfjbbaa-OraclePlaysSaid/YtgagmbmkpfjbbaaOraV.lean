/- The player of both oracles. -/
import Derived.Test.YtgagmbmkpfjbbaaOraU
import Derived.Test.YtgagmbmkpfjbbaaRefT
set_option linter.unusedVariables false
set_option linter.unusedSimpArgs false
set_option maxRecDepth 20000
set_option maxHeartbeats 2000000
namespace Go.Proofs.Ytgagmbmkpfjbbaa
open Go Go.Mx Go.Proofs
/-- (*cachettelaw03.player).told -/
def cachettelaw03_player_told.M (p1 : Option Addr) (h2 : Int) (R : Value → World → Prop) (w : World) : Prop :=
  bif h2 != 0 then (
  p1.elim False fun a3 =>
  ∃ (handles4a : Option Addr) (handles4n : Nat) (handles4c : Nat), w.cell? (a3.add 2) = some (.slice handles4a handles4n handles4c) ∧
  thenW (w.alloc (.cells #[.int .u64 h2] 27)) fun ww5 =>
  ∃ (a6a : Option Addr) (a6n : Nat) (a6c : Nat) (ww7 : World), (Builtin.append_ #[22, 22] 22 #[.slice handles4a handles4n handles4c, .slice (some (blk w.heap.size)) 1 1]).run Try.prog ww5 = .ok (.slice a6a a6n a6c) ww7 ∧
  p1.elim False fun a8 =>
  canStore ww7 ((a8.add 2).add 0) ∧
  thenW (ww7.setCell ((a8.add 2).add 0) (.slice a6a a6n a6c)) fun ww9 =>
  R (.tuple #[]) ww9) else (
  R (.tuple #[]) w)

theorem cachettelaw03_player_told.eq (p1 : Option Addr) (h2 : Int) (R : Value → World → Prop) (w : World) : mfunc Try.prog [] 20 [.pointer p1, .int .u64 h2] R w = cachettelaw03_player_told.M p1 h2 R w := by kernel_rfl
theorem cachettelaw03_player_told.ok (p1 : Option Addr) (h2 : Int) {R : Value → World → Prop} {w : World} (h : cachettelaw03_player_told.M p1 h2 R w) : Calls Try.prog 20 #[.pointer p1, .int .u64 h2] w fun e w' => ∃ v, e = .returned v ∧ R v w' :=
  mfunc_ok follows (H := []) (args := [.pointer p1, .int .u64 h2]) (by rw [cachettelaw03_player_told.eq]; exact h)

def cachettelaw03_player_told.N (p1 : Option Addr) (h2 : Int) (R : Value → World → Prop) (w : World) : Prop :=
  (h2 ≠ 0 →
    ∃ a4 : Addr, p1 = some a4 ∧
    ∃ (handles6a : Option Addr) (handles6n : Nat) (handles6c : Nat), w.cell? (a4.add 2) = some (.slice handles6a handles6n handles6c) ∧
    ∀ (ww7 : World) (q8 : Nat), Ext no w ww7 → Blk ww7 q8 27 [.int .u64 h2] → w.heap.size ≤ q8 → q8 < ww7.heap.size →
    ∃ (a9a : Option Addr) (a9n : Nat) (a9c : Nat) (ww10 : World), (Builtin.append_ #[22, 22] 22 #[.slice handles6a handles6n handles6c, .slice (some (blk q8)) 1 1]).run Try.prog ww7 = .ok (.slice a9a a9n a9c) ww10 ∧
    canStore ww10 ((a4.add 2).add 0) ∧
    thenW (ww10.setCell ((a4.add 2).add 0) (.slice a9a a9n a9c)) fun ww11 =>
    R (.tuple #[]) ww11) ∧
  (h2 = 0 →
    R (.tuple #[]) w)

theorem cachettelaw03_player_told.up (p1 : Option Addr) (h2 : Int) {R : Value → World → Prop} {w : World} (h : cachettelaw03_player_told.N p1 h2 R w) : cachettelaw03_player_told.M p1 h2 R w := by
  unfold cachettelaw03_player_told.M
  unfold cachettelaw03_player_told.N at h
  refine bif_of (fun c3 => ?_) (fun c3 => ?_)
  · have h := h.1 (bne_t c3)
    obtain ⟨a4, ha4, h⟩ := h
    refine elim_some ha4 ?_
    obtain ⟨handles6a, handles6n, handles6c, hc5, h⟩ := h
    refine ⟨handles6a, handles6n, handles6c, hc5, ?_⟩
    refine thenW_in fun ww7 e7 => ?_
    have h := h ww7 w.heap.size ((Ext.refl no w).x_alloc e7) (Blk.of_new e7) ((Ext.refl no w)).size (size_lt_alloc e7)
    obtain ⟨a9a, a9n, a9c, ww10, hr, h⟩ := h
    refine ⟨a9a, a9n, a9c, ww10, hr, ?_⟩
    refine elim_some ha4 ?_
    obtain ⟨hcs, h⟩ := h
    refine ⟨hcs, thenW_in fun ww11 e11 => ?_⟩
    replace h := thenW_out h e11
    exact h
  · have h := h.2 (bne_f c3)
    exact h

theorem cachettelaw03_player_told.go (p1 : Option Addr) (h2 : Int) {R : Value → World → Prop} {w : World} (h : cachettelaw03_player_told.N p1 h2 R w) : Calls Try.prog 20 #[.pointer p1, .int .u64 h2] w fun e w' => ∃ v, e = .returned v ∧ R v w' := cachettelaw03_player_told.ok p1 h2 (cachettelaw03_player_told.up p1 h2 h)
theorem cachettelaw03_player_told.run (p1 : Option Addr) (h2 : Int) {V : Value} {Q : World → Prop} {w : World} (h : cachettelaw03_player_told.N p1 h2 (fun v w' => v = V ∧ Q w') w) : Calls Try.prog 20 #[.pointer p1, .int .u64 h2] w (Ret V Q) := (cachettelaw03_player_told.go p1 h2 h).mono fun e w' ⟨v, he, hv, hq⟩ => ⟨by rw [he, hv], hq⟩

/-- (*cachettelaw03.player).pick -/
def cachettelaw03_player_pick.M (p1 : Option Addr) (n2 : Int) (R : Value → World → Prop) (w : World) : Prop :=
  p1.elim False fun a3 =>
  ∃ (handles4a : Option Addr) (handles4n : Nat) (handles4c : Nat), w.cell? (a3.add 2) = some (.slice handles4a handles4n handles4c) ∧
  bif decide (n2 < (IntKind.u64.wrap (handles4n : Int))) then (
  p1.elim False fun a5 =>
  ∃ (handles6a : Option Addr) (handles6n : Nat) (handles6c : Nat), w.cell? (a5.add 2) = some (.slice handles6a handles6n handles6c) ∧
  handles6a.elim False fun a7 =>
  0 ≤ ((IntKind.u64.wrap ((IntKind.u64.wrap ((IntKind.u64.wrap (handles4n : Int)) - 1)) - n2)) : Int) ∧ ((IntKind.u64.wrap ((IntKind.u64.wrap ((IntKind.u64.wrap (handles4n : Int)) - 1)) - n2)) : Int) < (handles6n : Int) ∧
  ∃ (x8 : Int), w.cell? (a7.add (Int.toNat (IntKind.u64.wrap ((IntKind.u64.wrap ((IntKind.u64.wrap (handles4n : Int)) - 1)) - n2)) * 1)) = some (.int .u64 x8) ∧
  R (.int .u64 x8) w) else (
  R (.int .u64 n2) w)

theorem cachettelaw03_player_pick.eq (p1 : Option Addr) (n2 : Int) (R : Value → World → Prop) (w : World) : mfunc Try.prog [] 23 [.pointer p1, .int .u64 n2] R w = cachettelaw03_player_pick.M p1 n2 R w := by kernel_rfl
theorem cachettelaw03_player_pick.ok (p1 : Option Addr) (n2 : Int) {R : Value → World → Prop} {w : World} (h : cachettelaw03_player_pick.M p1 n2 R w) : Calls Try.prog 23 #[.pointer p1, .int .u64 n2] w fun e w' => ∃ v, e = .returned v ∧ R v w' :=
  mfunc_ok follows (H := []) (args := [.pointer p1, .int .u64 n2]) (by rw [cachettelaw03_player_pick.eq]; exact h)

def cachettelaw03_player_pick.N (p1 : Option Addr) (n2 : Int) (R : Value → World → Prop) (w : World) : Prop :=
  ∃ a3 : Addr, p1 = some a3 ∧
  ∃ (handles5a : Option Addr) (handles5n : Nat) (handles5c : Nat), w.cell? (a3.add 2) = some (.slice handles5a handles5n handles5c) ∧
  (n2 < (IntKind.u64.wrap (handles5n : Int)) →
    ∃ (handles8a : Option Addr) (handles8n : Nat) (handles8c : Nat), w.cell? (a3.add 2) = some (.slice handles8a handles8n handles8c) ∧
    ∃ a9 : Addr, handles8a = some a9 ∧
    0 ≤ ((IntKind.u64.wrap ((IntKind.u64.wrap ((IntKind.u64.wrap (handles5n : Int)) - 1)) - n2)) : Int) ∧ ((IntKind.u64.wrap ((IntKind.u64.wrap ((IntKind.u64.wrap (handles5n : Int)) - 1)) - n2)) : Int) < (handles8n : Int) ∧
    ∃ (x11 : Int), w.cell? (a9.add (Int.toNat (IntKind.u64.wrap ((IntKind.u64.wrap ((IntKind.u64.wrap (handles5n : Int)) - 1)) - n2)) * 1)) = some (.int .u64 x11) ∧
    R (.int .u64 x11) w) ∧
  ((IntKind.u64.wrap (handles5n : Int)) ≤ n2 →
    R (.int .u64 n2) w)

theorem cachettelaw03_player_pick.up (p1 : Option Addr) (n2 : Int) {R : Value → World → Prop} {w : World} (h : cachettelaw03_player_pick.N p1 n2 R w) : cachettelaw03_player_pick.M p1 n2 R w := by
  unfold cachettelaw03_player_pick.M
  unfold cachettelaw03_player_pick.N at h
  obtain ⟨a3, ha3, h⟩ := h
  refine elim_some ha3 ?_
  obtain ⟨handles5a, handles5n, handles5c, hc4, h⟩ := h
  refine ⟨handles5a, handles5n, handles5c, hc4, ?_⟩
  refine bif_of (fun c6 => ?_) (fun c6 => ?_)
  · have h := h.1 (of_decide_eq_true c6)
    refine elim_some ha3 ?_
    obtain ⟨handles8a, handles8n, handles8c, hc7, h⟩ := h
    refine ⟨handles8a, handles8n, handles8c, hc7, ?_⟩
    obtain ⟨a9, ha9, h⟩ := h
    refine elim_some ha9 ?_
    obtain ⟨hq1, hq2, h⟩ := h
    refine ⟨hq1, hq2, ?_⟩
    obtain ⟨x11, hc10, h⟩ := h
    refine ⟨x11, hc10, ?_⟩
    exact h
  · have h := h.2 (Int.not_lt.1 (of_decide_eq_false c6))
    exact h

theorem cachettelaw03_player_pick.go (p1 : Option Addr) (n2 : Int) {R : Value → World → Prop} {w : World} (h : cachettelaw03_player_pick.N p1 n2 R w) : Calls Try.prog 23 #[.pointer p1, .int .u64 n2] w fun e w' => ∃ v, e = .returned v ∧ R v w' := cachettelaw03_player_pick.ok p1 n2 (cachettelaw03_player_pick.up p1 n2 h)
theorem cachettelaw03_player_pick.run (p1 : Option Addr) (n2 : Int) {V : Value} {Q : World → Prop} {w : World} (h : cachettelaw03_player_pick.N p1 n2 (fun v w' => v = V ∧ Q w') w) : Calls Try.prog 23 #[.pointer p1, .int .u64 n2] w (Ret V Q) := (cachettelaw03_player_pick.go p1 n2 h).mono fun e w' ⟨v, he, hv, hq⟩ => ⟨by rw [he, hv], hq⟩

/-- (*cachettelaw03.player).text -/
def cachettelaw03_player_text.M (p1 : Option Addr) (xKind2 : Int) (xX3 : Int) (xY4 : Int) (xA5a : Option Addr) (xA5n : Nat) (xA5c : Nat) (xB6a : Option Addr) (xB6n : Nat) (xB6c : Nat) (R : Value → World → Prop) (w : World) : Prop :=
  thenW (w.alloc (.cells #[.int .i64 xKind2, .int .u64 xX3, .int .u64 xY4, .slice xA5a xA5n xA5c, .slice xB6a xB6n xB6c] 50)) fun ww7 =>
  p1.elim False fun a8 =>
  ∃ (texts9a : Option Addr) (texts9n : Nat) (texts9c : Nat), ww7.cell? (a8.add 3) = some (.slice texts9a texts9n texts9c) ∧
  ∃ (B10a : Option Addr) (B10n : Nat) (B10c : Nat), ww7.cell? ((blk w.heap.size).add 4) = some (.slice B10a B10n B10c) ∧
  bif (B10n : Int) == 0 then (
  ∃ (Y11 : Int), ww7.cell? ((blk w.heap.size).add 2) = some (.int .u64 Y11) ∧
  bif decide (Y11 < (IntKind.u64.wrap (texts9n : Int))) then (
  thenW (ww7.drew) fun ww12 =>
  p1.elim False fun a13 =>
  ∃ (texts14a : Option Addr) (texts14n : Nat) (texts14c : Nat), ww12.cell? (a13.add 3) = some (.slice texts14a texts14n texts14c) ∧
  ∃ (Y15 : Int), ww12.cell? ((blk w.heap.size).add 2) = some (.int .u64 Y15) ∧
  texts14a.elim False fun a16 =>
  0 ≤ ((IntKind.u64.wrap ((IntKind.u64.wrap ((IntKind.u64.wrap (texts9n : Int)) - 1)) - Y15)) : Int) ∧ ((IntKind.u64.wrap ((IntKind.u64.wrap ((IntKind.u64.wrap (texts9n : Int)) - 1)) - Y15)) : Int) < (texts14n : Int) ∧
  ∃ (x17a : Option Addr) (x17n : Nat) (x17c : Nat), ww12.cell? (a16.add (Int.toNat (IntKind.u64.wrap ((IntKind.u64.wrap ((IntKind.u64.wrap (texts9n : Int)) - 1)) - Y15)) * 1)) = some (.slice x17a x17n x17c) ∧
  R (.slice x17a x17n x17c) ww12) else (
  ∃ (B18a : Option Addr) (B18n : Nat) (B18c : Nat), ww7.cell? ((blk w.heap.size).add 4) = some (.slice B18a B18n B18c) ∧
  R (.slice B18a B18n B18c) ww7)) else (
  ∃ (B19a : Option Addr) (B19n : Nat) (B19c : Nat), ww7.cell? ((blk w.heap.size).add 4) = some (.slice B19a B19n B19c) ∧
  R (.slice B19a B19n B19c) ww7)

theorem cachettelaw03_player_text.eq (p1 : Option Addr) (xKind2 : Int) (xX3 : Int) (xY4 : Int) (xA5a : Option Addr) (xA5n : Nat) (xA5c : Nat) (xB6a : Option Addr) (xB6n : Nat) (xB6c : Nat) (R : Value → World → Prop) (w : World) : mfunc Try.prog [] 31 [.pointer p1, .agg #[.int .i64 xKind2, .int .u64 xX3, .int .u64 xY4, .slice xA5a xA5n xA5c, .slice xB6a xB6n xB6c]] R w = cachettelaw03_player_text.M p1 xKind2 xX3 xY4 xA5a xA5n xA5c xB6a xB6n xB6c R w := by kernel_rfl
theorem cachettelaw03_player_text.ok (p1 : Option Addr) (xKind2 : Int) (xX3 : Int) (xY4 : Int) (xA5a : Option Addr) (xA5n : Nat) (xA5c : Nat) (xB6a : Option Addr) (xB6n : Nat) (xB6c : Nat) {R : Value → World → Prop} {w : World} (h : cachettelaw03_player_text.M p1 xKind2 xX3 xY4 xA5a xA5n xA5c xB6a xB6n xB6c R w) : Calls Try.prog 31 #[.pointer p1, .agg #[.int .i64 xKind2, .int .u64 xX3, .int .u64 xY4, .slice xA5a xA5n xA5c, .slice xB6a xB6n xB6c]] w fun e w' => ∃ v, e = .returned v ∧ R v w' :=
  mfunc_ok follows (H := []) (args := [.pointer p1, .agg #[.int .i64 xKind2, .int .u64 xX3, .int .u64 xY4, .slice xA5a xA5n xA5c, .slice xB6a xB6n xB6c]]) (by rw [cachettelaw03_player_text.eq]; exact h)

def cachettelaw03_player_text.N (p1 : Option Addr) (xKind2 : Int) (xX3 : Int) (xY4 : Int) (xA5a : Option Addr) (xA5n : Nat) (xA5c : Nat) (xB6a : Option Addr) (xB6n : Nat) (xB6c : Nat) (R : Value → World → Prop) (w : World) : Prop :=
  ∃ a8 : Addr, p1 = some a8 ∧
  ∃ (texts10a : Option Addr) (texts10n : Nat) (texts10c : Nat), w.cell? (a8.add 3) = some (.slice texts10a texts10n texts10c) ∧
  ((xB6n : Int) = 0 →
    (xY4 < (IntKind.u64.wrap (texts10n : Int)) →
      ∃ (texts15a : Option Addr) (texts15n : Nat) (texts15c : Nat), w.cell? (a8.add 3) = some (.slice texts15a texts15n texts15c) ∧
      ∃ a16 : Addr, texts15a = some a16 ∧
      0 ≤ ((IntKind.u64.wrap ((IntKind.u64.wrap ((IntKind.u64.wrap (texts10n : Int)) - 1)) - xY4)) : Int) ∧ ((IntKind.u64.wrap ((IntKind.u64.wrap ((IntKind.u64.wrap (texts10n : Int)) - 1)) - xY4)) : Int) < (texts15n : Int) ∧
      ∃ (x18a : Option Addr) (x18n : Nat) (x18c : Nat), w.cell? (a16.add (Int.toNat (IntKind.u64.wrap ((IntKind.u64.wrap ((IntKind.u64.wrap (texts10n : Int)) - 1)) - xY4)) * 1)) = some (.slice x18a x18n x18c) ∧
      ∀ (ww13 : World), Ext no w ww13 →
      R (.slice x18a x18n x18c) ww13) ∧
    ((IntKind.u64.wrap (texts10n : Int)) ≤ xY4 →
      ∀ (ww7 : World), Ext no w ww7 →
      R (.slice xB6a xB6n xB6c) ww7)) ∧
  ((xB6n : Int) ≠ 0 →
    ∀ (ww7 : World), Ext no w ww7 →
    R (.slice xB6a xB6n xB6c) ww7)

theorem cachettelaw03_player_text.up (p1 : Option Addr) (xKind2 : Int) (xX3 : Int) (xY4 : Int) (xA5a : Option Addr) (xA5n : Nat) (xA5c : Nat) (xB6a : Option Addr) (xB6n : Nat) (xB6c : Nat) {R : Value → World → Prop} {w : World} (h : cachettelaw03_player_text.N p1 xKind2 xX3 xY4 xA5a xA5n xA5c xB6a xB6n xB6c R w) : cachettelaw03_player_text.M p1 xKind2 xX3 xY4 xA5a xA5n xA5c xB6a xB6n xB6c R w := by
  unfold cachettelaw03_player_text.M
  unfold cachettelaw03_player_text.N at h
  refine thenW_in fun ww7 e7 => ?_
  have hb1 := Blk.of_new e7
  have hg1 := ((Ext.refl no w)).size
  have hx7 := (Ext.refl no w).x_alloc e7
  obtain ⟨a8, ha8, h⟩ := h
  refine elim_some ha8 ?_
  obtain ⟨texts10a, texts10n, texts10c, hc9, h⟩ := h
  refine ⟨texts10a, texts10n, texts10c, (hx7).cell hc9 id, ?_⟩
  refine ⟨xB6a, xB6n, xB6c, hb1.celli 4 rfl rfl, ?_⟩
  refine bif_of (fun c11 => ?_) (fun c11 => ?_)
  · have h := h.1 (beq_t c11)
    refine ⟨xY4, hb1.celli 2 rfl rfl, ?_⟩
    refine bif_of (fun c12 => ?_) (fun c12 => ?_)
    · have h := h.1 (of_decide_eq_true c12)
      refine thenW_in fun ww13 e13 => ?_
      have hx13 := hx7.x_drew e13
      have hb1 := hb1.x_drew e13
      refine elim_some ha8 ?_
      obtain ⟨texts15a, texts15n, texts15c, hc14, h⟩ := h
      refine ⟨texts15a, texts15n, texts15c, (hx13).cell hc14 id, ?_⟩
      refine ⟨xY4, hb1.celli 2 rfl rfl, ?_⟩
      obtain ⟨a16, ha16, h⟩ := h
      refine elim_some ha16 ?_
      obtain ⟨hq1, hq2, h⟩ := h
      refine ⟨hq1, hq2, ?_⟩
      obtain ⟨x18a, x18n, x18c, hc17, h⟩ := h
      refine ⟨x18a, x18n, x18c, (hx13).cell hc17 id, ?_⟩
      have h := h ww13 hx13
      exact h
    · have h := h.2 (Int.not_lt.1 (of_decide_eq_false c12))
      refine ⟨xB6a, xB6n, xB6c, hb1.celli 4 rfl rfl, ?_⟩
      have h := h ww7 hx7
      exact h
  · have h := h.2 (beq_f c11)
    refine ⟨xB6a, xB6n, xB6c, hb1.celli 4 rfl rfl, ?_⟩
    have h := h ww7 hx7
    exact h

theorem cachettelaw03_player_text.go (p1 : Option Addr) (xKind2 : Int) (xX3 : Int) (xY4 : Int) (xA5a : Option Addr) (xA5n : Nat) (xA5c : Nat) (xB6a : Option Addr) (xB6n : Nat) (xB6c : Nat) {R : Value → World → Prop} {w : World} (h : cachettelaw03_player_text.N p1 xKind2 xX3 xY4 xA5a xA5n xA5c xB6a xB6n xB6c R w) : Calls Try.prog 31 #[.pointer p1, .agg #[.int .i64 xKind2, .int .u64 xX3, .int .u64 xY4, .slice xA5a xA5n xA5c, .slice xB6a xB6n xB6c]] w fun e w' => ∃ v, e = .returned v ∧ R v w' := cachettelaw03_player_text.ok p1 xKind2 xX3 xY4 xA5a xA5n xA5c xB6a xB6n xB6c (cachettelaw03_player_text.up p1 xKind2 xX3 xY4 xA5a xA5n xA5c xB6a xB6n xB6c h)
theorem cachettelaw03_player_text.run (p1 : Option Addr) (xKind2 : Int) (xX3 : Int) (xY4 : Int) (xA5a : Option Addr) (xA5n : Nat) (xA5c : Nat) (xB6a : Option Addr) (xB6n : Nat) (xB6c : Nat) {V : Value} {Q : World → Prop} {w : World} (h : cachettelaw03_player_text.N p1 xKind2 xX3 xY4 xA5a xA5n xA5c xB6a xB6n xB6c (fun v w' => v = V ∧ Q w') w) : Calls Try.prog 31 #[.pointer p1, .agg #[.int .i64 xKind2, .int .u64 xX3, .int .u64 xY4, .slice xA5a xA5n xA5c, .slice xB6a xB6n xB6c]] w (Ret V Q) := (cachettelaw03_player_text.go p1 xKind2 xX3 xY4 xA5a xA5n xA5c xB6a xB6n xB6c h).mono fun e w' ⟨v, he, hv, hq⟩ => ⟨by rw [he, hv], hq⟩

theorem infTB : (Try.prog.info? 23).map (fun i => (i.zero, i.size, i.bytes)) = some (some (.slice none 0 0), 1, 24) := by kernel_rfl
/-- bytes that were told, and where they lie. -/
structure TB where
  b : List UInt8
  a : Option Addr
  c : Nat
def TB.V (x : TB) : Value := .slice x.a x.b.length x.c
def TB.ok (w : World) (o : Own) (x : TB) : Prop := Row w o x.a (bytesV x.b) ∧ x.b.length ≤ x.c ∧ x.b.length ≤ 2000
/-- the player. -/
structure Plr (w : World) (o : Own) (q k j : Nat) (hs : List Int) (ts : List TB) : Prop where
  own : o q = some q
  st : ∃ ha hc ta tc, Blk w q 47 [.pointer (some (blk k)), .pointer (some (blk j)), .slice ha hs.length hc, .slice ta ts.length tc] ∧
    Grows 27 1 w o q ha hs.length hc (hs.map u64V) ∧ Grows 23 1 w o q ta ts.length tc (ts.map TB.V) ∧ (∀ ad, ha = some ad → ad.block ≠ q) ∧ (∀ ad, ta = some ad → ad.block ≠ q) ∧ (∀ x y, ha = some x → ta = some y → x.block ≠ y.block)
  texts : ∀ x ∈ ts, x.ok w o
  fit : ∀ h ∈ hs, 0 ≤ h ∧ h < 18446744073709551616
section
variable {w w' : World} {o o' : Own} {q k j : Nat} {K : Nat → Prop} {hs : List Int} {ts : List TB}
theorem TB.ok.step {x : TB} (h : x.ok w o) (s : Step K w o w' o') : x.ok w' o' := ⟨h.1.step s, h.2⟩
theorem Plr.lt (h : Plr w o q k j hs ts) : q < w.heap.size := by obtain ⟨_, _, _, _, hb, _⟩ := h.st; exact hb.lt
theorem Plr.step (h : Plr w o q k j hs ts) (s : Step K w o w' o') (hq : ¬ K q) : Plr w' o' q k j hs ts := by
  have hlt := h.lt
  obtain ⟨ha, hc, ta, tc, h1, h2, h3, h4, h5, h6⟩ := h.st
  exact ⟨(s.own hlt).trans h.own, ⟨ha, hc, ta, tc, s.blk h1 h.own hq, h2.step s hq, h3.step s hq, h4, h5, h6⟩, fun x hx => (h.texts x hx).step s, h.fit⟩
def pickL (hs : List Int) (n : Int) : Int := if n < hs.length then (hs[hs.length - 1 - n.toNat]?).getD 0 else n
theorem pick_spec (h : Plr w o q k j hs ts) (hl : hs.length < 1000000) {n : Int} (h0 : 0 ≤ n) (h1 : n < 18446744073709551616) :
    Calls Try.prog 23 #[.pointer (some (blk q)), .int .u64 n] w (Ret (.int .u64 (pickL hs n)) fun w' => w' = w) := by
  refine cachettelaw03_player_pick.run _ _ ?_
  unfold cachettelaw03_player_pick.N
  obtain ⟨ha, hc, ta, tc, b1, b2, b3, b4, b5, b6⟩ := h.st
  refine ⟨_, rfl, ha, hs.length, hc, b1.cella (i := 2) rfl, ?_⟩
  rw [wu64 (by omega) (by omega)]
  refine ⟨fun hn => ?_, fun hn => ⟨by unfold pickL; rw [if_neg (by omega)], rfl⟩⟩
  have hi : hs.length - 1 - n.toNat < hs.length := by omega
  have hg : (hs.map u64V)[hs.length - 1 - n.toNat]? = some (u64V hs[hs.length - 1 - n.toNat]) := by rw [List.getElem?_map, List.getElem?_eq_getElem hi]; rfl
  obtain ⟨ad, hd, hcell⟩ := b2.row _ _ hg
  rw [wu64 (n := (hs.length : Int) - 1) (by omega) (by omega), wu64 (by omega) (by omega)]
  refine ⟨ha, hs.length, hc, b1.cella (i := 2) rfl, ad, hd, by omega, by omega, _, by rw [Nat.mul_one, show ((hs.length : Int) - 1 - n).toNat = hs.length - 1 - n.toNat by omega]; exact hcell, ?_, rfl⟩
  unfold pickL
  rw [if_pos hn, List.getElem?_eq_getElem hi]
  rfl
theorem pickL_fit (h : Plr w o q k j hs ts) {n : Int} (h0 : 0 ≤ n) (h1 : n < 18446744073709551616) : 0 ≤ pickL hs n ∧ pickL hs n < 18446744073709551616 := by
  unfold pickL
  split
  · cases hg : hs[hs.length - 1 - n.toNat]? with
    | none => exact ⟨by decide, by decide⟩
    | some x => exact h.fit x (List.mem_of_getElem? hg)
  · exact ⟨h0, h1⟩
def toldL (hs : List Int) (h : Int) : List Int := if h = 0 then hs else hs ++ [h]
theorem told_spec (P : Plr w o q k j hs ts) (ok : Tags w o) (hl : hs.length < 1000000) {h : Int} (h0 : 0 ≤ h) (h1 : h < 18446744073709551616) :
    Calls Try.prog 20 #[.pointer (some (blk q)), .int .u64 h] w (Gs (fun i => i = q) w o (.tuple #[]) fun w' o' => Plr w' o' q k j (toldL hs h) ts) := by
  refine (cachettelaw03_player_told.go _ _ (R := fun v w' => ∃ o', v = .tuple #[] ∧ Step (fun i => i = q) w o w' o' ∧ Plr w' o' q k j (toldL hs h) ts) ?_).mono fun e w' ⟨v, he, o', hv, hw⟩ => ⟨o', by rw [he, hv], hw⟩
  unfold cachettelaw03_player_told.N
  refine ⟨fun hne' => ?_, fun he => ⟨o, rfl, Step.refl _ ok, by unfold toldL; rw [if_pos he]; exact P⟩⟩
  obtain ⟨ha, hc, ta, tc, b1, b2, b3, b4, b5, b6⟩ := id P.st
  refine ⟨_, rfl, ha, hs.length, hc, b1.cella (i := 2) rfl, fun w7 q8 X7 hb8 hq8 hq8' => ?_⟩
  have s7 := Step.of_no X7 ok
  have P7 := P.step s7 id
  have hlt := P.lt
  obtain ⟨i, hi, hz, hsz, hby⟩ := info_of inf27
  obtain ⟨a', c', w10, o10, hr, s10, g10, hkeep, hblk⟩ := (b2.step s7 id).push (ty := 22) Try.underlying22 hi hz hsz hby rfl (by decide) s7.ok P7.lt (xa := some (blk q8)) (m := 1) (xc := 1) (news := [.int .u64 h]) rfl (RowAt.of_blk hb8) (by simp [Value.oneCell']) (by omega) (by omega)
  have hb7 := s7.blk b1 P.own id
  have hb10 : Blk w10 q 47 [.pointer (some (blk k)), .pointer (some (blk j)), .slice ha hs.length hc, .slice ta ts.length tc] := by
    unfold Blk at hb7 ⊢
    rw [hkeep q P7.lt fun ad hd e => b4 ad hd e.symm]; exact hb7
  have X10 : Ext (fun b => ∃ ad, ha = some ad ∧ b = ad.block) w7 w10 := ⟨s10.ext.os, s10.ext.tape, s10.ext.output, s10.ext.size, fun b hb hn => hkeep b hb fun ad hd e => hn ⟨ad, hd, e⟩⟩
  have t10 := (b3.step s7 id).keep X10 (fun ad hd ⟨x, hx, e⟩ => b6 x ad hx hd e.symm) (o' := o10) fun b hb => s10.own hb
  have tq10 : o10 q = some q := (s10.own P7.lt).trans P7.own
  have hne : ∀ ad, a' = some ad → ad.block ≠ q := fun ad hd e => by
    rcases hblk ad hd with ⟨b, hb1, hb2⟩ | hq
    · exact b4 b hb1 (by omega)
    · have := P7.lt; omega
  refine ⟨a', _, c', w10, hr, hb10.cana (i := 2) rfl, thenW_in fun w11 e11 => ?_⟩
  have X11 : Ext (fun b => b = q) w10 w11 := (Ext.refl (fun b => b = q) w10).x_set (q := q) (i := 2) rfl (.inl rfl) e11
  obtain ⟨o11, s11⟩ := Step.store1 X11 s10.ok tq10
  have hb11 := hb10.seti 2 rfl e11
  have hq10 : q < w10.heap.size := Nat.lt_of_lt_of_le P7.lt s10.size
  refine ⟨o11, rfl, (s7.none.trans s10).trans s11, ?_⟩
  unfold toldL
  rw [if_neg hne']
  refine ⟨(s11.own hq10).trans tq10, ⟨a', c', ta, tc, ?_, ?_, t10.keep X11 (fun ad hd => b5 ad hd) (fun b hb => s11.own hb), hne, b5, fun x y hx hy e => ?_⟩, fun x hx => (((P.texts x hx).step s7).step s10).step s11, fun x hx => ?_⟩
  · rw [List.length_append]; exact hb11
  · rw [List.length_append, List.map_append]; exact g10.keep X11 (fun ad hd => hne ad hd) fun b hb => s11.own hb
  · rcases hblk x hx with ⟨b, hb1, hb2⟩ | hq
    · exact b6 b y hb1 hy (by omega)
    · have := (b3.step s7 id).tg y hy; omega
  · rcases List.mem_append.1 hx with hx | hx
    · exact P.fit x hx
    · simp at hx; subst hx; exact ⟨h0, h1⟩
def textOf (ts : List TB) (y : Int) (b : List UInt8) : List UInt8 := if b.length = 0 ∧ y < ts.length then ((ts[ts.length - 1 - y.toNat]?).map TB.b).getD [] else b
theorem text_spec (P : Plr w o q k j hs ts) (ok : Tags w o) (hl : ts.length < 1000000) {kd x y : Int} (h0 : 0 ≤ y) (h1 : y < 18446744073709551616) {aa ba : Option Addr} {an ac bc : Nat} {b : List UInt8} (hb : Row w o ba (bytesV b)) (hbc : b.length ≤ bc) (hb2 : b.length ≤ 2000) :
    Calls Try.prog 31 #[.pointer (some (blk q)), .agg #[.int .i64 kd, .int .u64 x, .int .u64 y, .slice aa an ac, .slice ba b.length bc]] w (fun e w' => ∃ a c, e = .returned (.slice a (textOf ts y b).length c) ∧ Ext no w w' ∧ Row w o a (bytesV (textOf ts y b)) ∧ (textOf ts y b).length ≤ c ∧ (textOf ts y b).length ≤ 2000) := by
  refine (cachettelaw03_player_text.go _ _ _ _ _ _ _ _ _ _ (R := fun v w' => ∃ a c, v = .slice a (textOf ts y b).length c ∧ Ext no w w' ∧ Row w o a (bytesV (textOf ts y b)) ∧ (textOf ts y b).length ≤ c ∧ (textOf ts y b).length ≤ 2000) ?_).mono fun e w' ⟨v, he, a, c, hv, hw⟩ => ⟨a, c, by rw [he, hv], hw⟩
  unfold cachettelaw03_player_text.N
  obtain ⟨ha, hc, ta, tc, b1, b2, b3, b4, b5, b6⟩ := id P.st
  refine ⟨_, rfl, ta, ts.length, tc, b1.cella (i := 3) rfl, ?_⟩
  rw [wu64 (by omega) (by omega)]
  refine ⟨fun hz => ⟨fun hn => ?_, fun hn w7 X => ?_⟩, fun hz w7 X => ?_⟩
  · have hi : ts.length - 1 - y.toNat < ts.length := by omega
    have hg : (ts.map TB.V)[ts.length - 1 - y.toNat]? = some (TB.V ts[ts.length - 1 - y.toNat]) := by rw [List.getElem?_map, List.getElem?_eq_getElem hi]; rfl
    obtain ⟨ad, hd, hcell⟩ := b3.row _ _ hg
    have htx := P.texts _ (List.getElem_mem hi)
    have hres : textOf ts y b = ts[ts.length - 1 - y.toNat].b := by unfold textOf; rw [if_pos ⟨by omega, hn⟩, List.getElem?_eq_getElem hi]; rfl
    rw [hres]
    generalize ts[ts.length - 1 - y.toNat] = z at *
    rw [wu64 (n := (ts.length : Int) - 1) (by omega) (by omega), wu64 (by omega) (by omega)]
    exact ⟨ta, ts.length, tc, b1.cella (i := 3) rfl, ad, hd, by omega, by omega, z.a, z.b.length, z.c, by rw [Nat.mul_one, show ((ts.length : Int) - 1 - y).toNat = ts.length - 1 - y.toNat by omega]; exact hcell, fun w13 X => ⟨z.a, z.c, rfl, X, htx.1, htx.2.1, htx.2.2⟩⟩
  · have hres : textOf ts y b = b := by unfold textOf; rw [if_neg (by omega)]
    rw [hres]; exact ⟨ba, bc, rfl, X, hb, hbc, hb2⟩
  · have hres : textOf ts y b = b := by unfold textOf; rw [if_neg (by omega)]
    rw [hres]; exact ⟨ba, bc, rfl, X, hb, hbc, hb2⟩
/-- bytes that are told. -/
theorem tpush (P : Plr w o q k j hs ts) (ok : Tags w o) (hl : ts.length < 1000000) (z : TB) (hz : z.ok w o) {Φ : World → Prop} (hΦ : ∀ w' o', Step (fun i => i = q) w o w' o' → Plr w' o' q k j hs (ts ++ [z]) → Φ w') :
    ∃ (xa : Option Addr) (xn xc : Nat), w.cell? ((blk q).add 3) = some (.slice xa xn xc) ∧ ∀ (w7 : World) (q8 : Nat), Ext no w w7 → Blk w7 q8 23 [.slice z.a z.b.length z.c] → w.heap.size ≤ q8 → q8 < w7.heap.size →
      ∃ (aa : Option Addr) (an ac : Nat) (w10 : World), (Builtin.append_ #[45, 45] 45 #[.slice xa xn xc, .slice (some (blk q8)) 1 1]).run Try.prog w7 = .ok (.slice aa an ac) w10 ∧
      canStore w10 (((blk q).add 3).add 0) ∧ thenW (w10.setCell (((blk q).add 3).add 0) (.slice aa an ac)) fun w11 => Φ w11 := by
  obtain ⟨ha, hc, ta, tc, b1, b2, b3, b4, b5, b6⟩ := id P.st
  refine ⟨ta, ts.length, tc, b1.cella (i := 3) rfl, fun w7 q8 X7 hb8 hq8 hq8' => ?_⟩
  have s7 := Step.of_no X7 ok
  have P7 := P.step s7 id
  have hlt := P.lt
  obtain ⟨i, hi, hz', hsz, hby⟩ := info_of infTB
  obtain ⟨a', c', w10, o10, hr, s10, g10, hkeep, hblk⟩ := (b3.step s7 id).push (ty := 45) Try.underlying45 hi hz' hsz hby rfl (by decide) s7.ok P7.lt (xa := some (blk q8)) (m := 1) (xc := 1) (news := [.slice z.a z.b.length z.c]) rfl (RowAt.of_blk hb8) (by simp [Value.oneCell']) (by omega) (by omega)
  have hb7 := s7.blk b1 P.own id
  have hb10 : Blk w10 q 47 [.pointer (some (blk k)), .pointer (some (blk j)), .slice ha hs.length hc, .slice ta ts.length tc] := by
    unfold Blk at hb7 ⊢
    rw [hkeep q P7.lt fun ad hd e => b5 ad hd e.symm]; exact hb7
  have X10 : Ext (fun b => ∃ ad, ta = some ad ∧ b = ad.block) w7 w10 := ⟨s10.ext.os, s10.ext.tape, s10.ext.output, s10.ext.size, fun b hb hn => hkeep b hb fun ad hd e => hn ⟨ad, hd, e⟩⟩
  have t10 := (b2.step s7 id).keep X10 (fun ad hd ⟨x, hx, e⟩ => b6 ad x hd hx e) (o' := o10) fun b hb => s10.own hb
  have tq10 : o10 q = some q := (s10.own P7.lt).trans P7.own
  have hne : ∀ ad, a' = some ad → ad.block ≠ q := fun ad hd e => by
    rcases hblk ad hd with ⟨b, hb1, hb2⟩ | hq
    · exact b5 b hb1 (by omega)
    · have := P7.lt; omega
  refine ⟨a', _, c', w10, hr, hb10.cana (i := 3) rfl, thenW_in fun w11 e11 => ?_⟩
  have X11 : Ext (fun b => b = q) w10 w11 := (Ext.refl (fun b => b = q) w10).x_set (q := q) (i := 3) rfl (.inl rfl) e11
  obtain ⟨o11, s11⟩ := Step.store1 X11 s10.ok tq10
  have hb11 := hb10.seti 3 rfl e11
  have hq10 : q < w10.heap.size := Nat.lt_of_lt_of_le P7.lt s10.size
  refine hΦ w11 o11 ((s7.none.trans s10).trans s11) ?_
  refine ⟨(s11.own hq10).trans tq10, ⟨ha, hc, a', c', ?_, t10.keep X11 (fun ad hd => b4 ad hd) (fun b hb => s11.own hb), ?_, b4, hne, fun x y hx hy e => ?_⟩, fun x hx => ?_, P.fit⟩
  · rw [List.length_append]; exact hb11
  · rw [List.length_append, List.map_append]; exact g10.keep X11 (fun ad hd => hne ad hd) fun b hb => s11.own hb
  · rcases hblk y hy with ⟨b, hb1, hb2⟩ | hq
    · exact b6 x b hx hb1 (by omega)
    · have := (b2.step s7 id).tg x hx; omega
  · rcases List.mem_append.1 hx with hx | hx
    · exact (((P.texts x hx).step s7).step s10).step s11
    · simp at hx; subst hx; exact ((hz.step s7).step s10).step s11
end
end Go.Proofs.Ytgagmbmkpfjbbaa
