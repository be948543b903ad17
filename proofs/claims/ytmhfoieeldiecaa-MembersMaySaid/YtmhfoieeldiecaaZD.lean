/- Members' laws: predicates. -/
import Derived.Test.YtmhfoieeldiecaaZC
set_option linter.unusedVariables false
set_option linter.unusedSimpArgs false
set_option maxRecDepth 20000
set_option maxHeartbeats 2000000
namespace Go.Proofs.Ytmhfoieeldiecaa
open Go Go.Mx Go.Proofs
theorem inf52 : (Try.prog.info? 52).map (fun i => (i.zero, i.size, i.bytes)) = some (some (.agg #[.int .i64 0, .int .u64 0, .int .i64 0, .int .i64 0, .int .i64 0]), 5, 40) := by kernel_rfl
/-- cachetteref12.New -/
def cachetteref12_New.M (publicv1 : Int) (R : Value → World → Prop) (w : World) : Prop :=
  thenW (w.alloc (.cells #[.slice none 0 0, .int .i64 0] 45)) fun ww2 =>
  thenW (ww2.alloc (.cells #[.int .i64 0, .int .u64 publicv1, .int .i64 0, .int .i64 (-1), .int .i64 0] 52)) fun ww3 =>
  canStore ww3 ((blk w.heap.size).add 0) ∧
  thenW (ww3.setCell ((blk w.heap.size).add 0) (.slice (some (blk ww2.heap.size)) 1 1)) fun ww4 =>
  canStore ww4 ((blk w.heap.size).add 1) ∧
  thenW (ww4.setCell ((blk w.heap.size).add 1) (.int .i64 (-1))) fun ww5 =>
  ∃ (resL6a : Option Addr) (resL6n : Nat) (resL6c : Nat) (resEpoch7 : Int), cellsAt ww5 (blk w.heap.size) [.slice resL6a resL6n resL6c, .int .i64 resEpoch7] 0 ∧
  R (.agg #[.slice resL6a resL6n resL6c, .int .i64 resEpoch7]) ww5

theorem cachetteref12_New.eq (publicv1 : Int) (R : Value → World → Prop) (w : World) : mfunc Try.prog [] 19 [.int .u64 publicv1] R w = cachetteref12_New.M publicv1 R w := by kernel_rfl
theorem cachetteref12_New.ok (publicv1 : Int) {R : Value → World → Prop} {w : World} (h : cachetteref12_New.M publicv1 R w) : Calls Try.prog 19 #[.int .u64 publicv1] w fun e w' => ∃ v, e = .returned v ∧ R v w' :=
  mfunc_ok follows (H := []) (args := [.int .u64 publicv1]) (by rw [cachetteref12_New.eq]; exact h)

def cachetteref12_New.N (publicv1 : Int) (R : Value → World → Prop) (w : World) : Prop :=
  ∀ (ww3 : World) (q4 : Nat) (p5 : Nat), Ext no w ww3 → Blk ww3 q4 52 [.int .i64 0, .int .u64 publicv1, .int .i64 0, .int .i64 (-1), .int .i64 0] → w.heap.size ≤ q4 → q4 < ww3.heap.size → Privq w q4 [p5] →
  ∀ (ww7 : World), Ext (fun b => b = p5) ww3 ww7 →
  R (.agg #[.slice (some (blk q4)) 1 1, .int .i64 (-1)]) ww7

theorem cachetteref12_New.up (publicv1 : Int) {R : Value → World → Prop} {w : World} (h : cachetteref12_New.N publicv1 R w) : cachetteref12_New.M publicv1 R w := by
  unfold cachetteref12_New.M
  unfold cachetteref12_New.N at h
  refine thenW_in fun ww2 e2 => ?_
  have hb1 := Blk.of_new e2
  have hg1 := ((Ext.refl no w)).size
  have hx2 := (Ext.refl no w).x_alloc e2
  refine thenW_in fun ww3 e3 => ?_
  have hl1 := hb1.lt
  have hb1 := hb1.x_alloc e3
  have h := h ww3 ww2.heap.size (w.heap.size) (hx2.x_alloc e3) (Blk.of_new e3) (hx2).size (size_lt_alloc e3) (Privq.cons hg1 hl1 Privq.nil)
  have hm7 : Ext (fun b => b = w.heap.size) ww3 ww3 := ((Ext.refl no ww3)).none
  refine ⟨hb1.cani 0 rfl rfl, thenW_in fun ww6 e6 => ?_⟩
  have hx6 := hm7.x_set (q := w.heap.size) (i := 0) rfl (.inl rfl) e6
  have hb1 := hb1.seti 0 rfl e6
  refine ⟨hb1.cani 1 rfl rfl, thenW_in fun ww7 e7 => ?_⟩
  have hx7 := hx6.x_set (q := w.heap.size) (i := 1) rfl (.inl rfl) e7
  have hb1 := hb1.seti 1 rfl e7
  refine ⟨(some (blk ww2.heap.size)), 1, 1, (-1), ⟨hb1.celli 0 rfl rfl, hb1.celli 1 rfl rfl, trivial⟩, ?_⟩
  have h := h ww7 hx7
  exact h

theorem cachetteref12_New.go (publicv1 : Int) {R : Value → World → Prop} {w : World} (h : cachetteref12_New.N publicv1 R w) : Calls Try.prog 19 #[.int .u64 publicv1] w fun e w' => ∃ v, e = .returned v ∧ R v w' := cachetteref12_New.ok publicv1 (cachetteref12_New.up publicv1 h)
theorem cachetteref12_New.run (publicv1 : Int) {V : Value} {Q : World → Prop} {w : World} (h : cachetteref12_New.N publicv1 (fun v w' => v = V ∧ Q w') w) : Calls Try.prog 19 #[.int .u64 publicv1] w (Ret V Q) := (cachetteref12_New.go publicv1 h).mono fun e w' ⟨v, he, hv, hq⟩ => ⟨by rw [he, hv], hq⟩

/-- cachetteref12.who -/
def cachetteref12_who.M (n1 : Int) (R : Value → World → Prop) (w : World) : Prop :=
  bif decide (n1 ≥ 0) then (
  R (.bool (decide (n1 < 8))) w) else (
  R (.bool false) w)

theorem cachetteref12_who.eq (n1 : Int) (R : Value → World → Prop) (w : World) : mfunc Try.prog [] 56 [.int .i64 n1] R w = cachetteref12_who.M n1 R w := by kernel_rfl
theorem cachetteref12_who.ok (n1 : Int) {R : Value → World → Prop} {w : World} (h : cachetteref12_who.M n1 R w) : Calls Try.prog 56 #[.int .i64 n1] w fun e w' => ∃ v, e = .returned v ∧ R v w' :=
  mfunc_ok follows (H := []) (args := [.int .i64 n1]) (by rw [cachetteref12_who.eq]; exact h)

def cachetteref12_who.N (n1 : Int) (R : Value → World → Prop) (w : World) : Prop :=
  (n1 ≥ 0 →
    R (.bool (decide (n1 < 8))) w) ∧
  (n1 < 0 →
    R (.bool false) w)

theorem cachetteref12_who.up (n1 : Int) {R : Value → World → Prop} {w : World} (h : cachetteref12_who.N n1 R w) : cachetteref12_who.M n1 R w := by
  unfold cachetteref12_who.M
  unfold cachetteref12_who.N at h
  refine bif_of (fun c2 => ?_) (fun c2 => ?_)
  · have h := h.1 (of_decide_eq_true c2)
    exact h
  · have h := h.2 (Int.not_le.1 (of_decide_eq_false c2))
    exact h

theorem cachetteref12_who.go (n1 : Int) {R : Value → World → Prop} {w : World} (h : cachetteref12_who.N n1 R w) : Calls Try.prog 56 #[.int .i64 n1] w fun e w' => ∃ v, e = .returned v ∧ R v w' := cachetteref12_who.ok n1 (cachetteref12_who.up n1 h)
theorem cachetteref12_who.run (n1 : Int) {V : Value} {Q : World → Prop} {w : World} (h : cachetteref12_who.N n1 (fun v w' => v = V ∧ Q w') w) : Calls Try.prog 56 #[.int .i64 n1] w (Ret V Q) := (cachetteref12_who.go n1 h).mono fun e w' ⟨v, he, hv, hq⟩ => ⟨by rw [he, hv], hq⟩

def cachetteref12_who.F (n1 : Int) : Bool :=
  if n1 ≥ 0 then
    (decide (n1 < 8))
  else
    false
theorem cachetteref12_who.pure (n1 : Int) {w : World} : Calls Try.prog 56 #[.int .i64 n1] w (Ret (.bool (cachetteref12_who.F n1)) fun w' => Ext no w w') := by
  refine cachetteref12_who.run n1 ?_
  unfold cachetteref12_who.N
  refine ⟨fun c0 => ?_, fun c0 => ?_⟩
  · exact ⟨by unfold cachetteref12_who.F; rw [if_pos c0], Ext.refl _ _⟩
  · exact ⟨by unfold cachetteref12_who.F; rw [if_neg (by omega)], Ext.refl _ _⟩

/-- cachetteref12.Right -/
def cachetteref12_Right.M (cKind1 : Int) (cWho2 : Int) (cPublic3 : Int) (cLimit4 : Int) (cWraps5a : Option Addr) (cWraps5n : Nat) (cWraps5c : Nat) (cOld6a : Option Addr) (cOld6n : Nat) (cOld6c : Nat) (R : Value → World → Prop) (w : World) : Prop :=
  thenW (w.alloc (.cells #[.int .i64 cKind1, .int .i64 cWho2, .int .u64 cPublic3, .int .i64 cLimit4, .slice cWraps5a cWraps5n cWraps5c, .slice cOld6a cOld6n cOld6c] 40)) fun ww7 =>
  ∃ (Old8a : Option Addr) (Old8n : Nat) (Old8c : Nat), ww7.cell? ((blk w.heap.size).add 5) = some (.slice Old8a Old8n Old8c) ∧
  bif (Old8n : Int) != 0 then (
  ∃ (Kind9 : Int), ww7.cell? ((blk w.heap.size).add 0) = some (.int .i64 Kind9) ∧
  bif Kind9 != 3 then (
  R (.bool false) ww7) else (
  ∃ (Old10a : Option Addr) (Old10n : Nat) (Old10c : Nat), ww7.cell? ((blk w.heap.size).add 5) = some (.slice Old10a Old10n Old10c) ∧
  bif (Old10n : Int) != 24 then (
  R (.bool false) ww7) else (
  ∃ (Kind11 : Int), ww7.cell? ((blk w.heap.size).add 0) = some (.int .i64 Kind11) ∧
  bif Kind11 == 1 then (
  ∃ (Who12 : Int), ww7.cell? ((blk w.heap.size).add 1) = some (.int .i64 Who12) ∧
  Calls Try.prog 56 #[.int .i64 Who12] ww7 fun ee14 ww15 => ∃ (who13 : Bool), ee14 = .returned (.bool who13) ∧
  bif who13 then (
  ∃ (Public16 : Int), ww15.cell? ((blk w.heap.size).add 2) = some (.int .u64 Public16) ∧
  bif Public16 != 0 then (
  ∃ (Limit17 : Int), ww15.cell? ((blk w.heap.size).add 3) = some (.int .i64 Limit17) ∧
  bif Limit17 == 0 then (
  ∃ (Wraps18a : Option Addr) (Wraps18n : Nat) (Wraps18c : Nat), ww15.cell? ((blk w.heap.size).add 4) = some (.slice Wraps18a Wraps18n Wraps18c) ∧
  R (.bool ((Wraps18n : Int) == 0)) ww15) else (
  R (.bool false) ww15)) else (
  R (.bool false) ww15)) else (
  R (.bool false) ww15)) else (
  bif Kind11 == 2 then (
  ∃ (Who19 : Int), ww7.cell? ((blk w.heap.size).add 1) = some (.int .i64 Who19) ∧
  Calls Try.prog 56 #[.int .i64 Who19] ww7 fun ee21 ww22 => ∃ (who20 : Bool), ee21 = .returned (.bool who20) ∧
  bif who20 then (
  ∃ (Who23 : Int), ww22.cell? ((blk w.heap.size).add 1) = some (.int .i64 Who23) ∧
  bif Who23 != 0 then (
  ∃ (Public24 : Int), ww22.cell? ((blk w.heap.size).add 2) = some (.int .u64 Public24) ∧
  bif Public24 == 0 then (
  ∃ (Limit25 : Int), ww22.cell? ((blk w.heap.size).add 3) = some (.int .i64 Limit25) ∧
  bif decide (Limit25 ≥ 0) then (
  ∃ (Limit26 : Int), ww22.cell? ((blk w.heap.size).add 3) = some (.int .i64 Limit26) ∧
  bif decide (Limit26 ≤ 200) then (
  ∃ (Wraps27a : Option Addr) (Wraps27n : Nat) (Wraps27c : Nat), ww22.cell? ((blk w.heap.size).add 4) = some (.slice Wraps27a Wraps27n Wraps27c) ∧
  R (.bool ((Wraps27n : Int) == 0)) ww22) else (
  R (.bool false) ww22)) else (
  R (.bool false) ww22)) else (
  R (.bool false) ww22)) else (
  R (.bool false) ww22)) else (
  R (.bool false) ww22)) else (
  bif Kind11 == 3 then (
  ∃ (I1 : Nat → List Value → World → Prop) (m29 : Nat), I1 m29 [.int .i64 0] ww7 ∧ ∀ (m30 : Nat) (ww31 : World) (i28 : Int), I1 m30 [.int .i64 i28] ww31 →
  ∃ (Wraps32a : Option Addr) (Wraps32n : Nat) (Wraps32c : Nat), ww31.cell? ((blk w.heap.size).add 4) = some (.slice Wraps32a Wraps32n Wraps32c) ∧
  bif decide (i28 < (Wraps32n : Int)) then (
  thenW (ww31.drew) fun ww33 =>
  ∃ (Wraps34a : Option Addr) (Wraps34n : Nat) (Wraps34c : Nat), ww33.cell? ((blk w.heap.size).add 4) = some (.slice Wraps34a Wraps34n Wraps34c) ∧
  Wraps34a.elim False fun a35 =>
  0 ≤ (i28 : Int) ∧ (i28 : Int) < (Wraps34n : Int) ∧
  ∃ (Who36 : Int), ww33.cell? ((a35.add (Int.toNat i28 * 2)).add 0) = some (.int .i64 Who36) ∧
  Calls Try.prog 56 #[.int .i64 Who36] ww33 fun ee38 ww39 => ∃ (who37 : Bool), ee38 = .returned (.bool who37) ∧
  bif !who37 then (
  R (.bool false) ww39) else (
  ∃ (Wraps40a : Option Addr) (Wraps40n : Nat) (Wraps40c : Nat), ww39.cell? ((blk w.heap.size).add 4) = some (.slice Wraps40a Wraps40n Wraps40c) ∧
  Wraps40a.elim False fun a41 =>
  0 ≤ (i28 : Int) ∧ (i28 : Int) < (Wraps40n : Int) ∧
  ∃ (B42a : Option Addr) (B42n : Nat) (B42c : Nat), ww39.cell? ((a41.add (Int.toNat i28 * 2)).add 1) = some (.slice B42a B42n B42c) ∧
  bif (B42n : Int) != 16 then (
  R (.bool false) ww39) else (
  bif decide (i28 > 0) then (
  ∃ (Wraps43a : Option Addr) (Wraps43n : Nat) (Wraps43c : Nat), ww39.cell? ((blk w.heap.size).add 4) = some (.slice Wraps43a Wraps43n Wraps43c) ∧
  Wraps43a.elim False fun a44 =>
  0 ≤ ((IntKind.i64.wrap (i28 - 1)) : Int) ∧ ((IntKind.i64.wrap (i28 - 1)) : Int) < (Wraps43n : Int) ∧
  ∃ (Who45 : Int), ww39.cell? ((a44.add (Int.toNat (IntKind.i64.wrap (i28 - 1)) * 2)).add 0) = some (.int .i64 Who45) ∧
  ∃ (Wraps46a : Option Addr) (Wraps46n : Nat) (Wraps46c : Nat), ww39.cell? ((blk w.heap.size).add 4) = some (.slice Wraps46a Wraps46n Wraps46c) ∧
  Wraps46a.elim False fun a47 =>
  0 ≤ (i28 : Int) ∧ (i28 : Int) < (Wraps46n : Int) ∧
  ∃ (Who48 : Int), ww39.cell? ((a47.add (Int.toNat i28 * 2)).add 0) = some (.int .i64 Who48) ∧
  bif decide (Who45 ≥ Who48) then (
  R (.bool false) ww39) else (
  ∃ m49, m49 < m30 ∧ I1 m49 [.int .i64 (IntKind.i64.wrap (i28 + 1))] ww39)) else (
  ∃ m50, m50 < m30 ∧ I1 m50 [.int .i64 (IntKind.i64.wrap (i28 + 1))] ww39)))) else (
  ∃ (Who51 : Int), ww31.cell? ((blk w.heap.size).add 1) = some (.int .i64 Who51) ∧
  bif Who51 == 0 then (
  ∃ (Public52 : Int), ww31.cell? ((blk w.heap.size).add 2) = some (.int .u64 Public52) ∧
  bif Public52 == 0 then (
  ∃ (Limit53 : Int), ww31.cell? ((blk w.heap.size).add 3) = some (.int .i64 Limit53) ∧
  bif Limit53 == 0 then (
  ∃ (Wraps54a : Option Addr) (Wraps54n : Nat) (Wraps54c : Nat), ww31.cell? ((blk w.heap.size).add 4) = some (.slice Wraps54a Wraps54n Wraps54c) ∧
  R (.bool (decide ((Wraps54n : Int) > 0))) ww31) else (
  R (.bool false) ww31)) else (
  R (.bool false) ww31)) else (
  R (.bool false) ww31))) else (
  R (.bool false) ww7)))))) else (
  ∃ (Kind55 : Int), ww7.cell? ((blk w.heap.size).add 0) = some (.int .i64 Kind55) ∧
  bif Kind55 == 1 then (
  ∃ (Who56 : Int), ww7.cell? ((blk w.heap.size).add 1) = some (.int .i64 Who56) ∧
  Calls Try.prog 56 #[.int .i64 Who56] ww7 fun ee58 ww59 => ∃ (who57 : Bool), ee58 = .returned (.bool who57) ∧
  bif who57 then (
  ∃ (Public60 : Int), ww59.cell? ((blk w.heap.size).add 2) = some (.int .u64 Public60) ∧
  bif Public60 != 0 then (
  ∃ (Limit61 : Int), ww59.cell? ((blk w.heap.size).add 3) = some (.int .i64 Limit61) ∧
  bif Limit61 == 0 then (
  ∃ (Wraps62a : Option Addr) (Wraps62n : Nat) (Wraps62c : Nat), ww59.cell? ((blk w.heap.size).add 4) = some (.slice Wraps62a Wraps62n Wraps62c) ∧
  R (.bool ((Wraps62n : Int) == 0)) ww59) else (
  R (.bool false) ww59)) else (
  R (.bool false) ww59)) else (
  R (.bool false) ww59)) else (
  bif Kind55 == 2 then (
  ∃ (Who63 : Int), ww7.cell? ((blk w.heap.size).add 1) = some (.int .i64 Who63) ∧
  Calls Try.prog 56 #[.int .i64 Who63] ww7 fun ee65 ww66 => ∃ (who64 : Bool), ee65 = .returned (.bool who64) ∧
  bif who64 then (
  ∃ (Who67 : Int), ww66.cell? ((blk w.heap.size).add 1) = some (.int .i64 Who67) ∧
  bif Who67 != 0 then (
  ∃ (Public68 : Int), ww66.cell? ((blk w.heap.size).add 2) = some (.int .u64 Public68) ∧
  bif Public68 == 0 then (
  ∃ (Limit69 : Int), ww66.cell? ((blk w.heap.size).add 3) = some (.int .i64 Limit69) ∧
  bif decide (Limit69 ≥ 0) then (
  ∃ (Limit70 : Int), ww66.cell? ((blk w.heap.size).add 3) = some (.int .i64 Limit70) ∧
  bif decide (Limit70 ≤ 200) then (
  ∃ (Wraps71a : Option Addr) (Wraps71n : Nat) (Wraps71c : Nat), ww66.cell? ((blk w.heap.size).add 4) = some (.slice Wraps71a Wraps71n Wraps71c) ∧
  R (.bool ((Wraps71n : Int) == 0)) ww66) else (
  R (.bool false) ww66)) else (
  R (.bool false) ww66)) else (
  R (.bool false) ww66)) else (
  R (.bool false) ww66)) else (
  R (.bool false) ww66)) else (
  bif Kind55 == 3 then (
  ∃ (I1 : Nat → List Value → World → Prop) (m73 : Nat), I1 m73 [.int .i64 0] ww7 ∧ ∀ (m74 : Nat) (ww75 : World) (i72 : Int), I1 m74 [.int .i64 i72] ww75 →
  ∃ (Wraps76a : Option Addr) (Wraps76n : Nat) (Wraps76c : Nat), ww75.cell? ((blk w.heap.size).add 4) = some (.slice Wraps76a Wraps76n Wraps76c) ∧
  bif decide (i72 < (Wraps76n : Int)) then (
  thenW (ww75.drew) fun ww77 =>
  ∃ (Wraps78a : Option Addr) (Wraps78n : Nat) (Wraps78c : Nat), ww77.cell? ((blk w.heap.size).add 4) = some (.slice Wraps78a Wraps78n Wraps78c) ∧
  Wraps78a.elim False fun a79 =>
  0 ≤ (i72 : Int) ∧ (i72 : Int) < (Wraps78n : Int) ∧
  ∃ (Who80 : Int), ww77.cell? ((a79.add (Int.toNat i72 * 2)).add 0) = some (.int .i64 Who80) ∧
  Calls Try.prog 56 #[.int .i64 Who80] ww77 fun ee82 ww83 => ∃ (who81 : Bool), ee82 = .returned (.bool who81) ∧
  bif !who81 then (
  R (.bool false) ww83) else (
  ∃ (Wraps84a : Option Addr) (Wraps84n : Nat) (Wraps84c : Nat), ww83.cell? ((blk w.heap.size).add 4) = some (.slice Wraps84a Wraps84n Wraps84c) ∧
  Wraps84a.elim False fun a85 =>
  0 ≤ (i72 : Int) ∧ (i72 : Int) < (Wraps84n : Int) ∧
  ∃ (B86a : Option Addr) (B86n : Nat) (B86c : Nat), ww83.cell? ((a85.add (Int.toNat i72 * 2)).add 1) = some (.slice B86a B86n B86c) ∧
  bif (B86n : Int) != 16 then (
  R (.bool false) ww83) else (
  bif decide (i72 > 0) then (
  ∃ (Wraps87a : Option Addr) (Wraps87n : Nat) (Wraps87c : Nat), ww83.cell? ((blk w.heap.size).add 4) = some (.slice Wraps87a Wraps87n Wraps87c) ∧
  Wraps87a.elim False fun a88 =>
  0 ≤ ((IntKind.i64.wrap (i72 - 1)) : Int) ∧ ((IntKind.i64.wrap (i72 - 1)) : Int) < (Wraps87n : Int) ∧
  ∃ (Who89 : Int), ww83.cell? ((a88.add (Int.toNat (IntKind.i64.wrap (i72 - 1)) * 2)).add 0) = some (.int .i64 Who89) ∧
  ∃ (Wraps90a : Option Addr) (Wraps90n : Nat) (Wraps90c : Nat), ww83.cell? ((blk w.heap.size).add 4) = some (.slice Wraps90a Wraps90n Wraps90c) ∧
  Wraps90a.elim False fun a91 =>
  0 ≤ (i72 : Int) ∧ (i72 : Int) < (Wraps90n : Int) ∧
  ∃ (Who92 : Int), ww83.cell? ((a91.add (Int.toNat i72 * 2)).add 0) = some (.int .i64 Who92) ∧
  bif decide (Who89 ≥ Who92) then (
  R (.bool false) ww83) else (
  ∃ m93, m93 < m74 ∧ I1 m93 [.int .i64 (IntKind.i64.wrap (i72 + 1))] ww83)) else (
  ∃ m94, m94 < m74 ∧ I1 m94 [.int .i64 (IntKind.i64.wrap (i72 + 1))] ww83)))) else (
  ∃ (Who95 : Int), ww75.cell? ((blk w.heap.size).add 1) = some (.int .i64 Who95) ∧
  bif Who95 == 0 then (
  ∃ (Public96 : Int), ww75.cell? ((blk w.heap.size).add 2) = some (.int .u64 Public96) ∧
  bif Public96 == 0 then (
  ∃ (Limit97 : Int), ww75.cell? ((blk w.heap.size).add 3) = some (.int .i64 Limit97) ∧
  bif Limit97 == 0 then (
  ∃ (Wraps98a : Option Addr) (Wraps98n : Nat) (Wraps98c : Nat), ww75.cell? ((blk w.heap.size).add 4) = some (.slice Wraps98a Wraps98n Wraps98c) ∧
  R (.bool (decide ((Wraps98n : Int) > 0))) ww75) else (
  R (.bool false) ww75)) else (
  R (.bool false) ww75)) else (
  R (.bool false) ww75))) else (
  R (.bool false) ww7))))

theorem cachetteref12_Right.eq (cKind1 : Int) (cWho2 : Int) (cPublic3 : Int) (cLimit4 : Int) (cWraps5a : Option Addr) (cWraps5n : Nat) (cWraps5c : Nat) (cOld6a : Option Addr) (cOld6n : Nat) (cOld6c : Nat) (R : Value → World → Prop) (w : World) : mfunc Try.prog [(1, [1], [(3, (.one (.int .i64)))])] 32 [.agg #[.int .i64 cKind1, .int .i64 cWho2, .int .u64 cPublic3, .int .i64 cLimit4, .slice cWraps5a cWraps5n cWraps5c, .slice cOld6a cOld6n cOld6c]] R w = cachetteref12_Right.M cKind1 cWho2 cPublic3 cLimit4 cWraps5a cWraps5n cWraps5c cOld6a cOld6n cOld6c R w := by kernel_rfl
theorem cachetteref12_Right.ok (cKind1 : Int) (cWho2 : Int) (cPublic3 : Int) (cLimit4 : Int) (cWraps5a : Option Addr) (cWraps5n : Nat) (cWraps5c : Nat) (cOld6a : Option Addr) (cOld6n : Nat) (cOld6c : Nat) {R : Value → World → Prop} {w : World} (h : cachetteref12_Right.M cKind1 cWho2 cPublic3 cLimit4 cWraps5a cWraps5n cWraps5c cOld6a cOld6n cOld6c R w) : Calls Try.prog 32 #[.agg #[.int .i64 cKind1, .int .i64 cWho2, .int .u64 cPublic3, .int .i64 cLimit4, .slice cWraps5a cWraps5n cWraps5c, .slice cOld6a cOld6n cOld6c]] w fun e w' => ∃ v, e = .returned v ∧ R v w' :=
  mfunc_ok follows (H := [(1, [1], [(3, (.one (.int .i64)))])]) (args := [.agg #[.int .i64 cKind1, .int .i64 cWho2, .int .u64 cPublic3, .int .i64 cLimit4, .slice cWraps5a cWraps5n cWraps5c, .slice cOld6a cOld6n cOld6c]]) (by rw [cachetteref12_Right.eq]; exact h)

def cachetteref12_Right.N (cKind1 : Int) (cWho2 : Int) (cPublic3 : Int) (cLimit4 : Int) (cWraps5a : Option Addr) (cWraps5n : Nat) (cWraps5c : Nat) (cOld6a : Option Addr) (cOld6n : Nat) (cOld6c : Nat) (R : Value → World → Prop) (w : World) : Prop :=
  ((cOld6n : Int) ≠ 0 →
    (cKind1 ≠ 3 →
      ∀ (ww7 : World), Ext no w ww7 →
      R (.bool false) ww7) ∧
    (cKind1 = 3 →
      ((cOld6n : Int) ≠ 24 →
        ∀ (ww7 : World), Ext no w ww7 →
        R (.bool false) ww7) ∧
      ((cOld6n : Int) = 24 →
        (cKind1 = 1 →
          ((cachetteref12_who.F cWho2) = true →
            (cPublic3 ≠ 0 →
              (cLimit4 = 0 →
                ∀ (ww14 : World), Ext no w ww14 →
                R (.bool ((cWraps5n : Int) == 0)) ww14) ∧
              (cLimit4 ≠ 0 →
                ∀ (ww14 : World), Ext no w ww14 →
                R (.bool false) ww14)) ∧
            (cPublic3 = 0 →
              ∀ (ww14 : World), Ext no w ww14 →
              R (.bool false) ww14)) ∧
          ((cachetteref12_who.F cWho2) = false →
            ∀ (ww14 : World), Ext no w ww14 →
            R (.bool false) ww14)) ∧
        (cKind1 ≠ 1 →
          (cKind1 = 2 →
            ((cachetteref12_who.F cWho2) = true →
              (cWho2 ≠ 0 →
                (cPublic3 = 0 →
                  (cLimit4 ≥ 0 →
                    (cLimit4 ≤ 200 →
                      ∀ (ww23 : World), Ext no w ww23 →
                      R (.bool ((cWraps5n : Int) == 0)) ww23) ∧
                    ((200 : Int) < cLimit4 →
                      ∀ (ww23 : World), Ext no w ww23 →
                      R (.bool false) ww23)) ∧
                  (cLimit4 < 0 →
                    ∀ (ww23 : World), Ext no w ww23 →
                    R (.bool false) ww23)) ∧
                (cPublic3 ≠ 0 →
                  ∀ (ww23 : World), Ext no w ww23 →
                  R (.bool false) ww23)) ∧
              (cWho2 = 0 →
                ∀ (ww23 : World), Ext no w ww23 →
                R (.bool false) ww23)) ∧
            ((cachetteref12_who.F cWho2) = false →
              ∀ (ww23 : World), Ext no w ww23 →
              R (.bool false) ww23)) ∧
          (cKind1 ≠ 2 →
            (cKind1 = 3 →
              ∀ (ww7 : World), Ext no w ww7 →
              ∃ (I1 : Nat → List Value → World → Prop) (m38 : Nat), I1 m38 [.int .i64 0] ww7 ∧ ∀ (m39 : Nat) (ww40 : World) (i37 : Int), I1 m39 [.int .i64 i37] ww40 →
              (i37 < (cWraps5n : Int) →
                ∃ a43 : Addr, cWraps5a = some a43 ∧
                0 ≤ (i37 : Int) ∧ (i37 : Int) < (cWraps5n : Int) ∧
                ∃ (Who45 : Int), ww40.cell? ((a43.add (Int.toNat i37 * 2)).add 0) = some (.int .i64 Who45) ∧
                ((cachetteref12_who.F Who45) = false →
                  ∀ (ww46 : World), Ext no ww40 ww46 →
                  R (.bool false) ww46) ∧
                ((cachetteref12_who.F Who45) = true →
                  0 ≤ (i37 : Int) ∧ (i37 : Int) < (cWraps5n : Int) ∧
                  ∃ (B49a : Option Addr) (B49n : Nat) (B49c : Nat), ww40.cell? ((a43.add (Int.toNat i37 * 2)).add 1) = some (.slice B49a B49n B49c) ∧
                  ((B49n : Int) ≠ 16 →
                    ∀ (ww46 : World), Ext no ww40 ww46 →
                    R (.bool false) ww46) ∧
                  ((B49n : Int) = 16 →
                    (i37 > 0 →
                      (-9223372036854775808 : Int) ≤ (i37 - 1) ∧ (i37 - 1) < 9223372036854775808 ∧
                      0 ≤ ((i37 - 1) : Int) ∧ ((i37 - 1) : Int) < (cWraps5n : Int) ∧
                      ∃ (Who53 : Int), ww40.cell? ((a43.add (Int.toNat (i37 - 1) * 2)).add 0) = some (.int .i64 Who53) ∧
                      0 ≤ (i37 : Int) ∧ (i37 : Int) < (cWraps5n : Int) ∧
                      ∃ (Who55 : Int), ww40.cell? ((a43.add (Int.toNat i37 * 2)).add 0) = some (.int .i64 Who55) ∧
                      (Who53 ≥ Who55 →
                        ∀ (ww46 : World), Ext no ww40 ww46 →
                        R (.bool false) ww46) ∧
                      (Who53 < Who55 →
                        (-9223372036854775808 : Int) ≤ (i37 + 1) ∧ (i37 + 1) < 9223372036854775808 ∧
                        ∀ (ww46 : World), Ext no ww40 ww46 →
                        ∃ m57, m57 < m39 ∧ I1 m57 [.int .i64 (i37 + 1)] ww46)) ∧
                    (i37 ≤ 0 →
                      (-9223372036854775808 : Int) ≤ (i37 + 1) ∧ (i37 + 1) < 9223372036854775808 ∧
                      ∀ (ww46 : World), Ext no ww40 ww46 →
                      ∃ m58, m58 < m39 ∧ I1 m58 [.int .i64 (i37 + 1)] ww46)))) ∧
              ((cWraps5n : Int) ≤ i37 →
                (cWho2 = 0 →
                  (cPublic3 = 0 →
                    (cLimit4 = 0 →
                      R (.bool (decide ((cWraps5n : Int) > 0))) ww40) ∧
                    (cLimit4 ≠ 0 →
                      R (.bool false) ww40)) ∧
                  (cPublic3 ≠ 0 →
                    R (.bool false) ww40)) ∧
                (cWho2 ≠ 0 →
                  R (.bool false) ww40))) ∧
            (cKind1 ≠ 3 →
              ∀ (ww7 : World), Ext no w ww7 →
              R (.bool false) ww7)))))) ∧
  ((cOld6n : Int) = 0 →
    (cKind1 = 1 →
      ((cachetteref12_who.F cWho2) = true →
        (cPublic3 ≠ 0 →
          (cLimit4 = 0 →
            ∀ (ww64 : World), Ext no w ww64 →
            R (.bool ((cWraps5n : Int) == 0)) ww64) ∧
          (cLimit4 ≠ 0 →
            ∀ (ww64 : World), Ext no w ww64 →
            R (.bool false) ww64)) ∧
        (cPublic3 = 0 →
          ∀ (ww64 : World), Ext no w ww64 →
          R (.bool false) ww64)) ∧
      ((cachetteref12_who.F cWho2) = false →
        ∀ (ww64 : World), Ext no w ww64 →
        R (.bool false) ww64)) ∧
    (cKind1 ≠ 1 →
      (cKind1 = 2 →
        ((cachetteref12_who.F cWho2) = true →
          (cWho2 ≠ 0 →
            (cPublic3 = 0 →
              (cLimit4 ≥ 0 →
                (cLimit4 ≤ 200 →
                  ∀ (ww73 : World), Ext no w ww73 →
                  R (.bool ((cWraps5n : Int) == 0)) ww73) ∧
                ((200 : Int) < cLimit4 →
                  ∀ (ww73 : World), Ext no w ww73 →
                  R (.bool false) ww73)) ∧
              (cLimit4 < 0 →
                ∀ (ww73 : World), Ext no w ww73 →
                R (.bool false) ww73)) ∧
            (cPublic3 ≠ 0 →
              ∀ (ww73 : World), Ext no w ww73 →
              R (.bool false) ww73)) ∧
          (cWho2 = 0 →
            ∀ (ww73 : World), Ext no w ww73 →
            R (.bool false) ww73)) ∧
        ((cachetteref12_who.F cWho2) = false →
          ∀ (ww73 : World), Ext no w ww73 →
          R (.bool false) ww73)) ∧
      (cKind1 ≠ 2 →
        (cKind1 = 3 →
          ∀ (ww7 : World), Ext no w ww7 →
          ∃ (I1 : Nat → List Value → World → Prop) (m88 : Nat), I1 m88 [.int .i64 0] ww7 ∧ ∀ (m89 : Nat) (ww90 : World) (i87 : Int), I1 m89 [.int .i64 i87] ww90 →
          (i87 < (cWraps5n : Int) →
            ∃ a93 : Addr, cWraps5a = some a93 ∧
            0 ≤ (i87 : Int) ∧ (i87 : Int) < (cWraps5n : Int) ∧
            ∃ (Who95 : Int), ww90.cell? ((a93.add (Int.toNat i87 * 2)).add 0) = some (.int .i64 Who95) ∧
            ((cachetteref12_who.F Who95) = false →
              ∀ (ww96 : World), Ext no ww90 ww96 →
              R (.bool false) ww96) ∧
            ((cachetteref12_who.F Who95) = true →
              0 ≤ (i87 : Int) ∧ (i87 : Int) < (cWraps5n : Int) ∧
              ∃ (B99a : Option Addr) (B99n : Nat) (B99c : Nat), ww90.cell? ((a93.add (Int.toNat i87 * 2)).add 1) = some (.slice B99a B99n B99c) ∧
              ((B99n : Int) ≠ 16 →
                ∀ (ww96 : World), Ext no ww90 ww96 →
                R (.bool false) ww96) ∧
              ((B99n : Int) = 16 →
                (i87 > 0 →
                  (-9223372036854775808 : Int) ≤ (i87 - 1) ∧ (i87 - 1) < 9223372036854775808 ∧
                  0 ≤ ((i87 - 1) : Int) ∧ ((i87 - 1) : Int) < (cWraps5n : Int) ∧
                  ∃ (Who103 : Int), ww90.cell? ((a93.add (Int.toNat (i87 - 1) * 2)).add 0) = some (.int .i64 Who103) ∧
                  0 ≤ (i87 : Int) ∧ (i87 : Int) < (cWraps5n : Int) ∧
                  ∃ (Who105 : Int), ww90.cell? ((a93.add (Int.toNat i87 * 2)).add 0) = some (.int .i64 Who105) ∧
                  (Who103 ≥ Who105 →
                    ∀ (ww96 : World), Ext no ww90 ww96 →
                    R (.bool false) ww96) ∧
                  (Who103 < Who105 →
                    (-9223372036854775808 : Int) ≤ (i87 + 1) ∧ (i87 + 1) < 9223372036854775808 ∧
                    ∀ (ww96 : World), Ext no ww90 ww96 →
                    ∃ m107, m107 < m89 ∧ I1 m107 [.int .i64 (i87 + 1)] ww96)) ∧
                (i87 ≤ 0 →
                  (-9223372036854775808 : Int) ≤ (i87 + 1) ∧ (i87 + 1) < 9223372036854775808 ∧
                  ∀ (ww96 : World), Ext no ww90 ww96 →
                  ∃ m108, m108 < m89 ∧ I1 m108 [.int .i64 (i87 + 1)] ww96)))) ∧
          ((cWraps5n : Int) ≤ i87 →
            (cWho2 = 0 →
              (cPublic3 = 0 →
                (cLimit4 = 0 →
                  R (.bool (decide ((cWraps5n : Int) > 0))) ww90) ∧
                (cLimit4 ≠ 0 →
                  R (.bool false) ww90)) ∧
              (cPublic3 ≠ 0 →
                R (.bool false) ww90)) ∧
            (cWho2 ≠ 0 →
              R (.bool false) ww90))) ∧
        (cKind1 ≠ 3 →
          ∀ (ww7 : World), Ext no w ww7 →
          R (.bool false) ww7))))

theorem cachetteref12_Right.up (cKind1 : Int) (cWho2 : Int) (cPublic3 : Int) (cLimit4 : Int) (cWraps5a : Option Addr) (cWraps5n : Nat) (cWraps5c : Nat) (cOld6a : Option Addr) (cOld6n : Nat) (cOld6c : Nat) {R : Value → World → Prop} {w : World} (h : cachetteref12_Right.N cKind1 cWho2 cPublic3 cLimit4 cWraps5a cWraps5n cWraps5c cOld6a cOld6n cOld6c R w) : cachetteref12_Right.M cKind1 cWho2 cPublic3 cLimit4 cWraps5a cWraps5n cWraps5c cOld6a cOld6n cOld6c R w := by
  unfold cachetteref12_Right.M
  unfold cachetteref12_Right.N at h
  refine thenW_in fun ww7 e7 => ?_
  have hb1 := Blk.of_new e7
  have hg1 := ((Ext.refl no w)).size
  have hx7 := (Ext.refl no w).x_alloc e7
  refine ⟨cOld6a, cOld6n, cOld6c, hb1.celli 5 rfl rfl, ?_⟩
  refine bif_of (fun c8 => ?_) (fun c8 => ?_)
  · have h := h.1 (bne_t c8)
    refine ⟨cKind1, hb1.celli 0 rfl rfl, ?_⟩
    refine bif_of (fun c9 => ?_) (fun c9 => ?_)
    · have h := h.1 (bne_t c9)
      have h := h ww7 hx7
      exact h
    · have h := h.2 (bne_f c9)
      refine ⟨cOld6a, cOld6n, cOld6c, hb1.celli 5 rfl rfl, ?_⟩
      refine bif_of (fun c11 => ?_) (fun c11 => ?_)
      · have h := h.1 (bne_t c11)
        have h := h ww7 hx7
        exact h
      · have h := h.2 (bne_f c11)
        refine ⟨cKind1, hb1.celli 0 rfl rfl, ?_⟩
        refine bif_of (fun c13 => ?_) (fun c13 => ?_)
        · have h := h.1 (beq_t c13)
          refine ⟨cWho2, hb1.celli 1 rfl rfl, ?_⟩
          refine (cachetteref12_who.pure cWho2).mono fun ee ww14 ⟨he, hxx⟩ => ⟨(cachetteref12_who.F cWho2), he, ?_⟩
          have hx14 := hx7.trans hxx
          have hb1 := hb1.ext hxx id
          refine bif_of (fun c15 => ?_) (fun c15 => ?_)
          · have h := h.1 c15
            refine ⟨cPublic3, hb1.celli 2 rfl rfl, ?_⟩
            refine bif_of (fun c16 => ?_) (fun c16 => ?_)
            · have h := h.1 (bne_t c16)
              refine ⟨cLimit4, hb1.celli 3 rfl rfl, ?_⟩
              refine bif_of (fun c17 => ?_) (fun c17 => ?_)
              · have h := h.1 (beq_t c17)
                refine ⟨cWraps5a, cWraps5n, cWraps5c, hb1.celli 4 rfl rfl, ?_⟩
                have h := h ww14 hx14
                exact h
              · have h := h.2 (beq_f c17)
                have h := h ww14 hx14
                exact h
            · have h := h.2 (bne_f c16)
              have h := h ww14 hx14
              exact h
          · have h := h.2 c15
            have h := h ww14 hx14
            exact h
        · have h := h.2 (beq_f c13)
          refine bif_of (fun c22 => ?_) (fun c22 => ?_)
          · have h := h.1 (beq_t c22)
            refine ⟨cWho2, hb1.celli 1 rfl rfl, ?_⟩
            refine (cachetteref12_who.pure cWho2).mono fun ee ww23 ⟨he, hxx⟩ => ⟨(cachetteref12_who.F cWho2), he, ?_⟩
            have hx23 := hx7.trans hxx
            have hb1 := hb1.ext hxx id
            refine bif_of (fun c24 => ?_) (fun c24 => ?_)
            · have h := h.1 c24
              refine ⟨cWho2, hb1.celli 1 rfl rfl, ?_⟩
              refine bif_of (fun c25 => ?_) (fun c25 => ?_)
              · have h := h.1 (bne_t c25)
                refine ⟨cPublic3, hb1.celli 2 rfl rfl, ?_⟩
                refine bif_of (fun c26 => ?_) (fun c26 => ?_)
                · have h := h.1 (beq_t c26)
                  refine ⟨cLimit4, hb1.celli 3 rfl rfl, ?_⟩
                  refine bif_of (fun c27 => ?_) (fun c27 => ?_)
                  · have h := h.1 (of_decide_eq_true c27)
                    refine ⟨cLimit4, hb1.celli 3 rfl rfl, ?_⟩
                    refine bif_of (fun c28 => ?_) (fun c28 => ?_)
                    · have h := h.1 (of_decide_eq_true c28)
                      refine ⟨cWraps5a, cWraps5n, cWraps5c, hb1.celli 4 rfl rfl, ?_⟩
                      have h := h ww23 hx23
                      exact h
                    · have h := h.2 (Int.not_le.1 (of_decide_eq_false c28))
                      have h := h ww23 hx23
                      exact h
                  · have h := h.2 (Int.not_le.1 (of_decide_eq_false c27))
                    have h := h ww23 hx23
                    exact h
                · have h := h.2 (beq_f c26)
                  have h := h ww23 hx23
                  exact h
              · have h := h.2 (bne_f c25)
                have h := h ww23 hx23
                exact h
            · have h := h.2 c24
              have h := h ww23 hx23
              exact h
          · have h := h.2 (beq_f c22)
            refine bif_of (fun c35 => ?_) (fun c35 => ?_)
            · have h := h.1 (beq_t c35)
              have h := h ww7 hx7
              obtain ⟨I1, m38, h0, h⟩ := h
              refine ⟨fun k vs ww => Blk ww w.heap.size 40 [.int .i64 cKind1, .int .i64 cWho2, .int .u64 cPublic3, .int .i64 cLimit4, .slice cWraps5a cWraps5n cWraps5c, .slice cOld6a cOld6n cOld6c] ∧ I1 k vs ww, m38, ⟨hb1, h0⟩, fun m39 ww40 i37 hI => ?_⟩
              obtain ⟨hb1, hI⟩ := hI
              have h := h m39 ww40 i37 hI
              refine ⟨cWraps5a, cWraps5n, cWraps5c, hb1.celli 4 rfl rfl, ?_⟩
              refine bif_of (fun c41 => ?_) (fun c41 => ?_)
              · have h := h.1 (of_decide_eq_true c41)
                refine thenW_in fun ww42 e42 => ?_
                have hx42 := (Ext.refl no ww40).x_drew e42
                have hb1 := hb1.x_drew e42
                refine ⟨cWraps5a, cWraps5n, cWraps5c, hb1.celli 4 rfl rfl, ?_⟩
                obtain ⟨a43, ha43, h⟩ := h
                refine elim_some ha43 ?_
                obtain ⟨hq1, hq2, h⟩ := h
                refine ⟨hq1, hq2, ?_⟩
                obtain ⟨Who45, hc44, h⟩ := h
                refine ⟨Who45, (hx42).cell hc44 id, ?_⟩
                refine (cachetteref12_who.pure Who45).mono fun ee ww46 ⟨he, hxx⟩ => ⟨(cachetteref12_who.F Who45), he, ?_⟩
                have hx46 := hx42.trans hxx
                have hb1 := hb1.ext hxx id
                refine bif_of (fun c47 => ?_) (fun c47 => ?_)
                · have h := h.1 (not_t c47)
                  have h := h ww46 hx46
                  exact h
                · have h := h.2 (not_f c47)
                  refine ⟨cWraps5a, cWraps5n, cWraps5c, hb1.celli 4 rfl rfl, ?_⟩
                  refine elim_some ha43 ?_
                  obtain ⟨hq1, hq2, h⟩ := h
                  refine ⟨hq1, hq2, ?_⟩
                  obtain ⟨B49a, B49n, B49c, hc48, h⟩ := h
                  refine ⟨B49a, B49n, B49c, (hx46).cell hc48 id, ?_⟩
                  refine bif_of (fun c50 => ?_) (fun c50 => ?_)
                  · have h := h.1 (bne_t c50)
                    have h := h ww46 hx46
                    exact h
                  · have h := h.2 (bne_f c50)
                    refine bif_of (fun c51 => ?_) (fun c51 => ?_)
                    · have h := h.1 (of_decide_eq_true c51)
                      refine ⟨cWraps5a, cWraps5n, cWraps5c, hb1.celli 4 rfl rfl, ?_⟩
                      obtain ⟨hw1, hw2, h⟩ := h
                      try rw [w64 hw1 hw2]
                      refine elim_some ha43 ?_
                      obtain ⟨hq1, hq2, h⟩ := h
                      refine ⟨hq1, hq2, ?_⟩
                      obtain ⟨Who53, hc52, h⟩ := h
                      refine ⟨Who53, (hx46).cell hc52 id, ?_⟩
                      refine ⟨cWraps5a, cWraps5n, cWraps5c, hb1.celli 4 rfl rfl, ?_⟩
                      refine elim_some ha43 ?_
                      obtain ⟨hq1, hq2, h⟩ := h
                      refine ⟨hq1, hq2, ?_⟩
                      obtain ⟨Who55, hc54, h⟩ := h
                      refine ⟨Who55, (hx46).cell hc54 id, ?_⟩
                      refine bif_of (fun c56 => ?_) (fun c56 => ?_)
                      · have h := h.1 (of_decide_eq_true c56)
                        have h := h ww46 hx46
                        exact h
                      · have h := h.2 (Int.not_le.1 (of_decide_eq_false c56))
                        obtain ⟨hw1, hw2, h⟩ := h
                        try rw [w64 hw1 hw2]
                        have h := h ww46 hx46
                        obtain ⟨m57, hk, h⟩ := h
                        exact ⟨m57, hk, hb1, h⟩
                    · have h := h.2 (Int.not_lt.1 (of_decide_eq_false c51))
                      obtain ⟨hw1, hw2, h⟩ := h
                      try rw [w64 hw1 hw2]
                      have h := h ww46 hx46
                      obtain ⟨m58, hk, h⟩ := h
                      exact ⟨m58, hk, hb1, h⟩
              · have h := h.2 (Int.not_lt.1 (of_decide_eq_false c41))
                refine ⟨cWho2, hb1.celli 1 rfl rfl, ?_⟩
                refine bif_of (fun c59 => ?_) (fun c59 => ?_)
                · have h := h.1 (beq_t c59)
                  refine ⟨cPublic3, hb1.celli 2 rfl rfl, ?_⟩
                  refine bif_of (fun c60 => ?_) (fun c60 => ?_)
                  · have h := h.1 (beq_t c60)
                    refine ⟨cLimit4, hb1.celli 3 rfl rfl, ?_⟩
                    refine bif_of (fun c61 => ?_) (fun c61 => ?_)
                    · have h := h.1 (beq_t c61)
                      refine ⟨cWraps5a, cWraps5n, cWraps5c, hb1.celli 4 rfl rfl, ?_⟩
                      exact h
                    · have h := h.2 (beq_f c61)
                      exact h
                  · have h := h.2 (beq_f c60)
                    exact h
                · have h := h.2 (beq_f c59)
                  exact h
            · have h := h.2 (beq_f c35)
              have h := h ww7 hx7
              exact h
  · have h := h.2 (bne_f c8)
    refine ⟨cKind1, hb1.celli 0 rfl rfl, ?_⟩
    refine bif_of (fun c63 => ?_) (fun c63 => ?_)
    · have h := h.1 (beq_t c63)
      refine ⟨cWho2, hb1.celli 1 rfl rfl, ?_⟩
      refine (cachetteref12_who.pure cWho2).mono fun ee ww64 ⟨he, hxx⟩ => ⟨(cachetteref12_who.F cWho2), he, ?_⟩
      have hx64 := hx7.trans hxx
      have hb1 := hb1.ext hxx id
      refine bif_of (fun c65 => ?_) (fun c65 => ?_)
      · have h := h.1 c65
        refine ⟨cPublic3, hb1.celli 2 rfl rfl, ?_⟩
        refine bif_of (fun c66 => ?_) (fun c66 => ?_)
        · have h := h.1 (bne_t c66)
          refine ⟨cLimit4, hb1.celli 3 rfl rfl, ?_⟩
          refine bif_of (fun c67 => ?_) (fun c67 => ?_)
          · have h := h.1 (beq_t c67)
            refine ⟨cWraps5a, cWraps5n, cWraps5c, hb1.celli 4 rfl rfl, ?_⟩
            have h := h ww64 hx64
            exact h
          · have h := h.2 (beq_f c67)
            have h := h ww64 hx64
            exact h
        · have h := h.2 (bne_f c66)
          have h := h ww64 hx64
          exact h
      · have h := h.2 c65
        have h := h ww64 hx64
        exact h
    · have h := h.2 (beq_f c63)
      refine bif_of (fun c72 => ?_) (fun c72 => ?_)
      · have h := h.1 (beq_t c72)
        refine ⟨cWho2, hb1.celli 1 rfl rfl, ?_⟩
        refine (cachetteref12_who.pure cWho2).mono fun ee ww73 ⟨he, hxx⟩ => ⟨(cachetteref12_who.F cWho2), he, ?_⟩
        have hx73 := hx7.trans hxx
        have hb1 := hb1.ext hxx id
        refine bif_of (fun c74 => ?_) (fun c74 => ?_)
        · have h := h.1 c74
          refine ⟨cWho2, hb1.celli 1 rfl rfl, ?_⟩
          refine bif_of (fun c75 => ?_) (fun c75 => ?_)
          · have h := h.1 (bne_t c75)
            refine ⟨cPublic3, hb1.celli 2 rfl rfl, ?_⟩
            refine bif_of (fun c76 => ?_) (fun c76 => ?_)
            · have h := h.1 (beq_t c76)
              refine ⟨cLimit4, hb1.celli 3 rfl rfl, ?_⟩
              refine bif_of (fun c77 => ?_) (fun c77 => ?_)
              · have h := h.1 (of_decide_eq_true c77)
                refine ⟨cLimit4, hb1.celli 3 rfl rfl, ?_⟩
                refine bif_of (fun c78 => ?_) (fun c78 => ?_)
                · have h := h.1 (of_decide_eq_true c78)
                  refine ⟨cWraps5a, cWraps5n, cWraps5c, hb1.celli 4 rfl rfl, ?_⟩
                  have h := h ww73 hx73
                  exact h
                · have h := h.2 (Int.not_le.1 (of_decide_eq_false c78))
                  have h := h ww73 hx73
                  exact h
              · have h := h.2 (Int.not_le.1 (of_decide_eq_false c77))
                have h := h ww73 hx73
                exact h
            · have h := h.2 (beq_f c76)
              have h := h ww73 hx73
              exact h
          · have h := h.2 (bne_f c75)
            have h := h ww73 hx73
            exact h
        · have h := h.2 c74
          have h := h ww73 hx73
          exact h
      · have h := h.2 (beq_f c72)
        refine bif_of (fun c85 => ?_) (fun c85 => ?_)
        · have h := h.1 (beq_t c85)
          have h := h ww7 hx7
          obtain ⟨I1, m88, h0, h⟩ := h
          refine ⟨fun k vs ww => Blk ww w.heap.size 40 [.int .i64 cKind1, .int .i64 cWho2, .int .u64 cPublic3, .int .i64 cLimit4, .slice cWraps5a cWraps5n cWraps5c, .slice cOld6a cOld6n cOld6c] ∧ I1 k vs ww, m88, ⟨hb1, h0⟩, fun m89 ww90 i87 hI => ?_⟩
          obtain ⟨hb1, hI⟩ := hI
          have h := h m89 ww90 i87 hI
          refine ⟨cWraps5a, cWraps5n, cWraps5c, hb1.celli 4 rfl rfl, ?_⟩
          refine bif_of (fun c91 => ?_) (fun c91 => ?_)
          · have h := h.1 (of_decide_eq_true c91)
            refine thenW_in fun ww92 e92 => ?_
            have hx92 := (Ext.refl no ww90).x_drew e92
            have hb1 := hb1.x_drew e92
            refine ⟨cWraps5a, cWraps5n, cWraps5c, hb1.celli 4 rfl rfl, ?_⟩
            obtain ⟨a93, ha93, h⟩ := h
            refine elim_some ha93 ?_
            obtain ⟨hq1, hq2, h⟩ := h
            refine ⟨hq1, hq2, ?_⟩
            obtain ⟨Who95, hc94, h⟩ := h
            refine ⟨Who95, (hx92).cell hc94 id, ?_⟩
            refine (cachetteref12_who.pure Who95).mono fun ee ww96 ⟨he, hxx⟩ => ⟨(cachetteref12_who.F Who95), he, ?_⟩
            have hx96 := hx92.trans hxx
            have hb1 := hb1.ext hxx id
            refine bif_of (fun c97 => ?_) (fun c97 => ?_)
            · have h := h.1 (not_t c97)
              have h := h ww96 hx96
              exact h
            · have h := h.2 (not_f c97)
              refine ⟨cWraps5a, cWraps5n, cWraps5c, hb1.celli 4 rfl rfl, ?_⟩
              refine elim_some ha93 ?_
              obtain ⟨hq1, hq2, h⟩ := h
              refine ⟨hq1, hq2, ?_⟩
              obtain ⟨B99a, B99n, B99c, hc98, h⟩ := h
              refine ⟨B99a, B99n, B99c, (hx96).cell hc98 id, ?_⟩
              refine bif_of (fun c100 => ?_) (fun c100 => ?_)
              · have h := h.1 (bne_t c100)
                have h := h ww96 hx96
                exact h
              · have h := h.2 (bne_f c100)
                refine bif_of (fun c101 => ?_) (fun c101 => ?_)
                · have h := h.1 (of_decide_eq_true c101)
                  refine ⟨cWraps5a, cWraps5n, cWraps5c, hb1.celli 4 rfl rfl, ?_⟩
                  obtain ⟨hw1, hw2, h⟩ := h
                  try rw [w64 hw1 hw2]
                  refine elim_some ha93 ?_
                  obtain ⟨hq1, hq2, h⟩ := h
                  refine ⟨hq1, hq2, ?_⟩
                  obtain ⟨Who103, hc102, h⟩ := h
                  refine ⟨Who103, (hx96).cell hc102 id, ?_⟩
                  refine ⟨cWraps5a, cWraps5n, cWraps5c, hb1.celli 4 rfl rfl, ?_⟩
                  refine elim_some ha93 ?_
                  obtain ⟨hq1, hq2, h⟩ := h
                  refine ⟨hq1, hq2, ?_⟩
                  obtain ⟨Who105, hc104, h⟩ := h
                  refine ⟨Who105, (hx96).cell hc104 id, ?_⟩
                  refine bif_of (fun c106 => ?_) (fun c106 => ?_)
                  · have h := h.1 (of_decide_eq_true c106)
                    have h := h ww96 hx96
                    exact h
                  · have h := h.2 (Int.not_le.1 (of_decide_eq_false c106))
                    obtain ⟨hw1, hw2, h⟩ := h
                    try rw [w64 hw1 hw2]
                    have h := h ww96 hx96
                    obtain ⟨m107, hk, h⟩ := h
                    exact ⟨m107, hk, hb1, h⟩
                · have h := h.2 (Int.not_lt.1 (of_decide_eq_false c101))
                  obtain ⟨hw1, hw2, h⟩ := h
                  try rw [w64 hw1 hw2]
                  have h := h ww96 hx96
                  obtain ⟨m108, hk, h⟩ := h
                  exact ⟨m108, hk, hb1, h⟩
          · have h := h.2 (Int.not_lt.1 (of_decide_eq_false c91))
            refine ⟨cWho2, hb1.celli 1 rfl rfl, ?_⟩
            refine bif_of (fun c109 => ?_) (fun c109 => ?_)
            · have h := h.1 (beq_t c109)
              refine ⟨cPublic3, hb1.celli 2 rfl rfl, ?_⟩
              refine bif_of (fun c110 => ?_) (fun c110 => ?_)
              · have h := h.1 (beq_t c110)
                refine ⟨cLimit4, hb1.celli 3 rfl rfl, ?_⟩
                refine bif_of (fun c111 => ?_) (fun c111 => ?_)
                · have h := h.1 (beq_t c111)
                  refine ⟨cWraps5a, cWraps5n, cWraps5c, hb1.celli 4 rfl rfl, ?_⟩
                  exact h
                · have h := h.2 (beq_f c111)
                  exact h
              · have h := h.2 (beq_f c110)
                exact h
            · have h := h.2 (beq_f c109)
              exact h
        · have h := h.2 (beq_f c85)
          have h := h ww7 hx7
          exact h

theorem cachetteref12_Right.go (cKind1 : Int) (cWho2 : Int) (cPublic3 : Int) (cLimit4 : Int) (cWraps5a : Option Addr) (cWraps5n : Nat) (cWraps5c : Nat) (cOld6a : Option Addr) (cOld6n : Nat) (cOld6c : Nat) {R : Value → World → Prop} {w : World} (h : cachetteref12_Right.N cKind1 cWho2 cPublic3 cLimit4 cWraps5a cWraps5n cWraps5c cOld6a cOld6n cOld6c R w) : Calls Try.prog 32 #[.agg #[.int .i64 cKind1, .int .i64 cWho2, .int .u64 cPublic3, .int .i64 cLimit4, .slice cWraps5a cWraps5n cWraps5c, .slice cOld6a cOld6n cOld6c]] w fun e w' => ∃ v, e = .returned v ∧ R v w' := cachetteref12_Right.ok cKind1 cWho2 cPublic3 cLimit4 cWraps5a cWraps5n cWraps5c cOld6a cOld6n cOld6c (cachetteref12_Right.up cKind1 cWho2 cPublic3 cLimit4 cWraps5a cWraps5n cWraps5c cOld6a cOld6n cOld6c h)
theorem cachetteref12_Right.run (cKind1 : Int) (cWho2 : Int) (cPublic3 : Int) (cLimit4 : Int) (cWraps5a : Option Addr) (cWraps5n : Nat) (cWraps5c : Nat) (cOld6a : Option Addr) (cOld6n : Nat) (cOld6c : Nat) {V : Value} {Q : World → Prop} {w : World} (h : cachetteref12_Right.N cKind1 cWho2 cPublic3 cLimit4 cWraps5a cWraps5n cWraps5c cOld6a cOld6n cOld6c (fun v w' => v = V ∧ Q w') w) : Calls Try.prog 32 #[.agg #[.int .i64 cKind1, .int .i64 cWho2, .int .u64 cPublic3, .int .i64 cLimit4, .slice cWraps5a cWraps5n cWraps5c, .slice cOld6a cOld6n cOld6c]] w (Ret V Q) := (cachetteref12_Right.go cKind1 cWho2 cPublic3 cLimit4 cWraps5a cWraps5n cWraps5c cOld6a cOld6n cOld6c h).mono fun e w' ⟨v, he, hv, hq⟩ => ⟨by rw [he, hv], hq⟩

/-- cachetteref12.Find -/
def cachetteref12_Find.M (sL1a : Option Addr) (sL1n : Nat) (sL1c : Nat) (sEpoch2 : Int) (who3 : Int) (R : Value → World → Prop) (w : World) : Prop :=
  thenW (w.alloc (.cells #[.slice sL1a sL1n sL1c, .int .i64 sEpoch2] 45)) fun ww4 =>
  thenW (ww4.alloc (.cells #[.int .i64 0, .int .u64 0, .int .i64 0, .int .i64 0, .int .i64 0] 52)) fun ww5 =>
  ∃ (I0 : Nat → List Value → World → Prop) (m7 : Nat), I0 m7 [.int .i64 0] ww5 ∧ ∀ (m8 : Nat) (ww9 : World) (i6 : Int), I0 m8 [.int .i64 i6] ww9 →
  ∃ (L10a : Option Addr) (L10n : Nat) (L10c : Nat), ww9.cell? ((blk w.heap.size).add 0) = some (.slice L10a L10n L10c) ∧
  bif decide (i6 < (L10n : Int)) then (
  ∃ (L11a : Option Addr) (L11n : Nat) (L11c : Nat), ww9.cell? ((blk w.heap.size).add 0) = some (.slice L11a L11n L11c) ∧
  L11a.elim False fun a12 =>
  0 ≤ (i6 : Int) ∧ (i6 : Int) < (L11n : Int) ∧
  ∃ (Who13 : Int), ww9.cell? ((a12.add (Int.toNat i6 * 5)).add 0) = some (.int .i64 Who13) ∧
  bif Who13 == who3 then (
  ∃ (L14a : Option Addr) (L14n : Nat) (L14c : Nat), ww9.cell? ((blk w.heap.size).add 0) = some (.slice L14a L14n L14c) ∧
  L14a.elim False fun a15 =>
  0 ≤ (i6 : Int) ∧ (i6 : Int) < (L14n : Int) ∧
  ∃ (xWho16 : Int) (xPublic17 : Int) (xFrom18 : Int) (xTo19 : Int) (xLimit20 : Int), cellsAt ww9 (a15.add (Int.toNat i6 * 5)) [.int .i64 xWho16, .int .u64 xPublic17, .int .i64 xFrom18, .int .i64 xTo19, .int .i64 xLimit20] 0 ∧
  canStore ww9 ((blk ww4.heap.size).add 0) ∧
  thenW (ww9.setCell ((blk ww4.heap.size).add 0) (.int .i64 xWho16)) fun ww21 =>
  canStore ww21 ((blk ww4.heap.size).add 1) ∧
  thenW (ww21.setCell ((blk ww4.heap.size).add 1) (.int .u64 xPublic17)) fun ww22 =>
  canStore ww22 ((blk ww4.heap.size).add 2) ∧
  thenW (ww22.setCell ((blk ww4.heap.size).add 2) (.int .i64 xFrom18)) fun ww23 =>
  canStore ww23 ((blk ww4.heap.size).add 3) ∧
  thenW (ww23.setCell ((blk ww4.heap.size).add 3) (.int .i64 xTo19)) fun ww24 =>
  canStore ww24 ((blk ww4.heap.size).add 4) ∧
  thenW (ww24.setCell ((blk ww4.heap.size).add 4) (.int .i64 xLimit20)) fun ww25 =>
  ∃ (resWho26 : Int) (resPublic27 : Int) (resFrom28 : Int) (resTo29 : Int) (resLimit30 : Int), cellsAt ww25 (blk ww4.heap.size) [.int .i64 resWho26, .int .u64 resPublic27, .int .i64 resFrom28, .int .i64 resTo29, .int .i64 resLimit30] 0 ∧
  R (.tuple #[.agg #[.int .i64 resWho26, .int .u64 resPublic27, .int .i64 resFrom28, .int .i64 resTo29, .int .i64 resLimit30], .bool true]) ww25) else (
  ∃ m31, m31 < m8 ∧ I0 m31 [.int .i64 (IntKind.i64.wrap (i6 + 1))] ww9)) else (
  canStore ww9 ((blk ww4.heap.size).add 0) ∧
  thenW (ww9.setCell ((blk ww4.heap.size).add 0) (.int .i64 0)) fun ww32 =>
  canStore ww32 ((blk ww4.heap.size).add 1) ∧
  thenW (ww32.setCell ((blk ww4.heap.size).add 1) (.int .u64 0)) fun ww33 =>
  canStore ww33 ((blk ww4.heap.size).add 2) ∧
  thenW (ww33.setCell ((blk ww4.heap.size).add 2) (.int .i64 0)) fun ww34 =>
  canStore ww34 ((blk ww4.heap.size).add 3) ∧
  thenW (ww34.setCell ((blk ww4.heap.size).add 3) (.int .i64 0)) fun ww35 =>
  canStore ww35 ((blk ww4.heap.size).add 4) ∧
  thenW (ww35.setCell ((blk ww4.heap.size).add 4) (.int .i64 0)) fun ww36 =>
  ∃ (resWho37 : Int) (resPublic38 : Int) (resFrom39 : Int) (resTo40 : Int) (resLimit41 : Int), cellsAt ww36 (blk ww4.heap.size) [.int .i64 resWho37, .int .u64 resPublic38, .int .i64 resFrom39, .int .i64 resTo40, .int .i64 resLimit41] 0 ∧
  R (.tuple #[.agg #[.int .i64 resWho37, .int .u64 resPublic38, .int .i64 resFrom39, .int .i64 resTo40, .int .i64 resLimit41], .bool false]) ww36)

theorem cachetteref12_Find.eq (sL1a : Option Addr) (sL1n : Nat) (sL1c : Nat) (sEpoch2 : Int) (who3 : Int) (R : Value → World → Prop) (w : World) : mfunc Try.prog [(0, [1, 2, 4], [(6, (.one (.int .i64)))])] 21 [.agg #[.slice sL1a sL1n sL1c, .int .i64 sEpoch2], .int .i64 who3] R w = cachetteref12_Find.M sL1a sL1n sL1c sEpoch2 who3 R w := by kernel_rfl
theorem cachetteref12_Find.ok (sL1a : Option Addr) (sL1n : Nat) (sL1c : Nat) (sEpoch2 : Int) (who3 : Int) {R : Value → World → Prop} {w : World} (h : cachetteref12_Find.M sL1a sL1n sL1c sEpoch2 who3 R w) : Calls Try.prog 21 #[.agg #[.slice sL1a sL1n sL1c, .int .i64 sEpoch2], .int .i64 who3] w fun e w' => ∃ v, e = .returned v ∧ R v w' :=
  mfunc_ok follows (H := [(0, [1, 2, 4], [(6, (.one (.int .i64)))])]) (args := [.agg #[.slice sL1a sL1n sL1c, .int .i64 sEpoch2], .int .i64 who3]) (by rw [cachetteref12_Find.eq]; exact h)

def cachetteref12_Find.N (sL1a : Option Addr) (sL1n : Nat) (sL1c : Nat) (sEpoch2 : Int) (who3 : Int) (R : Value → World → Prop) (w : World) : Prop :=
  ∀ (ww5 : World) (p7 : Nat), Ext no w ww5 → Priv w ww5 [p7] →
  ∃ (I0 : Nat → List Value → World → Prop) (m14 : Nat), I0 m14 [.int .i64 0, .int .i64 0, .int .u64 0, .int .i64 0, .int .i64 0, .int .i64 0] ww5 ∧ ∀ (m15 : Nat) (ww16 : World) (i8 : Int) (Who9 : Int) (Public10 : Int) (From11 : Int) (To12 : Int) (Limit13 : Int), I0 m15 [.int .i64 i8, .int .i64 Who9, .int .u64 Public10, .int .i64 From11, .int .i64 To12, .int .i64 Limit13] ww16 →
  (i8 < (sL1n : Int) →
    ∃ a18 : Addr, sL1a = some a18 ∧
    0 ≤ (i8 : Int) ∧ (i8 : Int) < (sL1n : Int) ∧
    ∃ (Who20 : Int), ww16.cell? ((a18.add (Int.toNat i8 * 5)).add 0) = some (.int .i64 Who20) ∧
    (Who20 = who3 →
      0 ≤ (i8 : Int) ∧ (i8 : Int) < (sL1n : Int) ∧
      ∃ (xWho23 : Int) (xPublic24 : Int) (xFrom25 : Int) (xTo26 : Int) (xLimit27 : Int), cellsAt ww16 (a18.add (Int.toNat i8 * 5)) [.int .i64 xWho23, .int .u64 xPublic24, .int .i64 xFrom25, .int .i64 xTo26, .int .i64 xLimit27] 0 ∧
      ∀ (ww32 : World), Ext (fun b => b = p7) ww16 ww32 →
      R (.tuple #[.agg #[.int .i64 xWho23, .int .u64 xPublic24, .int .i64 xFrom25, .int .i64 xTo26, .int .i64 xLimit27], .bool true]) ww32) ∧
    (Who20 ≠ who3 →
      (-9223372036854775808 : Int) ≤ (i8 + 1) ∧ (i8 + 1) < 9223372036854775808 ∧
      ∃ m33, m33 < m15 ∧ I0 m33 [.int .i64 (i8 + 1), .int .i64 Who9, .int .u64 Public10, .int .i64 From11, .int .i64 To12, .int .i64 Limit13] ww16)) ∧
  ((sL1n : Int) ≤ i8 →
    ∀ (ww38 : World), Ext (fun b => b = p7) ww16 ww38 →
    R (.tuple #[.agg #[.int .i64 0, .int .u64 0, .int .i64 0, .int .i64 0, .int .i64 0], .bool false]) ww38)

theorem cachetteref12_Find.up (sL1a : Option Addr) (sL1n : Nat) (sL1c : Nat) (sEpoch2 : Int) (who3 : Int) {R : Value → World → Prop} {w : World} (h : cachetteref12_Find.N sL1a sL1n sL1c sEpoch2 who3 R w) : cachetteref12_Find.M sL1a sL1n sL1c sEpoch2 who3 R w := by
  unfold cachetteref12_Find.M
  unfold cachetteref12_Find.N at h
  refine thenW_in fun ww4 e4 => ?_
  have hb1 := Blk.of_new e4
  have hg1 := ((Ext.refl no w)).size
  have hx4 := (Ext.refl no w).x_alloc e4
  refine thenW_in fun ww5 e5 => ?_
  have hb2 := Blk.of_new e5
  have hg2 := (hx4).size
  have hb1_2 := Nat.ne_of_lt hb1.lt
  have hb1 := hb1.x_alloc e5
  have hx5 := hx4.x_alloc e5
  have h := h ww5 (ww4.heap.size) hx5 (Priv.cons hg2 hb2.lt Priv.nil)
  obtain ⟨I0, m14, h0, h⟩ := h
  refine ⟨fun k vs ww => ∃ (Who9 : Int) (Public10 : Int) (From11 : Int) (To12 : Int) (Limit13 : Int), Blk ww w.heap.size 45 [.slice sL1a sL1n sL1c, .int .i64 sEpoch2] ∧ Blk ww ww4.heap.size 52 [.int .i64 Who9, .int .u64 Public10, .int .i64 From11, .int .i64 To12, .int .i64 Limit13] ∧ I0 k (vs ++ [.int .i64 Who9, .int .u64 Public10, .int .i64 From11, .int .i64 To12, .int .i64 Limit13]) ww, m14, ⟨0, 0, 0, 0, 0, hb1, hb2, h0⟩, fun m15 ww16 i8 hI => ?_⟩
  obtain ⟨Who9, Public10, From11, To12, Limit13, hb1, hb2, hI⟩ := hI
  have h := h m15 ww16 i8 Who9 Public10 From11 To12 Limit13 hI
  refine ⟨sL1a, sL1n, sL1c, hb1.celli 0 rfl rfl, ?_⟩
  refine bif_of (fun c17 => ?_) (fun c17 => ?_)
  · have h := h.1 (of_decide_eq_true c17)
    refine ⟨sL1a, sL1n, sL1c, hb1.celli 0 rfl rfl, ?_⟩
    obtain ⟨a18, ha18, h⟩ := h
    refine elim_some ha18 ?_
    obtain ⟨hq1, hq2, h⟩ := h
    refine ⟨hq1, hq2, ?_⟩
    obtain ⟨Who20, hc19, h⟩ := h
    refine ⟨Who20, hc19, ?_⟩
    refine bif_of (fun c21 => ?_) (fun c21 => ?_)
    · have h := h.1 (beq_t c21)
      refine ⟨sL1a, sL1n, sL1c, hb1.celli 0 rfl rfl, ?_⟩
      refine elim_some ha18 ?_
      obtain ⟨hq1, hq2, h⟩ := h
      refine ⟨hq1, hq2, ?_⟩
      obtain ⟨xWho23, xPublic24, xFrom25, xTo26, xLimit27, hc22, h⟩ := h
      refine ⟨xWho23, xPublic24, xFrom25, xTo26, xLimit27, hc22, ?_⟩
      have hm32 : Ext (fun b => b = ww4.heap.size) ww16 ww16 := ((Ext.refl no ww16)).none
      refine ⟨hb2.cani 0 rfl rfl, thenW_in fun ww28 e28 => ?_⟩
      have hx28 := hm32.x_set (q := ww4.heap.size) (i := 0) rfl (.inl rfl) e28
      have hb2 : Blk ww28 ww4.heap.size 52 [.int .i64 xWho23, .int .u64 Public10, .int .i64 From11, .int .i64 To12, .int .i64 Limit13] := hb2.seti 0 rfl e28
      refine ⟨hb2.cani 1 rfl rfl, thenW_in fun ww29 e29 => ?_⟩
      have hx29 := hx28.x_set (q := ww4.heap.size) (i := 1) rfl (.inl rfl) e29
      have hb2 : Blk ww29 ww4.heap.size 52 [.int .i64 xWho23, .int .u64 xPublic24, .int .i64 From11, .int .i64 To12, .int .i64 Limit13] := hb2.seti 1 rfl e29
      refine ⟨hb2.cani 2 rfl rfl, thenW_in fun ww30 e30 => ?_⟩
      have hx30 := hx29.x_set (q := ww4.heap.size) (i := 2) rfl (.inl rfl) e30
      have hb2 : Blk ww30 ww4.heap.size 52 [.int .i64 xWho23, .int .u64 xPublic24, .int .i64 xFrom25, .int .i64 To12, .int .i64 Limit13] := hb2.seti 2 rfl e30
      refine ⟨hb2.cani 3 rfl rfl, thenW_in fun ww31 e31 => ?_⟩
      have hx31 := hx30.x_set (q := ww4.heap.size) (i := 3) rfl (.inl rfl) e31
      have hb2 : Blk ww31 ww4.heap.size 52 [.int .i64 xWho23, .int .u64 xPublic24, .int .i64 xFrom25, .int .i64 xTo26, .int .i64 Limit13] := hb2.seti 3 rfl e31
      refine ⟨hb2.cani 4 rfl rfl, thenW_in fun ww32 e32 => ?_⟩
      have hx32 := hx31.x_set (q := ww4.heap.size) (i := 4) rfl (.inl rfl) e32
      have hb2 : Blk ww32 ww4.heap.size 52 [.int .i64 xWho23, .int .u64 xPublic24, .int .i64 xFrom25, .int .i64 xTo26, .int .i64 xLimit27] := hb2.seti 4 rfl e32
      refine ⟨xWho23, xPublic24, xFrom25, xTo26, xLimit27, ⟨hb2.celli 0 rfl rfl, hb2.celli 1 rfl rfl, hb2.celli 2 rfl rfl, hb2.celli 3 rfl rfl, hb2.celli 4 rfl rfl, trivial⟩, ?_⟩
      have h := h ww32 hx32
      exact h
    · have h := h.2 (beq_f c21)
      obtain ⟨hw1, hw2, h⟩ := h
      try rw [w64 hw1 hw2]
      obtain ⟨m33, hk, h⟩ := h
      exact ⟨m33, hk, Who9, Public10, From11, To12, Limit13, hb1, hb2, h⟩
  · have h := h.2 (Int.not_lt.1 (of_decide_eq_false c17))
    have hm38 : Ext (fun b => b = ww4.heap.size) ww16 ww16 := ((Ext.refl no ww16)).none
    refine ⟨hb2.cani 0 rfl rfl, thenW_in fun ww34 e34 => ?_⟩
    have hx34 := hm38.x_set (q := ww4.heap.size) (i := 0) rfl (.inl rfl) e34
    have hb2 : Blk ww34 ww4.heap.size 52 [.int .i64 0, .int .u64 Public10, .int .i64 From11, .int .i64 To12, .int .i64 Limit13] := hb2.seti 0 rfl e34
    refine ⟨hb2.cani 1 rfl rfl, thenW_in fun ww35 e35 => ?_⟩
    have hx35 := hx34.x_set (q := ww4.heap.size) (i := 1) rfl (.inl rfl) e35
    have hb2 : Blk ww35 ww4.heap.size 52 [.int .i64 0, .int .u64 0, .int .i64 From11, .int .i64 To12, .int .i64 Limit13] := hb2.seti 1 rfl e35
    refine ⟨hb2.cani 2 rfl rfl, thenW_in fun ww36 e36 => ?_⟩
    have hx36 := hx35.x_set (q := ww4.heap.size) (i := 2) rfl (.inl rfl) e36
    have hb2 : Blk ww36 ww4.heap.size 52 [.int .i64 0, .int .u64 0, .int .i64 0, .int .i64 To12, .int .i64 Limit13] := hb2.seti 2 rfl e36
    refine ⟨hb2.cani 3 rfl rfl, thenW_in fun ww37 e37 => ?_⟩
    have hx37 := hx36.x_set (q := ww4.heap.size) (i := 3) rfl (.inl rfl) e37
    have hb2 : Blk ww37 ww4.heap.size 52 [.int .i64 0, .int .u64 0, .int .i64 0, .int .i64 0, .int .i64 Limit13] := hb2.seti 3 rfl e37
    refine ⟨hb2.cani 4 rfl rfl, thenW_in fun ww38 e38 => ?_⟩
    have hx38 := hx37.x_set (q := ww4.heap.size) (i := 4) rfl (.inl rfl) e38
    have hb2 : Blk ww38 ww4.heap.size 52 [.int .i64 0, .int .u64 0, .int .i64 0, .int .i64 0, .int .i64 0] := hb2.seti 4 rfl e38
    refine ⟨0, 0, 0, 0, 0, ⟨hb2.celli 0 rfl rfl, hb2.celli 1 rfl rfl, hb2.celli 2 rfl rfl, hb2.celli 3 rfl rfl, hb2.celli 4 rfl rfl, trivial⟩, ?_⟩
    have h := h ww38 hx38
    exact h

theorem cachetteref12_Find.go (sL1a : Option Addr) (sL1n : Nat) (sL1c : Nat) (sEpoch2 : Int) (who3 : Int) {R : Value → World → Prop} {w : World} (h : cachetteref12_Find.N sL1a sL1n sL1c sEpoch2 who3 R w) : Calls Try.prog 21 #[.agg #[.slice sL1a sL1n sL1c, .int .i64 sEpoch2], .int .i64 who3] w fun e w' => ∃ v, e = .returned v ∧ R v w' := cachetteref12_Find.ok sL1a sL1n sL1c sEpoch2 who3 (cachetteref12_Find.up sL1a sL1n sL1c sEpoch2 who3 h)
theorem cachetteref12_Find.run (sL1a : Option Addr) (sL1n : Nat) (sL1c : Nat) (sEpoch2 : Int) (who3 : Int) {V : Value} {Q : World → Prop} {w : World} (h : cachetteref12_Find.N sL1a sL1n sL1c sEpoch2 who3 (fun v w' => v = V ∧ Q w') w) : Calls Try.prog 21 #[.agg #[.slice sL1a sL1n sL1c, .int .i64 sEpoch2], .int .i64 who3] w (Ret V Q) := (cachetteref12_Find.go sL1a sL1n sL1c sEpoch2 who3 h).mono fun e w' ⟨v, he, hv, hq⟩ => ⟨by rw [he, hv], hq⟩

/-- cachetteref12.Now -/
def cachetteref12_Now.M (sL1a : Option Addr) (sL1n : Nat) (sL1c : Nat) (sEpoch2 : Int) (R : Value → World → Prop) (w : World) : Prop :=
  thenW (w.alloc (.cells #[.slice sL1a sL1n sL1c, .int .i64 sEpoch2] 45)) fun ww3 =>
  ∃ (I0 : Nat → List Value → World → Prop) (m6 : Nat), I0 m6 [.slice none 0 0, .int .i64 0] ww3 ∧ ∀ (m7 : Nat) (ww8 : World) (outv4a : Option Addr) (outv4n : Nat) (outv4c : Nat) (i5 : Int), I0 m7 [.slice outv4a outv4n outv4c, .int .i64 i5] ww8 →
  ∃ (L9a : Option Addr) (L9n : Nat) (L9c : Nat), ww8.cell? ((blk w.heap.size).add 0) = some (.slice L9a L9n L9c) ∧
  bif decide (i5 < (L9n : Int)) then (
  ∃ (L10a : Option Addr) (L10n : Nat) (L10c : Nat), ww8.cell? ((blk w.heap.size).add 0) = some (.slice L10a L10n L10c) ∧
  L10a.elim False fun a11 =>
  0 ≤ (i5 : Int) ∧ (i5 : Int) < (L10n : Int) ∧
  ∃ (To12 : Int), ww8.cell? ((a11.add (Int.toNat i5 * 5)).add 3) = some (.int .i64 To12) ∧
  bif To12 == (-1) then (
  ∃ (L13a : Option Addr) (L13n : Nat) (L13c : Nat), ww8.cell? ((blk w.heap.size).add 0) = some (.slice L13a L13n L13c) ∧
  L13a.elim False fun a14 =>
  0 ≤ (i5 : Int) ∧ (i5 : Int) < (L13n : Int) ∧
  ∃ (xWho15 : Int) (xPublic16 : Int) (xFrom17 : Int) (xTo18 : Int) (xLimit19 : Int), cellsAt ww8 (a14.add (Int.toNat i5 * 5)) [.int .i64 xWho15, .int .u64 xPublic16, .int .i64 xFrom17, .int .i64 xTo18, .int .i64 xLimit19] 0 ∧
  thenW (ww8.alloc (.cells #[.int .i64 xWho15, .int .u64 xPublic16, .int .i64 xFrom17, .int .i64 xTo18, .int .i64 xLimit19] 52)) fun ww20 =>
  ∃ (a21a : Option Addr) (a21n : Nat) (a21c : Nat) (ww22 : World), (Builtin.append_ #[43, 43] 43 #[.slice outv4a outv4n outv4c, .slice (some (blk ww8.heap.size)) 1 1]).run Try.prog ww20 = .ok (.slice a21a a21n a21c) ww22 ∧
  ∃ m23, m23 < m7 ∧ I0 m23 [.slice a21a a21n a21c, .int .i64 (IntKind.i64.wrap (i5 + 1))] ww22) else (
  ∃ m24, m24 < m7 ∧ I0 m24 [.slice outv4a outv4n outv4c, .int .i64 (IntKind.i64.wrap (i5 + 1))] ww8)) else (
  R (.slice outv4a outv4n outv4c) ww8)

theorem cachetteref12_Now.eq (sL1a : Option Addr) (sL1n : Nat) (sL1c : Nat) (sEpoch2 : Int) (R : Value → World → Prop) (w : World) : mfunc Try.prog [(0, [1], [(3, (.one .slice)), (4, (.one (.int .i64)))])] 23 [.agg #[.slice sL1a sL1n sL1c, .int .i64 sEpoch2]] R w = cachetteref12_Now.M sL1a sL1n sL1c sEpoch2 R w := by kernel_rfl
theorem cachetteref12_Now.ok (sL1a : Option Addr) (sL1n : Nat) (sL1c : Nat) (sEpoch2 : Int) {R : Value → World → Prop} {w : World} (h : cachetteref12_Now.M sL1a sL1n sL1c sEpoch2 R w) : Calls Try.prog 23 #[.agg #[.slice sL1a sL1n sL1c, .int .i64 sEpoch2]] w fun e w' => ∃ v, e = .returned v ∧ R v w' :=
  mfunc_ok follows (H := [(0, [1], [(3, (.one .slice)), (4, (.one (.int .i64)))])]) (args := [.agg #[.slice sL1a sL1n sL1c, .int .i64 sEpoch2]]) (by rw [cachetteref12_Now.eq]; exact h)

def cachetteref12_Now.N (sL1a : Option Addr) (sL1n : Nat) (sL1c : Nat) (sEpoch2 : Int) (R : Value → World → Prop) (w : World) : Prop :=
  ∀ (ww3 : World) (p4 : Nat), Ext no w ww3 → Priv w ww3 [p4] →
  ∃ (I0 : Nat → List Value → World → Prop) (m7 : Nat), I0 m7 [.slice none 0 0, .int .i64 0] ww3 ∧ ∀ (m8 : Nat) (ww9 : World) (outv5a : Option Addr) (outv5n : Nat) (outv5c : Nat) (i6 : Int), I0 m8 [.slice outv5a outv5n outv5c, .int .i64 i6] ww9 →
  (i6 < (sL1n : Int) →
    ∃ a11 : Addr, sL1a = some a11 ∧
    0 ≤ (i6 : Int) ∧ (i6 : Int) < (sL1n : Int) ∧
    ∃ (To13 : Int), ww9.cell? ((a11.add (Int.toNat i6 * 5)).add 3) = some (.int .i64 To13) ∧
    (To13 = (-1) →
      0 ≤ (i6 : Int) ∧ (i6 : Int) < (sL1n : Int) ∧
      ∃ (xWho16 : Int) (xPublic17 : Int) (xFrom18 : Int) (xTo19 : Int) (xLimit20 : Int), cellsAt ww9 (a11.add (Int.toNat i6 * 5)) [.int .i64 xWho16, .int .u64 xPublic17, .int .i64 xFrom18, .int .i64 xTo19, .int .i64 xLimit20] 0 ∧
      ∀ (ww21 : World) (q22 : Nat), Ext no ww9 ww21 → Blk ww21 q22 52 [.int .i64 xWho16, .int .u64 xPublic17, .int .i64 xFrom18, .int .i64 xTo19, .int .i64 xLimit20] → ww9.heap.size ≤ q22 → q22 < ww21.heap.size →
      ∃ (a23a : Option Addr) (a23n : Nat) (a23c : Nat) (ww24 : World), (Builtin.append_ #[43, 43] 43 #[.slice outv5a outv5n outv5c, .slice (some (blk q22)) 1 1]).run Try.prog ww21 = .ok (.slice a23a a23n a23c) ww24 ∧
      Keep [p4] ww21 ww24 ∧
      (-9223372036854775808 : Int) ≤ (i6 + 1) ∧ (i6 + 1) < 9223372036854775808 ∧
      ∃ m25, m25 < m8 ∧ I0 m25 [.slice a23a a23n a23c, .int .i64 (i6 + 1)] ww24) ∧
    (To13 ≠ (-1) →
      (-9223372036854775808 : Int) ≤ (i6 + 1) ∧ (i6 + 1) < 9223372036854775808 ∧
      ∃ m26, m26 < m8 ∧ I0 m26 [.slice outv5a outv5n outv5c, .int .i64 (i6 + 1)] ww9)) ∧
  ((sL1n : Int) ≤ i6 →
    R (.slice outv5a outv5n outv5c) ww9)

theorem cachetteref12_Now.up (sL1a : Option Addr) (sL1n : Nat) (sL1c : Nat) (sEpoch2 : Int) {R : Value → World → Prop} {w : World} (h : cachetteref12_Now.N sL1a sL1n sL1c sEpoch2 R w) : cachetteref12_Now.M sL1a sL1n sL1c sEpoch2 R w := by
  unfold cachetteref12_Now.M
  unfold cachetteref12_Now.N at h
  refine thenW_in fun ww3 e3 => ?_
  have hb1 := Blk.of_new e3
  have hg1 := ((Ext.refl no w)).size
  have hx3 := (Ext.refl no w).x_alloc e3
  have h := h ww3 (w.heap.size) hx3 (Priv.cons hg1 hb1.lt Priv.nil)
  obtain ⟨I0, m7, h0, h⟩ := h
  refine ⟨fun k vs ww => Blk ww w.heap.size 45 [.slice sL1a sL1n sL1c, .int .i64 sEpoch2] ∧ I0 k vs ww, m7, ⟨hb1, h0⟩, fun m8 ww9 outv5a outv5n outv5c i6 hI => ?_⟩
  obtain ⟨hb1, hI⟩ := hI
  have h := h m8 ww9 outv5a outv5n outv5c i6 hI
  refine ⟨sL1a, sL1n, sL1c, hb1.celli 0 rfl rfl, ?_⟩
  refine bif_of (fun c10 => ?_) (fun c10 => ?_)
  · have h := h.1 (of_decide_eq_true c10)
    refine ⟨sL1a, sL1n, sL1c, hb1.celli 0 rfl rfl, ?_⟩
    obtain ⟨a11, ha11, h⟩ := h
    refine elim_some ha11 ?_
    obtain ⟨hq1, hq2, h⟩ := h
    refine ⟨hq1, hq2, ?_⟩
    obtain ⟨To13, hc12, h⟩ := h
    refine ⟨To13, hc12, ?_⟩
    refine bif_of (fun c14 => ?_) (fun c14 => ?_)
    · have h := h.1 (beq_t c14)
      refine ⟨sL1a, sL1n, sL1c, hb1.celli 0 rfl rfl, ?_⟩
      refine elim_some ha11 ?_
      obtain ⟨hq1, hq2, h⟩ := h
      refine ⟨hq1, hq2, ?_⟩
      obtain ⟨xWho16, xPublic17, xFrom18, xTo19, xLimit20, hc15, h⟩ := h
      refine ⟨xWho16, xPublic17, xFrom18, xTo19, xLimit20, hc15, ?_⟩
      refine thenW_in fun ww21 e21 => ?_
      have hb1 := hb1.x_alloc e21
      have h := h ww21 ww9.heap.size ((Ext.refl no ww9).x_alloc e21) (Blk.of_new e21) ((Ext.refl no ww9)).size (size_lt_alloc e21)
      obtain ⟨a23a, a23n, a23c, ww24, hr, hk, h⟩ := h
      refine ⟨a23a, a23n, a23c, ww24, hr, ?_⟩
      have hb1 := hk.blk hb1 (by simp)
      obtain ⟨hw1, hw2, h⟩ := h
      try rw [w64 hw1 hw2]
      obtain ⟨m25, hk, h⟩ := h
      exact ⟨m25, hk, hb1, h⟩
    · have h := h.2 (beq_f c14)
      obtain ⟨hw1, hw2, h⟩ := h
      try rw [w64 hw1 hw2]
      obtain ⟨m26, hk, h⟩ := h
      exact ⟨m26, hk, hb1, h⟩
  · have h := h.2 (Int.not_lt.1 (of_decide_eq_false c10))
    exact h

theorem cachetteref12_Now.go (sL1a : Option Addr) (sL1n : Nat) (sL1c : Nat) (sEpoch2 : Int) {R : Value → World → Prop} {w : World} (h : cachetteref12_Now.N sL1a sL1n sL1c sEpoch2 R w) : Calls Try.prog 23 #[.agg #[.slice sL1a sL1n sL1c, .int .i64 sEpoch2]] w fun e w' => ∃ v, e = .returned v ∧ R v w' := cachetteref12_Now.ok sL1a sL1n sL1c sEpoch2 (cachetteref12_Now.up sL1a sL1n sL1c sEpoch2 h)
theorem cachetteref12_Now.run (sL1a : Option Addr) (sL1n : Nat) (sL1c : Nat) (sEpoch2 : Int) {V : Value} {Q : World → Prop} {w : World} (h : cachetteref12_Now.N sL1a sL1n sL1c sEpoch2 (fun v w' => v = V ∧ Q w') w) : Calls Try.prog 23 #[.agg #[.slice sL1a sL1n sL1c, .int .i64 sEpoch2]] w (Ret V Q) := (cachetteref12_Now.go sL1a sL1n sL1c sEpoch2 h).mono fun e w' ⟨v, he, hv, hq⟩ => ⟨by rw [he, hv], hq⟩

/-- cachetteref12.put -/
def cachetteref12_put.M (sL1a : Option Addr) (sL1n : Nat) (sL1c : Nat) (sEpoch2 : Int) (mWho3 : Int) (mPublic4 : Int) (mFrom5 : Int) (mTo6 : Int) (mLimit7 : Int) (R : Value → World → Prop) (w : World) : Prop :=
  thenW (w.alloc (.cells #[.slice sL1a sL1n sL1c, .int .i64 sEpoch2] 45)) fun ww8 =>
  thenW (ww8.alloc (.cells #[.int .i64 mWho3, .int .u64 mPublic4, .int .i64 mFrom5, .int .i64 mTo6, .int .i64 mLimit7] 52)) fun ww9 =>
  thenW (ww9.alloc (.cells #[.slice none 0 0, .int .i64 0] 45)) fun ww10 =>
  ∃ (Epoch11 : Int), ww10.cell? ((blk w.heap.size).add 1) = some (.int .i64 Epoch11) ∧
  thenW (ww10.alloc (.cells #[.slice none 0 0, .int .i64 0] 45)) fun ww12 =>
  canStore ww12 ((blk ww10.heap.size).add 0) ∧
  thenW (ww12.setCell ((blk ww10.heap.size).add 0) (.slice none 0 0)) fun ww13 =>
  canStore ww13 ((blk ww10.heap.size).add 1) ∧
  thenW (ww13.setCell ((blk ww10.heap.size).add 1) (.int .i64 Epoch11)) fun ww14 =>
  ∃ (I0 : Nat → List Value → World → Prop) (m17 : Nat), I0 m17 [.bool false, .int .i64 0] ww14 ∧ ∀ (m18 : Nat) (ww19 : World) (inv15 : Bool) (i16 : Int), I0 m18 [.bool inv15, .int .i64 i16] ww19 →
  ∃ (L20a : Option Addr) (L20n : Nat) (L20c : Nat), ww19.cell? ((blk w.heap.size).add 0) = some (.slice L20a L20n L20c) ∧
  bif decide (i16 < (L20n : Int)) then (
  thenW (ww19.drew) fun ww21 =>
  bif !inv15 then (
  ∃ (L22a : Option Addr) (L22n : Nat) (L22c : Nat), ww21.cell? ((blk w.heap.size).add 0) = some (.slice L22a L22n L22c) ∧
  L22a.elim False fun a23 =>
  0 ≤ (i16 : Int) ∧ (i16 : Int) < (L22n : Int) ∧
  ∃ (Who24 : Int), ww21.cell? ((a23.add (Int.toNat i16 * 5)).add 0) = some (.int .i64 Who24) ∧
  ∃ (Who25 : Int), ww21.cell? ((blk ww8.heap.size).add 0) = some (.int .i64 Who25) ∧
  bif decide (Who24 ≥ Who25) then (
  ∃ (L26a : Option Addr) (L26n : Nat) (L26c : Nat), ww21.cell? ((blk ww10.heap.size).add 0) = some (.slice L26a L26n L26c) ∧
  ∃ (xWho27 : Int) (xPublic28 : Int) (xFrom29 : Int) (xTo30 : Int) (xLimit31 : Int), cellsAt ww21 (blk ww8.heap.size) [.int .i64 xWho27, .int .u64 xPublic28, .int .i64 xFrom29, .int .i64 xTo30, .int .i64 xLimit31] 0 ∧
  thenW (ww21.alloc (.cells #[.int .i64 xWho27, .int .u64 xPublic28, .int .i64 xFrom29, .int .i64 xTo30, .int .i64 xLimit31] 52)) fun ww32 =>
  ∃ (a33a : Option Addr) (a33n : Nat) (a33c : Nat) (ww34 : World), (Builtin.append_ #[43, 43] 43 #[.slice L26a L26n L26c, .slice (some (blk ww21.heap.size)) 1 1]).run Try.prog ww32 = .ok (.slice a33a a33n a33c) ww34 ∧
  canStore ww34 (((blk ww10.heap.size).add 0).add 0) ∧
  thenW (ww34.setCell (((blk ww10.heap.size).add 0).add 0) (.slice a33a a33n a33c)) fun ww35 =>
  thenW (ww35.drew) fun ww36 =>
  ∃ (L37a : Option Addr) (L37n : Nat) (L37c : Nat), ww36.cell? ((blk w.heap.size).add 0) = some (.slice L37a L37n L37c) ∧
  L37a.elim False fun a38 =>
  0 ≤ (i16 : Int) ∧ (i16 : Int) < (L37n : Int) ∧
  ∃ (Who39 : Int), ww36.cell? ((a38.add (Int.toNat i16 * 5)).add 0) = some (.int .i64 Who39) ∧
  ∃ (Who40 : Int), ww36.cell? ((blk ww8.heap.size).add 0) = some (.int .i64 Who40) ∧
  bif Who39 != Who40 then (
  thenW (ww36.drew) fun ww41 =>
  ∃ (L42a : Option Addr) (L42n : Nat) (L42c : Nat), ww41.cell? ((blk ww10.heap.size).add 0) = some (.slice L42a L42n L42c) ∧
  ∃ (L43a : Option Addr) (L43n : Nat) (L43c : Nat), ww41.cell? ((blk w.heap.size).add 0) = some (.slice L43a L43n L43c) ∧
  L43a.elim False fun a44 =>
  0 ≤ (i16 : Int) ∧ (i16 : Int) < (L43n : Int) ∧
  ∃ (xWho45 : Int) (xPublic46 : Int) (xFrom47 : Int) (xTo48 : Int) (xLimit49 : Int), cellsAt ww41 (a44.add (Int.toNat i16 * 5)) [.int .i64 xWho45, .int .u64 xPublic46, .int .i64 xFrom47, .int .i64 xTo48, .int .i64 xLimit49] 0 ∧
  thenW (ww41.alloc (.cells #[.int .i64 xWho45, .int .u64 xPublic46, .int .i64 xFrom47, .int .i64 xTo48, .int .i64 xLimit49] 52)) fun ww50 =>
  ww50.cell? ((blk ww10.heap.size).add 0) = some (.slice L42a L42n L42c) ∧
  ∃ (a51a : Option Addr) (a51n : Nat) (a51c : Nat) (ww52 : World), (Builtin.append_ #[43, 43] 43 #[.slice L42a L42n L42c, .slice (some (blk ww41.heap.size)) 1 1]).run Try.prog ww50 = .ok (.slice a51a a51n a51c) ww52 ∧
  canStore ww52 (((blk ww10.heap.size).add 0).add 0) ∧
  thenW (ww52.setCell (((blk ww10.heap.size).add 0).add 0) (.slice a51a a51n a51c)) fun ww53 =>
  ∃ m54, m54 < m18 ∧ I0 m54 [.bool true, .int .i64 (IntKind.i64.wrap (i16 + 1))] ww53) else (
  ∃ m55, m55 < m18 ∧ I0 m55 [.bool true, .int .i64 (IntKind.i64.wrap (i16 + 1))] ww36)) else (
  thenW (ww21.drew) fun ww56 =>
  ∃ (L57a : Option Addr) (L57n : Nat) (L57c : Nat), ww56.cell? ((blk w.heap.size).add 0) = some (.slice L57a L57n L57c) ∧
  L57a.elim False fun a58 =>
  0 ≤ (i16 : Int) ∧ (i16 : Int) < (L57n : Int) ∧
  ∃ (Who59 : Int), ww56.cell? ((a58.add (Int.toNat i16 * 5)).add 0) = some (.int .i64 Who59) ∧
  ∃ (Who60 : Int), ww56.cell? ((blk ww8.heap.size).add 0) = some (.int .i64 Who60) ∧
  bif Who59 != Who60 then (
  thenW (ww56.drew) fun ww61 =>
  ∃ (L62a : Option Addr) (L62n : Nat) (L62c : Nat), ww61.cell? ((blk ww10.heap.size).add 0) = some (.slice L62a L62n L62c) ∧
  ∃ (L63a : Option Addr) (L63n : Nat) (L63c : Nat), ww61.cell? ((blk w.heap.size).add 0) = some (.slice L63a L63n L63c) ∧
  L63a.elim False fun a64 =>
  0 ≤ (i16 : Int) ∧ (i16 : Int) < (L63n : Int) ∧
  ∃ (xWho65 : Int) (xPublic66 : Int) (xFrom67 : Int) (xTo68 : Int) (xLimit69 : Int), cellsAt ww61 (a64.add (Int.toNat i16 * 5)) [.int .i64 xWho65, .int .u64 xPublic66, .int .i64 xFrom67, .int .i64 xTo68, .int .i64 xLimit69] 0 ∧
  thenW (ww61.alloc (.cells #[.int .i64 xWho65, .int .u64 xPublic66, .int .i64 xFrom67, .int .i64 xTo68, .int .i64 xLimit69] 52)) fun ww70 =>
  ww70.cell? ((blk ww10.heap.size).add 0) = some (.slice L62a L62n L62c) ∧
  ∃ (a71a : Option Addr) (a71n : Nat) (a71c : Nat) (ww72 : World), (Builtin.append_ #[43, 43] 43 #[.slice L62a L62n L62c, .slice (some (blk ww61.heap.size)) 1 1]).run Try.prog ww70 = .ok (.slice a71a a71n a71c) ww72 ∧
  canStore ww72 (((blk ww10.heap.size).add 0).add 0) ∧
  thenW (ww72.setCell (((blk ww10.heap.size).add 0).add 0) (.slice a71a a71n a71c)) fun ww73 =>
  ∃ m74, m74 < m18 ∧ I0 m74 [.bool inv15, .int .i64 (IntKind.i64.wrap (i16 + 1))] ww73) else (
  ∃ m75, m75 < m18 ∧ I0 m75 [.bool inv15, .int .i64 (IntKind.i64.wrap (i16 + 1))] ww56))) else (
  thenW (ww21.drew) fun ww76 =>
  ∃ (L77a : Option Addr) (L77n : Nat) (L77c : Nat), ww76.cell? ((blk w.heap.size).add 0) = some (.slice L77a L77n L77c) ∧
  L77a.elim False fun a78 =>
  0 ≤ (i16 : Int) ∧ (i16 : Int) < (L77n : Int) ∧
  ∃ (Who79 : Int), ww76.cell? ((a78.add (Int.toNat i16 * 5)).add 0) = some (.int .i64 Who79) ∧
  ∃ (Who80 : Int), ww76.cell? ((blk ww8.heap.size).add 0) = some (.int .i64 Who80) ∧
  bif Who79 != Who80 then (
  thenW (ww76.drew) fun ww81 =>
  ∃ (L82a : Option Addr) (L82n : Nat) (L82c : Nat), ww81.cell? ((blk ww10.heap.size).add 0) = some (.slice L82a L82n L82c) ∧
  ∃ (L83a : Option Addr) (L83n : Nat) (L83c : Nat), ww81.cell? ((blk w.heap.size).add 0) = some (.slice L83a L83n L83c) ∧
  L83a.elim False fun a84 =>
  0 ≤ (i16 : Int) ∧ (i16 : Int) < (L83n : Int) ∧
  ∃ (xWho85 : Int) (xPublic86 : Int) (xFrom87 : Int) (xTo88 : Int) (xLimit89 : Int), cellsAt ww81 (a84.add (Int.toNat i16 * 5)) [.int .i64 xWho85, .int .u64 xPublic86, .int .i64 xFrom87, .int .i64 xTo88, .int .i64 xLimit89] 0 ∧
  thenW (ww81.alloc (.cells #[.int .i64 xWho85, .int .u64 xPublic86, .int .i64 xFrom87, .int .i64 xTo88, .int .i64 xLimit89] 52)) fun ww90 =>
  ww90.cell? ((blk ww10.heap.size).add 0) = some (.slice L82a L82n L82c) ∧
  ∃ (a91a : Option Addr) (a91n : Nat) (a91c : Nat) (ww92 : World), (Builtin.append_ #[43, 43] 43 #[.slice L82a L82n L82c, .slice (some (blk ww81.heap.size)) 1 1]).run Try.prog ww90 = .ok (.slice a91a a91n a91c) ww92 ∧
  canStore ww92 (((blk ww10.heap.size).add 0).add 0) ∧
  thenW (ww92.setCell (((blk ww10.heap.size).add 0).add 0) (.slice a91a a91n a91c)) fun ww93 =>
  ∃ m94, m94 < m18 ∧ I0 m94 [.bool inv15, .int .i64 (IntKind.i64.wrap (i16 + 1))] ww93) else (
  ∃ m95, m95 < m18 ∧ I0 m95 [.bool inv15, .int .i64 (IntKind.i64.wrap (i16 + 1))] ww76))) else (
  bif !inv15 then (
  ∃ (L96a : Option Addr) (L96n : Nat) (L96c : Nat), ww19.cell? ((blk ww10.heap.size).add 0) = some (.slice L96a L96n L96c) ∧
  ∃ (xWho97 : Int) (xPublic98 : Int) (xFrom99 : Int) (xTo100 : Int) (xLimit101 : Int), cellsAt ww19 (blk ww8.heap.size) [.int .i64 xWho97, .int .u64 xPublic98, .int .i64 xFrom99, .int .i64 xTo100, .int .i64 xLimit101] 0 ∧
  thenW (ww19.alloc (.cells #[.int .i64 xWho97, .int .u64 xPublic98, .int .i64 xFrom99, .int .i64 xTo100, .int .i64 xLimit101] 52)) fun ww102 =>
  ∃ (a103a : Option Addr) (a103n : Nat) (a103c : Nat) (ww104 : World), (Builtin.append_ #[43, 43] 43 #[.slice L96a L96n L96c, .slice (some (blk ww19.heap.size)) 1 1]).run Try.prog ww102 = .ok (.slice a103a a103n a103c) ww104 ∧
  canStore ww104 (((blk ww10.heap.size).add 0).add 0) ∧
  thenW (ww104.setCell (((blk ww10.heap.size).add 0).add 0) (.slice a103a a103n a103c)) fun ww105 =>
  ∃ (xL106a : Option Addr) (xL106n : Nat) (xL106c : Nat) (xEpoch107 : Int), cellsAt ww105 (blk ww10.heap.size) [.slice xL106a xL106n xL106c, .int .i64 xEpoch107] 0 ∧
  canStore ww105 ((blk ww9.heap.size).add 0) ∧
  thenW (ww105.setCell ((blk ww9.heap.size).add 0) (.slice xL106a xL106n xL106c)) fun ww108 =>
  canStore ww108 ((blk ww9.heap.size).add 1) ∧
  thenW (ww108.setCell ((blk ww9.heap.size).add 1) (.int .i64 xEpoch107)) fun ww109 =>
  ∃ (resL110a : Option Addr) (resL110n : Nat) (resL110c : Nat) (resEpoch111 : Int), cellsAt ww109 (blk ww9.heap.size) [.slice resL110a resL110n resL110c, .int .i64 resEpoch111] 0 ∧
  R (.agg #[.slice resL110a resL110n resL110c, .int .i64 resEpoch111]) ww109) else (
  ∃ (xL112a : Option Addr) (xL112n : Nat) (xL112c : Nat) (xEpoch113 : Int), cellsAt ww19 (blk ww10.heap.size) [.slice xL112a xL112n xL112c, .int .i64 xEpoch113] 0 ∧
  canStore ww19 ((blk ww9.heap.size).add 0) ∧
  thenW (ww19.setCell ((blk ww9.heap.size).add 0) (.slice xL112a xL112n xL112c)) fun ww114 =>
  canStore ww114 ((blk ww9.heap.size).add 1) ∧
  thenW (ww114.setCell ((blk ww9.heap.size).add 1) (.int .i64 xEpoch113)) fun ww115 =>
  ∃ (resL116a : Option Addr) (resL116n : Nat) (resL116c : Nat) (resEpoch117 : Int), cellsAt ww115 (blk ww9.heap.size) [.slice resL116a resL116n resL116c, .int .i64 resEpoch117] 0 ∧
  R (.agg #[.slice resL116a resL116n resL116c, .int .i64 resEpoch117]) ww115))

theorem cachetteref12_put.eq (sL1a : Option Addr) (sL1n : Nat) (sL1c : Nat) (sEpoch2 : Int) (mWho3 : Int) (mPublic4 : Int) (mFrom5 : Int) (mTo6 : Int) (mLimit7 : Int) (R : Value → World → Prop) (w : World) : mfunc Try.prog [(0, [2, 3, 4, 5], [(6, (.one .bool)), (7, (.one (.int .i64)))])] 40 [.agg #[.slice sL1a sL1n sL1c, .int .i64 sEpoch2], .agg #[.int .i64 mWho3, .int .u64 mPublic4, .int .i64 mFrom5, .int .i64 mTo6, .int .i64 mLimit7]] R w = cachetteref12_put.M sL1a sL1n sL1c sEpoch2 mWho3 mPublic4 mFrom5 mTo6 mLimit7 R w := by kernel_rfl
theorem cachetteref12_put.ok (sL1a : Option Addr) (sL1n : Nat) (sL1c : Nat) (sEpoch2 : Int) (mWho3 : Int) (mPublic4 : Int) (mFrom5 : Int) (mTo6 : Int) (mLimit7 : Int) {R : Value → World → Prop} {w : World} (h : cachetteref12_put.M sL1a sL1n sL1c sEpoch2 mWho3 mPublic4 mFrom5 mTo6 mLimit7 R w) : Calls Try.prog 40 #[.agg #[.slice sL1a sL1n sL1c, .int .i64 sEpoch2], .agg #[.int .i64 mWho3, .int .u64 mPublic4, .int .i64 mFrom5, .int .i64 mTo6, .int .i64 mLimit7]] w fun e w' => ∃ v, e = .returned v ∧ R v w' :=
  mfunc_ok follows (H := [(0, [2, 3, 4, 5], [(6, (.one .bool)), (7, (.one (.int .i64)))])]) (args := [.agg #[.slice sL1a sL1n sL1c, .int .i64 sEpoch2], .agg #[.int .i64 mWho3, .int .u64 mPublic4, .int .i64 mFrom5, .int .i64 mTo6, .int .i64 mLimit7]]) (by rw [cachetteref12_put.eq]; exact h)

def cachetteref12_put.N (sL1a : Option Addr) (sL1n : Nat) (sL1c : Nat) (sEpoch2 : Int) (mWho3 : Int) (mPublic4 : Int) (mFrom5 : Int) (mTo6 : Int) (mLimit7 : Int) (R : Value → World → Prop) (w : World) : Prop :=
  ∀ (ww13 : World) (p14 : Nat) (p15 : Nat) (p16 : Nat) (p17 : Nat), Ext no w ww13 → Priv w ww13 [p14, p15, p16, p17] →
  ∃ (I0 : Nat → List Value → World → Prop) (m24 : Nat), I0 m24 [.bool false, .int .i64 0, .slice none 0 0, .int .i64 0, .slice none 0 0, .int .i64 sEpoch2] ww13 ∧ ∀ (m25 : Nat) (ww26 : World) (inv18 : Bool) (i19 : Int) (L20a : Option Addr) (L20n : Nat) (L20c : Nat) (Epoch21 : Int) (L22a : Option Addr) (L22n : Nat) (L22c : Nat) (Epoch23 : Int), I0 m25 [.bool inv18, .int .i64 i19, .slice L20a L20n L20c, .int .i64 Epoch21, .slice L22a L22n L22c, .int .i64 Epoch23] ww26 →
  (i19 < (sL1n : Int) →
    (inv18 = false →
      ∃ a30 : Addr, sL1a = some a30 ∧
      0 ≤ (i19 : Int) ∧ (i19 : Int) < (sL1n : Int) ∧
      ∃ (Who32 : Int), ww26.cell? ((a30.add (Int.toNat i19 * 5)).add 0) = some (.int .i64 Who32) ∧
      (Who32 ≥ mWho3 →
        ∀ (ww34 : World) (q35 : Nat), Ext no ww26 ww34 → Blk ww34 q35 52 [.int .i64 mWho3, .int .u64 mPublic4, .int .i64 mFrom5, .int .i64 mTo6, .int .i64 mLimit7] → ww26.heap.size ≤ q35 → q35 < ww34.heap.size →
        ∃ (a36a : Option Addr) (a36n : Nat) (a36c : Nat) (ww37 : World), (Builtin.append_ #[43, 43] 43 #[.slice L22a L22n L22c, .slice (some (blk q35)) 1 1]).run Try.prog ww34 = .ok (.slice a36a a36n a36c) ww37 ∧
        Keep [p14, p15, p16, p17] ww34 ww37 ∧
        0 ≤ (i19 : Int) ∧ (i19 : Int) < (sL1n : Int) ∧
        ∀ (ww39 : World), Ext (fun b => b = p17) ww37 ww39 →
        ∃ (Who41 : Int), ww39.cell? ((a30.add (Int.toNat i19 * 5)).add 0) = some (.int .i64 Who41) ∧
        (Who41 ≠ mWho3 →
          0 ≤ (i19 : Int) ∧ (i19 : Int) < (sL1n : Int) ∧
          ∃ (xWho45 : Int) (xPublic46 : Int) (xFrom47 : Int) (xTo48 : Int) (xLimit49 : Int), cellsAt ww39 (a30.add (Int.toNat i19 * 5)) [.int .i64 xWho45, .int .u64 xPublic46, .int .i64 xFrom47, .int .i64 xTo48, .int .i64 xLimit49] 0 ∧
          ∀ (ww50 : World) (q51 : Nat), Ext no ww39 ww50 → Blk ww50 q51 52 [.int .i64 xWho45, .int .u64 xPublic46, .int .i64 xFrom47, .int .i64 xTo48, .int .i64 xLimit49] → ww39.heap.size ≤ q51 → q51 < ww50.heap.size →
          ∃ (a52a : Option Addr) (a52n : Nat) (a52c : Nat) (ww53 : World), (Builtin.append_ #[43, 43] 43 #[.slice a36a a36n a36c, .slice (some (blk q51)) 1 1]).run Try.prog ww50 = .ok (.slice a52a a52n a52c) ww53 ∧
          Keep [p14, p15, p16, p17] ww50 ww53 ∧
          (-9223372036854775808 : Int) ≤ (i19 + 1) ∧ (i19 + 1) < 9223372036854775808 ∧
          ∀ (ww54 : World), Ext (fun b => b = p17) ww53 ww54 →
          ∃ m55, m55 < m25 ∧ I0 m55 [.bool true, .int .i64 (i19 + 1), .slice L20a L20n L20c, .int .i64 Epoch21, .slice a52a a52n a52c, .int .i64 Epoch23] ww54) ∧
        (Who41 = mWho3 →
          (-9223372036854775808 : Int) ≤ (i19 + 1) ∧ (i19 + 1) < 9223372036854775808 ∧
          ∃ m56, m56 < m25 ∧ I0 m56 [.bool true, .int .i64 (i19 + 1), .slice L20a L20n L20c, .int .i64 Epoch21, .slice a36a a36n a36c, .int .i64 Epoch23] ww39)) ∧
      (Who32 < mWho3 →
        0 ≤ (i19 : Int) ∧ (i19 : Int) < (sL1n : Int) ∧
        ∃ (Who59 : Int), ww26.cell? ((a30.add (Int.toNat i19 * 5)).add 0) = some (.int .i64 Who59) ∧
        (Who59 ≠ mWho3 →
          0 ≤ (i19 : Int) ∧ (i19 : Int) < (sL1n : Int) ∧
          ∃ (xWho63 : Int) (xPublic64 : Int) (xFrom65 : Int) (xTo66 : Int) (xLimit67 : Int), cellsAt ww26 (a30.add (Int.toNat i19 * 5)) [.int .i64 xWho63, .int .u64 xPublic64, .int .i64 xFrom65, .int .i64 xTo66, .int .i64 xLimit67] 0 ∧
          ∀ (ww68 : World) (q69 : Nat), Ext no ww26 ww68 → Blk ww68 q69 52 [.int .i64 xWho63, .int .u64 xPublic64, .int .i64 xFrom65, .int .i64 xTo66, .int .i64 xLimit67] → ww26.heap.size ≤ q69 → q69 < ww68.heap.size →
          ∃ (a70a : Option Addr) (a70n : Nat) (a70c : Nat) (ww71 : World), (Builtin.append_ #[43, 43] 43 #[.slice L22a L22n L22c, .slice (some (blk q69)) 1 1]).run Try.prog ww68 = .ok (.slice a70a a70n a70c) ww71 ∧
          Keep [p14, p15, p16, p17] ww68 ww71 ∧
          (-9223372036854775808 : Int) ≤ (i19 + 1) ∧ (i19 + 1) < 9223372036854775808 ∧
          ∀ (ww72 : World), Ext (fun b => b = p17) ww71 ww72 →
          ∃ m73, m73 < m25 ∧ I0 m73 [.bool inv18, .int .i64 (i19 + 1), .slice L20a L20n L20c, .int .i64 Epoch21, .slice a70a a70n a70c, .int .i64 Epoch23] ww72) ∧
        (Who59 = mWho3 →
          (-9223372036854775808 : Int) ≤ (i19 + 1) ∧ (i19 + 1) < 9223372036854775808 ∧
          ∀ (ww57 : World), Ext no ww26 ww57 →
          ∃ m74, m74 < m25 ∧ I0 m74 [.bool inv18, .int .i64 (i19 + 1), .slice L20a L20n L20c, .int .i64 Epoch21, .slice L22a L22n L22c, .int .i64 Epoch23] ww57))) ∧
    (inv18 = true →
      ∃ a76 : Addr, sL1a = some a76 ∧
      0 ≤ (i19 : Int) ∧ (i19 : Int) < (sL1n : Int) ∧
      ∃ (Who78 : Int), ww26.cell? ((a76.add (Int.toNat i19 * 5)).add 0) = some (.int .i64 Who78) ∧
      (Who78 ≠ mWho3 →
        0 ≤ (i19 : Int) ∧ (i19 : Int) < (sL1n : Int) ∧
        ∃ (xWho82 : Int) (xPublic83 : Int) (xFrom84 : Int) (xTo85 : Int) (xLimit86 : Int), cellsAt ww26 (a76.add (Int.toNat i19 * 5)) [.int .i64 xWho82, .int .u64 xPublic83, .int .i64 xFrom84, .int .i64 xTo85, .int .i64 xLimit86] 0 ∧
        ∀ (ww87 : World) (q88 : Nat), Ext no ww26 ww87 → Blk ww87 q88 52 [.int .i64 xWho82, .int .u64 xPublic83, .int .i64 xFrom84, .int .i64 xTo85, .int .i64 xLimit86] → ww26.heap.size ≤ q88 → q88 < ww87.heap.size →
        ∃ (a89a : Option Addr) (a89n : Nat) (a89c : Nat) (ww90 : World), (Builtin.append_ #[43, 43] 43 #[.slice L22a L22n L22c, .slice (some (blk q88)) 1 1]).run Try.prog ww87 = .ok (.slice a89a a89n a89c) ww90 ∧
        Keep [p14, p15, p16, p17] ww87 ww90 ∧
        (-9223372036854775808 : Int) ≤ (i19 + 1) ∧ (i19 + 1) < 9223372036854775808 ∧
        ∀ (ww91 : World), Ext (fun b => b = p17) ww90 ww91 →
        ∃ m92, m92 < m25 ∧ I0 m92 [.bool inv18, .int .i64 (i19 + 1), .slice L20a L20n L20c, .int .i64 Epoch21, .slice a89a a89n a89c, .int .i64 Epoch23] ww91) ∧
      (Who78 = mWho3 →
        (-9223372036854775808 : Int) ≤ (i19 + 1) ∧ (i19 + 1) < 9223372036854775808 ∧
        ∀ (ww75 : World), Ext no ww26 ww75 →
        ∃ m93, m93 < m25 ∧ I0 m93 [.bool inv18, .int .i64 (i19 + 1), .slice L20a L20n L20c, .int .i64 Epoch21, .slice L22a L22n L22c, .int .i64 Epoch23] ww75))) ∧
  ((sL1n : Int) ≤ i19 →
    (inv18 = false →
      ∀ (ww95 : World) (q96 : Nat), Ext no ww26 ww95 → Blk ww95 q96 52 [.int .i64 mWho3, .int .u64 mPublic4, .int .i64 mFrom5, .int .i64 mTo6, .int .i64 mLimit7] → ww26.heap.size ≤ q96 → q96 < ww95.heap.size →
      ∃ (a97a : Option Addr) (a97n : Nat) (a97c : Nat) (ww98 : World), (Builtin.append_ #[43, 43] 43 #[.slice L22a L22n L22c, .slice (some (blk q96)) 1 1]).run Try.prog ww95 = .ok (.slice a97a a97n a97c) ww98 ∧
      Keep [p16, p17] ww95 ww98 ∧
      ∀ (ww101 : World), Ext (fun b => b = p16 ∨ b = p17) ww98 ww101 →
      R (.agg #[.slice a97a a97n a97c, .int .i64 Epoch23]) ww101) ∧
    (inv18 = true →
      ∀ (ww103 : World), Ext (fun b => b = p16) ww26 ww103 →
      R (.agg #[.slice L22a L22n L22c, .int .i64 Epoch23]) ww103))

theorem cachetteref12_put.up (sL1a : Option Addr) (sL1n : Nat) (sL1c : Nat) (sEpoch2 : Int) (mWho3 : Int) (mPublic4 : Int) (mFrom5 : Int) (mTo6 : Int) (mLimit7 : Int) {R : Value → World → Prop} {w : World} (h : cachetteref12_put.N sL1a sL1n sL1c sEpoch2 mWho3 mPublic4 mFrom5 mTo6 mLimit7 R w) : cachetteref12_put.M sL1a sL1n sL1c sEpoch2 mWho3 mPublic4 mFrom5 mTo6 mLimit7 R w := by
  unfold cachetteref12_put.M
  unfold cachetteref12_put.N at h
  refine thenW_in fun ww8 e8 => ?_
  have hb1 := Blk.of_new e8
  have hg1 := ((Ext.refl no w)).size
  have hx8 := (Ext.refl no w).x_alloc e8
  refine thenW_in fun ww9 e9 => ?_
  have hb2 := Blk.of_new e9
  have hg2 := (hx8).size
  have hb1_2 := Nat.ne_of_lt hb1.lt
  have hb1 := hb1.x_alloc e9
  have hx9 := hx8.x_alloc e9
  refine thenW_in fun ww10 e10 => ?_
  have hb3 := Blk.of_new e10
  have hg3 := (hx9).size
  have hb1_3 := Nat.ne_of_lt hb1.lt
  have hb1 := hb1.x_alloc e10
  have hb2_3 := Nat.ne_of_lt hb2.lt
  have hb2 := hb2.x_alloc e10
  have hx10 := hx9.x_alloc e10
  refine ⟨sEpoch2, hb1.celli 1 rfl rfl, ?_⟩
  refine thenW_in fun ww11 e11 => ?_
  have hb4 := Blk.of_new e11
  have hg4 := (hx10).size
  have hb1_4 := Nat.ne_of_lt hb1.lt
  have hb1 := hb1.x_alloc e11
  have hb2_4 := Nat.ne_of_lt hb2.lt
  have hb2 := hb2.x_alloc e11
  have hb3_4 := Nat.ne_of_lt hb3.lt
  have hb3 := hb3.x_alloc e11
  have hx11 := hx10.x_alloc e11
  refine ⟨hb4.cani 0 rfl rfl, thenW_in fun ww12 e12 => ?_⟩
  have hx12 := hx11.x_set (q := ww10.heap.size) (i := 0) rfl (.inr hg4) e12
  have hb1 := hb1.oth (q := ww10.heap.size) (i := 0) rfl hb1_4 e12
  have hb2 := hb2.oth (q := ww10.heap.size) (i := 0) rfl hb2_4 e12
  have hb3 := hb3.oth (q := ww10.heap.size) (i := 0) rfl hb3_4 e12
  have hb4 := hb4.seti 0 rfl e12
  refine ⟨hb4.cani 1 rfl rfl, thenW_in fun ww13 e13 => ?_⟩
  have hx13 := hx12.x_set (q := ww10.heap.size) (i := 1) rfl (.inr hg4) e13
  have hb1 := hb1.oth (q := ww10.heap.size) (i := 1) rfl hb1_4 e13
  have hb2 := hb2.oth (q := ww10.heap.size) (i := 1) rfl hb2_4 e13
  have hb3 := hb3.oth (q := ww10.heap.size) (i := 1) rfl hb3_4 e13
  have hb4 := hb4.seti 1 rfl e13
  have h := h ww13 (w.heap.size) (ww8.heap.size) (ww9.heap.size) (ww10.heap.size) hx13 (Priv.cons hg1 hb1.lt (Priv.cons hg2 hb2.lt (Priv.cons hg3 hb3.lt (Priv.cons hg4 hb4.lt Priv.nil))))
  obtain ⟨I0, m24, h0, h⟩ := h
  refine ⟨fun k vs ww => ∃ (L20a : Option Addr) (L20n : Nat) (L20c : Nat) (Epoch21 : Int) (L22a : Option Addr) (L22n : Nat) (L22c : Nat) (Epoch23 : Int), Blk ww w.heap.size 45 [.slice sL1a sL1n sL1c, .int .i64 sEpoch2] ∧ Blk ww ww8.heap.size 52 [.int .i64 mWho3, .int .u64 mPublic4, .int .i64 mFrom5, .int .i64 mTo6, .int .i64 mLimit7] ∧ Blk ww ww9.heap.size 45 [.slice L20a L20n L20c, .int .i64 Epoch21] ∧ Blk ww ww10.heap.size 45 [.slice L22a L22n L22c, .int .i64 Epoch23] ∧ I0 k (vs ++ [.slice L20a L20n L20c, .int .i64 Epoch21, .slice L22a L22n L22c, .int .i64 Epoch23]) ww, m24, ⟨none, 0, 0, 0, none, 0, 0, sEpoch2, hb1, hb2, hb3, hb4, h0⟩, fun m25 ww26 inv18 i19 hI => ?_⟩
  obtain ⟨L20a, L20n, L20c, Epoch21, L22a, L22n, L22c, Epoch23, hb1, hb2, hb3, hb4, hI⟩ := hI
  have h := h m25 ww26 inv18 i19 L20a L20n L20c Epoch21 L22a L22n L22c Epoch23 hI
  refine ⟨sL1a, sL1n, sL1c, hb1.celli 0 rfl rfl, ?_⟩
  refine bif_of (fun c27 => ?_) (fun c27 => ?_)
  · have h := h.1 (of_decide_eq_true c27)
    refine thenW_in fun ww28 e28 => ?_
    have hx28 := (Ext.refl no ww26).x_drew e28
    have hb1 := hb1.x_drew e28
    have hb2 := hb2.x_drew e28
    have hb3 := hb3.x_drew e28
    have hb4 := hb4.x_drew e28
    refine bif_of (fun c29 => ?_) (fun c29 => ?_)
    · have h := h.1 (not_t c29)
      refine ⟨sL1a, sL1n, sL1c, hb1.celli 0 rfl rfl, ?_⟩
      obtain ⟨a30, ha30, h⟩ := h
      refine elim_some ha30 ?_
      obtain ⟨hq1, hq2, h⟩ := h
      refine ⟨hq1, hq2, ?_⟩
      obtain ⟨Who32, hc31, h⟩ := h
      refine ⟨Who32, (hx28).cell hc31 id, ?_⟩
      refine ⟨mWho3, hb2.celli 0 rfl rfl, ?_⟩
      refine bif_of (fun c33 => ?_) (fun c33 => ?_)
      · have h := h.1 (of_decide_eq_true c33)
        refine ⟨L22a, L22n, L22c, hb4.celli 0 rfl rfl, ?_⟩
        refine ⟨mWho3, mPublic4, mFrom5, mTo6, mLimit7, ⟨hb2.celli 0 rfl rfl, hb2.celli 1 rfl rfl, hb2.celli 2 rfl rfl, hb2.celli 3 rfl rfl, hb2.celli 4 rfl rfl, trivial⟩, ?_⟩
        refine thenW_in fun ww34 e34 => ?_
        have hb1 := hb1.x_alloc e34
        have hb2 := hb2.x_alloc e34
        have hb3 := hb3.x_alloc e34
        have hb4 := hb4.x_alloc e34
        have h := h ww34 ww28.heap.size (hx28.x_alloc e34) (Blk.of_new e34) (hx28).size (size_lt_alloc e34)
        obtain ⟨a36a, a36n, a36c, ww37, hr, hk, h⟩ := h
        refine ⟨a36a, a36n, a36c, ww37, hr, ?_⟩
        have hb1 := hk.blk hb1 (by simp)
        have hb2 := hk.blk hb2 (by simp)
        have hb3 := hk.blk hb3 (by simp)
        have hb4 := hk.blk hb4 (by simp)
        have hm38 : Ext (fun b => b = ww10.heap.size) ww37 ww37 := ((Ext.refl no ww37)).none
        refine ⟨hb4.cani 0 rfl rfl, thenW_in fun ww38 e38 => ?_⟩
        have hx38 := hm38.x_set (q := ww10.heap.size) (i := 0) rfl (.inl rfl) e38
        have hb1 := hb1.oth (q := ww10.heap.size) (i := 0) rfl hb1_4 e38
        have hb2 := hb2.oth (q := ww10.heap.size) (i := 0) rfl hb2_4 e38
        have hb3 := hb3.oth (q := ww10.heap.size) (i := 0) rfl hb3_4 e38
        have hb4 := hb4.seti 0 rfl e38
        refine thenW_in fun ww39 e39 => ?_
        have hx39 := hx38.x_drew e39
        have hb1 := hb1.x_drew e39
        have hb2 := hb2.x_drew e39
        have hb3 := hb3.x_drew e39
        have hb4 := hb4.x_drew e39
        refine ⟨sL1a, sL1n, sL1c, hb1.celli 0 rfl rfl, ?_⟩
        refine elim_some ha30 ?_
        obtain ⟨hq1, hq2, h⟩ := h
        refine ⟨hq1, hq2, ?_⟩
        have h := h ww39 hx39
        obtain ⟨Who41, hc40, h⟩ := h
        refine ⟨Who41, hc40, ?_⟩
        refine ⟨mWho3, hb2.celli 0 rfl rfl, ?_⟩
        refine bif_of (fun c42 => ?_) (fun c42 => ?_)
        · have h := h.1 (bne_t c42)
          refine thenW_in fun ww43 e43 => ?_
          have hx43 := (Ext.refl no ww39).x_drew e43
          have hb1 := hb1.x_drew e43
          have hb2 := hb2.x_drew e43
          have hb3 := hb3.x_drew e43
          have hb4 := hb4.x_drew e43
          refine ⟨a36a, a36n, a36c, hb4.celli 0 rfl rfl, ?_⟩
          refine ⟨sL1a, sL1n, sL1c, hb1.celli 0 rfl rfl, ?_⟩
          refine elim_some ha30 ?_
          obtain ⟨hq1, hq2, h⟩ := h
          refine ⟨hq1, hq2, ?_⟩
          obtain ⟨xWho45, xPublic46, xFrom47, xTo48, xLimit49, hc44, h⟩ := h
          refine ⟨xWho45, xPublic46, xFrom47, xTo48, xLimit49, cellsAt_no (hx43) hc44, ?_⟩
          refine thenW_in fun ww50 e50 => ?_
          have hb1 := hb1.x_alloc e50
          have hb2 := hb2.x_alloc e50
          have hb3 := hb3.x_alloc e50
          have hb4 := hb4.x_alloc e50
          have h := h ww50 ww43.heap.size (hx43.x_alloc e50) (Blk.of_new e50) (hx43).size (size_lt_alloc e50)
          refine ⟨hb4.celli 0 rfl rfl, ?_⟩
          obtain ⟨a52a, a52n, a52c, ww53, hr, hk, h⟩ := h
          refine ⟨a52a, a52n, a52c, ww53, hr, ?_⟩
          have hb1 := hk.blk hb1 (by simp)
          have hb2 := hk.blk hb2 (by simp)
          have hb3 := hk.blk hb3 (by simp)
          have hb4 := hk.blk hb4 (by simp)
          have hm54 : Ext (fun b => b = ww10.heap.size) ww53 ww53 := ((Ext.refl no ww53)).none
          refine ⟨hb4.cani 0 rfl rfl, thenW_in fun ww54 e54 => ?_⟩
          have hx54 := hm54.x_set (q := ww10.heap.size) (i := 0) rfl (.inl rfl) e54
          have hb1 := hb1.oth (q := ww10.heap.size) (i := 0) rfl hb1_4 e54
          have hb2 := hb2.oth (q := ww10.heap.size) (i := 0) rfl hb2_4 e54
          have hb3 := hb3.oth (q := ww10.heap.size) (i := 0) rfl hb3_4 e54
          have hb4 := hb4.seti 0 rfl e54
          obtain ⟨hw1, hw2, h⟩ := h
          try rw [w64 hw1 hw2]
          have h := h ww54 hx54
          obtain ⟨m55, hk, h⟩ := h
          exact ⟨m55, hk, L20a, L20n, L20c, Epoch21, a52a, a52n, a52c, Epoch23, hb1, hb2, hb3, hb4, h⟩
        · have h := h.2 (bne_f c42)
          obtain ⟨hw1, hw2, h⟩ := h
          try rw [w64 hw1 hw2]
          obtain ⟨m56, hk, h⟩ := h
          exact ⟨m56, hk, L20a, L20n, L20c, Epoch21, a36a, a36n, a36c, Epoch23, hb1, hb2, hb3, hb4, h⟩
      · have h := h.2 (Int.not_le.1 (of_decide_eq_false c33))
        refine thenW_in fun ww57 e57 => ?_
        have hx57 := hx28.x_drew e57
        have hb1 := hb1.x_drew e57
        have hb2 := hb2.x_drew e57
        have hb3 := hb3.x_drew e57
        have hb4 := hb4.x_drew e57
        refine ⟨sL1a, sL1n, sL1c, hb1.celli 0 rfl rfl, ?_⟩
        refine elim_some ha30 ?_
        obtain ⟨hq1, hq2, h⟩ := h
        refine ⟨hq1, hq2, ?_⟩
        obtain ⟨Who59, hc58, h⟩ := h
        refine ⟨Who59, (hx57).cell hc58 id, ?_⟩
        refine ⟨mWho3, hb2.celli 0 rfl rfl, ?_⟩
        refine bif_of (fun c60 => ?_) (fun c60 => ?_)
        · have h := h.1 (bne_t c60)
          refine thenW_in fun ww61 e61 => ?_
          have hx61 := hx57.x_drew e61
          have hb1 := hb1.x_drew e61
          have hb2 := hb2.x_drew e61
          have hb3 := hb3.x_drew e61
          have hb4 := hb4.x_drew e61
          refine ⟨L22a, L22n, L22c, hb4.celli 0 rfl rfl, ?_⟩
          refine ⟨sL1a, sL1n, sL1c, hb1.celli 0 rfl rfl, ?_⟩
          refine elim_some ha30 ?_
          obtain ⟨hq1, hq2, h⟩ := h
          refine ⟨hq1, hq2, ?_⟩
          obtain ⟨xWho63, xPublic64, xFrom65, xTo66, xLimit67, hc62, h⟩ := h
          refine ⟨xWho63, xPublic64, xFrom65, xTo66, xLimit67, cellsAt_no (hx61) hc62, ?_⟩
          refine thenW_in fun ww68 e68 => ?_
          have hb1 := hb1.x_alloc e68
          have hb2 := hb2.x_alloc e68
          have hb3 := hb3.x_alloc e68
          have hb4 := hb4.x_alloc e68
          have h := h ww68 ww61.heap.size (hx61.x_alloc e68) (Blk.of_new e68) (hx61).size (size_lt_alloc e68)
          refine ⟨hb4.celli 0 rfl rfl, ?_⟩
          obtain ⟨a70a, a70n, a70c, ww71, hr, hk, h⟩ := h
          refine ⟨a70a, a70n, a70c, ww71, hr, ?_⟩
          have hb1 := hk.blk hb1 (by simp)
          have hb2 := hk.blk hb2 (by simp)
          have hb3 := hk.blk hb3 (by simp)
          have hb4 := hk.blk hb4 (by simp)
          have hm72 : Ext (fun b => b = ww10.heap.size) ww71 ww71 := ((Ext.refl no ww71)).none
          refine ⟨hb4.cani 0 rfl rfl, thenW_in fun ww72 e72 => ?_⟩
          have hx72 := hm72.x_set (q := ww10.heap.size) (i := 0) rfl (.inl rfl) e72
          have hb1 := hb1.oth (q := ww10.heap.size) (i := 0) rfl hb1_4 e72
          have hb2 := hb2.oth (q := ww10.heap.size) (i := 0) rfl hb2_4 e72
          have hb3 := hb3.oth (q := ww10.heap.size) (i := 0) rfl hb3_4 e72
          have hb4 := hb4.seti 0 rfl e72
          obtain ⟨hw1, hw2, h⟩ := h
          try rw [w64 hw1 hw2]
          have h := h ww72 hx72
          obtain ⟨m73, hk, h⟩ := h
          exact ⟨m73, hk, L20a, L20n, L20c, Epoch21, a70a, a70n, a70c, Epoch23, hb1, hb2, hb3, hb4, h⟩
        · have h := h.2 (bne_f c60)
          obtain ⟨hw1, hw2, h⟩ := h
          try rw [w64 hw1 hw2]
          have h := h ww57 hx57
          obtain ⟨m74, hk, h⟩ := h
          exact ⟨m74, hk, L20a, L20n, L20c, Epoch21, L22a, L22n, L22c, Epoch23, hb1, hb2, hb3, hb4, h⟩
    · have h := h.2 (not_f c29)
      refine thenW_in fun ww75 e75 => ?_
      have hx75 := hx28.x_drew e75
      have hb1 := hb1.x_drew e75
      have hb2 := hb2.x_drew e75
      have hb3 := hb3.x_drew e75
      have hb4 := hb4.x_drew e75
      refine ⟨sL1a, sL1n, sL1c, hb1.celli 0 rfl rfl, ?_⟩
      obtain ⟨a76, ha76, h⟩ := h
      refine elim_some ha76 ?_
      obtain ⟨hq1, hq2, h⟩ := h
      refine ⟨hq1, hq2, ?_⟩
      obtain ⟨Who78, hc77, h⟩ := h
      refine ⟨Who78, (hx75).cell hc77 id, ?_⟩
      refine ⟨mWho3, hb2.celli 0 rfl rfl, ?_⟩
      refine bif_of (fun c79 => ?_) (fun c79 => ?_)
      · have h := h.1 (bne_t c79)
        refine thenW_in fun ww80 e80 => ?_
        have hx80 := hx75.x_drew e80
        have hb1 := hb1.x_drew e80
        have hb2 := hb2.x_drew e80
        have hb3 := hb3.x_drew e80
        have hb4 := hb4.x_drew e80
        refine ⟨L22a, L22n, L22c, hb4.celli 0 rfl rfl, ?_⟩
        refine ⟨sL1a, sL1n, sL1c, hb1.celli 0 rfl rfl, ?_⟩
        refine elim_some ha76 ?_
        obtain ⟨hq1, hq2, h⟩ := h
        refine ⟨hq1, hq2, ?_⟩
        obtain ⟨xWho82, xPublic83, xFrom84, xTo85, xLimit86, hc81, h⟩ := h
        refine ⟨xWho82, xPublic83, xFrom84, xTo85, xLimit86, cellsAt_no (hx80) hc81, ?_⟩
        refine thenW_in fun ww87 e87 => ?_
        have hb1 := hb1.x_alloc e87
        have hb2 := hb2.x_alloc e87
        have hb3 := hb3.x_alloc e87
        have hb4 := hb4.x_alloc e87
        have h := h ww87 ww80.heap.size (hx80.x_alloc e87) (Blk.of_new e87) (hx80).size (size_lt_alloc e87)
        refine ⟨hb4.celli 0 rfl rfl, ?_⟩
        obtain ⟨a89a, a89n, a89c, ww90, hr, hk, h⟩ := h
        refine ⟨a89a, a89n, a89c, ww90, hr, ?_⟩
        have hb1 := hk.blk hb1 (by simp)
        have hb2 := hk.blk hb2 (by simp)
        have hb3 := hk.blk hb3 (by simp)
        have hb4 := hk.blk hb4 (by simp)
        have hm91 : Ext (fun b => b = ww10.heap.size) ww90 ww90 := ((Ext.refl no ww90)).none
        refine ⟨hb4.cani 0 rfl rfl, thenW_in fun ww91 e91 => ?_⟩
        have hx91 := hm91.x_set (q := ww10.heap.size) (i := 0) rfl (.inl rfl) e91
        have hb1 := hb1.oth (q := ww10.heap.size) (i := 0) rfl hb1_4 e91
        have hb2 := hb2.oth (q := ww10.heap.size) (i := 0) rfl hb2_4 e91
        have hb3 := hb3.oth (q := ww10.heap.size) (i := 0) rfl hb3_4 e91
        have hb4 := hb4.seti 0 rfl e91
        obtain ⟨hw1, hw2, h⟩ := h
        try rw [w64 hw1 hw2]
        have h := h ww91 hx91
        obtain ⟨m92, hk, h⟩ := h
        exact ⟨m92, hk, L20a, L20n, L20c, Epoch21, a89a, a89n, a89c, Epoch23, hb1, hb2, hb3, hb4, h⟩
      · have h := h.2 (bne_f c79)
        obtain ⟨hw1, hw2, h⟩ := h
        try rw [w64 hw1 hw2]
        have h := h ww75 hx75
        obtain ⟨m93, hk, h⟩ := h
        exact ⟨m93, hk, L20a, L20n, L20c, Epoch21, L22a, L22n, L22c, Epoch23, hb1, hb2, hb3, hb4, h⟩
  · have h := h.2 (Int.not_lt.1 (of_decide_eq_false c27))
    refine bif_of (fun c94 => ?_) (fun c94 => ?_)
    · have h := h.1 (not_t c94)
      refine ⟨L22a, L22n, L22c, hb4.celli 0 rfl rfl, ?_⟩
      refine ⟨mWho3, mPublic4, mFrom5, mTo6, mLimit7, ⟨hb2.celli 0 rfl rfl, hb2.celli 1 rfl rfl, hb2.celli 2 rfl rfl, hb2.celli 3 rfl rfl, hb2.celli 4 rfl rfl, trivial⟩, ?_⟩
      refine thenW_in fun ww95 e95 => ?_
      have hb3 := hb3.x_alloc e95
      have hb4 := hb4.x_alloc e95
      have h := h ww95 ww26.heap.size ((Ext.refl no ww26).x_alloc e95) (Blk.of_new e95) ((Ext.refl no ww26)).size (size_lt_alloc e95)
      obtain ⟨a97a, a97n, a97c, ww98, hr, hk, h⟩ := h
      refine ⟨a97a, a97n, a97c, ww98, hr, ?_⟩
      have hb3 := hk.blk hb3 (by simp)
      have hb4 := hk.blk hb4 (by simp)
      have hm99 : Ext (fun b => b = ww10.heap.size) ww98 ww98 := ((Ext.refl no ww98)).none
      refine ⟨hb4.cani 0 rfl rfl, thenW_in fun ww99 e99 => ?_⟩
      have hx99 := hm99.x_set (q := ww10.heap.size) (i := 0) rfl (.inl rfl) e99
      have hb3 := hb3.oth (q := ww10.heap.size) (i := 0) rfl hb3_4 e99
      have hb4 := hb4.seti 0 rfl e99
      refine ⟨a97a, a97n, a97c, Epoch23, ⟨hb4.celli 0 rfl rfl, hb4.celli 1 rfl rfl, trivial⟩, ?_⟩
      have hm101 : Ext (fun b => b = ww9.heap.size ∨ b = ww10.heap.size) ww98 ww99 := (hx99).mono fun _ h _ => .inr h
      refine ⟨hb3.cani 0 rfl rfl, thenW_in fun ww100 e100 => ?_⟩
      have hx100 := hm101.x_set (q := ww9.heap.size) (i := 0) rfl (.inl (.inl rfl)) e100
      have hb3 := hb3.seti 0 rfl e100
      refine ⟨hb3.cani 1 rfl rfl, thenW_in fun ww101 e101 => ?_⟩
      have hx101 := hx100.x_set (q := ww9.heap.size) (i := 1) rfl (.inl (.inl rfl)) e101
      have hb3 := hb3.seti 1 rfl e101
      refine ⟨a97a, a97n, a97c, Epoch23, ⟨hb3.celli 0 rfl rfl, hb3.celli 1 rfl rfl, trivial⟩, ?_⟩
      have h := h ww101 hx101
      exact h
    · have h := h.2 (not_f c94)
      refine ⟨L22a, L22n, L22c, Epoch23, ⟨hb4.celli 0 rfl rfl, hb4.celli 1 rfl rfl, trivial⟩, ?_⟩
      have hm103 : Ext (fun b => b = ww9.heap.size) ww26 ww26 := ((Ext.refl no ww26)).none
      refine ⟨hb3.cani 0 rfl rfl, thenW_in fun ww102 e102 => ?_⟩
      have hx102 := hm103.x_set (q := ww9.heap.size) (i := 0) rfl (.inl rfl) e102
      have hb3 := hb3.seti 0 rfl e102
      refine ⟨hb3.cani 1 rfl rfl, thenW_in fun ww103 e103 => ?_⟩
      have hx103 := hx102.x_set (q := ww9.heap.size) (i := 1) rfl (.inl rfl) e103
      have hb3 := hb3.seti 1 rfl e103
      refine ⟨L22a, L22n, L22c, Epoch23, ⟨hb3.celli 0 rfl rfl, hb3.celli 1 rfl rfl, trivial⟩, ?_⟩
      have h := h ww103 hx103
      exact h

theorem cachetteref12_put.go (sL1a : Option Addr) (sL1n : Nat) (sL1c : Nat) (sEpoch2 : Int) (mWho3 : Int) (mPublic4 : Int) (mFrom5 : Int) (mTo6 : Int) (mLimit7 : Int) {R : Value → World → Prop} {w : World} (h : cachetteref12_put.N sL1a sL1n sL1c sEpoch2 mWho3 mPublic4 mFrom5 mTo6 mLimit7 R w) : Calls Try.prog 40 #[.agg #[.slice sL1a sL1n sL1c, .int .i64 sEpoch2], .agg #[.int .i64 mWho3, .int .u64 mPublic4, .int .i64 mFrom5, .int .i64 mTo6, .int .i64 mLimit7]] w fun e w' => ∃ v, e = .returned v ∧ R v w' := cachetteref12_put.ok sL1a sL1n sL1c sEpoch2 mWho3 mPublic4 mFrom5 mTo6 mLimit7 (cachetteref12_put.up sL1a sL1n sL1c sEpoch2 mWho3 mPublic4 mFrom5 mTo6 mLimit7 h)
theorem cachetteref12_put.run (sL1a : Option Addr) (sL1n : Nat) (sL1c : Nat) (sEpoch2 : Int) (mWho3 : Int) (mPublic4 : Int) (mFrom5 : Int) (mTo6 : Int) (mLimit7 : Int) {V : Value} {Q : World → Prop} {w : World} (h : cachetteref12_put.N sL1a sL1n sL1c sEpoch2 mWho3 mPublic4 mFrom5 mTo6 mLimit7 (fun v w' => v = V ∧ Q w') w) : Calls Try.prog 40 #[.agg #[.slice sL1a sL1n sL1c, .int .i64 sEpoch2], .agg #[.int .i64 mWho3, .int .u64 mPublic4, .int .i64 mFrom5, .int .i64 mTo6, .int .i64 mLimit7]] w (Ret V Q) := (cachetteref12_put.go sL1a sL1n sL1c sEpoch2 mWho3 mPublic4 mFrom5 mTo6 mLimit7 h).mono fun e w' ⟨v, he, hv, hq⟩ => ⟨by rw [he, hv], hq⟩

/-- cachetteref12.Apply -/
def cachetteref12_Apply.M (sL1a : Option Addr) (sL1n : Nat) (sL1c : Nat) (sEpoch2 : Int) (cKind3 : Int) (cWho4 : Int) (cPublic5 : Int) (cLimit6 : Int) (cWraps7a : Option Addr) (cWraps7n : Nat) (cWraps7c : Nat) (cOld8a : Option Addr) (cOld8n : Nat) (cOld8c : Nat) (R : Value → World → Prop) (w : World) : Prop :=
  thenW (w.alloc (.cells #[.slice sL1a sL1n sL1c, .int .i64 sEpoch2] 45)) fun ww9 =>
  thenW (ww9.alloc (.cells #[.int .i64 cKind3, .int .i64 cWho4, .int .u64 cPublic5, .int .i64 cLimit6, .slice cWraps7a cWraps7n cWraps7c, .slice cOld8a cOld8n cOld8c] 40)) fun ww10 =>
  thenW (ww10.alloc (.cells #[.slice none 0 0, .int .i64 0] 45)) fun ww11 =>
  ∃ (xKind12 : Int) (xWho13 : Int) (xPublic14 : Int) (xLimit15 : Int) (xWraps16a : Option Addr) (xWraps16n : Nat) (xWraps16c : Nat) (xOld17a : Option Addr) (xOld17n : Nat) (xOld17c : Nat), cellsAt ww11 (blk ww9.heap.size) [.int .i64 xKind12, .int .i64 xWho13, .int .u64 xPublic14, .int .i64 xLimit15, .slice xWraps16a xWraps16n xWraps16c, .slice xOld17a xOld17n xOld17c] 0 ∧
  Calls Try.prog 32 #[.agg #[.int .i64 xKind12, .int .i64 xWho13, .int .u64 xPublic14, .int .i64 xLimit15, .slice xWraps16a xWraps16n xWraps16c, .slice xOld17a xOld17n xOld17c]] ww11 fun ee19 ww20 => ∃ (right18 : Bool), ee19 = .returned (.bool right18) ∧
  bif !right18 then (
  canStore ww20 ((blk ww10.heap.size).add 0) ∧
  thenW (ww20.setCell ((blk ww10.heap.size).add 0) (.slice none 0 0)) fun ww21 =>
  canStore ww21 ((blk ww10.heap.size).add 1) ∧
  thenW (ww21.setCell ((blk ww10.heap.size).add 1) (.int .i64 0)) fun ww22 =>
  ∃ (resL23a : Option Addr) (resL23n : Nat) (resL23c : Nat) (resEpoch24 : Int), cellsAt ww22 (blk ww10.heap.size) [.slice resL23a resL23n resL23c, .int .i64 resEpoch24] 0 ∧
  R (.tuple #[.agg #[.slice resL23a resL23n resL23c, .int .i64 resEpoch24], .int .i64 1]) ww22) else (
  ∃ (xL25a : Option Addr) (xL25n : Nat) (xL25c : Nat) (xEpoch26 : Int), cellsAt ww20 (blk w.heap.size) [.slice xL25a xL25n xL25c, .int .i64 xEpoch26] 0 ∧
  ∃ (Who27 : Int), ww20.cell? ((blk ww9.heap.size).add 1) = some (.int .i64 Who27) ∧
  Calls Try.prog 21 #[.agg #[.slice xL25a xL25n xL25c, .int .i64 xEpoch26], .int .i64 Who27] ww20 fun ee34 ww35 => ∃ (Who28 : Int) (Public29 : Int) (From30 : Int) (To31 : Int) (Limit32 : Int) (find33 : Bool), ee34 = .returned (.tuple #[.agg #[.int .i64 Who28, .int .u64 Public29, .int .i64 From30, .int .i64 To31, .int .i64 Limit32], .bool find33]) ∧
  thenW (ww35.alloc (.cells #[.int .i64 0, .int .u64 0, .int .i64 0, .int .i64 0, .int .i64 0] 52)) fun ww36 =>
  canStore ww36 ((blk ww35.heap.size).add 0) ∧
  thenW (ww36.setCell ((blk ww35.heap.size).add 0) (.int .i64 Who28)) fun ww37 =>
  canStore ww37 ((blk ww35.heap.size).add 1) ∧
  thenW (ww37.setCell ((blk ww35.heap.size).add 1) (.int .u64 Public29)) fun ww38 =>
  canStore ww38 ((blk ww35.heap.size).add 2) ∧
  thenW (ww38.setCell ((blk ww35.heap.size).add 2) (.int .i64 From30)) fun ww39 =>
  canStore ww39 ((blk ww35.heap.size).add 3) ∧
  thenW (ww39.setCell ((blk ww35.heap.size).add 3) (.int .i64 To31)) fun ww40 =>
  canStore ww40 ((blk ww35.heap.size).add 4) ∧
  thenW (ww40.setCell ((blk ww35.heap.size).add 4) (.int .i64 Limit32)) fun ww41 =>
  ∃ (Kind42 : Int), ww41.cell? ((blk ww9.heap.size).add 0) = some (.int .i64 Kind42) ∧
  bif Kind42 == 1 then (
  bif find33 then (
  canStore ww41 ((blk ww10.heap.size).add 0) ∧
  thenW (ww41.setCell ((blk ww10.heap.size).add 0) (.slice none 0 0)) fun ww43 =>
  canStore ww43 ((blk ww10.heap.size).add 1) ∧
  thenW (ww43.setCell ((blk ww10.heap.size).add 1) (.int .i64 0)) fun ww44 =>
  ∃ (resL45a : Option Addr) (resL45n : Nat) (resL45c : Nat) (resEpoch46 : Int), cellsAt ww44 (blk ww10.heap.size) [.slice resL45a resL45n resL45c, .int .i64 resEpoch46] 0 ∧
  R (.tuple #[.agg #[.slice resL45a resL45n resL45c, .int .i64 resEpoch46], .int .i64 13]) ww44) else (
  ∃ (xL47a : Option Addr) (xL47n : Nat) (xL47c : Nat) (xEpoch48 : Int), cellsAt ww41 (blk w.heap.size) [.slice xL47a xL47n xL47c, .int .i64 xEpoch48] 0 ∧
  ∃ (Who49 : Int), ww41.cell? ((blk ww9.heap.size).add 1) = some (.int .i64 Who49) ∧
  ∃ (Public50 : Int), ww41.cell? ((blk ww9.heap.size).add 2) = some (.int .u64 Public50) ∧
  ∃ (Epoch51 : Int), ww41.cell? ((blk w.heap.size).add 1) = some (.int .i64 Epoch51) ∧
  Calls Try.prog 40 #[.agg #[.slice xL47a xL47n xL47c, .int .i64 xEpoch48], .agg #[.int .i64 Who49, .int .u64 Public50, .int .i64 (IntKind.i64.wrap (Epoch51 + 1)), .int .i64 (-1), .int .i64 0]] ww41 fun ee54 ww55 => ∃ (L52a : Option Addr) (L52n : Nat) (L52c : Nat) (Epoch53 : Int), ee54 = .returned (.agg #[.slice L52a L52n L52c, .int .i64 Epoch53]) ∧
  canStore ww55 ((blk ww10.heap.size).add 0) ∧
  thenW (ww55.setCell ((blk ww10.heap.size).add 0) (.slice L52a L52n L52c)) fun ww56 =>
  canStore ww56 ((blk ww10.heap.size).add 1) ∧
  thenW (ww56.setCell ((blk ww10.heap.size).add 1) (.int .i64 Epoch53)) fun ww57 =>
  ∃ (resL58a : Option Addr) (resL58n : Nat) (resL58c : Nat) (resEpoch59 : Int), cellsAt ww57 (blk ww10.heap.size) [.slice resL58a resL58n resL58c, .int .i64 resEpoch59] 0 ∧
  R (.tuple #[.agg #[.slice resL58a resL58n resL58c, .int .i64 resEpoch59], .int .i64 0]) ww57)) else (
  bif Kind42 == 2 then (
  bif !find33 then (
  canStore ww41 ((blk ww10.heap.size).add 0) ∧
  thenW (ww41.setCell ((blk ww10.heap.size).add 0) (.slice none 0 0)) fun ww60 =>
  canStore ww60 ((blk ww10.heap.size).add 1) ∧
  thenW (ww60.setCell ((blk ww10.heap.size).add 1) (.int .i64 0)) fun ww61 =>
  ∃ (resL62a : Option Addr) (resL62n : Nat) (resL62c : Nat) (resEpoch63 : Int), cellsAt ww61 (blk ww10.heap.size) [.slice resL62a resL62n resL62c, .int .i64 resEpoch63] 0 ∧
  R (.tuple #[.agg #[.slice resL62a resL62n resL62c, .int .i64 resEpoch63], .int .i64 20]) ww61) else (
  ∃ (To64 : Int), ww41.cell? ((blk ww35.heap.size).add 3) = some (.int .i64 To64) ∧
  bif To64 != (-1) then (
  canStore ww41 ((blk ww10.heap.size).add 0) ∧
  thenW (ww41.setCell ((blk ww10.heap.size).add 0) (.slice none 0 0)) fun ww65 =>
  canStore ww65 ((blk ww10.heap.size).add 1) ∧
  thenW (ww65.setCell ((blk ww10.heap.size).add 1) (.int .i64 0)) fun ww66 =>
  ∃ (resL67a : Option Addr) (resL67n : Nat) (resL67c : Nat) (resEpoch68 : Int), cellsAt ww66 (blk ww10.heap.size) [.slice resL67a resL67n resL67c, .int .i64 resEpoch68] 0 ∧
  R (.tuple #[.agg #[.slice resL67a resL67n resL67c, .int .i64 resEpoch68], .int .i64 10]) ww66) else (
  ∃ (Epoch69 : Int), ww41.cell? ((blk w.heap.size).add 1) = some (.int .i64 Epoch69) ∧
  canStore ww41 (((blk ww35.heap.size).add 3).add 0) ∧
  thenW (ww41.setCell (((blk ww35.heap.size).add 3).add 0) (.int .i64 Epoch69)) fun ww70 =>
  ∃ (To71 : Int), ww70.cell? ((blk ww35.heap.size).add 3) = some (.int .i64 To71) ∧
  bif decide (To71 < 0) then (
  canStore ww70 (((blk ww35.heap.size).add 3).add 0) ∧
  thenW (ww70.setCell (((blk ww35.heap.size).add 3).add 0) (.int .i64 (-2))) fun ww72 =>
  ∃ (Limit73 : Int), ww72.cell? ((blk ww9.heap.size).add 3) = some (.int .i64 Limit73) ∧
  canStore ww72 (((blk ww35.heap.size).add 4).add 0) ∧
  thenW (ww72.setCell (((blk ww35.heap.size).add 4).add 0) (.int .i64 Limit73)) fun ww74 =>
  ∃ (xL75a : Option Addr) (xL75n : Nat) (xL75c : Nat) (xEpoch76 : Int), cellsAt ww74 (blk w.heap.size) [.slice xL75a xL75n xL75c, .int .i64 xEpoch76] 0 ∧
  ∃ (xWho77 : Int) (xPublic78 : Int) (xFrom79 : Int) (xTo80 : Int) (xLimit81 : Int), cellsAt ww74 (blk ww35.heap.size) [.int .i64 xWho77, .int .u64 xPublic78, .int .i64 xFrom79, .int .i64 xTo80, .int .i64 xLimit81] 0 ∧
  Calls Try.prog 40 #[.agg #[.slice xL75a xL75n xL75c, .int .i64 xEpoch76], .agg #[.int .i64 xWho77, .int .u64 xPublic78, .int .i64 xFrom79, .int .i64 xTo80, .int .i64 xLimit81]] ww74 fun ee84 ww85 => ∃ (L82a : Option Addr) (L82n : Nat) (L82c : Nat) (Epoch83 : Int), ee84 = .returned (.agg #[.slice L82a L82n L82c, .int .i64 Epoch83]) ∧
  canStore ww85 ((blk ww10.heap.size).add 0) ∧
  thenW (ww85.setCell ((blk ww10.heap.size).add 0) (.slice L82a L82n L82c)) fun ww86 =>
  canStore ww86 ((blk ww10.heap.size).add 1) ∧
  thenW (ww86.setCell ((blk ww10.heap.size).add 1) (.int .i64 Epoch83)) fun ww87 =>
  ∃ (resL88a : Option Addr) (resL88n : Nat) (resL88c : Nat) (resEpoch89 : Int), cellsAt ww87 (blk ww10.heap.size) [.slice resL88a resL88n resL88c, .int .i64 resEpoch89] 0 ∧
  R (.tuple #[.agg #[.slice resL88a resL88n resL88c, .int .i64 resEpoch89], .int .i64 0]) ww87) else (
  ∃ (Limit90 : Int), ww70.cell? ((blk ww9.heap.size).add 3) = some (.int .i64 Limit90) ∧
  canStore ww70 (((blk ww35.heap.size).add 4).add 0) ∧
  thenW (ww70.setCell (((blk ww35.heap.size).add 4).add 0) (.int .i64 Limit90)) fun ww91 =>
  ∃ (xL92a : Option Addr) (xL92n : Nat) (xL92c : Nat) (xEpoch93 : Int), cellsAt ww91 (blk w.heap.size) [.slice xL92a xL92n xL92c, .int .i64 xEpoch93] 0 ∧
  ∃ (xWho94 : Int) (xPublic95 : Int) (xFrom96 : Int) (xTo97 : Int) (xLimit98 : Int), cellsAt ww91 (blk ww35.heap.size) [.int .i64 xWho94, .int .u64 xPublic95, .int .i64 xFrom96, .int .i64 xTo97, .int .i64 xLimit98] 0 ∧
  Calls Try.prog 40 #[.agg #[.slice xL92a xL92n xL92c, .int .i64 xEpoch93], .agg #[.int .i64 xWho94, .int .u64 xPublic95, .int .i64 xFrom96, .int .i64 xTo97, .int .i64 xLimit98]] ww91 fun ee101 ww102 => ∃ (L99a : Option Addr) (L99n : Nat) (L99c : Nat) (Epoch100 : Int), ee101 = .returned (.agg #[.slice L99a L99n L99c, .int .i64 Epoch100]) ∧
  canStore ww102 ((blk ww10.heap.size).add 0) ∧
  thenW (ww102.setCell ((blk ww10.heap.size).add 0) (.slice L99a L99n L99c)) fun ww103 =>
  canStore ww103 ((blk ww10.heap.size).add 1) ∧
  thenW (ww103.setCell ((blk ww10.heap.size).add 1) (.int .i64 Epoch100)) fun ww104 =>
  ∃ (resL105a : Option Addr) (resL105n : Nat) (resL105c : Nat) (resEpoch106 : Int), cellsAt ww104 (blk ww10.heap.size) [.slice resL105a resL105n resL105c, .int .i64 resEpoch106] 0 ∧
  R (.tuple #[.agg #[.slice resL105a resL105n resL105c, .int .i64 resEpoch106], .int .i64 0]) ww104)))) else (
  ∃ (Epoch107 : Int), ww41.cell? ((blk w.heap.size).add 1) = some (.int .i64 Epoch107) ∧
  bif decide (Epoch107 ≥ 19) then (
  canStore ww41 ((blk ww10.heap.size).add 0) ∧
  thenW (ww41.setCell ((blk ww10.heap.size).add 0) (.slice none 0 0)) fun ww108 =>
  canStore ww108 ((blk ww10.heap.size).add 1) ∧
  thenW (ww108.setCell ((blk ww10.heap.size).add 1) (.int .i64 0)) fun ww109 =>
  ∃ (resL110a : Option Addr) (resL110n : Nat) (resL110c : Nat) (resEpoch111 : Int), cellsAt ww109 (blk ww10.heap.size) [.slice resL110a resL110n resL110c, .int .i64 resEpoch111] 0 ∧
  R (.tuple #[.agg #[.slice resL110a resL110n resL110c, .int .i64 resEpoch111], .int .i64 2]) ww109) else (
  ∃ (xL112a : Option Addr) (xL112n : Nat) (xL112c : Nat) (xEpoch113 : Int), cellsAt ww41 (blk w.heap.size) [.slice xL112a xL112n xL112c, .int .i64 xEpoch113] 0 ∧
  Calls Try.prog 23 #[.agg #[.slice xL112a xL112n xL112c, .int .i64 xEpoch113]] ww41 fun ee115 ww116 => ∃ (now114a : Option Addr) (now114n : Nat) (now114c : Nat), ee115 = .returned (.slice now114a now114n now114c) ∧
  ∃ (Wraps117a : Option Addr) (Wraps117n : Nat) (Wraps117c : Nat), ww116.cell? ((blk ww9.heap.size).add 4) = some (.slice Wraps117a Wraps117n Wraps117c) ∧
  bif (now114n : Int) != (Wraps117n : Int) then (
  canStore ww116 ((blk ww10.heap.size).add 0) ∧
  thenW (ww116.setCell ((blk ww10.heap.size).add 0) (.slice none 0 0)) fun ww118 =>
  canStore ww118 ((blk ww10.heap.size).add 1) ∧
  thenW (ww118.setCell ((blk ww10.heap.size).add 1) (.int .i64 0)) fun ww119 =>
  ∃ (resL120a : Option Addr) (resL120n : Nat) (resL120c : Nat) (resEpoch121 : Int), cellsAt ww119 (blk ww10.heap.size) [.slice resL120a resL120n resL120c, .int .i64 resEpoch121] 0 ∧
  R (.tuple #[.agg #[.slice resL120a resL120n resL120c, .int .i64 resEpoch121], .int .i64 10]) ww119) else (
  ∃ (Old122a : Option Addr) (Old122n : Nat) (Old122c : Nat), ww116.cell? ((blk ww9.heap.size).add 5) = some (.slice Old122a Old122n Old122c) ∧
  ∃ (Epoch123 : Int), ww116.cell? ((blk w.heap.size).add 1) = some (.int .i64 Epoch123) ∧
  bif !(((Old122n : Int) == 0) == (Epoch123 == (-1))) then (
  canStore ww116 ((blk ww10.heap.size).add 0) ∧
  thenW (ww116.setCell ((blk ww10.heap.size).add 0) (.slice none 0 0)) fun ww124 =>
  canStore ww124 ((blk ww10.heap.size).add 1) ∧
  thenW (ww124.setCell ((blk ww10.heap.size).add 1) (.int .i64 0)) fun ww125 =>
  ∃ (resL126a : Option Addr) (resL126n : Nat) (resL126c : Nat) (resEpoch127 : Int), cellsAt ww125 (blk ww10.heap.size) [.slice resL126a resL126n resL126c, .int .i64 resEpoch127] 0 ∧
  R (.tuple #[.agg #[.slice resL126a resL126n resL126c, .int .i64 resEpoch127], .int .i64 10]) ww125) else (
  ∃ (I1 : Nat → List Value → World → Prop) (m129 : Nat), I1 m129 [.int .i64 0] ww116 ∧ ∀ (m130 : Nat) (ww131 : World) (i128 : Int), I1 m130 [.int .i64 i128] ww131 →
  bif decide (i128 < (now114n : Int)) then (
  thenW (ww131.drew) fun ww132 =>
  now114a.elim False fun a133 =>
  0 ≤ (i128 : Int) ∧ (i128 : Int) < (now114n : Int) ∧
  ∃ (Who134 : Int), ww132.cell? ((a133.add (Int.toNat i128 * 5)).add 0) = some (.int .i64 Who134) ∧
  ∃ (Wraps135a : Option Addr) (Wraps135n : Nat) (Wraps135c : Nat), ww132.cell? ((blk ww9.heap.size).add 4) = some (.slice Wraps135a Wraps135n Wraps135c) ∧
  Wraps135a.elim False fun a136 =>
  0 ≤ (i128 : Int) ∧ (i128 : Int) < (Wraps135n : Int) ∧
  ∃ (Who137 : Int), ww132.cell? ((a136.add (Int.toNat i128 * 2)).add 0) = some (.int .i64 Who137) ∧
  bif Who134 != Who137 then (
  canStore ww132 ((blk ww10.heap.size).add 0) ∧
  thenW (ww132.setCell ((blk ww10.heap.size).add 0) (.slice none 0 0)) fun ww138 =>
  canStore ww138 ((blk ww10.heap.size).add 1) ∧
  thenW (ww138.setCell ((blk ww10.heap.size).add 1) (.int .i64 0)) fun ww139 =>
  ∃ (resL140a : Option Addr) (resL140n : Nat) (resL140c : Nat) (resEpoch141 : Int), cellsAt ww139 (blk ww10.heap.size) [.slice resL140a resL140n resL140c, .int .i64 resEpoch141] 0 ∧
  R (.tuple #[.agg #[.slice resL140a resL140n resL140c, .int .i64 resEpoch141], .int .i64 10]) ww139) else (
  ∃ m142, m142 < m130 ∧ I1 m142 [.int .i64 (IntKind.i64.wrap (i128 + 1))] ww132)) else (
  ∃ (L143a : Option Addr) (L143n : Nat) (L143c : Nat), ww131.cell? ((blk w.heap.size).add 0) = some (.slice L143a L143n L143c) ∧
  ∃ (Epoch144 : Int), ww131.cell? ((blk w.heap.size).add 1) = some (.int .i64 Epoch144) ∧
  canStore ww131 ((blk ww10.heap.size).add 0) ∧
  thenW (ww131.setCell ((blk ww10.heap.size).add 0) (.slice L143a L143n L143c)) fun ww145 =>
  canStore ww145 ((blk ww10.heap.size).add 1) ∧
  thenW (ww145.setCell ((blk ww10.heap.size).add 1) (.int .i64 (IntKind.i64.wrap (Epoch144 + 1)))) fun ww146 =>
  ∃ (resL147a : Option Addr) (resL147n : Nat) (resL147c : Nat) (resEpoch148 : Int), cellsAt ww146 (blk ww10.heap.size) [.slice resL147a resL147n resL147c, .int .i64 resEpoch148] 0 ∧
  R (.tuple #[.agg #[.slice resL147a resL147n resL147c, .int .i64 resEpoch148], .int .i64 0]) ww146)))))))

theorem cachetteref12_Apply.eq (sL1a : Option Addr) (sL1n : Nat) (sL1c : Nat) (sEpoch2 : Int) (cKind3 : Int) (cWho4 : Int) (cPublic5 : Int) (cLimit6 : Int) (cWraps7a : Option Addr) (cWraps7n : Nat) (cWraps7c : Nat) (cOld8a : Option Addr) (cOld8n : Nat) (cOld8c : Nat) (R : Value → World → Prop) (w : World) : mfunc Try.prog [(1, [2, 3, 4, 8], [(9, (.one (.int .i64)))])] 20 [.agg #[.slice sL1a sL1n sL1c, .int .i64 sEpoch2], .agg #[.int .i64 cKind3, .int .i64 cWho4, .int .u64 cPublic5, .int .i64 cLimit6, .slice cWraps7a cWraps7n cWraps7c, .slice cOld8a cOld8n cOld8c]] R w = cachetteref12_Apply.M sL1a sL1n sL1c sEpoch2 cKind3 cWho4 cPublic5 cLimit6 cWraps7a cWraps7n cWraps7c cOld8a cOld8n cOld8c R w := by kernel_rfl
theorem cachetteref12_Apply.ok (sL1a : Option Addr) (sL1n : Nat) (sL1c : Nat) (sEpoch2 : Int) (cKind3 : Int) (cWho4 : Int) (cPublic5 : Int) (cLimit6 : Int) (cWraps7a : Option Addr) (cWraps7n : Nat) (cWraps7c : Nat) (cOld8a : Option Addr) (cOld8n : Nat) (cOld8c : Nat) {R : Value → World → Prop} {w : World} (h : cachetteref12_Apply.M sL1a sL1n sL1c sEpoch2 cKind3 cWho4 cPublic5 cLimit6 cWraps7a cWraps7n cWraps7c cOld8a cOld8n cOld8c R w) : Calls Try.prog 20 #[.agg #[.slice sL1a sL1n sL1c, .int .i64 sEpoch2], .agg #[.int .i64 cKind3, .int .i64 cWho4, .int .u64 cPublic5, .int .i64 cLimit6, .slice cWraps7a cWraps7n cWraps7c, .slice cOld8a cOld8n cOld8c]] w fun e w' => ∃ v, e = .returned v ∧ R v w' :=
  mfunc_ok follows (H := [(1, [2, 3, 4, 8], [(9, (.one (.int .i64)))])]) (args := [.agg #[.slice sL1a sL1n sL1c, .int .i64 sEpoch2], .agg #[.int .i64 cKind3, .int .i64 cWho4, .int .u64 cPublic5, .int .i64 cLimit6, .slice cWraps7a cWraps7n cWraps7c, .slice cOld8a cOld8n cOld8c]]) (by rw [cachetteref12_Apply.eq]; exact h)

def cachetteref12_Apply.N (sL1a : Option Addr) (sL1n : Nat) (sL1c : Nat) (sEpoch2 : Int) (cKind3 : Int) (cWho4 : Int) (cPublic5 : Int) (cLimit6 : Int) (cWraps7a : Option Addr) (cWraps7n : Nat) (cWraps7c : Nat) (cOld8a : Option Addr) (cOld8n : Nat) (cOld8c : Nat) (R : Value → World → Prop) (w : World) : Prop :=
  ∀ (ww11 : World) (p12 : Nat) (p13 : Nat) (p14 : Nat), Ext no w ww11 → Priv w ww11 [p12, p13, p14] →
  Calls Try.prog 32 #[.agg #[.int .i64 cKind3, .int .i64 cWho4, .int .u64 cPublic5, .int .i64 cLimit6, .slice cWraps7a cWraps7n cWraps7c, .slice cOld8a cOld8n cOld8c]] ww11 fun ee16 ww17 => ∃ (right15 : Bool), ee16 = .returned (.bool right15) ∧
  Keep [p12, p13, p14] ww11 ww17 ∧
  (right15 = false →
    ∀ (ww20 : World), Ext (fun b => b = p14) ww17 ww20 →
    R (.tuple #[.agg #[.slice none 0 0, .int .i64 0], .int .i64 1]) ww20) ∧
  (right15 = true →
    Calls Try.prog 21 #[.agg #[.slice sL1a sL1n sL1c, .int .i64 sEpoch2], .int .i64 cWho4] ww17 fun ee27 ww28 => ∃ (Who21 : Int) (Public22 : Int) (From23 : Int) (To24 : Int) (Limit25 : Int) (find26 : Bool), ee27 = .returned (.tuple #[.agg #[.int .i64 Who21, .int .u64 Public22, .int .i64 From23, .int .i64 To24, .int .i64 Limit25], .bool find26]) ∧
    Keep [p12, p13, p14] ww17 ww28 ∧
    (cKind3 = 1 →
      (find26 = true →
        ∀ (ww38 : World), Ext (fun b => b = p14) ww28 ww38 →
        R (.tuple #[.agg #[.slice none 0 0, .int .i64 0], .int .i64 13]) ww38) ∧
      (find26 = false →
        (-9223372036854775808 : Int) ≤ (sEpoch2 + 1) ∧ (sEpoch2 + 1) < 9223372036854775808 ∧
        ∀ (ww34 : World), Ext no ww28 ww34 →
        Calls Try.prog 40 #[.agg #[.slice sL1a sL1n sL1c, .int .i64 sEpoch2], .agg #[.int .i64 cWho4, .int .u64 cPublic5, .int .i64 (sEpoch2 + 1), .int .i64 (-1), .int .i64 0]] ww34 fun ee43 ww44 => ∃ (L41a : Option Addr) (L41n : Nat) (L41c : Nat) (Epoch42 : Int), ee43 = .returned (.agg #[.slice L41a L41n L41c, .int .i64 Epoch42]) ∧
        Keep [p14] ww34 ww44 ∧
        ∀ (ww46 : World), Ext (fun b => b = p14) ww44 ww46 →
        R (.tuple #[.agg #[.slice L41a L41n L41c, .int .i64 Epoch42], .int .i64 0]) ww46)) ∧
    (cKind3 ≠ 1 →
      (cKind3 = 2 →
        (find26 = false →
          ∀ (ww50 : World), Ext (fun b => b = p14) ww28 ww50 →
          R (.tuple #[.agg #[.slice none 0 0, .int .i64 0], .int .i64 20]) ww50) ∧
        (find26 = true →
          (To24 ≠ (-1) →
            ∀ (ww54 : World), Ext (fun b => b = p14) ww28 ww54 →
            R (.tuple #[.agg #[.slice none 0 0, .int .i64 0], .int .i64 10]) ww54) ∧
          (To24 = (-1) →
            (sEpoch2 < 0 →
              ∀ (ww59 : World), Ext no ww28 ww59 →
              Calls Try.prog 40 #[.agg #[.slice sL1a sL1n sL1c, .int .i64 sEpoch2], .agg #[.int .i64 Who21, .int .u64 Public22, .int .i64 From23, .int .i64 (-2), .int .i64 cLimit6]] ww59 fun ee63 ww64 => ∃ (L61a : Option Addr) (L61n : Nat) (L61c : Nat) (Epoch62 : Int), ee63 = .returned (.agg #[.slice L61a L61n L61c, .int .i64 Epoch62]) ∧
              Keep [p14] ww59 ww64 ∧
              ∀ (ww66 : World), Ext (fun b => b = p14) ww64 ww66 →
              R (.tuple #[.agg #[.slice L61a L61n L61c, .int .i64 Epoch62], .int .i64 0]) ww66) ∧
            ((0 : Int) ≤ sEpoch2 →
              ∀ (ww67 : World), Ext no ww28 ww67 →
              Calls Try.prog 40 #[.agg #[.slice sL1a sL1n sL1c, .int .i64 sEpoch2], .agg #[.int .i64 Who21, .int .u64 Public22, .int .i64 From23, .int .i64 sEpoch2, .int .i64 cLimit6]] ww67 fun ee71 ww72 => ∃ (L69a : Option Addr) (L69n : Nat) (L69c : Nat) (Epoch70 : Int), ee71 = .returned (.agg #[.slice L69a L69n L69c, .int .i64 Epoch70]) ∧
              Keep [p14] ww67 ww72 ∧
              ∀ (ww74 : World), Ext (fun b => b = p14) ww72 ww74 →
              R (.tuple #[.agg #[.slice L69a L69n L69c, .int .i64 Epoch70], .int .i64 0]) ww74)))) ∧
      (cKind3 ≠ 2 →
        (sEpoch2 ≥ 19 →
          ∀ (ww77 : World), Ext (fun b => b = p14) ww28 ww77 →
          R (.tuple #[.agg #[.slice none 0 0, .int .i64 0], .int .i64 2]) ww77) ∧
        (sEpoch2 < 19 →
          ∀ (ww34 : World), Ext no ww28 ww34 →
          Calls Try.prog 23 #[.agg #[.slice sL1a sL1n sL1c, .int .i64 sEpoch2]] ww34 fun ee81 ww82 => ∃ (now80a : Option Addr) (now80n : Nat) (now80c : Nat), ee81 = .returned (.slice now80a now80n now80c) ∧
          Keep [p12, p13, p14] ww34 ww82 ∧
          ((now80n : Int) ≠ (cWraps7n : Int) →
            ∀ (ww85 : World), Ext (fun b => b = p14) ww82 ww85 →
            R (.tuple #[.agg #[.slice none 0 0, .int .i64 0], .int .i64 10]) ww85) ∧
          ((now80n : Int) = (cWraps7n : Int) →
            (((cOld8n : Int) == 0) ≠ (sEpoch2 == (-1)) →
              ∀ (ww88 : World), Ext (fun b => b = p14) ww82 ww88 →
              R (.tuple #[.agg #[.slice none 0 0, .int .i64 0], .int .i64 10]) ww88) ∧
            (((cOld8n : Int) == 0) = (sEpoch2 == (-1)) →
              ∃ (I1 : Nat → List Value → World → Prop) (m92 : Nat), I1 m92 [.int .i64 0, .slice none 0 0, .int .i64 0] ww82 ∧ ∀ (m93 : Nat) (ww94 : World) (i89 : Int) (L90a : Option Addr) (L90n : Nat) (L90c : Nat) (Epoch91 : Int), I1 m93 [.int .i64 i89, .slice L90a L90n L90c, .int .i64 Epoch91] ww94 →
              (i89 < (now80n : Int) →
                ∃ a97 : Addr, now80a = some a97 ∧
                0 ≤ (i89 : Int) ∧ (i89 : Int) < (now80n : Int) ∧
                ∃ (Who99 : Int), ww94.cell? ((a97.add (Int.toNat i89 * 5)).add 0) = some (.int .i64 Who99) ∧
                ∃ a100 : Addr, cWraps7a = some a100 ∧
                0 ≤ (i89 : Int) ∧ (i89 : Int) < (cWraps7n : Int) ∧
                ∃ (Who102 : Int), ww94.cell? ((a100.add (Int.toNat i89 * 2)).add 0) = some (.int .i64 Who102) ∧
                (Who99 ≠ Who102 →
                  ∀ (ww105 : World), Ext (fun b => b = p14) ww94 ww105 →
                  R (.tuple #[.agg #[.slice none 0 0, .int .i64 0], .int .i64 10]) ww105) ∧
                (Who99 = Who102 →
                  (-9223372036854775808 : Int) ≤ (i89 + 1) ∧ (i89 + 1) < 9223372036854775808 ∧
                  ∀ (ww96 : World), Ext no ww94 ww96 →
                  ∃ m106, m106 < m93 ∧ I1 m106 [.int .i64 (i89 + 1), .slice L90a L90n L90c, .int .i64 Epoch91] ww96)) ∧
              ((now80n : Int) ≤ i89 →
                (-9223372036854775808 : Int) ≤ (sEpoch2 + 1) ∧ (sEpoch2 + 1) < 9223372036854775808 ∧
                ∀ (ww108 : World), Ext (fun b => b = p14) ww94 ww108 →
                R (.tuple #[.agg #[.slice sL1a sL1n sL1c, .int .i64 (sEpoch2 + 1)], .int .i64 0]) ww108)))))))

theorem cachetteref12_Apply.up (sL1a : Option Addr) (sL1n : Nat) (sL1c : Nat) (sEpoch2 : Int) (cKind3 : Int) (cWho4 : Int) (cPublic5 : Int) (cLimit6 : Int) (cWraps7a : Option Addr) (cWraps7n : Nat) (cWraps7c : Nat) (cOld8a : Option Addr) (cOld8n : Nat) (cOld8c : Nat) {R : Value → World → Prop} {w : World} (h : cachetteref12_Apply.N sL1a sL1n sL1c sEpoch2 cKind3 cWho4 cPublic5 cLimit6 cWraps7a cWraps7n cWraps7c cOld8a cOld8n cOld8c R w) : cachetteref12_Apply.M sL1a sL1n sL1c sEpoch2 cKind3 cWho4 cPublic5 cLimit6 cWraps7a cWraps7n cWraps7c cOld8a cOld8n cOld8c R w := by
  unfold cachetteref12_Apply.M
  unfold cachetteref12_Apply.N at h
  refine thenW_in fun ww9 e9 => ?_
  have hb1 := Blk.of_new e9
  have hg1 := ((Ext.refl no w)).size
  have hx9 := (Ext.refl no w).x_alloc e9
  refine thenW_in fun ww10 e10 => ?_
  have hb2 := Blk.of_new e10
  have hg2 := (hx9).size
  have hb1_2 := Nat.ne_of_lt hb1.lt
  have hb1 := hb1.x_alloc e10
  have hx10 := hx9.x_alloc e10
  refine thenW_in fun ww11 e11 => ?_
  have hb3 := Blk.of_new e11
  have hg3 := (hx10).size
  have hb1_3 := Nat.ne_of_lt hb1.lt
  have hb1 := hb1.x_alloc e11
  have hb2_3 := Nat.ne_of_lt hb2.lt
  have hb2 := hb2.x_alloc e11
  have hx11 := hx10.x_alloc e11
  refine ⟨cKind3, cWho4, cPublic5, cLimit6, cWraps7a, cWraps7n, cWraps7c, cOld8a, cOld8n, cOld8c, ⟨hb2.celli 0 rfl rfl, hb2.celli 1 rfl rfl, hb2.celli 2 rfl rfl, hb2.celli 3 rfl rfl, hb2.celli 4 rfl rfl, hb2.celli 5 rfl rfl, trivial⟩, ?_⟩
  have h := h ww11 (w.heap.size) (ww9.heap.size) (ww10.heap.size) hx11 (Priv.cons hg1 hb1.lt (Priv.cons hg2 hb2.lt (Priv.cons hg3 hb3.lt Priv.nil)))
  refine h.mono fun ee16 ww17 h => ?_
  obtain ⟨right15, he, hk, h⟩ := h
  refine ⟨right15, he, ?_⟩
  have hb1 := hk.blk hb1 (by simp)
  have hb2 := hk.blk hb2 (by simp)
  have hb3 := hk.blk hb3 (by simp)
  refine bif_of (fun c18 => ?_) (fun c18 => ?_)
  · have h := h.1 (not_t c18)
    have hm20 : Ext (fun b => b = ww10.heap.size) ww17 ww17 := ((Ext.refl no ww17)).none
    refine ⟨hb3.cani 0 rfl rfl, thenW_in fun ww19 e19 => ?_⟩
    have hx19 := hm20.x_set (q := ww10.heap.size) (i := 0) rfl (.inl rfl) e19
    have hb3 := hb3.seti 0 rfl e19
    refine ⟨hb3.cani 1 rfl rfl, thenW_in fun ww20 e20 => ?_⟩
    have hx20 := hx19.x_set (q := ww10.heap.size) (i := 1) rfl (.inl rfl) e20
    have hb3 := hb3.seti 1 rfl e20
    refine ⟨none, 0, 0, 0, ⟨hb3.celli 0 rfl rfl, hb3.celli 1 rfl rfl, trivial⟩, ?_⟩
    have h := h ww20 hx20
    exact h
  · have h := h.2 (not_f c18)
    refine ⟨sL1a, sL1n, sL1c, sEpoch2, ⟨hb1.celli 0 rfl rfl, hb1.celli 1 rfl rfl, trivial⟩, ?_⟩
    refine ⟨cWho4, hb2.celli 1 rfl rfl, ?_⟩
    refine h.mono fun ee27 ww28 h => ?_
    obtain ⟨Who21, Public22, From23, To24, Limit25, find26, he, hk, h⟩ := h
    refine ⟨Who21, Public22, From23, To24, Limit25, find26, he, ?_⟩
    have hb1 := hk.blk hb1 (by simp)
    have hb2 := hk.blk hb2 (by simp)
    have hb3 := hk.blk hb3 (by simp)
    refine thenW_in fun ww29 e29 => ?_
    have hb4 := Blk.of_new e29
    have hg4 := ((Ext.refl no ww28)).size
    have hb1_4 := Nat.ne_of_lt hb1.lt
    have hb1 := hb1.x_alloc e29
    have hb2_4 := Nat.ne_of_lt hb2.lt
    have hb2 := hb2.x_alloc e29
    have hb3_4 := Nat.ne_of_lt hb3.lt
    have hb3 := hb3.x_alloc e29
    have hx29 := (Ext.refl no ww28).x_alloc e29
    refine ⟨hb4.cani 0 rfl rfl, thenW_in fun ww30 e30 => ?_⟩
    have hx30 := hx29.x_set (q := ww28.heap.size) (i := 0) rfl (.inr hg4) e30
    have hb1 := hb1.oth (q := ww28.heap.size) (i := 0) rfl hb1_4 e30
    have hb2 := hb2.oth (q := ww28.heap.size) (i := 0) rfl hb2_4 e30
    have hb3 := hb3.oth (q := ww28.heap.size) (i := 0) rfl hb3_4 e30
    have hb4 : Blk ww30 ww28.heap.size 52 [.int .i64 Who21, .int .u64 0, .int .i64 0, .int .i64 0, .int .i64 0] := hb4.seti 0 rfl e30
    refine ⟨hb4.cani 1 rfl rfl, thenW_in fun ww31 e31 => ?_⟩
    have hx31 := hx30.x_set (q := ww28.heap.size) (i := 1) rfl (.inr hg4) e31
    have hb1 := hb1.oth (q := ww28.heap.size) (i := 1) rfl hb1_4 e31
    have hb2 := hb2.oth (q := ww28.heap.size) (i := 1) rfl hb2_4 e31
    have hb3 := hb3.oth (q := ww28.heap.size) (i := 1) rfl hb3_4 e31
    have hb4 : Blk ww31 ww28.heap.size 52 [.int .i64 Who21, .int .u64 Public22, .int .i64 0, .int .i64 0, .int .i64 0] := hb4.seti 1 rfl e31
    refine ⟨hb4.cani 2 rfl rfl, thenW_in fun ww32 e32 => ?_⟩
    have hx32 := hx31.x_set (q := ww28.heap.size) (i := 2) rfl (.inr hg4) e32
    have hb1 := hb1.oth (q := ww28.heap.size) (i := 2) rfl hb1_4 e32
    have hb2 := hb2.oth (q := ww28.heap.size) (i := 2) rfl hb2_4 e32
    have hb3 := hb3.oth (q := ww28.heap.size) (i := 2) rfl hb3_4 e32
    have hb4 : Blk ww32 ww28.heap.size 52 [.int .i64 Who21, .int .u64 Public22, .int .i64 From23, .int .i64 0, .int .i64 0] := hb4.seti 2 rfl e32
    refine ⟨hb4.cani 3 rfl rfl, thenW_in fun ww33 e33 => ?_⟩
    have hx33 := hx32.x_set (q := ww28.heap.size) (i := 3) rfl (.inr hg4) e33
    have hb1 := hb1.oth (q := ww28.heap.size) (i := 3) rfl hb1_4 e33
    have hb2 := hb2.oth (q := ww28.heap.size) (i := 3) rfl hb2_4 e33
    have hb3 := hb3.oth (q := ww28.heap.size) (i := 3) rfl hb3_4 e33
    have hb4 : Blk ww33 ww28.heap.size 52 [.int .i64 Who21, .int .u64 Public22, .int .i64 From23, .int .i64 To24, .int .i64 0] := hb4.seti 3 rfl e33
    refine ⟨hb4.cani 4 rfl rfl, thenW_in fun ww34 e34 => ?_⟩
    have hx34 := hx33.x_set (q := ww28.heap.size) (i := 4) rfl (.inr hg4) e34
    have hb1 := hb1.oth (q := ww28.heap.size) (i := 4) rfl hb1_4 e34
    have hb2 := hb2.oth (q := ww28.heap.size) (i := 4) rfl hb2_4 e34
    have hb3 := hb3.oth (q := ww28.heap.size) (i := 4) rfl hb3_4 e34
    have hb4 : Blk ww34 ww28.heap.size 52 [.int .i64 Who21, .int .u64 Public22, .int .i64 From23, .int .i64 To24, .int .i64 Limit25] := hb4.seti 4 rfl e34
    refine ⟨cKind3, hb2.celli 0 rfl rfl, ?_⟩
    refine bif_of (fun c35 => ?_) (fun c35 => ?_)
    · have h := h.1 (beq_t c35)
      refine bif_of (fun c36 => ?_) (fun c36 => ?_)
      · have h := h.1 c36
        have hm38 : Ext (fun b => b = ww10.heap.size) ww28 ww34 := (hx34).none
        refine ⟨hb3.cani 0 rfl rfl, thenW_in fun ww37 e37 => ?_⟩
        have hx37 := hm38.x_set (q := ww10.heap.size) (i := 0) rfl (.inl rfl) e37
        have hb3 := hb3.seti 0 rfl e37
        refine ⟨hb3.cani 1 rfl rfl, thenW_in fun ww38 e38 => ?_⟩
        have hx38 := hx37.x_set (q := ww10.heap.size) (i := 1) rfl (.inl rfl) e38
        have hb3 := hb3.seti 1 rfl e38
        refine ⟨none, 0, 0, 0, ⟨hb3.celli 0 rfl rfl, hb3.celli 1 rfl rfl, trivial⟩, ?_⟩
        have h := h ww38 hx38
        exact h
      · have h := h.2 c36
        refine ⟨sL1a, sL1n, sL1c, sEpoch2, ⟨hb1.celli 0 rfl rfl, hb1.celli 1 rfl rfl, trivial⟩, ?_⟩
        refine ⟨cWho4, hb2.celli 1 rfl rfl, ?_⟩
        refine ⟨cPublic5, hb2.celli 2 rfl rfl, ?_⟩
        refine ⟨sEpoch2, hb1.celli 1 rfl rfl, ?_⟩
        obtain ⟨hw1, hw2, h⟩ := h
        try rw [w64 hw1 hw2]
        have h := h ww34 hx34
        refine h.mono fun ee43 ww44 h => ?_
        obtain ⟨L41a, L41n, L41c, Epoch42, he, hk, h⟩ := h
        refine ⟨L41a, L41n, L41c, Epoch42, he, ?_⟩
        have hb3 := hk.blk hb3 (by simp)
        have hm46 : Ext (fun b => b = ww10.heap.size) ww44 ww44 := ((Ext.refl no ww44)).none
        refine ⟨hb3.cani 0 rfl rfl, thenW_in fun ww45 e45 => ?_⟩
        have hx45 := hm46.x_set (q := ww10.heap.size) (i := 0) rfl (.inl rfl) e45
        have hb3 := hb3.seti 0 rfl e45
        refine ⟨hb3.cani 1 rfl rfl, thenW_in fun ww46 e46 => ?_⟩
        have hx46 := hx45.x_set (q := ww10.heap.size) (i := 1) rfl (.inl rfl) e46
        have hb3 := hb3.seti 1 rfl e46
        refine ⟨L41a, L41n, L41c, Epoch42, ⟨hb3.celli 0 rfl rfl, hb3.celli 1 rfl rfl, trivial⟩, ?_⟩
        have h := h ww46 hx46
        exact h
    · have h := h.2 (beq_f c35)
      refine bif_of (fun c47 => ?_) (fun c47 => ?_)
      · have h := h.1 (beq_t c47)
        refine bif_of (fun c48 => ?_) (fun c48 => ?_)
        · have h := h.1 (not_t c48)
          have hm50 : Ext (fun b => b = ww10.heap.size) ww28 ww34 := (hx34).none
          refine ⟨hb3.cani 0 rfl rfl, thenW_in fun ww49 e49 => ?_⟩
          have hx49 := hm50.x_set (q := ww10.heap.size) (i := 0) rfl (.inl rfl) e49
          have hb3 := hb3.seti 0 rfl e49
          refine ⟨hb3.cani 1 rfl rfl, thenW_in fun ww50 e50 => ?_⟩
          have hx50 := hx49.x_set (q := ww10.heap.size) (i := 1) rfl (.inl rfl) e50
          have hb3 := hb3.seti 1 rfl e50
          refine ⟨none, 0, 0, 0, ⟨hb3.celli 0 rfl rfl, hb3.celli 1 rfl rfl, trivial⟩, ?_⟩
          have h := h ww50 hx50
          exact h
        · have h := h.2 (not_f c48)
          refine ⟨To24, hb4.celli 3 rfl rfl, ?_⟩
          refine bif_of (fun c52 => ?_) (fun c52 => ?_)
          · have h := h.1 (bne_t c52)
            have hm54 : Ext (fun b => b = ww10.heap.size) ww28 ww34 := (hx34).none
            refine ⟨hb3.cani 0 rfl rfl, thenW_in fun ww53 e53 => ?_⟩
            have hx53 := hm54.x_set (q := ww10.heap.size) (i := 0) rfl (.inl rfl) e53
            have hb3 := hb3.seti 0 rfl e53
            refine ⟨hb3.cani 1 rfl rfl, thenW_in fun ww54 e54 => ?_⟩
            have hx54 := hx53.x_set (q := ww10.heap.size) (i := 1) rfl (.inl rfl) e54
            have hb3 := hb3.seti 1 rfl e54
            refine ⟨none, 0, 0, 0, ⟨hb3.celli 0 rfl rfl, hb3.celli 1 rfl rfl, trivial⟩, ?_⟩
            have h := h ww54 hx54
            exact h
          · have h := h.2 (bne_f c52)
            refine ⟨sEpoch2, hb1.celli 1 rfl rfl, ?_⟩
            refine ⟨hb4.cani 3 rfl rfl, thenW_in fun ww56 e56 => ?_⟩
            have hx56 := hx34.x_set (q := ww28.heap.size) (i := 3) rfl (.inr hg4) e56
            have hb1 := hb1.oth (q := ww28.heap.size) (i := 3) rfl hb1_4 e56
            have hb2 := hb2.oth (q := ww28.heap.size) (i := 3) rfl hb2_4 e56
            have hb3 := hb3.oth (q := ww28.heap.size) (i := 3) rfl hb3_4 e56
            have hb4 : Blk ww56 ww28.heap.size 52 [.int .i64 Who21, .int .u64 Public22, .int .i64 From23, .int .i64 sEpoch2, .int .i64 Limit25] := hb4.seti 3 rfl e56
            refine ⟨sEpoch2, hb4.celli 3 rfl rfl, ?_⟩
            refine bif_of (fun c57 => ?_) (fun c57 => ?_)
            · have h := h.1 (of_decide_eq_true c57)
              refine ⟨hb4.cani 3 rfl rfl, thenW_in fun ww58 e58 => ?_⟩
              have hx58 := hx56.x_set (q := ww28.heap.size) (i := 3) rfl (.inr hg4) e58
              have hb1 := hb1.oth (q := ww28.heap.size) (i := 3) rfl hb1_4 e58
              have hb2 := hb2.oth (q := ww28.heap.size) (i := 3) rfl hb2_4 e58
              have hb3 := hb3.oth (q := ww28.heap.size) (i := 3) rfl hb3_4 e58
              have hb4 : Blk ww58 ww28.heap.size 52 [.int .i64 Who21, .int .u64 Public22, .int .i64 From23, .int .i64 (-2), .int .i64 Limit25] := hb4.seti 3 rfl e58
              refine ⟨cLimit6, hb2.celli 3 rfl rfl, ?_⟩
              refine ⟨hb4.cani 4 rfl rfl, thenW_in fun ww59 e59 => ?_⟩
              have hx59 := hx58.x_set (q := ww28.heap.size) (i := 4) rfl (.inr hg4) e59
              have hb1 := hb1.oth (q := ww28.heap.size) (i := 4) rfl hb1_4 e59
              have hb3 := hb3.oth (q := ww28.heap.size) (i := 4) rfl hb3_4 e59
              have hb4 : Blk ww59 ww28.heap.size 52 [.int .i64 Who21, .int .u64 Public22, .int .i64 From23, .int .i64 (-2), .int .i64 cLimit6] := hb4.seti 4 rfl e59
              refine ⟨sL1a, sL1n, sL1c, sEpoch2, ⟨hb1.celli 0 rfl rfl, hb1.celli 1 rfl rfl, trivial⟩, ?_⟩
              refine ⟨Who21, Public22, From23, (-2), cLimit6, ⟨hb4.celli 0 rfl rfl, hb4.celli 1 rfl rfl, hb4.celli 2 rfl rfl, hb4.celli 3 rfl rfl, hb4.celli 4 rfl rfl, trivial⟩, ?_⟩
              have h := h ww59 hx59
              refine h.mono fun ee63 ww64 h => ?_
              obtain ⟨L61a, L61n, L61c, Epoch62, he, hk, h⟩ := h
              refine ⟨L61a, L61n, L61c, Epoch62, he, ?_⟩
              have hb3 := hk.blk hb3 (by simp)
              have hm66 : Ext (fun b => b = ww10.heap.size) ww64 ww64 := ((Ext.refl no ww64)).none
              refine ⟨hb3.cani 0 rfl rfl, thenW_in fun ww65 e65 => ?_⟩
              have hx65 := hm66.x_set (q := ww10.heap.size) (i := 0) rfl (.inl rfl) e65
              have hb3 := hb3.seti 0 rfl e65
              refine ⟨hb3.cani 1 rfl rfl, thenW_in fun ww66 e66 => ?_⟩
              have hx66 := hx65.x_set (q := ww10.heap.size) (i := 1) rfl (.inl rfl) e66
              have hb3 := hb3.seti 1 rfl e66
              refine ⟨L61a, L61n, L61c, Epoch62, ⟨hb3.celli 0 rfl rfl, hb3.celli 1 rfl rfl, trivial⟩, ?_⟩
              have h := h ww66 hx66
              exact h
            · have h := h.2 (Int.not_lt.1 (of_decide_eq_false c57))
              refine ⟨cLimit6, hb2.celli 3 rfl rfl, ?_⟩
              refine ⟨hb4.cani 4 rfl rfl, thenW_in fun ww67 e67 => ?_⟩
              have hx67 := hx56.x_set (q := ww28.heap.size) (i := 4) rfl (.inr hg4) e67
              have hb1 := hb1.oth (q := ww28.heap.size) (i := 4) rfl hb1_4 e67
              have hb3 := hb3.oth (q := ww28.heap.size) (i := 4) rfl hb3_4 e67
              have hb4 : Blk ww67 ww28.heap.size 52 [.int .i64 Who21, .int .u64 Public22, .int .i64 From23, .int .i64 sEpoch2, .int .i64 cLimit6] := hb4.seti 4 rfl e67
              refine ⟨sL1a, sL1n, sL1c, sEpoch2, ⟨hb1.celli 0 rfl rfl, hb1.celli 1 rfl rfl, trivial⟩, ?_⟩
              refine ⟨Who21, Public22, From23, sEpoch2, cLimit6, ⟨hb4.celli 0 rfl rfl, hb4.celli 1 rfl rfl, hb4.celli 2 rfl rfl, hb4.celli 3 rfl rfl, hb4.celli 4 rfl rfl, trivial⟩, ?_⟩
              have h := h ww67 hx67
              refine h.mono fun ee71 ww72 h => ?_
              obtain ⟨L69a, L69n, L69c, Epoch70, he, hk, h⟩ := h
              refine ⟨L69a, L69n, L69c, Epoch70, he, ?_⟩
              have hb3 := hk.blk hb3 (by simp)
              have hm74 : Ext (fun b => b = ww10.heap.size) ww72 ww72 := ((Ext.refl no ww72)).none
              refine ⟨hb3.cani 0 rfl rfl, thenW_in fun ww73 e73 => ?_⟩
              have hx73 := hm74.x_set (q := ww10.heap.size) (i := 0) rfl (.inl rfl) e73
              have hb3 := hb3.seti 0 rfl e73
              refine ⟨hb3.cani 1 rfl rfl, thenW_in fun ww74 e74 => ?_⟩
              have hx74 := hx73.x_set (q := ww10.heap.size) (i := 1) rfl (.inl rfl) e74
              have hb3 := hb3.seti 1 rfl e74
              refine ⟨L69a, L69n, L69c, Epoch70, ⟨hb3.celli 0 rfl rfl, hb3.celli 1 rfl rfl, trivial⟩, ?_⟩
              have h := h ww74 hx74
              exact h
      · have h := h.2 (beq_f c47)
        refine ⟨sEpoch2, hb1.celli 1 rfl rfl, ?_⟩
        refine bif_of (fun c75 => ?_) (fun c75 => ?_)
        · have h := h.1 (of_decide_eq_true c75)
          have hm77 : Ext (fun b => b = ww10.heap.size) ww28 ww34 := (hx34).none
          refine ⟨hb3.cani 0 rfl rfl, thenW_in fun ww76 e76 => ?_⟩
          have hx76 := hm77.x_set (q := ww10.heap.size) (i := 0) rfl (.inl rfl) e76
          have hb3 := hb3.seti 0 rfl e76
          refine ⟨hb3.cani 1 rfl rfl, thenW_in fun ww77 e77 => ?_⟩
          have hx77 := hx76.x_set (q := ww10.heap.size) (i := 1) rfl (.inl rfl) e77
          have hb3 := hb3.seti 1 rfl e77
          refine ⟨none, 0, 0, 0, ⟨hb3.celli 0 rfl rfl, hb3.celli 1 rfl rfl, trivial⟩, ?_⟩
          have h := h ww77 hx77
          exact h
        · have h := h.2 (Int.not_le.1 (of_decide_eq_false c75))
          refine ⟨sL1a, sL1n, sL1c, sEpoch2, ⟨hb1.celli 0 rfl rfl, hb1.celli 1 rfl rfl, trivial⟩, ?_⟩
          have h := h ww34 hx34
          refine h.mono fun ee81 ww82 h => ?_
          obtain ⟨now80a, now80n, now80c, he, hk, h⟩ := h
          refine ⟨now80a, now80n, now80c, he, ?_⟩
          have hb1 := hk.blk hb1 (by simp)
          have hb2 := hk.blk hb2 (by simp)
          have hb3 := hk.blk hb3 (by simp)
          refine ⟨cWraps7a, cWraps7n, cWraps7c, hb2.celli 4 rfl rfl, ?_⟩
          refine bif_of (fun c83 => ?_) (fun c83 => ?_)
          · have h := h.1 (bne_t c83)
            have hm85 : Ext (fun b => b = ww10.heap.size) ww82 ww82 := ((Ext.refl no ww82)).none
            refine ⟨hb3.cani 0 rfl rfl, thenW_in fun ww84 e84 => ?_⟩
            have hx84 := hm85.x_set (q := ww10.heap.size) (i := 0) rfl (.inl rfl) e84
            have hb3 := hb3.seti 0 rfl e84
            refine ⟨hb3.cani 1 rfl rfl, thenW_in fun ww85 e85 => ?_⟩
            have hx85 := hx84.x_set (q := ww10.heap.size) (i := 1) rfl (.inl rfl) e85
            have hb3 := hb3.seti 1 rfl e85
            refine ⟨none, 0, 0, 0, ⟨hb3.celli 0 rfl rfl, hb3.celli 1 rfl rfl, trivial⟩, ?_⟩
            have h := h ww85 hx85
            exact h
          · have h := h.2 (bne_f c83)
            refine ⟨cOld8a, cOld8n, cOld8c, hb2.celli 5 rfl rfl, ?_⟩
            refine ⟨sEpoch2, hb1.celli 1 rfl rfl, ?_⟩
            refine bif_of (fun c86 => ?_) (fun c86 => ?_)
            · have h := h.1 (bbeq_f (not_t c86))
              have hm88 : Ext (fun b => b = ww10.heap.size) ww82 ww82 := ((Ext.refl no ww82)).none
              refine ⟨hb3.cani 0 rfl rfl, thenW_in fun ww87 e87 => ?_⟩
              have hx87 := hm88.x_set (q := ww10.heap.size) (i := 0) rfl (.inl rfl) e87
              have hb3 := hb3.seti 0 rfl e87
              refine ⟨hb3.cani 1 rfl rfl, thenW_in fun ww88 e88 => ?_⟩
              have hx88 := hx87.x_set (q := ww10.heap.size) (i := 1) rfl (.inl rfl) e88
              have hb3 := hb3.seti 1 rfl e88
              refine ⟨none, 0, 0, 0, ⟨hb3.celli 0 rfl rfl, hb3.celli 1 rfl rfl, trivial⟩, ?_⟩
              have h := h ww88 hx88
              exact h
            · have h := h.2 (bbeq_t (not_f c86))
              obtain ⟨I1, m92, h0, h⟩ := h
              refine ⟨fun k vs ww => ∃ (L90a : Option Addr) (L90n : Nat) (L90c : Nat) (Epoch91 : Int), Blk ww w.heap.size 45 [.slice sL1a sL1n sL1c, .int .i64 sEpoch2] ∧ Blk ww ww9.heap.size 40 [.int .i64 cKind3, .int .i64 cWho4, .int .u64 cPublic5, .int .i64 cLimit6, .slice cWraps7a cWraps7n cWraps7c, .slice cOld8a cOld8n cOld8c] ∧ Blk ww ww10.heap.size 45 [.slice L90a L90n L90c, .int .i64 Epoch91] ∧ I1 k (vs ++ [.slice L90a L90n L90c, .int .i64 Epoch91]) ww, m92, ⟨none, 0, 0, 0, hb1, hb2, hb3, h0⟩, fun m93 ww94 i89 hI => ?_⟩
              obtain ⟨L90a, L90n, L90c, Epoch91, hb1, hb2, hb3, hI⟩ := hI
              have h := h m93 ww94 i89 L90a L90n L90c Epoch91 hI
              refine bif_of (fun c95 => ?_) (fun c95 => ?_)
              · have h := h.1 (of_decide_eq_true c95)
                refine thenW_in fun ww96 e96 => ?_
                have hx96 := (Ext.refl no ww94).x_drew e96
                have hb1 := hb1.x_drew e96
                have hb2 := hb2.x_drew e96
                have hb3 := hb3.x_drew e96
                obtain ⟨a97, ha97, h⟩ := h
                refine elim_some ha97 ?_
                obtain ⟨hq1, hq2, h⟩ := h
                refine ⟨hq1, hq2, ?_⟩
                obtain ⟨Who99, hc98, h⟩ := h
                refine ⟨Who99, (hx96).cell hc98 id, ?_⟩
                refine ⟨cWraps7a, cWraps7n, cWraps7c, hb2.celli 4 rfl rfl, ?_⟩
                obtain ⟨a100, ha100, h⟩ := h
                refine elim_some ha100 ?_
                obtain ⟨hq1, hq2, h⟩ := h
                refine ⟨hq1, hq2, ?_⟩
                obtain ⟨Who102, hc101, h⟩ := h
                refine ⟨Who102, (hx96).cell hc101 id, ?_⟩
                refine bif_of (fun c103 => ?_) (fun c103 => ?_)
                · have h := h.1 (bne_t c103)
                  have hm105 : Ext (fun b => b = ww10.heap.size) ww94 ww96 := (hx96).none
                  refine ⟨hb3.cani 0 rfl rfl, thenW_in fun ww104 e104 => ?_⟩
                  have hx104 := hm105.x_set (q := ww10.heap.size) (i := 0) rfl (.inl rfl) e104
                  have hb3 := hb3.seti 0 rfl e104
                  refine ⟨hb3.cani 1 rfl rfl, thenW_in fun ww105 e105 => ?_⟩
                  have hx105 := hx104.x_set (q := ww10.heap.size) (i := 1) rfl (.inl rfl) e105
                  have hb3 := hb3.seti 1 rfl e105
                  refine ⟨none, 0, 0, 0, ⟨hb3.celli 0 rfl rfl, hb3.celli 1 rfl rfl, trivial⟩, ?_⟩
                  have h := h ww105 hx105
                  exact h
                · have h := h.2 (bne_f c103)
                  obtain ⟨hw1, hw2, h⟩ := h
                  try rw [w64 hw1 hw2]
                  have h := h ww96 hx96
                  obtain ⟨m106, hk, h⟩ := h
                  exact ⟨m106, hk, L90a, L90n, L90c, Epoch91, hb1, hb2, hb3, h⟩
              · have h := h.2 (Int.not_lt.1 (of_decide_eq_false c95))
                refine ⟨sL1a, sL1n, sL1c, hb1.celli 0 rfl rfl, ?_⟩
                refine ⟨sEpoch2, hb1.celli 1 rfl rfl, ?_⟩
                obtain ⟨hw1, hw2, h⟩ := h
                try rw [w64 hw1 hw2]
                have hm108 : Ext (fun b => b = ww10.heap.size) ww94 ww94 := ((Ext.refl no ww94)).none
                refine ⟨hb3.cani 0 rfl rfl, thenW_in fun ww107 e107 => ?_⟩
                have hx107 := hm108.x_set (q := ww10.heap.size) (i := 0) rfl (.inl rfl) e107
                have hb3 := hb3.seti 0 rfl e107
                refine ⟨hb3.cani 1 rfl rfl, thenW_in fun ww108 e108 => ?_⟩
                have hx108 := hx107.x_set (q := ww10.heap.size) (i := 1) rfl (.inl rfl) e108
                have hb3 := hb3.seti 1 rfl e108
                refine ⟨sL1a, sL1n, sL1c, (sEpoch2 + 1), ⟨hb3.celli 0 rfl rfl, hb3.celli 1 rfl rfl, trivial⟩, ?_⟩
                have h := h ww108 hx108
                exact h

theorem cachetteref12_Apply.go (sL1a : Option Addr) (sL1n : Nat) (sL1c : Nat) (sEpoch2 : Int) (cKind3 : Int) (cWho4 : Int) (cPublic5 : Int) (cLimit6 : Int) (cWraps7a : Option Addr) (cWraps7n : Nat) (cWraps7c : Nat) (cOld8a : Option Addr) (cOld8n : Nat) (cOld8c : Nat) {R : Value → World → Prop} {w : World} (h : cachetteref12_Apply.N sL1a sL1n sL1c sEpoch2 cKind3 cWho4 cPublic5 cLimit6 cWraps7a cWraps7n cWraps7c cOld8a cOld8n cOld8c R w) : Calls Try.prog 20 #[.agg #[.slice sL1a sL1n sL1c, .int .i64 sEpoch2], .agg #[.int .i64 cKind3, .int .i64 cWho4, .int .u64 cPublic5, .int .i64 cLimit6, .slice cWraps7a cWraps7n cWraps7c, .slice cOld8a cOld8n cOld8c]] w fun e w' => ∃ v, e = .returned v ∧ R v w' := cachetteref12_Apply.ok sL1a sL1n sL1c sEpoch2 cKind3 cWho4 cPublic5 cLimit6 cWraps7a cWraps7n cWraps7c cOld8a cOld8n cOld8c (cachetteref12_Apply.up sL1a sL1n sL1c sEpoch2 cKind3 cWho4 cPublic5 cLimit6 cWraps7a cWraps7n cWraps7c cOld8a cOld8n cOld8c h)
theorem cachetteref12_Apply.run (sL1a : Option Addr) (sL1n : Nat) (sL1c : Nat) (sEpoch2 : Int) (cKind3 : Int) (cWho4 : Int) (cPublic5 : Int) (cLimit6 : Int) (cWraps7a : Option Addr) (cWraps7n : Nat) (cWraps7c : Nat) (cOld8a : Option Addr) (cOld8n : Nat) (cOld8c : Nat) {V : Value} {Q : World → Prop} {w : World} (h : cachetteref12_Apply.N sL1a sL1n sL1c sEpoch2 cKind3 cWho4 cPublic5 cLimit6 cWraps7a cWraps7n cWraps7c cOld8a cOld8n cOld8c (fun v w' => v = V ∧ Q w') w) : Calls Try.prog 20 #[.agg #[.slice sL1a sL1n sL1c, .int .i64 sEpoch2], .agg #[.int .i64 cKind3, .int .i64 cWho4, .int .u64 cPublic5, .int .i64 cLimit6, .slice cWraps7a cWraps7n cWraps7c, .slice cOld8a cOld8n cOld8c]] w (Ret V Q) := (cachetteref12_Apply.go sL1a sL1n sL1c sEpoch2 cKind3 cWho4 cPublic5 cLimit6 cWraps7a cWraps7n cWraps7c cOld8a cOld8n cOld8c h).mono fun e w' ⟨v, he, hv, hq⟩ => ⟨by rw [he, hv], hq⟩

/-- cachetteref12.May -/
def cachetteref12_May.M (sL1a : Option Addr) (sL1n : Nat) (sL1c : Nat) (sEpoch2 : Int) (who3 : Int) (indexv4 : Int) (epoch5 : Int) (R : Value → World → Prop) (w : World) : Prop :=
  thenW (w.alloc (.cells #[.slice sL1a sL1n sL1c, .int .i64 sEpoch2] 45)) fun ww6 =>
  ∃ (xL7a : Option Addr) (xL7n : Nat) (xL7c : Nat) (xEpoch8 : Int), cellsAt ww6 (blk w.heap.size) [.slice xL7a xL7n xL7c, .int .i64 xEpoch8] 0 ∧
  Calls Try.prog 21 #[.agg #[.slice xL7a xL7n xL7c, .int .i64 xEpoch8], .int .i64 who3] ww6 fun ee15 ww16 => ∃ (Who9 : Int) (Public10 : Int) (From11 : Int) (To12 : Int) (Limit13 : Int) (find14 : Bool), ee15 = .returned (.tuple #[.agg #[.int .i64 Who9, .int .u64 Public10, .int .i64 From11, .int .i64 To12, .int .i64 Limit13], .bool find14]) ∧
  thenW (ww16.alloc (.cells #[.int .i64 0, .int .u64 0, .int .i64 0, .int .i64 0, .int .i64 0] 52)) fun ww17 =>
  canStore ww17 ((blk ww16.heap.size).add 0) ∧
  thenW (ww17.setCell ((blk ww16.heap.size).add 0) (.int .i64 Who9)) fun ww18 =>
  canStore ww18 ((blk ww16.heap.size).add 1) ∧
  thenW (ww18.setCell ((blk ww16.heap.size).add 1) (.int .u64 Public10)) fun ww19 =>
  canStore ww19 ((blk ww16.heap.size).add 2) ∧
  thenW (ww19.setCell ((blk ww16.heap.size).add 2) (.int .i64 From11)) fun ww20 =>
  canStore ww20 ((blk ww16.heap.size).add 3) ∧
  thenW (ww20.setCell ((blk ww16.heap.size).add 3) (.int .i64 To12)) fun ww21 =>
  canStore ww21 ((blk ww16.heap.size).add 4) ∧
  thenW (ww21.setCell ((blk ww16.heap.size).add 4) (.int .i64 Limit13)) fun ww22 =>
  bif !find14 then (
  R (.int .i64 20) ww22) else (
  bif epoch5 == (-1) then (
  bif who3 == 0 then (
  R (.int .i64 0) ww22) else (
  ∃ (Epoch23 : Int), ww22.cell? ((blk w.heap.size).add 1) = some (.int .i64 Epoch23) ∧
  bif decide (epoch5 > Epoch23) then (
  R (.int .i64 7) ww22) else (
  bif decide (epoch5 < 0) then (
  R (.int .i64 10) ww22) else (
  ∃ (From24 : Int), ww22.cell? ((blk ww16.heap.size).add 2) = some (.int .i64 From24) ∧
  bif decide (epoch5 < From24) then (
  R (.int .i64 10) ww22) else (
  ∃ (To25 : Int), ww22.cell? ((blk ww16.heap.size).add 3) = some (.int .i64 To25) ∧
  bif To25 != (-1) then (
  ∃ (To26 : Int), ww22.cell? ((blk ww16.heap.size).add 3) = some (.int .i64 To26) ∧
  bif decide (epoch5 > To26) then (
  R (.int .i64 10) ww22) else (
  ∃ (Limit27 : Int), ww22.cell? ((blk ww16.heap.size).add 4) = some (.int .i64 Limit27) ∧
  bif decide (indexv4 ≥ Limit27) then (
  R (.int .i64 10) ww22) else (
  R (.int .i64 0) ww22))) else (
  R (.int .i64 0) ww22)))))) else (
  ∃ (Epoch28 : Int), ww22.cell? ((blk w.heap.size).add 1) = some (.int .i64 Epoch28) ∧
  bif decide (epoch5 > Epoch28) then (
  R (.int .i64 7) ww22) else (
  bif decide (epoch5 < 0) then (
  R (.int .i64 10) ww22) else (
  ∃ (From29 : Int), ww22.cell? ((blk ww16.heap.size).add 2) = some (.int .i64 From29) ∧
  bif decide (epoch5 < From29) then (
  R (.int .i64 10) ww22) else (
  ∃ (To30 : Int), ww22.cell? ((blk ww16.heap.size).add 3) = some (.int .i64 To30) ∧
  bif To30 != (-1) then (
  ∃ (To31 : Int), ww22.cell? ((blk ww16.heap.size).add 3) = some (.int .i64 To31) ∧
  bif decide (epoch5 > To31) then (
  R (.int .i64 10) ww22) else (
  ∃ (Limit32 : Int), ww22.cell? ((blk ww16.heap.size).add 4) = some (.int .i64 Limit32) ∧
  bif decide (indexv4 ≥ Limit32) then (
  R (.int .i64 10) ww22) else (
  R (.int .i64 0) ww22))) else (
  R (.int .i64 0) ww22))))))

theorem cachetteref12_May.eq (sL1a : Option Addr) (sL1n : Nat) (sL1c : Nat) (sEpoch2 : Int) (who3 : Int) (indexv4 : Int) (epoch5 : Int) (R : Value → World → Prop) (w : World) : mfunc Try.prog [] 26 [.agg #[.slice sL1a sL1n sL1c, .int .i64 sEpoch2], .int .i64 who3, .int .i64 indexv4, .int .i64 epoch5] R w = cachetteref12_May.M sL1a sL1n sL1c sEpoch2 who3 indexv4 epoch5 R w := by kernel_rfl
theorem cachetteref12_May.ok (sL1a : Option Addr) (sL1n : Nat) (sL1c : Nat) (sEpoch2 : Int) (who3 : Int) (indexv4 : Int) (epoch5 : Int) {R : Value → World → Prop} {w : World} (h : cachetteref12_May.M sL1a sL1n sL1c sEpoch2 who3 indexv4 epoch5 R w) : Calls Try.prog 26 #[.agg #[.slice sL1a sL1n sL1c, .int .i64 sEpoch2], .int .i64 who3, .int .i64 indexv4, .int .i64 epoch5] w fun e w' => ∃ v, e = .returned v ∧ R v w' :=
  mfunc_ok follows (H := []) (args := [.agg #[.slice sL1a sL1n sL1c, .int .i64 sEpoch2], .int .i64 who3, .int .i64 indexv4, .int .i64 epoch5]) (by rw [cachetteref12_May.eq]; exact h)

def cachetteref12_May.N (sL1a : Option Addr) (sL1n : Nat) (sL1c : Nat) (sEpoch2 : Int) (who3 : Int) (indexv4 : Int) (epoch5 : Int) (R : Value → World → Prop) (w : World) : Prop :=
  ∀ (ww6 : World) (p7 : Nat), Ext no w ww6 → Priv w ww6 [p7] →
  Calls Try.prog 21 #[.agg #[.slice sL1a sL1n sL1c, .int .i64 sEpoch2], .int .i64 who3] ww6 fun ee14 ww15 => ∃ (Who8 : Int) (Public9 : Int) (From10 : Int) (To11 : Int) (Limit12 : Int) (find13 : Bool), ee14 = .returned (.tuple #[.agg #[.int .i64 Who8, .int .u64 Public9, .int .i64 From10, .int .i64 To11, .int .i64 Limit12], .bool find13]) ∧
  Keep [p7] ww6 ww15 ∧
  (find13 = false →
    ∀ (ww21 : World), Ext no ww15 ww21 →
    R (.int .i64 20) ww21) ∧
  (find13 = true →
    (epoch5 = (-1) →
      (who3 = 0 →
        ∀ (ww21 : World), Ext no ww15 ww21 →
        R (.int .i64 0) ww21) ∧
      (who3 ≠ 0 →
        (epoch5 > sEpoch2 →
          ∀ (ww21 : World), Ext no ww15 ww21 →
          R (.int .i64 7) ww21) ∧
        (epoch5 ≤ sEpoch2 →
          (epoch5 < 0 →
            ∀ (ww21 : World), Ext no ww15 ww21 →
            R (.int .i64 10) ww21) ∧
          ((0 : Int) ≤ epoch5 →
            (epoch5 < From10 →
              ∀ (ww21 : World), Ext no ww15 ww21 →
              R (.int .i64 10) ww21) ∧
            (From10 ≤ epoch5 →
              (To11 ≠ (-1) →
                (epoch5 > To11 →
                  ∀ (ww21 : World), Ext no ww15 ww21 →
                  R (.int .i64 10) ww21) ∧
                (epoch5 ≤ To11 →
                  (indexv4 ≥ Limit12 →
                    ∀ (ww21 : World), Ext no ww15 ww21 →
                    R (.int .i64 10) ww21) ∧
                  (indexv4 < Limit12 →
                    ∀ (ww21 : World), Ext no ww15 ww21 →
                    R (.int .i64 0) ww21))) ∧
              (To11 = (-1) →
                ∀ (ww21 : World), Ext no ww15 ww21 →
                R (.int .i64 0) ww21)))))) ∧
    (epoch5 ≠ (-1) →
      (epoch5 > sEpoch2 →
        ∀ (ww21 : World), Ext no ww15 ww21 →
        R (.int .i64 7) ww21) ∧
      (epoch5 ≤ sEpoch2 →
        (epoch5 < 0 →
          ∀ (ww21 : World), Ext no ww15 ww21 →
          R (.int .i64 10) ww21) ∧
        ((0 : Int) ≤ epoch5 →
          (epoch5 < From10 →
            ∀ (ww21 : World), Ext no ww15 ww21 →
            R (.int .i64 10) ww21) ∧
          (From10 ≤ epoch5 →
            (To11 ≠ (-1) →
              (epoch5 > To11 →
                ∀ (ww21 : World), Ext no ww15 ww21 →
                R (.int .i64 10) ww21) ∧
              (epoch5 ≤ To11 →
                (indexv4 ≥ Limit12 →
                  ∀ (ww21 : World), Ext no ww15 ww21 →
                  R (.int .i64 10) ww21) ∧
                (indexv4 < Limit12 →
                  ∀ (ww21 : World), Ext no ww15 ww21 →
                  R (.int .i64 0) ww21))) ∧
            (To11 = (-1) →
              ∀ (ww21 : World), Ext no ww15 ww21 →
              R (.int .i64 0) ww21))))))

theorem cachetteref12_May.up (sL1a : Option Addr) (sL1n : Nat) (sL1c : Nat) (sEpoch2 : Int) (who3 : Int) (indexv4 : Int) (epoch5 : Int) {R : Value → World → Prop} {w : World} (h : cachetteref12_May.N sL1a sL1n sL1c sEpoch2 who3 indexv4 epoch5 R w) : cachetteref12_May.M sL1a sL1n sL1c sEpoch2 who3 indexv4 epoch5 R w := by
  unfold cachetteref12_May.M
  unfold cachetteref12_May.N at h
  refine thenW_in fun ww6 e6 => ?_
  have hb1 := Blk.of_new e6
  have hg1 := ((Ext.refl no w)).size
  have hx6 := (Ext.refl no w).x_alloc e6
  refine ⟨sL1a, sL1n, sL1c, sEpoch2, ⟨hb1.celli 0 rfl rfl, hb1.celli 1 rfl rfl, trivial⟩, ?_⟩
  have h := h ww6 (w.heap.size) hx6 (Priv.cons hg1 hb1.lt Priv.nil)
  refine h.mono fun ee14 ww15 h => ?_
  obtain ⟨Who8, Public9, From10, To11, Limit12, find13, he, hk, h⟩ := h
  refine ⟨Who8, Public9, From10, To11, Limit12, find13, he, ?_⟩
  have hb1 := hk.blk hb1 (by simp)
  refine thenW_in fun ww16 e16 => ?_
  have hb2 := Blk.of_new e16
  have hg2 := ((Ext.refl no ww15)).size
  have hb1_2 := Nat.ne_of_lt hb1.lt
  have hb1 := hb1.x_alloc e16
  have hx16 := (Ext.refl no ww15).x_alloc e16
  refine ⟨hb2.cani 0 rfl rfl, thenW_in fun ww17 e17 => ?_⟩
  have hx17 := hx16.x_set (q := ww15.heap.size) (i := 0) rfl (.inr hg2) e17
  have hb1 := hb1.oth (q := ww15.heap.size) (i := 0) rfl hb1_2 e17
  have hb2 : Blk ww17 ww15.heap.size 52 [.int .i64 Who8, .int .u64 0, .int .i64 0, .int .i64 0, .int .i64 0] := hb2.seti 0 rfl e17
  refine ⟨hb2.cani 1 rfl rfl, thenW_in fun ww18 e18 => ?_⟩
  have hx18 := hx17.x_set (q := ww15.heap.size) (i := 1) rfl (.inr hg2) e18
  have hb1 := hb1.oth (q := ww15.heap.size) (i := 1) rfl hb1_2 e18
  have hb2 : Blk ww18 ww15.heap.size 52 [.int .i64 Who8, .int .u64 Public9, .int .i64 0, .int .i64 0, .int .i64 0] := hb2.seti 1 rfl e18
  refine ⟨hb2.cani 2 rfl rfl, thenW_in fun ww19 e19 => ?_⟩
  have hx19 := hx18.x_set (q := ww15.heap.size) (i := 2) rfl (.inr hg2) e19
  have hb1 := hb1.oth (q := ww15.heap.size) (i := 2) rfl hb1_2 e19
  have hb2 : Blk ww19 ww15.heap.size 52 [.int .i64 Who8, .int .u64 Public9, .int .i64 From10, .int .i64 0, .int .i64 0] := hb2.seti 2 rfl e19
  refine ⟨hb2.cani 3 rfl rfl, thenW_in fun ww20 e20 => ?_⟩
  have hx20 := hx19.x_set (q := ww15.heap.size) (i := 3) rfl (.inr hg2) e20
  have hb1 := hb1.oth (q := ww15.heap.size) (i := 3) rfl hb1_2 e20
  have hb2 : Blk ww20 ww15.heap.size 52 [.int .i64 Who8, .int .u64 Public9, .int .i64 From10, .int .i64 To11, .int .i64 0] := hb2.seti 3 rfl e20
  refine ⟨hb2.cani 4 rfl rfl, thenW_in fun ww21 e21 => ?_⟩
  have hx21 := hx20.x_set (q := ww15.heap.size) (i := 4) rfl (.inr hg2) e21
  have hb1 := hb1.oth (q := ww15.heap.size) (i := 4) rfl hb1_2 e21
  have hb2 : Blk ww21 ww15.heap.size 52 [.int .i64 Who8, .int .u64 Public9, .int .i64 From10, .int .i64 To11, .int .i64 Limit12] := hb2.seti 4 rfl e21
  refine bif_of (fun c22 => ?_) (fun c22 => ?_)
  · have h := h.1 (not_t c22)
    have h := h ww21 hx21
    exact h
  · have h := h.2 (not_f c22)
    refine bif_of (fun c24 => ?_) (fun c24 => ?_)
    · have h := h.1 (beq_t c24)
      refine bif_of (fun c25 => ?_) (fun c25 => ?_)
      · have h := h.1 (beq_t c25)
        have h := h ww21 hx21
        exact h
      · have h := h.2 (beq_f c25)
        refine ⟨sEpoch2, hb1.celli 1 rfl rfl, ?_⟩
        refine bif_of (fun c27 => ?_) (fun c27 => ?_)
        · have h := h.1 (of_decide_eq_true c27)
          have h := h ww21 hx21
          exact h
        · have h := h.2 (Int.not_lt.1 (of_decide_eq_false c27))
          refine bif_of (fun c29 => ?_) (fun c29 => ?_)
          · have h := h.1 (of_decide_eq_true c29)
            have h := h ww21 hx21
            exact h
          · have h := h.2 (Int.not_lt.1 (of_decide_eq_false c29))
            refine ⟨From10, hb2.celli 2 rfl rfl, ?_⟩
            refine bif_of (fun c31 => ?_) (fun c31 => ?_)
            · have h := h.1 (of_decide_eq_true c31)
              have h := h ww21 hx21
              exact h
            · have h := h.2 (Int.not_lt.1 (of_decide_eq_false c31))
              refine ⟨To11, hb2.celli 3 rfl rfl, ?_⟩
              refine bif_of (fun c33 => ?_) (fun c33 => ?_)
              · have h := h.1 (bne_t c33)
                refine ⟨To11, hb2.celli 3 rfl rfl, ?_⟩
                refine bif_of (fun c34 => ?_) (fun c34 => ?_)
                · have h := h.1 (of_decide_eq_true c34)
                  have h := h ww21 hx21
                  exact h
                · have h := h.2 (Int.not_lt.1 (of_decide_eq_false c34))
                  refine ⟨Limit12, hb2.celli 4 rfl rfl, ?_⟩
                  refine bif_of (fun c36 => ?_) (fun c36 => ?_)
                  · have h := h.1 (of_decide_eq_true c36)
                    have h := h ww21 hx21
                    exact h
                  · have h := h.2 (Int.not_le.1 (of_decide_eq_false c36))
                    have h := h ww21 hx21
                    exact h
              · have h := h.2 (bne_f c33)
                have h := h ww21 hx21
                exact h
    · have h := h.2 (beq_f c24)
      refine ⟨sEpoch2, hb1.celli 1 rfl rfl, ?_⟩
      refine bif_of (fun c40 => ?_) (fun c40 => ?_)
      · have h := h.1 (of_decide_eq_true c40)
        have h := h ww21 hx21
        exact h
      · have h := h.2 (Int.not_lt.1 (of_decide_eq_false c40))
        refine bif_of (fun c42 => ?_) (fun c42 => ?_)
        · have h := h.1 (of_decide_eq_true c42)
          have h := h ww21 hx21
          exact h
        · have h := h.2 (Int.not_lt.1 (of_decide_eq_false c42))
          refine ⟨From10, hb2.celli 2 rfl rfl, ?_⟩
          refine bif_of (fun c44 => ?_) (fun c44 => ?_)
          · have h := h.1 (of_decide_eq_true c44)
            have h := h ww21 hx21
            exact h
          · have h := h.2 (Int.not_lt.1 (of_decide_eq_false c44))
            refine ⟨To11, hb2.celli 3 rfl rfl, ?_⟩
            refine bif_of (fun c46 => ?_) (fun c46 => ?_)
            · have h := h.1 (bne_t c46)
              refine ⟨To11, hb2.celli 3 rfl rfl, ?_⟩
              refine bif_of (fun c47 => ?_) (fun c47 => ?_)
              · have h := h.1 (of_decide_eq_true c47)
                have h := h ww21 hx21
                exact h
              · have h := h.2 (Int.not_lt.1 (of_decide_eq_false c47))
                refine ⟨Limit12, hb2.celli 4 rfl rfl, ?_⟩
                refine bif_of (fun c49 => ?_) (fun c49 => ?_)
                · have h := h.1 (of_decide_eq_true c49)
                  have h := h ww21 hx21
                  exact h
                · have h := h.2 (Int.not_le.1 (of_decide_eq_false c49))
                  have h := h ww21 hx21
                  exact h
            · have h := h.2 (bne_f c46)
              have h := h ww21 hx21
              exact h

theorem cachetteref12_May.go (sL1a : Option Addr) (sL1n : Nat) (sL1c : Nat) (sEpoch2 : Int) (who3 : Int) (indexv4 : Int) (epoch5 : Int) {R : Value → World → Prop} {w : World} (h : cachetteref12_May.N sL1a sL1n sL1c sEpoch2 who3 indexv4 epoch5 R w) : Calls Try.prog 26 #[.agg #[.slice sL1a sL1n sL1c, .int .i64 sEpoch2], .int .i64 who3, .int .i64 indexv4, .int .i64 epoch5] w fun e w' => ∃ v, e = .returned v ∧ R v w' := cachetteref12_May.ok sL1a sL1n sL1c sEpoch2 who3 indexv4 epoch5 (cachetteref12_May.up sL1a sL1n sL1c sEpoch2 who3 indexv4 epoch5 h)
theorem cachetteref12_May.run (sL1a : Option Addr) (sL1n : Nat) (sL1c : Nat) (sEpoch2 : Int) (who3 : Int) (indexv4 : Int) (epoch5 : Int) {V : Value} {Q : World → Prop} {w : World} (h : cachetteref12_May.N sL1a sL1n sL1c sEpoch2 who3 indexv4 epoch5 (fun v w' => v = V ∧ Q w') w) : Calls Try.prog 26 #[.agg #[.slice sL1a sL1n sL1c, .int .i64 sEpoch2], .int .i64 who3, .int .i64 indexv4, .int .i64 epoch5] w (Ret V Q) := (cachetteref12_May.go sL1a sL1n sL1c sEpoch2 who3 indexv4 epoch5 h).mono fun e w' ⟨v, he, hv, hq⟩ => ⟨by rw [he, hv], hq⟩

/-- cachetteref12.Behind -/
def cachetteref12_Behind.M (l1a : Option Addr) (l1n : Nat) (l1c : Nat) (publicv2 : Int) (R : Value → World → Prop) (w : World) : Prop :=
  thenW (w.alloc (.cells #[.slice none 0 0, .int .i64 0] 45)) fun ww3 =>
  Calls Try.prog 19 #[.int .u64 publicv2] ww3 fun ee6 ww7 => ∃ (L4a : Option Addr) (L4n : Nat) (L4c : Nat) (Epoch5 : Int), ee6 = .returned (.agg #[.slice L4a L4n L4c, .int .i64 Epoch5]) ∧
  thenW (ww7.alloc (.cells #[.slice none 0 0, .int .i64 0] 45)) fun ww8 =>
  canStore ww8 ((blk ww7.heap.size).add 0) ∧
  thenW (ww8.setCell ((blk ww7.heap.size).add 0) (.slice L4a L4n L4c)) fun ww9 =>
  canStore ww9 ((blk ww7.heap.size).add 1) ∧
  thenW (ww9.setCell ((blk ww7.heap.size).add 1) (.int .i64 Epoch5)) fun ww10 =>
  ∃ (I0 : Nat → List Value → World → Prop) (m12 : Nat), I0 m12 [.int .i64 0] ww10 ∧ ∀ (m13 : Nat) (ww14 : World) (i11 : Int), I0 m13 [.int .i64 i11] ww14 →
  bif decide (i11 < (l1n : Int)) then (
  thenW (ww14.drew) fun ww15 =>
  ∃ (xL16a : Option Addr) (xL16n : Nat) (xL16c : Nat) (xEpoch17 : Int), cellsAt ww15 (blk ww7.heap.size) [.slice xL16a xL16n xL16c, .int .i64 xEpoch17] 0 ∧
  l1a.elim False fun a18 =>
  0 ≤ (i11 : Int) ∧ (i11 : Int) < (l1n : Int) ∧
  ∃ (xKind19 : Int) (xWho20 : Int) (xPublic21 : Int) (xLimit22 : Int) (xWraps23a : Option Addr) (xWraps23n : Nat) (xWraps23c : Nat) (xOld24a : Option Addr) (xOld24n : Nat) (xOld24c : Nat), cellsAt ww15 (a18.add (Int.toNat i11 * 6)) [.int .i64 xKind19, .int .i64 xWho20, .int .u64 xPublic21, .int .i64 xLimit22, .slice xWraps23a xWraps23n xWraps23c, .slice xOld24a xOld24n xOld24c] 0 ∧
  (Calls Try.prog 20 #[.agg #[.slice xL16a xL16n xL16c, .int .i64 xEpoch17], .agg #[.int .i64 xKind19, .int .i64 xWho20, .int .u64 xPublic21, .int .i64 xLimit22, .slice xWraps23a xWraps23n xWraps23c, .slice xOld24a xOld24n xOld24c]] ww15 fun ee28 ww29 => ∃ (L25a : Option Addr) (L25n : Nat) (L25c : Nat) (Epoch26 : Int) (apply27 : Int), ee28 = .returned (.tuple #[.agg #[.slice L25a L25n L25c, .int .i64 Epoch26], .int .i64 apply27]) ∧
  thenW (ww29.alloc (.cells #[.slice none 0 0, .int .i64 0] 45)) fun ww30 =>
  canStore ww30 ((blk ww29.heap.size).add 0) ∧
  thenW (ww30.setCell ((blk ww29.heap.size).add 0) (.slice L25a L25n L25c)) fun ww31 =>
  canStore ww31 ((blk ww29.heap.size).add 1) ∧
  thenW (ww31.setCell ((blk ww29.heap.size).add 1) (.int .i64 Epoch26)) fun ww32 =>
  bif apply27 != 0 then (
  ∃ (xL33a : Option Addr) (xL33n : Nat) (xL33c : Nat) (xEpoch34 : Int), cellsAt ww32 (blk ww7.heap.size) [.slice xL33a xL33n xL33c, .int .i64 xEpoch34] 0 ∧
  canStore ww32 ((blk w.heap.size).add 0) ∧
  thenW (ww32.setCell ((blk w.heap.size).add 0) (.slice xL33a xL33n xL33c)) fun ww35 =>
  canStore ww35 ((blk w.heap.size).add 1) ∧
  thenW (ww35.setCell ((blk w.heap.size).add 1) (.int .i64 xEpoch34)) fun ww36 =>
  ∃ (resL37a : Option Addr) (resL37n : Nat) (resL37c : Nat) (resEpoch38 : Int), cellsAt ww36 (blk w.heap.size) [.slice resL37a resL37n resL37c, .int .i64 resEpoch38] 0 ∧
  R (.tuple #[.agg #[.slice resL37a resL37n resL37c, .int .i64 resEpoch38], .int .i64 i11, .int .i64 apply27]) ww36) else (
  ∃ (xL39a : Option Addr) (xL39n : Nat) (xL39c : Nat) (xEpoch40 : Int), cellsAt ww32 (blk ww29.heap.size) [.slice xL39a xL39n xL39c, .int .i64 xEpoch40] 0 ∧
  canStore ww32 ((blk ww7.heap.size).add 0) ∧
  thenW (ww32.setCell ((blk ww7.heap.size).add 0) (.slice xL39a xL39n xL39c)) fun ww41 =>
  canStore ww41 ((blk ww7.heap.size).add 1) ∧
  thenW (ww41.setCell ((blk ww7.heap.size).add 1) (.int .i64 xEpoch40)) fun ww42 =>
  ∃ m43, m43 < m13 ∧ I0 m43 [.int .i64 (IntKind.i64.wrap (i11 + 1))] ww42)) ∧
  (thenW (ww15.alloc (.cells #[.slice none 0 0, .int .i64 0] 45)) fun ww44 =>
  cellsAt ww44 (a18.add (Int.toNat i11 * 6)) [.int .i64 xKind19, .int .i64 xWho20, .int .u64 xPublic21, .int .i64 xLimit22, .slice xWraps23a xWraps23n xWraps23c, .slice xOld24a xOld24n xOld24c] 0 ∧
  cellsAt ww44 (blk ww7.heap.size) [.slice xL16a xL16n xL16c, .int .i64 xEpoch17] 0 ∧
  Calls Try.prog 20 #[.agg #[.slice xL16a xL16n xL16c, .int .i64 xEpoch17], .agg #[.int .i64 xKind19, .int .i64 xWho20, .int .u64 xPublic21, .int .i64 xLimit22, .slice xWraps23a xWraps23n xWraps23c, .slice xOld24a xOld24n xOld24c]] ww44 fun ee48 ww49 => ∃ (L45a : Option Addr) (L45n : Nat) (L45c : Nat) (Epoch46 : Int) (apply47 : Int), ee48 = .returned (.tuple #[.agg #[.slice L45a L45n L45c, .int .i64 Epoch46], .int .i64 apply47]) ∧
  canStore ww49 ((blk ww15.heap.size).add 0) ∧
  thenW (ww49.setCell ((blk ww15.heap.size).add 0) (.slice L45a L45n L45c)) fun ww50 =>
  canStore ww50 ((blk ww15.heap.size).add 1) ∧
  thenW (ww50.setCell ((blk ww15.heap.size).add 1) (.int .i64 Epoch46)) fun ww51 =>
  bif apply47 != 0 then (
  ∃ (xL52a : Option Addr) (xL52n : Nat) (xL52c : Nat) (xEpoch53 : Int), cellsAt ww51 (blk ww7.heap.size) [.slice xL52a xL52n xL52c, .int .i64 xEpoch53] 0 ∧
  canStore ww51 ((blk w.heap.size).add 0) ∧
  thenW (ww51.setCell ((blk w.heap.size).add 0) (.slice xL52a xL52n xL52c)) fun ww54 =>
  canStore ww54 ((blk w.heap.size).add 1) ∧
  thenW (ww54.setCell ((blk w.heap.size).add 1) (.int .i64 xEpoch53)) fun ww55 =>
  ∃ (resL56a : Option Addr) (resL56n : Nat) (resL56c : Nat) (resEpoch57 : Int), cellsAt ww55 (blk w.heap.size) [.slice resL56a resL56n resL56c, .int .i64 resEpoch57] 0 ∧
  R (.tuple #[.agg #[.slice resL56a resL56n resL56c, .int .i64 resEpoch57], .int .i64 i11, .int .i64 apply47]) ww55) else (
  ∃ (xL58a : Option Addr) (xL58n : Nat) (xL58c : Nat) (xEpoch59 : Int), cellsAt ww51 (blk ww15.heap.size) [.slice xL58a xL58n xL58c, .int .i64 xEpoch59] 0 ∧
  canStore ww51 ((blk ww7.heap.size).add 0) ∧
  thenW (ww51.setCell ((blk ww7.heap.size).add 0) (.slice xL58a xL58n xL58c)) fun ww60 =>
  canStore ww60 ((blk ww7.heap.size).add 1) ∧
  thenW (ww60.setCell ((blk ww7.heap.size).add 1) (.int .i64 xEpoch59)) fun ww61 =>
  ∃ m62, m62 < m13 ∧ I0 m62 [.int .i64 (IntKind.i64.wrap (i11 + 1))] ww61))) else (
  ∃ (xL63a : Option Addr) (xL63n : Nat) (xL63c : Nat) (xEpoch64 : Int), cellsAt ww14 (blk ww7.heap.size) [.slice xL63a xL63n xL63c, .int .i64 xEpoch64] 0 ∧
  canStore ww14 ((blk w.heap.size).add 0) ∧
  thenW (ww14.setCell ((blk w.heap.size).add 0) (.slice xL63a xL63n xL63c)) fun ww65 =>
  canStore ww65 ((blk w.heap.size).add 1) ∧
  thenW (ww65.setCell ((blk w.heap.size).add 1) (.int .i64 xEpoch64)) fun ww66 =>
  ∃ (resL67a : Option Addr) (resL67n : Nat) (resL67c : Nat) (resEpoch68 : Int), cellsAt ww66 (blk w.heap.size) [.slice resL67a resL67n resL67c, .int .i64 resEpoch68] 0 ∧
  R (.tuple #[.agg #[.slice resL67a resL67n resL67c, .int .i64 resEpoch68], .int .i64 (l1n : Int), .int .i64 0]) ww66)

theorem cachetteref12_Behind.eq (l1a : Option Addr) (l1n : Nat) (l1c : Nat) (publicv2 : Int) (R : Value → World → Prop) (w : World) : mfunc Try.prog [(0, [0, 4, 7], [(8, (.one (.int .i64)))])] 25 [.slice l1a l1n l1c, .int .u64 publicv2] R w = cachetteref12_Behind.M l1a l1n l1c publicv2 R w := by kernel_rfl
theorem cachetteref12_Behind.ok (l1a : Option Addr) (l1n : Nat) (l1c : Nat) (publicv2 : Int) {R : Value → World → Prop} {w : World} (h : cachetteref12_Behind.M l1a l1n l1c publicv2 R w) : Calls Try.prog 25 #[.slice l1a l1n l1c, .int .u64 publicv2] w fun e w' => ∃ v, e = .returned v ∧ R v w' :=
  mfunc_ok follows (H := [(0, [0, 4, 7], [(8, (.one (.int .i64)))])]) (args := [.slice l1a l1n l1c, .int .u64 publicv2]) (by rw [cachetteref12_Behind.eq]; exact h)

def cachetteref12_Behind.N (l1a : Option Addr) (l1n : Nat) (l1c : Nat) (publicv2 : Int) (R : Value → World → Prop) (w : World) : Prop :=
  ∀ (ww3 : World) (p4 : Nat), Ext no w ww3 → Priv w ww3 [p4] →
  Calls Try.prog 19 #[.int .u64 publicv2] ww3 fun ee7 ww8 => ∃ (L5a : Option Addr) (L5n : Nat) (L5c : Nat) (Epoch6 : Int), ee7 = .returned (.agg #[.slice L5a L5n L5c, .int .i64 Epoch6]) ∧
  Keep [p4] ww3 ww8 ∧
  ∀ (ww11 : World) (p12 : Nat), Ext no ww8 ww11 → Priv ww8 ww11 [p12] →
  ∃ (I0 : Nat → List Value → World → Prop) (m18 : Nat), I0 m18 [.int .i64 0, .slice none 0 0, .int .i64 0, .slice L5a L5n L5c, .int .i64 Epoch6] ww11 ∧ ∀ (m19 : Nat) (ww20 : World) (i13 : Int) (L14a : Option Addr) (L14n : Nat) (L14c : Nat) (Epoch15 : Int) (L16a : Option Addr) (L16n : Nat) (L16c : Nat) (Epoch17 : Int), I0 m19 [.int .i64 i13, .slice L14a L14n L14c, .int .i64 Epoch15, .slice L16a L16n L16c, .int .i64 Epoch17] ww20 →
  (i13 < (l1n : Int) →
    ∃ a23 : Addr, l1a = some a23 ∧
    0 ≤ (i13 : Int) ∧ (i13 : Int) < (l1n : Int) ∧
    ∃ (xKind25 : Int) (xWho26 : Int) (xPublic27 : Int) (xLimit28 : Int) (xWraps29a : Option Addr) (xWraps29n : Nat) (xWraps29c : Nat) (xOld30a : Option Addr) (xOld30n : Nat) (xOld30c : Nat), cellsAt ww20 (a23.add (Int.toNat i13 * 6)) [.int .i64 xKind25, .int .i64 xWho26, .int .u64 xPublic27, .int .i64 xLimit28, .slice xWraps29a xWraps29n xWraps29c, .slice xOld30a xOld30n xOld30c] 0 ∧
    ∀ (ww32 : World) (L31 : List Nat), Ext no ww20 ww32 → Priv ww20 ww32 L31 →
    Calls Try.prog 20 #[.agg #[.slice L16a L16n L16c, .int .i64 Epoch17], .agg #[.int .i64 xKind25, .int .i64 xWho26, .int .u64 xPublic27, .int .i64 xLimit28, .slice xWraps29a xWraps29n xWraps29c, .slice xOld30a xOld30n xOld30c]] ww32 fun ee36 ww37 => ∃ (L33a : Option Addr) (L33n : Nat) (L33c : Nat) (Epoch34 : Int) (apply35 : Int), ee36 = .returned (.tuple #[.agg #[.slice L33a L33n L33c, .int .i64 Epoch34], .int .i64 apply35]) ∧
    Keep L31 ww32 ww37 ∧
    Keep [p4, p12] ww32 ww37 ∧
    (apply35 ≠ 0 →
      ∀ (ww45 : World), Ext (fun b => b ∈ L31) ww37 ww45 →
      ∀ (ww44 : World), Ext (fun b => b = p4) ww45 ww44 →
      R (.tuple #[.agg #[.slice L16a L16n L16c, .int .i64 Epoch17], .int .i64 i13, .int .i64 apply35]) ww44) ∧
    (apply35 = 0 →
      ∀ (ww50 : World), Ext (fun b => b ∈ L31) ww37 ww50 →
      (-9223372036854775808 : Int) ≤ (i13 + 1) ∧ (i13 + 1) < 9223372036854775808 ∧
      ∀ (ww48 : World), Ext (fun b => b = p12) ww50 ww48 →
      ∃ m49, m49 < m19 ∧ I0 m49 [.int .i64 (i13 + 1), .slice L14a L14n L14c, .int .i64 Epoch15, .slice L33a L33n L33c, .int .i64 Epoch34] ww48)) ∧
  ((l1n : Int) ≤ i13 →
    ∀ (ww52 : World), Ext (fun b => b = p4) ww20 ww52 →
    R (.tuple #[.agg #[.slice L16a L16n L16c, .int .i64 Epoch17], .int .i64 (l1n : Int), .int .i64 0]) ww52)

theorem cachetteref12_Behind.up (l1a : Option Addr) (l1n : Nat) (l1c : Nat) (publicv2 : Int) {R : Value → World → Prop} {w : World} (h : cachetteref12_Behind.N l1a l1n l1c publicv2 R w) : cachetteref12_Behind.M l1a l1n l1c publicv2 R w := by
  unfold cachetteref12_Behind.M
  unfold cachetteref12_Behind.N at h
  refine thenW_in fun ww3 e3 => ?_
  have hb1 := Blk.of_new e3
  have hg1 := ((Ext.refl no w)).size
  have hx3 := (Ext.refl no w).x_alloc e3
  have h := h ww3 (w.heap.size) hx3 (Priv.cons hg1 hb1.lt Priv.nil)
  refine h.mono fun ee7 ww8 h => ?_
  obtain ⟨L5a, L5n, L5c, Epoch6, he, hk, h⟩ := h
  refine ⟨L5a, L5n, L5c, Epoch6, he, ?_⟩
  have hb1 := hk.blk hb1 (by simp)
  refine thenW_in fun ww9 e9 => ?_
  have hb2 := Blk.of_new e9
  have hg2 := ((Ext.refl no ww8)).size
  have hb1_2 := Nat.ne_of_lt hb1.lt
  have hb1 := hb1.x_alloc e9
  have hx9 := (Ext.refl no ww8).x_alloc e9
  refine ⟨hb2.cani 0 rfl rfl, thenW_in fun ww10 e10 => ?_⟩
  have hx10 := hx9.x_set (q := ww8.heap.size) (i := 0) rfl (.inr hg2) e10
  have hb1 := hb1.oth (q := ww8.heap.size) (i := 0) rfl hb1_2 e10
  have hb2 := hb2.seti 0 rfl e10
  refine ⟨hb2.cani 1 rfl rfl, thenW_in fun ww11 e11 => ?_⟩
  have hx11 := hx10.x_set (q := ww8.heap.size) (i := 1) rfl (.inr hg2) e11
  have hb1 := hb1.oth (q := ww8.heap.size) (i := 1) rfl hb1_2 e11
  have hb2 := hb2.seti 1 rfl e11
  have h := h ww11 (ww8.heap.size) hx11 (Priv.cons hg2 hb2.lt Priv.nil)
  obtain ⟨I0, m18, h0, h⟩ := h
  refine ⟨fun k vs ww => ∃ (L14a : Option Addr) (L14n : Nat) (L14c : Nat) (Epoch15 : Int) (L16a : Option Addr) (L16n : Nat) (L16c : Nat) (Epoch17 : Int), Blk ww w.heap.size 45 [.slice L14a L14n L14c, .int .i64 Epoch15] ∧ Blk ww ww8.heap.size 45 [.slice L16a L16n L16c, .int .i64 Epoch17] ∧ I0 k (vs ++ [.slice L14a L14n L14c, .int .i64 Epoch15, .slice L16a L16n L16c, .int .i64 Epoch17]) ww, m18, ⟨none, 0, 0, 0, L5a, L5n, L5c, Epoch6, hb1, hb2, h0⟩, fun m19 ww20 i13 hI => ?_⟩
  obtain ⟨L14a, L14n, L14c, Epoch15, L16a, L16n, L16c, Epoch17, hb1, hb2, hI⟩ := hI
  have h := h m19 ww20 i13 L14a L14n L14c Epoch15 L16a L16n L16c Epoch17 hI
  refine bif_of (fun c21 => ?_) (fun c21 => ?_)
  · have h := h.1 (of_decide_eq_true c21)
    refine thenW_in fun ww22 e22 => ?_
    have hx22 := (Ext.refl no ww20).x_drew e22
    have hb1 := hb1.x_drew e22
    have hb2 := hb2.x_drew e22
    refine ⟨L16a, L16n, L16c, Epoch17, ⟨hb2.celli 0 rfl rfl, hb2.celli 1 rfl rfl, trivial⟩, ?_⟩
    obtain ⟨a23, ha23, h⟩ := h
    refine elim_some ha23 ?_
    obtain ⟨hq1, hq2, h⟩ := h
    refine ⟨hq1, hq2, ?_⟩
    obtain ⟨xKind25, xWho26, xPublic27, xLimit28, xWraps29a, xWraps29n, xWraps29c, xOld30a, xOld30n, xOld30c, hc24, h⟩ := h
    refine ⟨xKind25, xWho26, xPublic27, xLimit28, xWraps29a, xWraps29n, xWraps29c, xOld30a, xOld30n, xOld30c, cellsAt_no (hx22) hc24, ?_⟩
    refine ⟨?_, ?_⟩
    · have h := h ww22 [] hx22 Priv.nil
      refine h.mono fun ee36 ww37 h => ?_
      obtain ⟨L33a, L33n, L33c, Epoch34, apply35, he, hkL, hk, h⟩ := h
      refine ⟨L33a, L33n, L33c, Epoch34, apply35, he, ?_⟩
      have hb1 := hk.blk hb1 (by simp)
      have hb2 := hk.blk hb2 (by simp)
      refine thenW_in fun ww38 e38 => ?_
      have hb3 := Blk.of_new e38
      have hg3 := ((Ext.refl (fun b => b ∈ ([] : List Nat)) ww37)).size
      have hb1_3 := Nat.ne_of_lt hb1.lt
      have hb1 := hb1.x_alloc e38
      have hb2_3 := Nat.ne_of_lt hb2.lt
      have hb2 := hb2.x_alloc e38
      have hx38 := (Ext.refl (fun b => b ∈ ([] : List Nat)) ww37).x_alloc e38
      refine ⟨hb3.cani 0 rfl rfl, thenW_in fun ww39 e39 => ?_⟩
      have hx39 := hx38.x_set (q := ww37.heap.size) (i := 0) rfl (.inr hg3) e39
      have hb1 := hb1.oth (q := ww37.heap.size) (i := 0) rfl hb1_3 e39
      have hb2 := hb2.oth (q := ww37.heap.size) (i := 0) rfl hb2_3 e39
      have hb3 := hb3.seti 0 rfl e39
      refine ⟨hb3.cani 1 rfl rfl, thenW_in fun ww40 e40 => ?_⟩
      have hx40 := hx39.x_set (q := ww37.heap.size) (i := 1) rfl (.inr hg3) e40
      have hb1 := hb1.oth (q := ww37.heap.size) (i := 1) rfl hb1_3 e40
      have hb2 := hb2.oth (q := ww37.heap.size) (i := 1) rfl hb2_3 e40
      have hb3 := hb3.seti 1 rfl e40
      refine bif_of (fun c41 => ?_) (fun c41 => ?_)
      · have h := h.1 (bne_t c41)
        refine ⟨L16a, L16n, L16c, Epoch17, ⟨hb2.celli 0 rfl rfl, hb2.celli 1 rfl rfl, trivial⟩, ?_⟩
        have h := h ww40 hx40
        have hm44 : Ext (fun b => b = w.heap.size) ww40 ww40 := ((Ext.refl no ww40)).none
        refine ⟨hb1.cani 0 rfl rfl, thenW_in fun ww43 e43 => ?_⟩
        have hx43 := hm44.x_set (q := w.heap.size) (i := 0) rfl (.inl rfl) e43
        have hb1 := hb1.seti 0 rfl e43
        refine ⟨hb1.cani 1 rfl rfl, thenW_in fun ww44 e44 => ?_⟩
        have hx44 := hx43.x_set (q := w.heap.size) (i := 1) rfl (.inl rfl) e44
        have hb1 := hb1.seti 1 rfl e44
        refine ⟨L16a, L16n, L16c, Epoch17, ⟨hb1.celli 0 rfl rfl, hb1.celli 1 rfl rfl, trivial⟩, ?_⟩
        have h := h ww44 hx44
        exact h
      · have h := h.2 (bne_f c41)
        refine ⟨L33a, L33n, L33c, Epoch34, ⟨hb3.celli 0 rfl rfl, hb3.celli 1 rfl rfl, trivial⟩, ?_⟩
        have h := h ww40 hx40
        have hm48 : Ext (fun b => b = ww8.heap.size) ww40 ww40 := ((Ext.refl no ww40)).none
        refine ⟨hb2.cani 0 rfl rfl, thenW_in fun ww47 e47 => ?_⟩
        have hx47 := hm48.x_set (q := ww8.heap.size) (i := 0) rfl (.inl rfl) e47
        have hb1 := hb1.oth (q := ww8.heap.size) (i := 0) rfl hb1_2 e47
        have hb2 := hb2.seti 0 rfl e47
        refine ⟨hb2.cani 1 rfl rfl, thenW_in fun ww48 e48 => ?_⟩
        have hx48 := hx47.x_set (q := ww8.heap.size) (i := 1) rfl (.inl rfl) e48
        have hb1 := hb1.oth (q := ww8.heap.size) (i := 1) rfl hb1_2 e48
        have hb2 := hb2.seti 1 rfl e48
        obtain ⟨hw1, hw2, h⟩ := h
        try rw [w64 hw1 hw2]
        have h := h ww48 hx48
        obtain ⟨m49, hk, h⟩ := h
        exact ⟨m49, hk, L14a, L14n, L14c, Epoch15, L33a, L33n, L33c, Epoch34, hb1, hb2, h⟩
    · refine thenW_in fun ww31 e31 => ?_
      have hb3 := Blk.of_new e31
      have hg3 := (hx22).size
      have hb1_3 := Nat.ne_of_lt hb1.lt
      have hb1 := hb1.x_alloc e31
      have hb2_3 := Nat.ne_of_lt hb2.lt
      have hb2 := hb2.x_alloc e31
      have hx31 := hx22.x_alloc e31
      refine ⟨cellsAt_no (hx31) hc24, ⟨hb2.celli 0 rfl rfl, hb2.celli 1 rfl rfl, trivial⟩, ?_⟩
      have h := h ww31 [ww22.heap.size] hx31 (Priv.cons hg3 hb3.lt Priv.nil)
      refine h.mono fun ee37 ww38 h => ?_
      obtain ⟨L34a, L34n, L34c, Epoch35, apply36, he, hkL, hk, h⟩ := h
      refine ⟨L34a, L34n, L34c, Epoch35, apply36, he, ?_⟩
      have hb3 := hkL.blk hb3 (by simp)
      have hb1 := hk.blk hb1 (by simp)
      have hb2 := hk.blk hb2 (by simp)
      refine ⟨hb3.cani 0 rfl rfl, thenW_in fun ww39 e39 => ?_⟩
      have hx39 := (Ext.refl (fun b => b ∈ ([ww22.heap.size] : List Nat)) ww38).x_set (q := ww22.heap.size) (i := 0) rfl (.inl (by simp)) e39
      have hb1 := hb1.oth (q := ww22.heap.size) (i := 0) rfl hb1_3 e39
      have hb2 := hb2.oth (q := ww22.heap.size) (i := 0) rfl hb2_3 e39
      have hb3 := hb3.seti 0 rfl e39
      refine ⟨hb3.cani 1 rfl rfl, thenW_in fun ww40 e40 => ?_⟩
      have hx40 := hx39.x_set (q := ww22.heap.size) (i := 1) rfl (.inl (by simp)) e40
      have hb1 := hb1.oth (q := ww22.heap.size) (i := 1) rfl hb1_3 e40
      have hb2 := hb2.oth (q := ww22.heap.size) (i := 1) rfl hb2_3 e40
      have hb3 := hb3.seti 1 rfl e40
      refine bif_of (fun c41 => ?_) (fun c41 => ?_)
      · have h := h.1 (bne_t c41)
        refine ⟨L16a, L16n, L16c, Epoch17, ⟨hb2.celli 0 rfl rfl, hb2.celli 1 rfl rfl, trivial⟩, ?_⟩
        have h := h ww40 hx40
        have hm44 : Ext (fun b => b = w.heap.size) ww40 ww40 := ((Ext.refl no ww40)).none
        refine ⟨hb1.cani 0 rfl rfl, thenW_in fun ww43 e43 => ?_⟩
        have hx43 := hm44.x_set (q := w.heap.size) (i := 0) rfl (.inl rfl) e43
        have hb1 := hb1.seti 0 rfl e43
        refine ⟨hb1.cani 1 rfl rfl, thenW_in fun ww44 e44 => ?_⟩
        have hx44 := hx43.x_set (q := w.heap.size) (i := 1) rfl (.inl rfl) e44
        have hb1 := hb1.seti 1 rfl e44
        refine ⟨L16a, L16n, L16c, Epoch17, ⟨hb1.celli 0 rfl rfl, hb1.celli 1 rfl rfl, trivial⟩, ?_⟩
        have h := h ww44 hx44
        exact h
      · have h := h.2 (bne_f c41)
        refine ⟨L34a, L34n, L34c, Epoch35, ⟨hb3.celli 0 rfl rfl, hb3.celli 1 rfl rfl, trivial⟩, ?_⟩
        have h := h ww40 hx40
        have hm48 : Ext (fun b => b = ww8.heap.size) ww40 ww40 := ((Ext.refl no ww40)).none
        refine ⟨hb2.cani 0 rfl rfl, thenW_in fun ww47 e47 => ?_⟩
        have hx47 := hm48.x_set (q := ww8.heap.size) (i := 0) rfl (.inl rfl) e47
        have hb1 := hb1.oth (q := ww8.heap.size) (i := 0) rfl hb1_2 e47
        have hb2 := hb2.seti 0 rfl e47
        refine ⟨hb2.cani 1 rfl rfl, thenW_in fun ww48 e48 => ?_⟩
        have hx48 := hx47.x_set (q := ww8.heap.size) (i := 1) rfl (.inl rfl) e48
        have hb1 := hb1.oth (q := ww8.heap.size) (i := 1) rfl hb1_2 e48
        have hb2 := hb2.seti 1 rfl e48
        obtain ⟨hw1, hw2, h⟩ := h
        try rw [w64 hw1 hw2]
        have h := h ww48 hx48
        obtain ⟨m49, hk, h⟩ := h
        exact ⟨m49, hk, L14a, L14n, L14c, Epoch15, L34a, L34n, L34c, Epoch35, hb1, hb2, h⟩
  · have h := h.2 (Int.not_lt.1 (of_decide_eq_false c21))
    refine ⟨L16a, L16n, L16c, Epoch17, ⟨hb2.celli 0 rfl rfl, hb2.celli 1 rfl rfl, trivial⟩, ?_⟩
    have hm52 : Ext (fun b => b = w.heap.size) ww20 ww20 := ((Ext.refl no ww20)).none
    refine ⟨hb1.cani 0 rfl rfl, thenW_in fun ww51 e51 => ?_⟩
    have hx51 := hm52.x_set (q := w.heap.size) (i := 0) rfl (.inl rfl) e51
    have hb1 := hb1.seti 0 rfl e51
    refine ⟨hb1.cani 1 rfl rfl, thenW_in fun ww52 e52 => ?_⟩
    have hx52 := hx51.x_set (q := w.heap.size) (i := 1) rfl (.inl rfl) e52
    have hb1 := hb1.seti 1 rfl e52
    refine ⟨L16a, L16n, L16c, Epoch17, ⟨hb1.celli 0 rfl rfl, hb1.celli 1 rfl rfl, trivial⟩, ?_⟩
    have h := h ww52 hx52
    exact h

theorem cachetteref12_Behind.go (l1a : Option Addr) (l1n : Nat) (l1c : Nat) (publicv2 : Int) {R : Value → World → Prop} {w : World} (h : cachetteref12_Behind.N l1a l1n l1c publicv2 R w) : Calls Try.prog 25 #[.slice l1a l1n l1c, .int .u64 publicv2] w fun e w' => ∃ v, e = .returned v ∧ R v w' := cachetteref12_Behind.ok l1a l1n l1c publicv2 (cachetteref12_Behind.up l1a l1n l1c publicv2 h)
theorem cachetteref12_Behind.run (l1a : Option Addr) (l1n : Nat) (l1c : Nat) (publicv2 : Int) {V : Value} {Q : World → Prop} {w : World} (h : cachetteref12_Behind.N l1a l1n l1c publicv2 (fun v w' => v = V ∧ Q w') w) : Calls Try.prog 25 #[.slice l1a l1n l1c, .int .u64 publicv2] w (Ret V Q) := (cachetteref12_Behind.go l1a l1n l1c publicv2 h).mono fun e w' ⟨v, he, hv, hq⟩ => ⟨by rw [he, hv], hq⟩

end Go.Proofs.Ytmhfoieeldiecaa

/- MembersKeeps. -/
set_option linter.unusedVariables false
set_option linter.unusedSimpArgs false
set_option maxRecDepth 20000
set_option maxHeartbeats 2000000
namespace Go.Proofs.Ytmhfoieeldiecaa
open Go Go.Mx Go.Proofs
open W (OwnB)
abbrev RRw (N : Nat) (w : World) (o : Own) (a : Option Addr) (c : Nat) (ml : List Mem) : Prop := LRow 52 5 N w o a ml.length c (ml.flatMap Mem.C)
section
variable {w w' w1 : World} {o o' o1 : Own} {a b : Option Addr} {c d N : Nat} {s t : MS} {m : Mem} {cg : Chg} {ml : List Mem}
theorem RRw.push (h : RRw N w o a c ml) (ok : Tags w o) (hl : ml.length < 1000000) (m : Mem) {q : Nat} (hb : Blk w q 52 m.C) (hq : N ≤ q) (hq' : q < w.heap.size) :
    ∃ a' n' c' w' o', (Builtin.append_ #[43, 43] 43 #[.slice a ml.length c, .slice (some (blk q)) 1 1]).run Try.prog w = .ok (.slice a' n' c') w' ∧ n' = (ml ++ [m]).length ∧ Step (fun j => N ≤ j) w o w' o' ∧ RRw N w' o' a' c' (ml ++ [m]) := by
  obtain ⟨i, hi, hz, hsz, hby⟩ := info_of inf52
  obtain ⟨a', c', w', o', hrun, s2, hrow, _⟩ := LRow.push (ty := 43) Try.underlying43 hi hz hsz hby rfl (by decide) h ok hq hq' (xa := some (blk q)) (m := 1) (xc := 1) (news := m.C) rfl (RowAt.of_blk hb) m.one (by omega) (by omega)
  exact ⟨a', _, c', w', o', hrun, by simp, s2, by unfold RRw; rw [List.length_append, List.flatMap_append]; simpa using hrow⟩
end
end Go.Proofs.Ytmhfoieeldiecaa

/- Members: the reference's functions. -/
set_option linter.unusedVariables false
set_option linter.unusedSimpArgs false
set_option maxRecDepth 20000
set_option maxHeartbeats 4000000
namespace Go.Proofs.Ytmhfoieeldiecaa
open Go Go.Mx Go.Proofs
open W (OwnB)
def putGo (m : Mem) : List Mem → Bool → List Mem
  | [], inb => if inb then [] else [m]
  | x :: r, inb => (if inb = false ∧ m.who ≤ x.who then [m] else []) ++ (if x.who = m.who then [] else [x]) ++ putGo m r (inb || decide (m.who ≤ x.who))
def putR (l : List Mem) (m : Mem) : List Mem := putGo m l false
section
variable {w w' w1 : World} {o o' o1 : Own} {a b : Option Addr} {c d N : Nat} {s t : MS} {m : Mem} {cg : Chg} {ml : List Mem} {l : List Wr} {wa oa : Option Addr} {wc oc : Nat}
theorem putGo_true (m : Mem) : ∀ l : List Mem, putGo m l true = l.filter fun x => decide (x.who ≠ m.who)
  | [] => rfl
  | x :: r => by
    simp only [putGo, Bool.true_or, putGo_true m r, List.filter_cons]
    by_cases h : x.who = m.who <;> simp [h]
theorem putGo_false (m : Mem) : ∀ l : List Mem, putGo m l false = l.take (findI l m.who) ++ m :: (l.drop (findI l m.who)).filter fun x => decide (x.who ≠ m.who)
  | [] => rfl
  | x :: r => by
    by_cases h : x.who < m.who
    · have e : findI (x :: r) m.who = findI r m.who + 1 := by unfold findI; rw [List.takeWhile_cons, if_pos (by simpa using h)]; rfl
      have h1 : ¬ m.who ≤ x.who := by omega
      have h2 : x.who ≠ m.who := by omega
      rw [e]
      simp [putGo, h1, h2, putGo_false m r]
    · have e : findI (x :: r) m.who = 0 := by unfold findI; rw [List.takeWhile_cons, if_neg (by simpa using h)]; rfl
      have h1 : m.who ≤ x.who := by omega
      rw [e]
      simp only [putGo, h1, and_self, if_true, List.take_zero, List.nil_append, List.drop_zero, decide_true, Bool.or_true, putGo_true, List.filter_cons, List.singleton_append]
      by_cases h2 : x.who = m.who <;> simp [h2]
theorem putR_new (hs : Sorted ml) (h : isAt ml m.who = false) : putR ml m = ml.take (findI ml m.who) ++ m :: ml.drop (findI ml m.who) := by
  unfold putR
  rw [putGo_false, List.filter_eq_self.2]
  intro x hx
  obtain ⟨j, hj⟩ := List.getElem?_of_mem hx
  rw [List.getElem?_drop] at hj
  have hlt : findI ml m.who < ml.length := by have := (List.getElem?_eq_some_iff.1 hj).1; omega
  have hg : ml[findI ml m.who]? = some ml[findI ml m.who] := List.getElem?_eq_getElem hlt
  have h1 := findI_at hg
  have h2 : m.who ≠ (ml[findI ml m.who]).who := fun e => by
    unfold isAt at h; rw [hg] at h; exact of_decide_eq_false h e.symm
  rcases Nat.eq_zero_or_pos j with rfl | hp
  · rw [Nat.add_zero, hg] at hj; cases hj; simp; omega
  · have := hs.get hg hj (by omega); simp; omega
theorem putR_old (hs : Sorted ml) {x : Mem} (hx : ml[findI ml m.who]? = some x) (hw : x.who = m.who) : putR ml m = ml.set (findI ml m.who) m := by
  have hlt := (List.getElem?_eq_some_iff.1 hx).1
  unfold putR
  rw [putGo_false, List.set_eq_take_append_cons_drop, if_pos hlt]
  congr 2
  rw [List.drop_eq_getElem_cons hlt]
  have e : ml[findI ml m.who] = x := (List.getElem?_eq_some_iff.1 hx).2
  rw [e, List.filter_cons, if_neg (by simpa using hw), List.filter_eq_self.2]
  intro y hy
  obtain ⟨j, hj⟩ := List.getElem?_of_mem hy
  rw [List.getElem?_drop] at hj
  have := hs.get hx hj (by omega)
  simp; omega
theorem who_F (x : Int) : cachetteref12_who.F x = decide (0 ≤ x ∧ x < 8) := by
  unfold cachetteref12_who.F
  by_cases h : x ≥ 0
  · rw [if_pos h]
    by_cases h2 : x < 8 <;> simp [h2] <;> omega
  · rw [if_neg h]
    rw [eq_comm, decide_eq_false_iff_not]; omega
theorem rNew_spec (ok : Tags w o) (p : Int) : Calls Try.prog 19 #[.int .u64 p] w (fun x w' => ∃ o' a' c', x = .returned (.agg #[.slice a' (newM p).ml.length c', .int .i64 (newM p).ep]) ∧ Step no w o w' o' ∧ Row w' o' a' ((newM p).ml.flatMap Mem.C) ∧ (newM p).ml.length ≤ c') := by
  refine (cachetteref12_New.go p (R := fun v w' => ∃ o' a' c', v = (.agg #[.slice a' (newM p).ml.length c', .int .i64 (newM p).ep]) ∧ Step no w o w' o' ∧ Row w' o' a' ((newM p).ml.flatMap Mem.C) ∧ (newM p).ml.length ≤ c') ?_).mono fun x w' ⟨v, he, o', a', c', hv, hw⟩ => ⟨o', a', c', by rw [he, hv], hw⟩
  unfold cachetteref12_New.N
  intro w3 q4 p5 X3 hb hq hq' hp w7 X7
  have s3 := (Step.of_no X3 ok).tag (p := p5) (j := p5) (hp p5 (by simp)).1 (by have := (hp p5 (by simp)).2; omega)
  have h5 := hp p5 (by simp)
  have M3 : Mine [p5] w3 (tag (grow w o) p5 p5) := fun p hp' => by rw [show p = p5 by simpa using hp']; exact ⟨by omega, tag_self⟩
  have s7 := Step.stores X7 s3.ok M3 (by simp)
  have r3 : Row w3 (tag (grow w o) p5 p5) (some (blk q4)) ((newM p).ml.flatMap Mem.C) := ⟨RowAt.of_blk hb, fun _ ad ha => by cases ha; rw [tag_ne (by show q4 ≠ p5; omega)]; exact grow_ge hq⟩
  exact ⟨_, some (blk q4), 1, rfl, s3.trans' s7 fun i hi => .inr (by simp at hi; omega), r3.step s7, Nat.le_refl _⟩
theorem rFind_spec (hr : Row w o a (ml.flatMap Mem.C)) (ok : Tags w o) (hs : Sorted ml) (hl : ml.length < 1000000) (ep x : Int) :
    Calls Try.prog 21 #[.agg #[.slice a ml.length c, .int .i64 ep], .int .i64 x] w (Ret (.tuple #[(findM ml x).1.V, .bool (findM ml x).2]) fun w' => ∃ o', Step no w o w' o') := by
  refine cachetteref12_Find.run a ml.length c ep x ?_
  unfold cachetteref12_Find.N
  intro w5 p7 X5 hp
  obtain ⟨s5, M5⟩ := Step.priv X5 hp ok
  have g : w.heap.size ≤ p7 := (hp p7 (by simp)).1
  refine ⟨fun m vs w1 => ∃ (t : Nat), vs = [.int .i64 t, .int .i64 0, .int .u64 0, .int .i64 0, .int .i64 0, .int .i64 0] ∧ m + t = ml.length ∧ w1 = w5 ∧ ∀ y ∈ ml.take t, y.who ≠ x, ml.length, ⟨0, rfl, rfl, rfl, by simp⟩, ?_⟩
  rintro m w1 i0 k1 k2 k3 k4 k5 ⟨t, hi, hm, rfl, hno⟩
  simp only [List.cons.injEq, Value.int.injEq, true_and, and_true] at hi
  obtain ⟨rfl, rfl, rfl, rfl, rfl, rfl⟩ := hi
  refine ⟨fun ht => ?_, fun ht w38 X38 => ?_⟩
  · have htl : t < ml.length := by omega
    have hg : ml[t]? = some ml[t] := List.getElem?_eq_getElem htl
    have hym := List.getElem_mem htl
    have htk : ml.take (t + 1) = ml.take t ++ [ml[t]] := by rw [List.take_add_one, hg]; rfl
    generalize ml[t] = y at *
    have hr5 := hr.step s5
    obtain ⟨ad, rfl⟩ := hr.1.faddr Mem.len (by decide) htl
    refine ⟨ad, rfl, by omega, by omega, y.who, by rw [Int.toNat_natCast]; exact hr5.1.fcell Mem.len hg 0 rfl, fun he => ⟨by omega, by omega, y.who, y.pub, y.fr, y.to_, y.lim, by rw [Int.toNat_natCast]; exact hr5.1.floads Mem.len hg, fun w32 X32 => ?_⟩, fun hne => ⟨by omega, by omega, m - 1, by omega, t + 1, rfl, by omega, rfl, fun z hz => ?_⟩⟩
    · have s32 := Step.stores X32 s5.ok M5 (by simp)
      have hF : findM ml x = (y, true) := by rw [← he]; exact findM_some hs hym
      rw [hF]
      exact ⟨rfl, _, s5.trans' s32 fun i hi => .inr (by simp at hi; omega)⟩
    · rw [htk] at hz
      rcases List.mem_append.1 hz with hz | hz
      · exact hno z hz
      · simp at hz; subst hz; exact hne
  · have s38 := Step.stores X38 s5.ok M5 (by simp)
    have : t = ml.length := by omega
    subst this
    rw [List.take_length] at hno
    have hF : findM ml x = (Mem.z, false) := by
      unfold findM
      rw [if_neg]
      intro h
      obtain ⟨y, hy, hw⟩ := isAt_some h
      exact hno y (List.mem_of_getElem? hy) hw
    rw [hF]
    exact ⟨rfl, _, s5.trans' s38 fun i hi => .inr (by simp at hi; omega)⟩
theorem rMay_spec (hr : Row w o a (s.ml.flatMap Mem.C)) (ok : Tags w o) (hs : Sorted s.ml) (hl : s.ml.length < 1000000) (who index epoch : Int) :
    Calls Try.prog 26 #[.agg #[.slice a s.ml.length c, .int .i64 s.ep], .int .i64 who, .int .i64 index, .int .i64 epoch] w (Ret (.int .i64 (mayM s who index epoch)) fun w' => ∃ o', Step no w o w' o') := by
  refine cachetteref12_May.run a s.ml.length c s.ep who index epoch ?_
  unfold cachetteref12_May.N
  intro w6 p7 X6 hp
  obtain ⟨s6, M6⟩ := Step.priv X6 hp ok
  refine (rFind_spec (hr.step s6) s6.ok hs hl s.ep who).mono fun e w15 ⟨he, o15, s15'⟩ => ⟨_, _, _, _, _, _, he, M6.keep s15' fun _ _ => id, ?_⟩
  have s15 := s6.trans s15'
  have fin : ∀ {w21 : World} {v : Int}, Ext no w15 w21 → v = mayM s who index epoch → Value.int .i64 v = .int .i64 (mayM s who index epoch) ∧ ∃ o', Step no w o w21 o' := fun X h => ⟨by rw [h], _, s15.trans (Step.of_no X s15.ok)⟩
  unfold mayM at fin ⊢
  generalize findM s.ml who = F at *
  obtain ⟨m, is⟩ := F
  simp only [] at fin ⊢
  refine ⟨fun h w21 X => fin X (by rw [h]; rfl), fun h => ?_⟩
  rw [if_pos h] at fin
  rw [if_pos h]
  refine ⟨fun h1 => ⟨fun h2 w21 X => fin X (by rw [if_pos ⟨h1, h2⟩]), fun h2 => ?_⟩, fun h1 => ?_⟩
  · rw [if_neg (fun h => h2 h.2)] at fin ⊢
    refine ⟨fun h3 w21 X => fin X (by rw [if_pos h3]), fun h3 => ⟨fun h4 w21 X => fin X ?_, fun h4 => ⟨fun h4' w21 X => fin X ?_, fun h4' => ⟨fun h5 => ⟨fun h6 w21 X => fin X ?_, fun h6 => ⟨fun h7 w21 X => fin X ?_, fun h7 w21 X => fin X ?_⟩⟩, fun h5 w21 X => fin X ?_⟩⟩⟩⟩
    all_goals rw [if_neg (by omega)]
    · rw [if_pos (by split <;> omega)]
    · rw [if_pos (by split <;> omega)]
    all_goals rw [if_neg (by split <;> omega)]
    · rw [if_pos ⟨h5, .inl h6⟩]
    · rw [if_pos ⟨h5, .inr h7⟩]
    · rw [if_neg (by omega)]
    · rw [if_neg (fun h => h.1 h5)]
  · rw [if_neg (fun h => h1 h.1)] at fin ⊢
    refine ⟨fun h3 w21 X => fin X (by rw [if_pos h3]), fun h3 => ⟨fun h4 w21 X => fin X ?_, fun h4 => ⟨fun h4' w21 X => fin X ?_, fun h4' => ⟨fun h5 => ⟨fun h6 w21 X => fin X ?_, fun h6 => ⟨fun h7 w21 X => fin X ?_, fun h7 w21 X => fin X ?_⟩⟩, fun h5 w21 X => fin X ?_⟩⟩⟩⟩
    all_goals rw [if_neg (by omega)]
    · rw [if_pos (by split <;> omega)]
    · rw [if_pos (by split <;> omega)]
    all_goals rw [if_neg (by split <;> omega)]
    · rw [if_pos ⟨h5, .inl h6⟩]
    · rw [if_pos ⟨h5, .inr h7⟩]
    · rw [if_neg (by omega)]
    · rw [if_neg (fun h => h.1 h5)]
theorem rNow_spec (hr : Row w o a (ml.flatMap Mem.C)) (ok : Tags w o) (hl : ml.length < 1000) (ep : Int) :
    Calls Try.prog 23 #[.agg #[.slice a ml.length c, .int .i64 ep]] w (fun x w' => ∃ o' a' c', x = .returned (.slice a' (nowM ml).length c') ∧ Step no w o w' o' ∧ Row w' o' a' ((nowM ml).flatMap Mem.C) ∧ (nowM ml).length ≤ c') := by
  refine (cachetteref12_Now.go a ml.length c ep (R := fun v w' => ∃ o' a' c', v = (.slice a' (nowM ml).length c') ∧ Step no w o w' o' ∧ Row w' o' a' ((nowM ml).flatMap Mem.C) ∧ (nowM ml).length ≤ c') ?_).mono fun x w' ⟨v, he, o', a', c', hv, hw⟩ => ⟨o', a', c', by rw [he, hv], hw⟩
  unfold cachetteref12_Now.N
  intro w3 p4 X3 hp
  obtain ⟨s3, M3⟩ := Step.priv X3 hp ok
  have g4 := hp p4 (by simp)
  refine ⟨fun m vs w1 => ∃ (t : Nat) (a1 : Option Addr) (c1 : Nat) (o1 : Own), vs = [.slice a1 (nowM (ml.take t)).length c1, .int .i64 t] ∧ m + t = ml.length ∧ Step no w o w1 o1 ∧ Mine [p4] w1 o1 ∧ w3.heap.size ≤ w1.heap.size ∧ RRw w3.heap.size w1 o1 a1 c1 (nowM (ml.take t)), ml.length, ⟨0, none, 0, _, rfl, rfl, s3, M3, Nat.le_refl _, LRow.nil _ _ _ _ _⟩, ?_⟩
  rintro m w1 ra rn rc i ⟨t, a1, c1, o1, hi, hm, s1, M1, hsz, r1⟩
  simp only [List.cons.injEq, Value.slice.injEq, Value.int.injEq, true_and, and_true] at hi
  obtain ⟨⟨rfl, rfl, rfl⟩, rfl⟩ := hi
  refine ⟨fun ht => ?_, fun ht => ?_⟩
  · have htl : t < ml.length := by omega
    have hg : ml[t]? = some ml[t] := List.getElem?_eq_getElem htl
    have htk : ml.take (t + 1) = ml.take t ++ [ml[t]] := by rw [List.take_add_one, hg]; rfl
    generalize ml[t] = x at *
    obtain ⟨ad, rfl⟩ := hr.1.faddr Mem.len (by decide) htl
    refine ⟨ad, rfl, by omega, by omega, x.to_, by rw [Int.toNat_natCast]; exact (hr.step s1).1.fcell Mem.len hg 3 rfl, fun hto => ⟨by omega, by omega, x.who, x.pub, x.fr, x.to_, x.lim, by rw [Int.toNat_natCast]; exact (hr.step s1).1.floads Mem.len hg, fun w25 q26 X25 hb hq hq' => ?_⟩, fun hto => ⟨by omega, by omega, ?_⟩⟩
    · have s25 := Step.of_no X25 s1.ok
      have r25 : RRw w3.heap.size w25 _ ra rc (nowM (ml.take t)) := LRow.step r1 s25 fun k h => h.elim
      have hln : (nowM (ml.take t)).length < 1000000 := by
        have h1 : (nowM (ml.take t)).length ≤ (ml.take t).length := List.length_filter_le _ _
        rw [List.length_take] at h1; omega
      obtain ⟨a', n', c', w', o', hrun, hn', s2, hrow⟩ := r25.push s25.ok hln x hb (by omega) hq'
      have hnw : nowM (ml.take (t + 1)) = nowM (ml.take t) ++ [x] := by rw [htk]; unfold nowM; rw [List.filter_append]; simp [hto]
      have hs3 := s3.size
      refine ⟨a', n', c', w', hrun, (M1.step s25).keep s2 (fun p hp' => by simp at hp'; omega), by omega, by omega, m - 1, by omega, t + 1, a', c', o', by rw [hn', hnw]; rfl, by omega, (s1.trans s25).trans' s2 fun i hi => .inr (by omega), (M1.step s25).step s2, Nat.le_trans hsz (Nat.le_trans X25.size s2.size), by rw [hnw]; exact hrow⟩
    · have hnw : nowM (ml.take (t + 1)) = nowM (ml.take t) := by rw [htk]; unfold nowM; rw [List.filter_append]; simp [hto]
      exact ⟨m - 1, by omega, t + 1, ra, rc, _, by rw [hnw]; simp, by omega, s1, M1, hsz, by rw [hnw]; exact r1⟩
  · have : t = ml.length := by omega
    subst this
    rw [List.take_length] at r1 ⊢
    exact ⟨_, ra, rc, rfl, noStep (K := no) s1, r1.give s1 s3.size, r1.le⟩
theorem put_spec (hr : Row w o a (ml.flatMap Mem.C)) (ok : Tags w o) (hl : ml.length < 1000) (ep : Int) (m : Mem) :
    Calls Try.prog 40 #[.agg #[.slice a ml.length c, .int .i64 ep], m.V] w (fun x w' => ∃ o' a' c', x = .returned (.agg #[.slice a' (putR ml m).length c', .int .i64 ep]) ∧ Step no w o w' o' ∧ Row w' o' a' ((putR ml m).flatMap Mem.C) ∧ (putR ml m).length ≤ c') := by
  refine (cachetteref12_put.go a ml.length c ep m.who m.pub m.fr m.to_ m.lim (R := fun v w' => ∃ o' a' c', v = (.agg #[.slice a' (putR ml m).length c', .int .i64 ep]) ∧ Step no w o w' o' ∧ Row w' o' a' ((putR ml m).flatMap Mem.C) ∧ (putR ml m).length ≤ c') ?_).mono fun x w' ⟨v, he, o', a', c', hv, hw⟩ => ⟨o', a', c', by rw [he, hv], hw⟩
  unfold cachetteref12_put.N
  intro w13 p14 p15 p16 p17 X13 hp
  obtain ⟨s13, M13⟩ := Step.priv X13 hp ok
  have g : ∀ p ∈ [p14, p15, p16, p17], w.heap.size ≤ p := fun p h => (hp p h).1
  have hM : ∀ p ∈ [p14, p15, p16, p17], p < w13.heap.size := fun p h => M13.lt h
  have hs13 := s13.size
  refine ⟨fun k vs w1 => ∃ (inb : Bool) (t : Nat) (a1 : Option Addr) (c1 : Nat) (out : List Mem) (o1 : Own), vs = [.bool inb, .int .i64 t, .slice none 0 0, .int .i64 0, .slice a1 out.length c1, .int .i64 ep] ∧ k + t = ml.length ∧ Step no w o w1 o1 ∧ Mine [p14, p15, p16, p17] w1 o1 ∧ w13.heap.size ≤ w1.heap.size ∧ RRw w13.heap.size w1 o1 a1 c1 out ∧ out ++ putGo m (ml.drop t) inb = putR ml m ∧ out.length ≤ 2 * t, ml.length, ⟨false, 0, none, 0, [], _, rfl, rfl, s13, M13, Nat.le_refl _, LRow.nil _ _ _ _ _, rfl, Nat.le_refl _⟩, ?_⟩
  intro k w26 inb0 i0 k5a k5n k5c k6 k11a k11n k11c k12 hI
  obtain ⟨inb, t, a1, c1, out, o1, hi, hk, s1, M1, hsz, r1, hout, hol⟩ := hI
  simp only [List.cons.injEq, Value.slice.injEq, Value.int.injEq, Value.bool.injEq, true_and, and_true] at hi
  obtain ⟨rfl, rfl, ⟨rfl, rfl, rfl⟩, rfl, ⟨rfl, rfl, rfl⟩, rfl⟩ := hi
  -- one more
  have psh : ∀ {wz : World} {oz : Own} {az : Option Addr} {cz : Nat} {outz : List Mem} (x : Mem) {wy : World} {q : Nat}, Step no w o wz oz → Mine [p14, p15, p16, p17] wz oz → w13.heap.size ≤ wz.heap.size → RRw w13.heap.size wz oz az cz outz → outz.length < 1000000 → Ext no wz wy → Blk wy q 52 x.C → wz.heap.size ≤ q → q < wy.heap.size →
      ∃ a' n' c' w' o', (Builtin.append_ #[43, 43] 43 #[.slice az outz.length cz, .slice (some (blk q)) 1 1]).run Try.prog wy = .ok (.slice a' n' c') w' ∧ n' = (outz ++ [x]).length ∧ (∀ L, (∀ p ∈ L, p ∈ [p14, p15, p16, p17]) → Keep L wy w') ∧ Step no w o w' o' ∧ Mine [p14, p15, p16, p17] w' o' ∧ w13.heap.size ≤ w'.heap.size ∧ RRw w13.heap.size w' o' a' c' (outz ++ [x]) := by
    intro wz oz az cz outz x wy q sz Mz hz rz hoz X hb hq hq'
    have sy := Step.of_no X sz.ok
    have ry : RRw w13.heap.size wy _ az cz outz := LRow.step rz sy fun k h => h.elim
    obtain ⟨a', n', c', w', o', hrun, hn', s2, hrow⟩ := ry.push sy.ok hoz x hb (by omega) hq'
    refine ⟨a', n', c', w', o', hrun, hn', fun L hL => ((Mz.step sy).sub hL).keep s2 (fun p hp' => by have := hM p (hL p hp'); omega), (sz.trans sy).trans' s2 fun i hi => .inr (by omega), (Mz.step sy).step s2, Nat.le_trans hz (Nat.le_trans X.size s2.size), hrow⟩
  -- a store into a block of one's own
  have sto : ∀ {wz wy : World} {oz : Own} {az : Option Addr} {cz : Nat} {outz : List Mem} {mm : Nat → Prop}, (∀ b, mm b → b ∈ [p14, p15, p16, p17]) → Step no w o wz oz → Mine [p14, p15, p16, p17] wz oz → w13.heap.size ≤ wz.heap.size → RRw w13.heap.size wz oz az cz outz → Ext mm wz wy → ∃ oy, Step no w o wy oy ∧ Mine [p14, p15, p16, p17] wy oy ∧ w13.heap.size ≤ wy.heap.size ∧ RRw w13.heap.size wy oy az cz outz := by
    intro wz wy oz az cz outz mm hmm sz Mz hz rz X
    have s2 := Step.stores X sz.ok Mz hmm
    exact ⟨_, sz.trans' s2 fun i hi => .inr (g i hi), Mz.step s2, Nat.le_trans hz s2.size, LRow.step rz s2 fun k hk => .inl (hM k hk)⟩
  refine ⟨fun ht => ?_, fun ht => ?_⟩
  · have htl : t < ml.length := by omega
    have hg : ml[t]? = some ml[t] := List.getElem?_eq_getElem htl
    have hdrop := List.drop_eq_getElem_cons htl
    rw [hdrop] at hout
    generalize ml[t] = x at *
    obtain ⟨ad, rfl⟩ := hr.1.faddr Mem.len (by decide) htl
    have c0 : ∀ {wz : World} {oz : Own}, Step no w o wz oz → wz.cell? ((ad.add (Int.toNat (t : Int) * 5)).add 0) = some (.int .i64 x.who) := fun sz => by rw [Int.toNat_natCast]; exact (hr.step sz).1.fcell Mem.len hg 0 rfl
    have ld : ∀ {wz : World} {oz : Own}, Step no w o wz oz → cellsAt wz (ad.add (Int.toNat (t : Int) * 5)) [.int .i64 x.who, .int .u64 x.pub, .int .i64 x.fr, .int .i64 x.to_, .int .i64 x.lim] 0 := fun sz => by rw [Int.toNat_natCast]; exact (hr.step sz).1.floads Mem.len hg
    refine ⟨fun hin => ⟨ad, rfl, by omega, by omega, x.who, c0 s1, fun hge w34 q35 X34 hb hq hq' => ?_, fun hlt => ⟨by omega, by omega, x.who, c0 s1, fun hne => ⟨by omega, by omega, x.who, x.pub, x.fr, x.to_, x.lim, ld s1, fun w34 q35 X34 hb hq hq' => ?_⟩, fun h => by omega⟩⟩, fun hin => ⟨ad, rfl, by omega, by omega, x.who, c0 s1, fun hne => ⟨by omega, by omega, x.who, x.pub, x.fr, x.to_, x.lim, ld s1, fun w34 q35 X34 hb hq hq' => ?_⟩, fun he => ⟨by omega, by omega, fun w75 X75 => ?_⟩⟩⟩
    · obtain ⟨a', n', c', w37, o37, hrun, hn', hkp, s37, M37, z37, r37⟩ := psh m s1 M1 hsz r1 (by omega) X34 hb hq hq'
      refine ⟨a', n', c', w37, hrun, hkp _ (fun p h => h), by omega, by omega, fun w39 X39 => ?_⟩
      obtain ⟨o39, s39, M39, z39, r39⟩ := sto (by simp) s37 M37 z37 r37 X39
      have hstep : out ++ [m] ++ (if x.who = m.who then [] else [x]) ++ putGo m (ml.drop (t + 1)) true = putR ml m := by
        rw [← hout, hin]; simp only [putGo, show m.who ≤ x.who by omega, and_self, if_true, decide_true, Bool.or_true, List.append_assoc]
      refine ⟨x.who, c0 s39, fun hne => ⟨by omega, by omega, x.who, x.pub, x.fr, x.to_, x.lim, ld s39, fun w50 q51 X50 hb2 hq2 hq2' => ?_⟩, fun he => ⟨by omega, by omega, k - 1, by omega, true, t + 1, a', c', out ++ [m], o39, by rw [hn']; rfl, by omega, s39, M39, z39, r39, ?_, by simp; omega⟩⟩
      · rw [hn']
        obtain ⟨a2, n2, c2, w53, o53, hrun2, hn2, hkp2, s53, M53, z53, r53⟩ := psh x s39 M39 z39 r39 (by simp; omega) X50 hb2 hq2 hq2'
        refine ⟨a2, n2, c2, w53, hrun2, hkp2 _ (fun p h => h), by omega, by omega, fun w54 X54 => ?_⟩
        obtain ⟨o54, s54, M54, z54, r54⟩ := sto (by simp) s53 M53 z53 r53 X54
        rw [if_neg hne] at hstep
        exact ⟨k - 1, by omega, true, t + 1, a2, c2, out ++ [m] ++ [x], o54, by rw [hn2]; rfl, by omega, s54, M54, z54, r54, hstep, by simp; omega⟩
      · rw [if_pos he, List.append_nil] at hstep; exact hstep
    · obtain ⟨a', n', c', w37, o37, hrun, hn', hkp, s37, M37, z37, r37⟩ := psh x s1 M1 hsz r1 (by omega) X34 hb hq hq'
      refine ⟨a', n', c', w37, hrun, hkp _ (fun p h => h), by omega, by omega, fun w39 X39 => ?_⟩
      obtain ⟨o39, s39, M39, z39, r39⟩ := sto (by simp) s37 M37 z37 r37 X39
      refine ⟨k - 1, by omega, inb0, t + 1, a', c', out ++ [x], o39, by rw [hn']; rfl, by omega, s39, M39, z39, r39, ?_, by simp; omega⟩
      rw [← hout, hin]
      have h1 : ¬ m.who ≤ x.who := by omega
      simp [putGo, h1, hne]
    · obtain ⟨a', n', c', w37, o37, hrun, hn', hkp, s37, M37, z37, r37⟩ := psh x s1 M1 hsz r1 (by omega) X34 hb hq hq'
      refine ⟨a', n', c', w37, hrun, hkp _ (fun p h => h), by omega, by omega, fun w39 X39 => ?_⟩
      obtain ⟨o39, s39, M39, z39, r39⟩ := sto (by simp) s37 M37 z37 r37 X39
      refine ⟨k - 1, by omega, inb0, t + 1, a', c', out ++ [x], o39, by rw [hn']; rfl, by omega, s39, M39, z39, r39, ?_, by simp; omega⟩
      rw [← hout, hin]
      simp [putGo, hne]
    · obtain ⟨o75, s75, M75, z75, r75⟩ := sto (mm := no) (fun _ h => h.elim) s1 M1 hsz r1 X75
      refine ⟨k - 1, by omega, inb0, t + 1, _, _, out, o75, rfl, by omega, s75, M75, z75, r75, ?_, by omega⟩
      rw [← hout, hin]
      simp [putGo, he]
  · have : t = ml.length := by omega
    subst this
    rw [List.drop_length] at hout
    refine ⟨fun hin w95 q96 X95 hb hq hq' => ?_, fun hin w103 X103 => ?_⟩
    · obtain ⟨a', n', c', w37, o37, hrun, hn', hkp, s37, M37, z37, r37⟩ := psh m s1 M1 hsz r1 (by omega) X95 hb hq hq'
      refine ⟨a', n', c', w37, hrun, hkp _ (fun p h => by simp at h ⊢; omega), fun w101 X101 => ?_⟩
      obtain ⟨o39, s39, M39, z39, r39⟩ := sto (by simp [or_comm]) s37 M37 z37 r37 X101
      have : out ++ [m] = putR ml m := by rw [← hout, hin]; rfl
      rw [this] at r39 hn'
      exact ⟨_, a', c', by rw [hn'], noStep (K := no) s39, r39.give s39 hs13, r39.le⟩
    · obtain ⟨o39, s39, M39, z39, r39⟩ := sto (by simp) s1 M1 hsz r1 X103
      have : out = putR ml m := by rw [← hout, hin]; simp [putGo]
      rw [this] at r39 ⊢
      exact ⟨_, _, _, rfl, noStep (K := no) s39, r39.give s39 hs13, r39.le⟩
end
end Go.Proofs.Ytmhfoieeldiecaa

/- Members: the reference's Right, Apply, and Behind; the program's Behind. -/
set_option linter.unusedVariables false
set_option linter.unusedSimpArgs false
set_option maxRecDepth 20000
set_option maxHeartbeats 4000000
namespace Go.Proofs.Ytmhfoieeldiecaa
open Go Go.Mx Go.Proofs
open W (OwnB)
section
variable {w w' w1 : World} {o o' o1 : Own} {a b : Option Addr} {c d N : Nat} {s t : MS} {m : Mem} {cg : Chg} {ml : List Mem} {l : List Wr} {wa oa : Option Addr} {wc oc : Nat}
theorem boxesP_nil : boxesP [] = false := rfl
theorem rightM_1 (h : cg.kd = 1) : rightM cg = decide ((0 ≤ cg.who ∧ cg.who < 8) ∧ cg.pub ≠ 0 ∧ cg.lim = 0 ∧ cg.ws = [] ∧ cg.old = []) := by
  unfold rightM
  by_cases h1 : 0 ≤ cg.who ∧ cg.who < 8
  · rw [if_pos h1, show (cg.kd == 3) = false by rw [h]; rfl]
    by_cases h2 : cg.ws = [] ∧ cg.old = []
    · rw [h2.1, h2.2, if_pos boxesP_nil.symm, if_neg (by simp), if_pos h]
      simp [h1]
    · have : decide ((0 ≤ cg.who ∧ cg.who < 8) ∧ cg.pub ≠ 0 ∧ cg.lim = 0 ∧ cg.ws = [] ∧ cg.old = []) = false := decide_eq_false fun h => h2 ⟨h.2.2.2.1, h.2.2.2.2⟩
      rw [this]
      split
      · rw [if_pos ⟨by rw [h]; decide, h2⟩]
      · rfl
  · rw [if_neg h1, eq_comm, decide_eq_false_iff_not]; exact fun h => h1 h.1
theorem rightM_2 (h : cg.kd = 2) : rightM cg = decide ((0 ≤ cg.who ∧ cg.who < 8) ∧ cg.who ≠ 0 ∧ cg.pub = 0 ∧ 0 ≤ cg.lim ∧ cg.lim ≤ 200 ∧ cg.ws = [] ∧ cg.old = []) := by
  unfold rightM
  by_cases h1 : 0 ≤ cg.who ∧ cg.who < 8
  · rw [if_pos h1, show (cg.kd == 3) = false by rw [h]; rfl]
    by_cases h2 : cg.ws = [] ∧ cg.old = []
    · rw [h2.1, h2.2, if_pos boxesP_nil.symm, if_neg (by simp), if_neg (by rw [h]; decide), if_pos h]
      simp [h1]
    · have : decide ((0 ≤ cg.who ∧ cg.who < 8) ∧ cg.who ≠ 0 ∧ cg.pub = 0 ∧ 0 ≤ cg.lim ∧ cg.lim ≤ 200 ∧ cg.ws = [] ∧ cg.old = []) = false := decide_eq_false fun h => h2 ⟨h.2.2.2.2.2.1, h.2.2.2.2.2.2⟩
      rw [this]
      split
      · rw [if_pos ⟨by rw [h]; decide, h2⟩]
      · rfl
  · rw [if_neg h1, eq_comm, decide_eq_false_iff_not]; exact fun h => h1 h.1
theorem rightM_3 (h : cg.kd = 3) : rightM cg = (boxesP cg.ws && decide (cg.who = 0 ∧ cg.pub = 0 ∧ cg.lim = 0 ∧ (cg.old.length = 0 ∨ cg.old.length = 24))) := by
  unfold rightM
  by_cases h1 : 0 ≤ cg.who ∧ cg.who < 8
  · rw [if_pos h1, show (cg.kd == 3) = true by rw [h]; rfl]
    cases hb : boxesP cg.ws
    · rw [if_neg (by decide)]; rfl
    · rw [if_pos rfl, if_neg (fun h' => h'.1 h), if_neg (by rw [h]; decide), if_neg (by rw [h]; decide), if_pos h]; rfl
  · rw [if_neg h1]
    have : decide (cg.who = 0 ∧ cg.pub = 0 ∧ cg.lim = 0 ∧ (cg.old.length = 0 ∨ cg.old.length = 24)) = false := decide_eq_false fun h => h1 (by rw [h.1]; decide)
    rw [this, Bool.and_false]
theorem rightM_0 (h1 : cg.kd ≠ 1) (h2 : cg.kd ≠ 2) (h3 : cg.kd ≠ 3) : rightM cg = false := by
  unfold rightM
  split
  · split
    · split
      · rfl
      · simp only [if_neg h1, if_neg h2, if_neg h3]
    · rfl
  · rfl
theorem rRight_spec (hr : RowAt w wa (l.flatMap Wr.C)) (hl : l.map Wr.p = cg.ws) (hn : l.length < 1000000) (ho : cg.old.length < 1000000) :
    Calls Try.prog 32 #[chgV cg wa wc oa oc] w (Ret (.bool (rightM cg)) fun w' => Ext no w w') := by
  refine cachetteref12_Right.run cg.kd cg.who cg.pub cg.lim wa cg.ws.length wc oa cg.old.length oc ?_
  unfold cachetteref12_Right.N
  simp only [who_F]
  have hlen : cg.ws.length = l.length := by rw [← hl]; simp
  have hz : cg.ws = [] ↔ cg.ws.length = 0 := List.length_eq_zero_iff.symm
  have hz2 : cg.old = [] ↔ cg.old.length = 0 := List.length_eq_zero_iff.symm
  have key : ∀ {w1 : World} {b : Bool}, Ext no w w1 → b = rightM cg → Value.bool b = .bool (rightM cg) ∧ Ext no w w1 := fun X h => ⟨by rw [h], X⟩
  have f1 : cg.kd = 1 → ¬ ((0 ≤ cg.who ∧ cg.who < 8) ∧ cg.pub ≠ 0 ∧ cg.lim = 0 ∧ cg.ws = [] ∧ cg.old = []) → false = rightM cg := fun h h2 => by rw [rightM_1 h, decide_eq_false h2]
  have f2 : cg.kd = 2 → ¬ ((0 ≤ cg.who ∧ cg.who < 8) ∧ cg.who ≠ 0 ∧ cg.pub = 0 ∧ 0 ≤ cg.lim ∧ cg.lim ≤ 200 ∧ cg.ws = [] ∧ cg.old = []) → false = rightM cg := fun h h2 => by rw [rightM_2 h, decide_eq_false h2]
  have f3 : cg.kd = 3 → ¬ (cg.who = 0 ∧ cg.pub = 0 ∧ cg.lim = 0 ∧ (cg.old.length = 0 ∨ cg.old.length = 24)) → false = rightM cg := fun h h2 => by rw [rightM_3 h, decide_eq_false h2, Bool.and_false]
  have f4 : cg.kd = 3 → boxesP cg.ws = false → false = rightM cg := fun h h2 => by rw [rightM_3 h, h2, Bool.false_and]
  have f5 : cg.kd ≠ 1 → cg.kd ≠ 2 → cg.kd ≠ 3 → false = rightM cg := fun a b c => (rightM_0 a b c).symm
  refine ⟨fun ho0 => ⟨fun h3 w7 X => key X ?_, fun h3 => ⟨fun h24 w7 X => key X (f3 h3 (by omega)), fun h24 => ?_⟩⟩, fun ho0 => ?_⟩
  · by_cases h1 : cg.kd = 1
    · exact f1 h1 (by rw [hz2]; omega)
    · by_cases h2 : cg.kd = 2
      · exact f2 h2 (by rw [hz2]; omega)
      · exact f5 h1 h2 h3
  all_goals have hoo : cg.old.length = 0 ∨ cg.old.length = 24 := by omega
  all_goals refine ⟨fun h1 => ?_, fun h1 => ⟨fun h2 => ?_, fun h2 => ⟨fun h3 w7 X7 => ?_, fun h3 w7 X7 => key X7 (f5 h1 h2 h3)⟩⟩⟩
  all_goals try (exfalso; omega)
  rotate_left
  · refine ⟨fun hw => ⟨fun hp => ⟨fun hl1 w14 X => key X ?_, fun hl1 w14 X => key X (f1 h1 fun h => hl1 h.2.2.1)⟩, fun hp w14 X => key X (f1 h1 fun h => h.2.1 hp)⟩, fun hw w14 X => key X (f1 h1 fun h => of_decide_eq_false hw h.1)⟩
    rw [rightM_1 h1, Bool.eq_iff_iff, beq_iff_eq, decide_eq_true_iff]
    exact ⟨fun h => ⟨of_decide_eq_true hw, hp, hl1, hz.2 (by omega), hz2.2 (by omega)⟩, fun h => by rw [h.2.2.2.1]; rfl⟩
  · refine ⟨fun hw => ⟨fun hw0 => ⟨fun hp => ⟨fun hl0 => ⟨fun hl1 w14 X => key X ?_, fun hl1 w14 X => key X (f2 h2 fun h => by omega)⟩, fun hl0 w14 X => key X (f2 h2 fun h => by omega)⟩, fun hp w14 X => key X (f2 h2 fun h => hp h.2.2.1)⟩, fun hw0 w14 X => key X (f2 h2 fun h => h.2.1 hw0)⟩, fun hw w14 X => key X (f2 h2 fun h => of_decide_eq_false hw h.1)⟩
    rw [rightM_2 h2, Bool.eq_iff_iff, beq_iff_eq, decide_eq_true_iff]
    exact ⟨fun h => ⟨of_decide_eq_true hw, hw0, hp, hl0, hl1, hz.2 (by omega), hz2.2 (by omega)⟩, fun h => by rw [h.2.2.2.2.2.1]; rfl⟩
  all_goals
    refine ⟨fun m vs w1 => ∃ (t : Nat) (last : Int), vs = [.int .i64 t] ∧ m + t = l.length ∧ Ext no w w1 ∧ boxesGo (-1) cg.ws = boxesGo last (cg.ws.drop t) ∧ (t = 0 → last = -1) ∧ (∀ x, 0 < t → cg.ws[t - 1]? = some x → last = x.1), l.length, ⟨0, -1, rfl, rfl, X7, rfl, fun _ => rfl, fun x h => absurd h (by omega)⟩, ?_⟩
    rintro m w1 i ⟨t, last, hi, hm, X1, hbx, hz0, hzp⟩
    simp only [List.cons.injEq, Value.int.injEq, true_and, and_true] at hi
    subst hi
    refine ⟨fun ht => ?_, fun ht => ?_⟩
    · have htl : t < l.length := by omega
      have htw : t < cg.ws.length := by omega
      have hg : l[t]? = some l[t] := List.getElem?_eq_getElem htl
      have hgw : cg.ws[t]? = some l[t].p := by rw [← hl, List.getElem?_map, hg]; rfl
      have hgw' : cg.ws[t] = l[t].p := (List.getElem?_eq_some_iff.1 hgw).2
      rw [boxesGo_drop htw, hgw'] at hbx
      have hprev : ∀ (_ : 0 < t), ∃ y, l[t - 1]? = some y ∧ last = y.who := fun h0 => by
        have h1 : t - 1 < l.length := by omega
        exact ⟨l[t - 1], List.getElem?_eq_getElem h1, hzp (l[t - 1]).p h0 (by rw [← hl, List.getElem?_map, List.getElem?_eq_getElem h1]; rfl)⟩
      generalize l[t] = x at *
      have hr1 := hr.no X1
      obtain ⟨ad, rfl⟩ := hr.faddr Wr.len (by decide) htl
      refine ⟨ad, rfl, by omega, by omega, x.who, by rw [Int.toNat_natCast]; exact hr1.fcell Wr.len hg 0 rfl, fun hw w46 X46 => key (X1.trans X46) (f4 h3 ?_), fun hw => ⟨by omega, by omega, x.a, x.b.length, x.c, by rw [Int.toNat_natCast]; exact hr1.fcell Wr.len hg 1 rfl, fun hb w46 X46 => key (X1.trans X46) (f4 h3 ?_), fun hb => ⟨fun hi => ?_, fun hi => ⟨by omega, by omega, fun w46 X46 => ⟨m - 1, by omega, t + 1, x.who, rfl, by omega, X1.trans X46, ?_, fun h => by omega, fun y _ hy => ?_⟩⟩⟩⟩⟩
      · unfold boxesP; rw [hbx, show decide (0 ≤ x.p.1 ∧ x.p.1 < 8) = false from hw]; rfl
      · unfold boxesP; rw [hbx, show decide (x.p.2.length = 16) = false from decide_eq_false fun h => hb (by rw [show x.b.length = 16 from h]; rfl)]; simp
      · obtain ⟨y, hy, hyl⟩ := hprev (by omega)
        refine ⟨by omega, by omega, by omega, by omega, y.who, by rw [show ((t : Int) - 1).toNat = t - 1 by omega]; exact hr1.fcell Wr.len hy 0 rfl, by omega, by omega, x.who, by rw [Int.toNat_natCast]; exact hr1.fcell Wr.len hg 0 rfl, fun hge w46 X46 => key (X1.trans X46) (f4 h3 ?_), fun hlt => ⟨by omega, by omega, fun w46 X46 => ⟨m - 1, by omega, t + 1, x.who, rfl, by omega, X1.trans X46, ?_, fun h => by omega, fun y _ hy => ?_⟩⟩⟩
        · unfold boxesP; rw [hbx, show decide (last < x.p.1) = false from decide_eq_false fun h => by have : last < x.who := h; omega]; simp
        · rw [hbx, show decide (0 ≤ x.p.1 ∧ x.p.1 < 8) = true from hw, decide_eq_true (show last < x.p.1 by show last < x.who; omega), decide_eq_true (show x.p.2.length = 16 by show x.b.length = 16; omega)]; rfl
        · rw [Nat.add_sub_cancel, hgw] at hy; cases hy; rfl
      · have h0 := hz0 (by omega)
        have hw' : 0 ≤ x.who ∧ x.who < 8 := of_decide_eq_true hw
        rw [hbx, show decide (0 ≤ x.p.1 ∧ x.p.1 < 8) = true from hw, decide_eq_true (show last < x.p.1 by show last < x.who; omega), decide_eq_true (show x.p.2.length = 16 by show x.b.length = 16; omega)]; rfl
      · rw [Nat.add_sub_cancel, hgw] at hy; cases hy; rfl
    · have htt : cg.ws.drop t = [] := List.drop_eq_nil_of_le (by omega)
      rw [htt] at hbx
      have hbP : boxesP cg.ws = decide ((cg.ws.length : Int) > 0) := by
        unfold boxesP; rw [hbx]
        show (true && decide (cg.ws ≠ [])) = _
        rw [Bool.true_and, decide_eq_decide, Ne, hz]; omega
      refine ⟨fun hw => ⟨fun hp => ⟨fun hl1 => key X1 ?_, fun hl1 => key X1 (f3 h3 fun h => hl1 h.2.2.1)⟩, fun hp => key X1 (f3 h3 fun h => hp h.2.1)⟩, fun hw => key X1 (f3 h3 fun h => hw h.1)⟩
      rw [rightM_3 h3, ← hbP, decide_eq_true (show cg.who = 0 ∧ cg.pub = 0 ∧ cg.lim = 0 ∧ (cg.old.length = 0 ∨ cg.old.length = 24) from ⟨hw, hp, hl1, hoo⟩), Bool.and_true]
theorem findM_2 (ml : List Mem) (x : Int) : (findM ml x).2 = isAt ml x := by
  unfold findM; cases h : isAt ml x <;> simp [h]
theorem findM_at {x : Int} (h : isAt ml x = true) : ∃ m, ml[findI ml x]? = some m ∧ m.who = x ∧ findM ml x = (m, true) := by
  obtain ⟨m, hm, hw⟩ := isAt_some h
  exact ⟨m, hm, hw, by unfold findM; rw [if_pos h, hm]; rfl⟩
theorem rApply_spec (hr : Row w o a (s.ml.flatMap Mem.C)) (ok : Tags w o) (hs : s.ok) (hc : s.ml.length ≤ c) (hw : Row w o wa (l.flatMap Wr.C)) (hl : l.map Wr.p = cg.ws) (hn : l.length < 1000000) (ho : cg.old.length < 1000000) :
    Calls Try.prog 20 #[.agg #[.slice a s.ml.length c, .int .i64 s.ep], chgV cg wa wc oa oc] w (MsG w o (applyM s cg)) := by
  have hle := hs.le
  have h0 := hs.ep0
  have h1 := hs.ep1
  have hlen : cg.ws.length = l.length := by rw [← hl]; simp
  refine (cachetteref12_Apply.go a s.ml.length c s.ep cg.kd cg.who cg.pub cg.lim wa cg.ws.length wc oa cg.old.length oc (R := MsR w o (applyM s cg)) ?_).mono fun x w' ⟨v, he, h⟩ => h.of he
  unfold cachetteref12_Apply.N
  intro w11 p12 p13 p14 X11 hp
  obtain ⟨s11, M11⟩ := Step.priv X11 hp ok
  have g : ∀ p ∈ [p12, p13, p14], w.heap.size ≤ p := fun p h => (hp p h).1
  refine (rRight_spec (hw.step s11).1 hl hn ho).mono fun e w17 ⟨he, X17⟩ => ⟨_, he, X17.kept, fun hf w20 X20 => ?_, fun hf => ?_⟩
  all_goals have s17' := Step.of_no X17 s11.ok
  all_goals have s17 := s11.trans s17'
  all_goals have M17 := M11.step s17'
  · have s20 := Step.stores X20 s17'.ok (M17.sub (M := [p14]) (by simp)) (by simp)
    unfold applyM; rw [if_neg (by rw [hf]; decide)]
    exact MsR.zero (s17.trans' s20 fun i hi => .inr (g i (by simp at hi ⊢; omega))) 1
  refine (rFind_spec (hr.step s17) s17.ok hs.sorted (by omega) s.ep cg.who).mono fun e w28 ⟨he, o28, s28'⟩ => ⟨_, _, _, _, _, _, he, M17.keep s28' fun _ _ => id, ?_⟩
  have s28 := s17.trans s28'
  have M28 := M17.step s28'
  have hA : applyM s cg = if cg.kd = 1 then inviteM s cg else if cg.kd = 2 then revokeM s cg else beginM s cg := by unfold applyM; rw [if_pos hf]
  have zero : ∀ {w20 : World} (k : Int), applyM s cg = (MS.z, k) → Ext (fun b => b = p14) w28 w20 → MsR w o (applyM s cg) (.tuple #[.agg #[.slice none 0 0, .int .i64 0], .int .i64 k]) w20 := fun k hk X => by
    rw [hk]
    have s20 := Step.stores X s28.ok (M28.sub (M := [p14]) (by simp)) (by simp)
    exact MsR.zero (s28.trans' s20 fun i hi => .inr (g i (by simp at hi ⊢; omega))) k
  have put : ∀ {w34 : World} (m : Mem), applyM s cg = (⟨putR s.ml m, s.ep⟩, 0) → Ext no w28 w34 →
      Calls Try.prog 40 #[.agg #[.slice a s.ml.length c, .int .i64 s.ep], m.V] w34 fun ee43 ww44 => ∃ (L41a : Option Addr) (L41n : Nat) (L41c : Nat) (Epoch42 : Int), ee43 = .returned (.agg #[.slice L41a L41n L41c, .int .i64 Epoch42]) ∧ Keep [p14] w34 ww44 ∧
        ∀ (ww46 : World), Ext (fun b => b = p14) ww44 ww46 → MsR w o (applyM s cg) (.tuple #[.agg #[.slice L41a L41n L41c, .int .i64 Epoch42], .int .i64 0]) ww46 := fun m hk X => by
    rw [hk]
    have s34' := Step.of_no X s28.ok
    have s34 := s28.trans s34'
    refine (put_spec (hr.step s34) s34.ok (by omega) s.ep m).mono fun x w44 ⟨o44, a', c', he, s44, r44, hc'⟩ => ⟨_, _, _, _, he, ((M28.step s34').sub (M := [p14]) (by simp)).keep s44 fun _ _ => id, fun w46 X46 => ?_⟩
    have s46 := Step.stores X46 s44.ok ((((M28.step s34').step s44)).sub (M := [p14]) (by simp)) (by simp)
    exact ⟨_, a', c', rfl, (s34.trans s44).trans' s46 fun i hi => .inr (g i (by simp at hi ⊢; omega)), r44.step s46, hc'⟩
  have hF2 := findM_2 s.ml cg.who
  refine ⟨fun hk => ?_, fun hk1 => ⟨fun hk => ?_, fun hk2 => ?_⟩⟩
  · rw [if_pos hk] at hA
    refine ⟨fun hi w38 X => zero 13 ?_ X, fun hi => ⟨by omega, by omega, fun w34 X => put ⟨cg.who, cg.pub, s.ep + 1, -1, 0⟩ ?_ X⟩⟩
    · rw [hA]; unfold inviteM; rw [if_pos (by rw [← hF2]; exact hi)]
    · rw [hF2] at hi
      rw [hA]; unfold inviteM; rw [if_neg (by rw [hi]; decide), putR_new hs.sorted hi]
  · rw [if_neg (by omega), if_pos hk] at hA
    refine ⟨fun hi w38 X => zero 20 ?_ X, fun hi => ?_⟩
    · rw [hA]; unfold revokeM; rw [if_neg (by rw [← hF2, hi]; decide)]
    · rw [hF2] at hi
      obtain ⟨m, hm, hmw, hF⟩ := findM_at hi
      rw [hF]
      have hR : revokeM s cg = if m.to_ = -1 then (⟨s.ml.set (findI s.ml cg.who) { m with to_ := if s.ep < 0 then -2 else s.ep, lim := cg.lim }, s.ep⟩, 0) else (MS.z, 10) := by unfold revokeM; rw [if_pos hi, hm]
      refine ⟨fun hto w38 X => zero 10 ?_ X, fun hto => ⟨fun he w59 X => put ⟨m.who, m.pub, m.fr, -2, cg.lim⟩ ?_ X, fun he w59 X => put ⟨m.who, m.pub, m.fr, s.ep, cg.lim⟩ ?_ X⟩⟩
      · rw [hA, hR, if_neg hto]
      · rw [hA, hR, if_pos hto, if_pos he, putR_old (m := ⟨m.who, m.pub, m.fr, -2, cg.lim⟩) hs.sorted (x := m) (by show s.ml[findI s.ml m.who]? = _; rw [hmw]; exact hm) rfl]
        show _ = (MS.mk (s.ml.set (findI s.ml m.who) _) _, _)
        rw [hmw]
      · rw [hA, hR, if_pos hto, if_neg (by omega), putR_old (m := ⟨m.who, m.pub, m.fr, s.ep, cg.lim⟩) hs.sorted (x := m) (by show s.ml[findI s.ml m.who]? = _; rw [hmw]; exact hm) rfl]
        show _ = (MS.mk (s.ml.set (findI s.ml m.who) _) _, _)
        rw [hmw]
  · rw [if_neg hk1, if_neg hk2] at hA
    refine ⟨fun he w38 X => zero 2 ?_ X, fun he w34 X34 => ?_⟩
    · rw [hA]; unfold beginM; rw [if_pos (by omega)]
    have hB : applyM s cg = if ((cg.old.length : Int) == 0) = decide (s.ep < 0) then (if (nowM s.ml).map Mem.who = cg.ws.map Prod.fst then (⟨s.ml, s.ep + 1⟩, 0) else (MS.z, 10)) else (MS.z, 10) := by rw [hA]; unfold beginM; rw [if_neg (by omega)]
    have s34' := Step.of_no X34 s28.ok
    have s34 := s28.trans s34'
    have M34 := M28.step s34'
    refine (rNow_spec (hr.step s34) s34.ok (by omega) s.ep).mono fun x w82 ⟨o82, na, nc, hx, s82', r82, _⟩ => ⟨_, _, _, hx, M34.keep s82' fun _ _ => id, ?_⟩
    have s82 := s34.trans s82'
    have M82 := M34.step s82'
    have ten : ∀ {w1 w20 : World} {o1 : Own}, applyM s cg = (MS.z, 10) → Step no w o w1 o1 → Mine [p12, p13, p14] w1 o1 → Ext (fun b => b = p14) w1 w20 → MsR w o (applyM s cg) (.tuple #[.agg #[.slice none 0 0, .int .i64 0], .int .i64 10]) w20 := fun hk s1 M1 X => by
      rw [hk]
      have s20 := Step.stores X s1.ok (M1.sub (M := [p14]) (by simp)) (by simp)
      exact MsR.zero (s1.trans' s20 fun i hi => .inr (g i (by simp at hi ⊢; omega))) 10
    have hnl : (nowM s.ml).length ≤ s.ml.length := List.length_filter_le _ _
    refine ⟨fun hne w85 X85 => ten ?_ s82 M82 X85, fun heq => ⟨fun hne w85 X85 => ten ?_ s82 M82 X85, fun heo => ?_⟩⟩
    · rw [hB, if_neg (c := (nowM s.ml).map Mem.who = cg.ws.map Prod.fst) (fun h => hne (by have := congrArg List.length h; simp at this; omega)), ite_self]
    · rw [hB, if_neg]
      intro h
      apply hne
      rw [h, Bool.eq_iff_iff, decide_eq_true_iff, beq_iff_eq]; omega
    have hB2 : applyM s cg = if (nowM s.ml).map Mem.who = cg.ws.map Prod.fst then (⟨s.ml, s.ep + 1⟩, 0) else (MS.z, 10) := by
      rw [hB, if_pos]
      rw [heo, Bool.eq_iff_iff, decide_eq_true_iff, beq_iff_eq]; omega
    refine ⟨fun m vs w1 => ∃ (t : Nat) (o1 : Own), vs = [.int .i64 t, .slice none 0 0, .int .i64 0] ∧ m + t = (nowM s.ml).length ∧ Step no w82 o82 w1 o1 ∧ ((nowM s.ml).map Mem.who).take t = (cg.ws.map Prod.fst).take t, (nowM s.ml).length, ⟨0, o82, rfl, rfl, Step.refl _ s82.ok, rfl⟩, ?_⟩
    rintro m w94 i0 xa xn xc xe ⟨t, o94, hi, hm, s94, htk⟩
    simp only [List.cons.injEq, Value.slice.injEq, Value.int.injEq, true_and, and_true] at hi
    obtain ⟨rfl, ⟨rfl, rfl, rfl⟩, rfl⟩ := hi
    refine ⟨fun ht => ?_, fun ht => ⟨by omega, by omega, fun w108 X108 => ?_⟩⟩
    · have htl : t < (nowM s.ml).length := by omega
      have htw : t < l.length := by omega
      have hg : (nowM s.ml)[t]? = some (nowM s.ml)[t] := List.getElem?_eq_getElem htl
      have hgw : l[t]? = some l[t] := List.getElem?_eq_getElem htw
      have e1 : ((nowM s.ml).map Mem.who)[t]? = some (nowM s.ml)[t].who := by rw [List.getElem?_map, hg]; rfl
      have e2 : (cg.ws.map Prod.fst)[t]? = some l[t].who := by rw [← hl, List.getElem?_map, List.getElem?_map, hgw]; rfl
      generalize (nowM s.ml)[t] = x at *
      generalize l[t] = y at *
      obtain ⟨ad, rfl⟩ := r82.1.faddr Mem.len (by decide) htl
      obtain ⟨bd, rfl⟩ := hw.1.faddr Wr.len (by decide) htw
      refine ⟨ad, rfl, by omega, by omega, x.who, by rw [Int.toNat_natCast]; exact (r82.step s94).1.fcell Mem.len hg 0 rfl, bd, rfl, by omega, by omega, y.who, by rw [Int.toNat_natCast]; exact ((hw.step s82).step s94).1.fcell Wr.len hgw 0 rfl, fun hne w105 X105 => ten ?_ (s82.trans s94) (M82.step s94) X105, fun heq => ⟨by omega, by omega, fun w96 X96 => ⟨m - 1, by omega, t + 1, _, rfl, by omega, s94.trans (Step.of_no X96 s94.ok), ?_⟩⟩⟩
      · rw [hB2, if_neg]
        intro h
        rw [h, e2] at e1
        exact hne (Option.some.inj e1).symm
      · rw [List.take_add_one, List.take_add_one, htk, e1, e2, heq]
    · have hall : (nowM s.ml).map Mem.who = cg.ws.map Prod.fst := by
        rwa [List.take_of_length_le (by simp; omega), List.take_of_length_le (by simp; omega)] at htk
      rw [hB2, if_pos hall]
      have s94w := s82.trans s94
      have s108 := Step.stores X108 s94.ok ((M82.step s94).sub (M := [p14]) (by simp)) (by simp)
      have sF := s94w.trans' s108 fun i hi => .inr (g i (by simp at hi ⊢; omega))
      exact ⟨_, a, c, rfl, sF, hr.step sF, hc⟩
end
end Go.Proofs.Ytmhfoieeldiecaa
