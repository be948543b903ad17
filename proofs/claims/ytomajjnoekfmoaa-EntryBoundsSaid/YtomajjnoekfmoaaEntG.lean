/- EntryBounds: what the law's function answers. -/
import Derived.Test.YtomajjnoekfmoaaEntF
set_option linter.unusedVariables false
set_option linter.unusedSimpArgs false
set_option maxRecDepth 20000
namespace Go.Proofs.Ytomajjnoekfmoaa
open Go Go.Mx Go.Proofs
open W (OwnB Rd RdR GivesW numR countR doneR zig unzig intR)
/-- (*oracle.Oracle).Sign -/
def oracle_Oracle_Sign.M (o1 : Option Addr) (secret2 : Int) (b3a : Option Addr) (b3n : Nat) (b3c : Nat) (R : Value → World → Prop) (w : World) : Prop :=
  bif Option.isNone o1 then (
  R (.tuple #[.int .u64 0, .int .i64 23]) w) else (
  o1.elim False fun a4 =>
  ∃ (secrets5 : Option Nat), w.cell? (a4.add 5) = some (.map secrets5) ∧
  ∃ (v6 : Bool), (Instr.lookup 84 (.map secrets5) (.int .u64 secret2) false).run Try.prog w = .ok (.bool v6) w ∧
  bif !v6 then (
  R (.tuple #[.int .u64 0, .int .i64 11]) w) else (
  ∃ (s7 : ByteArray), (convert 25 9 (.slice b3a b3n b3c)).run Try.prog w = .ok (.string s7) w ∧
  thenW (w.alloc (.cells #[.int .u64 0, .string ByteArray.empty] 110)) fun ww8 =>
  canStore ww8 ((blk w.heap.size).add 0) ∧
  thenW (ww8.setCell ((blk w.heap.size).add 0) (.int .u64 secret2)) fun ww9 =>
  canStore ww9 ((blk w.heap.size).add 1) ∧
  thenW (ww9.setCell ((blk w.heap.size).add 1) (.string s7)) fun ww10 =>
  thenW (ww10.drew) fun ww11 =>
  o1.elim False fun a12 =>
  ∃ (signs13 : Option Nat), ww11.cell? (a12.add 7) = some (.map signs13) ∧
  ∃ (xSecret14 : Int) (xText15 : ByteArray), cellsAt ww11 (blk w.heap.size) [.int .u64 xSecret14, .string xText15] 0 ∧
  ∃ (v16 : Int) (v17 : Bool), (Instr.lookup 87 (.map signs13) (.agg #[.int .u64 xSecret14, .string xText15]) true).run Try.prog ww11 = .ok (.tuple #[.int .u64 v16, .bool v17]) ww11 ∧
  bif !v17 then (
  Calls Try.prog 57 #[.pointer o1] ww11 fun ee19 ww20 => ∃ (fresh18 : Int), ee19 = .returned (.int .u64 fresh18) ∧
  thenW (ww20.drew) fun ww21 =>
  o1.elim False fun a22 =>
  ∃ (signs23 : Option Nat), ww21.cell? (a22.add 7) = some (.map signs23) ∧
  ∃ (xSecret24 : Int) (xText25 : ByteArray), cellsAt ww21 (blk w.heap.size) [.int .u64 xSecret24, .string xText25] 0 ∧
  o1.elim False fun a26 =>
  ∃ (signed27 : Option Nat), ww21.cell? (a26.add 8) = some (.map signed27) ∧
  ∃ (xSecret28 : Int) (xText29 : ByteArray), cellsAt ww21 (blk w.heap.size) [.int .u64 xSecret28, .string xText29] 0 ∧
  ∃ (v30 : Int), ∃ (n31 : Int) (ww32 : World), (Instr.mapEntry 87 (.map signs23) (.agg #[.int .u64 xSecret24, .string xText25])).run Try.prog ww21 = .ok (.tuple #[.int .u64 v30, .int .i64 n31]) ww32 ∧
  cellsAt ww32 (blk w.heap.size) [.int .u64 xSecret28, .string xText29] 0 ∧
  ∃ ww33 : World, (Instr.entryStore 87 (.map signs23) (.int .i64 n31) (.int .u64 fresh18)).run Try.prog ww32 = .ok () ww33 ∧
  cellsAt ww33 (blk w.heap.size) [.int .u64 xSecret28, .string xText29] 0 ∧
  ∃ (v34 : Int) (v35 : ByteArray), ∃ (n36 : Int) (ww37 : World), (Instr.mapEntry 88 (.map signed27) (.int .u64 fresh18)).run Try.prog ww33 = .ok (.tuple #[.agg #[.int .u64 v34, .string v35], .int .i64 n36]) ww37 ∧
  cellsAt ww37 (blk w.heap.size) [.int .u64 xSecret28, .string xText29] 0 ∧
  ∃ ww38 : World, (Instr.entryStore 88 (.map signed27) (.int .i64 n36) (.agg #[.int .u64 xSecret28, .string xText29])).run Try.prog ww37 = .ok () ww38 ∧
  R (.tuple #[.int .u64 fresh18, .int .i64 0]) ww38) else (
  R (.tuple #[.int .u64 v16, .int .i64 0]) ww11)))

theorem oracle_Oracle_Sign.eq (o1 : Option Addr) (secret2 : Int) (b3a : Option Addr) (b3n : Nat) (b3c : Nat) (R : Value → World → Prop) (w : World) : mfunc Try.prog [] 53 [.pointer o1, .int .u64 secret2, .slice b3a b3n b3c] R w = oracle_Oracle_Sign.M o1 secret2 b3a b3n b3c R w := by kernel_rfl
theorem oracle_Oracle_Sign.ok (o1 : Option Addr) (secret2 : Int) (b3a : Option Addr) (b3n : Nat) (b3c : Nat) {R : Value → World → Prop} {w : World} (h : oracle_Oracle_Sign.M o1 secret2 b3a b3n b3c R w) : Calls Try.prog 53 #[.pointer o1, .int .u64 secret2, .slice b3a b3n b3c] w fun e w' => ∃ v, e = .returned v ∧ R v w' :=
  mfunc_ok follows (H := []) (args := [.pointer o1, .int .u64 secret2, .slice b3a b3n b3c]) (by rw [oracle_Oracle_Sign.eq]; exact h)

def oracle_Oracle_Sign.N (o1 : Option Addr) (secret2 : Int) (b3a : Option Addr) (b3n : Nat) (b3c : Nat) (R : Value → World → Prop) (w : World) : Prop :=
  (o1 = none →
    R (.tuple #[.int .u64 0, .int .i64 23]) w) ∧
  (o1 ≠ none →
    ∃ a5 : Addr, o1 = some a5 ∧
    ∃ (secrets7 : Option Nat), w.cell? (a5.add 5) = some (.map secrets7) ∧
    ∃ (v8 : Bool), (Instr.lookup 84 (.map secrets7) (.int .u64 secret2) false).run Try.prog w = .ok (.bool v8) w ∧
    (v8 = false →
      R (.tuple #[.int .u64 0, .int .i64 11]) w) ∧
    (v8 = true →
      ∃ (s11 : ByteArray), (convert 25 9 (.slice b3a b3n b3c)).run Try.prog w = .ok (.string s11) w ∧
      ∃ (signs18 : Option Nat), w.cell? (a5.add 7) = some (.map signs18) ∧
      ∀ (ww16 : World) (p19 : Nat), Ext no w ww16 → Priv w ww16 [p19] →
      ∃ (v20 : Int) (v21 : Bool), (Instr.lookup 87 (.map signs18) (.agg #[.int .u64 secret2, .string s11]) true).run Try.prog ww16 = .ok (.tuple #[.int .u64 v20, .bool v21]) ww16 ∧
      (v21 = false →
        Calls Try.prog 57 #[.pointer o1] ww16 fun ee25 ww26 => ∃ (fresh24 : Int), ee25 = .returned (.int .u64 fresh24) ∧
        Keep [p19] ww16 ww26 ∧
        ∃ (signs29 : Option Nat), ww26.cell? (a5.add 7) = some (.map signs29) ∧
        ∃ (signed31 : Option Nat), ww26.cell? (a5.add 8) = some (.map signed31) ∧
        ∀ (ww27 : World), Ext no ww26 ww27 →
        ∃ (v32 : Int) (n33 : Int) (ww34 : World), (Instr.mapEntry 87 (.map signs29) (.agg #[.int .u64 secret2, .string s11])).run Try.prog ww27 = .ok (.tuple #[.int .u64 v32, .int .i64 n33]) ww34 ∧
        Keep [p19] ww27 ww34 ∧
        ∃ (ww35 : World), (Instr.entryStore 87 (.map signs29) (.int .i64 n33) (.int .u64 fresh24)).run Try.prog ww34 = .ok () ww35 ∧
        Keep [p19] ww34 ww35 ∧
        ∃ (v36 : Int) (v37 : ByteArray) (n38 : Int) (ww39 : World), (Instr.mapEntry 88 (.map signed31) (.int .u64 fresh24)).run Try.prog ww35 = .ok (.tuple #[.agg #[.int .u64 v36, .string v37], .int .i64 n38]) ww39 ∧
        Keep [p19] ww35 ww39 ∧
        ∃ (ww40 : World), (Instr.entryStore 88 (.map signed31) (.int .i64 n38) (.agg #[.int .u64 secret2, .string s11])).run Try.prog ww39 = .ok () ww40 ∧
        R (.tuple #[.int .u64 fresh24, .int .i64 0]) ww40) ∧
      (v21 = true →
        R (.tuple #[.int .u64 v20, .int .i64 0]) ww16)))

theorem oracle_Oracle_Sign.up (o1 : Option Addr) (secret2 : Int) (b3a : Option Addr) (b3n : Nat) (b3c : Nat) {R : Value → World → Prop} {w : World} (h : oracle_Oracle_Sign.N o1 secret2 b3a b3n b3c R w) : oracle_Oracle_Sign.M o1 secret2 b3a b3n b3c R w := by
  unfold oracle_Oracle_Sign.M
  unfold oracle_Oracle_Sign.N at h
  refine bif_of (fun c4 => ?_) (fun c4 => ?_)
  · have h := h.1 (isNone_t c4)
    exact h
  · have h := h.2 (isNone_f c4)
    obtain ⟨a5, ha5, h⟩ := h
    refine elim_some ha5 ?_
    obtain ⟨secrets7, hc6, h⟩ := h
    refine ⟨secrets7, hc6, ?_⟩
    obtain ⟨v8, hs9, h⟩ := h
    refine ⟨v8, hs9, ?_⟩
    refine bif_of (fun c10 => ?_) (fun c10 => ?_)
    · have h := h.1 (not_t c10)
      exact h
    · have h := h.2 (not_f c10)
      obtain ⟨s11, hs12, h⟩ := h
      refine ⟨s11, hs12, ?_⟩
      refine thenW_in fun ww13 e13 => ?_
      have hb1 := Blk.of_new e13
      have hg1 := ((Ext.refl no w)).size
      have hx13 := (Ext.refl no w).x_alloc e13
      refine ⟨hb1.cani 0 rfl rfl, thenW_in fun ww14 e14 => ?_⟩
      have hx14 := hx13.x_set (q := w.heap.size) (i := 0) rfl (.inr hg1) e14
      have hb1 := hb1.seti 0 rfl e14
      refine ⟨hb1.cani 1 rfl rfl, thenW_in fun ww15 e15 => ?_⟩
      have hx15 := hx14.x_set (q := w.heap.size) (i := 1) rfl (.inr hg1) e15
      have hb1 := hb1.seti 1 rfl e15
      refine thenW_in fun ww16 e16 => ?_
      have hx16 := hx15.x_drew e16
      have hb1 := hb1.x_drew e16
      refine elim_some ha5 ?_
      obtain ⟨signs18, hc17, h⟩ := h
      refine ⟨signs18, (hx16).cell hc17 id, ?_⟩
      refine ⟨secret2, s11, ⟨hb1.celli 0 rfl rfl, hb1.celli 1 rfl rfl, trivial⟩, ?_⟩
      have h := h ww16 (w.heap.size) hx16 (Priv.cons hg1 hb1.lt Priv.nil)
      obtain ⟨v20, v21, hs22, h⟩ := h
      refine ⟨v20, v21, hs22, ?_⟩
      refine bif_of (fun c23 => ?_) (fun c23 => ?_)
      · have h := h.1 (not_t c23)
        refine h.mono fun ee25 ww26 h => ?_
        obtain ⟨fresh24, he, hk, h⟩ := h
        refine ⟨fresh24, he, ?_⟩
        have hb1 := hk.blk hb1 (by simp)
        refine thenW_in fun ww27 e27 => ?_
        have hx27 := (Ext.refl no ww26).x_drew e27
        have hb1 := hb1.x_drew e27
        refine elim_some ha5 ?_
        obtain ⟨signs29, hc28, h⟩ := h
        refine ⟨signs29, (hx27).cell hc28 id, ?_⟩
        refine ⟨secret2, s11, ⟨hb1.celli 0 rfl rfl, hb1.celli 1 rfl rfl, trivial⟩, ?_⟩
        refine elim_some ha5 ?_
        obtain ⟨signed31, hc30, h⟩ := h
        refine ⟨signed31, (hx27).cell hc30 id, ?_⟩
        refine ⟨secret2, s11, ⟨hb1.celli 0 rfl rfl, hb1.celli 1 rfl rfl, trivial⟩, ?_⟩
        have h := h ww27 hx27
        obtain ⟨v32, n33, ww34, hr, hk, h⟩ := h
        refine ⟨v32, n33, ww34, hr, ?_⟩
        have hb1 := hk.blk hb1 (by simp)
        refine ⟨⟨hb1.celli 0 rfl rfl, hb1.celli 1 rfl rfl, trivial⟩, ?_⟩
        obtain ⟨ww35, hr, hk, h⟩ := h
        refine ⟨ww35, hr, ?_⟩
        have hb1 := hk.blk hb1 (by simp)
        refine ⟨⟨hb1.celli 0 rfl rfl, hb1.celli 1 rfl rfl, trivial⟩, ?_⟩
        obtain ⟨v36, v37, n38, ww39, hr, hk, h⟩ := h
        refine ⟨v36, v37, n38, ww39, hr, ?_⟩
        have hb1 := hk.blk hb1 (by simp)
        refine ⟨⟨hb1.celli 0 rfl rfl, hb1.celli 1 rfl rfl, trivial⟩, ?_⟩
        obtain ⟨ww40, hr, h⟩ := h
        refine ⟨ww40, hr, ?_⟩
        exact h
      · have h := h.2 (not_f c23)
        exact h

theorem oracle_Oracle_Sign.go (o1 : Option Addr) (secret2 : Int) (b3a : Option Addr) (b3n : Nat) (b3c : Nat) {R : Value → World → Prop} {w : World} (h : oracle_Oracle_Sign.N o1 secret2 b3a b3n b3c R w) : Calls Try.prog 53 #[.pointer o1, .int .u64 secret2, .slice b3a b3n b3c] w fun e w' => ∃ v, e = .returned v ∧ R v w' := oracle_Oracle_Sign.ok o1 secret2 b3a b3n b3c (oracle_Oracle_Sign.up o1 secret2 b3a b3n b3c h)
theorem oracle_Oracle_Sign.run (o1 : Option Addr) (secret2 : Int) (b3a : Option Addr) (b3n : Nat) (b3c : Nat) {V : Value} {Q : World → Prop} {w : World} (h : oracle_Oracle_Sign.N o1 secret2 b3a b3n b3c (fun v w' => v = V ∧ Q w') w) : Calls Try.prog 53 #[.pointer o1, .int .u64 secret2, .slice b3a b3n b3c] w (Ret V Q) := (oracle_Oracle_Sign.go o1 secret2 b3a b3n b3c h).mono fun e w' ⟨v, he, hv, hq⟩ => ⟨by rw [he, hv], hq⟩

/-- (*oracle.Oracle).Verify -/
def oracle_Oracle_Verify.M (o1 : Option Addr) (publicv2 : Int) (b3a : Option Addr) (b3n : Nat) (b3c : Nat) (sig4 : Int) (R : Value → World → Prop) (w : World) : Prop :=
  bif Option.isNone o1 then (
  R (.bool false) w) else (
  o1.elim False fun a5 =>
  ∃ (publics6 : Option Nat), w.cell? (a5.add 6) = some (.map publics6) ∧
  ∃ (v7 : Int) (v8 : Bool), (Instr.lookup 86 (.map publics6) (.int .u64 publicv2) true).run Try.prog w = .ok (.tuple #[.int .u64 v7, .bool v8]) w ∧
  o1.elim False fun a9 =>
  ∃ (signed10 : Option Nat), w.cell? (a9.add 8) = some (.map signed10) ∧
  ∃ (secret11 : Int) (text12 : ByteArray) (v13 : Bool), (Instr.lookup 88 (.map signed10) (.int .u64 sig4) true).run Try.prog w = .ok (.tuple #[.agg #[.int .u64 secret11, .string text12], .bool v13]) w ∧
  thenW (w.alloc (.cells #[.int .u64 0, .string ByteArray.empty] 110)) fun ww14 =>
  canStore ww14 ((blk w.heap.size).add 0) ∧
  thenW (ww14.setCell ((blk w.heap.size).add 0) (.int .u64 secret11)) fun ww15 =>
  canStore ww15 ((blk w.heap.size).add 1) ∧
  thenW (ww15.setCell ((blk w.heap.size).add 1) (.string text12)) fun ww16 =>
  bif v8 then (
  bif v13 then (
  ∃ (xSecret17 : Int) (xText18 : ByteArray), cellsAt ww16 (blk w.heap.size) [.int .u64 xSecret17, .string xText18] 0 ∧
  ∃ (s19 : ByteArray), (convert 25 9 (.slice b3a b3n b3c)).run Try.prog ww16 = .ok (.string s19) ww16 ∧
  ∃ (b20 : Bool), (binOp .eql 110 (.agg #[.int .u64 xSecret17, .string xText18]) (.agg #[.int .u64 v7, .string s19])).run Try.prog ww16 = .ok (.bool b20) ww16 ∧
  R (.bool b20) ww16) else (
  R (.bool false) ww16)) else (
  R (.bool false) ww16))

theorem oracle_Oracle_Verify.eq (o1 : Option Addr) (publicv2 : Int) (b3a : Option Addr) (b3n : Nat) (b3c : Nat) (sig4 : Int) (R : Value → World → Prop) (w : World) : mfunc Try.prog [] 55 [.pointer o1, .int .u64 publicv2, .slice b3a b3n b3c, .int .u64 sig4] R w = oracle_Oracle_Verify.M o1 publicv2 b3a b3n b3c sig4 R w := by kernel_rfl
theorem oracle_Oracle_Verify.ok (o1 : Option Addr) (publicv2 : Int) (b3a : Option Addr) (b3n : Nat) (b3c : Nat) (sig4 : Int) {R : Value → World → Prop} {w : World} (h : oracle_Oracle_Verify.M o1 publicv2 b3a b3n b3c sig4 R w) : Calls Try.prog 55 #[.pointer o1, .int .u64 publicv2, .slice b3a b3n b3c, .int .u64 sig4] w fun e w' => ∃ v, e = .returned v ∧ R v w' :=
  mfunc_ok follows (H := []) (args := [.pointer o1, .int .u64 publicv2, .slice b3a b3n b3c, .int .u64 sig4]) (by rw [oracle_Oracle_Verify.eq]; exact h)

def oracle_Oracle_Verify.N (o1 : Option Addr) (publicv2 : Int) (b3a : Option Addr) (b3n : Nat) (b3c : Nat) (sig4 : Int) (R : Value → World → Prop) (w : World) : Prop :=
  (o1 = none →
    R (.bool false) w) ∧
  (o1 ≠ none →
    ∃ a6 : Addr, o1 = some a6 ∧
    ∃ (publics8 : Option Nat), w.cell? (a6.add 6) = some (.map publics8) ∧
    ∃ (v9 : Int) (v10 : Bool), (Instr.lookup 86 (.map publics8) (.int .u64 publicv2) true).run Try.prog w = .ok (.tuple #[.int .u64 v9, .bool v10]) w ∧
    ∃ (signed13 : Option Nat), w.cell? (a6.add 8) = some (.map signed13) ∧
    ∃ (secret14 : Int) (text15 : ByteArray) (v16 : Bool), (Instr.lookup 88 (.map signed13) (.int .u64 sig4) true).run Try.prog w = .ok (.tuple #[.agg #[.int .u64 secret14, .string text15], .bool v16]) w ∧
    (v10 = true →
      (v16 = true →
        ∀ (ww20 : World), Ext no w ww20 →
        ∃ (s24 : ByteArray), (convert 25 9 (.slice b3a b3n b3c)).run Try.prog ww20 = .ok (.string s24) ww20 ∧
        ∃ (b26 : Bool), (binOp .eql 110 (.agg #[.int .u64 secret14, .string text15]) (.agg #[.int .u64 v9, .string s24])).run Try.prog ww20 = .ok (.bool b26) ww20 ∧
        R (.bool b26) ww20) ∧
      (v16 = false →
        ∀ (ww20 : World), Ext no w ww20 →
        R (.bool false) ww20)) ∧
    (v10 = false →
      ∀ (ww20 : World), Ext no w ww20 →
      R (.bool false) ww20))

theorem oracle_Oracle_Verify.up (o1 : Option Addr) (publicv2 : Int) (b3a : Option Addr) (b3n : Nat) (b3c : Nat) (sig4 : Int) {R : Value → World → Prop} {w : World} (h : oracle_Oracle_Verify.N o1 publicv2 b3a b3n b3c sig4 R w) : oracle_Oracle_Verify.M o1 publicv2 b3a b3n b3c sig4 R w := by
  unfold oracle_Oracle_Verify.M
  unfold oracle_Oracle_Verify.N at h
  refine bif_of (fun c5 => ?_) (fun c5 => ?_)
  · have h := h.1 (isNone_t c5)
    exact h
  · have h := h.2 (isNone_f c5)
    obtain ⟨a6, ha6, h⟩ := h
    refine elim_some ha6 ?_
    obtain ⟨publics8, hc7, h⟩ := h
    refine ⟨publics8, hc7, ?_⟩
    obtain ⟨v9, v10, hs11, h⟩ := h
    refine ⟨v9, v10, hs11, ?_⟩
    refine elim_some ha6 ?_
    obtain ⟨signed13, hc12, h⟩ := h
    refine ⟨signed13, hc12, ?_⟩
    obtain ⟨secret14, text15, v16, hs17, h⟩ := h
    refine ⟨secret14, text15, v16, hs17, ?_⟩
    refine thenW_in fun ww18 e18 => ?_
    have hb1 := Blk.of_new e18
    have hg1 := ((Ext.refl no w)).size
    have hx18 := (Ext.refl no w).x_alloc e18
    refine ⟨hb1.cani 0 rfl rfl, thenW_in fun ww19 e19 => ?_⟩
    have hx19 := hx18.x_set (q := w.heap.size) (i := 0) rfl (.inr hg1) e19
    have hb1 := hb1.seti 0 rfl e19
    refine ⟨hb1.cani 1 rfl rfl, thenW_in fun ww20 e20 => ?_⟩
    have hx20 := hx19.x_set (q := w.heap.size) (i := 1) rfl (.inr hg1) e20
    have hb1 := hb1.seti 1 rfl e20
    refine bif_of (fun c21 => ?_) (fun c21 => ?_)
    · have h := h.1 c21
      refine bif_of (fun c22 => ?_) (fun c22 => ?_)
      · have h := h.1 c22
        refine ⟨secret14, text15, ⟨hb1.celli 0 rfl rfl, hb1.celli 1 rfl rfl, trivial⟩, ?_⟩
        have h := h ww20 hx20
        obtain ⟨s24, hs25, h⟩ := h
        refine ⟨s24, hs25, ?_⟩
        obtain ⟨b26, hs27, h⟩ := h
        refine ⟨b26, hs27, ?_⟩
        exact h
      · have h := h.2 c22
        have h := h ww20 hx20
        exact h
    · have h := h.2 c21
      have h := h ww20 hx20
      exact h

theorem oracle_Oracle_Verify.go (o1 : Option Addr) (publicv2 : Int) (b3a : Option Addr) (b3n : Nat) (b3c : Nat) (sig4 : Int) {R : Value → World → Prop} {w : World} (h : oracle_Oracle_Verify.N o1 publicv2 b3a b3n b3c sig4 R w) : Calls Try.prog 55 #[.pointer o1, .int .u64 publicv2, .slice b3a b3n b3c, .int .u64 sig4] w fun e w' => ∃ v, e = .returned v ∧ R v w' := oracle_Oracle_Verify.ok o1 publicv2 b3a b3n b3c sig4 (oracle_Oracle_Verify.up o1 publicv2 b3a b3n b3c sig4 h)
theorem oracle_Oracle_Verify.run (o1 : Option Addr) (publicv2 : Int) (b3a : Option Addr) (b3n : Nat) (b3c : Nat) (sig4 : Int) {V : Value} {Q : World → Prop} {w : World} (h : oracle_Oracle_Verify.N o1 publicv2 b3a b3n b3c sig4 (fun v w' => v = V ∧ Q w') w) : Calls Try.prog 55 #[.pointer o1, .int .u64 publicv2, .slice b3a b3n b3c, .int .u64 sig4] w (Ret V Q) := (oracle_Oracle_Verify.go o1 publicv2 b3a b3n b3c sig4 h).mono fun e w' ⟨v, he, hv, hq⟩ => ⟨by rw [he, hv], hq⟩

/-- entry.Sum -/
def entry_Sum.M (o1 : Option Addr) (eWriter2 : Int) (eIndex3 : Int) (ePrev4 : Int) (eAtT5 : Int) (eAtW6 : Int) (eEpoch7 : Int) (eBody8a : Option Addr) (eBody8n : Nat) (eBody8c : Nat) (eSig9 : Int) (R : Value → World → Prop) (w : World) : Prop :=
  thenW (w.alloc (.cells #[.int .i64 eWriter2, .int .i64 eIndex3, .int .u64 ePrev4, .int .i64 eAtT5, .int .i64 eAtW6, .int .i64 eEpoch7, .slice eBody8a eBody8n eBody8c, .int .u64 eSig9] 27)) fun ww10 =>
  ∃ (xWriter11 : Int) (xIndex12 : Int) (xPrev13 : Int) (xAtT14 : Int) (xAtW15 : Int) (xEpoch16 : Int) (xBody17a : Option Addr) (xBody17n : Nat) (xBody17c : Nat) (xSig18 : Int), cellsAt ww10 (blk w.heap.size) [.int .i64 xWriter11, .int .i64 xIndex12, .int .u64 xPrev13, .int .i64 xAtT14, .int .i64 xAtW15, .int .i64 xEpoch16, .slice xBody17a xBody17n xBody17c, .int .u64 xSig18] 0 ∧
  Calls Try.prog 10 #[.agg #[.int .i64 xWriter11, .int .i64 xIndex12, .int .u64 xPrev13, .int .i64 xAtT14, .int .i64 xAtW15, .int .i64 xEpoch16, .slice xBody17a xBody17n xBody17c, .int .u64 xSig18]] ww10 fun ee21 ww22 => ∃ (bytes19a : Option Addr) (bytes19n : Nat) (bytes19c : Nat) (bytes20 : Int), ee21 = .returned (.tuple #[.slice bytes19a bytes19n bytes19c, .int .i64 bytes20]) ∧
  bif bytes20 != 0 then (
  R (.tuple #[.int .u64 0, .int .i64 bytes20]) ww22) else (
  bif Option.isNone o1 then (
  R (.tuple #[.int .u64 0, .int .i64 23]) ww22) else (
  Calls Try.prog 52 #[.pointer o1, .slice bytes19a bytes19n bytes19c] ww22 fun ee24 ww25 => ∃ (hash23 : Int), ee24 = .returned (.int .u64 hash23) ∧
  R (.tuple #[.int .u64 hash23, .int .i64 0]) ww25))

theorem entry_Sum.eq (o1 : Option Addr) (eWriter2 : Int) (eIndex3 : Int) (ePrev4 : Int) (eAtT5 : Int) (eAtW6 : Int) (eEpoch7 : Int) (eBody8a : Option Addr) (eBody8n : Nat) (eBody8c : Nat) (eSig9 : Int) (R : Value → World → Prop) (w : World) : mfunc Try.prog [] 23 [.pointer o1, .agg #[.int .i64 eWriter2, .int .i64 eIndex3, .int .u64 ePrev4, .int .i64 eAtT5, .int .i64 eAtW6, .int .i64 eEpoch7, .slice eBody8a eBody8n eBody8c, .int .u64 eSig9]] R w = entry_Sum.M o1 eWriter2 eIndex3 ePrev4 eAtT5 eAtW6 eEpoch7 eBody8a eBody8n eBody8c eSig9 R w := by kernel_rfl
theorem entry_Sum.ok (o1 : Option Addr) (eWriter2 : Int) (eIndex3 : Int) (ePrev4 : Int) (eAtT5 : Int) (eAtW6 : Int) (eEpoch7 : Int) (eBody8a : Option Addr) (eBody8n : Nat) (eBody8c : Nat) (eSig9 : Int) {R : Value → World → Prop} {w : World} (h : entry_Sum.M o1 eWriter2 eIndex3 ePrev4 eAtT5 eAtW6 eEpoch7 eBody8a eBody8n eBody8c eSig9 R w) : Calls Try.prog 23 #[.pointer o1, .agg #[.int .i64 eWriter2, .int .i64 eIndex3, .int .u64 ePrev4, .int .i64 eAtT5, .int .i64 eAtW6, .int .i64 eEpoch7, .slice eBody8a eBody8n eBody8c, .int .u64 eSig9]] w fun e w' => ∃ v, e = .returned v ∧ R v w' :=
  mfunc_ok follows (H := []) (args := [.pointer o1, .agg #[.int .i64 eWriter2, .int .i64 eIndex3, .int .u64 ePrev4, .int .i64 eAtT5, .int .i64 eAtW6, .int .i64 eEpoch7, .slice eBody8a eBody8n eBody8c, .int .u64 eSig9]]) (by rw [entry_Sum.eq]; exact h)

def entry_Sum.N (o1 : Option Addr) (eWriter2 : Int) (eIndex3 : Int) (ePrev4 : Int) (eAtT5 : Int) (eAtW6 : Int) (eEpoch7 : Int) (eBody8a : Option Addr) (eBody8n : Nat) (eBody8c : Nat) (eSig9 : Int) (R : Value → World → Prop) (w : World) : Prop :=
  ∀ (ww10 : World), Ext no w ww10 →
  Calls Try.prog 10 #[.agg #[.int .i64 eWriter2, .int .i64 eIndex3, .int .u64 ePrev4, .int .i64 eAtT5, .int .i64 eAtW6, .int .i64 eEpoch7, .slice eBody8a eBody8n eBody8c, .int .u64 eSig9]] ww10 fun ee14 ww15 => ∃ (bytes12a : Option Addr) (bytes12n : Nat) (bytes12c : Nat) (bytes13 : Int), ee14 = .returned (.tuple #[.slice bytes12a bytes12n bytes12c, .int .i64 bytes13]) ∧
  (bytes13 ≠ 0 →
    R (.tuple #[.int .u64 0, .int .i64 bytes13]) ww15) ∧
  (bytes13 = 0 →
    (o1 = none →
      R (.tuple #[.int .u64 0, .int .i64 23]) ww15) ∧
    (o1 ≠ none →
      Calls Try.prog 52 #[.pointer o1, .slice bytes12a bytes12n bytes12c] ww15 fun ee19 ww20 => ∃ (hash18 : Int), ee19 = .returned (.int .u64 hash18) ∧
      R (.tuple #[.int .u64 hash18, .int .i64 0]) ww20))

theorem entry_Sum.up (o1 : Option Addr) (eWriter2 : Int) (eIndex3 : Int) (ePrev4 : Int) (eAtT5 : Int) (eAtW6 : Int) (eEpoch7 : Int) (eBody8a : Option Addr) (eBody8n : Nat) (eBody8c : Nat) (eSig9 : Int) {R : Value → World → Prop} {w : World} (h : entry_Sum.N o1 eWriter2 eIndex3 ePrev4 eAtT5 eAtW6 eEpoch7 eBody8a eBody8n eBody8c eSig9 R w) : entry_Sum.M o1 eWriter2 eIndex3 ePrev4 eAtT5 eAtW6 eEpoch7 eBody8a eBody8n eBody8c eSig9 R w := by
  unfold entry_Sum.M
  unfold entry_Sum.N at h
  refine thenW_in fun ww10 e10 => ?_
  have hb1 := Blk.of_new e10
  have hg1 := ((Ext.refl no w)).size
  have hx10 := (Ext.refl no w).x_alloc e10
  refine ⟨eWriter2, eIndex3, ePrev4, eAtT5, eAtW6, eEpoch7, eBody8a, eBody8n, eBody8c, eSig9, ⟨hb1.celli 0 rfl rfl, hb1.celli 1 rfl rfl, hb1.celli 2 rfl rfl, hb1.celli 3 rfl rfl, hb1.celli 4 rfl rfl, hb1.celli 5 rfl rfl, hb1.celli 6 rfl rfl, hb1.celli 7 rfl rfl, trivial⟩, ?_⟩
  have h := h ww10 hx10
  refine h.mono fun ee14 ww15 h => ?_
  obtain ⟨bytes12a, bytes12n, bytes12c, bytes13, he, h⟩ := h
  refine ⟨bytes12a, bytes12n, bytes12c, bytes13, he, ?_⟩
  refine bif_of (fun c16 => ?_) (fun c16 => ?_)
  · have h := h.1 (bne_t c16)
    exact h
  · have h := h.2 (bne_f c16)
    refine bif_of (fun c17 => ?_) (fun c17 => ?_)
    · have h := h.1 (isNone_t c17)
      exact h
    · have h := h.2 (isNone_f c17)
      refine h.mono fun ee19 ww20 h => ?_
      obtain ⟨hash18, he, h⟩ := h
      refine ⟨hash18, he, ?_⟩
      exact h

theorem entry_Sum.go (o1 : Option Addr) (eWriter2 : Int) (eIndex3 : Int) (ePrev4 : Int) (eAtT5 : Int) (eAtW6 : Int) (eEpoch7 : Int) (eBody8a : Option Addr) (eBody8n : Nat) (eBody8c : Nat) (eSig9 : Int) {R : Value → World → Prop} {w : World} (h : entry_Sum.N o1 eWriter2 eIndex3 ePrev4 eAtT5 eAtW6 eEpoch7 eBody8a eBody8n eBody8c eSig9 R w) : Calls Try.prog 23 #[.pointer o1, .agg #[.int .i64 eWriter2, .int .i64 eIndex3, .int .u64 ePrev4, .int .i64 eAtT5, .int .i64 eAtW6, .int .i64 eEpoch7, .slice eBody8a eBody8n eBody8c, .int .u64 eSig9]] w fun e w' => ∃ v, e = .returned v ∧ R v w' := entry_Sum.ok o1 eWriter2 eIndex3 ePrev4 eAtT5 eAtW6 eEpoch7 eBody8a eBody8n eBody8c eSig9 (entry_Sum.up o1 eWriter2 eIndex3 ePrev4 eAtT5 eAtW6 eEpoch7 eBody8a eBody8n eBody8c eSig9 h)
theorem entry_Sum.run (o1 : Option Addr) (eWriter2 : Int) (eIndex3 : Int) (ePrev4 : Int) (eAtT5 : Int) (eAtW6 : Int) (eEpoch7 : Int) (eBody8a : Option Addr) (eBody8n : Nat) (eBody8c : Nat) (eSig9 : Int) {V : Value} {Q : World → Prop} {w : World} (h : entry_Sum.N o1 eWriter2 eIndex3 ePrev4 eAtT5 eAtW6 eEpoch7 eBody8a eBody8n eBody8c eSig9 (fun v w' => v = V ∧ Q w') w) : Calls Try.prog 23 #[.pointer o1, .agg #[.int .i64 eWriter2, .int .i64 eIndex3, .int .u64 ePrev4, .int .i64 eAtT5, .int .i64 eAtW6, .int .i64 eEpoch7, .slice eBody8a eBody8n eBody8c, .int .u64 eSig9]] w (Ret V Q) := (entry_Sum.go o1 eWriter2 eIndex3 ePrev4 eAtT5 eAtW6 eEpoch7 eBody8a eBody8n eBody8c eSig9 h).mono fun e w' ⟨v, he, hv, hq⟩ => ⟨by rw [he, hv], hq⟩

/-- entry.Sign -/
def entry_Sign.M (o1 : Option Addr) (secret2 : Int) (eWriter3 : Int) (eIndex4 : Int) (ePrev5 : Int) (eAtT6 : Int) (eAtW7 : Int) (eEpoch8 : Int) (eBody9a : Option Addr) (eBody9n : Nat) (eBody9c : Nat) (eSig10 : Int) (R : Value → World → Prop) (w : World) : Prop :=
  thenW (w.alloc (.cells #[.int .i64 eWriter3, .int .i64 eIndex4, .int .u64 ePrev5, .int .i64 eAtT6, .int .i64 eAtW7, .int .i64 eEpoch8, .slice eBody9a eBody9n eBody9c, .int .u64 eSig10] 27)) fun ww11 =>
  thenW (ww11.alloc (.cells #[.int .i64 0, .int .i64 0, .int .u64 0, .int .i64 0, .int .i64 0, .int .i64 0, .slice none 0 0, .int .u64 0] 27)) fun ww12 =>
  ∃ (xWriter13 : Int) (xIndex14 : Int) (xPrev15 : Int) (xAtT16 : Int) (xAtW17 : Int) (xEpoch18 : Int) (xBody19a : Option Addr) (xBody19n : Nat) (xBody19c : Nat) (xSig20 : Int), cellsAt ww12 (blk w.heap.size) [.int .i64 xWriter13, .int .i64 xIndex14, .int .u64 xPrev15, .int .i64 xAtT16, .int .i64 xAtW17, .int .i64 xEpoch18, .slice xBody19a xBody19n xBody19c, .int .u64 xSig20] 0 ∧
  Calls Try.prog 15 #[.agg #[.int .i64 xWriter13, .int .i64 xIndex14, .int .u64 xPrev15, .int .i64 xAtT16, .int .i64 xAtW17, .int .i64 xEpoch18, .slice xBody19a xBody19n xBody19c, .int .u64 xSig20]] ww12 fun ee23 ww24 => ∃ (text21a : Option Addr) (text21n : Nat) (text21c : Nat) (text22 : Int), ee23 = .returned (.tuple #[.slice text21a text21n text21c, .int .i64 text22]) ∧
  bif text22 != 0 then (
  canStore ww24 ((blk ww11.heap.size).add 0) ∧
  thenW (ww24.setCell ((blk ww11.heap.size).add 0) (.int .i64 0)) fun ww25 =>
  canStore ww25 ((blk ww11.heap.size).add 1) ∧
  thenW (ww25.setCell ((blk ww11.heap.size).add 1) (.int .i64 0)) fun ww26 =>
  canStore ww26 ((blk ww11.heap.size).add 2) ∧
  thenW (ww26.setCell ((blk ww11.heap.size).add 2) (.int .u64 0)) fun ww27 =>
  canStore ww27 ((blk ww11.heap.size).add 3) ∧
  thenW (ww27.setCell ((blk ww11.heap.size).add 3) (.int .i64 0)) fun ww28 =>
  canStore ww28 ((blk ww11.heap.size).add 4) ∧
  thenW (ww28.setCell ((blk ww11.heap.size).add 4) (.int .i64 0)) fun ww29 =>
  canStore ww29 ((blk ww11.heap.size).add 5) ∧
  thenW (ww29.setCell ((blk ww11.heap.size).add 5) (.int .i64 0)) fun ww30 =>
  canStore ww30 ((blk ww11.heap.size).add 6) ∧
  thenW (ww30.setCell ((blk ww11.heap.size).add 6) (.slice none 0 0)) fun ww31 =>
  canStore ww31 ((blk ww11.heap.size).add 7) ∧
  thenW (ww31.setCell ((blk ww11.heap.size).add 7) (.int .u64 0)) fun ww32 =>
  ∃ (resWriter33 : Int) (resIndex34 : Int) (resPrev35 : Int) (resAtT36 : Int) (resAtW37 : Int) (resEpoch38 : Int) (resBody39a : Option Addr) (resBody39n : Nat) (resBody39c : Nat) (resSig40 : Int), cellsAt ww32 (blk ww11.heap.size) [.int .i64 resWriter33, .int .i64 resIndex34, .int .u64 resPrev35, .int .i64 resAtT36, .int .i64 resAtW37, .int .i64 resEpoch38, .slice resBody39a resBody39n resBody39c, .int .u64 resSig40] 0 ∧
  R (.tuple #[.agg #[.int .i64 resWriter33, .int .i64 resIndex34, .int .u64 resPrev35, .int .i64 resAtT36, .int .i64 resAtW37, .int .i64 resEpoch38, .slice resBody39a resBody39n resBody39c, .int .u64 resSig40], .int .i64 text22]) ww32) else (
  Calls Try.prog 53 #[.pointer o1, .int .u64 secret2, .slice text21a text21n text21c] ww24 fun ee43 ww44 => ∃ (sign41 : Int) (sign42 : Int), ee43 = .returned (.tuple #[.int .u64 sign41, .int .i64 sign42]) ∧
  canStore ww44 (((blk w.heap.size).add 7).add 0) ∧
  thenW (ww44.setCell (((blk w.heap.size).add 7).add 0) (.int .u64 sign41)) fun ww45 =>
  bif sign42 != 0 then (
  canStore ww45 ((blk ww11.heap.size).add 0) ∧
  thenW (ww45.setCell ((blk ww11.heap.size).add 0) (.int .i64 0)) fun ww46 =>
  canStore ww46 ((blk ww11.heap.size).add 1) ∧
  thenW (ww46.setCell ((blk ww11.heap.size).add 1) (.int .i64 0)) fun ww47 =>
  canStore ww47 ((blk ww11.heap.size).add 2) ∧
  thenW (ww47.setCell ((blk ww11.heap.size).add 2) (.int .u64 0)) fun ww48 =>
  canStore ww48 ((blk ww11.heap.size).add 3) ∧
  thenW (ww48.setCell ((blk ww11.heap.size).add 3) (.int .i64 0)) fun ww49 =>
  canStore ww49 ((blk ww11.heap.size).add 4) ∧
  thenW (ww49.setCell ((blk ww11.heap.size).add 4) (.int .i64 0)) fun ww50 =>
  canStore ww50 ((blk ww11.heap.size).add 5) ∧
  thenW (ww50.setCell ((blk ww11.heap.size).add 5) (.int .i64 0)) fun ww51 =>
  canStore ww51 ((blk ww11.heap.size).add 6) ∧
  thenW (ww51.setCell ((blk ww11.heap.size).add 6) (.slice none 0 0)) fun ww52 =>
  canStore ww52 ((blk ww11.heap.size).add 7) ∧
  thenW (ww52.setCell ((blk ww11.heap.size).add 7) (.int .u64 0)) fun ww53 =>
  ∃ (resWriter54 : Int) (resIndex55 : Int) (resPrev56 : Int) (resAtT57 : Int) (resAtW58 : Int) (resEpoch59 : Int) (resBody60a : Option Addr) (resBody60n : Nat) (resBody60c : Nat) (resSig61 : Int), cellsAt ww53 (blk ww11.heap.size) [.int .i64 resWriter54, .int .i64 resIndex55, .int .u64 resPrev56, .int .i64 resAtT57, .int .i64 resAtW58, .int .i64 resEpoch59, .slice resBody60a resBody60n resBody60c, .int .u64 resSig61] 0 ∧
  R (.tuple #[.agg #[.int .i64 resWriter54, .int .i64 resIndex55, .int .u64 resPrev56, .int .i64 resAtT57, .int .i64 resAtW58, .int .i64 resEpoch59, .slice resBody60a resBody60n resBody60c, .int .u64 resSig61], .int .i64 sign42]) ww53) else (
  ∃ (Body62a : Option Addr) (Body62n : Nat) (Body62c : Nat), ww45.cell? ((blk w.heap.size).add 6) = some (.slice Body62a Body62n Body62c) ∧
  Calls Try.prog 54 #[.slice Body62a Body62n Body62c] ww45 fun ee64 ww65 => ∃ (clone63a : Option Addr) (clone63n : Nat) (clone63c : Nat), ee64 = .returned (.slice clone63a clone63n clone63c) ∧
  canStore ww65 (((blk w.heap.size).add 6).add 0) ∧
  thenW (ww65.setCell (((blk w.heap.size).add 6).add 0) (.slice clone63a clone63n clone63c)) fun ww66 =>
  ∃ (xWriter67 : Int) (xIndex68 : Int) (xPrev69 : Int) (xAtT70 : Int) (xAtW71 : Int) (xEpoch72 : Int) (xBody73a : Option Addr) (xBody73n : Nat) (xBody73c : Nat) (xSig74 : Int), cellsAt ww66 (blk w.heap.size) [.int .i64 xWriter67, .int .i64 xIndex68, .int .u64 xPrev69, .int .i64 xAtT70, .int .i64 xAtW71, .int .i64 xEpoch72, .slice xBody73a xBody73n xBody73c, .int .u64 xSig74] 0 ∧
  canStore ww66 ((blk ww11.heap.size).add 0) ∧
  thenW (ww66.setCell ((blk ww11.heap.size).add 0) (.int .i64 xWriter67)) fun ww75 =>
  canStore ww75 ((blk ww11.heap.size).add 1) ∧
  thenW (ww75.setCell ((blk ww11.heap.size).add 1) (.int .i64 xIndex68)) fun ww76 =>
  canStore ww76 ((blk ww11.heap.size).add 2) ∧
  thenW (ww76.setCell ((blk ww11.heap.size).add 2) (.int .u64 xPrev69)) fun ww77 =>
  canStore ww77 ((blk ww11.heap.size).add 3) ∧
  thenW (ww77.setCell ((blk ww11.heap.size).add 3) (.int .i64 xAtT70)) fun ww78 =>
  canStore ww78 ((blk ww11.heap.size).add 4) ∧
  thenW (ww78.setCell ((blk ww11.heap.size).add 4) (.int .i64 xAtW71)) fun ww79 =>
  canStore ww79 ((blk ww11.heap.size).add 5) ∧
  thenW (ww79.setCell ((blk ww11.heap.size).add 5) (.int .i64 xEpoch72)) fun ww80 =>
  canStore ww80 ((blk ww11.heap.size).add 6) ∧
  thenW (ww80.setCell ((blk ww11.heap.size).add 6) (.slice xBody73a xBody73n xBody73c)) fun ww81 =>
  canStore ww81 ((blk ww11.heap.size).add 7) ∧
  thenW (ww81.setCell ((blk ww11.heap.size).add 7) (.int .u64 xSig74)) fun ww82 =>
  ∃ (resWriter83 : Int) (resIndex84 : Int) (resPrev85 : Int) (resAtT86 : Int) (resAtW87 : Int) (resEpoch88 : Int) (resBody89a : Option Addr) (resBody89n : Nat) (resBody89c : Nat) (resSig90 : Int), cellsAt ww82 (blk ww11.heap.size) [.int .i64 resWriter83, .int .i64 resIndex84, .int .u64 resPrev85, .int .i64 resAtT86, .int .i64 resAtW87, .int .i64 resEpoch88, .slice resBody89a resBody89n resBody89c, .int .u64 resSig90] 0 ∧
  R (.tuple #[.agg #[.int .i64 resWriter83, .int .i64 resIndex84, .int .u64 resPrev85, .int .i64 resAtT86, .int .i64 resAtW87, .int .i64 resEpoch88, .slice resBody89a resBody89n resBody89c, .int .u64 resSig90], .int .i64 0]) ww82))

theorem entry_Sign.eq (o1 : Option Addr) (secret2 : Int) (eWriter3 : Int) (eIndex4 : Int) (ePrev5 : Int) (eAtT6 : Int) (eAtW7 : Int) (eEpoch8 : Int) (eBody9a : Option Addr) (eBody9n : Nat) (eBody9c : Nat) (eSig10 : Int) (R : Value → World → Prop) (w : World) : mfunc Try.prog [] 24 [.pointer o1, .int .u64 secret2, .agg #[.int .i64 eWriter3, .int .i64 eIndex4, .int .u64 ePrev5, .int .i64 eAtT6, .int .i64 eAtW7, .int .i64 eEpoch8, .slice eBody9a eBody9n eBody9c, .int .u64 eSig10]] R w = entry_Sign.M o1 secret2 eWriter3 eIndex4 ePrev5 eAtT6 eAtW7 eEpoch8 eBody9a eBody9n eBody9c eSig10 R w := by kernel_rfl
theorem entry_Sign.ok (o1 : Option Addr) (secret2 : Int) (eWriter3 : Int) (eIndex4 : Int) (ePrev5 : Int) (eAtT6 : Int) (eAtW7 : Int) (eEpoch8 : Int) (eBody9a : Option Addr) (eBody9n : Nat) (eBody9c : Nat) (eSig10 : Int) {R : Value → World → Prop} {w : World} (h : entry_Sign.M o1 secret2 eWriter3 eIndex4 ePrev5 eAtT6 eAtW7 eEpoch8 eBody9a eBody9n eBody9c eSig10 R w) : Calls Try.prog 24 #[.pointer o1, .int .u64 secret2, .agg #[.int .i64 eWriter3, .int .i64 eIndex4, .int .u64 ePrev5, .int .i64 eAtT6, .int .i64 eAtW7, .int .i64 eEpoch8, .slice eBody9a eBody9n eBody9c, .int .u64 eSig10]] w fun e w' => ∃ v, e = .returned v ∧ R v w' :=
  mfunc_ok follows (H := []) (args := [.pointer o1, .int .u64 secret2, .agg #[.int .i64 eWriter3, .int .i64 eIndex4, .int .u64 ePrev5, .int .i64 eAtT6, .int .i64 eAtW7, .int .i64 eEpoch8, .slice eBody9a eBody9n eBody9c, .int .u64 eSig10]]) (by rw [entry_Sign.eq]; exact h)

def entry_Sign.N (o1 : Option Addr) (secret2 : Int) (eWriter3 : Int) (eIndex4 : Int) (ePrev5 : Int) (eAtT6 : Int) (eAtW7 : Int) (eEpoch8 : Int) (eBody9a : Option Addr) (eBody9n : Nat) (eBody9c : Nat) (eSig10 : Int) (R : Value → World → Prop) (w : World) : Prop :=
  ∀ (ww12 : World) (p13 : Nat) (p14 : Nat), Ext no w ww12 → Priv w ww12 [p13, p14] →
  Calls Try.prog 15 #[.agg #[.int .i64 eWriter3, .int .i64 eIndex4, .int .u64 ePrev5, .int .i64 eAtT6, .int .i64 eAtW7, .int .i64 eEpoch8, .slice eBody9a eBody9n eBody9c, .int .u64 eSig10]] ww12 fun ee17 ww18 => ∃ (text15a : Option Addr) (text15n : Nat) (text15c : Nat) (text16 : Int), ee17 = .returned (.tuple #[.slice text15a text15n text15c, .int .i64 text16]) ∧
  Keep [p13, p14] ww12 ww18 ∧
  (text16 ≠ 0 →
    ∀ (ww27 : World), Ext (fun b => b = p14) ww18 ww27 →
    R (.tuple #[.agg #[.int .i64 0, .int .i64 0, .int .u64 0, .int .i64 0, .int .i64 0, .int .i64 0, .slice none 0 0, .int .u64 0], .int .i64 text16]) ww27) ∧
  (text16 = 0 →
    Calls Try.prog 53 #[.pointer o1, .int .u64 secret2, .slice text15a text15n text15c] ww18 fun ee30 ww31 => ∃ (sign28 : Int) (sign29 : Int), ee30 = .returned (.tuple #[.int .u64 sign28, .int .i64 sign29]) ∧
    Keep [p13, p14] ww18 ww31 ∧
    (sign29 ≠ 0 →
      ∀ (ww41 : World), Ext (fun b => b = p14 ∨ b = p13) ww31 ww41 →
      R (.tuple #[.agg #[.int .i64 0, .int .i64 0, .int .u64 0, .int .i64 0, .int .i64 0, .int .i64 0, .slice none 0 0, .int .u64 0], .int .i64 sign29]) ww41) ∧
    (sign29 = 0 →
      ∀ (ww32 : World), Ext (fun b => b = p13) ww31 ww32 →
      Calls Try.prog 54 #[.slice eBody9a eBody9n eBody9c] ww32 fun ee43 ww44 => ∃ (clone42a : Option Addr) (clone42n : Nat) (clone42c : Nat), ee43 = .returned (.slice clone42a clone42n clone42c) ∧
      Keep [p13, p14] ww32 ww44 ∧
      ∀ (ww53 : World), Ext (fun b => b = p14 ∨ b = p13) ww44 ww53 →
      R (.tuple #[.agg #[.int .i64 eWriter3, .int .i64 eIndex4, .int .u64 ePrev5, .int .i64 eAtT6, .int .i64 eAtW7, .int .i64 eEpoch8, .slice clone42a clone42n clone42c, .int .u64 sign28], .int .i64 0]) ww53))

theorem entry_Sign.up (o1 : Option Addr) (secret2 : Int) (eWriter3 : Int) (eIndex4 : Int) (ePrev5 : Int) (eAtT6 : Int) (eAtW7 : Int) (eEpoch8 : Int) (eBody9a : Option Addr) (eBody9n : Nat) (eBody9c : Nat) (eSig10 : Int) {R : Value → World → Prop} {w : World} (h : entry_Sign.N o1 secret2 eWriter3 eIndex4 ePrev5 eAtT6 eAtW7 eEpoch8 eBody9a eBody9n eBody9c eSig10 R w) : entry_Sign.M o1 secret2 eWriter3 eIndex4 ePrev5 eAtT6 eAtW7 eEpoch8 eBody9a eBody9n eBody9c eSig10 R w := by
  unfold entry_Sign.M
  unfold entry_Sign.N at h
  refine thenW_in fun ww11 e11 => ?_
  have hb1 := Blk.of_new e11
  have hg1 := ((Ext.refl no w)).size
  have hx11 := (Ext.refl no w).x_alloc e11
  refine thenW_in fun ww12 e12 => ?_
  have hb2 := Blk.of_new e12
  have hg2 := (hx11).size
  have hb1_2 := Nat.ne_of_lt hb1.lt
  have hb1 := hb1.x_alloc e12
  have hx12 := hx11.x_alloc e12
  refine ⟨eWriter3, eIndex4, ePrev5, eAtT6, eAtW7, eEpoch8, eBody9a, eBody9n, eBody9c, eSig10, ⟨hb1.celli 0 rfl rfl, hb1.celli 1 rfl rfl, hb1.celli 2 rfl rfl, hb1.celli 3 rfl rfl, hb1.celli 4 rfl rfl, hb1.celli 5 rfl rfl, hb1.celli 6 rfl rfl, hb1.celli 7 rfl rfl, trivial⟩, ?_⟩
  have h := h ww12 (w.heap.size) (ww11.heap.size) hx12 (Priv.cons hg1 hb1.lt (Priv.cons hg2 hb2.lt Priv.nil))
  refine h.mono fun ee17 ww18 h => ?_
  obtain ⟨text15a, text15n, text15c, text16, he, hk, h⟩ := h
  refine ⟨text15a, text15n, text15c, text16, he, ?_⟩
  have hb1 := hk.blk hb1 (by simp)
  have hb2 := hk.blk hb2 (by simp)
  refine bif_of (fun c19 => ?_) (fun c19 => ?_)
  · have h := h.1 (bne_t c19)
    have hm27 : Ext (fun b => b = ww11.heap.size) ww18 ww18 := ((Ext.refl no ww18)).none
    refine ⟨hb2.cani 0 rfl rfl, thenW_in fun ww20 e20 => ?_⟩
    have hx20 := hm27.x_set (q := ww11.heap.size) (i := 0) rfl (.inl rfl) e20
    have hb2 := hb2.seti 0 rfl e20
    refine ⟨hb2.cani 1 rfl rfl, thenW_in fun ww21 e21 => ?_⟩
    have hx21 := hx20.x_set (q := ww11.heap.size) (i := 1) rfl (.inl rfl) e21
    have hb2 := hb2.seti 1 rfl e21
    refine ⟨hb2.cani 2 rfl rfl, thenW_in fun ww22 e22 => ?_⟩
    have hx22 := hx21.x_set (q := ww11.heap.size) (i := 2) rfl (.inl rfl) e22
    have hb2 := hb2.seti 2 rfl e22
    refine ⟨hb2.cani 3 rfl rfl, thenW_in fun ww23 e23 => ?_⟩
    have hx23 := hx22.x_set (q := ww11.heap.size) (i := 3) rfl (.inl rfl) e23
    have hb2 := hb2.seti 3 rfl e23
    refine ⟨hb2.cani 4 rfl rfl, thenW_in fun ww24 e24 => ?_⟩
    have hx24 := hx23.x_set (q := ww11.heap.size) (i := 4) rfl (.inl rfl) e24
    have hb2 := hb2.seti 4 rfl e24
    refine ⟨hb2.cani 5 rfl rfl, thenW_in fun ww25 e25 => ?_⟩
    have hx25 := hx24.x_set (q := ww11.heap.size) (i := 5) rfl (.inl rfl) e25
    have hb2 := hb2.seti 5 rfl e25
    refine ⟨hb2.cani 6 rfl rfl, thenW_in fun ww26 e26 => ?_⟩
    have hx26 := hx25.x_set (q := ww11.heap.size) (i := 6) rfl (.inl rfl) e26
    have hb2 := hb2.seti 6 rfl e26
    refine ⟨hb2.cani 7 rfl rfl, thenW_in fun ww27 e27 => ?_⟩
    have hx27 := hx26.x_set (q := ww11.heap.size) (i := 7) rfl (.inl rfl) e27
    have hb2 := hb2.seti 7 rfl e27
    refine ⟨0, 0, 0, 0, 0, 0, none, 0, 0, 0, ⟨hb2.celli 0 rfl rfl, hb2.celli 1 rfl rfl, hb2.celli 2 rfl rfl, hb2.celli 3 rfl rfl, hb2.celli 4 rfl rfl, hb2.celli 5 rfl rfl, hb2.celli 6 rfl rfl, hb2.celli 7 rfl rfl, trivial⟩, ?_⟩
    have h := h ww27 hx27
    exact h
  · have h := h.2 (bne_f c19)
    refine h.mono fun ee30 ww31 h => ?_
    obtain ⟨sign28, sign29, he, hk, h⟩ := h
    refine ⟨sign28, sign29, he, ?_⟩
    have hb1 := hk.blk hb1 (by simp)
    have hb2 := hk.blk hb2 (by simp)
    have hm32 : Ext (fun b => b = w.heap.size) ww31 ww31 := ((Ext.refl no ww31)).none
    refine ⟨hb1.cani 7 rfl rfl, thenW_in fun ww32 e32 => ?_⟩
    have hx32 := hm32.x_set (q := w.heap.size) (i := 7) rfl (.inl rfl) e32
    have hb1 := hb1.seti 7 rfl e32
    have hb2 := hb2.oth (q := w.heap.size) (i := 7) rfl (Ne.symm hb1_2) e32
    refine bif_of (fun c33 => ?_) (fun c33 => ?_)
    · have h := h.1 (bne_t c33)
      have hm41 : Ext (fun b => b = ww11.heap.size ∨ b = w.heap.size) ww31 ww32 := (hx32).mono fun _ h _ => .inr h
      refine ⟨hb2.cani 0 rfl rfl, thenW_in fun ww34 e34 => ?_⟩
      have hx34 := hm41.x_set (q := ww11.heap.size) (i := 0) rfl (.inl (.inl rfl)) e34
      have hb2 := hb2.seti 0 rfl e34
      refine ⟨hb2.cani 1 rfl rfl, thenW_in fun ww35 e35 => ?_⟩
      have hx35 := hx34.x_set (q := ww11.heap.size) (i := 1) rfl (.inl (.inl rfl)) e35
      have hb2 := hb2.seti 1 rfl e35
      refine ⟨hb2.cani 2 rfl rfl, thenW_in fun ww36 e36 => ?_⟩
      have hx36 := hx35.x_set (q := ww11.heap.size) (i := 2) rfl (.inl (.inl rfl)) e36
      have hb2 := hb2.seti 2 rfl e36
      refine ⟨hb2.cani 3 rfl rfl, thenW_in fun ww37 e37 => ?_⟩
      have hx37 := hx36.x_set (q := ww11.heap.size) (i := 3) rfl (.inl (.inl rfl)) e37
      have hb2 := hb2.seti 3 rfl e37
      refine ⟨hb2.cani 4 rfl rfl, thenW_in fun ww38 e38 => ?_⟩
      have hx38 := hx37.x_set (q := ww11.heap.size) (i := 4) rfl (.inl (.inl rfl)) e38
      have hb2 := hb2.seti 4 rfl e38
      refine ⟨hb2.cani 5 rfl rfl, thenW_in fun ww39 e39 => ?_⟩
      have hx39 := hx38.x_set (q := ww11.heap.size) (i := 5) rfl (.inl (.inl rfl)) e39
      have hb2 := hb2.seti 5 rfl e39
      refine ⟨hb2.cani 6 rfl rfl, thenW_in fun ww40 e40 => ?_⟩
      have hx40 := hx39.x_set (q := ww11.heap.size) (i := 6) rfl (.inl (.inl rfl)) e40
      have hb2 := hb2.seti 6 rfl e40
      refine ⟨hb2.cani 7 rfl rfl, thenW_in fun ww41 e41 => ?_⟩
      have hx41 := hx40.x_set (q := ww11.heap.size) (i := 7) rfl (.inl (.inl rfl)) e41
      have hb2 := hb2.seti 7 rfl e41
      refine ⟨0, 0, 0, 0, 0, 0, none, 0, 0, 0, ⟨hb2.celli 0 rfl rfl, hb2.celli 1 rfl rfl, hb2.celli 2 rfl rfl, hb2.celli 3 rfl rfl, hb2.celli 4 rfl rfl, hb2.celli 5 rfl rfl, hb2.celli 6 rfl rfl, hb2.celli 7 rfl rfl, trivial⟩, ?_⟩
      have h := h ww41 hx41
      exact h
    · have h := h.2 (bne_f c33)
      refine ⟨eBody9a, eBody9n, eBody9c, hb1.celli 6 rfl rfl, ?_⟩
      have h := h ww32 hx32
      refine h.mono fun ee43 ww44 h => ?_
      obtain ⟨clone42a, clone42n, clone42c, he, hk, h⟩ := h
      refine ⟨clone42a, clone42n, clone42c, he, ?_⟩
      have hb1 := hk.blk hb1 (by simp)
      have hb2 := hk.blk hb2 (by simp)
      have hm45 : Ext (fun b => b = w.heap.size) ww44 ww44 := ((Ext.refl no ww44)).none
      refine ⟨hb1.cani 6 rfl rfl, thenW_in fun ww45 e45 => ?_⟩
      have hx45 := hm45.x_set (q := w.heap.size) (i := 6) rfl (.inl rfl) e45
      have hb1 := hb1.seti 6 rfl e45
      have hb2 := hb2.oth (q := w.heap.size) (i := 6) rfl (Ne.symm hb1_2) e45
      refine ⟨eWriter3, eIndex4, ePrev5, eAtT6, eAtW7, eEpoch8, clone42a, clone42n, clone42c, sign28, ⟨hb1.celli 0 rfl rfl, hb1.celli 1 rfl rfl, hb1.celli 2 rfl rfl, hb1.celli 3 rfl rfl, hb1.celli 4 rfl rfl, hb1.celli 5 rfl rfl, hb1.celli 6 rfl rfl, hb1.celli 7 rfl rfl, trivial⟩, ?_⟩
      have hm53 : Ext (fun b => b = ww11.heap.size ∨ b = w.heap.size) ww44 ww45 := (hx45).mono fun _ h _ => .inr h
      refine ⟨hb2.cani 0 rfl rfl, thenW_in fun ww46 e46 => ?_⟩
      have hx46 := hm53.x_set (q := ww11.heap.size) (i := 0) rfl (.inl (.inl rfl)) e46
      have hb2 := hb2.seti 0 rfl e46
      refine ⟨hb2.cani 1 rfl rfl, thenW_in fun ww47 e47 => ?_⟩
      have hx47 := hx46.x_set (q := ww11.heap.size) (i := 1) rfl (.inl (.inl rfl)) e47
      have hb2 := hb2.seti 1 rfl e47
      refine ⟨hb2.cani 2 rfl rfl, thenW_in fun ww48 e48 => ?_⟩
      have hx48 := hx47.x_set (q := ww11.heap.size) (i := 2) rfl (.inl (.inl rfl)) e48
      have hb2 := hb2.seti 2 rfl e48
      refine ⟨hb2.cani 3 rfl rfl, thenW_in fun ww49 e49 => ?_⟩
      have hx49 := hx48.x_set (q := ww11.heap.size) (i := 3) rfl (.inl (.inl rfl)) e49
      have hb2 := hb2.seti 3 rfl e49
      refine ⟨hb2.cani 4 rfl rfl, thenW_in fun ww50 e50 => ?_⟩
      have hx50 := hx49.x_set (q := ww11.heap.size) (i := 4) rfl (.inl (.inl rfl)) e50
      have hb2 := hb2.seti 4 rfl e50
      refine ⟨hb2.cani 5 rfl rfl, thenW_in fun ww51 e51 => ?_⟩
      have hx51 := hx50.x_set (q := ww11.heap.size) (i := 5) rfl (.inl (.inl rfl)) e51
      have hb2 := hb2.seti 5 rfl e51
      refine ⟨hb2.cani 6 rfl rfl, thenW_in fun ww52 e52 => ?_⟩
      have hx52 := hx51.x_set (q := ww11.heap.size) (i := 6) rfl (.inl (.inl rfl)) e52
      have hb2 := hb2.seti 6 rfl e52
      refine ⟨hb2.cani 7 rfl rfl, thenW_in fun ww53 e53 => ?_⟩
      have hx53 := hx52.x_set (q := ww11.heap.size) (i := 7) rfl (.inl (.inl rfl)) e53
      have hb2 := hb2.seti 7 rfl e53
      refine ⟨eWriter3, eIndex4, ePrev5, eAtT6, eAtW7, eEpoch8, clone42a, clone42n, clone42c, sign28, ⟨hb2.celli 0 rfl rfl, hb2.celli 1 rfl rfl, hb2.celli 2 rfl rfl, hb2.celli 3 rfl rfl, hb2.celli 4 rfl rfl, hb2.celli 5 rfl rfl, hb2.celli 6 rfl rfl, hb2.celli 7 rfl rfl, trivial⟩, ?_⟩
      have h := h ww53 hx53
      exact h

theorem entry_Sign.go (o1 : Option Addr) (secret2 : Int) (eWriter3 : Int) (eIndex4 : Int) (ePrev5 : Int) (eAtT6 : Int) (eAtW7 : Int) (eEpoch8 : Int) (eBody9a : Option Addr) (eBody9n : Nat) (eBody9c : Nat) (eSig10 : Int) {R : Value → World → Prop} {w : World} (h : entry_Sign.N o1 secret2 eWriter3 eIndex4 ePrev5 eAtT6 eAtW7 eEpoch8 eBody9a eBody9n eBody9c eSig10 R w) : Calls Try.prog 24 #[.pointer o1, .int .u64 secret2, .agg #[.int .i64 eWriter3, .int .i64 eIndex4, .int .u64 ePrev5, .int .i64 eAtT6, .int .i64 eAtW7, .int .i64 eEpoch8, .slice eBody9a eBody9n eBody9c, .int .u64 eSig10]] w fun e w' => ∃ v, e = .returned v ∧ R v w' := entry_Sign.ok o1 secret2 eWriter3 eIndex4 ePrev5 eAtT6 eAtW7 eEpoch8 eBody9a eBody9n eBody9c eSig10 (entry_Sign.up o1 secret2 eWriter3 eIndex4 ePrev5 eAtT6 eAtW7 eEpoch8 eBody9a eBody9n eBody9c eSig10 h)
theorem entry_Sign.run (o1 : Option Addr) (secret2 : Int) (eWriter3 : Int) (eIndex4 : Int) (ePrev5 : Int) (eAtT6 : Int) (eAtW7 : Int) (eEpoch8 : Int) (eBody9a : Option Addr) (eBody9n : Nat) (eBody9c : Nat) (eSig10 : Int) {V : Value} {Q : World → Prop} {w : World} (h : entry_Sign.N o1 secret2 eWriter3 eIndex4 ePrev5 eAtT6 eAtW7 eEpoch8 eBody9a eBody9n eBody9c eSig10 (fun v w' => v = V ∧ Q w') w) : Calls Try.prog 24 #[.pointer o1, .int .u64 secret2, .agg #[.int .i64 eWriter3, .int .i64 eIndex4, .int .u64 ePrev5, .int .i64 eAtT6, .int .i64 eAtW7, .int .i64 eEpoch8, .slice eBody9a eBody9n eBody9c, .int .u64 eSig10]] w (Ret V Q) := (entry_Sign.go o1 secret2 eWriter3 eIndex4 ePrev5 eAtT6 eAtW7 eEpoch8 eBody9a eBody9n eBody9c eSig10 h).mono fun e w' ⟨v, he, hv, hq⟩ => ⟨by rw [he, hv], hq⟩

/-- entry.Holds -/
def entry_Holds.M (o1 : Option Addr) (publicv2 : Int) (eWriter3 : Int) (eIndex4 : Int) (ePrev5 : Int) (eAtT6 : Int) (eAtW7 : Int) (eEpoch8 : Int) (eBody9a : Option Addr) (eBody9n : Nat) (eBody9c : Nat) (eSig10 : Int) (R : Value → World → Prop) (w : World) : Prop :=
  thenW (w.alloc (.cells #[.int .i64 eWriter3, .int .i64 eIndex4, .int .u64 ePrev5, .int .i64 eAtT6, .int .i64 eAtW7, .int .i64 eEpoch8, .slice eBody9a eBody9n eBody9c, .int .u64 eSig10] 27)) fun ww11 =>
  ∃ (xWriter12 : Int) (xIndex13 : Int) (xPrev14 : Int) (xAtT15 : Int) (xAtW16 : Int) (xEpoch17 : Int) (xBody18a : Option Addr) (xBody18n : Nat) (xBody18c : Nat) (xSig19 : Int), cellsAt ww11 (blk w.heap.size) [.int .i64 xWriter12, .int .i64 xIndex13, .int .u64 xPrev14, .int .i64 xAtT15, .int .i64 xAtW16, .int .i64 xEpoch17, .slice xBody18a xBody18n xBody18c, .int .u64 xSig19] 0 ∧
  Calls Try.prog 15 #[.agg #[.int .i64 xWriter12, .int .i64 xIndex13, .int .u64 xPrev14, .int .i64 xAtT15, .int .i64 xAtW16, .int .i64 xEpoch17, .slice xBody18a xBody18n xBody18c, .int .u64 xSig19]] ww11 fun ee22 ww23 => ∃ (text20a : Option Addr) (text20n : Nat) (text20c : Nat) (text21 : Int), ee22 = .returned (.tuple #[.slice text20a text20n text20c, .int .i64 text21]) ∧
  bif text21 == 0 then (
  ∃ (Sig24 : Int), ww23.cell? ((blk w.heap.size).add 7) = some (.int .u64 Sig24) ∧
  Calls Try.prog 55 #[.pointer o1, .int .u64 publicv2, .slice text20a text20n text20c, .int .u64 Sig24] ww23 fun ee26 ww27 => ∃ (verify25 : Bool), ee26 = .returned (.bool verify25) ∧
  R (.bool verify25) ww27) else (
  R (.bool false) ww23)

theorem entry_Holds.eq (o1 : Option Addr) (publicv2 : Int) (eWriter3 : Int) (eIndex4 : Int) (ePrev5 : Int) (eAtT6 : Int) (eAtW7 : Int) (eEpoch8 : Int) (eBody9a : Option Addr) (eBody9n : Nat) (eBody9c : Nat) (eSig10 : Int) (R : Value → World → Prop) (w : World) : mfunc Try.prog [] 25 [.pointer o1, .int .u64 publicv2, .agg #[.int .i64 eWriter3, .int .i64 eIndex4, .int .u64 ePrev5, .int .i64 eAtT6, .int .i64 eAtW7, .int .i64 eEpoch8, .slice eBody9a eBody9n eBody9c, .int .u64 eSig10]] R w = entry_Holds.M o1 publicv2 eWriter3 eIndex4 ePrev5 eAtT6 eAtW7 eEpoch8 eBody9a eBody9n eBody9c eSig10 R w := by kernel_rfl
theorem entry_Holds.ok (o1 : Option Addr) (publicv2 : Int) (eWriter3 : Int) (eIndex4 : Int) (ePrev5 : Int) (eAtT6 : Int) (eAtW7 : Int) (eEpoch8 : Int) (eBody9a : Option Addr) (eBody9n : Nat) (eBody9c : Nat) (eSig10 : Int) {R : Value → World → Prop} {w : World} (h : entry_Holds.M o1 publicv2 eWriter3 eIndex4 ePrev5 eAtT6 eAtW7 eEpoch8 eBody9a eBody9n eBody9c eSig10 R w) : Calls Try.prog 25 #[.pointer o1, .int .u64 publicv2, .agg #[.int .i64 eWriter3, .int .i64 eIndex4, .int .u64 ePrev5, .int .i64 eAtT6, .int .i64 eAtW7, .int .i64 eEpoch8, .slice eBody9a eBody9n eBody9c, .int .u64 eSig10]] w fun e w' => ∃ v, e = .returned v ∧ R v w' :=
  mfunc_ok follows (H := []) (args := [.pointer o1, .int .u64 publicv2, .agg #[.int .i64 eWriter3, .int .i64 eIndex4, .int .u64 ePrev5, .int .i64 eAtT6, .int .i64 eAtW7, .int .i64 eEpoch8, .slice eBody9a eBody9n eBody9c, .int .u64 eSig10]]) (by rw [entry_Holds.eq]; exact h)

def entry_Holds.N (o1 : Option Addr) (publicv2 : Int) (eWriter3 : Int) (eIndex4 : Int) (ePrev5 : Int) (eAtT6 : Int) (eAtW7 : Int) (eEpoch8 : Int) (eBody9a : Option Addr) (eBody9n : Nat) (eBody9c : Nat) (eSig10 : Int) (R : Value → World → Prop) (w : World) : Prop :=
  ∀ (ww11 : World) (p12 : Nat), Ext no w ww11 → Priv w ww11 [p12] →
  Calls Try.prog 15 #[.agg #[.int .i64 eWriter3, .int .i64 eIndex4, .int .u64 ePrev5, .int .i64 eAtT6, .int .i64 eAtW7, .int .i64 eEpoch8, .slice eBody9a eBody9n eBody9c, .int .u64 eSig10]] ww11 fun ee15 ww16 => ∃ (text13a : Option Addr) (text13n : Nat) (text13c : Nat) (text14 : Int), ee15 = .returned (.tuple #[.slice text13a text13n text13c, .int .i64 text14]) ∧
  Keep [p12] ww11 ww16 ∧
  (text14 = 0 →
    Calls Try.prog 55 #[.pointer o1, .int .u64 publicv2, .slice text13a text13n text13c, .int .u64 eSig10] ww16 fun ee19 ww20 => ∃ (verify18 : Bool), ee19 = .returned (.bool verify18) ∧
    R (.bool verify18) ww20) ∧
  (text14 ≠ 0 →
    R (.bool false) ww16)

theorem entry_Holds.up (o1 : Option Addr) (publicv2 : Int) (eWriter3 : Int) (eIndex4 : Int) (ePrev5 : Int) (eAtT6 : Int) (eAtW7 : Int) (eEpoch8 : Int) (eBody9a : Option Addr) (eBody9n : Nat) (eBody9c : Nat) (eSig10 : Int) {R : Value → World → Prop} {w : World} (h : entry_Holds.N o1 publicv2 eWriter3 eIndex4 ePrev5 eAtT6 eAtW7 eEpoch8 eBody9a eBody9n eBody9c eSig10 R w) : entry_Holds.M o1 publicv2 eWriter3 eIndex4 ePrev5 eAtT6 eAtW7 eEpoch8 eBody9a eBody9n eBody9c eSig10 R w := by
  unfold entry_Holds.M
  unfold entry_Holds.N at h
  refine thenW_in fun ww11 e11 => ?_
  have hb1 := Blk.of_new e11
  have hg1 := ((Ext.refl no w)).size
  have hx11 := (Ext.refl no w).x_alloc e11
  refine ⟨eWriter3, eIndex4, ePrev5, eAtT6, eAtW7, eEpoch8, eBody9a, eBody9n, eBody9c, eSig10, ⟨hb1.celli 0 rfl rfl, hb1.celli 1 rfl rfl, hb1.celli 2 rfl rfl, hb1.celli 3 rfl rfl, hb1.celli 4 rfl rfl, hb1.celli 5 rfl rfl, hb1.celli 6 rfl rfl, hb1.celli 7 rfl rfl, trivial⟩, ?_⟩
  have h := h ww11 (w.heap.size) hx11 (Priv.cons hg1 hb1.lt Priv.nil)
  refine h.mono fun ee15 ww16 h => ?_
  obtain ⟨text13a, text13n, text13c, text14, he, hk, h⟩ := h
  refine ⟨text13a, text13n, text13c, text14, he, ?_⟩
  have hb1 := hk.blk hb1 (by simp)
  refine bif_of (fun c17 => ?_) (fun c17 => ?_)
  · have h := h.1 (beq_t c17)
    refine ⟨eSig10, hb1.celli 7 rfl rfl, ?_⟩
    refine h.mono fun ee19 ww20 h => ?_
    obtain ⟨verify18, he, h⟩ := h
    refine ⟨verify18, he, ?_⟩
    exact h
  · have h := h.2 (beq_f c17)
    exact h

theorem entry_Holds.go (o1 : Option Addr) (publicv2 : Int) (eWriter3 : Int) (eIndex4 : Int) (ePrev5 : Int) (eAtT6 : Int) (eAtW7 : Int) (eEpoch8 : Int) (eBody9a : Option Addr) (eBody9n : Nat) (eBody9c : Nat) (eSig10 : Int) {R : Value → World → Prop} {w : World} (h : entry_Holds.N o1 publicv2 eWriter3 eIndex4 ePrev5 eAtT6 eAtW7 eEpoch8 eBody9a eBody9n eBody9c eSig10 R w) : Calls Try.prog 25 #[.pointer o1, .int .u64 publicv2, .agg #[.int .i64 eWriter3, .int .i64 eIndex4, .int .u64 ePrev5, .int .i64 eAtT6, .int .i64 eAtW7, .int .i64 eEpoch8, .slice eBody9a eBody9n eBody9c, .int .u64 eSig10]] w fun e w' => ∃ v, e = .returned v ∧ R v w' := entry_Holds.ok o1 publicv2 eWriter3 eIndex4 ePrev5 eAtT6 eAtW7 eEpoch8 eBody9a eBody9n eBody9c eSig10 (entry_Holds.up o1 publicv2 eWriter3 eIndex4 ePrev5 eAtT6 eAtW7 eEpoch8 eBody9a eBody9n eBody9c eSig10 h)
theorem entry_Holds.run (o1 : Option Addr) (publicv2 : Int) (eWriter3 : Int) (eIndex4 : Int) (ePrev5 : Int) (eAtT6 : Int) (eAtW7 : Int) (eEpoch8 : Int) (eBody9a : Option Addr) (eBody9n : Nat) (eBody9c : Nat) (eSig10 : Int) {V : Value} {Q : World → Prop} {w : World} (h : entry_Holds.N o1 publicv2 eWriter3 eIndex4 ePrev5 eAtT6 eAtW7 eEpoch8 eBody9a eBody9n eBody9c eSig10 (fun v w' => v = V ∧ Q w') w) : Calls Try.prog 25 #[.pointer o1, .int .u64 publicv2, .agg #[.int .i64 eWriter3, .int .i64 eIndex4, .int .u64 ePrev5, .int .i64 eAtT6, .int .i64 eAtW7, .int .i64 eEpoch8, .slice eBody9a eBody9n eBody9c, .int .u64 eSig10]] w (Ret V Q) := (entry_Holds.go o1 publicv2 eWriter3 eIndex4 ePrev5 eAtT6 eAtW7 eEpoch8 eBody9a eBody9n eBody9c eSig10 h).mono fun e w' ⟨v, he, hv, hq⟩ => ⟨by rw [he, hv], hq⟩

/-- cachettelaw06.EntryBounds -/
def cachettelaw06_EntryBounds.M (wv1 : Int) (i2 : Int) (ev3 : Int) (x4 : Int) (y5 : Int) (z6 : Int) (R : Value → World → Prop) (w : World) : Prop :=
  bif (if (0 : Int) > wv1 then 0 else wv1) == (if (0 : Int) > x4 then 0 else x4) then (
  bif (if (0 : Int) > i2 then 0 else i2) == (if (0 : Int) > y5 then 0 else y5) then (
  Calls Try.prog 23 #[.pointer none, .agg #[.int .i64 0, .int .i64 0, .int .u64 0, .int .i64 1, .int .i64 0, .int .i64 0, .slice none 0 0, .int .u64 0]] w fun ee9 ww10 => ∃ (sum7 : Int) (sum8 : Int), ee9 = .returned (.tuple #[.int .u64 sum7, .int .i64 sum8]) ∧
  Calls Try.prog 24 #[.pointer none, .int .u64 1, .agg #[.int .i64 0, .int .i64 0, .int .u64 0, .int .i64 1, .int .i64 0, .int .i64 0, .slice none 0 0, .int .u64 0]] ww10 fun ee20 ww21 => ∃ (Writer11 : Int) (Index12 : Int) (Prev13 : Int) (AtT14 : Int) (AtW15 : Int) (Epoch16 : Int) (Body17a : Option Addr) (Body17n : Nat) (Body17c : Nat) (Sig18 : Int) (sign19 : Int), ee20 = .returned (.tuple #[.agg #[.int .i64 Writer11, .int .i64 Index12, .int .u64 Prev13, .int .i64 AtT14, .int .i64 AtW15, .int .i64 Epoch16, .slice Body17a Body17n Body17c, .int .u64 Sig18], .int .i64 sign19]) ∧
  thenW (ww21.alloc (.cells #[.int .i64 0, .int .i64 0, .int .u64 0, .int .i64 0, .int .i64 0, .int .i64 0, .slice none 0 0, .int .u64 0] 27)) fun ww22 =>
  canStore ww22 ((blk ww21.heap.size).add 0) ∧
  thenW (ww22.setCell ((blk ww21.heap.size).add 0) (.int .i64 Writer11)) fun ww23 =>
  canStore ww23 ((blk ww21.heap.size).add 1) ∧
  thenW (ww23.setCell ((blk ww21.heap.size).add 1) (.int .i64 Index12)) fun ww24 =>
  canStore ww24 ((blk ww21.heap.size).add 2) ∧
  thenW (ww24.setCell ((blk ww21.heap.size).add 2) (.int .u64 Prev13)) fun ww25 =>
  canStore ww25 ((blk ww21.heap.size).add 3) ∧
  thenW (ww25.setCell ((blk ww21.heap.size).add 3) (.int .i64 AtT14)) fun ww26 =>
  canStore ww26 ((blk ww21.heap.size).add 4) ∧
  thenW (ww26.setCell ((blk ww21.heap.size).add 4) (.int .i64 AtW15)) fun ww27 =>
  canStore ww27 ((blk ww21.heap.size).add 5) ∧
  thenW (ww27.setCell ((blk ww21.heap.size).add 5) (.int .i64 Epoch16)) fun ww28 =>
  canStore ww28 ((blk ww21.heap.size).add 6) ∧
  thenW (ww28.setCell ((blk ww21.heap.size).add 6) (.slice Body17a Body17n Body17c)) fun ww29 =>
  canStore ww29 ((blk ww21.heap.size).add 7) ∧
  thenW (ww29.setCell ((blk ww21.heap.size).add 7) (.int .u64 Sig18)) fun ww30 =>
  Calls Try.prog 21 #[.int .i64 wv1, .int .i64 i2, .int .i64 ev3] ww30 fun ee32 ww33 => ∃ (bound31a : Option Addr) (bound31n : Nat) (bound31c : Nat), ee32 = .returned (.slice bound31a bound31n bound31c) ∧
  Calls Try.prog 21 #[.int .i64 x4, .int .i64 y5, .int .i64 z6] ww33 fun ee35 ww36 => ∃ (bound34a : Option Addr) (bound34n : Nat) (bound34c : Nat), ee35 = .returned (.slice bound34a bound34n bound34c) ∧
  Calls Try.prog 14 #[.slice bound31a bound31n bound31c, .slice bound34a bound34n bound34c] ww36 fun ee38 ww39 => ∃ (same37 : Bool), ee38 = .returned (.bool same37) ∧
  bif same37 == (ev3 == z6) then (
  bif sum8 == 23 then (
  bif sign19 == 23 then (
  Calls Try.prog 25 #[.pointer none, .int .u64 1, .agg #[.int .i64 0, .int .i64 0, .int .u64 0, .int .i64 1, .int .i64 0, .int .i64 0, .slice none 0 0, .int .u64 0]] ww39 fun ee41 ww42 => ∃ (holds40 : Bool), ee41 = .returned (.bool holds40) ∧
  bif !holds40 then (
  Calls Try.prog 9 #[] ww42 fun ee44 ww45 => ∃ (alive43 : Bool), ee44 = .returned (.bool alive43) ∧
  R (.bool alive43) ww45) else (
  R (.bool false) ww42)) else (
  R (.bool false) ww39)) else (
  R (.bool false) ww39)) else (
  R (.bool false) ww39)) else (
  Calls Try.prog 23 #[.pointer none, .agg #[.int .i64 0, .int .i64 0, .int .u64 0, .int .i64 1, .int .i64 0, .int .i64 0, .slice none 0 0, .int .u64 0]] w fun ee48 ww49 => ∃ (sum46 : Int) (sum47 : Int), ee48 = .returned (.tuple #[.int .u64 sum46, .int .i64 sum47]) ∧
  Calls Try.prog 24 #[.pointer none, .int .u64 1, .agg #[.int .i64 0, .int .i64 0, .int .u64 0, .int .i64 1, .int .i64 0, .int .i64 0, .slice none 0 0, .int .u64 0]] ww49 fun ee59 ww60 => ∃ (Writer50 : Int) (Index51 : Int) (Prev52 : Int) (AtT53 : Int) (AtW54 : Int) (Epoch55 : Int) (Body56a : Option Addr) (Body56n : Nat) (Body56c : Nat) (Sig57 : Int) (sign58 : Int), ee59 = .returned (.tuple #[.agg #[.int .i64 Writer50, .int .i64 Index51, .int .u64 Prev52, .int .i64 AtT53, .int .i64 AtW54, .int .i64 Epoch55, .slice Body56a Body56n Body56c, .int .u64 Sig57], .int .i64 sign58]) ∧
  thenW (ww60.alloc (.cells #[.int .i64 0, .int .i64 0, .int .u64 0, .int .i64 0, .int .i64 0, .int .i64 0, .slice none 0 0, .int .u64 0] 27)) fun ww61 =>
  canStore ww61 ((blk ww60.heap.size).add 0) ∧
  thenW (ww61.setCell ((blk ww60.heap.size).add 0) (.int .i64 Writer50)) fun ww62 =>
  canStore ww62 ((blk ww60.heap.size).add 1) ∧
  thenW (ww62.setCell ((blk ww60.heap.size).add 1) (.int .i64 Index51)) fun ww63 =>
  canStore ww63 ((blk ww60.heap.size).add 2) ∧
  thenW (ww63.setCell ((blk ww60.heap.size).add 2) (.int .u64 Prev52)) fun ww64 =>
  canStore ww64 ((blk ww60.heap.size).add 3) ∧
  thenW (ww64.setCell ((blk ww60.heap.size).add 3) (.int .i64 AtT53)) fun ww65 =>
  canStore ww65 ((blk ww60.heap.size).add 4) ∧
  thenW (ww65.setCell ((blk ww60.heap.size).add 4) (.int .i64 AtW54)) fun ww66 =>
  canStore ww66 ((blk ww60.heap.size).add 5) ∧
  thenW (ww66.setCell ((blk ww60.heap.size).add 5) (.int .i64 Epoch55)) fun ww67 =>
  canStore ww67 ((blk ww60.heap.size).add 6) ∧
  thenW (ww67.setCell ((blk ww60.heap.size).add 6) (.slice Body56a Body56n Body56c)) fun ww68 =>
  canStore ww68 ((blk ww60.heap.size).add 7) ∧
  thenW (ww68.setCell ((blk ww60.heap.size).add 7) (.int .u64 Sig57)) fun ww69 =>
  Calls Try.prog 21 #[.int .i64 wv1, .int .i64 i2, .int .i64 ev3] ww69 fun ee71 ww72 => ∃ (bound70a : Option Addr) (bound70n : Nat) (bound70c : Nat), ee71 = .returned (.slice bound70a bound70n bound70c) ∧
  Calls Try.prog 21 #[.int .i64 x4, .int .i64 y5, .int .i64 z6] ww72 fun ee74 ww75 => ∃ (bound73a : Option Addr) (bound73n : Nat) (bound73c : Nat), ee74 = .returned (.slice bound73a bound73n bound73c) ∧
  Calls Try.prog 14 #[.slice bound70a bound70n bound70c, .slice bound73a bound73n bound73c] ww75 fun ee77 ww78 => ∃ (same76 : Bool), ee77 = .returned (.bool same76) ∧
  bif same76 == false then (
  bif sum47 == 23 then (
  bif sign58 == 23 then (
  Calls Try.prog 25 #[.pointer none, .int .u64 1, .agg #[.int .i64 0, .int .i64 0, .int .u64 0, .int .i64 1, .int .i64 0, .int .i64 0, .slice none 0 0, .int .u64 0]] ww78 fun ee80 ww81 => ∃ (holds79 : Bool), ee80 = .returned (.bool holds79) ∧
  bif !holds79 then (
  Calls Try.prog 9 #[] ww81 fun ee83 ww84 => ∃ (alive82 : Bool), ee83 = .returned (.bool alive82) ∧
  R (.bool alive82) ww84) else (
  R (.bool false) ww81)) else (
  R (.bool false) ww78)) else (
  R (.bool false) ww78)) else (
  R (.bool false) ww78))) else (
  Calls Try.prog 23 #[.pointer none, .agg #[.int .i64 0, .int .i64 0, .int .u64 0, .int .i64 1, .int .i64 0, .int .i64 0, .slice none 0 0, .int .u64 0]] w fun ee87 ww88 => ∃ (sum85 : Int) (sum86 : Int), ee87 = .returned (.tuple #[.int .u64 sum85, .int .i64 sum86]) ∧
  Calls Try.prog 24 #[.pointer none, .int .u64 1, .agg #[.int .i64 0, .int .i64 0, .int .u64 0, .int .i64 1, .int .i64 0, .int .i64 0, .slice none 0 0, .int .u64 0]] ww88 fun ee98 ww99 => ∃ (Writer89 : Int) (Index90 : Int) (Prev91 : Int) (AtT92 : Int) (AtW93 : Int) (Epoch94 : Int) (Body95a : Option Addr) (Body95n : Nat) (Body95c : Nat) (Sig96 : Int) (sign97 : Int), ee98 = .returned (.tuple #[.agg #[.int .i64 Writer89, .int .i64 Index90, .int .u64 Prev91, .int .i64 AtT92, .int .i64 AtW93, .int .i64 Epoch94, .slice Body95a Body95n Body95c, .int .u64 Sig96], .int .i64 sign97]) ∧
  thenW (ww99.alloc (.cells #[.int .i64 0, .int .i64 0, .int .u64 0, .int .i64 0, .int .i64 0, .int .i64 0, .slice none 0 0, .int .u64 0] 27)) fun ww100 =>
  canStore ww100 ((blk ww99.heap.size).add 0) ∧
  thenW (ww100.setCell ((blk ww99.heap.size).add 0) (.int .i64 Writer89)) fun ww101 =>
  canStore ww101 ((blk ww99.heap.size).add 1) ∧
  thenW (ww101.setCell ((blk ww99.heap.size).add 1) (.int .i64 Index90)) fun ww102 =>
  canStore ww102 ((blk ww99.heap.size).add 2) ∧
  thenW (ww102.setCell ((blk ww99.heap.size).add 2) (.int .u64 Prev91)) fun ww103 =>
  canStore ww103 ((blk ww99.heap.size).add 3) ∧
  thenW (ww103.setCell ((blk ww99.heap.size).add 3) (.int .i64 AtT92)) fun ww104 =>
  canStore ww104 ((blk ww99.heap.size).add 4) ∧
  thenW (ww104.setCell ((blk ww99.heap.size).add 4) (.int .i64 AtW93)) fun ww105 =>
  canStore ww105 ((blk ww99.heap.size).add 5) ∧
  thenW (ww105.setCell ((blk ww99.heap.size).add 5) (.int .i64 Epoch94)) fun ww106 =>
  canStore ww106 ((blk ww99.heap.size).add 6) ∧
  thenW (ww106.setCell ((blk ww99.heap.size).add 6) (.slice Body95a Body95n Body95c)) fun ww107 =>
  canStore ww107 ((blk ww99.heap.size).add 7) ∧
  thenW (ww107.setCell ((blk ww99.heap.size).add 7) (.int .u64 Sig96)) fun ww108 =>
  Calls Try.prog 21 #[.int .i64 wv1, .int .i64 i2, .int .i64 ev3] ww108 fun ee110 ww111 => ∃ (bound109a : Option Addr) (bound109n : Nat) (bound109c : Nat), ee110 = .returned (.slice bound109a bound109n bound109c) ∧
  Calls Try.prog 21 #[.int .i64 x4, .int .i64 y5, .int .i64 z6] ww111 fun ee113 ww114 => ∃ (bound112a : Option Addr) (bound112n : Nat) (bound112c : Nat), ee113 = .returned (.slice bound112a bound112n bound112c) ∧
  Calls Try.prog 14 #[.slice bound109a bound109n bound109c, .slice bound112a bound112n bound112c] ww114 fun ee116 ww117 => ∃ (same115 : Bool), ee116 = .returned (.bool same115) ∧
  bif same115 == false then (
  bif sum86 == 23 then (
  bif sign97 == 23 then (
  Calls Try.prog 25 #[.pointer none, .int .u64 1, .agg #[.int .i64 0, .int .i64 0, .int .u64 0, .int .i64 1, .int .i64 0, .int .i64 0, .slice none 0 0, .int .u64 0]] ww117 fun ee119 ww120 => ∃ (holds118 : Bool), ee119 = .returned (.bool holds118) ∧
  bif !holds118 then (
  Calls Try.prog 9 #[] ww120 fun ee122 ww123 => ∃ (alive121 : Bool), ee122 = .returned (.bool alive121) ∧
  R (.bool alive121) ww123) else (
  R (.bool false) ww120)) else (
  R (.bool false) ww117)) else (
  R (.bool false) ww117)) else (
  R (.bool false) ww117))

theorem cachettelaw06_EntryBounds.eq (wv1 : Int) (i2 : Int) (ev3 : Int) (x4 : Int) (y5 : Int) (z6 : Int) (R : Value → World → Prop) (w : World) : mfunc Try.prog [] 5 [.int .i64 wv1, .int .i64 i2, .int .i64 ev3, .int .i64 x4, .int .i64 y5, .int .i64 z6] R w = cachettelaw06_EntryBounds.M wv1 i2 ev3 x4 y5 z6 R w := by kernel_rfl
theorem cachettelaw06_EntryBounds.ok (wv1 : Int) (i2 : Int) (ev3 : Int) (x4 : Int) (y5 : Int) (z6 : Int) {R : Value → World → Prop} {w : World} (h : cachettelaw06_EntryBounds.M wv1 i2 ev3 x4 y5 z6 R w) : Calls Try.prog 5 #[.int .i64 wv1, .int .i64 i2, .int .i64 ev3, .int .i64 x4, .int .i64 y5, .int .i64 z6] w fun e w' => ∃ v, e = .returned v ∧ R v w' :=
  mfunc_ok follows (H := []) (args := [.int .i64 wv1, .int .i64 i2, .int .i64 ev3, .int .i64 x4, .int .i64 y5, .int .i64 z6]) (by rw [cachettelaw06_EntryBounds.eq]; exact h)

def cachettelaw06_EntryBounds.N (wv1 : Int) (i2 : Int) (ev3 : Int) (x4 : Int) (y5 : Int) (z6 : Int) (R : Value → World → Prop) (w : World) : Prop :=
  ((if (0 : Int) > wv1 then 0 else wv1) = (if (0 : Int) > x4 then 0 else x4) →
    ((if (0 : Int) > i2 then 0 else i2) = (if (0 : Int) > y5 then 0 else y5) →
      Calls Try.prog 23 #[.pointer none, .agg #[.int .i64 0, .int .i64 0, .int .u64 0, .int .i64 1, .int .i64 0, .int .i64 0, .slice none 0 0, .int .u64 0]] w fun ee11 ww12 => ∃ (sum9 : Int) (sum10 : Int), ee11 = .returned (.tuple #[.int .u64 sum9, .int .i64 sum10]) ∧
      Calls Try.prog 24 #[.pointer none, .int .u64 1, .agg #[.int .i64 0, .int .i64 0, .int .u64 0, .int .i64 1, .int .i64 0, .int .i64 0, .slice none 0 0, .int .u64 0]] ww12 fun ee22 ww23 => ∃ (Writer13 : Int) (Index14 : Int) (Prev15 : Int) (AtT16 : Int) (AtW17 : Int) (Epoch18 : Int) (Body19a : Option Addr) (Body19n : Nat) (Body19c : Nat) (Sig20 : Int) (sign21 : Int), ee22 = .returned (.tuple #[.agg #[.int .i64 Writer13, .int .i64 Index14, .int .u64 Prev15, .int .i64 AtT16, .int .i64 AtW17, .int .i64 Epoch18, .slice Body19a Body19n Body19c, .int .u64 Sig20], .int .i64 sign21]) ∧
      ∀ (ww32 : World), Ext no ww23 ww32 →
      Calls Try.prog 21 #[.int .i64 wv1, .int .i64 i2, .int .i64 ev3] ww32 fun ee35 ww36 => ∃ (bound34a : Option Addr) (bound34n : Nat) (bound34c : Nat), ee35 = .returned (.slice bound34a bound34n bound34c) ∧
      Calls Try.prog 21 #[.int .i64 x4, .int .i64 y5, .int .i64 z6] ww36 fun ee38 ww39 => ∃ (bound37a : Option Addr) (bound37n : Nat) (bound37c : Nat), ee38 = .returned (.slice bound37a bound37n bound37c) ∧
      Calls Try.prog 14 #[.slice bound34a bound34n bound34c, .slice bound37a bound37n bound37c] ww39 fun ee41 ww42 => ∃ (same40 : Bool), ee41 = .returned (.bool same40) ∧
      (same40 = (ev3 == z6) →
        (sum10 = 23 →
          (sign21 = 23 →
            Calls Try.prog 25 #[.pointer none, .int .u64 1, .agg #[.int .i64 0, .int .i64 0, .int .u64 0, .int .i64 1, .int .i64 0, .int .i64 0, .slice none 0 0, .int .u64 0]] ww42 fun ee47 ww48 => ∃ (holds46 : Bool), ee47 = .returned (.bool holds46) ∧
            (holds46 = false →
              Calls Try.prog 9 #[] ww48 fun ee51 ww52 => ∃ (alive50 : Bool), ee51 = .returned (.bool alive50) ∧
              R (.bool alive50) ww52) ∧
            (holds46 = true →
              R (.bool false) ww48)) ∧
          (sign21 ≠ 23 →
            R (.bool false) ww42)) ∧
        (sum10 ≠ 23 →
          R (.bool false) ww42)) ∧
      (same40 ≠ (ev3 == z6) →
        R (.bool false) ww42)) ∧
    ((if (0 : Int) > i2 then 0 else i2) ≠ (if (0 : Int) > y5 then 0 else y5) →
      Calls Try.prog 23 #[.pointer none, .agg #[.int .i64 0, .int .i64 0, .int .u64 0, .int .i64 1, .int .i64 0, .int .i64 0, .slice none 0 0, .int .u64 0]] w fun ee55 ww56 => ∃ (sum53 : Int) (sum54 : Int), ee55 = .returned (.tuple #[.int .u64 sum53, .int .i64 sum54]) ∧
      Calls Try.prog 24 #[.pointer none, .int .u64 1, .agg #[.int .i64 0, .int .i64 0, .int .u64 0, .int .i64 1, .int .i64 0, .int .i64 0, .slice none 0 0, .int .u64 0]] ww56 fun ee66 ww67 => ∃ (Writer57 : Int) (Index58 : Int) (Prev59 : Int) (AtT60 : Int) (AtW61 : Int) (Epoch62 : Int) (Body63a : Option Addr) (Body63n : Nat) (Body63c : Nat) (Sig64 : Int) (sign65 : Int), ee66 = .returned (.tuple #[.agg #[.int .i64 Writer57, .int .i64 Index58, .int .u64 Prev59, .int .i64 AtT60, .int .i64 AtW61, .int .i64 Epoch62, .slice Body63a Body63n Body63c, .int .u64 Sig64], .int .i64 sign65]) ∧
      ∀ (ww76 : World), Ext no ww67 ww76 →
      Calls Try.prog 21 #[.int .i64 wv1, .int .i64 i2, .int .i64 ev3] ww76 fun ee79 ww80 => ∃ (bound78a : Option Addr) (bound78n : Nat) (bound78c : Nat), ee79 = .returned (.slice bound78a bound78n bound78c) ∧
      Calls Try.prog 21 #[.int .i64 x4, .int .i64 y5, .int .i64 z6] ww80 fun ee82 ww83 => ∃ (bound81a : Option Addr) (bound81n : Nat) (bound81c : Nat), ee82 = .returned (.slice bound81a bound81n bound81c) ∧
      Calls Try.prog 14 #[.slice bound78a bound78n bound78c, .slice bound81a bound81n bound81c] ww83 fun ee85 ww86 => ∃ (same84 : Bool), ee85 = .returned (.bool same84) ∧
      (same84 = false →
        (sum54 = 23 →
          (sign65 = 23 →
            Calls Try.prog 25 #[.pointer none, .int .u64 1, .agg #[.int .i64 0, .int .i64 0, .int .u64 0, .int .i64 1, .int .i64 0, .int .i64 0, .slice none 0 0, .int .u64 0]] ww86 fun ee91 ww92 => ∃ (holds90 : Bool), ee91 = .returned (.bool holds90) ∧
            (holds90 = false →
              Calls Try.prog 9 #[] ww92 fun ee95 ww96 => ∃ (alive94 : Bool), ee95 = .returned (.bool alive94) ∧
              R (.bool alive94) ww96) ∧
            (holds90 = true →
              R (.bool false) ww92)) ∧
          (sign65 ≠ 23 →
            R (.bool false) ww86)) ∧
        (sum54 ≠ 23 →
          R (.bool false) ww86)) ∧
      (same84 ≠ false →
        R (.bool false) ww86))) ∧
  ((if (0 : Int) > wv1 then 0 else wv1) ≠ (if (0 : Int) > x4 then 0 else x4) →
    Calls Try.prog 23 #[.pointer none, .agg #[.int .i64 0, .int .i64 0, .int .u64 0, .int .i64 1, .int .i64 0, .int .i64 0, .slice none 0 0, .int .u64 0]] w fun ee99 ww100 => ∃ (sum97 : Int) (sum98 : Int), ee99 = .returned (.tuple #[.int .u64 sum97, .int .i64 sum98]) ∧
    Calls Try.prog 24 #[.pointer none, .int .u64 1, .agg #[.int .i64 0, .int .i64 0, .int .u64 0, .int .i64 1, .int .i64 0, .int .i64 0, .slice none 0 0, .int .u64 0]] ww100 fun ee110 ww111 => ∃ (Writer101 : Int) (Index102 : Int) (Prev103 : Int) (AtT104 : Int) (AtW105 : Int) (Epoch106 : Int) (Body107a : Option Addr) (Body107n : Nat) (Body107c : Nat) (Sig108 : Int) (sign109 : Int), ee110 = .returned (.tuple #[.agg #[.int .i64 Writer101, .int .i64 Index102, .int .u64 Prev103, .int .i64 AtT104, .int .i64 AtW105, .int .i64 Epoch106, .slice Body107a Body107n Body107c, .int .u64 Sig108], .int .i64 sign109]) ∧
    ∀ (ww120 : World), Ext no ww111 ww120 →
    Calls Try.prog 21 #[.int .i64 wv1, .int .i64 i2, .int .i64 ev3] ww120 fun ee123 ww124 => ∃ (bound122a : Option Addr) (bound122n : Nat) (bound122c : Nat), ee123 = .returned (.slice bound122a bound122n bound122c) ∧
    Calls Try.prog 21 #[.int .i64 x4, .int .i64 y5, .int .i64 z6] ww124 fun ee126 ww127 => ∃ (bound125a : Option Addr) (bound125n : Nat) (bound125c : Nat), ee126 = .returned (.slice bound125a bound125n bound125c) ∧
    Calls Try.prog 14 #[.slice bound122a bound122n bound122c, .slice bound125a bound125n bound125c] ww127 fun ee129 ww130 => ∃ (same128 : Bool), ee129 = .returned (.bool same128) ∧
    (same128 = false →
      (sum98 = 23 →
        (sign109 = 23 →
          Calls Try.prog 25 #[.pointer none, .int .u64 1, .agg #[.int .i64 0, .int .i64 0, .int .u64 0, .int .i64 1, .int .i64 0, .int .i64 0, .slice none 0 0, .int .u64 0]] ww130 fun ee135 ww136 => ∃ (holds134 : Bool), ee135 = .returned (.bool holds134) ∧
          (holds134 = false →
            Calls Try.prog 9 #[] ww136 fun ee139 ww140 => ∃ (alive138 : Bool), ee139 = .returned (.bool alive138) ∧
            R (.bool alive138) ww140) ∧
          (holds134 = true →
            R (.bool false) ww136)) ∧
        (sign109 ≠ 23 →
          R (.bool false) ww130)) ∧
      (sum98 ≠ 23 →
        R (.bool false) ww130)) ∧
    (same128 ≠ false →
      R (.bool false) ww130))

theorem cachettelaw06_EntryBounds.up (wv1 : Int) (i2 : Int) (ev3 : Int) (x4 : Int) (y5 : Int) (z6 : Int) {R : Value → World → Prop} {w : World} (h : cachettelaw06_EntryBounds.N wv1 i2 ev3 x4 y5 z6 R w) : cachettelaw06_EntryBounds.M wv1 i2 ev3 x4 y5 z6 R w := by
  unfold cachettelaw06_EntryBounds.M
  unfold cachettelaw06_EntryBounds.N at h
  refine bif_of (fun c7 => ?_) (fun c7 => ?_)
  · have h := h.1 (beq_t c7)
    refine bif_of (fun c8 => ?_) (fun c8 => ?_)
    · have h := h.1 (beq_t c8)
      refine h.mono fun ee11 ww12 h => ?_
      obtain ⟨sum9, sum10, he, h⟩ := h
      refine ⟨sum9, sum10, he, ?_⟩
      refine h.mono fun ee22 ww23 h => ?_
      obtain ⟨Writer13, Index14, Prev15, AtT16, AtW17, Epoch18, Body19a, Body19n, Body19c, Sig20, sign21, he, h⟩ := h
      refine ⟨Writer13, Index14, Prev15, AtT16, AtW17, Epoch18, Body19a, Body19n, Body19c, Sig20, sign21, he, ?_⟩
      refine thenW_in fun ww24 e24 => ?_
      have hb1 := Blk.of_new e24
      have hg1 := ((Ext.refl no ww23)).size
      have hx24 := (Ext.refl no ww23).x_alloc e24
      refine ⟨hb1.cani 0 rfl rfl, thenW_in fun ww25 e25 => ?_⟩
      have hx25 := hx24.x_set (q := ww23.heap.size) (i := 0) rfl (.inr hg1) e25
      have hb1 := hb1.seti 0 rfl e25
      refine ⟨hb1.cani 1 rfl rfl, thenW_in fun ww26 e26 => ?_⟩
      have hx26 := hx25.x_set (q := ww23.heap.size) (i := 1) rfl (.inr hg1) e26
      have hb1 := hb1.seti 1 rfl e26
      refine ⟨hb1.cani 2 rfl rfl, thenW_in fun ww27 e27 => ?_⟩
      have hx27 := hx26.x_set (q := ww23.heap.size) (i := 2) rfl (.inr hg1) e27
      have hb1 := hb1.seti 2 rfl e27
      refine ⟨hb1.cani 3 rfl rfl, thenW_in fun ww28 e28 => ?_⟩
      have hx28 := hx27.x_set (q := ww23.heap.size) (i := 3) rfl (.inr hg1) e28
      have hb1 := hb1.seti 3 rfl e28
      refine ⟨hb1.cani 4 rfl rfl, thenW_in fun ww29 e29 => ?_⟩
      have hx29 := hx28.x_set (q := ww23.heap.size) (i := 4) rfl (.inr hg1) e29
      have hb1 := hb1.seti 4 rfl e29
      refine ⟨hb1.cani 5 rfl rfl, thenW_in fun ww30 e30 => ?_⟩
      have hx30 := hx29.x_set (q := ww23.heap.size) (i := 5) rfl (.inr hg1) e30
      have hb1 := hb1.seti 5 rfl e30
      refine ⟨hb1.cani 6 rfl rfl, thenW_in fun ww31 e31 => ?_⟩
      have hx31 := hx30.x_set (q := ww23.heap.size) (i := 6) rfl (.inr hg1) e31
      have hb1 := hb1.seti 6 rfl e31
      refine ⟨hb1.cani 7 rfl rfl, thenW_in fun ww32 e32 => ?_⟩
      have hx32 := hx31.x_set (q := ww23.heap.size) (i := 7) rfl (.inr hg1) e32
      have hb1 := hb1.seti 7 rfl e32
      have h := h ww32 hx32
      refine h.mono fun ee35 ww36 h => ?_
      obtain ⟨bound34a, bound34n, bound34c, he, h⟩ := h
      refine ⟨bound34a, bound34n, bound34c, he, ?_⟩
      refine h.mono fun ee38 ww39 h => ?_
      obtain ⟨bound37a, bound37n, bound37c, he, h⟩ := h
      refine ⟨bound37a, bound37n, bound37c, he, ?_⟩
      refine h.mono fun ee41 ww42 h => ?_
      obtain ⟨same40, he, h⟩ := h
      refine ⟨same40, he, ?_⟩
      refine bif_of (fun c43 => ?_) (fun c43 => ?_)
      · have h := h.1 (bbeq_t c43)
        refine bif_of (fun c44 => ?_) (fun c44 => ?_)
        · have h := h.1 (beq_t c44)
          refine bif_of (fun c45 => ?_) (fun c45 => ?_)
          · have h := h.1 (beq_t c45)
            refine h.mono fun ee47 ww48 h => ?_
            obtain ⟨holds46, he, h⟩ := h
            refine ⟨holds46, he, ?_⟩
            refine bif_of (fun c49 => ?_) (fun c49 => ?_)
            · have h := h.1 (not_t c49)
              refine h.mono fun ee51 ww52 h => ?_
              obtain ⟨alive50, he, h⟩ := h
              refine ⟨alive50, he, ?_⟩
              exact h
            · have h := h.2 (not_f c49)
              exact h
          · have h := h.2 (beq_f c45)
            exact h
        · have h := h.2 (beq_f c44)
          exact h
      · have h := h.2 (bbeq_f c43)
        exact h
    · have h := h.2 (beq_f c8)
      refine h.mono fun ee55 ww56 h => ?_
      obtain ⟨sum53, sum54, he, h⟩ := h
      refine ⟨sum53, sum54, he, ?_⟩
      refine h.mono fun ee66 ww67 h => ?_
      obtain ⟨Writer57, Index58, Prev59, AtT60, AtW61, Epoch62, Body63a, Body63n, Body63c, Sig64, sign65, he, h⟩ := h
      refine ⟨Writer57, Index58, Prev59, AtT60, AtW61, Epoch62, Body63a, Body63n, Body63c, Sig64, sign65, he, ?_⟩
      refine thenW_in fun ww68 e68 => ?_
      have hb2 := Blk.of_new e68
      have hg2 := ((Ext.refl no ww67)).size
      have hx68 := (Ext.refl no ww67).x_alloc e68
      refine ⟨hb2.cani 0 rfl rfl, thenW_in fun ww69 e69 => ?_⟩
      have hx69 := hx68.x_set (q := ww67.heap.size) (i := 0) rfl (.inr hg2) e69
      have hb2 := hb2.seti 0 rfl e69
      refine ⟨hb2.cani 1 rfl rfl, thenW_in fun ww70 e70 => ?_⟩
      have hx70 := hx69.x_set (q := ww67.heap.size) (i := 1) rfl (.inr hg2) e70
      have hb2 := hb2.seti 1 rfl e70
      refine ⟨hb2.cani 2 rfl rfl, thenW_in fun ww71 e71 => ?_⟩
      have hx71 := hx70.x_set (q := ww67.heap.size) (i := 2) rfl (.inr hg2) e71
      have hb2 := hb2.seti 2 rfl e71
      refine ⟨hb2.cani 3 rfl rfl, thenW_in fun ww72 e72 => ?_⟩
      have hx72 := hx71.x_set (q := ww67.heap.size) (i := 3) rfl (.inr hg2) e72
      have hb2 := hb2.seti 3 rfl e72
      refine ⟨hb2.cani 4 rfl rfl, thenW_in fun ww73 e73 => ?_⟩
      have hx73 := hx72.x_set (q := ww67.heap.size) (i := 4) rfl (.inr hg2) e73
      have hb2 := hb2.seti 4 rfl e73
      refine ⟨hb2.cani 5 rfl rfl, thenW_in fun ww74 e74 => ?_⟩
      have hx74 := hx73.x_set (q := ww67.heap.size) (i := 5) rfl (.inr hg2) e74
      have hb2 := hb2.seti 5 rfl e74
      refine ⟨hb2.cani 6 rfl rfl, thenW_in fun ww75 e75 => ?_⟩
      have hx75 := hx74.x_set (q := ww67.heap.size) (i := 6) rfl (.inr hg2) e75
      have hb2 := hb2.seti 6 rfl e75
      refine ⟨hb2.cani 7 rfl rfl, thenW_in fun ww76 e76 => ?_⟩
      have hx76 := hx75.x_set (q := ww67.heap.size) (i := 7) rfl (.inr hg2) e76
      have hb2 := hb2.seti 7 rfl e76
      have h := h ww76 hx76
      refine h.mono fun ee79 ww80 h => ?_
      obtain ⟨bound78a, bound78n, bound78c, he, h⟩ := h
      refine ⟨bound78a, bound78n, bound78c, he, ?_⟩
      refine h.mono fun ee82 ww83 h => ?_
      obtain ⟨bound81a, bound81n, bound81c, he, h⟩ := h
      refine ⟨bound81a, bound81n, bound81c, he, ?_⟩
      refine h.mono fun ee85 ww86 h => ?_
      obtain ⟨same84, he, h⟩ := h
      refine ⟨same84, he, ?_⟩
      refine bif_of (fun c87 => ?_) (fun c87 => ?_)
      · have h := h.1 (bbeq_t c87)
        refine bif_of (fun c88 => ?_) (fun c88 => ?_)
        · have h := h.1 (beq_t c88)
          refine bif_of (fun c89 => ?_) (fun c89 => ?_)
          · have h := h.1 (beq_t c89)
            refine h.mono fun ee91 ww92 h => ?_
            obtain ⟨holds90, he, h⟩ := h
            refine ⟨holds90, he, ?_⟩
            refine bif_of (fun c93 => ?_) (fun c93 => ?_)
            · have h := h.1 (not_t c93)
              refine h.mono fun ee95 ww96 h => ?_
              obtain ⟨alive94, he, h⟩ := h
              refine ⟨alive94, he, ?_⟩
              exact h
            · have h := h.2 (not_f c93)
              exact h
          · have h := h.2 (beq_f c89)
            exact h
        · have h := h.2 (beq_f c88)
          exact h
      · have h := h.2 (bbeq_f c87)
        exact h
  · have h := h.2 (beq_f c7)
    refine h.mono fun ee99 ww100 h => ?_
    obtain ⟨sum97, sum98, he, h⟩ := h
    refine ⟨sum97, sum98, he, ?_⟩
    refine h.mono fun ee110 ww111 h => ?_
    obtain ⟨Writer101, Index102, Prev103, AtT104, AtW105, Epoch106, Body107a, Body107n, Body107c, Sig108, sign109, he, h⟩ := h
    refine ⟨Writer101, Index102, Prev103, AtT104, AtW105, Epoch106, Body107a, Body107n, Body107c, Sig108, sign109, he, ?_⟩
    refine thenW_in fun ww112 e112 => ?_
    have hb3 := Blk.of_new e112
    have hg3 := ((Ext.refl no ww111)).size
    have hx112 := (Ext.refl no ww111).x_alloc e112
    refine ⟨hb3.cani 0 rfl rfl, thenW_in fun ww113 e113 => ?_⟩
    have hx113 := hx112.x_set (q := ww111.heap.size) (i := 0) rfl (.inr hg3) e113
    have hb3 := hb3.seti 0 rfl e113
    refine ⟨hb3.cani 1 rfl rfl, thenW_in fun ww114 e114 => ?_⟩
    have hx114 := hx113.x_set (q := ww111.heap.size) (i := 1) rfl (.inr hg3) e114
    have hb3 := hb3.seti 1 rfl e114
    refine ⟨hb3.cani 2 rfl rfl, thenW_in fun ww115 e115 => ?_⟩
    have hx115 := hx114.x_set (q := ww111.heap.size) (i := 2) rfl (.inr hg3) e115
    have hb3 := hb3.seti 2 rfl e115
    refine ⟨hb3.cani 3 rfl rfl, thenW_in fun ww116 e116 => ?_⟩
    have hx116 := hx115.x_set (q := ww111.heap.size) (i := 3) rfl (.inr hg3) e116
    have hb3 := hb3.seti 3 rfl e116
    refine ⟨hb3.cani 4 rfl rfl, thenW_in fun ww117 e117 => ?_⟩
    have hx117 := hx116.x_set (q := ww111.heap.size) (i := 4) rfl (.inr hg3) e117
    have hb3 := hb3.seti 4 rfl e117
    refine ⟨hb3.cani 5 rfl rfl, thenW_in fun ww118 e118 => ?_⟩
    have hx118 := hx117.x_set (q := ww111.heap.size) (i := 5) rfl (.inr hg3) e118
    have hb3 := hb3.seti 5 rfl e118
    refine ⟨hb3.cani 6 rfl rfl, thenW_in fun ww119 e119 => ?_⟩
    have hx119 := hx118.x_set (q := ww111.heap.size) (i := 6) rfl (.inr hg3) e119
    have hb3 := hb3.seti 6 rfl e119
    refine ⟨hb3.cani 7 rfl rfl, thenW_in fun ww120 e120 => ?_⟩
    have hx120 := hx119.x_set (q := ww111.heap.size) (i := 7) rfl (.inr hg3) e120
    have hb3 := hb3.seti 7 rfl e120
    have h := h ww120 hx120
    refine h.mono fun ee123 ww124 h => ?_
    obtain ⟨bound122a, bound122n, bound122c, he, h⟩ := h
    refine ⟨bound122a, bound122n, bound122c, he, ?_⟩
    refine h.mono fun ee126 ww127 h => ?_
    obtain ⟨bound125a, bound125n, bound125c, he, h⟩ := h
    refine ⟨bound125a, bound125n, bound125c, he, ?_⟩
    refine h.mono fun ee129 ww130 h => ?_
    obtain ⟨same128, he, h⟩ := h
    refine ⟨same128, he, ?_⟩
    refine bif_of (fun c131 => ?_) (fun c131 => ?_)
    · have h := h.1 (bbeq_t c131)
      refine bif_of (fun c132 => ?_) (fun c132 => ?_)
      · have h := h.1 (beq_t c132)
        refine bif_of (fun c133 => ?_) (fun c133 => ?_)
        · have h := h.1 (beq_t c133)
          refine h.mono fun ee135 ww136 h => ?_
          obtain ⟨holds134, he, h⟩ := h
          refine ⟨holds134, he, ?_⟩
          refine bif_of (fun c137 => ?_) (fun c137 => ?_)
          · have h := h.1 (not_t c137)
            refine h.mono fun ee139 ww140 h => ?_
            obtain ⟨alive138, he, h⟩ := h
            refine ⟨alive138, he, ?_⟩
            exact h
          · have h := h.2 (not_f c137)
            exact h
        · have h := h.2 (beq_f c133)
          exact h
      · have h := h.2 (beq_f c132)
        exact h
    · have h := h.2 (bbeq_f c131)
      exact h

theorem cachettelaw06_EntryBounds.go (wv1 : Int) (i2 : Int) (ev3 : Int) (x4 : Int) (y5 : Int) (z6 : Int) {R : Value → World → Prop} {w : World} (h : cachettelaw06_EntryBounds.N wv1 i2 ev3 x4 y5 z6 R w) : Calls Try.prog 5 #[.int .i64 wv1, .int .i64 i2, .int .i64 ev3, .int .i64 x4, .int .i64 y5, .int .i64 z6] w fun e w' => ∃ v, e = .returned v ∧ R v w' := cachettelaw06_EntryBounds.ok wv1 i2 ev3 x4 y5 z6 (cachettelaw06_EntryBounds.up wv1 i2 ev3 x4 y5 z6 h)
theorem cachettelaw06_EntryBounds.run (wv1 : Int) (i2 : Int) (ev3 : Int) (x4 : Int) (y5 : Int) (z6 : Int) {V : Value} {Q : World → Prop} {w : World} (h : cachettelaw06_EntryBounds.N wv1 i2 ev3 x4 y5 z6 (fun v w' => v = V ∧ Q w') w) : Calls Try.prog 5 #[.int .i64 wv1, .int .i64 i2, .int .i64 ev3, .int .i64 x4, .int .i64 y5, .int .i64 z6] w (Ret V Q) := (cachettelaw06_EntryBounds.go wv1 i2 ev3 x4 y5 z6 h).mono fun e w' ⟨v, he, hv, hq⟩ => ⟨by rw [he, hv], hq⟩

theorem boundL_read (x y z : Int) (hx : x < 9223372036854775808) (hy : y < 9223372036854775808) (hz0 : -9223372036854775808 ≤ z) (hz : z < 9223372036854775808) :
    (numR (boundL x y z, 0)).1 = x.toNat ∧ (numR (numR (boundL x y z, 0)).2).1 = y.toNat ∧ (intR (numR (numR (boundL x y z, 0)).2).2).1 = z := by
  have e1 : boundL x y z = numL x.toNat ++ (numL y.toNat ++ (numL (zig z) ++ [])) := by unfold boundL; simp
  have q1 := W.numR_write (n := x.toNat) (by omega) (numL y.toNat ++ (numL (zig z) ++ []))
  have q2 := W.numR_write (n := y.toNat) (by omega) (numL (zig z) ++ [])
  have q3 := zig_small hz0 hz []
  rw [e1, q1]
  refine ⟨rfl, ?_, ?_⟩
  · show (numR (_, 0)).1 = _
    rw [q2]
  · show (intR (numR (_, 0)).2).1 = _
    rw [q2]
    show (intR (_, 0)).1 = _
    rw [q3]
theorem boundL_inj {x y z u v t : Int} (hx : x < 9223372036854775808) (hy : y < 9223372036854775808) (hz0 : -9223372036854775808 ≤ z) (hz : z < 9223372036854775808) (hu : u < 9223372036854775808) (hv : v < 9223372036854775808) (ht0 : -9223372036854775808 ≤ t) (ht : t < 9223372036854775808) :
    boundL x y z = boundL u v t ↔ (x.toNat = u.toNat ∧ y.toNat = v.toNat ∧ z = t) := by
  constructor
  · intro h
    obtain ⟨a1, a2, a3⟩ := boundL_read x y z hx hy hz0 hz
    obtain ⟨b1, b2, b3⟩ := boundL_read u v t hu hv ht0 ht
    rw [h] at a1 a2 a3
    exact ⟨a1.symm.trans b1, a2.symm.trans b2, a3.symm.trans b3⟩
  · rintro ⟨h1, h2, h3⟩
    unfold boundL
    rw [h1, h2, h3]
def nilE : Ent := ⟨0, 0, 0, 1, 0, 0, [], 0⟩
theorem nilE_ok : entRight nilE = true ∧ nilE.fit := ⟨by decide, by decide, by decide, by decide, by decide⟩
section
variable {w w' : World}
theorem sumNil_spec : Calls Try.prog 23 #[.pointer none, entV nilE none 0] w (fun x w' => ∃ s, x = .returned (.tuple #[.int .u64 s, .int .i64 23]) ∧ Ext no w w') := by
  refine (entry_Sum.go none 0 0 0 1 0 0 none 0 0 0 (R := fun v w' => ∃ s, v = (.tuple #[.int .u64 s, .int .i64 23]) ∧ Ext no w w') ?_).mono fun x w' ⟨v, he, s, hv, hw⟩ => ⟨s, by rw [he, hv], hw⟩
  unfold entry_Sum.N
  intro w10 X10
  refine (EBytesK_spec (e := nilE) (fun _ => nilE_ok.2) (RowAt.nil _ _)).mono fun x w15 ⟨a, c, he, hO, X⟩ => ⟨_, _, _, _, he, fun h => absurd rfl h, fun _ => ⟨fun _ => ⟨_, rfl, X10.trans X⟩, fun h => absurd rfl h⟩⟩
theorem signNil_spec (s : Int) : Calls Try.prog 24 #[.pointer none, .int .u64 s, entV nilE none 0] w (fun x w' => x = .returned (.tuple #[entV Ent.zero none 0, .int .i64 23]) ∧ Ext no w w') := by
  refine (entry_Sign.go none s 0 0 0 1 0 0 none 0 0 0 (R := fun v w' => v = (.tuple #[entV Ent.zero none 0, .int .i64 23]) ∧ Ext no w w') ?_).mono fun x w' ⟨v, he, hv, hw⟩ => ⟨by rw [he, hv], hw⟩
  unfold entry_Sign.N
  intro w12 p13 p14 X12 hp
  obtain ⟨hp1, hp2⟩ := hp.two
  refine (TextK_spec (e := nilE) (fun _ => nilE_ok.2) (RowAt.nil _ _)).mono fun x w18 ⟨a, c, he, hO, X⟩ => ⟨_, _, _, _, he, X.kept, fun h => absurd rfl h, fun _ => ?_⟩
  refine (oracle_Oracle_Sign.go none s _ _ _ (R := fun v w' => v = (.tuple #[.int .u64 0, .int .i64 23]) ∧ w' = w18) ⟨fun _ => ⟨rfl, rfl⟩, fun h => absurd rfl h⟩).mono fun x w31 ⟨v, he, hv, hw⟩ => ⟨0, 23, by rw [he, hv], by subst hw; exact Keep.refl _ _, fun _ w41 X41 => ?_, fun h => absurd h (by decide)⟩
  subst hw
  exact ⟨rfl, (X12.trans X).then X41 fun b hb => .inr (by omega)⟩
theorem holdsNil_spec (s : Int) : Calls Try.prog 25 #[.pointer none, .int .u64 s, entV nilE none 0] w (Ret (.bool false) fun w' => Ext no w w') := by
  refine entry_Holds.run none s 0 0 0 1 0 0 none 0 0 0 ?_
  unfold entry_Holds.N
  intro w11 p12 X11 hp
  refine (TextK_spec (e := nilE) (fun _ => nilE_ok.2) (RowAt.nil _ _)).mono fun x w16 ⟨a, c, he, hO, X⟩ => ⟨_, _, _, _, he, X.kept, fun _ => ?_, fun h => absurd rfl h⟩
  refine (oracle_Oracle_Verify.go none s _ _ _ 0 (R := fun v w' => v = .bool false ∧ w' = w16) ⟨fun _ => ⟨rfl, rfl⟩, fun h => absurd rfl h⟩).mono fun x w20 ⟨v, he, hv, hw⟩ => ⟨false, by rw [he, hv], rfl, ?_⟩
  subst hw
  exact X11.trans X
end
theorem EntryBounds_spec (w : World) {a b c d e f : Int} (hx0 : -9223372036854775808 ≤ a ∧ a < 9223372036854775808) (hi0 : -9223372036854775808 ≤ b ∧ b < 9223372036854775808) (he0 : -9223372036854775808 ≤ c ∧ c < 9223372036854775808) (hx1 : -9223372036854775808 ≤ d ∧ d < 9223372036854775808) (hi1 : -9223372036854775808 ≤ e ∧ e < 9223372036854775808) (he1 : -9223372036854775808 ≤ f ∧ f < 9223372036854775808) :
    Calls Try.prog 5 #[.int .i64 a, .int .i64 b, .int .i64 c, .int .i64 d, .int .i64 e, .int .i64 f] w (Ret (.bool true) fun w' => Ext no w w') := by
  refine cachettelaw06_EntryBounds.run a b c d e f ?_
  unfold cachettelaw06_EntryBounds.N
  have hal : ∀ w1, Ext no w w1 → Calls Try.prog 9 #[] w1 fun e w' => ∃ v : Bool, e = .returned (.bool v) ∧ (fun v w' => v = Value.bool true ∧ Ext no w w') (.bool v) w' := fun w1 hx =>
    (alive6_spec w1).mono fun e w' ⟨he, hw⟩ => ⟨true, he, rfl, hx.trans hw⟩
  have hbl : ∀ x y z : Int, (boundL x y z).length ≤ 30 := fun x y z => by
    have g1 := W.numL_le x.toNat; have g2 := W.numL_le y.toNat; have g3 := W.numL_le (zig z)
    unfold boundL; simp only [List.length_append]; omega
  have hin := boundL_inj hx0.2 hi0.2 he0.1 he0.2 hx1.2 hi1.2 he1.1 he1.2
  have hm : ∀ x y : Int, ((if (0 : Int) > x then 0 else x) = (if (0 : Int) > y then 0 else y)) ↔ x.toNat = y.toNat := fun x y => by split <;> split <;> omega
  refine ⟨fun h1 => ⟨fun h2 => ?_, fun h2 => ?_⟩, fun h1 => ?_⟩
  · have QQ : decide (boundL a b c = boundL d e f) = (c == f) := by rw [Bool.eq_iff_iff, decide_eq_true_eq, beq_iff_eq, hin]; exact ⟨fun h => h.2.2, fun h => ⟨(hm _ _).1 h1, (hm _ _).1 h2, h⟩⟩
    refine sumNil_spec.mono fun x w12 ⟨s1, hx, X12⟩ => ⟨_, _, hx, ?_⟩
    refine (signNil_spec 1).mono fun x w23 ⟨hx, X23⟩ => ⟨_, _, _, _, _, _, _, _, _, _, _, hx, fun w32 X32 => ?_⟩
    have Y := (X12.trans X23).trans X32
    refine (Bound_spec hx0.2 hi0.2 he0.1 he0.2).mono fun x w36 ⟨a1, c1, hx, o1, X36⟩ => ⟨_, _, _, hx, ?_⟩
    refine (Bound_spec hx1.2 hi1.2 he1.1 he1.2).mono fun x w39 ⟨a2, c2, hx, o2, X39⟩ => ⟨_, _, _, hx, ?_⟩
    have Y := (Y.trans X36).trans X39
    refine (W.sameB_spec (o1.no X39).row o2.row (by have := hbl a b c; omega)).mono fun x w42 ⟨hx, X42⟩ => ⟨_, hx, fun _ => ⟨fun _ => ⟨fun _ => ?_, fun h => absurd rfl h⟩, fun h => absurd rfl h⟩, fun h => absurd QQ h⟩
    have Y := Y.trans X42
    refine (holdsNil_spec 1).mono fun x w48 ⟨hx, X48⟩ => ⟨_, hx, fun _ => hal _ (Y.trans X48), fun h => by cases h⟩
  · have QQ : decide (boundL a b c = boundL d e f) = false := by rw [decide_eq_false_iff_not, hin]; exact fun h => h2 ((hm _ _).2 h.2.1)
    refine sumNil_spec.mono fun x w12 ⟨s1, hx, X12⟩ => ⟨_, _, hx, ?_⟩
    refine (signNil_spec 1).mono fun x w23 ⟨hx, X23⟩ => ⟨_, _, _, _, _, _, _, _, _, _, _, hx, fun w32 X32 => ?_⟩
    have Y := (X12.trans X23).trans X32
    refine (Bound_spec hx0.2 hi0.2 he0.1 he0.2).mono fun x w36 ⟨a1, c1, hx, o1, X36⟩ => ⟨_, _, _, hx, ?_⟩
    refine (Bound_spec hx1.2 hi1.2 he1.1 he1.2).mono fun x w39 ⟨a2, c2, hx, o2, X39⟩ => ⟨_, _, _, hx, ?_⟩
    have Y := (Y.trans X36).trans X39
    refine (W.sameB_spec (o1.no X39).row o2.row (by have := hbl a b c; omega)).mono fun x w42 ⟨hx, X42⟩ => ⟨_, hx, fun _ => ⟨fun _ => ⟨fun _ => ?_, fun h => absurd rfl h⟩, fun h => absurd rfl h⟩, fun h => absurd QQ h⟩
    have Y := Y.trans X42
    refine (holdsNil_spec 1).mono fun x w48 ⟨hx, X48⟩ => ⟨_, hx, fun _ => hal _ (Y.trans X48), fun h => by cases h⟩
  · have QQ : decide (boundL a b c = boundL d e f) = false := by rw [decide_eq_false_iff_not, hin]; exact fun h => h1 ((hm _ _).2 h.1)
    refine sumNil_spec.mono fun x w12 ⟨s1, hx, X12⟩ => ⟨_, _, hx, ?_⟩
    refine (signNil_spec 1).mono fun x w23 ⟨hx, X23⟩ => ⟨_, _, _, _, _, _, _, _, _, _, _, hx, fun w32 X32 => ?_⟩
    have Y := (X12.trans X23).trans X32
    refine (Bound_spec hx0.2 hi0.2 he0.1 he0.2).mono fun x w36 ⟨a1, c1, hx, o1, X36⟩ => ⟨_, _, _, hx, ?_⟩
    refine (Bound_spec hx1.2 hi1.2 he1.1 he1.2).mono fun x w39 ⟨a2, c2, hx, o2, X39⟩ => ⟨_, _, _, hx, ?_⟩
    have Y := (Y.trans X36).trans X39
    refine (W.sameB_spec (o1.no X39).row o2.row (by have := hbl a b c; omega)).mono fun x w42 ⟨hx, X42⟩ => ⟨_, hx, fun _ => ⟨fun _ => ⟨fun _ => ?_, fun h => absurd rfl h⟩, fun h => absurd rfl h⟩, fun h => absurd QQ h⟩
    have Y := Y.trans X42
    refine (holdsNil_spec 1).mono fun x w48 ⟨hx, X48⟩ => ⟨_, hx, fun _ => hal _ (Y.trans X48), fun h => by cases h⟩
theorem EntryBounds_walk (W : World) (a b c d e f : Int) (w0 : (Lit.int .i64 a).wf = true) (w1 : (Lit.int .i64 b).wf = true) (w2 : (Lit.int .i64 c).wf = true) (w3 : (Lit.int .i64 d).wf = true) (w4 : (Lit.int .i64 e).wf = true) (w5 : (Lit.int .i64 f).wf = true) :
    Calls Try.prog 5 #[.int .i64 a, .int .i64 b, .int .i64 c, .int .i64 d, .int .i64 e, .int .i64 f] W (Ret (.bool true) fun w' => Ext no W w') :=
  EntryBounds_spec W (wf_i64 w0) (wf_i64 w1) (wf_i64 w2) (wf_i64 w3) (wf_i64 w4) (wf_i64 w5)
end Go.Proofs.Ytomajjnoekfmoaa
