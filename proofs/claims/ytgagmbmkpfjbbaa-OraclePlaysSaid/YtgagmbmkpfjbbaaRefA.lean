/- The reference's oracle: one list of all that was handed out. -/
import Derived.Test.YtgagmbmkpfjbbaaOraT
import Derived.Test.YtgagmbmkpfjbbaaWirD
set_option linter.unusedVariables false
set_option linter.unusedSimpArgs false
set_option maxRecDepth 20000
namespace Go.Proofs.Ytgagmbmkpfjbbaa
open Go Go.Mx Go.Proofs
/-- (*cachetteref03.Oracle).at -/
def cachetteref03_Oracle_at.M (o1 : Option Addr) (h2 : Int) (R : Value → World → Prop) (w : World) : Prop :=
  ∃ (I0 : Nat → List Value → World → Prop) (m4 : Nat), I0 m4 [.int .i64 0] w ∧ ∀ (m5 : Nat) (ww6 : World) (i3 : Int), I0 m5 [.int .i64 i3] ww6 →
  o1.elim False fun a7 =>
  ∃ (L8a : Option Addr) (L8n : Nat) (L8c : Nat), ww6.cell? (a7.add 1) = some (.slice L8a L8n L8c) ∧
  bif decide (i3 < (L8n : Int)) then (
  o1.elim False fun a9 =>
  ∃ (L10a : Option Addr) (L10n : Nat) (L10c : Nat), ww6.cell? (a9.add 1) = some (.slice L10a L10n L10c) ∧
  L10a.elim False fun a11 =>
  0 ≤ (i3 : Int) ∧ (i3 : Int) < (L10n : Int) ∧
  ∃ (H12 : Int), ww6.cell? ((a11.add (Int.toNat i3 * 6)).add 0) = some (.int .u64 H12) ∧
  bif H12 == h2 then (
  R (.int .i64 i3) ww6) else (
  ∃ m13, m13 < m5 ∧ I0 m13 [.int .i64 (IntKind.i64.wrap (i3 + 1))] ww6)) else (
  R (.int .i64 (-1)) ww6)

theorem cachetteref03_Oracle_at.eq (o1 : Option Addr) (h2 : Int) (R : Value → World → Prop) (w : World) : mfunc Try.prog [(0, [0, 1], [(5, (.one (.int .i64)))])] 48 [.pointer o1, .int .u64 h2] R w = cachetteref03_Oracle_at.M o1 h2 R w := by kernel_rfl
theorem cachetteref03_Oracle_at.ok (o1 : Option Addr) (h2 : Int) {R : Value → World → Prop} {w : World} (h : cachetteref03_Oracle_at.M o1 h2 R w) : Calls Try.prog 48 #[.pointer o1, .int .u64 h2] w fun e w' => ∃ v, e = .returned v ∧ R v w' :=
  mfunc_ok follows (H := [(0, [0, 1], [(5, (.one (.int .i64)))])]) (args := [.pointer o1, .int .u64 h2]) (by rw [cachetteref03_Oracle_at.eq]; exact h)

def cachetteref03_Oracle_at.N (o1 : Option Addr) (h2 : Int) (R : Value → World → Prop) (w : World) : Prop :=
  ∃ (I0 : Nat → List Value → World → Prop) (m4 : Nat), I0 m4 [.int .i64 0] w ∧ ∀ (m5 : Nat) (ww6 : World) (i3 : Int), I0 m5 [.int .i64 i3] ww6 →
  ∃ a7 : Addr, o1 = some a7 ∧
  ∃ (L9a : Option Addr) (L9n : Nat) (L9c : Nat), ww6.cell? (a7.add 1) = some (.slice L9a L9n L9c) ∧
  (i3 < (L9n : Int) →
    ∃ (L12a : Option Addr) (L12n : Nat) (L12c : Nat), ww6.cell? (a7.add 1) = some (.slice L12a L12n L12c) ∧
    ∃ a13 : Addr, L12a = some a13 ∧
    0 ≤ (i3 : Int) ∧ (i3 : Int) < (L12n : Int) ∧
    ∃ (H15 : Int), ww6.cell? ((a13.add (Int.toNat i3 * 6)).add 0) = some (.int .u64 H15) ∧
    (H15 = h2 →
      R (.int .i64 i3) ww6) ∧
    (H15 ≠ h2 →
      (-9223372036854775808 : Int) ≤ (i3 + 1) ∧ (i3 + 1) < 9223372036854775808 ∧
      ∃ m17, m17 < m5 ∧ I0 m17 [.int .i64 (i3 + 1)] ww6)) ∧
  ((L9n : Int) ≤ i3 →
    R (.int .i64 (-1)) ww6)

theorem cachetteref03_Oracle_at.up (o1 : Option Addr) (h2 : Int) {R : Value → World → Prop} {w : World} (h : cachetteref03_Oracle_at.N o1 h2 R w) : cachetteref03_Oracle_at.M o1 h2 R w := by
  unfold cachetteref03_Oracle_at.M
  unfold cachetteref03_Oracle_at.N at h
  obtain ⟨I0, m4, h0, h⟩ := h
  refine ⟨I0, m4, h0, fun m5 ww6 i3 hI => ?_⟩
  have h := h m5 ww6 i3 hI
  obtain ⟨a7, ha7, h⟩ := h
  refine elim_some ha7 ?_
  obtain ⟨L9a, L9n, L9c, hc8, h⟩ := h
  refine ⟨L9a, L9n, L9c, hc8, ?_⟩
  refine bif_of (fun c10 => ?_) (fun c10 => ?_)
  · have h := h.1 (of_decide_eq_true c10)
    refine elim_some ha7 ?_
    obtain ⟨L12a, L12n, L12c, hc11, h⟩ := h
    refine ⟨L12a, L12n, L12c, hc11, ?_⟩
    obtain ⟨a13, ha13, h⟩ := h
    refine elim_some ha13 ?_
    obtain ⟨hq1, hq2, h⟩ := h
    refine ⟨hq1, hq2, ?_⟩
    obtain ⟨H15, hc14, h⟩ := h
    refine ⟨H15, hc14, ?_⟩
    refine bif_of (fun c16 => ?_) (fun c16 => ?_)
    · have h := h.1 (beq_t c16)
      exact h
    · have h := h.2 (beq_f c16)
      obtain ⟨hw1, hw2, h⟩ := h
      try rw [w64 hw1 hw2]
      obtain ⟨m17, hk, h⟩ := h
      exact ⟨m17, hk, h⟩
  · have h := h.2 (Int.not_lt.1 (of_decide_eq_false c10))
    exact h

theorem cachetteref03_Oracle_at.go (o1 : Option Addr) (h2 : Int) {R : Value → World → Prop} {w : World} (h : cachetteref03_Oracle_at.N o1 h2 R w) : Calls Try.prog 48 #[.pointer o1, .int .u64 h2] w fun e w' => ∃ v, e = .returned v ∧ R v w' := cachetteref03_Oracle_at.ok o1 h2 (cachetteref03_Oracle_at.up o1 h2 h)
theorem cachetteref03_Oracle_at.run (o1 : Option Addr) (h2 : Int) {V : Value} {Q : World → Prop} {w : World} (h : cachetteref03_Oracle_at.N o1 h2 (fun v w' => v = V ∧ Q w') w) : Calls Try.prog 48 #[.pointer o1, .int .u64 h2] w (Ret V Q) := (cachetteref03_Oracle_at.go o1 h2 h).mono fun e w' ⟨v, he, hv, hq⟩ => ⟨by rw [he, hv], hq⟩

/-- (*cachetteref03.Oracle).put -/
def cachetteref03_Oracle_put.M (o1 : Option Addr) (rH2 : Int) (rKind3 : Int) (rA4a : Option Addr) (rA4n : Nat) (rA4c : Nat) (rB5a : Option Addr) (rB5n : Nat) (rB5c : Nat) (rN6 : Int) (rM7 : Int) (R : Value → World → Prop) (w : World) : Prop :=
  thenW (w.alloc (.cells #[.int .u64 rH2, .int .i64 rKind3, .slice rA4a rA4n rA4c, .slice rB5a rB5n rB5c, .int .u64 rN6, .int .u64 rM7] 75)) fun ww8 =>
  ∃ (I0 : Nat → List Value → World → Prop) (m10 : Nat), I0 m10 [.int .u64 0] ww8 ∧ ∀ (m11 : Nat) (ww12 : World) (h9 : Int), I0 m11 [.int .u64 h9] ww12 →
  o1.elim False fun a13 =>
  ∃ (Draws14a : Option Addr) (Draws14n : Nat) (Draws14c : Nat), ww12.cell? (a13.add 0) = some (.slice Draws14a Draws14n Draws14c) ∧
  bif decide ((Draws14n : Int) > 0) then (
  bif h9 == 0 then (
  o1.elim False fun a15 =>
  ∃ (Draws16a : Option Addr) (Draws16n : Nat) (Draws16c : Nat), ww12.cell? (a15.add 0) = some (.slice Draws16a Draws16n Draws16c) ∧
  Draws16a.elim False fun a17 =>
  0 ≤ (0 : Int) ∧ (0 : Int) < (Draws16n : Int) ∧
  ∃ (x18 : Int), ww12.cell? (a17.add (Int.toNat 0 * 1)) = some (.int .u64 x18) ∧
  o1.elim False fun a19 =>
  ∃ (Draws20a : Option Addr) (Draws20n : Nat) (Draws20c : Nat), ww12.cell? (a19.add 0) = some (.slice Draws20a Draws20n Draws20c) ∧
  (0 : Int) ≤ (1 : Int) ∧ (1 : Int) ≤ (Draws20n : Int) ∧
  o1.elim False fun a21 =>
  canStore ww12 ((a21.add 0).add 0) ∧
  thenW (ww12.setCell ((a21.add 0).add 0) (.slice (if Draws20c = Int.toNat 1 then Draws20a else Option.map (fun z : Addr => z.add ((Int.toNat 1) * 1)) Draws20a) (Draws20n - (Int.toNat 1)) (Draws20c - (Int.toNat 1)))) fun ww22 =>
  ∃ m23, m23 < m11 ∧ I0 m23 [.int .u64 x18] ww22) else (
  Calls Try.prog 48 #[.pointer o1, .int .u64 h9] ww12 fun ee25 ww26 => ∃ (atv24 : Int), ee25 = .returned (.int .i64 atv24) ∧
  bif decide (atv24 ≥ 0) then (
  o1.elim False fun a27 =>
  ∃ (Draws28a : Option Addr) (Draws28n : Nat) (Draws28c : Nat), ww26.cell? (a27.add 0) = some (.slice Draws28a Draws28n Draws28c) ∧
  Draws28a.elim False fun a29 =>
  0 ≤ (0 : Int) ∧ (0 : Int) < (Draws28n : Int) ∧
  ∃ (x30 : Int), ww26.cell? (a29.add (Int.toNat 0 * 1)) = some (.int .u64 x30) ∧
  o1.elim False fun a31 =>
  ∃ (Draws32a : Option Addr) (Draws32n : Nat) (Draws32c : Nat), ww26.cell? (a31.add 0) = some (.slice Draws32a Draws32n Draws32c) ∧
  (0 : Int) ≤ (1 : Int) ∧ (1 : Int) ≤ (Draws32n : Int) ∧
  o1.elim False fun a33 =>
  canStore ww26 ((a33.add 0).add 0) ∧
  thenW (ww26.setCell ((a33.add 0).add 0) (.slice (if Draws32c = Int.toNat 1 then Draws32a else Option.map (fun z : Addr => z.add ((Int.toNat 1) * 1)) Draws32a) (Draws32n - (Int.toNat 1)) (Draws32c - (Int.toNat 1)))) fun ww34 =>
  ∃ m35, m35 < m11 ∧ I0 m35 [.int .u64 x30] ww34) else (
  bif h9 == 0 then (
  ∃ (I2 : Nat → List Value → World → Prop) (m37 : Nat), I2 m37 [.int .u64 1] ww26 ∧ ∀ (m38 : Nat) (ww39 : World) (h36 : Int), I2 m38 [.int .u64 h36] ww39 →
  Calls Try.prog 48 #[.pointer o1, .int .u64 h36] ww39 fun ee41 ww42 => ∃ (atv40 : Int), ee41 = .returned (.int .i64 atv40) ∧
  bif decide (atv40 ≥ 0) then (
  ∃ m43, m43 < m38 ∧ I2 m43 [.int .u64 (IntKind.u64.wrap (h36 + 1))] ww42) else (
  canStore ww42 (((blk w.heap.size).add 0).add 0) ∧
  thenW (ww42.setCell (((blk w.heap.size).add 0).add 0) (.int .u64 h36)) fun ww44 =>
  thenW (ww44.drew) fun ww45 =>
  o1.elim False fun a46 =>
  ∃ (L47a : Option Addr) (L47n : Nat) (L47c : Nat), ww45.cell? (a46.add 1) = some (.slice L47a L47n L47c) ∧
  ∃ (xH48 : Int) (xKind49 : Int) (xA50a : Option Addr) (xA50n : Nat) (xA50c : Nat) (xB51a : Option Addr) (xB51n : Nat) (xB51c : Nat) (xN52 : Int) (xM53 : Int), cellsAt ww45 (blk w.heap.size) [.int .u64 xH48, .int .i64 xKind49, .slice xA50a xA50n xA50c, .slice xB51a xB51n xB51c, .int .u64 xN52, .int .u64 xM53] 0 ∧
  thenW (ww45.alloc (.cells #[.int .u64 xH48, .int .i64 xKind49, .slice xA50a xA50n xA50c, .slice xB51a xB51n xB51c, .int .u64 xN52, .int .u64 xM53] 75)) fun ww54 =>
  ww54.cell? (a46.add 1) = some (.slice L47a L47n L47c) ∧
  ∃ (a55a : Option Addr) (a55n : Nat) (a55c : Nat) (ww56 : World), (Builtin.append_ #[42, 42] 42 #[.slice L47a L47n L47c, .slice (some (blk ww45.heap.size)) 1 1]).run Try.prog ww54 = .ok (.slice a55a a55n a55c) ww56 ∧
  o1.elim False fun a57 =>
  canStore ww56 ((a57.add 1).add 0) ∧
  thenW (ww56.setCell ((a57.add 1).add 0) (.slice a55a a55n a55c)) fun ww58 =>
  R (.int .u64 h36) ww58)) else (
  Calls Try.prog 48 #[.pointer o1, .int .u64 h9] ww26 fun ee60 ww61 => ∃ (atv59 : Int), ee60 = .returned (.int .i64 atv59) ∧
  bif decide (atv59 ≥ 0) then (
  ∃ (I2 : Nat → List Value → World → Prop) (m63 : Nat), I2 m63 [.int .u64 1] ww61 ∧ ∀ (m64 : Nat) (ww65 : World) (h62 : Int), I2 m64 [.int .u64 h62] ww65 →
  Calls Try.prog 48 #[.pointer o1, .int .u64 h62] ww65 fun ee67 ww68 => ∃ (atv66 : Int), ee67 = .returned (.int .i64 atv66) ∧
  bif decide (atv66 ≥ 0) then (
  ∃ m69, m69 < m64 ∧ I2 m69 [.int .u64 (IntKind.u64.wrap (h62 + 1))] ww68) else (
  canStore ww68 (((blk w.heap.size).add 0).add 0) ∧
  thenW (ww68.setCell (((blk w.heap.size).add 0).add 0) (.int .u64 h62)) fun ww70 =>
  thenW (ww70.drew) fun ww71 =>
  o1.elim False fun a72 =>
  ∃ (L73a : Option Addr) (L73n : Nat) (L73c : Nat), ww71.cell? (a72.add 1) = some (.slice L73a L73n L73c) ∧
  ∃ (xH74 : Int) (xKind75 : Int) (xA76a : Option Addr) (xA76n : Nat) (xA76c : Nat) (xB77a : Option Addr) (xB77n : Nat) (xB77c : Nat) (xN78 : Int) (xM79 : Int), cellsAt ww71 (blk w.heap.size) [.int .u64 xH74, .int .i64 xKind75, .slice xA76a xA76n xA76c, .slice xB77a xB77n xB77c, .int .u64 xN78, .int .u64 xM79] 0 ∧
  thenW (ww71.alloc (.cells #[.int .u64 xH74, .int .i64 xKind75, .slice xA76a xA76n xA76c, .slice xB77a xB77n xB77c, .int .u64 xN78, .int .u64 xM79] 75)) fun ww80 =>
  ww80.cell? (a72.add 1) = some (.slice L73a L73n L73c) ∧
  ∃ (a81a : Option Addr) (a81n : Nat) (a81c : Nat) (ww82 : World), (Builtin.append_ #[42, 42] 42 #[.slice L73a L73n L73c, .slice (some (blk ww71.heap.size)) 1 1]).run Try.prog ww80 = .ok (.slice a81a a81n a81c) ww82 ∧
  o1.elim False fun a83 =>
  canStore ww82 ((a83.add 1).add 0) ∧
  thenW (ww82.setCell ((a83.add 1).add 0) (.slice a81a a81n a81c)) fun ww84 =>
  R (.int .u64 h62) ww84)) else (
  canStore ww61 (((blk w.heap.size).add 0).add 0) ∧
  thenW (ww61.setCell (((blk w.heap.size).add 0).add 0) (.int .u64 h9)) fun ww85 =>
  thenW (ww85.drew) fun ww86 =>
  o1.elim False fun a87 =>
  ∃ (L88a : Option Addr) (L88n : Nat) (L88c : Nat), ww86.cell? (a87.add 1) = some (.slice L88a L88n L88c) ∧
  ∃ (xH89 : Int) (xKind90 : Int) (xA91a : Option Addr) (xA91n : Nat) (xA91c : Nat) (xB92a : Option Addr) (xB92n : Nat) (xB92c : Nat) (xN93 : Int) (xM94 : Int), cellsAt ww86 (blk w.heap.size) [.int .u64 xH89, .int .i64 xKind90, .slice xA91a xA91n xA91c, .slice xB92a xB92n xB92c, .int .u64 xN93, .int .u64 xM94] 0 ∧
  thenW (ww86.alloc (.cells #[.int .u64 xH89, .int .i64 xKind90, .slice xA91a xA91n xA91c, .slice xB92a xB92n xB92c, .int .u64 xN93, .int .u64 xM94] 75)) fun ww95 =>
  ww95.cell? (a87.add 1) = some (.slice L88a L88n L88c) ∧
  ∃ (a96a : Option Addr) (a96n : Nat) (a96c : Nat) (ww97 : World), (Builtin.append_ #[42, 42] 42 #[.slice L88a L88n L88c, .slice (some (blk ww86.heap.size)) 1 1]).run Try.prog ww95 = .ok (.slice a96a a96n a96c) ww97 ∧
  o1.elim False fun a98 =>
  canStore ww97 ((a98.add 1).add 0) ∧
  thenW (ww97.setCell ((a98.add 1).add 0) (.slice a96a a96n a96c)) fun ww99 =>
  R (.int .u64 h9) ww99))))) else (
  bif h9 == 0 then (
  ∃ (I2 : Nat → List Value → World → Prop) (m101 : Nat), I2 m101 [.int .u64 1] ww12 ∧ ∀ (m102 : Nat) (ww103 : World) (h100 : Int), I2 m102 [.int .u64 h100] ww103 →
  Calls Try.prog 48 #[.pointer o1, .int .u64 h100] ww103 fun ee105 ww106 => ∃ (atv104 : Int), ee105 = .returned (.int .i64 atv104) ∧
  bif decide (atv104 ≥ 0) then (
  ∃ m107, m107 < m102 ∧ I2 m107 [.int .u64 (IntKind.u64.wrap (h100 + 1))] ww106) else (
  canStore ww106 (((blk w.heap.size).add 0).add 0) ∧
  thenW (ww106.setCell (((blk w.heap.size).add 0).add 0) (.int .u64 h100)) fun ww108 =>
  thenW (ww108.drew) fun ww109 =>
  o1.elim False fun a110 =>
  ∃ (L111a : Option Addr) (L111n : Nat) (L111c : Nat), ww109.cell? (a110.add 1) = some (.slice L111a L111n L111c) ∧
  ∃ (xH112 : Int) (xKind113 : Int) (xA114a : Option Addr) (xA114n : Nat) (xA114c : Nat) (xB115a : Option Addr) (xB115n : Nat) (xB115c : Nat) (xN116 : Int) (xM117 : Int), cellsAt ww109 (blk w.heap.size) [.int .u64 xH112, .int .i64 xKind113, .slice xA114a xA114n xA114c, .slice xB115a xB115n xB115c, .int .u64 xN116, .int .u64 xM117] 0 ∧
  thenW (ww109.alloc (.cells #[.int .u64 xH112, .int .i64 xKind113, .slice xA114a xA114n xA114c, .slice xB115a xB115n xB115c, .int .u64 xN116, .int .u64 xM117] 75)) fun ww118 =>
  ww118.cell? (a110.add 1) = some (.slice L111a L111n L111c) ∧
  ∃ (a119a : Option Addr) (a119n : Nat) (a119c : Nat) (ww120 : World), (Builtin.append_ #[42, 42] 42 #[.slice L111a L111n L111c, .slice (some (blk ww109.heap.size)) 1 1]).run Try.prog ww118 = .ok (.slice a119a a119n a119c) ww120 ∧
  o1.elim False fun a121 =>
  canStore ww120 ((a121.add 1).add 0) ∧
  thenW (ww120.setCell ((a121.add 1).add 0) (.slice a119a a119n a119c)) fun ww122 =>
  R (.int .u64 h100) ww122)) else (
  Calls Try.prog 48 #[.pointer o1, .int .u64 h9] ww12 fun ee124 ww125 => ∃ (atv123 : Int), ee124 = .returned (.int .i64 atv123) ∧
  bif decide (atv123 ≥ 0) then (
  ∃ (I2 : Nat → List Value → World → Prop) (m127 : Nat), I2 m127 [.int .u64 1] ww125 ∧ ∀ (m128 : Nat) (ww129 : World) (h126 : Int), I2 m128 [.int .u64 h126] ww129 →
  Calls Try.prog 48 #[.pointer o1, .int .u64 h126] ww129 fun ee131 ww132 => ∃ (atv130 : Int), ee131 = .returned (.int .i64 atv130) ∧
  bif decide (atv130 ≥ 0) then (
  ∃ m133, m133 < m128 ∧ I2 m133 [.int .u64 (IntKind.u64.wrap (h126 + 1))] ww132) else (
  canStore ww132 (((blk w.heap.size).add 0).add 0) ∧
  thenW (ww132.setCell (((blk w.heap.size).add 0).add 0) (.int .u64 h126)) fun ww134 =>
  thenW (ww134.drew) fun ww135 =>
  o1.elim False fun a136 =>
  ∃ (L137a : Option Addr) (L137n : Nat) (L137c : Nat), ww135.cell? (a136.add 1) = some (.slice L137a L137n L137c) ∧
  ∃ (xH138 : Int) (xKind139 : Int) (xA140a : Option Addr) (xA140n : Nat) (xA140c : Nat) (xB141a : Option Addr) (xB141n : Nat) (xB141c : Nat) (xN142 : Int) (xM143 : Int), cellsAt ww135 (blk w.heap.size) [.int .u64 xH138, .int .i64 xKind139, .slice xA140a xA140n xA140c, .slice xB141a xB141n xB141c, .int .u64 xN142, .int .u64 xM143] 0 ∧
  thenW (ww135.alloc (.cells #[.int .u64 xH138, .int .i64 xKind139, .slice xA140a xA140n xA140c, .slice xB141a xB141n xB141c, .int .u64 xN142, .int .u64 xM143] 75)) fun ww144 =>
  ww144.cell? (a136.add 1) = some (.slice L137a L137n L137c) ∧
  ∃ (a145a : Option Addr) (a145n : Nat) (a145c : Nat) (ww146 : World), (Builtin.append_ #[42, 42] 42 #[.slice L137a L137n L137c, .slice (some (blk ww135.heap.size)) 1 1]).run Try.prog ww144 = .ok (.slice a145a a145n a145c) ww146 ∧
  o1.elim False fun a147 =>
  canStore ww146 ((a147.add 1).add 0) ∧
  thenW (ww146.setCell ((a147.add 1).add 0) (.slice a145a a145n a145c)) fun ww148 =>
  R (.int .u64 h126) ww148)) else (
  canStore ww125 (((blk w.heap.size).add 0).add 0) ∧
  thenW (ww125.setCell (((blk w.heap.size).add 0).add 0) (.int .u64 h9)) fun ww149 =>
  thenW (ww149.drew) fun ww150 =>
  o1.elim False fun a151 =>
  ∃ (L152a : Option Addr) (L152n : Nat) (L152c : Nat), ww150.cell? (a151.add 1) = some (.slice L152a L152n L152c) ∧
  ∃ (xH153 : Int) (xKind154 : Int) (xA155a : Option Addr) (xA155n : Nat) (xA155c : Nat) (xB156a : Option Addr) (xB156n : Nat) (xB156c : Nat) (xN157 : Int) (xM158 : Int), cellsAt ww150 (blk w.heap.size) [.int .u64 xH153, .int .i64 xKind154, .slice xA155a xA155n xA155c, .slice xB156a xB156n xB156c, .int .u64 xN157, .int .u64 xM158] 0 ∧
  thenW (ww150.alloc (.cells #[.int .u64 xH153, .int .i64 xKind154, .slice xA155a xA155n xA155c, .slice xB156a xB156n xB156c, .int .u64 xN157, .int .u64 xM158] 75)) fun ww159 =>
  ww159.cell? (a151.add 1) = some (.slice L152a L152n L152c) ∧
  ∃ (a160a : Option Addr) (a160n : Nat) (a160c : Nat) (ww161 : World), (Builtin.append_ #[42, 42] 42 #[.slice L152a L152n L152c, .slice (some (blk ww150.heap.size)) 1 1]).run Try.prog ww159 = .ok (.slice a160a a160n a160c) ww161 ∧
  o1.elim False fun a162 =>
  canStore ww161 ((a162.add 1).add 0) ∧
  thenW (ww161.setCell ((a162.add 1).add 0) (.slice a160a a160n a160c)) fun ww163 =>
  R (.int .u64 h9) ww163)))

theorem cachetteref03_Oracle_put.eq (o1 : Option Addr) (rH2 : Int) (rKind3 : Int) (rA4a : Option Addr) (rA4n : Nat) (rA4c : Nat) (rB5a : Option Addr) (rB5n : Nat) (rB5c : Nat) (rN6 : Int) (rM7 : Int) (R : Value → World → Prop) (w : World) : mfunc Try.prog [(0, [0, 3], [(5, (.one (.int .u64)))]), (2, [0, 3], [(5, (.one (.int .u64)))])] 36 [.pointer o1, .agg #[.int .u64 rH2, .int .i64 rKind3, .slice rA4a rA4n rA4c, .slice rB5a rB5n rB5c, .int .u64 rN6, .int .u64 rM7]] R w = cachetteref03_Oracle_put.M o1 rH2 rKind3 rA4a rA4n rA4c rB5a rB5n rB5c rN6 rM7 R w := by kernel_rfl
theorem cachetteref03_Oracle_put.ok (o1 : Option Addr) (rH2 : Int) (rKind3 : Int) (rA4a : Option Addr) (rA4n : Nat) (rA4c : Nat) (rB5a : Option Addr) (rB5n : Nat) (rB5c : Nat) (rN6 : Int) (rM7 : Int) {R : Value → World → Prop} {w : World} (h : cachetteref03_Oracle_put.M o1 rH2 rKind3 rA4a rA4n rA4c rB5a rB5n rB5c rN6 rM7 R w) : Calls Try.prog 36 #[.pointer o1, .agg #[.int .u64 rH2, .int .i64 rKind3, .slice rA4a rA4n rA4c, .slice rB5a rB5n rB5c, .int .u64 rN6, .int .u64 rM7]] w fun e w' => ∃ v, e = .returned v ∧ R v w' :=
  mfunc_ok follows (H := [(0, [0, 3], [(5, (.one (.int .u64)))]), (2, [0, 3], [(5, (.one (.int .u64)))])]) (args := [.pointer o1, .agg #[.int .u64 rH2, .int .i64 rKind3, .slice rA4a rA4n rA4c, .slice rB5a rB5n rB5c, .int .u64 rN6, .int .u64 rM7]]) (by rw [cachetteref03_Oracle_put.eq]; exact h)

def cachetteref03_Oracle_put.N (o1 : Option Addr) (rH2 : Int) (rKind3 : Int) (rA4a : Option Addr) (rA4n : Nat) (rA4c : Nat) (rB5a : Option Addr) (rB5n : Nat) (rB5c : Nat) (rN6 : Int) (rM7 : Int) (R : Value → World → Prop) (w : World) : Prop :=
  ∀ (ww8 : World) (p9 : Nat), Ext no w ww8 → Priv w ww8 [p9] →
  ∃ (I0 : Nat → List Value → World → Prop) (m17 : Nat), I0 m17 [.int .u64 0, .int .u64 rH2, .int .i64 rKind3, .slice rA4a rA4n rA4c, .slice rB5a rB5n rB5c, .int .u64 rN6, .int .u64 rM7] ww8 ∧ ∀ (m18 : Nat) (ww19 : World) (h10 : Int) (H11 : Int) (Kind12 : Int) (A13a : Option Addr) (A13n : Nat) (A13c : Nat) (B14a : Option Addr) (B14n : Nat) (B14c : Nat) (N15 : Int) (M16 : Int), I0 m18 [.int .u64 h10, .int .u64 H11, .int .i64 Kind12, .slice A13a A13n A13c, .slice B14a B14n B14c, .int .u64 N15, .int .u64 M16] ww19 →
  ∃ a20 : Addr, o1 = some a20 ∧
  ∃ (Draws22a : Option Addr) (Draws22n : Nat) (Draws22c : Nat), ww19.cell? (a20.add 0) = some (.slice Draws22a Draws22n Draws22c) ∧
  ((Draws22n : Int) > 0 →
    (h10 = 0 →
      ∃ (Draws26a : Option Addr) (Draws26n : Nat) (Draws26c : Nat), ww19.cell? (a20.add 0) = some (.slice Draws26a Draws26n Draws26c) ∧
      ∃ a27 : Addr, Draws26a = some a27 ∧
      (0 : Int) < (Draws26n : Int) ∧
      ∃ (x29 : Int), ww19.cell? (a27.add (Int.toNat 0 * 1)) = some (.int .u64 x29) ∧
      ∃ (Draws31a : Option Addr) (Draws31n : Nat) (Draws31c : Nat), ww19.cell? (a20.add 0) = some (.slice Draws31a Draws31n Draws31c) ∧
      (1 : Int) ≤ (Draws31n : Int) ∧ 
      canStore ww19 ((a20.add 0).add 0) ∧
      (∀ p ∈ [p9], p ≠ Addr.block (a20.add 0)) ∧
      thenW (ww19.setCell ((a20.add 0).add 0) (.slice (cutA Draws31a Draws31c 1 1) (Draws31n - 1) (Draws31c - 1))) fun ww32 =>
      ∃ m33, m33 < m18 ∧ I0 m33 [.int .u64 x29, .int .u64 H11, .int .i64 Kind12, .slice A13a A13n A13c, .slice B14a B14n B14c, .int .u64 N15, .int .u64 M16] ww32) ∧
    (h10 ≠ 0 →
      Calls Try.prog 48 #[.pointer o1, .int .u64 h10] ww19 fun ee35 ww36 => ∃ (atv34 : Int), ee35 = .returned (.int .i64 atv34) ∧
      Keep [p9] ww19 ww36 ∧
      (atv34 ≥ 0 →
        ∃ (Draws39a : Option Addr) (Draws39n : Nat) (Draws39c : Nat), ww36.cell? (a20.add 0) = some (.slice Draws39a Draws39n Draws39c) ∧
        ∃ a40 : Addr, Draws39a = some a40 ∧
        (0 : Int) < (Draws39n : Int) ∧
        ∃ (x42 : Int), ww36.cell? (a40.add (Int.toNat 0 * 1)) = some (.int .u64 x42) ∧
        ∃ (Draws44a : Option Addr) (Draws44n : Nat) (Draws44c : Nat), ww36.cell? (a20.add 0) = some (.slice Draws44a Draws44n Draws44c) ∧
        (1 : Int) ≤ (Draws44n : Int) ∧ 
        canStore ww36 ((a20.add 0).add 0) ∧
        (∀ p ∈ [p9], p ≠ Addr.block (a20.add 0)) ∧
        thenW (ww36.setCell ((a20.add 0).add 0) (.slice (cutA Draws44a Draws44c 1 1) (Draws44n - 1) (Draws44c - 1))) fun ww45 =>
        ∃ m46, m46 < m18 ∧ I0 m46 [.int .u64 x42, .int .u64 H11, .int .i64 Kind12, .slice A13a A13n A13c, .slice B14a B14n B14c, .int .u64 N15, .int .u64 M16] ww45) ∧
      (atv34 < 0 →
        Calls Try.prog 48 #[.pointer o1, .int .u64 h10] ww36 fun ee48 ww49 => ∃ (atv47 : Int), ee48 = .returned (.int .i64 atv47) ∧
        Keep [p9] ww36 ww49 ∧
        (atv47 ≥ 0 →
          ∃ (I2 : Nat → List Value → World → Prop) (m58 : Nat), I2 m58 [.int .u64 1, .int .u64 H11, .int .i64 Kind12, .slice A13a A13n A13c, .slice B14a B14n B14c, .int .u64 N15, .int .u64 M16] ww49 ∧ ∀ (m59 : Nat) (ww60 : World) (h51 : Int) (H52 : Int) (Kind53 : Int) (A54a : Option Addr) (A54n : Nat) (A54c : Nat) (B55a : Option Addr) (B55n : Nat) (B55c : Nat) (N56 : Int) (M57 : Int), I2 m59 [.int .u64 h51, .int .u64 H52, .int .i64 Kind53, .slice A54a A54n A54c, .slice B55a B55n B55c, .int .u64 N56, .int .u64 M57] ww60 →
          Calls Try.prog 48 #[.pointer o1, .int .u64 h51] ww60 fun ee62 ww63 => ∃ (atv61 : Int), ee62 = .returned (.int .i64 atv61) ∧
          Keep [p9] ww60 ww63 ∧
          (atv61 ≥ 0 →
            ∃ m65, m65 < m59 ∧ I2 m65 [.int .u64 (IntKind.u64.wrap (h51 + 1)), .int .u64 H52, .int .i64 Kind53, .slice A54a A54n A54c, .slice B55a B55n B55c, .int .u64 N56, .int .u64 M57] ww63) ∧
          (atv61 < 0 →
            ∀ (ww67 : World), Ext (fun b => b = p9) ww63 ww67 →
            ∃ (L69a : Option Addr) (L69n : Nat) (L69c : Nat), ww67.cell? (a20.add 1) = some (.slice L69a L69n L69c) ∧
            ∀ (ww70 : World) (q71 : Nat), Ext no ww67 ww70 → Blk ww70 q71 75 [.int .u64 h51, .int .i64 Kind53, .slice A54a A54n A54c, .slice B55a B55n B55c, .int .u64 N56, .int .u64 M57] → ww67.heap.size ≤ q71 → q71 < ww70.heap.size →
            ww70.cell? (a20.add 1) = some (.slice L69a L69n L69c) ∧
            ∃ (a73a : Option Addr) (a73n : Nat) (a73c : Nat) (ww74 : World), (Builtin.append_ #[42, 42] 42 #[.slice L69a L69n L69c, .slice (some (blk q71)) 1 1]).run Try.prog ww70 = .ok (.slice a73a a73n a73c) ww74 ∧
            canStore ww74 ((a20.add 1).add 0) ∧
            thenW (ww74.setCell ((a20.add 1).add 0) (.slice a73a a73n a73c)) fun ww75 =>
            R (.int .u64 h51) ww75)) ∧
        (atv47 < 0 →
          ∀ (ww77 : World), Ext (fun b => b = p9) ww49 ww77 →
          ∃ (L79a : Option Addr) (L79n : Nat) (L79c : Nat), ww77.cell? (a20.add 1) = some (.slice L79a L79n L79c) ∧
          ∀ (ww80 : World) (q81 : Nat), Ext no ww77 ww80 → Blk ww80 q81 75 [.int .u64 h10, .int .i64 Kind12, .slice A13a A13n A13c, .slice B14a B14n B14c, .int .u64 N15, .int .u64 M16] → ww77.heap.size ≤ q81 → q81 < ww80.heap.size →
          ww80.cell? (a20.add 1) = some (.slice L79a L79n L79c) ∧
          ∃ (a83a : Option Addr) (a83n : Nat) (a83c : Nat) (ww84 : World), (Builtin.append_ #[42, 42] 42 #[.slice L79a L79n L79c, .slice (some (blk q81)) 1 1]).run Try.prog ww80 = .ok (.slice a83a a83n a83c) ww84 ∧
          canStore ww84 ((a20.add 1).add 0) ∧
          thenW (ww84.setCell ((a20.add 1).add 0) (.slice a83a a83n a83c)) fun ww85 =>
          R (.int .u64 h10) ww85)))) ∧
  ((Draws22n : Int) ≤ 0 →
    (h10 = 0 →
      ∃ (I2 : Nat → List Value → World → Prop) (m94 : Nat), I2 m94 [.int .u64 1, .int .u64 H11, .int .i64 Kind12, .slice A13a A13n A13c, .slice B14a B14n B14c, .int .u64 N15, .int .u64 M16] ww19 ∧ ∀ (m95 : Nat) (ww96 : World) (h87 : Int) (H88 : Int) (Kind89 : Int) (A90a : Option Addr) (A90n : Nat) (A90c : Nat) (B91a : Option Addr) (B91n : Nat) (B91c : Nat) (N92 : Int) (M93 : Int), I2 m95 [.int .u64 h87, .int .u64 H88, .int .i64 Kind89, .slice A90a A90n A90c, .slice B91a B91n B91c, .int .u64 N92, .int .u64 M93] ww96 →
      Calls Try.prog 48 #[.pointer o1, .int .u64 h87] ww96 fun ee98 ww99 => ∃ (atv97 : Int), ee98 = .returned (.int .i64 atv97) ∧
      Keep [p9] ww96 ww99 ∧
      (atv97 ≥ 0 →
        ∃ m101, m101 < m95 ∧ I2 m101 [.int .u64 (IntKind.u64.wrap (h87 + 1)), .int .u64 H88, .int .i64 Kind89, .slice A90a A90n A90c, .slice B91a B91n B91c, .int .u64 N92, .int .u64 M93] ww99) ∧
      (atv97 < 0 →
        ∀ (ww103 : World), Ext (fun b => b = p9) ww99 ww103 →
        ∃ (L105a : Option Addr) (L105n : Nat) (L105c : Nat), ww103.cell? (a20.add 1) = some (.slice L105a L105n L105c) ∧
        ∀ (ww106 : World) (q107 : Nat), Ext no ww103 ww106 → Blk ww106 q107 75 [.int .u64 h87, .int .i64 Kind89, .slice A90a A90n A90c, .slice B91a B91n B91c, .int .u64 N92, .int .u64 M93] → ww103.heap.size ≤ q107 → q107 < ww106.heap.size →
        ww106.cell? (a20.add 1) = some (.slice L105a L105n L105c) ∧
        ∃ (a109a : Option Addr) (a109n : Nat) (a109c : Nat) (ww110 : World), (Builtin.append_ #[42, 42] 42 #[.slice L105a L105n L105c, .slice (some (blk q107)) 1 1]).run Try.prog ww106 = .ok (.slice a109a a109n a109c) ww110 ∧
        canStore ww110 ((a20.add 1).add 0) ∧
        thenW (ww110.setCell ((a20.add 1).add 0) (.slice a109a a109n a109c)) fun ww111 =>
        R (.int .u64 h87) ww111)) ∧
    (h10 ≠ 0 →
      Calls Try.prog 48 #[.pointer o1, .int .u64 h10] ww19 fun ee113 ww114 => ∃ (atv112 : Int), ee113 = .returned (.int .i64 atv112) ∧
      Keep [p9] ww19 ww114 ∧
      (atv112 ≥ 0 →
        ∃ (I2 : Nat → List Value → World → Prop) (m123 : Nat), I2 m123 [.int .u64 1, .int .u64 H11, .int .i64 Kind12, .slice A13a A13n A13c, .slice B14a B14n B14c, .int .u64 N15, .int .u64 M16] ww114 ∧ ∀ (m124 : Nat) (ww125 : World) (h116 : Int) (H117 : Int) (Kind118 : Int) (A119a : Option Addr) (A119n : Nat) (A119c : Nat) (B120a : Option Addr) (B120n : Nat) (B120c : Nat) (N121 : Int) (M122 : Int), I2 m124 [.int .u64 h116, .int .u64 H117, .int .i64 Kind118, .slice A119a A119n A119c, .slice B120a B120n B120c, .int .u64 N121, .int .u64 M122] ww125 →
        Calls Try.prog 48 #[.pointer o1, .int .u64 h116] ww125 fun ee127 ww128 => ∃ (atv126 : Int), ee127 = .returned (.int .i64 atv126) ∧
        Keep [p9] ww125 ww128 ∧
        (atv126 ≥ 0 →
          ∃ m130, m130 < m124 ∧ I2 m130 [.int .u64 (IntKind.u64.wrap (h116 + 1)), .int .u64 H117, .int .i64 Kind118, .slice A119a A119n A119c, .slice B120a B120n B120c, .int .u64 N121, .int .u64 M122] ww128) ∧
        (atv126 < 0 →
          ∀ (ww132 : World), Ext (fun b => b = p9) ww128 ww132 →
          ∃ (L134a : Option Addr) (L134n : Nat) (L134c : Nat), ww132.cell? (a20.add 1) = some (.slice L134a L134n L134c) ∧
          ∀ (ww135 : World) (q136 : Nat), Ext no ww132 ww135 → Blk ww135 q136 75 [.int .u64 h116, .int .i64 Kind118, .slice A119a A119n A119c, .slice B120a B120n B120c, .int .u64 N121, .int .u64 M122] → ww132.heap.size ≤ q136 → q136 < ww135.heap.size →
          ww135.cell? (a20.add 1) = some (.slice L134a L134n L134c) ∧
          ∃ (a138a : Option Addr) (a138n : Nat) (a138c : Nat) (ww139 : World), (Builtin.append_ #[42, 42] 42 #[.slice L134a L134n L134c, .slice (some (blk q136)) 1 1]).run Try.prog ww135 = .ok (.slice a138a a138n a138c) ww139 ∧
          canStore ww139 ((a20.add 1).add 0) ∧
          thenW (ww139.setCell ((a20.add 1).add 0) (.slice a138a a138n a138c)) fun ww140 =>
          R (.int .u64 h116) ww140)) ∧
      (atv112 < 0 →
        ∀ (ww142 : World), Ext (fun b => b = p9) ww114 ww142 →
        ∃ (L144a : Option Addr) (L144n : Nat) (L144c : Nat), ww142.cell? (a20.add 1) = some (.slice L144a L144n L144c) ∧
        ∀ (ww145 : World) (q146 : Nat), Ext no ww142 ww145 → Blk ww145 q146 75 [.int .u64 h10, .int .i64 Kind12, .slice A13a A13n A13c, .slice B14a B14n B14c, .int .u64 N15, .int .u64 M16] → ww142.heap.size ≤ q146 → q146 < ww145.heap.size →
        ww145.cell? (a20.add 1) = some (.slice L144a L144n L144c) ∧
        ∃ (a148a : Option Addr) (a148n : Nat) (a148c : Nat) (ww149 : World), (Builtin.append_ #[42, 42] 42 #[.slice L144a L144n L144c, .slice (some (blk q146)) 1 1]).run Try.prog ww145 = .ok (.slice a148a a148n a148c) ww149 ∧
        canStore ww149 ((a20.add 1).add 0) ∧
        thenW (ww149.setCell ((a20.add 1).add 0) (.slice a148a a148n a148c)) fun ww150 =>
        R (.int .u64 h10) ww150)))

theorem cachetteref03_Oracle_put.up (o1 : Option Addr) (rH2 : Int) (rKind3 : Int) (rA4a : Option Addr) (rA4n : Nat) (rA4c : Nat) (rB5a : Option Addr) (rB5n : Nat) (rB5c : Nat) (rN6 : Int) (rM7 : Int) {R : Value → World → Prop} {w : World} (h : cachetteref03_Oracle_put.N o1 rH2 rKind3 rA4a rA4n rA4c rB5a rB5n rB5c rN6 rM7 R w) : cachetteref03_Oracle_put.M o1 rH2 rKind3 rA4a rA4n rA4c rB5a rB5n rB5c rN6 rM7 R w := by
  unfold cachetteref03_Oracle_put.M
  unfold cachetteref03_Oracle_put.N at h
  refine thenW_in fun ww8 e8 => ?_
  have hb1 := Blk.of_new e8
  have hg1 := ((Ext.refl no w)).size
  have hx8 := (Ext.refl no w).x_alloc e8
  have h := h ww8 (w.heap.size) hx8 (Priv.cons hg1 hb1.lt Priv.nil)
  obtain ⟨I0, m17, h0, h⟩ := h
  refine ⟨fun k vs ww => ∃ (H11 : Int) (Kind12 : Int) (A13a : Option Addr) (A13n : Nat) (A13c : Nat) (B14a : Option Addr) (B14n : Nat) (B14c : Nat) (N15 : Int) (M16 : Int), Blk ww w.heap.size 75 [.int .u64 H11, .int .i64 Kind12, .slice A13a A13n A13c, .slice B14a B14n B14c, .int .u64 N15, .int .u64 M16] ∧ I0 k (vs ++ [.int .u64 H11, .int .i64 Kind12, .slice A13a A13n A13c, .slice B14a B14n B14c, .int .u64 N15, .int .u64 M16]) ww, m17, ⟨rH2, rKind3, rA4a, rA4n, rA4c, rB5a, rB5n, rB5c, rN6, rM7, hb1, h0⟩, fun m18 ww19 h10 hI => ?_⟩
  obtain ⟨H11, Kind12, A13a, A13n, A13c, B14a, B14n, B14c, N15, M16, hb1, hI⟩ := hI
  have h := h m18 ww19 h10 H11 Kind12 A13a A13n A13c B14a B14n B14c N15 M16 hI
  obtain ⟨a20, ha20, h⟩ := h
  refine elim_some ha20 ?_
  obtain ⟨Draws22a, Draws22n, Draws22c, hc21, h⟩ := h
  refine ⟨Draws22a, Draws22n, Draws22c, hc21, ?_⟩
  refine bif_of (fun c23 => ?_) (fun c23 => ?_)
  · have h := h.1 (of_decide_eq_true c23)
    refine bif_of (fun c24 => ?_) (fun c24 => ?_)
    · have h := h.1 (beq_t c24)
      refine elim_some ha20 ?_
      obtain ⟨Draws26a, Draws26n, Draws26c, hc25, h⟩ := h
      refine ⟨Draws26a, Draws26n, Draws26c, hc25, ?_⟩
      obtain ⟨a27, ha27, h⟩ := h
      refine elim_some ha27 ?_
      obtain ⟨hq2, h⟩ := h
      refine ⟨by decide, hq2, ?_⟩
      obtain ⟨x29, hc28, h⟩ := h
      refine ⟨x29, hc28, ?_⟩
      refine elim_some ha20 ?_
      obtain ⟨Draws31a, Draws31n, Draws31c, hc30, h⟩ := h
      refine ⟨Draws31a, Draws31n, Draws31c, hc30, ?_⟩
      obtain ⟨hq1, h⟩ := h
      refine ⟨by decide, hq1, ?_⟩
      refine elim_some ha20 ?_
      obtain ⟨hcs, hof, h⟩ := h
      refine ⟨hcs, thenW_in fun ww32 e32 => ?_⟩
      replace h := thenW_out h e32
      have hb1 := hb1.off (by rw [block_add]; exact hof _ (by simp)) e32
      obtain ⟨m33, hk, h⟩ := h
      exact ⟨m33, hk, H11, Kind12, A13a, A13n, A13c, B14a, B14n, B14c, N15, M16, hb1, h⟩
    · have h := h.2 (beq_f c24)
      refine h.mono fun ee35 ww36 h => ?_
      obtain ⟨atv34, he, hk, h⟩ := h
      refine ⟨atv34, he, ?_⟩
      have hb1 := hk.blk hb1 (by simp)
      refine bif_of (fun c37 => ?_) (fun c37 => ?_)
      · have h := h.1 (of_decide_eq_true c37)
        refine elim_some ha20 ?_
        obtain ⟨Draws39a, Draws39n, Draws39c, hc38, h⟩ := h
        refine ⟨Draws39a, Draws39n, Draws39c, hc38, ?_⟩
        obtain ⟨a40, ha40, h⟩ := h
        refine elim_some ha40 ?_
        obtain ⟨hq2, h⟩ := h
        refine ⟨by decide, hq2, ?_⟩
        obtain ⟨x42, hc41, h⟩ := h
        refine ⟨x42, hc41, ?_⟩
        refine elim_some ha20 ?_
        obtain ⟨Draws44a, Draws44n, Draws44c, hc43, h⟩ := h
        refine ⟨Draws44a, Draws44n, Draws44c, hc43, ?_⟩
        obtain ⟨hq1, h⟩ := h
        refine ⟨by decide, hq1, ?_⟩
        refine elim_some ha20 ?_
        obtain ⟨hcs, hof, h⟩ := h
        refine ⟨hcs, thenW_in fun ww45 e45 => ?_⟩
        replace h := thenW_out h e45
        have hb1 := hb1.off (by rw [block_add]; exact hof _ (by simp)) e45
        obtain ⟨m46, hk, h⟩ := h
        exact ⟨m46, hk, H11, Kind12, A13a, A13n, A13c, B14a, B14n, B14c, N15, M16, hb1, h⟩
      · have h := h.2 (Int.not_le.1 (of_decide_eq_false c37))
        refine bif_ff c24 ?_
        refine h.mono fun ee48 ww49 h => ?_
        obtain ⟨atv47, he, hk, h⟩ := h
        refine ⟨atv47, he, ?_⟩
        have hb1 := hk.blk hb1 (by simp)
        refine bif_of (fun c50 => ?_) (fun c50 => ?_)
        · have h := h.1 (of_decide_eq_true c50)
          obtain ⟨I2, m58, h0, h⟩ := h
          refine ⟨fun k vs ww => ∃ (H52 : Int) (Kind53 : Int) (A54a : Option Addr) (A54n : Nat) (A54c : Nat) (B55a : Option Addr) (B55n : Nat) (B55c : Nat) (N56 : Int) (M57 : Int), Blk ww w.heap.size 75 [.int .u64 H52, .int .i64 Kind53, .slice A54a A54n A54c, .slice B55a B55n B55c, .int .u64 N56, .int .u64 M57] ∧ I2 k (vs ++ [.int .u64 H52, .int .i64 Kind53, .slice A54a A54n A54c, .slice B55a B55n B55c, .int .u64 N56, .int .u64 M57]) ww, m58, ⟨H11, Kind12, A13a, A13n, A13c, B14a, B14n, B14c, N15, M16, hb1, h0⟩, fun m59 ww60 h51 hI => ?_⟩
          obtain ⟨H52, Kind53, A54a, A54n, A54c, B55a, B55n, B55c, N56, M57, hb1, hI⟩ := hI
          have h := h m59 ww60 h51 H52 Kind53 A54a A54n A54c B55a B55n B55c N56 M57 hI
          refine h.mono fun ee62 ww63 h => ?_
          obtain ⟨atv61, he, hk, h⟩ := h
          refine ⟨atv61, he, ?_⟩
          have hb1 := hk.blk hb1 (by simp)
          refine bif_of (fun c64 => ?_) (fun c64 => ?_)
          · have h := h.1 (of_decide_eq_true c64)
            obtain ⟨m65, hk, h⟩ := h
            exact ⟨m65, hk, H52, Kind53, A54a, A54n, A54c, B55a, B55n, B55c, N56, M57, hb1, h⟩
          · have h := h.2 (Int.not_le.1 (of_decide_eq_false c64))
            have hm66 : Ext (fun b => b = w.heap.size) ww63 ww63 := ((Ext.refl no ww63)).none
            refine ⟨hb1.cani 0 rfl rfl, thenW_in fun ww66 e66 => ?_⟩
            have hx66 := hm66.x_set (q := w.heap.size) (i := 0) rfl (.inl rfl) e66
            have hb1 := hb1.seti 0 rfl e66
            refine thenW_in fun ww67 e67 => ?_
            have hx67 := hx66.x_drew e67
            have hb1 := hb1.x_drew e67
            refine elim_some ha20 ?_
            have h := h ww67 hx67
            obtain ⟨L69a, L69n, L69c, hc68, h⟩ := h
            refine ⟨L69a, L69n, L69c, hc68, ?_⟩
            refine ⟨h51, Kind53, A54a, A54n, A54c, B55a, B55n, B55c, N56, M57, ⟨hb1.celli 0 rfl rfl, hb1.celli 1 rfl rfl, hb1.celli 2 rfl rfl, hb1.celli 3 rfl rfl, hb1.celli 4 rfl rfl, hb1.celli 5 rfl rfl, trivial⟩, ?_⟩
            refine thenW_in fun ww70 e70 => ?_
            have h := h ww70 ww67.heap.size ((Ext.refl no ww67).x_alloc e70) (Blk.of_new e70) ((Ext.refl no ww67)).size (size_lt_alloc e70)
            obtain ⟨ho72, h⟩ := h
            refine ⟨ho72, ?_⟩
            obtain ⟨a73a, a73n, a73c, ww74, hr, h⟩ := h
            refine ⟨a73a, a73n, a73c, ww74, hr, ?_⟩
            refine elim_some ha20 ?_
            obtain ⟨hcs, h⟩ := h
            refine ⟨hcs, thenW_in fun ww75 e75 => ?_⟩
            replace h := thenW_out h e75
            exact h
        · have h := h.2 (Int.not_le.1 (of_decide_eq_false c50))
          have hm76 : Ext (fun b => b = w.heap.size) ww49 ww49 := ((Ext.refl no ww49)).none
          refine ⟨hb1.cani 0 rfl rfl, thenW_in fun ww76 e76 => ?_⟩
          have hx76 := hm76.x_set (q := w.heap.size) (i := 0) rfl (.inl rfl) e76
          have hb1 := hb1.seti 0 rfl e76
          refine thenW_in fun ww77 e77 => ?_
          have hx77 := hx76.x_drew e77
          have hb1 := hb1.x_drew e77
          refine elim_some ha20 ?_
          have h := h ww77 hx77
          obtain ⟨L79a, L79n, L79c, hc78, h⟩ := h
          refine ⟨L79a, L79n, L79c, hc78, ?_⟩
          refine ⟨h10, Kind12, A13a, A13n, A13c, B14a, B14n, B14c, N15, M16, ⟨hb1.celli 0 rfl rfl, hb1.celli 1 rfl rfl, hb1.celli 2 rfl rfl, hb1.celli 3 rfl rfl, hb1.celli 4 rfl rfl, hb1.celli 5 rfl rfl, trivial⟩, ?_⟩
          refine thenW_in fun ww80 e80 => ?_
          have h := h ww80 ww77.heap.size ((Ext.refl no ww77).x_alloc e80) (Blk.of_new e80) ((Ext.refl no ww77)).size (size_lt_alloc e80)
          obtain ⟨ho82, h⟩ := h
          refine ⟨ho82, ?_⟩
          obtain ⟨a83a, a83n, a83c, ww84, hr, h⟩ := h
          refine ⟨a83a, a83n, a83c, ww84, hr, ?_⟩
          refine elim_some ha20 ?_
          obtain ⟨hcs, h⟩ := h
          refine ⟨hcs, thenW_in fun ww85 e85 => ?_⟩
          replace h := thenW_out h e85
          exact h
  · have h := h.2 (Int.not_lt.1 (of_decide_eq_false c23))
    refine bif_of (fun c86 => ?_) (fun c86 => ?_)
    · have h := h.1 (beq_t c86)
      obtain ⟨I2, m94, h0, h⟩ := h
      refine ⟨fun k vs ww => ∃ (H88 : Int) (Kind89 : Int) (A90a : Option Addr) (A90n : Nat) (A90c : Nat) (B91a : Option Addr) (B91n : Nat) (B91c : Nat) (N92 : Int) (M93 : Int), Blk ww w.heap.size 75 [.int .u64 H88, .int .i64 Kind89, .slice A90a A90n A90c, .slice B91a B91n B91c, .int .u64 N92, .int .u64 M93] ∧ I2 k (vs ++ [.int .u64 H88, .int .i64 Kind89, .slice A90a A90n A90c, .slice B91a B91n B91c, .int .u64 N92, .int .u64 M93]) ww, m94, ⟨H11, Kind12, A13a, A13n, A13c, B14a, B14n, B14c, N15, M16, hb1, h0⟩, fun m95 ww96 h87 hI => ?_⟩
      obtain ⟨H88, Kind89, A90a, A90n, A90c, B91a, B91n, B91c, N92, M93, hb1, hI⟩ := hI
      have h := h m95 ww96 h87 H88 Kind89 A90a A90n A90c B91a B91n B91c N92 M93 hI
      refine h.mono fun ee98 ww99 h => ?_
      obtain ⟨atv97, he, hk, h⟩ := h
      refine ⟨atv97, he, ?_⟩
      have hb1 := hk.blk hb1 (by simp)
      refine bif_of (fun c100 => ?_) (fun c100 => ?_)
      · have h := h.1 (of_decide_eq_true c100)
        obtain ⟨m101, hk, h⟩ := h
        exact ⟨m101, hk, H88, Kind89, A90a, A90n, A90c, B91a, B91n, B91c, N92, M93, hb1, h⟩
      · have h := h.2 (Int.not_le.1 (of_decide_eq_false c100))
        have hm102 : Ext (fun b => b = w.heap.size) ww99 ww99 := ((Ext.refl no ww99)).none
        refine ⟨hb1.cani 0 rfl rfl, thenW_in fun ww102 e102 => ?_⟩
        have hx102 := hm102.x_set (q := w.heap.size) (i := 0) rfl (.inl rfl) e102
        have hb1 := hb1.seti 0 rfl e102
        refine thenW_in fun ww103 e103 => ?_
        have hx103 := hx102.x_drew e103
        have hb1 := hb1.x_drew e103
        refine elim_some ha20 ?_
        have h := h ww103 hx103
        obtain ⟨L105a, L105n, L105c, hc104, h⟩ := h
        refine ⟨L105a, L105n, L105c, hc104, ?_⟩
        refine ⟨h87, Kind89, A90a, A90n, A90c, B91a, B91n, B91c, N92, M93, ⟨hb1.celli 0 rfl rfl, hb1.celli 1 rfl rfl, hb1.celli 2 rfl rfl, hb1.celli 3 rfl rfl, hb1.celli 4 rfl rfl, hb1.celli 5 rfl rfl, trivial⟩, ?_⟩
        refine thenW_in fun ww106 e106 => ?_
        have h := h ww106 ww103.heap.size ((Ext.refl no ww103).x_alloc e106) (Blk.of_new e106) ((Ext.refl no ww103)).size (size_lt_alloc e106)
        obtain ⟨ho108, h⟩ := h
        refine ⟨ho108, ?_⟩
        obtain ⟨a109a, a109n, a109c, ww110, hr, h⟩ := h
        refine ⟨a109a, a109n, a109c, ww110, hr, ?_⟩
        refine elim_some ha20 ?_
        obtain ⟨hcs, h⟩ := h
        refine ⟨hcs, thenW_in fun ww111 e111 => ?_⟩
        replace h := thenW_out h e111
        exact h
    · have h := h.2 (beq_f c86)
      refine h.mono fun ee113 ww114 h => ?_
      obtain ⟨atv112, he, hk, h⟩ := h
      refine ⟨atv112, he, ?_⟩
      have hb1 := hk.blk hb1 (by simp)
      refine bif_of (fun c115 => ?_) (fun c115 => ?_)
      · have h := h.1 (of_decide_eq_true c115)
        obtain ⟨I2, m123, h0, h⟩ := h
        refine ⟨fun k vs ww => ∃ (H117 : Int) (Kind118 : Int) (A119a : Option Addr) (A119n : Nat) (A119c : Nat) (B120a : Option Addr) (B120n : Nat) (B120c : Nat) (N121 : Int) (M122 : Int), Blk ww w.heap.size 75 [.int .u64 H117, .int .i64 Kind118, .slice A119a A119n A119c, .slice B120a B120n B120c, .int .u64 N121, .int .u64 M122] ∧ I2 k (vs ++ [.int .u64 H117, .int .i64 Kind118, .slice A119a A119n A119c, .slice B120a B120n B120c, .int .u64 N121, .int .u64 M122]) ww, m123, ⟨H11, Kind12, A13a, A13n, A13c, B14a, B14n, B14c, N15, M16, hb1, h0⟩, fun m124 ww125 h116 hI => ?_⟩
        obtain ⟨H117, Kind118, A119a, A119n, A119c, B120a, B120n, B120c, N121, M122, hb1, hI⟩ := hI
        have h := h m124 ww125 h116 H117 Kind118 A119a A119n A119c B120a B120n B120c N121 M122 hI
        refine h.mono fun ee127 ww128 h => ?_
        obtain ⟨atv126, he, hk, h⟩ := h
        refine ⟨atv126, he, ?_⟩
        have hb1 := hk.blk hb1 (by simp)
        refine bif_of (fun c129 => ?_) (fun c129 => ?_)
        · have h := h.1 (of_decide_eq_true c129)
          obtain ⟨m130, hk, h⟩ := h
          exact ⟨m130, hk, H117, Kind118, A119a, A119n, A119c, B120a, B120n, B120c, N121, M122, hb1, h⟩
        · have h := h.2 (Int.not_le.1 (of_decide_eq_false c129))
          have hm131 : Ext (fun b => b = w.heap.size) ww128 ww128 := ((Ext.refl no ww128)).none
          refine ⟨hb1.cani 0 rfl rfl, thenW_in fun ww131 e131 => ?_⟩
          have hx131 := hm131.x_set (q := w.heap.size) (i := 0) rfl (.inl rfl) e131
          have hb1 := hb1.seti 0 rfl e131
          refine thenW_in fun ww132 e132 => ?_
          have hx132 := hx131.x_drew e132
          have hb1 := hb1.x_drew e132
          refine elim_some ha20 ?_
          have h := h ww132 hx132
          obtain ⟨L134a, L134n, L134c, hc133, h⟩ := h
          refine ⟨L134a, L134n, L134c, hc133, ?_⟩
          refine ⟨h116, Kind118, A119a, A119n, A119c, B120a, B120n, B120c, N121, M122, ⟨hb1.celli 0 rfl rfl, hb1.celli 1 rfl rfl, hb1.celli 2 rfl rfl, hb1.celli 3 rfl rfl, hb1.celli 4 rfl rfl, hb1.celli 5 rfl rfl, trivial⟩, ?_⟩
          refine thenW_in fun ww135 e135 => ?_
          have h := h ww135 ww132.heap.size ((Ext.refl no ww132).x_alloc e135) (Blk.of_new e135) ((Ext.refl no ww132)).size (size_lt_alloc e135)
          obtain ⟨ho137, h⟩ := h
          refine ⟨ho137, ?_⟩
          obtain ⟨a138a, a138n, a138c, ww139, hr, h⟩ := h
          refine ⟨a138a, a138n, a138c, ww139, hr, ?_⟩
          refine elim_some ha20 ?_
          obtain ⟨hcs, h⟩ := h
          refine ⟨hcs, thenW_in fun ww140 e140 => ?_⟩
          replace h := thenW_out h e140
          exact h
      · have h := h.2 (Int.not_le.1 (of_decide_eq_false c115))
        have hm141 : Ext (fun b => b = w.heap.size) ww114 ww114 := ((Ext.refl no ww114)).none
        refine ⟨hb1.cani 0 rfl rfl, thenW_in fun ww141 e141 => ?_⟩
        have hx141 := hm141.x_set (q := w.heap.size) (i := 0) rfl (.inl rfl) e141
        have hb1 := hb1.seti 0 rfl e141
        refine thenW_in fun ww142 e142 => ?_
        have hx142 := hx141.x_drew e142
        have hb1 := hb1.x_drew e142
        refine elim_some ha20 ?_
        have h := h ww142 hx142
        obtain ⟨L144a, L144n, L144c, hc143, h⟩ := h
        refine ⟨L144a, L144n, L144c, hc143, ?_⟩
        refine ⟨h10, Kind12, A13a, A13n, A13c, B14a, B14n, B14c, N15, M16, ⟨hb1.celli 0 rfl rfl, hb1.celli 1 rfl rfl, hb1.celli 2 rfl rfl, hb1.celli 3 rfl rfl, hb1.celli 4 rfl rfl, hb1.celli 5 rfl rfl, trivial⟩, ?_⟩
        refine thenW_in fun ww145 e145 => ?_
        have h := h ww145 ww142.heap.size ((Ext.refl no ww142).x_alloc e145) (Blk.of_new e145) ((Ext.refl no ww142)).size (size_lt_alloc e145)
        obtain ⟨ho147, h⟩ := h
        refine ⟨ho147, ?_⟩
        obtain ⟨a148a, a148n, a148c, ww149, hr, h⟩ := h
        refine ⟨a148a, a148n, a148c, ww149, hr, ?_⟩
        refine elim_some ha20 ?_
        obtain ⟨hcs, h⟩ := h
        refine ⟨hcs, thenW_in fun ww150 e150 => ?_⟩
        replace h := thenW_out h e150
        exact h

theorem cachetteref03_Oracle_put.go (o1 : Option Addr) (rH2 : Int) (rKind3 : Int) (rA4a : Option Addr) (rA4n : Nat) (rA4c : Nat) (rB5a : Option Addr) (rB5n : Nat) (rB5c : Nat) (rN6 : Int) (rM7 : Int) {R : Value → World → Prop} {w : World} (h : cachetteref03_Oracle_put.N o1 rH2 rKind3 rA4a rA4n rA4c rB5a rB5n rB5c rN6 rM7 R w) : Calls Try.prog 36 #[.pointer o1, .agg #[.int .u64 rH2, .int .i64 rKind3, .slice rA4a rA4n rA4c, .slice rB5a rB5n rB5c, .int .u64 rN6, .int .u64 rM7]] w fun e w' => ∃ v, e = .returned v ∧ R v w' := cachetteref03_Oracle_put.ok o1 rH2 rKind3 rA4a rA4n rA4c rB5a rB5n rB5c rN6 rM7 (cachetteref03_Oracle_put.up o1 rH2 rKind3 rA4a rA4n rA4c rB5a rB5n rB5c rN6 rM7 h)
theorem cachetteref03_Oracle_put.run (o1 : Option Addr) (rH2 : Int) (rKind3 : Int) (rA4a : Option Addr) (rA4n : Nat) (rA4c : Nat) (rB5a : Option Addr) (rB5n : Nat) (rB5c : Nat) (rN6 : Int) (rM7 : Int) {V : Value} {Q : World → Prop} {w : World} (h : cachetteref03_Oracle_put.N o1 rH2 rKind3 rA4a rA4n rA4c rB5a rB5n rB5c rN6 rM7 (fun v w' => v = V ∧ Q w') w) : Calls Try.prog 36 #[.pointer o1, .agg #[.int .u64 rH2, .int .i64 rKind3, .slice rA4a rA4n rA4c, .slice rB5a rB5n rB5c, .int .u64 rN6, .int .u64 rM7]] w (Ret V Q) := (cachetteref03_Oracle_put.go o1 rH2 rKind3 rA4a rA4n rA4c rB5a rB5n rB5c rN6 rM7 h).mono fun e w' ⟨v, he, hv, hq⟩ => ⟨by rw [he, hv], hq⟩

/-- (*cachetteref03.Oracle).is -/
def cachetteref03_Oracle_is.M (o1 : Option Addr) (h2 : Int) (kind3 : Int) (R : Value → World → Prop) (w : World) : Prop :=
  thenW (w.alloc (.cells #[.int .u64 0, .int .i64 0, .slice none 0 0, .slice none 0 0, .int .u64 0, .int .u64 0] 75)) fun ww4 =>
  Calls Try.prog 48 #[.pointer o1, .int .u64 h2] ww4 fun ee6 ww7 => ∃ (atv5 : Int), ee6 = .returned (.int .i64 atv5) ∧
  bif decide (atv5 < 0) then (
  canStore ww7 ((blk w.heap.size).add 0) ∧
  thenW (ww7.setCell ((blk w.heap.size).add 0) (.int .u64 0)) fun ww8 =>
  canStore ww8 ((blk w.heap.size).add 1) ∧
  thenW (ww8.setCell ((blk w.heap.size).add 1) (.int .i64 0)) fun ww9 =>
  canStore ww9 ((blk w.heap.size).add 2) ∧
  thenW (ww9.setCell ((blk w.heap.size).add 2) (.slice none 0 0)) fun ww10 =>
  canStore ww10 ((blk w.heap.size).add 3) ∧
  thenW (ww10.setCell ((blk w.heap.size).add 3) (.slice none 0 0)) fun ww11 =>
  canStore ww11 ((blk w.heap.size).add 4) ∧
  thenW (ww11.setCell ((blk w.heap.size).add 4) (.int .u64 0)) fun ww12 =>
  canStore ww12 ((blk w.heap.size).add 5) ∧
  thenW (ww12.setCell ((blk w.heap.size).add 5) (.int .u64 0)) fun ww13 =>
  ∃ (resH14 : Int) (resKind15 : Int) (resA16a : Option Addr) (resA16n : Nat) (resA16c : Nat) (resB17a : Option Addr) (resB17n : Nat) (resB17c : Nat) (resN18 : Int) (resM19 : Int), cellsAt ww13 (blk w.heap.size) [.int .u64 resH14, .int .i64 resKind15, .slice resA16a resA16n resA16c, .slice resB17a resB17n resB17c, .int .u64 resN18, .int .u64 resM19] 0 ∧
  R (.tuple #[.agg #[.int .u64 resH14, .int .i64 resKind15, .slice resA16a resA16n resA16c, .slice resB17a resB17n resB17c, .int .u64 resN18, .int .u64 resM19], .bool false]) ww13) else (
  o1.elim False fun a20 =>
  ∃ (L21a : Option Addr) (L21n : Nat) (L21c : Nat), ww7.cell? (a20.add 1) = some (.slice L21a L21n L21c) ∧
  L21a.elim False fun a22 =>
  0 ≤ (atv5 : Int) ∧ (atv5 : Int) < (L21n : Int) ∧
  ∃ (Kind23 : Int), ww7.cell? ((a22.add (Int.toNat atv5 * 6)).add 1) = some (.int .i64 Kind23) ∧
  bif Kind23 != kind3 then (
  canStore ww7 ((blk w.heap.size).add 0) ∧
  thenW (ww7.setCell ((blk w.heap.size).add 0) (.int .u64 0)) fun ww24 =>
  canStore ww24 ((blk w.heap.size).add 1) ∧
  thenW (ww24.setCell ((blk w.heap.size).add 1) (.int .i64 0)) fun ww25 =>
  canStore ww25 ((blk w.heap.size).add 2) ∧
  thenW (ww25.setCell ((blk w.heap.size).add 2) (.slice none 0 0)) fun ww26 =>
  canStore ww26 ((blk w.heap.size).add 3) ∧
  thenW (ww26.setCell ((blk w.heap.size).add 3) (.slice none 0 0)) fun ww27 =>
  canStore ww27 ((blk w.heap.size).add 4) ∧
  thenW (ww27.setCell ((blk w.heap.size).add 4) (.int .u64 0)) fun ww28 =>
  canStore ww28 ((blk w.heap.size).add 5) ∧
  thenW (ww28.setCell ((blk w.heap.size).add 5) (.int .u64 0)) fun ww29 =>
  ∃ (resH30 : Int) (resKind31 : Int) (resA32a : Option Addr) (resA32n : Nat) (resA32c : Nat) (resB33a : Option Addr) (resB33n : Nat) (resB33c : Nat) (resN34 : Int) (resM35 : Int), cellsAt ww29 (blk w.heap.size) [.int .u64 resH30, .int .i64 resKind31, .slice resA32a resA32n resA32c, .slice resB33a resB33n resB33c, .int .u64 resN34, .int .u64 resM35] 0 ∧
  R (.tuple #[.agg #[.int .u64 resH30, .int .i64 resKind31, .slice resA32a resA32n resA32c, .slice resB33a resB33n resB33c, .int .u64 resN34, .int .u64 resM35], .bool false]) ww29) else (
  o1.elim False fun a36 =>
  ∃ (L37a : Option Addr) (L37n : Nat) (L37c : Nat), ww7.cell? (a36.add 1) = some (.slice L37a L37n L37c) ∧
  L37a.elim False fun a38 =>
  0 ≤ (atv5 : Int) ∧ (atv5 : Int) < (L37n : Int) ∧
  ∃ (xH39 : Int) (xKind40 : Int) (xA41a : Option Addr) (xA41n : Nat) (xA41c : Nat) (xB42a : Option Addr) (xB42n : Nat) (xB42c : Nat) (xN43 : Int) (xM44 : Int), cellsAt ww7 (a38.add (Int.toNat atv5 * 6)) [.int .u64 xH39, .int .i64 xKind40, .slice xA41a xA41n xA41c, .slice xB42a xB42n xB42c, .int .u64 xN43, .int .u64 xM44] 0 ∧
  canStore ww7 ((blk w.heap.size).add 0) ∧
  thenW (ww7.setCell ((blk w.heap.size).add 0) (.int .u64 xH39)) fun ww45 =>
  canStore ww45 ((blk w.heap.size).add 1) ∧
  thenW (ww45.setCell ((blk w.heap.size).add 1) (.int .i64 xKind40)) fun ww46 =>
  canStore ww46 ((blk w.heap.size).add 2) ∧
  thenW (ww46.setCell ((blk w.heap.size).add 2) (.slice xA41a xA41n xA41c)) fun ww47 =>
  canStore ww47 ((blk w.heap.size).add 3) ∧
  thenW (ww47.setCell ((blk w.heap.size).add 3) (.slice xB42a xB42n xB42c)) fun ww48 =>
  canStore ww48 ((blk w.heap.size).add 4) ∧
  thenW (ww48.setCell ((blk w.heap.size).add 4) (.int .u64 xN43)) fun ww49 =>
  canStore ww49 ((blk w.heap.size).add 5) ∧
  thenW (ww49.setCell ((blk w.heap.size).add 5) (.int .u64 xM44)) fun ww50 =>
  ∃ (resH51 : Int) (resKind52 : Int) (resA53a : Option Addr) (resA53n : Nat) (resA53c : Nat) (resB54a : Option Addr) (resB54n : Nat) (resB54c : Nat) (resN55 : Int) (resM56 : Int), cellsAt ww50 (blk w.heap.size) [.int .u64 resH51, .int .i64 resKind52, .slice resA53a resA53n resA53c, .slice resB54a resB54n resB54c, .int .u64 resN55, .int .u64 resM56] 0 ∧
  R (.tuple #[.agg #[.int .u64 resH51, .int .i64 resKind52, .slice resA53a resA53n resA53c, .slice resB54a resB54n resB54c, .int .u64 resN55, .int .u64 resM56], .bool true]) ww50))

theorem cachetteref03_Oracle_is.eq (o1 : Option Addr) (h2 : Int) (kind3 : Int) (R : Value → World → Prop) (w : World) : mfunc Try.prog [] 37 [.pointer o1, .int .u64 h2, .int .i64 kind3] R w = cachetteref03_Oracle_is.M o1 h2 kind3 R w := by kernel_rfl
theorem cachetteref03_Oracle_is.ok (o1 : Option Addr) (h2 : Int) (kind3 : Int) {R : Value → World → Prop} {w : World} (h : cachetteref03_Oracle_is.M o1 h2 kind3 R w) : Calls Try.prog 37 #[.pointer o1, .int .u64 h2, .int .i64 kind3] w fun e w' => ∃ v, e = .returned v ∧ R v w' :=
  mfunc_ok follows (H := []) (args := [.pointer o1, .int .u64 h2, .int .i64 kind3]) (by rw [cachetteref03_Oracle_is.eq]; exact h)

def cachetteref03_Oracle_is.N (o1 : Option Addr) (h2 : Int) (kind3 : Int) (R : Value → World → Prop) (w : World) : Prop :=
  ∀ (ww4 : World) (p5 : Nat), Ext no w ww4 → Priv w ww4 [p5] →
  Calls Try.prog 48 #[.pointer o1, .int .u64 h2] ww4 fun ee7 ww8 => ∃ (atv6 : Int), ee7 = .returned (.int .i64 atv6) ∧
  Keep [p5] ww4 ww8 ∧
  (atv6 < 0 →
    ∀ (ww15 : World), Ext (fun b => b = p5) ww8 ww15 →
    R (.tuple #[.agg #[.int .u64 0, .int .i64 0, .slice none 0 0, .slice none 0 0, .int .u64 0, .int .u64 0], .bool false]) ww15) ∧
  ((0 : Int) ≤ atv6 →
    ∃ a16 : Addr, o1 = some a16 ∧
    ∃ (L18a : Option Addr) (L18n : Nat) (L18c : Nat), ww8.cell? (a16.add 1) = some (.slice L18a L18n L18c) ∧
    ∃ a19 : Addr, L18a = some a19 ∧
    0 ≤ (atv6 : Int) ∧ (atv6 : Int) < (L18n : Int) ∧
    ∃ (Kind21 : Int), ww8.cell? ((a19.add (Int.toNat atv6 * 6)).add 1) = some (.int .i64 Kind21) ∧
    (Kind21 ≠ kind3 →
      ∀ (ww28 : World), Ext (fun b => b = p5) ww8 ww28 →
      R (.tuple #[.agg #[.int .u64 0, .int .i64 0, .slice none 0 0, .slice none 0 0, .int .u64 0, .int .u64 0], .bool false]) ww28) ∧
    (Kind21 = kind3 →
      ∃ (L30a : Option Addr) (L30n : Nat) (L30c : Nat), ww8.cell? (a16.add 1) = some (.slice L30a L30n L30c) ∧
      ∃ a31 : Addr, L30a = some a31 ∧
      0 ≤ (atv6 : Int) ∧ (atv6 : Int) < (L30n : Int) ∧
      ∃ (xH33 : Int) (xKind34 : Int) (xA35a : Option Addr) (xA35n : Nat) (xA35c : Nat) (xB36a : Option Addr) (xB36n : Nat) (xB36c : Nat) (xN37 : Int) (xM38 : Int), cellsAt ww8 (a31.add (Int.toNat atv6 * 6)) [.int .u64 xH33, .int .i64 xKind34, .slice xA35a xA35n xA35c, .slice xB36a xB36n xB36c, .int .u64 xN37, .int .u64 xM38] 0 ∧
      ∀ (ww44 : World), Ext (fun b => b = p5) ww8 ww44 →
      R (.tuple #[.agg #[.int .u64 xH33, .int .i64 xKind34, .slice xA35a xA35n xA35c, .slice xB36a xB36n xB36c, .int .u64 xN37, .int .u64 xM38], .bool true]) ww44))

theorem cachetteref03_Oracle_is.up (o1 : Option Addr) (h2 : Int) (kind3 : Int) {R : Value → World → Prop} {w : World} (h : cachetteref03_Oracle_is.N o1 h2 kind3 R w) : cachetteref03_Oracle_is.M o1 h2 kind3 R w := by
  unfold cachetteref03_Oracle_is.M
  unfold cachetteref03_Oracle_is.N at h
  refine thenW_in fun ww4 e4 => ?_
  have hb1 := Blk.of_new e4
  have hg1 := ((Ext.refl no w)).size
  have hx4 := (Ext.refl no w).x_alloc e4
  have h := h ww4 (w.heap.size) hx4 (Priv.cons hg1 hb1.lt Priv.nil)
  refine h.mono fun ee7 ww8 h => ?_
  obtain ⟨atv6, he, hk, h⟩ := h
  refine ⟨atv6, he, ?_⟩
  have hb1 := hk.blk hb1 (by simp)
  refine bif_of (fun c9 => ?_) (fun c9 => ?_)
  · have h := h.1 (of_decide_eq_true c9)
    have hm15 : Ext (fun b => b = w.heap.size) ww8 ww8 := ((Ext.refl no ww8)).none
    refine ⟨hb1.cani 0 rfl rfl, thenW_in fun ww10 e10 => ?_⟩
    have hx10 := hm15.x_set (q := w.heap.size) (i := 0) rfl (.inl rfl) e10
    have hb1 := hb1.seti 0 rfl e10
    refine ⟨hb1.cani 1 rfl rfl, thenW_in fun ww11 e11 => ?_⟩
    have hx11 := hx10.x_set (q := w.heap.size) (i := 1) rfl (.inl rfl) e11
    have hb1 := hb1.seti 1 rfl e11
    refine ⟨hb1.cani 2 rfl rfl, thenW_in fun ww12 e12 => ?_⟩
    have hx12 := hx11.x_set (q := w.heap.size) (i := 2) rfl (.inl rfl) e12
    have hb1 := hb1.seti 2 rfl e12
    refine ⟨hb1.cani 3 rfl rfl, thenW_in fun ww13 e13 => ?_⟩
    have hx13 := hx12.x_set (q := w.heap.size) (i := 3) rfl (.inl rfl) e13
    have hb1 := hb1.seti 3 rfl e13
    refine ⟨hb1.cani 4 rfl rfl, thenW_in fun ww14 e14 => ?_⟩
    have hx14 := hx13.x_set (q := w.heap.size) (i := 4) rfl (.inl rfl) e14
    have hb1 := hb1.seti 4 rfl e14
    refine ⟨hb1.cani 5 rfl rfl, thenW_in fun ww15 e15 => ?_⟩
    have hx15 := hx14.x_set (q := w.heap.size) (i := 5) rfl (.inl rfl) e15
    have hb1 := hb1.seti 5 rfl e15
    refine ⟨0, 0, none, 0, 0, none, 0, 0, 0, 0, ⟨hb1.celli 0 rfl rfl, hb1.celli 1 rfl rfl, hb1.celli 2 rfl rfl, hb1.celli 3 rfl rfl, hb1.celli 4 rfl rfl, hb1.celli 5 rfl rfl, trivial⟩, ?_⟩
    have h := h ww15 hx15
    exact h
  · have h := h.2 (Int.not_lt.1 (of_decide_eq_false c9))
    obtain ⟨a16, ha16, h⟩ := h
    refine elim_some ha16 ?_
    obtain ⟨L18a, L18n, L18c, hc17, h⟩ := h
    refine ⟨L18a, L18n, L18c, hc17, ?_⟩
    obtain ⟨a19, ha19, h⟩ := h
    refine elim_some ha19 ?_
    obtain ⟨hq1, hq2, h⟩ := h
    refine ⟨hq1, hq2, ?_⟩
    obtain ⟨Kind21, hc20, h⟩ := h
    refine ⟨Kind21, hc20, ?_⟩
    refine bif_of (fun c22 => ?_) (fun c22 => ?_)
    · have h := h.1 (bne_t c22)
      have hm28 : Ext (fun b => b = w.heap.size) ww8 ww8 := ((Ext.refl no ww8)).none
      refine ⟨hb1.cani 0 rfl rfl, thenW_in fun ww23 e23 => ?_⟩
      have hx23 := hm28.x_set (q := w.heap.size) (i := 0) rfl (.inl rfl) e23
      have hb1 := hb1.seti 0 rfl e23
      refine ⟨hb1.cani 1 rfl rfl, thenW_in fun ww24 e24 => ?_⟩
      have hx24 := hx23.x_set (q := w.heap.size) (i := 1) rfl (.inl rfl) e24
      have hb1 := hb1.seti 1 rfl e24
      refine ⟨hb1.cani 2 rfl rfl, thenW_in fun ww25 e25 => ?_⟩
      have hx25 := hx24.x_set (q := w.heap.size) (i := 2) rfl (.inl rfl) e25
      have hb1 := hb1.seti 2 rfl e25
      refine ⟨hb1.cani 3 rfl rfl, thenW_in fun ww26 e26 => ?_⟩
      have hx26 := hx25.x_set (q := w.heap.size) (i := 3) rfl (.inl rfl) e26
      have hb1 := hb1.seti 3 rfl e26
      refine ⟨hb1.cani 4 rfl rfl, thenW_in fun ww27 e27 => ?_⟩
      have hx27 := hx26.x_set (q := w.heap.size) (i := 4) rfl (.inl rfl) e27
      have hb1 := hb1.seti 4 rfl e27
      refine ⟨hb1.cani 5 rfl rfl, thenW_in fun ww28 e28 => ?_⟩
      have hx28 := hx27.x_set (q := w.heap.size) (i := 5) rfl (.inl rfl) e28
      have hb1 := hb1.seti 5 rfl e28
      refine ⟨0, 0, none, 0, 0, none, 0, 0, 0, 0, ⟨hb1.celli 0 rfl rfl, hb1.celli 1 rfl rfl, hb1.celli 2 rfl rfl, hb1.celli 3 rfl rfl, hb1.celli 4 rfl rfl, hb1.celli 5 rfl rfl, trivial⟩, ?_⟩
      have h := h ww28 hx28
      exact h
    · have h := h.2 (bne_f c22)
      refine elim_some ha16 ?_
      obtain ⟨L30a, L30n, L30c, hc29, h⟩ := h
      refine ⟨L30a, L30n, L30c, hc29, ?_⟩
      obtain ⟨a31, ha31, h⟩ := h
      refine elim_some ha31 ?_
      obtain ⟨hq1, hq2, h⟩ := h
      refine ⟨hq1, hq2, ?_⟩
      obtain ⟨xH33, xKind34, xA35a, xA35n, xA35c, xB36a, xB36n, xB36c, xN37, xM38, hc32, h⟩ := h
      refine ⟨xH33, xKind34, xA35a, xA35n, xA35c, xB36a, xB36n, xB36c, xN37, xM38, hc32, ?_⟩
      have hm44 : Ext (fun b => b = w.heap.size) ww8 ww8 := ((Ext.refl no ww8)).none
      refine ⟨hb1.cani 0 rfl rfl, thenW_in fun ww39 e39 => ?_⟩
      have hx39 := hm44.x_set (q := w.heap.size) (i := 0) rfl (.inl rfl) e39
      have hb1 := hb1.seti 0 rfl e39
      refine ⟨hb1.cani 1 rfl rfl, thenW_in fun ww40 e40 => ?_⟩
      have hx40 := hx39.x_set (q := w.heap.size) (i := 1) rfl (.inl rfl) e40
      have hb1 := hb1.seti 1 rfl e40
      refine ⟨hb1.cani 2 rfl rfl, thenW_in fun ww41 e41 => ?_⟩
      have hx41 := hx40.x_set (q := w.heap.size) (i := 2) rfl (.inl rfl) e41
      have hb1 := hb1.seti 2 rfl e41
      refine ⟨hb1.cani 3 rfl rfl, thenW_in fun ww42 e42 => ?_⟩
      have hx42 := hx41.x_set (q := w.heap.size) (i := 3) rfl (.inl rfl) e42
      have hb1 := hb1.seti 3 rfl e42
      refine ⟨hb1.cani 4 rfl rfl, thenW_in fun ww43 e43 => ?_⟩
      have hx43 := hx42.x_set (q := w.heap.size) (i := 4) rfl (.inl rfl) e43
      have hb1 := hb1.seti 4 rfl e43
      refine ⟨hb1.cani 5 rfl rfl, thenW_in fun ww44 e44 => ?_⟩
      have hx44 := hx43.x_set (q := w.heap.size) (i := 5) rfl (.inl rfl) e44
      have hb1 := hb1.seti 5 rfl e44
      refine ⟨xH33, xKind34, xA35a, xA35n, xA35c, xB36a, xB36n, xB36c, xN37, xM38, ⟨hb1.celli 0 rfl rfl, hb1.celli 1 rfl rfl, hb1.celli 2 rfl rfl, hb1.celli 3 rfl rfl, hb1.celli 4 rfl rfl, hb1.celli 5 rfl rfl, trivial⟩, ?_⟩
      have h := h ww44 hx44
      exact h

theorem cachetteref03_Oracle_is.go (o1 : Option Addr) (h2 : Int) (kind3 : Int) {R : Value → World → Prop} {w : World} (h : cachetteref03_Oracle_is.N o1 h2 kind3 R w) : Calls Try.prog 37 #[.pointer o1, .int .u64 h2, .int .i64 kind3] w fun e w' => ∃ v, e = .returned v ∧ R v w' := cachetteref03_Oracle_is.ok o1 h2 kind3 (cachetteref03_Oracle_is.up o1 h2 kind3 h)
theorem cachetteref03_Oracle_is.run (o1 : Option Addr) (h2 : Int) (kind3 : Int) {V : Value} {Q : World → Prop} {w : World} (h : cachetteref03_Oracle_is.N o1 h2 kind3 (fun v w' => v = V ∧ Q w') w) : Calls Try.prog 37 #[.pointer o1, .int .u64 h2, .int .i64 kind3] w (Ret V Q) := (cachetteref03_Oracle_is.go o1 h2 kind3 h).mono fun e w' ⟨v, he, hv, hq⟩ => ⟨by rw [he, hv], hq⟩

theorem inf75 : (Try.prog.info? 75).map (fun i => (i.zero, i.size, i.bytes)) = some (some (.agg #[.int .u64 0, .int .i64 0, .slice none 0 0, .slice none 0 0, .int .u64 0, .int .u64 0]), 6, 80) := by kernel_rfl
/-- a row. -/
structure RRow where
  h : Int
  kind : Int
  A : List UInt8
  B : List UInt8
  n : Int
  m : Int
/-- a row, and where its bytes lie. -/
structure PR where
  r : RRow
  aA : Option Addr
  cA : Nat
  aB : Option Addr
  cB : Nat
def PR.C (x : PR) : List Value := [.int .u64 x.r.h, .int .i64 x.r.kind, .slice x.aA x.r.A.length x.cA, .slice x.aB x.r.B.length x.cB, .int .u64 x.r.n, .int .u64 x.r.m]
def PR.ok (w : World) (o : Own) (x : PR) : Prop := Row w o x.aA (bytesV x.r.A) ∧ Row w o x.aB (bytesV x.r.B) ∧ x.r.A.length ≤ x.cA ∧ x.r.B.length ≤ x.cB
def PR.Cs (R : List PR) : List Value := R.flatMap PR.C
structure ROrcP (w : World) (o : Own) (k : Nat) (d : List Int) (R : List PR) : Prop where
  tk : o k = some k
  at_ : ∃ da dc la lc, Blk w k 44 [.slice da d.length dc, .slice la R.length lc] ∧ d.length ≤ dc ∧ Row w o da (d.map u64V) ∧ Grows 75 6 w o k la R.length lc (PR.Cs R) ∧ (∀ ad, la = some ad → ad.block ≠ k)
  rows : ∀ x ∈ R, x.ok w o
def ROrc (w : World) (o : Own) (k : Nat) (d : List Int) (L : List RRow) : Prop := ∃ R, L = R.map PR.r ∧ ROrcP w o k d R
theorem PR.Cs_length (R : List PR) : (PR.Cs R).length = R.length * 6 := by
  induction R with
  | nil => rfl
  | cons x r ih => simp only [PR.Cs, List.flatMap_cons, List.length_append, List.length_cons] at ih ⊢; rw [ih]; simp [PR.C]; omega
theorem PR.Cs_get : ∀ {R : List PR} {i : Nat} {x : PR}, R[i]? = some x → ∀ j, j < 6 → (PR.Cs R)[i * 6 + j]? = x.C[j]?
  | [], i, x, hi, j, hj => by simp at hi
  | a :: r, 0, x, hi, j, hj => by
    simp only [List.getElem?_cons_zero, Option.some.injEq] at hi
    subst hi
    simp only [PR.Cs, List.flatMap_cons, Nat.zero_mul, Nat.zero_add]
    rw [List.getElem?_append_left (by simp [PR.C]; omega)]
  | a :: r, i + 1, x, hi, j, hj => by
    simp only [List.getElem?_cons_succ] at hi
    have := PR.Cs_get hi j hj
    simp only [PR.Cs, List.flatMap_cons] at this ⊢
    rw [List.getElem?_append_right (by simp [PR.C]; omega), show (i + 1) * 6 + j - a.C.length = i * 6 + j by simp [PR.C]; omega]
    exact this
theorem PR.one (x : PR) : ∀ u ∈ x.C, u.oneCell' = true := fun u hu => by
  simp only [PR.C, List.mem_cons, List.not_mem_nil, or_false] at hu
  rcases hu with rfl | rfl | rfl | rfl | rfl | rfl <;> rfl
section
variable {w w' : World} {o o' : Own} {k : Nat} {K : Nat → Prop} {d : List Int} {R : List PR} {L : List RRow}
theorem PR.ok.step {x : PR} (h : x.ok w o) (s : Step K w o w' o') : x.ok w' o' := ⟨h.1.step s, h.2.1.step s, h.2.2⟩
theorem ROrcP.lt (h : ROrcP w o k d R) : k < w.heap.size := by obtain ⟨da, dc, la, lc, hb, _⟩ := h.at_; exact hb.lt
theorem ROrcP.step (h : ROrcP w o k d R) (s : Step K w o w' o') (hk : ¬ K k) : ROrcP w' o' k d R := by
  obtain ⟨da, dc, la, lc, h1, h2, h3, h4, h5⟩ := h.at_
  exact ⟨by rw [s.own h.lt]; exact h.tk, ⟨da, dc, la, lc, s.blk h1 h.tk hk, h2, h3.step s, h4.step s hk, h5⟩, fun x hx => (h.rows x hx).step s⟩
theorem ROrc.step (h : ROrc w o k d L) (s : Step K w o w' o') (hk : ¬ K k) : ROrc w' o' k d L := by
  obtain ⟨R, h1, h2⟩ := h; exact ⟨R, h1, h2.step s hk⟩
theorem ROrc.lt (h : ROrc w o k d L) : k < w.heap.size := by obtain ⟨R, _, h⟩ := h; exact h.lt
theorem ROrc.own (h : ROrc w o k d L) : o k = some k := by obtain ⟨R, _, h⟩ := h; exact h.tk
/-- where a handle stands. -/
def atI (L : List RRow) (h : Int) : Int := match L.findIdx? (fun r => r.h == h) with | some i => i | none => -1
theorem row_cell {la : Option Addr} {ad : Addr} (hr : RowAt w la (PR.Cs R)) (ha : la = some ad) {i : Nat} {x : PR} (hi : R[i]? = some x) {j : Nat} {v : Value} (hv : x.C[j]? = some v) : w.cell? ((ad.add (i * 6)).add j) = some v := by
  have hj : j < 6 := by have := (List.getElem?_eq_some_iff.1 hv).1; simpa [PR.C] using this
  subst ha
  rw [add_add]
  exact hr.at_ ((PR.Cs_get hi j hj).trans hv)
theorem Cs_ne (h : R ≠ []) : PR.Cs R ≠ [] := fun e => by
  have := PR.Cs_length R
  rw [e] at this
  simp at this
  exact h (List.eq_nil_of_length_eq_zero (by omega))
theorem at_spec (h : ROrcP w o k d R) (hl : R.length < 1000000) (x : Int) :
    Calls Try.prog 48 #[.pointer (some (blk k)), .int .u64 x] w (Ret (.int .i64 (atI (R.map PR.r) x)) fun w' => w' = w) := by
  refine cachetteref03_Oracle_at.run _ _ ?_
  unfold cachetteref03_Oracle_at.N
  obtain ⟨da, dc, la, lc, h1, h2, h3, h4, h5⟩ := h.at_
  refine ⟨fun q vs w1 => ∃ t : Nat, vs = [.int .i64 t] ∧ q + t = R.length ∧ (∀ y ∈ R.take t, y.r.h ≠ x) ∧ w1 = w, R.length, ⟨0, rfl, rfl, by simp, rfl⟩, ?_⟩
  rintro q w1 i ⟨t, hi, hq, hn, rfl⟩
  simp only [List.cons.injEq, Value.int.injEq, true_and, and_true] at hi
  subst hi
  refine ⟨_, rfl, la, R.length, lc, h1.cella (i := 1) rfl, fun ht => ?_, fun ht => ?_⟩
  · have htl : t < R.length := by omega
    have hne : R ≠ [] := by intro e; subst e; simp at htl
    obtain ⟨ad, ha⟩ := h4.row.addr (Cs_ne hne)
    have hg : R[t]? = some R[t] := List.getElem?_eq_getElem htl
    refine ⟨la, R.length, lc, h1.cella (i := 1) rfl, ad, ha, by omega, by omega, R[t].r.h, by rw [Int.toNat_natCast]; exact row_cell h4.row ha hg (j := 0) rfl, fun he => ?_, fun he => ?_⟩
    · refine ⟨?_, rfl⟩
      have : (R.map PR.r).findIdx? (fun r => r.h == x) = some t := by
        rw [List.findIdx?_eq_some_iff_getElem]
        refine ⟨by simpa using htl, by simpa using he, fun j hj => ?_⟩
        have := hn R[j] (List.mem_take_iff_getElem.2 ⟨j, by omega, rfl⟩)
        simpa using this
      unfold atI
      rw [this]
    · refine ⟨by omega, by omega, q - 1, by omega, t + 1, rfl, by omega, fun y hy => ?_, rfl⟩
      rw [List.take_add_one, hg] at hy
      rcases List.mem_append.1 hy with hy | hy
      · exact hn y hy
      · simp at hy; rw [hy]; exact he
  · obtain rfl : t = R.length := by omega
    rw [List.take_length] at hn
    refine ⟨?_, rfl⟩
    have : (R.map PR.r).findIdx? (fun r => r.h == x) = none := by
      rw [List.findIdx?_eq_none_iff]
      intro r hr
      obtain ⟨y, hy, rfl⟩ := List.mem_map.1 hr
      simpa using hn y hy
    unfold atI
    rw [this]
theorem atI_mem (L : List RRow) (x : Int) : 0 ≤ atI L x ↔ x ∈ L.map RRow.h := by
  unfold atI
  cases h : L.findIdx? (fun r => r.h == x) with
  | some i =>
    rw [List.findIdx?_eq_some_iff_getElem] at h
    obtain ⟨h1, h2, _⟩ := h
    simp only [Int.natCast_nonneg, true_iff]
    exact List.mem_map.2 ⟨L[i], List.getElem_mem h1, by simpa using h2⟩
  | none =>
    rw [List.findIdx?_eq_none_iff] at h
    constructor
    · intro h; exact absurd h (by show ¬ (0 : Int) ≤ -1; decide)
    · intro hm
      obtain ⟨r, hr, rfl⟩ := List.mem_map.1 hm
      have := h r hr
      simp at this
/-- a fresh handle, and the draws that are left. -/
def freshR (d used : List Int) : Int × List Int := match pickD d used with | some q => q | none => (pickN used (used.length + 1) 1, [])
/-- what is left of put, once the handle is found. -/
def putTail (RR : Value → World → Prop) (w : World) (p : Nat) (a : Addr) (h kind : Int) (aA : Option Addr) (nA cA : Nat) (aB : Option Addr) (nB cB : Nat) (n m : Int) : Prop :=
  ∀ (w67 : World), Ext (fun b => b = p) w w67 →
  ∃ (La : Option Addr) (Ln : Nat) (Lc : Nat), w67.cell? (a.add 1) = some (.slice La Ln Lc) ∧
  ∀ (w70 : World) (q : Nat), Ext no w67 w70 → Blk w70 q 75 [.int .u64 h, .int .i64 kind, .slice aA nA cA, .slice aB nB cB, .int .u64 n, .int .u64 m] → w67.heap.size ≤ q → q < w70.heap.size →
  w70.cell? (a.add 1) = some (.slice La Ln Lc) ∧
  ∃ (a73a : Option Addr) (a73n : Nat) (a73c : Nat) (w74 : World), (Builtin.append_ #[42, 42] 42 #[.slice La Ln Lc, .slice (some (blk q)) 1 1]).run Try.prog w70 = .ok (.slice a73a a73n a73c) w74 ∧
  canStore w74 ((a.add 1).add 0) ∧
  thenW (w74.setCell ((a.add 1).add 0) (.slice a73a a73n a73c)) fun w75 =>
  RR (.int .u64 h) w75
theorem tail_ok {w0 : World} {o0 : Own} {p : Nat} (h : ROrcP w o k d R) (s : Step (fun j => j = k) w0 o0 w o) (hl : R.length < 1000000) (hp : w0.heap.size ≤ p) (hp' : o p = some p) (hpk : p ≠ k) (x : PR) (hx : x.ok w o) :
    putTail (fun v w' => ∃ o', v = .int .u64 x.r.h ∧ Step (fun j => j = k) w0 o0 w' o' ∧ ROrc w' o' k d (R.map PR.r ++ [x.r])) w p (blk k) x.r.h x.r.kind x.aA x.r.A.length x.cA x.aB x.r.B.length x.cB x.r.n x.r.m := by
  intro w67 X67
  obtain ⟨o67, s67⟩ := Step.store1 X67 s.ok hp'
  have h67 := h.step s67 (fun e => hpk e.symm)
  have s067 := s.trans' s67 fun j hj => .inr (by omega)
  have hx67 := hx.step s67
  obtain ⟨da, dc, la, lc, h1, h2, h3, h4, h5⟩ := h67.at_
  refine ⟨la, R.length, lc, h1.cella (i := 1) rfl, fun w70 q X70 hq hq1 hq2 => ?_⟩
  have s70 := Step.of_no X70 s067.ok
  have h70 := h67.step s70 id
  have s070 := s067.trans s70.none
  have hx70 := hx67.step s70
  obtain ⟨i, hi, hz, hsz, hby⟩ := info_of inf75
  have hb70 := s70.blk h1 h67.tk id
  obtain ⟨a', c', w74, o74, hr, s74, g74, hkeep, hblk⟩ := (h4.step s70 id).push (ty := 42) Try.underlying42 hi hz hsz hby rfl (by decide) s070.ok h70.lt (xa := some (blk q)) (m := 1) (xc := 1) (news := x.C) rfl (RowAt.of_blk hq) x.one (by omega) (by omega)
  have hb74 : Blk w74 k 44 [.slice da d.length dc, .slice la R.length lc] := by
    unfold Blk at hb70 ⊢
    rw [hkeep k h70.lt fun ad ha e => h5 ad ha e.symm]; exact hb70
  have s074 := s070.trans s74
  refine ⟨hb70.cella (i := 1) rfl, a', _, c', w74, hr, hb74.cana (i := 1) rfl, thenW_in fun w75 e75 => ?_⟩
  have X75 : Ext (fun b => b = k) w74 w75 := (Ext.refl (fun b => b = k) w74).x_set (q := k) (i := 1) rfl (.inl rfl) e75
  have tk74 : o74 k = some k := (s74.own h70.lt).trans h70.tk
  obtain ⟨o75, s75⟩ := Step.store1 X75 s74.ok tk74
  have hk74 : k < w74.heap.size := Nat.lt_of_lt_of_le h70.lt s74.size
  have hne : ∀ ad, a' = some ad → ad.block ≠ k := fun ad ha e => by
    rcases hblk ad ha with ⟨b, hb1, hb2⟩ | hq
    · exact h5 b hb1 (by omega)
    · have := h70.lt; omega
  refine ⟨o75, rfl, s074.trans s75, R ++ [x], by simp, ⟨(s75.own hk74).trans tk74, ⟨da, dc, a', c', ?_, h2, ((h3.step s70).step s74).step s75, ?_, hne⟩, fun y hy => ?_⟩⟩
  · have := hb74.seti 1 rfl e75
    rw [List.length_append]; exact this
  · have := g74.keep X75 (fun ad ha => hne ad ha) (o' := o75) fun b hb => s75.own hb
    rw [List.length_append, show PR.Cs (R ++ [x]) = PR.Cs R ++ x.C by simp [PR.Cs]]; exact this
  · rcases List.mem_append.1 hy with hy | hy
    · exact ((h70.rows y hy).step s74).step s75
    · simp at hy; subst hy; exact (hx70.step s74).step s75
/-- the counter of put. -/
def putLoop (RR : Value → World → Prop) (w : World) (p : Nat) (op : Option Addr) (a : Addr) (rh kind : Int) (aA : Option Addr) (nA cA : Nat) (aB : Option Addr) (nB cB : Nat) (n m : Int) : Prop :=
  ∃ (I2 : Nat → List Value → World → Prop) (m58 : Nat), I2 m58 [.int .u64 1, .int .u64 rh, .int .i64 kind, .slice aA nA cA, .slice aB nB cB, .int .u64 n, .int .u64 m] w ∧ ∀ (m59 : Nat) (ww60 : World) (h51 : Int) (H52 : Int) (Kind53 : Int) (A54a : Option Addr) (A54n : Nat) (A54c : Nat) (B55a : Option Addr) (B55n : Nat) (B55c : Nat) (N56 : Int) (M57 : Int), I2 m59 [.int .u64 h51, .int .u64 H52, .int .i64 Kind53, .slice A54a A54n A54c, .slice B55a B55n B55c, .int .u64 N56, .int .u64 M57] ww60 →
    Calls Try.prog 48 #[.pointer op, .int .u64 h51] ww60 fun ee62 ww63 => ∃ (atv61 : Int), ee62 = .returned (.int .i64 atv61) ∧
    Keep [p] ww60 ww63 ∧
    (atv61 ≥ 0 →
      ∃ m65, m65 < m59 ∧ I2 m65 [.int .u64 (IntKind.u64.wrap (h51 + 1)), .int .u64 H52, .int .i64 Kind53, .slice A54a A54n A54c, .slice B55a B55n B55c, .int .u64 N56, .int .u64 M57] ww63) ∧
    (atv61 < 0 → putTail RR ww63 p a h51 Kind53 A54a A54n A54c B55a B55n B55c N56 M57)
theorem loop_ok {w0 : World} {o0 : Own} {p : Nat} (h : ROrcP w o k d R) (s : Step (fun j => j = k) w0 o0 w o) (hl : R.length < 1000000) (hp : w0.heap.size ≤ p) (hp' : o p = some p) (hpk : p ≠ k) (x : PR) (hx : x.ok w o) :
    putLoop (fun v w' => ∃ o', v = .int .u64 (pickN (R.map fun y => y.r.h) (R.length + 1) 1) ∧ Step (fun j => j = k) w0 o0 w' o' ∧ ROrc w' o' k d (R.map PR.r ++ [{ x.r with h := pickN (R.map fun y => y.r.h) (R.length + 1) 1 }])) w p (some (blk k)) (blk k) x.r.h x.r.kind x.aA x.r.A.length x.cA x.aB x.r.B.length x.cB x.r.n x.r.m := by
  obtain ⟨a1, a2, a3, a4, a5⟩ := pickN_spec (R.map fun y => y.r.h) (R.length + 1) 1 (Int.le_refl _) (gap _ _ _ (by simp))
  generalize pickN (R.map fun y => y.r.h) (R.length + 1) 1 = z at *
  refine ⟨fun q vs w1 => ∃ t : Int, 1 ≤ t ∧ t ≤ z ∧ q = (z - t).toNat ∧ vs = [.int .u64 t, .int .u64 x.r.h, .int .i64 x.r.kind, .slice x.aA x.r.A.length x.cA, .slice x.aB x.r.B.length x.cB, .int .u64 x.r.n, .int .u64 x.r.m] ∧ w1 = w, (z - 1).toNat, ⟨1, Int.le_refl _, a1, rfl, rfl, rfl⟩, ?_⟩
  rintro q w1 t H Kd Aa An Ac Ba Bn Bc Nn Mm ⟨t', ht1, ht2, rfl, hvs, rfl⟩
  simp only [List.cons.injEq, Value.int.injEq, Value.slice.injEq, true_and, and_true] at hvs
  obtain ⟨rfl, rfl, rfl, ⟨rfl, rfl, rfl⟩, ⟨rfl, rfl, rfl⟩, rfl, rfl⟩ := hvs
  refine (at_spec h hl t).mono fun e w63 ⟨he, hw⟩ => ⟨_, he, by subst hw; exact Keep.refl _ _, fun hat => ?_, fun hat => ?_⟩
  · subst hw
    have hm := (atI_mem _ _).1 hat
    rw [List.map_map] at hm
    have hne : t ≠ z := fun e => by subst e; exact a3 hm
    refine ⟨(z - (t + 1)).toNat, by omega, t + 1, by omega, by omega, rfl, ?_, rfl⟩
    rw [wu64 (by omega) (by omega)]
  · subst hw
    have hm : ¬ t ∈ R.map fun y => y.r.h := fun e => by
      have := (atI_mem (R.map PR.r) t).2 (by rw [List.map_map]; exact e)
      omega
    have : t = z := Decidable.byContradiction fun hne => hm (a5 t ht1 (by omega))
    subst this
    exact tail_ok h s hl hp hp' hpk { x with r := { x.r with h := t } } hx
def putR (d : List Int) (L : List RRow) (r : RRow) : Int × List Int × List RRow :=
  ((freshR d (L.map RRow.h)).1, (freshR d (L.map RRow.h)).2, L ++ [{ r with h := (freshR d (L.map RRow.h)).1 }])
/-- the handle at hand, and the draws behind it. -/
def pend (h : Int) (d used : List Int) : Option (Int × List Int) := if h ≠ 0 ∧ h ∉ used then some (h, d) else pickD d used
theorem put_spec (h : ROrc w o k d L) (ok : Tags w o) (hd : ∀ x ∈ d, 0 ≤ x ∧ x < 18446744073709551616) (hl : L.length < 1000000) (x : PR) (hx : x.ok w o) :
    Calls Try.prog 36 #[.pointer (some (blk k)), .agg #[.int .u64 x.r.h, .int .i64 x.r.kind, .slice x.aA x.r.A.length x.cA, .slice x.aB x.r.B.length x.cB, .int .u64 x.r.n, .int .u64 x.r.m]] w
      (Gs (fun j => j = k) w o (.int .u64 (putR d L x.r).1) fun w' o' => ROrc w' o' k (putR d L x.r).2.1 (putR d L x.r).2.2) := by
  obtain ⟨R, rfl, h⟩ := h
  rw [List.length_map] at hl
  refine (cachetteref03_Oracle_put.go _ _ _ _ _ _ _ _ _ _ _ (R := fun v w' => ∃ o', v = .int .u64 (putR d (R.map PR.r) x.r).1 ∧ Step (fun j => j = k) w o w' o' ∧ ROrc w' o' k (putR d (R.map PR.r) x.r).2.1 (putR d (R.map PR.r) x.r).2.2) ?_).mono fun e w' ⟨v, he, o', hv, hw⟩ => ⟨o', by rw [he, hv], hw⟩
  unfold cachetteref03_Oracle_put.N
  intro w8 p9 X8 hp
  obtain ⟨o8, s8, tp8⟩ := Step.priv1 X8 hp ok
  have hp := hp.one
  have hkl := h.lt
  have hpk : p9 ≠ k := by omega
  have hU : (R.map PR.r).map RRow.h = R.map fun y => y.r.h := by rw [List.map_map]; rfl
  refine ⟨fun q vs w1 => ∃ (t : Int) (d1 : List Int) (o1 : Own), vs = [.int .u64 t, .int .u64 x.r.h, .int .i64 x.r.kind, .slice x.aA x.r.A.length x.cA, .slice x.aB x.r.B.length x.cB, .int .u64 x.r.n, .int .u64 x.r.m] ∧ q = d1.length ∧ pend t d1 (R.map fun y => y.r.h) = pickD d (R.map fun y => y.r.h) ∧ (∀ y ∈ d1, 0 ≤ y ∧ y < 18446744073709551616) ∧
      Step (fun j => j = k) w o w1 o1 ∧ ROrcP w1 o1 k d1 R ∧ o1 p9 = some p9 ∧ p9 < w1.heap.size, d.length, ⟨0, d, o8, rfl, rfl, by unfold pend; rw [if_neg (fun h => h.1 rfl)], hd, s8.none, h.step s8 id, tp8, hp.2⟩, ?_⟩
  rintro q w1 t H Kd Aa An Ac Ba Bn Bc Nn Mm ⟨t', d1, o1, hvs, rfl, hpd, hd1, s1, h1, tp1, lp1⟩
  simp only [List.cons.injEq, Value.int.injEq, Value.slice.injEq, true_and, and_true] at hvs
  obtain ⟨rfl, rfl, rfl, ⟨rfl, rfl, rfl⟩, ⟨rfl, rfl, rfl⟩, rfl, rfl⟩ := hvs
  have hx1 := hx.step s1
  obtain ⟨da, dc, la, lc, b1, b2, b3, b4, b5⟩ := id h1.at_
  -- a draw is taken
  have draw : ∀ (y : Int) (r : List Int), d1 = y :: r → ∀ w32, w32 = w1.setCell (((blk k).add 0).add 0) (.slice (cutA da dc 1 1) (d1.length - 1) (dc - 1)) → ∃ o32, Step (fun j => j = k) w o w32 o32 ∧ ROrcP w32 o32 k r R ∧ o32 p9 = some p9 ∧ p9 < w32.heap.size := fun y r hy w32 e32 => by
    subst hy
    have X32 : Ext (fun b => b = k) w1 w32 := (Ext.refl (fun b => b = k) w1).x_set (q := k) (i := 0) rfl (.inl rfl) e32
    obtain ⟨o32, s32⟩ := Step.store1 X32 s1.ok h1.tk
    have hb := b1.seti 0 rfl e32
    refine ⟨o32, s1.trans s32, ⟨(s32.own h1.lt).trans h1.tk, ⟨cutA da dc 1 1, dc - 1, la, lc, hb, by simp at b2; omega, ?_, b4.keep X32 (fun ad ha => b5 ad ha) fun b hb => s32.own hb, b5⟩, fun z hz => (h1.rows z hz).step s32⟩, (s32.own lp1).trans tp1, Nat.lt_of_lt_of_le lp1 s32.size⟩
    have hc := b3.1.cut 1 dc (by rw [List.length_map]; exact b2)
    have e1 : List.drop 1 (List.map u64V (y :: r)) = r.map u64V := rfl
    rw [e1] at hc
    have : Row w1 o1 (cutA da dc 1 1) (r.map u64V) := ⟨hc, fun h0 ad ha => by
      obtain ⟨b, hb, hbb⟩ := cutA_block ha
      rw [← hbb]; exact b3.2 (by simp) b hb⟩
    exact this.step s32
  have hnone : pickD d (R.map fun y => y.r.h) = none → putR d (R.map PR.r) x.r = (pickN (R.map fun y => y.r.h) (R.length + 1) 1, [], R.map PR.r ++ [{ x.r with h := pickN (R.map fun y => y.r.h) (R.length + 1) 1 }]) := fun hn => by
    unfold putR freshR
    rw [hU, hn, List.length_map]
  have hsome : ∀ z r, pickD d (R.map fun y => y.r.h) = some (z, r) → putR d (R.map PR.r) x.r = (z, r, R.map PR.r ++ [{ x.r with h := z }]) := fun z r hn => by
    unfold putR freshR
    rw [hU, hn]
  have hin : ∀ z, 0 ≤ atI (R.map PR.r) z ↔ z ∈ R.map fun y => y.r.h := fun z => by rw [atI_mem, List.map_map]; rfl
  refine ⟨_, rfl, da, d1.length, dc, b1.cella (i := 0) rfl, fun hpos => ⟨fun h0 => ?_, fun h0 => ?_⟩, fun hneg => ⟨fun h0 => ?_, fun h0 => ?_⟩⟩
  · -- none at hand, and draws are left
    subst h0
    cases d1 with
    | nil => simp at hpos
    | cons y r =>
      obtain ⟨ad, ha⟩ := b3.1.addr (by simp)
      have hy := hd1 y (by simp)
      refine ⟨da, _, dc, b1.cella (i := 0) rfl, ad, ha, by omega, y, by subst ha; exact b3.1.at_ (i := 0) rfl, da, _, dc, b1.cella (i := 0) rfl, by simp only [List.length_cons]; omega, b1.cana (i := 0) rfl, fun z hz => by simp at hz; subst hz; exact hpk, thenW_in fun w32 e32 => ?_⟩
      obtain ⟨o32, s32, h32, t32, l32⟩ := draw y r rfl w32 e32
      refine ⟨r.length, by simp, y, r, o32, rfl, rfl, ?_, fun z hz => hd1 z (by simp [hz]), s32, h32, t32, l32⟩
      rw [← hpd, show pend 0 (y :: r) (R.map fun y => y.r.h) = pickD (y :: r) (R.map fun y => y.r.h) from if_neg fun h => h.1 rfl]
      unfold pend
      simp only [pickD]
      by_cases c : y ≠ 0 ∧ y ∉ R.map fun y => y.r.h
      · rw [if_pos c, if_neg (by rintro (h | h); exact c.1 h; exact c.2 h)]
      · rw [if_neg c, if_pos (by by_cases hy0 : y = 0; exact .inl hy0; exact .inr (Decidable.not_not.1 fun h => c ⟨hy0, h⟩))]
  · -- one at hand, and draws are left
    refine (at_spec h1 hl t).mono fun e w36 ⟨he, hw⟩ => ⟨_, he, by subst hw; exact Keep.refl _ _, fun hat => ?_, fun hat => ?_⟩ <;> subst hw
    · have hused := (hin t).1 hat
      cases d1 with
      | nil => simp at hpos
      | cons y r =>
        obtain ⟨ad, ha⟩ := b3.1.addr (by simp)
        refine ⟨da, _, dc, b1.cella (i := 0) rfl, ad, ha, by omega, y, by subst ha; exact b3.1.at_ (i := 0) rfl, da, _, dc, b1.cella (i := 0) rfl, by simp only [List.length_cons]; omega, b1.cana (i := 0) rfl, fun z hz => by simp at hz; subst hz; exact hpk, thenW_in fun w45 e45 => ?_⟩
        obtain ⟨o32, s32, h32, t32, l32⟩ := draw y r rfl w45 e45
        refine ⟨r.length, by simp, y, r, o32, rfl, rfl, ?_, fun z hz => hd1 z (by simp [hz]), s32, h32, t32, l32⟩
        rw [← hpd, show pend t (y :: r) (R.map fun y => y.r.h) = pickD (y :: r) (R.map fun y => y.r.h) from if_neg fun h => h.2 hused]
        unfold pend
        simp only [pickD]
        by_cases c : y ≠ 0 ∧ y ∉ R.map fun y => y.r.h
        · rw [if_pos c, if_neg (by rintro (h | h); exact c.1 h; exact c.2 h)]
        · rw [if_neg c, if_pos (by by_cases hy0 : y = 0; exact .inl hy0; exact .inr (Decidable.not_not.1 fun h => c ⟨hy0, h⟩))]
    · have hfree : t ∉ R.map fun y => y.r.h := fun e => by have := (hin t).2 e; omega
      refine (at_spec h1 hl t).mono fun e w49 ⟨he, hw⟩ => ⟨_, he, by subst hw; exact Keep.refl _ _, fun hat2 => absurd hat2 (by omega), fun _ => ?_⟩
      subst hw
      have : pickD d (R.map fun y => y.r.h) = some (t, d1) := by rw [← hpd]; unfold pend; rw [if_pos ⟨h0, hfree⟩]
      rw [hsome _ _ this]
      exact tail_ok h1 s1 hl hp.1 tp1 hpk { x with r := { x.r with h := t } } hx1
  · -- none at hand, none left
    obtain rfl : d1 = [] := List.eq_nil_of_length_eq_zero (by omega)
    subst h0
    have : pickD d (R.map fun y => y.r.h) = none := by rw [← hpd]; unfold pend; rw [if_neg (fun h => h.1 rfl)]; rfl
    rw [hnone this]
    exact loop_ok h1 s1 hl hp.1 tp1 hpk x hx1
  · -- one at hand, none left
    obtain rfl : d1 = [] := List.eq_nil_of_length_eq_zero (by omega)
    refine (at_spec h1 hl t).mono fun e w36 ⟨he, hw⟩ => ⟨_, he, by subst hw; exact Keep.refl _ _, fun hat => ?_, fun hat => ?_⟩ <;> subst hw
    · have hused := (hin t).1 hat
      have : pickD d (R.map fun y => y.r.h) = none := by rw [← hpd]; unfold pend; rw [if_neg (fun h : t ≠ 0 ∧ t ∉ _ => h.2 hused)]; rfl
      rw [hnone this]
      exact loop_ok h1 s1 hl hp.1 tp1 hpk x hx1
    · have hfree : t ∉ R.map fun y => y.r.h := fun e => by have := (hin t).2 e; omega
      have : pickD d (R.map fun y => y.r.h) = some (t, []) := by rw [← hpd]; unfold pend; rw [if_pos ⟨h0, hfree⟩]
      rw [hsome _ _ this]
      exact tail_ok h1 s1 hl hp.1 tp1 hpk { x with r := { x.r with h := t } } hx1
end
end Go.Proofs.Ytgagmbmkpfjbbaa
