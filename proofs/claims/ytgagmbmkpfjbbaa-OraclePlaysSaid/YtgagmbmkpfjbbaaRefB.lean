/- The reference's oracle: what its calls answer. -/
import Derived.Test.YtgagmbmkpfjbbaaRefA
set_option linter.unusedVariables false
set_option linter.unusedSimpArgs false
set_option maxRecDepth 20000
namespace Go.Proofs.Ytgagmbmkpfjbbaa
open Go Go.Mx Go.Proofs
/-- (*cachetteref03.Oracle).Hash -/
def cachetteref03_Oracle_Hash.M (o1 : Option Addr) (b2a : Option Addr) (b2n : Nat) (b2c : Nat) (R : Value → World → Prop) (w : World) : Prop :=
  ∃ (I0 : Nat → List Value → World → Prop) (m4 : Nat), I0 m4 [.int .i64 0] w ∧ ∀ (m5 : Nat) (ww6 : World) (i3 : Int), I0 m5 [.int .i64 i3] ww6 →
  o1.elim False fun a7 =>
  ∃ (L8a : Option Addr) (L8n : Nat) (L8c : Nat), ww6.cell? (a7.add 1) = some (.slice L8a L8n L8c) ∧
  bif decide (i3 < (L8n : Int)) then (
  o1.elim False fun a9 =>
  ∃ (L10a : Option Addr) (L10n : Nat) (L10c : Nat), ww6.cell? (a9.add 1) = some (.slice L10a L10n L10c) ∧
  L10a.elim False fun a11 =>
  0 ≤ (i3 : Int) ∧ (i3 : Int) < (L10n : Int) ∧
  ∃ (Kind12 : Int), ww6.cell? ((a11.add (Int.toNat i3 * 6)).add 1) = some (.int .i64 Kind12) ∧
  bif Kind12 == 1 then (
  o1.elim False fun a13 =>
  ∃ (L14a : Option Addr) (L14n : Nat) (L14c : Nat), ww6.cell? (a13.add 1) = some (.slice L14a L14n L14c) ∧
  L14a.elim False fun a15 =>
  0 ≤ (i3 : Int) ∧ (i3 : Int) < (L14n : Int) ∧
  ∃ (A16a : Option Addr) (A16n : Nat) (A16c : Nat), ww6.cell? ((a15.add (Int.toNat i3 * 6)).add 2) = some (.slice A16a A16n A16c) ∧
  Calls Try.prog 9 #[.slice A16a A16n A16c, .slice b2a b2n b2c] ww6 fun ee18 ww19 => ∃ (same17 : Bool), ee18 = .returned (.bool same17) ∧
  bif same17 then (
  o1.elim False fun a20 =>
  ∃ (L21a : Option Addr) (L21n : Nat) (L21c : Nat), ww19.cell? (a20.add 1) = some (.slice L21a L21n L21c) ∧
  L21a.elim False fun a22 =>
  0 ≤ (i3 : Int) ∧ (i3 : Int) < (L21n : Int) ∧
  ∃ (H23 : Int), ww19.cell? ((a22.add (Int.toNat i3 * 6)).add 0) = some (.int .u64 H23) ∧
  R (.int .u64 H23) ww19) else (
  ∃ m24, m24 < m5 ∧ I0 m24 [.int .i64 (IntKind.i64.wrap (i3 + 1))] ww19)) else (
  ∃ m25, m25 < m5 ∧ I0 m25 [.int .i64 (IntKind.i64.wrap (i3 + 1))] ww6)) else (
  Calls Try.prog 36 #[.pointer o1, .agg #[.int .u64 0, .int .i64 1, .slice b2a b2n b2c, .slice none 0 0, .int .u64 0, .int .u64 0]] ww6 fun ee27 ww28 => ∃ (put26 : Int), ee27 = .returned (.int .u64 put26) ∧
  R (.int .u64 put26) ww28)

theorem cachetteref03_Oracle_Hash.eq (o1 : Option Addr) (b2a : Option Addr) (b2n : Nat) (b2c : Nat) (R : Value → World → Prop) (w : World) : mfunc Try.prog [(0, [0, 1], [(5, (.one (.int .i64)))])] 19 [.pointer o1, .slice b2a b2n b2c] R w = cachetteref03_Oracle_Hash.M o1 b2a b2n b2c R w := by kernel_rfl
theorem cachetteref03_Oracle_Hash.ok (o1 : Option Addr) (b2a : Option Addr) (b2n : Nat) (b2c : Nat) {R : Value → World → Prop} {w : World} (h : cachetteref03_Oracle_Hash.M o1 b2a b2n b2c R w) : Calls Try.prog 19 #[.pointer o1, .slice b2a b2n b2c] w fun e w' => ∃ v, e = .returned v ∧ R v w' :=
  mfunc_ok follows (H := [(0, [0, 1], [(5, (.one (.int .i64)))])]) (args := [.pointer o1, .slice b2a b2n b2c]) (by rw [cachetteref03_Oracle_Hash.eq]; exact h)

def cachetteref03_Oracle_Hash.N (o1 : Option Addr) (b2a : Option Addr) (b2n : Nat) (b2c : Nat) (R : Value → World → Prop) (w : World) : Prop :=
  ∃ (I0 : Nat → List Value → World → Prop) (m4 : Nat), I0 m4 [.int .i64 0] w ∧ ∀ (m5 : Nat) (ww6 : World) (i3 : Int), I0 m5 [.int .i64 i3] ww6 →
  ∃ a7 : Addr, o1 = some a7 ∧
  ∃ (L9a : Option Addr) (L9n : Nat) (L9c : Nat), ww6.cell? (a7.add 1) = some (.slice L9a L9n L9c) ∧
  (i3 < (L9n : Int) →
    ∃ (L12a : Option Addr) (L12n : Nat) (L12c : Nat), ww6.cell? (a7.add 1) = some (.slice L12a L12n L12c) ∧
    ∃ a13 : Addr, L12a = some a13 ∧
    0 ≤ (i3 : Int) ∧ (i3 : Int) < (L12n : Int) ∧
    ∃ (Kind15 : Int), ww6.cell? ((a13.add (Int.toNat i3 * 6)).add 1) = some (.int .i64 Kind15) ∧
    (Kind15 = 1 →
      ∃ (L18a : Option Addr) (L18n : Nat) (L18c : Nat), ww6.cell? (a7.add 1) = some (.slice L18a L18n L18c) ∧
      ∃ a19 : Addr, L18a = some a19 ∧
      0 ≤ (i3 : Int) ∧ (i3 : Int) < (L18n : Int) ∧
      ∃ (A21a : Option Addr) (A21n : Nat) (A21c : Nat), ww6.cell? ((a19.add (Int.toNat i3 * 6)).add 2) = some (.slice A21a A21n A21c) ∧
      Calls Try.prog 9 #[.slice A21a A21n A21c, .slice b2a b2n b2c] ww6 fun ee23 ww24 => ∃ (same22 : Bool), ee23 = .returned (.bool same22) ∧
      (same22 = true →
        ∃ (L27a : Option Addr) (L27n : Nat) (L27c : Nat), ww24.cell? (a7.add 1) = some (.slice L27a L27n L27c) ∧
        ∃ a28 : Addr, L27a = some a28 ∧
        0 ≤ (i3 : Int) ∧ (i3 : Int) < (L27n : Int) ∧
        ∃ (H30 : Int), ww24.cell? ((a28.add (Int.toNat i3 * 6)).add 0) = some (.int .u64 H30) ∧
        R (.int .u64 H30) ww24) ∧
      (same22 = false →
        (-9223372036854775808 : Int) ≤ (i3 + 1) ∧ (i3 + 1) < 9223372036854775808 ∧
        ∃ m31, m31 < m5 ∧ I0 m31 [.int .i64 (i3 + 1)] ww24)) ∧
    (Kind15 ≠ 1 →
      (-9223372036854775808 : Int) ≤ (i3 + 1) ∧ (i3 + 1) < 9223372036854775808 ∧
      ∃ m32, m32 < m5 ∧ I0 m32 [.int .i64 (i3 + 1)] ww6)) ∧
  ((L9n : Int) ≤ i3 →
    Calls Try.prog 36 #[.pointer o1, .agg #[.int .u64 0, .int .i64 1, .slice b2a b2n b2c, .slice none 0 0, .int .u64 0, .int .u64 0]] ww6 fun ee34 ww35 => ∃ (put33 : Int), ee34 = .returned (.int .u64 put33) ∧
    R (.int .u64 put33) ww35)

theorem cachetteref03_Oracle_Hash.up (o1 : Option Addr) (b2a : Option Addr) (b2n : Nat) (b2c : Nat) {R : Value → World → Prop} {w : World} (h : cachetteref03_Oracle_Hash.N o1 b2a b2n b2c R w) : cachetteref03_Oracle_Hash.M o1 b2a b2n b2c R w := by
  unfold cachetteref03_Oracle_Hash.M
  unfold cachetteref03_Oracle_Hash.N at h
  obtain ⟨I0, m4, h0, h⟩ := h
  refine ⟨I0, m4, h0, fun m5 ww6 i3 hI => ?_⟩
  have h := h m5 ww6 i3 hI
  obtain ⟨a7, ha7, h⟩ := h
  refine elim_some ha7 ?_
  obtain ⟨L9a, L9n, L9c, hc8, h⟩ := h
  refine ⟨L9a, L9n, L9c, hc8, ?_⟩
  refine bif_of (fun c10 => ?_) (fun c10 => ?_)
  · have h := h.1 (of_decide_eq_true c10)
    refine elim_some ha7 ?_
    obtain ⟨L12a, L12n, L12c, hc11, h⟩ := h
    refine ⟨L12a, L12n, L12c, hc11, ?_⟩
    obtain ⟨a13, ha13, h⟩ := h
    refine elim_some ha13 ?_
    obtain ⟨hq1, hq2, h⟩ := h
    refine ⟨hq1, hq2, ?_⟩
    obtain ⟨Kind15, hc14, h⟩ := h
    refine ⟨Kind15, hc14, ?_⟩
    refine bif_of (fun c16 => ?_) (fun c16 => ?_)
    · have h := h.1 (beq_t c16)
      refine elim_some ha7 ?_
      obtain ⟨L18a, L18n, L18c, hc17, h⟩ := h
      refine ⟨L18a, L18n, L18c, hc17, ?_⟩
      obtain ⟨a19, ha19, h⟩ := h
      refine elim_some ha19 ?_
      obtain ⟨hq1, hq2, h⟩ := h
      refine ⟨hq1, hq2, ?_⟩
      obtain ⟨A21a, A21n, A21c, hc20, h⟩ := h
      refine ⟨A21a, A21n, A21c, hc20, ?_⟩
      refine h.mono fun ee23 ww24 h => ?_
      obtain ⟨same22, he, h⟩ := h
      refine ⟨same22, he, ?_⟩
      refine bif_of (fun c25 => ?_) (fun c25 => ?_)
      · have h := h.1 c25
        refine elim_some ha7 ?_
        obtain ⟨L27a, L27n, L27c, hc26, h⟩ := h
        refine ⟨L27a, L27n, L27c, hc26, ?_⟩
        obtain ⟨a28, ha28, h⟩ := h
        refine elim_some ha28 ?_
        obtain ⟨hq1, hq2, h⟩ := h
        refine ⟨hq1, hq2, ?_⟩
        obtain ⟨H30, hc29, h⟩ := h
        refine ⟨H30, hc29, ?_⟩
        exact h
      · have h := h.2 c25
        obtain ⟨hw1, hw2, h⟩ := h
        try rw [w64 hw1 hw2]
        obtain ⟨m31, hk, h⟩ := h
        exact ⟨m31, hk, h⟩
    · have h := h.2 (beq_f c16)
      obtain ⟨hw1, hw2, h⟩ := h
      try rw [w64 hw1 hw2]
      obtain ⟨m32, hk, h⟩ := h
      exact ⟨m32, hk, h⟩
  · have h := h.2 (Int.not_lt.1 (of_decide_eq_false c10))
    refine h.mono fun ee34 ww35 h => ?_
    obtain ⟨put33, he, h⟩ := h
    refine ⟨put33, he, ?_⟩
    exact h

theorem cachetteref03_Oracle_Hash.go (o1 : Option Addr) (b2a : Option Addr) (b2n : Nat) (b2c : Nat) {R : Value → World → Prop} {w : World} (h : cachetteref03_Oracle_Hash.N o1 b2a b2n b2c R w) : Calls Try.prog 19 #[.pointer o1, .slice b2a b2n b2c] w fun e w' => ∃ v, e = .returned v ∧ R v w' := cachetteref03_Oracle_Hash.ok o1 b2a b2n b2c (cachetteref03_Oracle_Hash.up o1 b2a b2n b2c h)
theorem cachetteref03_Oracle_Hash.run (o1 : Option Addr) (b2a : Option Addr) (b2n : Nat) (b2c : Nat) {V : Value} {Q : World → Prop} {w : World} (h : cachetteref03_Oracle_Hash.N o1 b2a b2n b2c (fun v w' => v = V ∧ Q w') w) : Calls Try.prog 19 #[.pointer o1, .slice b2a b2n b2c] w (Ret V Q) := (cachetteref03_Oracle_Hash.go o1 b2a b2n b2c h).mono fun e w' ⟨v, he, hv, hq⟩ => ⟨by rw [he, hv], hq⟩

/-- (*cachetteref03.Oracle).Key -/
def cachetteref03_Oracle_Key.M (o1 : Option Addr) (R : Value → World → Prop) (w : World) : Prop :=
  Calls Try.prog 36 #[.pointer o1, .agg #[.int .u64 0, .int .i64 2, .slice none 0 0, .slice none 0 0, .int .u64 0, .int .u64 0]] w fun ee3 ww4 => ∃ (put2 : Int), ee3 = .returned (.int .u64 put2) ∧
  R (.int .u64 put2) ww4

theorem cachetteref03_Oracle_Key.eq (o1 : Option Addr) (R : Value → World → Prop) (w : World) : mfunc Try.prog [] 21 [.pointer o1] R w = cachetteref03_Oracle_Key.M o1 R w := by kernel_rfl
theorem cachetteref03_Oracle_Key.ok (o1 : Option Addr) {R : Value → World → Prop} {w : World} (h : cachetteref03_Oracle_Key.M o1 R w) : Calls Try.prog 21 #[.pointer o1] w fun e w' => ∃ v, e = .returned v ∧ R v w' :=
  mfunc_ok follows (H := []) (args := [.pointer o1]) (by rw [cachetteref03_Oracle_Key.eq]; exact h)

def cachetteref03_Oracle_Key.N (o1 : Option Addr) (R : Value → World → Prop) (w : World) : Prop :=
  Calls Try.prog 36 #[.pointer o1, .agg #[.int .u64 0, .int .i64 2, .slice none 0 0, .slice none 0 0, .int .u64 0, .int .u64 0]] w fun ee3 ww4 => ∃ (put2 : Int), ee3 = .returned (.int .u64 put2) ∧
  R (.int .u64 put2) ww4

theorem cachetteref03_Oracle_Key.up (o1 : Option Addr) {R : Value → World → Prop} {w : World} (h : cachetteref03_Oracle_Key.N o1 R w) : cachetteref03_Oracle_Key.M o1 R w := by
  unfold cachetteref03_Oracle_Key.M
  unfold cachetteref03_Oracle_Key.N at h
  refine h.mono fun ee3 ww4 h => ?_
  obtain ⟨put2, he, h⟩ := h
  refine ⟨put2, he, ?_⟩
  exact h

theorem cachetteref03_Oracle_Key.go (o1 : Option Addr) {R : Value → World → Prop} {w : World} (h : cachetteref03_Oracle_Key.N o1 R w) : Calls Try.prog 21 #[.pointer o1] w fun e w' => ∃ v, e = .returned v ∧ R v w' := cachetteref03_Oracle_Key.ok o1 (cachetteref03_Oracle_Key.up o1 h)
theorem cachetteref03_Oracle_Key.run (o1 : Option Addr) {V : Value} {Q : World → Prop} {w : World} (h : cachetteref03_Oracle_Key.N o1 (fun v w' => v = V ∧ Q w') w) : Calls Try.prog 21 #[.pointer o1] w (Ret V Q) := (cachetteref03_Oracle_Key.go o1 h).mono fun e w' ⟨v, he, hv, hq⟩ => ⟨by rw [he, hv], hq⟩

/-- (*cachetteref03.Oracle).Pair -/
def cachetteref03_Oracle_Pair.M (o1 : Option Addr) (R : Value → World → Prop) (w : World) : Prop :=
  Calls Try.prog 36 #[.pointer o1, .agg #[.int .u64 0, .int .i64 3, .slice none 0 0, .slice none 0 0, .int .u64 0, .int .u64 0]] w fun ee3 ww4 => ∃ (put2 : Int), ee3 = .returned (.int .u64 put2) ∧
  Calls Try.prog 36 #[.pointer o1, .agg #[.int .u64 0, .int .i64 4, .slice none 0 0, .slice none 0 0, .int .u64 put2, .int .u64 0]] ww4 fun ee6 ww7 => ∃ (put5 : Int), ee6 = .returned (.int .u64 put5) ∧
  R (.tuple #[.int .u64 put2, .int .u64 put5]) ww7

theorem cachetteref03_Oracle_Pair.eq (o1 : Option Addr) (R : Value → World → Prop) (w : World) : mfunc Try.prog [] 22 [.pointer o1] R w = cachetteref03_Oracle_Pair.M o1 R w := by kernel_rfl
theorem cachetteref03_Oracle_Pair.ok (o1 : Option Addr) {R : Value → World → Prop} {w : World} (h : cachetteref03_Oracle_Pair.M o1 R w) : Calls Try.prog 22 #[.pointer o1] w fun e w' => ∃ v, e = .returned v ∧ R v w' :=
  mfunc_ok follows (H := []) (args := [.pointer o1]) (by rw [cachetteref03_Oracle_Pair.eq]; exact h)

def cachetteref03_Oracle_Pair.N (o1 : Option Addr) (R : Value → World → Prop) (w : World) : Prop :=
  Calls Try.prog 36 #[.pointer o1, .agg #[.int .u64 0, .int .i64 3, .slice none 0 0, .slice none 0 0, .int .u64 0, .int .u64 0]] w fun ee3 ww4 => ∃ (put2 : Int), ee3 = .returned (.int .u64 put2) ∧
  Calls Try.prog 36 #[.pointer o1, .agg #[.int .u64 0, .int .i64 4, .slice none 0 0, .slice none 0 0, .int .u64 put2, .int .u64 0]] ww4 fun ee6 ww7 => ∃ (put5 : Int), ee6 = .returned (.int .u64 put5) ∧
  R (.tuple #[.int .u64 put2, .int .u64 put5]) ww7

theorem cachetteref03_Oracle_Pair.up (o1 : Option Addr) {R : Value → World → Prop} {w : World} (h : cachetteref03_Oracle_Pair.N o1 R w) : cachetteref03_Oracle_Pair.M o1 R w := by
  unfold cachetteref03_Oracle_Pair.M
  unfold cachetteref03_Oracle_Pair.N at h
  refine h.mono fun ee3 ww4 h => ?_
  obtain ⟨put2, he, h⟩ := h
  refine ⟨put2, he, ?_⟩
  refine h.mono fun ee6 ww7 h => ?_
  obtain ⟨put5, he, h⟩ := h
  refine ⟨put5, he, ?_⟩
  exact h

theorem cachetteref03_Oracle_Pair.go (o1 : Option Addr) {R : Value → World → Prop} {w : World} (h : cachetteref03_Oracle_Pair.N o1 R w) : Calls Try.prog 22 #[.pointer o1] w fun e w' => ∃ v, e = .returned v ∧ R v w' := cachetteref03_Oracle_Pair.ok o1 (cachetteref03_Oracle_Pair.up o1 h)
theorem cachetteref03_Oracle_Pair.run (o1 : Option Addr) {V : Value} {Q : World → Prop} {w : World} (h : cachetteref03_Oracle_Pair.N o1 (fun v w' => v = V ∧ Q w') w) : Calls Try.prog 22 #[.pointer o1] w (Ret V Q) := (cachetteref03_Oracle_Pair.go o1 h).mono fun e w' ⟨v, he, hv, hq⟩ => ⟨by rw [he, hv], hq⟩

/-- (*cachetteref03.Oracle).Sign -/
def cachetteref03_Oracle_Sign.M (o1 : Option Addr) (secret2 : Int) (b3a : Option Addr) (b3n : Nat) (b3c : Nat) (R : Value → World → Prop) (w : World) : Prop :=
  Calls Try.prog 37 #[.pointer o1, .int .u64 secret2, .int .i64 3] w fun ee11 ww12 => ∃ (H4 : Int) (Kind5 : Int) (A6a : Option Addr) (A6n : Nat) (A6c : Nat) (B7a : Option Addr) (B7n : Nat) (B7c : Nat) (N8 : Int) (M9 : Int) (isv10 : Bool), ee11 = .returned (.tuple #[.agg #[.int .u64 H4, .int .i64 Kind5, .slice A6a A6n A6c, .slice B7a B7n B7c, .int .u64 N8, .int .u64 M9], .bool isv10]) ∧
  thenW (ww12.alloc (.cells #[.int .u64 0, .int .i64 0, .slice none 0 0, .slice none 0 0, .int .u64 0, .int .u64 0] 75)) fun ww13 =>
  canStore ww13 ((blk ww12.heap.size).add 0) ∧
  thenW (ww13.setCell ((blk ww12.heap.size).add 0) (.int .u64 H4)) fun ww14 =>
  canStore ww14 ((blk ww12.heap.size).add 1) ∧
  thenW (ww14.setCell ((blk ww12.heap.size).add 1) (.int .i64 Kind5)) fun ww15 =>
  canStore ww15 ((blk ww12.heap.size).add 2) ∧
  thenW (ww15.setCell ((blk ww12.heap.size).add 2) (.slice A6a A6n A6c)) fun ww16 =>
  canStore ww16 ((blk ww12.heap.size).add 3) ∧
  thenW (ww16.setCell ((blk ww12.heap.size).add 3) (.slice B7a B7n B7c)) fun ww17 =>
  canStore ww17 ((blk ww12.heap.size).add 4) ∧
  thenW (ww17.setCell ((blk ww12.heap.size).add 4) (.int .u64 N8)) fun ww18 =>
  canStore ww18 ((blk ww12.heap.size).add 5) ∧
  thenW (ww18.setCell ((blk ww12.heap.size).add 5) (.int .u64 M9)) fun ww19 =>
  bif !isv10 then (
  R (.tuple #[.int .u64 0, .int .i64 11]) ww19) else (
  ∃ (I0 : Nat → List Value → World → Prop) (m21 : Nat), I0 m21 [.int .i64 0] ww19 ∧ ∀ (m22 : Nat) (ww23 : World) (i20 : Int), I0 m22 [.int .i64 i20] ww23 →
  o1.elim False fun a24 =>
  ∃ (L25a : Option Addr) (L25n : Nat) (L25c : Nat), ww23.cell? (a24.add 1) = some (.slice L25a L25n L25c) ∧
  bif decide (i20 < (L25n : Int)) then (
  o1.elim False fun a26 =>
  ∃ (L27a : Option Addr) (L27n : Nat) (L27c : Nat), ww23.cell? (a26.add 1) = some (.slice L27a L27n L27c) ∧
  L27a.elim False fun a28 =>
  0 ≤ (i20 : Int) ∧ (i20 : Int) < (L27n : Int) ∧
  ∃ (Kind29 : Int), ww23.cell? ((a28.add (Int.toNat i20 * 6)).add 1) = some (.int .i64 Kind29) ∧
  bif Kind29 == 5 then (
  o1.elim False fun a30 =>
  ∃ (L31a : Option Addr) (L31n : Nat) (L31c : Nat), ww23.cell? (a30.add 1) = some (.slice L31a L31n L31c) ∧
  L31a.elim False fun a32 =>
  0 ≤ (i20 : Int) ∧ (i20 : Int) < (L31n : Int) ∧
  ∃ (N33 : Int), ww23.cell? ((a32.add (Int.toNat i20 * 6)).add 4) = some (.int .u64 N33) ∧
  bif N33 == secret2 then (
  o1.elim False fun a34 =>
  ∃ (L35a : Option Addr) (L35n : Nat) (L35c : Nat), ww23.cell? (a34.add 1) = some (.slice L35a L35n L35c) ∧
  L35a.elim False fun a36 =>
  0 ≤ (i20 : Int) ∧ (i20 : Int) < (L35n : Int) ∧
  ∃ (A37a : Option Addr) (A37n : Nat) (A37c : Nat), ww23.cell? ((a36.add (Int.toNat i20 * 6)).add 2) = some (.slice A37a A37n A37c) ∧
  Calls Try.prog 9 #[.slice A37a A37n A37c, .slice b3a b3n b3c] ww23 fun ee39 ww40 => ∃ (same38 : Bool), ee39 = .returned (.bool same38) ∧
  bif same38 then (
  o1.elim False fun a41 =>
  ∃ (L42a : Option Addr) (L42n : Nat) (L42c : Nat), ww40.cell? (a41.add 1) = some (.slice L42a L42n L42c) ∧
  L42a.elim False fun a43 =>
  0 ≤ (i20 : Int) ∧ (i20 : Int) < (L42n : Int) ∧
  ∃ (H44 : Int), ww40.cell? ((a43.add (Int.toNat i20 * 6)).add 0) = some (.int .u64 H44) ∧
  R (.tuple #[.int .u64 H44, .int .i64 0]) ww40) else (
  ∃ m45, m45 < m22 ∧ I0 m45 [.int .i64 (IntKind.i64.wrap (i20 + 1))] ww40)) else (
  ∃ m46, m46 < m22 ∧ I0 m46 [.int .i64 (IntKind.i64.wrap (i20 + 1))] ww23)) else (
  ∃ m47, m47 < m22 ∧ I0 m47 [.int .i64 (IntKind.i64.wrap (i20 + 1))] ww23)) else (
  Calls Try.prog 36 #[.pointer o1, .agg #[.int .u64 0, .int .i64 5, .slice b3a b3n b3c, .slice none 0 0, .int .u64 secret2, .int .u64 0]] ww23 fun ee49 ww50 => ∃ (put48 : Int), ee49 = .returned (.int .u64 put48) ∧
  R (.tuple #[.int .u64 put48, .int .i64 0]) ww50))

theorem cachetteref03_Oracle_Sign.eq (o1 : Option Addr) (secret2 : Int) (b3a : Option Addr) (b3n : Nat) (b3c : Nat) (R : Value → World → Prop) (w : World) : mfunc Try.prog [(0, [0, 1, 2], [(10, (.one (.int .i64)))])] 24 [.pointer o1, .int .u64 secret2, .slice b3a b3n b3c] R w = cachetteref03_Oracle_Sign.M o1 secret2 b3a b3n b3c R w := by kernel_rfl
theorem cachetteref03_Oracle_Sign.ok (o1 : Option Addr) (secret2 : Int) (b3a : Option Addr) (b3n : Nat) (b3c : Nat) {R : Value → World → Prop} {w : World} (h : cachetteref03_Oracle_Sign.M o1 secret2 b3a b3n b3c R w) : Calls Try.prog 24 #[.pointer o1, .int .u64 secret2, .slice b3a b3n b3c] w fun e w' => ∃ v, e = .returned v ∧ R v w' :=
  mfunc_ok follows (H := [(0, [0, 1, 2], [(10, (.one (.int .i64)))])]) (args := [.pointer o1, .int .u64 secret2, .slice b3a b3n b3c]) (by rw [cachetteref03_Oracle_Sign.eq]; exact h)

def cachetteref03_Oracle_Sign.N (o1 : Option Addr) (secret2 : Int) (b3a : Option Addr) (b3n : Nat) (b3c : Nat) (R : Value → World → Prop) (w : World) : Prop :=
  Calls Try.prog 37 #[.pointer o1, .int .u64 secret2, .int .i64 3] w fun ee11 ww12 => ∃ (H4 : Int) (Kind5 : Int) (A6a : Option Addr) (A6n : Nat) (A6c : Nat) (B7a : Option Addr) (B7n : Nat) (B7c : Nat) (N8 : Int) (M9 : Int) (isv10 : Bool), ee11 = .returned (.tuple #[.agg #[.int .u64 H4, .int .i64 Kind5, .slice A6a A6n A6c, .slice B7a B7n B7c, .int .u64 N8, .int .u64 M9], .bool isv10]) ∧
  (isv10 = false →
    ∀ (ww19 : World), Ext no ww12 ww19 →
    R (.tuple #[.int .u64 0, .int .i64 11]) ww19) ∧
  (isv10 = true →
    ∀ (ww19 : World), Ext no ww12 ww19 →
    ∃ (I0 : Nat → List Value → World → Prop) (m24 : Nat), I0 m24 [.int .i64 0] ww19 ∧ ∀ (m25 : Nat) (ww26 : World) (i23 : Int), I0 m25 [.int .i64 i23] ww26 →
    ∃ a27 : Addr, o1 = some a27 ∧
    ∃ (L29a : Option Addr) (L29n : Nat) (L29c : Nat), ww26.cell? (a27.add 1) = some (.slice L29a L29n L29c) ∧
    (i23 < (L29n : Int) →
      ∃ (L32a : Option Addr) (L32n : Nat) (L32c : Nat), ww26.cell? (a27.add 1) = some (.slice L32a L32n L32c) ∧
      ∃ a33 : Addr, L32a = some a33 ∧
      0 ≤ (i23 : Int) ∧ (i23 : Int) < (L32n : Int) ∧
      ∃ (Kind35 : Int), ww26.cell? ((a33.add (Int.toNat i23 * 6)).add 1) = some (.int .i64 Kind35) ∧
      (Kind35 = 5 →
        ∃ (L38a : Option Addr) (L38n : Nat) (L38c : Nat), ww26.cell? (a27.add 1) = some (.slice L38a L38n L38c) ∧
        ∃ a39 : Addr, L38a = some a39 ∧
        0 ≤ (i23 : Int) ∧ (i23 : Int) < (L38n : Int) ∧
        ∃ (N41 : Int), ww26.cell? ((a39.add (Int.toNat i23 * 6)).add 4) = some (.int .u64 N41) ∧
        (N41 = secret2 →
          ∃ (L44a : Option Addr) (L44n : Nat) (L44c : Nat), ww26.cell? (a27.add 1) = some (.slice L44a L44n L44c) ∧
          ∃ a45 : Addr, L44a = some a45 ∧
          0 ≤ (i23 : Int) ∧ (i23 : Int) < (L44n : Int) ∧
          ∃ (A47a : Option Addr) (A47n : Nat) (A47c : Nat), ww26.cell? ((a45.add (Int.toNat i23 * 6)).add 2) = some (.slice A47a A47n A47c) ∧
          Calls Try.prog 9 #[.slice A47a A47n A47c, .slice b3a b3n b3c] ww26 fun ee49 ww50 => ∃ (same48 : Bool), ee49 = .returned (.bool same48) ∧
          (same48 = true →
            ∃ (L53a : Option Addr) (L53n : Nat) (L53c : Nat), ww50.cell? (a27.add 1) = some (.slice L53a L53n L53c) ∧
            ∃ a54 : Addr, L53a = some a54 ∧
            0 ≤ (i23 : Int) ∧ (i23 : Int) < (L53n : Int) ∧
            ∃ (H56 : Int), ww50.cell? ((a54.add (Int.toNat i23 * 6)).add 0) = some (.int .u64 H56) ∧
            R (.tuple #[.int .u64 H56, .int .i64 0]) ww50) ∧
          (same48 = false →
            (-9223372036854775808 : Int) ≤ (i23 + 1) ∧ (i23 + 1) < 9223372036854775808 ∧
            ∃ m57, m57 < m25 ∧ I0 m57 [.int .i64 (i23 + 1)] ww50)) ∧
        (N41 ≠ secret2 →
          (-9223372036854775808 : Int) ≤ (i23 + 1) ∧ (i23 + 1) < 9223372036854775808 ∧
          ∃ m58, m58 < m25 ∧ I0 m58 [.int .i64 (i23 + 1)] ww26)) ∧
      (Kind35 ≠ 5 →
        (-9223372036854775808 : Int) ≤ (i23 + 1) ∧ (i23 + 1) < 9223372036854775808 ∧
        ∃ m59, m59 < m25 ∧ I0 m59 [.int .i64 (i23 + 1)] ww26)) ∧
    ((L29n : Int) ≤ i23 →
      Calls Try.prog 36 #[.pointer o1, .agg #[.int .u64 0, .int .i64 5, .slice b3a b3n b3c, .slice none 0 0, .int .u64 secret2, .int .u64 0]] ww26 fun ee61 ww62 => ∃ (put60 : Int), ee61 = .returned (.int .u64 put60) ∧
      R (.tuple #[.int .u64 put60, .int .i64 0]) ww62))

theorem cachetteref03_Oracle_Sign.up (o1 : Option Addr) (secret2 : Int) (b3a : Option Addr) (b3n : Nat) (b3c : Nat) {R : Value → World → Prop} {w : World} (h : cachetteref03_Oracle_Sign.N o1 secret2 b3a b3n b3c R w) : cachetteref03_Oracle_Sign.M o1 secret2 b3a b3n b3c R w := by
  unfold cachetteref03_Oracle_Sign.M
  unfold cachetteref03_Oracle_Sign.N at h
  refine h.mono fun ee11 ww12 h => ?_
  obtain ⟨H4, Kind5, A6a, A6n, A6c, B7a, B7n, B7c, N8, M9, isv10, he, h⟩ := h
  refine ⟨H4, Kind5, A6a, A6n, A6c, B7a, B7n, B7c, N8, M9, isv10, he, ?_⟩
  refine thenW_in fun ww13 e13 => ?_
  have hb1 := Blk.of_new e13
  have hg1 := ((Ext.refl no ww12)).size
  have hx13 := (Ext.refl no ww12).x_alloc e13
  refine ⟨hb1.cani 0 rfl rfl, thenW_in fun ww14 e14 => ?_⟩
  have hx14 := hx13.x_set (q := ww12.heap.size) (i := 0) rfl (.inr hg1) e14
  have hb1 := hb1.seti 0 rfl e14
  refine ⟨hb1.cani 1 rfl rfl, thenW_in fun ww15 e15 => ?_⟩
  have hx15 := hx14.x_set (q := ww12.heap.size) (i := 1) rfl (.inr hg1) e15
  have hb1 := hb1.seti 1 rfl e15
  refine ⟨hb1.cani 2 rfl rfl, thenW_in fun ww16 e16 => ?_⟩
  have hx16 := hx15.x_set (q := ww12.heap.size) (i := 2) rfl (.inr hg1) e16
  have hb1 := hb1.seti 2 rfl e16
  refine ⟨hb1.cani 3 rfl rfl, thenW_in fun ww17 e17 => ?_⟩
  have hx17 := hx16.x_set (q := ww12.heap.size) (i := 3) rfl (.inr hg1) e17
  have hb1 := hb1.seti 3 rfl e17
  refine ⟨hb1.cani 4 rfl rfl, thenW_in fun ww18 e18 => ?_⟩
  have hx18 := hx17.x_set (q := ww12.heap.size) (i := 4) rfl (.inr hg1) e18
  have hb1 := hb1.seti 4 rfl e18
  refine ⟨hb1.cani 5 rfl rfl, thenW_in fun ww19 e19 => ?_⟩
  have hx19 := hx18.x_set (q := ww12.heap.size) (i := 5) rfl (.inr hg1) e19
  have hb1 := hb1.seti 5 rfl e19
  refine bif_of (fun c20 => ?_) (fun c20 => ?_)
  · have h := h.1 (not_t c20)
    have h := h ww19 hx19
    exact h
  · have h := h.2 (not_f c20)
    have h := h ww19 hx19
    obtain ⟨I0, m24, h0, h⟩ := h
    refine ⟨I0, m24, h0, fun m25 ww26 i23 hI => ?_⟩
    have h := h m25 ww26 i23 hI
    obtain ⟨a27, ha27, h⟩ := h
    refine elim_some ha27 ?_
    obtain ⟨L29a, L29n, L29c, hc28, h⟩ := h
    refine ⟨L29a, L29n, L29c, hc28, ?_⟩
    refine bif_of (fun c30 => ?_) (fun c30 => ?_)
    · have h := h.1 (of_decide_eq_true c30)
      refine elim_some ha27 ?_
      obtain ⟨L32a, L32n, L32c, hc31, h⟩ := h
      refine ⟨L32a, L32n, L32c, hc31, ?_⟩
      obtain ⟨a33, ha33, h⟩ := h
      refine elim_some ha33 ?_
      obtain ⟨hq1, hq2, h⟩ := h
      refine ⟨hq1, hq2, ?_⟩
      obtain ⟨Kind35, hc34, h⟩ := h
      refine ⟨Kind35, hc34, ?_⟩
      refine bif_of (fun c36 => ?_) (fun c36 => ?_)
      · have h := h.1 (beq_t c36)
        refine elim_some ha27 ?_
        obtain ⟨L38a, L38n, L38c, hc37, h⟩ := h
        refine ⟨L38a, L38n, L38c, hc37, ?_⟩
        obtain ⟨a39, ha39, h⟩ := h
        refine elim_some ha39 ?_
        obtain ⟨hq1, hq2, h⟩ := h
        refine ⟨hq1, hq2, ?_⟩
        obtain ⟨N41, hc40, h⟩ := h
        refine ⟨N41, hc40, ?_⟩
        refine bif_of (fun c42 => ?_) (fun c42 => ?_)
        · have h := h.1 (beq_t c42)
          refine elim_some ha27 ?_
          obtain ⟨L44a, L44n, L44c, hc43, h⟩ := h
          refine ⟨L44a, L44n, L44c, hc43, ?_⟩
          obtain ⟨a45, ha45, h⟩ := h
          refine elim_some ha45 ?_
          obtain ⟨hq1, hq2, h⟩ := h
          refine ⟨hq1, hq2, ?_⟩
          obtain ⟨A47a, A47n, A47c, hc46, h⟩ := h
          refine ⟨A47a, A47n, A47c, hc46, ?_⟩
          refine h.mono fun ee49 ww50 h => ?_
          obtain ⟨same48, he, h⟩ := h
          refine ⟨same48, he, ?_⟩
          refine bif_of (fun c51 => ?_) (fun c51 => ?_)
          · have h := h.1 c51
            refine elim_some ha27 ?_
            obtain ⟨L53a, L53n, L53c, hc52, h⟩ := h
            refine ⟨L53a, L53n, L53c, hc52, ?_⟩
            obtain ⟨a54, ha54, h⟩ := h
            refine elim_some ha54 ?_
            obtain ⟨hq1, hq2, h⟩ := h
            refine ⟨hq1, hq2, ?_⟩
            obtain ⟨H56, hc55, h⟩ := h
            refine ⟨H56, hc55, ?_⟩
            exact h
          · have h := h.2 c51
            obtain ⟨hw1, hw2, h⟩ := h
            try rw [w64 hw1 hw2]
            obtain ⟨m57, hk, h⟩ := h
            exact ⟨m57, hk, h⟩
        · have h := h.2 (beq_f c42)
          obtain ⟨hw1, hw2, h⟩ := h
          try rw [w64 hw1 hw2]
          obtain ⟨m58, hk, h⟩ := h
          exact ⟨m58, hk, h⟩
      · have h := h.2 (beq_f c36)
        obtain ⟨hw1, hw2, h⟩ := h
        try rw [w64 hw1 hw2]
        obtain ⟨m59, hk, h⟩ := h
        exact ⟨m59, hk, h⟩
    · have h := h.2 (Int.not_lt.1 (of_decide_eq_false c30))
      refine h.mono fun ee61 ww62 h => ?_
      obtain ⟨put60, he, h⟩ := h
      refine ⟨put60, he, ?_⟩
      exact h

theorem cachetteref03_Oracle_Sign.go (o1 : Option Addr) (secret2 : Int) (b3a : Option Addr) (b3n : Nat) (b3c : Nat) {R : Value → World → Prop} {w : World} (h : cachetteref03_Oracle_Sign.N o1 secret2 b3a b3n b3c R w) : Calls Try.prog 24 #[.pointer o1, .int .u64 secret2, .slice b3a b3n b3c] w fun e w' => ∃ v, e = .returned v ∧ R v w' := cachetteref03_Oracle_Sign.ok o1 secret2 b3a b3n b3c (cachetteref03_Oracle_Sign.up o1 secret2 b3a b3n b3c h)
theorem cachetteref03_Oracle_Sign.run (o1 : Option Addr) (secret2 : Int) (b3a : Option Addr) (b3n : Nat) (b3c : Nat) {V : Value} {Q : World → Prop} {w : World} (h : cachetteref03_Oracle_Sign.N o1 secret2 b3a b3n b3c (fun v w' => v = V ∧ Q w') w) : Calls Try.prog 24 #[.pointer o1, .int .u64 secret2, .slice b3a b3n b3c] w (Ret V Q) := (cachetteref03_Oracle_Sign.go o1 secret2 b3a b3n b3c h).mono fun e w' ⟨v, he, hv, hq⟩ => ⟨by rw [he, hv], hq⟩

/-- (*cachetteref03.Oracle).Verify -/
def cachetteref03_Oracle_Verify.M (o1 : Option Addr) (publicv2 : Int) (b3a : Option Addr) (b3n : Nat) (b3c : Nat) (sig4 : Int) (R : Value → World → Prop) (w : World) : Prop :=
  Calls Try.prog 37 #[.pointer o1, .int .u64 publicv2, .int .i64 4] w fun ee12 ww13 => ∃ (H5 : Int) (Kind6 : Int) (A7a : Option Addr) (A7n : Nat) (A7c : Nat) (B8a : Option Addr) (B8n : Nat) (B8c : Nat) (N9 : Int) (M10 : Int) (isv11 : Bool), ee12 = .returned (.tuple #[.agg #[.int .u64 H5, .int .i64 Kind6, .slice A7a A7n A7c, .slice B8a B8n B8c, .int .u64 N9, .int .u64 M10], .bool isv11]) ∧
  thenW (ww13.alloc (.cells #[.int .u64 0, .int .i64 0, .slice none 0 0, .slice none 0 0, .int .u64 0, .int .u64 0] 75)) fun ww14 =>
  canStore ww14 ((blk ww13.heap.size).add 0) ∧
  thenW (ww14.setCell ((blk ww13.heap.size).add 0) (.int .u64 H5)) fun ww15 =>
  canStore ww15 ((blk ww13.heap.size).add 1) ∧
  thenW (ww15.setCell ((blk ww13.heap.size).add 1) (.int .i64 Kind6)) fun ww16 =>
  canStore ww16 ((blk ww13.heap.size).add 2) ∧
  thenW (ww16.setCell ((blk ww13.heap.size).add 2) (.slice A7a A7n A7c)) fun ww17 =>
  canStore ww17 ((blk ww13.heap.size).add 3) ∧
  thenW (ww17.setCell ((blk ww13.heap.size).add 3) (.slice B8a B8n B8c)) fun ww18 =>
  canStore ww18 ((blk ww13.heap.size).add 4) ∧
  thenW (ww18.setCell ((blk ww13.heap.size).add 4) (.int .u64 N9)) fun ww19 =>
  canStore ww19 ((blk ww13.heap.size).add 5) ∧
  thenW (ww19.setCell ((blk ww13.heap.size).add 5) (.int .u64 M10)) fun ww20 =>
  Calls Try.prog 37 #[.pointer o1, .int .u64 sig4, .int .i64 5] ww20 fun ee28 ww29 => ∃ (H21 : Int) (Kind22 : Int) (A23a : Option Addr) (A23n : Nat) (A23c : Nat) (B24a : Option Addr) (B24n : Nat) (B24c : Nat) (N25 : Int) (M26 : Int) (isv27 : Bool), ee28 = .returned (.tuple #[.agg #[.int .u64 H21, .int .i64 Kind22, .slice A23a A23n A23c, .slice B24a B24n B24c, .int .u64 N25, .int .u64 M26], .bool isv27]) ∧
  thenW (ww29.alloc (.cells #[.int .u64 0, .int .i64 0, .slice none 0 0, .slice none 0 0, .int .u64 0, .int .u64 0] 75)) fun ww30 =>
  canStore ww30 ((blk ww29.heap.size).add 0) ∧
  thenW (ww30.setCell ((blk ww29.heap.size).add 0) (.int .u64 H21)) fun ww31 =>
  canStore ww31 ((blk ww29.heap.size).add 1) ∧
  thenW (ww31.setCell ((blk ww29.heap.size).add 1) (.int .i64 Kind22)) fun ww32 =>
  canStore ww32 ((blk ww29.heap.size).add 2) ∧
  thenW (ww32.setCell ((blk ww29.heap.size).add 2) (.slice A23a A23n A23c)) fun ww33 =>
  canStore ww33 ((blk ww29.heap.size).add 3) ∧
  thenW (ww33.setCell ((blk ww29.heap.size).add 3) (.slice B24a B24n B24c)) fun ww34 =>
  canStore ww34 ((blk ww29.heap.size).add 4) ∧
  thenW (ww34.setCell ((blk ww29.heap.size).add 4) (.int .u64 N25)) fun ww35 =>
  canStore ww35 ((blk ww29.heap.size).add 5) ∧
  thenW (ww35.setCell ((blk ww29.heap.size).add 5) (.int .u64 M26)) fun ww36 =>
  bif isv11 then (
  bif isv27 then (
  ∃ (N37 : Int), ww36.cell? ((blk ww29.heap.size).add 4) = some (.int .u64 N37) ∧
  ∃ (N38 : Int), ww36.cell? ((blk ww13.heap.size).add 4) = some (.int .u64 N38) ∧
  bif N37 == N38 then (
  ∃ (A39a : Option Addr) (A39n : Nat) (A39c : Nat), ww36.cell? ((blk ww29.heap.size).add 2) = some (.slice A39a A39n A39c) ∧
  Calls Try.prog 9 #[.slice A39a A39n A39c, .slice b3a b3n b3c] ww36 fun ee41 ww42 => ∃ (same40 : Bool), ee41 = .returned (.bool same40) ∧
  R (.bool same40) ww42) else (
  R (.bool false) ww36)) else (
  R (.bool false) ww36)) else (
  R (.bool false) ww36)

theorem cachetteref03_Oracle_Verify.eq (o1 : Option Addr) (publicv2 : Int) (b3a : Option Addr) (b3n : Nat) (b3c : Nat) (sig4 : Int) (R : Value → World → Prop) (w : World) : mfunc Try.prog [] 25 [.pointer o1, .int .u64 publicv2, .slice b3a b3n b3c, .int .u64 sig4] R w = cachetteref03_Oracle_Verify.M o1 publicv2 b3a b3n b3c sig4 R w := by kernel_rfl
theorem cachetteref03_Oracle_Verify.ok (o1 : Option Addr) (publicv2 : Int) (b3a : Option Addr) (b3n : Nat) (b3c : Nat) (sig4 : Int) {R : Value → World → Prop} {w : World} (h : cachetteref03_Oracle_Verify.M o1 publicv2 b3a b3n b3c sig4 R w) : Calls Try.prog 25 #[.pointer o1, .int .u64 publicv2, .slice b3a b3n b3c, .int .u64 sig4] w fun e w' => ∃ v, e = .returned v ∧ R v w' :=
  mfunc_ok follows (H := []) (args := [.pointer o1, .int .u64 publicv2, .slice b3a b3n b3c, .int .u64 sig4]) (by rw [cachetteref03_Oracle_Verify.eq]; exact h)

def cachetteref03_Oracle_Verify.N (o1 : Option Addr) (publicv2 : Int) (b3a : Option Addr) (b3n : Nat) (b3c : Nat) (sig4 : Int) (R : Value → World → Prop) (w : World) : Prop :=
  Calls Try.prog 37 #[.pointer o1, .int .u64 publicv2, .int .i64 4] w fun ee12 ww13 => ∃ (H5 : Int) (Kind6 : Int) (A7a : Option Addr) (A7n : Nat) (A7c : Nat) (B8a : Option Addr) (B8n : Nat) (B8c : Nat) (N9 : Int) (M10 : Int) (isv11 : Bool), ee12 = .returned (.tuple #[.agg #[.int .u64 H5, .int .i64 Kind6, .slice A7a A7n A7c, .slice B8a B8n B8c, .int .u64 N9, .int .u64 M10], .bool isv11]) ∧
  ∀ (ww20 : World) (p21 : Nat), Ext no ww13 ww20 → Priv ww13 ww20 [p21] →
  Calls Try.prog 37 #[.pointer o1, .int .u64 sig4, .int .i64 5] ww20 fun ee29 ww30 => ∃ (H22 : Int) (Kind23 : Int) (A24a : Option Addr) (A24n : Nat) (A24c : Nat) (B25a : Option Addr) (B25n : Nat) (B25c : Nat) (N26 : Int) (M27 : Int) (isv28 : Bool), ee29 = .returned (.tuple #[.agg #[.int .u64 H22, .int .i64 Kind23, .slice A24a A24n A24c, .slice B25a B25n B25c, .int .u64 N26, .int .u64 M27], .bool isv28]) ∧
  Keep [p21] ww20 ww30 ∧
  (isv11 = true →
    (isv28 = true →
      (N26 = N9 →
        ∀ (ww37 : World), Ext no ww30 ww37 →
        Calls Try.prog 9 #[.slice A24a A24n A24c, .slice b3a b3n b3c] ww37 fun ee43 ww44 => ∃ (same42 : Bool), ee43 = .returned (.bool same42) ∧
        R (.bool same42) ww44) ∧
      (N26 ≠ N9 →
        ∀ (ww37 : World), Ext no ww30 ww37 →
        R (.bool false) ww37)) ∧
    (isv28 = false →
      ∀ (ww37 : World), Ext no ww30 ww37 →
      R (.bool false) ww37)) ∧
  (isv11 = false →
    ∀ (ww37 : World), Ext no ww30 ww37 →
    R (.bool false) ww37)

theorem cachetteref03_Oracle_Verify.up (o1 : Option Addr) (publicv2 : Int) (b3a : Option Addr) (b3n : Nat) (b3c : Nat) (sig4 : Int) {R : Value → World → Prop} {w : World} (h : cachetteref03_Oracle_Verify.N o1 publicv2 b3a b3n b3c sig4 R w) : cachetteref03_Oracle_Verify.M o1 publicv2 b3a b3n b3c sig4 R w := by
  unfold cachetteref03_Oracle_Verify.M
  unfold cachetteref03_Oracle_Verify.N at h
  refine h.mono fun ee12 ww13 h => ?_
  obtain ⟨H5, Kind6, A7a, A7n, A7c, B8a, B8n, B8c, N9, M10, isv11, he, h⟩ := h
  refine ⟨H5, Kind6, A7a, A7n, A7c, B8a, B8n, B8c, N9, M10, isv11, he, ?_⟩
  refine thenW_in fun ww14 e14 => ?_
  have hb1 := Blk.of_new e14
  have hg1 := ((Ext.refl no ww13)).size
  have hx14 := (Ext.refl no ww13).x_alloc e14
  refine ⟨hb1.cani 0 rfl rfl, thenW_in fun ww15 e15 => ?_⟩
  have hx15 := hx14.x_set (q := ww13.heap.size) (i := 0) rfl (.inr hg1) e15
  have hb1 := hb1.seti 0 rfl e15
  refine ⟨hb1.cani 1 rfl rfl, thenW_in fun ww16 e16 => ?_⟩
  have hx16 := hx15.x_set (q := ww13.heap.size) (i := 1) rfl (.inr hg1) e16
  have hb1 := hb1.seti 1 rfl e16
  refine ⟨hb1.cani 2 rfl rfl, thenW_in fun ww17 e17 => ?_⟩
  have hx17 := hx16.x_set (q := ww13.heap.size) (i := 2) rfl (.inr hg1) e17
  have hb1 := hb1.seti 2 rfl e17
  refine ⟨hb1.cani 3 rfl rfl, thenW_in fun ww18 e18 => ?_⟩
  have hx18 := hx17.x_set (q := ww13.heap.size) (i := 3) rfl (.inr hg1) e18
  have hb1 := hb1.seti 3 rfl e18
  refine ⟨hb1.cani 4 rfl rfl, thenW_in fun ww19 e19 => ?_⟩
  have hx19 := hx18.x_set (q := ww13.heap.size) (i := 4) rfl (.inr hg1) e19
  have hb1 := hb1.seti 4 rfl e19
  refine ⟨hb1.cani 5 rfl rfl, thenW_in fun ww20 e20 => ?_⟩
  have hx20 := hx19.x_set (q := ww13.heap.size) (i := 5) rfl (.inr hg1) e20
  have hb1 := hb1.seti 5 rfl e20
  have h := h ww20 (ww13.heap.size) hx20 (Priv.cons hg1 hb1.lt Priv.nil)
  refine h.mono fun ee29 ww30 h => ?_
  obtain ⟨H22, Kind23, A24a, A24n, A24c, B25a, B25n, B25c, N26, M27, isv28, he, hk, h⟩ := h
  refine ⟨H22, Kind23, A24a, A24n, A24c, B25a, B25n, B25c, N26, M27, isv28, he, ?_⟩
  have hb1 := hk.blk hb1 (by simp)
  refine thenW_in fun ww31 e31 => ?_
  have hb2 := Blk.of_new e31
  have hg2 := ((Ext.refl no ww30)).size
  have hb1_2 := Nat.ne_of_lt hb1.lt
  have hb1 := hb1.x_alloc e31
  have hx31 := (Ext.refl no ww30).x_alloc e31
  refine ⟨hb2.cani 0 rfl rfl, thenW_in fun ww32 e32 => ?_⟩
  have hx32 := hx31.x_set (q := ww30.heap.size) (i := 0) rfl (.inr hg2) e32
  have hb1 := hb1.oth (q := ww30.heap.size) (i := 0) rfl hb1_2 e32
  have hb2 := hb2.seti 0 rfl e32
  refine ⟨hb2.cani 1 rfl rfl, thenW_in fun ww33 e33 => ?_⟩
  have hx33 := hx32.x_set (q := ww30.heap.size) (i := 1) rfl (.inr hg2) e33
  have hb1 := hb1.oth (q := ww30.heap.size) (i := 1) rfl hb1_2 e33
  have hb2 := hb2.seti 1 rfl e33
  refine ⟨hb2.cani 2 rfl rfl, thenW_in fun ww34 e34 => ?_⟩
  have hx34 := hx33.x_set (q := ww30.heap.size) (i := 2) rfl (.inr hg2) e34
  have hb1 := hb1.oth (q := ww30.heap.size) (i := 2) rfl hb1_2 e34
  have hb2 := hb2.seti 2 rfl e34
  refine ⟨hb2.cani 3 rfl rfl, thenW_in fun ww35 e35 => ?_⟩
  have hx35 := hx34.x_set (q := ww30.heap.size) (i := 3) rfl (.inr hg2) e35
  have hb1 := hb1.oth (q := ww30.heap.size) (i := 3) rfl hb1_2 e35
  have hb2 := hb2.seti 3 rfl e35
  refine ⟨hb2.cani 4 rfl rfl, thenW_in fun ww36 e36 => ?_⟩
  have hx36 := hx35.x_set (q := ww30.heap.size) (i := 4) rfl (.inr hg2) e36
  have hb1 := hb1.oth (q := ww30.heap.size) (i := 4) rfl hb1_2 e36
  have hb2 := hb2.seti 4 rfl e36
  refine ⟨hb2.cani 5 rfl rfl, thenW_in fun ww37 e37 => ?_⟩
  have hx37 := hx36.x_set (q := ww30.heap.size) (i := 5) rfl (.inr hg2) e37
  have hb1 := hb1.oth (q := ww30.heap.size) (i := 5) rfl hb1_2 e37
  have hb2 := hb2.seti 5 rfl e37
  refine bif_of (fun c38 => ?_) (fun c38 => ?_)
  · have h := h.1 c38
    refine bif_of (fun c39 => ?_) (fun c39 => ?_)
    · have h := h.1 c39
      refine ⟨N26, hb2.celli 4 rfl rfl, ?_⟩
      refine ⟨N9, hb1.celli 4 rfl rfl, ?_⟩
      refine bif_of (fun c40 => ?_) (fun c40 => ?_)
      · have h := h.1 (beq_t c40)
        refine ⟨A24a, A24n, A24c, hb2.celli 2 rfl rfl, ?_⟩
        have h := h ww37 hx37
        refine h.mono fun ee43 ww44 h => ?_
        obtain ⟨same42, he, h⟩ := h
        refine ⟨same42, he, ?_⟩
        exact h
      · have h := h.2 (beq_f c40)
        have h := h ww37 hx37
        exact h
    · have h := h.2 c39
      have h := h ww37 hx37
      exact h
  · have h := h.2 c38
    have h := h ww37 hx37
    exact h

theorem cachetteref03_Oracle_Verify.go (o1 : Option Addr) (publicv2 : Int) (b3a : Option Addr) (b3n : Nat) (b3c : Nat) (sig4 : Int) {R : Value → World → Prop} {w : World} (h : cachetteref03_Oracle_Verify.N o1 publicv2 b3a b3n b3c sig4 R w) : Calls Try.prog 25 #[.pointer o1, .int .u64 publicv2, .slice b3a b3n b3c, .int .u64 sig4] w fun e w' => ∃ v, e = .returned v ∧ R v w' := cachetteref03_Oracle_Verify.ok o1 publicv2 b3a b3n b3c sig4 (cachetteref03_Oracle_Verify.up o1 publicv2 b3a b3n b3c sig4 h)
theorem cachetteref03_Oracle_Verify.run (o1 : Option Addr) (publicv2 : Int) (b3a : Option Addr) (b3n : Nat) (b3c : Nat) (sig4 : Int) {V : Value} {Q : World → Prop} {w : World} (h : cachetteref03_Oracle_Verify.N o1 publicv2 b3a b3n b3c sig4 (fun v w' => v = V ∧ Q w') w) : Calls Try.prog 25 #[.pointer o1, .int .u64 publicv2, .slice b3a b3n b3c, .int .u64 sig4] w (Ret V Q) := (cachetteref03_Oracle_Verify.go o1 publicv2 b3a b3n b3c sig4 h).mono fun e w' ⟨v, he, hv, hq⟩ => ⟨by rw [he, hv], hq⟩

def isR (L : List RRow) (x kind : Int) : Option RRow := (L.find? fun r => r.h == x).bind fun r => if r.kind = kind then some r else none
def hashR (d : List Int) (L : List RRow) (b : List UInt8) : Int × List Int × List RRow :=
  match L.find? (fun r => r.kind == 1 && decide (r.A = b)) with
  | some r => (r.h, d, L)
  | none => putR d L ⟨0, 1, b, [], 0, 0⟩
def keyR (d : List Int) (L : List RRow) : Int × List Int × List RRow := putR d L ⟨0, 2, [], [], 0, 0⟩
def pairR (d : List Int) (L : List RRow) : (Int × Int) × List Int × List RRow :=
  let p := putR d L ⟨0, 3, [], [], 0, 0⟩
  let q := putR p.2.1 p.2.2 ⟨0, 4, [], [], p.1, 0⟩
  ((p.1, q.1), q.2)
def signR (d : List Int) (L : List RRow) (s : Int) (b : List UInt8) : (Int × Int) × List Int × List RRow :=
  match isR L s 3 with
  | none => ((0, 11), d, L)
  | some _ =>
    match L.find? (fun r => r.kind == 5 && (r.n == s && decide (r.A = b))) with
    | some r => ((r.h, 0), d, L)
    | none => let q := putR d L ⟨0, 5, b, [], s, 0⟩; ((q.1, 0), q.2)
def verifyR (L : List RRow) (p : Int) (b : List UInt8) (x : Int) : Bool :=
  match isR L p 4, isR L x 5 with
  | some y, some z => decide (z.n = y.n ∧ z.A = b)
  | _, _ => false
def zeroC : Value := .agg #[.int .u64 0, .int .i64 0, .slice none 0 0, .slice none 0 0, .int .u64 0, .int .u64 0]
def PR.V (x : PR) : Value := .agg #[.int .u64 x.r.h, .int .i64 x.r.kind, .slice x.aA x.r.A.length x.cA, .slice x.aB x.r.B.length x.cB, .int .u64 x.r.n, .int .u64 x.r.m]
section
variable {w w' : World} {o o' : Own} {k : Nat} {K : Nat → Prop} {d : List Int} {R : List PR} {L : List RRow}
theorem atI_some {L : List RRow} {x : Int} {i : Nat} (h : atI L x = i) : ∃ hi : i < L.length, L[i].h = x ∧ L.find? (fun r => r.h == x) = some L[i] := by
  unfold atI at h
  cases hf : L.findIdx? (fun r => r.h == x) with
  | none => rw [hf] at h; simp at h
  | some j =>
    rw [hf] at h
    have : j = i := by simp at h; omega
    subst this
    rw [List.findIdx?_eq_some_iff_getElem] at hf
    obtain ⟨h1, h2, h3⟩ := hf
    refine ⟨h1, by simpa using h2, ?_⟩
    rw [List.find?_eq_some_iff_getElem]
    exact ⟨h2, j, h1, rfl, fun q hq => by simpa using h3 q hq⟩
theorem atI_none {L : List RRow} {x : Int} (h : atI L x < 0) : L.find? (fun r => r.h == x) = none := by
  rw [List.find?_eq_none]
  intro r hr
  have h1 : x ∉ L.map (·.h) := fun hm => by have := (atI_mem L x).2 hm; omega
  intro e
  exact h1 (List.mem_map.2 ⟨r, hr, by simpa using e⟩)
theorem is_spec (h : ROrcP w o k d R) (ht : Tags w o) (hl : R.length < 1000000) (x kind : Int) :
    Calls Try.prog 37 #[.pointer (some (blk k)), .int .u64 x, .int .i64 kind] w (fun e w' => Ext no w w' ∧ ((isR (R.map PR.r) x kind = none ∧ e = .returned (.tuple #[zeroC, .bool false])) ∨ ∃ y ∈ R, isR (R.map PR.r) x kind = some y.r ∧ e = .returned (.tuple #[y.V, .bool true]))) := by
  refine (cachetteref03_Oracle_is.go _ _ _ (R := fun v w' => Ext no w w' ∧ ((isR (R.map PR.r) x kind = none ∧ v = .tuple #[zeroC, .bool false]) ∨ ∃ y ∈ R, isR (R.map PR.r) x kind = some y.r ∧ v = .tuple #[y.V, .bool true])) ?_).mono fun e w' ⟨v, he, hx, hv⟩ => ⟨hx, hv.imp (fun ⟨a, b⟩ => ⟨a, by rw [he, b]⟩) fun ⟨y, a, b, c⟩ => ⟨y, a, b, by rw [he, c]⟩⟩
  unfold cachetteref03_Oracle_is.N
  intro w4 p5 X4 hp
  have hp := hp.one
  have X5 : ∀ {w1}, Ext (fun b => b = p5) w4 w1 → Ext no w w1 := fun h => X4.then h fun b hb => .inr (by omega)
  obtain ⟨da, dc, la, lc, h1, h2, h3, h4, h5⟩ := id h.at_
  have hb4 := h1.ext X4 id
  have hat : Calls Try.prog 48 #[.pointer (some (blk k)), .int .u64 x] w4 (Ret (.int .i64 (atI (R.map PR.r) x)) fun w' => w' = w4) := by
    exact at_spec (h.step (Step.of_no X4 ht) id) hl x
  refine hat.mono fun e w8 ⟨he, hw⟩ => ⟨_, he, by subst hw; exact Keep.refl _ _, fun hn => ?_, fun hn => ?_⟩ <;> subst hw
  · intro w15 X15
    refine ⟨X5 X15, .inl ⟨?_, rfl⟩⟩
    unfold isR
    rw [atI_none hn]; rfl
  · obtain ⟨i, hi⟩ : ∃ i : Nat, atI (R.map PR.r) x = i := ⟨(atI (R.map PR.r) x).toNat, by omega⟩
    obtain ⟨hil, hih, hif⟩ := atI_some hi
    rw [List.length_map] at hil
    rw [hi]
    have hg : R[i]? = some R[i] := List.getElem?_eq_getElem hil
    rw [List.getElem_map] at hih hif
    have hrow := h4.row.no X4
    obtain ⟨ad, ha⟩ := hrow.addr (Cs_ne (by intro e; subst e; simp at hil))
    refine ⟨_, rfl, la, R.length, lc, hb4.cella (i := 1) rfl, ad, ha, by omega, by omega, R[i].r.kind, by rw [Int.toNat_natCast]; exact row_cell hrow ha hg (j := 1) rfl, fun hk => ?_, fun hk => ?_⟩
    · intro w28 X28
      refine ⟨X5 X28, .inl ⟨?_, rfl⟩⟩
      unfold isR
      rw [hif]
      show (if R[i].r.kind = kind then some R[i].r else none) = none
      rw [if_neg hk]
    · refine ⟨la, R.length, lc, hb4.cella (i := 1) rfl, ad, ha, by omega, by omega, R[i].r.h, R[i].r.kind, R[i].aA, _, R[i].cA, R[i].aB, _, R[i].cB, R[i].r.n, R[i].r.m, ?_, fun w44 X44 => ⟨X5 X44, .inr ⟨R[i], List.getElem_mem hil, ?_, rfl⟩⟩⟩
      · rw [Int.toNat_natCast]
        exact ⟨row_cell hrow ha hg (j := 0) rfl, row_cell hrow ha hg (j := 1) rfl, row_cell hrow ha hg (j := 2) rfl, row_cell hrow ha hg (j := 3) rfl, row_cell hrow ha hg (j := 4) rfl, row_cell hrow ha hg (j := 5) rfl, trivial⟩
      · unfold isR
        rw [hif]
        show (if R[i].r.kind = kind then some R[i].r else none) = _
        rw [if_pos hk]
/-- what is asked of a row. -/
structure ROk (w : World) (o : Own) (d : List Int) (L : List RRow) : Prop where
  tags : Tags w o
  draws : ∀ x ∈ d, 0 ≤ x ∧ x < 18446744073709551616
  short : L.length < 1000000
  bytes : ∀ r ∈ L, r.A.length < 1000000 ∧ r.B.length < 1000000
theorem freshR_draws {d used : List Int} (hd : ∀ x ∈ d, 0 ≤ x ∧ x < 18446744073709551616) : ∀ x ∈ (freshR d used).2, 0 ≤ x ∧ x < 18446744073709551616 := fun x hx => by
  unfold freshR at hx
  cases hp : pickD d used with
  | none => rw [hp] at hx; simp at hx
  | some q => obtain ⟨a, b⟩ := q; rw [hp] at hx; exact hd x (pickD_rest hp x hx)
theorem putR_len (d : List Int) (L : List RRow) (r : RRow) : (putR d L r).2.2.length = L.length + 1 := by simp [putR]
theorem rPair_spec (h : ROrc w o k d L) (hk : ROk w o d L) (hl : L.length + 1 < 1000000) :
    Calls Try.prog 22 #[.pointer (some (blk k))] w (Gs (fun j => j = k) w o (.tuple #[.int .u64 (pairR d L).1.1, .int .u64 (pairR d L).1.2]) fun w' o' => ROrc w' o' k (pairR d L).2.1 (pairR d L).2.2) := by
  refine (cachetteref03_Oracle_Pair.go _ (R := fun v w' => ∃ o', v = .tuple #[.int .u64 (pairR d L).1.1, .int .u64 (pairR d L).1.2] ∧ Step (fun j => j = k) w o w' o' ∧ ROrc w' o' k (pairR d L).2.1 (pairR d L).2.2) ?_).mono fun e w' ⟨v, he, o', hv, hw⟩ => ⟨o', by rw [he, hv], hw⟩
  unfold cachetteref03_Oracle_Pair.N
  have z : ∀ (w : World) (o : Own) (kd n : Int), PR.ok w o ⟨⟨0, kd, [], [], n, 0⟩, none, 0, none, 0⟩ := fun w o kd n => ⟨Row.nil _ _ _, Row.nil _ _ _, Nat.le_refl _, Nat.le_refl _⟩
  refine (put_spec h hk.tags hk.draws hk.short ⟨⟨0, 3, [], [], 0, 0⟩, none, 0, none, 0⟩ (z _ _ _ _)).mono fun e w4 ⟨o4, he, s4, h4⟩ => ⟨_, he, ?_⟩
  refine (put_spec h4 s4.ok (freshR_draws hk.draws) (by rw [putR_len]; exact hl) ⟨⟨0, 4, [], [], (putR d L ⟨0, 3, [], [], 0, 0⟩).1, 0⟩, none, 0, none, 0⟩ (z _ _ _ _)).mono fun e w7 ⟨o7, he, s7, h7⟩ => ⟨_, he, o7, rfl, s4.trans s7, h7⟩
theorem rKey_spec (h : ROrc w o k d L) (hk : ROk w o d L) :
    Calls Try.prog 21 #[.pointer (some (blk k))] w (Gs (fun j => j = k) w o (.int .u64 (keyR d L).1) fun w' o' => ROrc w' o' k (keyR d L).2.1 (keyR d L).2.2) := by
  refine (cachetteref03_Oracle_Key.go _ (R := fun v w' => ∃ o', v = .int .u64 (keyR d L).1 ∧ Step (fun j => j = k) w o w' o' ∧ ROrc w' o' k (keyR d L).2.1 (keyR d L).2.2) ?_).mono fun e w' ⟨v, he, o', hv, hw⟩ => ⟨o', by rw [he, hv], hw⟩
  unfold cachetteref03_Oracle_Key.N
  refine (put_spec h hk.tags hk.draws hk.short ⟨⟨0, 2, [], [], 0, 0⟩, none, 0, none, 0⟩ ⟨Row.nil _ _ _, Row.nil _ _ _, Nat.le_refl _, Nat.le_refl _⟩).mono fun e w4 ⟨o4, he, s4, h4⟩ => ⟨_, he, o4, rfl, s4, h4⟩
/-- a walk through the rows: none of those ahead is the one. -/
theorem find_at {L : List RRow} {p : RRow → Bool} {t : Nat} (hn : ∀ y ∈ L.take t, p y = false) (ht : t < L.length) (hp : p L[t] = true) : L.find? p = some L[t] := by
  rw [List.find?_eq_some_iff_getElem]
  exact ⟨hp, t, ht, rfl, fun j hj => by simp [hn L[j] (List.mem_take_iff_getElem.2 ⟨j, by omega, rfl⟩)]⟩
theorem find_end {L : List RRow} {p : RRow → Bool} (hn : ∀ y ∈ L, p y = false) : L.find? p = none := by
  rw [List.find?_eq_none]; intro y hy; simp [hn y hy]
theorem take_step {α : Type} {L : List α} {P : α → Prop} {t : Nat} (hn : ∀ y ∈ L.take t, P y) (ht : t < L.length) (hp : P L[t]) : ∀ y ∈ L.take (t + 1), P y := fun y hy => by
  rw [List.take_add_one, List.getElem?_eq_getElem ht] at hy
  rcases List.mem_append.1 hy with hy | hy
  · exact hn y hy
  · simp at hy; rw [hy]; exact hp
theorem rHash_spec (h : ROrc w o k d L) (hk : ROk w o d L) {a : Option Addr} {c : Nat} {b : List UInt8} (hr : Row w o a (bytesV b)) (hc : b.length ≤ c) :
    Calls Try.prog 19 #[.pointer (some (blk k)), .slice a b.length c] w (Gs (fun j => j = k) w o (.int .u64 (hashR d L b).1) fun w' o' => ROrc w' o' k (hashR d L b).2.1 (hashR d L b).2.2) := by
  refine (cachetteref03_Oracle_Hash.go _ _ _ _ (R := fun v w' => ∃ o', v = .int .u64 (hashR d L b).1 ∧ Step (fun j => j = k) w o w' o' ∧ ROrc w' o' k (hashR d L b).2.1 (hashR d L b).2.2) ?_).mono fun e w' ⟨v, he, o', hv, hw⟩ => ⟨o', by rw [he, hv], hw⟩
  unfold cachetteref03_Oracle_Hash.N
  obtain ⟨R, hLR, h0⟩ := id h
  have hlen : L.length = R.length := by rw [hLR, List.length_map]
  have hget : ∀ t (ht : t < R.length), L[t]'(by omega) = R[t].r := fun t ht => by simp [hLR]
  refine ⟨fun q vs w1 => ∃ (t : Nat) (o1 : Own), vs = [.int .i64 t] ∧ q + t = L.length ∧ (∀ y ∈ L.take t, (y.kind == 1 && decide (y.A = b)) = false) ∧ Step no w o w1 o1, L.length, ⟨0, o, rfl, rfl, by simp, Step.refl _ hk.tags⟩, ?_⟩
  rintro q w1 i ⟨t, o1, hi, hq, hn, s1⟩
  simp only [List.cons.injEq, Value.int.injEq, true_and, and_true] at hi
  subst hi
  have h1 := h0.step s1 id
  obtain ⟨da, dc, la, lc, b1, b2, b3, b4, b5⟩ := id h1.at_
  have hk1 := hk.short
  refine ⟨_, rfl, la, R.length, lc, b1.cella (i := 1) rfl, fun ht => ?_, fun ht => ?_⟩
  · have htl : t < R.length := by omega
    have htL : t < L.length := by omega
    have hg : R[t]? = some R[t] := List.getElem?_eq_getElem htl
    obtain ⟨ad, ha⟩ := b4.row.addr (Cs_ne (by intro e; subst e; simp at htl))
    have hst := hk.bytes L[t] (List.getElem_mem htL)
    rw [hget t htl] at hst
    refine ⟨la, R.length, lc, b1.cella (i := 1) rfl, ad, ha, by omega, by omega, R[t].r.kind, by rw [Int.toNat_natCast]; exact row_cell b4.row ha hg (j := 1) rfl, fun hkd => ?_, fun hkd => ?_⟩
    · refine ⟨la, R.length, lc, b1.cella (i := 1) rfl, ad, ha, by omega, by omega, R[t].aA, _, R[t].cA, by rw [Int.toNat_natCast]; exact row_cell b4.row ha hg (j := 2) rfl, ?_⟩
      refine (W.sameB_spec (h1.rows R[t] (List.getElem_mem htl)).1.1 (hr.step s1).1 (by omega)).mono fun e w24 ⟨he, X24⟩ => ⟨_, he, fun hs => ?_, fun hs => ?_⟩
      · have hs := of_decide_eq_true hs
        have s24' := Step.of_no X24 s1.ok
        have s24 := s1.trans s24'
        have h24 := h1.step s24' id
        obtain ⟨da, dc, la, lc, b1, b2, b3, b4, b5⟩ := id h24.at_
        obtain ⟨ad, ha⟩ := b4.row.addr (Cs_ne (by intro e; subst e; simp at htl))
        have hf : L.find? (fun r => r.kind == 1 && decide (r.A = b)) = some L[t] := find_at hn htL (by rw [hget t htl, hkd, hs]; simp)
        have hres : hashR d L b = (R[t].r.h, d, L) := by unfold hashR; rw [hf]; simp only [hget t htl]
        rw [hres]
        exact ⟨la, R.length, lc, b1.cella (i := 1) rfl, ad, ha, by omega, by omega, R[t].r.h, by rw [Int.toNat_natCast]; exact row_cell b4.row ha hg (j := 0) rfl, _, rfl, s24.none, R, hLR, h24⟩
      · have hs := of_decide_eq_false hs
        exact ⟨by omega, by omega, q - 1, by omega, t + 1, grow w1 o1, rfl, by omega, take_step hn htL (by rw [hget t htl]; simp [hs]), s1.trans (Step.of_no X24 s1.ok)⟩
    · exact ⟨by omega, by omega, q - 1, by omega, t + 1, o1, rfl, by omega, take_step hn htL (by rw [hget t htl]; simp [hkd]), s1⟩
  · obtain rfl : t = L.length := by omega
    rw [List.take_length] at hn
    have hres : hashR d L b = putR d L ⟨0, 1, b, [], 0, 0⟩ := by unfold hashR; rw [find_end hn]
    rw [hres]
    refine (put_spec (h.step s1 id) s1.ok hk.draws hk.short ⟨⟨0, 1, b, [], 0, 0⟩, a, c, none, 0⟩ ⟨hr.step s1, Row.nil _ _ _, hc, Nat.le_refl _⟩).mono fun e w35 ⟨o35, he, s35, h35⟩ => ⟨_, he, o35, rfl, s1.none.trans s35, h35⟩
theorem rSign_spec (h : ROrc w o k d L) (hk : ROk w o d L) (s : Int) {a : Option Addr} {c : Nat} {b : List UInt8} (hr : Row w o a (bytesV b)) (hc : b.length ≤ c) :
    Calls Try.prog 24 #[.pointer (some (blk k)), .int .u64 s, .slice a b.length c] w (Gs (fun j => j = k) w o (.tuple #[.int .u64 (signR d L s b).1.1, .int .i64 (signR d L s b).1.2]) fun w' o' => ROrc w' o' k (signR d L s b).2.1 (signR d L s b).2.2) := by
  refine (cachetteref03_Oracle_Sign.go _ _ _ _ _ (R := fun v w' => ∃ o', v = .tuple #[.int .u64 (signR d L s b).1.1, .int .i64 (signR d L s b).1.2] ∧ Step (fun j => j = k) w o w' o' ∧ ROrc w' o' k (signR d L s b).2.1 (signR d L s b).2.2) ?_).mono fun e w' ⟨v, he, o', hv, hw⟩ => ⟨o', by rw [he, hv], hw⟩
  unfold cachetteref03_Oracle_Sign.N
  obtain ⟨R, hLR, h0⟩ := id h
  have hlen : L.length = R.length := by rw [hLR, List.length_map]
  have hk1 := hk.short
  have hget : ∀ t (ht : t < R.length), L[t]'(by omega) = R[t].r := fun t ht => by simp [hLR]
  refine (is_spec h0 hk.tags (by omega) s 3).mono fun e w12 ⟨X12, hor⟩ => ?_
  rw [← hLR] at hor
  have s12 := Step.of_no X12 hk.tags
  rcases hor with ⟨hn, he⟩ | ⟨y, hy, hn, he⟩
  · refine ⟨_, _, _, _, _, _, _, _, _, _, _, he, fun _ w19 X19 => ?_, fun h => (by cases h)⟩
    have s19' := Step.of_no X19 s12.ok
    have s19 := s12.trans s19'
    have hres : signR d L s b = ((0, 11), d, L) := by unfold signR; rw [hn]
    rw [hres]
    exact ⟨_, rfl, s19.none, h.step s19 id⟩
  · refine ⟨_, _, _, _, _, _, _, _, _, _, _, he, fun h => (by cases h), fun _ w19 X19 => ?_⟩
    have s19' := Step.of_no X19 s12.ok
    have s19 := s12.trans s19'
    refine ⟨fun q vs w1 => ∃ (t : Nat) (o1 : Own), vs = [.int .i64 t] ∧ q + t = L.length ∧ (∀ y ∈ L.take t, (y.kind == 5 && (y.n == s && decide (y.A = b))) = false) ∧ Step no w o w1 o1, L.length, ⟨0, _, rfl, rfl, by simp, s19⟩, ?_⟩
    rintro q w1 i ⟨t, o1, hi, hq, hne, s1⟩
    simp only [List.cons.injEq, Value.int.injEq, true_and, and_true] at hi
    subst hi
    have h1 := h0.step s1 id
    obtain ⟨da, dc, la, lc, b1, b2, b3, b4, b5⟩ := id h1.at_
    refine ⟨_, rfl, la, R.length, lc, b1.cella (i := 1) rfl, fun ht => ?_, fun ht => ?_⟩
    · have htl : t < R.length := by omega
      have htL : t < L.length := by omega
      have hg : R[t]? = some R[t] := List.getElem?_eq_getElem htl
      obtain ⟨ad, ha⟩ := b4.row.addr (Cs_ne (by intro e; subst e; simp at htl))
      have hst := hk.bytes L[t] (List.getElem_mem htL)
      rw [hget t htl] at hst
      refine ⟨la, R.length, lc, b1.cella (i := 1) rfl, ad, ha, by omega, by omega, R[t].r.kind, by rw [Int.toNat_natCast]; exact row_cell b4.row ha hg (j := 1) rfl, fun hkd => ?_, fun hkd => ?_⟩
      · refine ⟨la, R.length, lc, b1.cella (i := 1) rfl, ad, ha, by omega, by omega, R[t].r.n, by rw [Int.toNat_natCast]; exact row_cell b4.row ha hg (j := 4) rfl, fun hnn => ?_, fun hnn => ?_⟩
        · refine ⟨la, R.length, lc, b1.cella (i := 1) rfl, ad, ha, by omega, by omega, R[t].aA, _, R[t].cA, by rw [Int.toNat_natCast]; exact row_cell b4.row ha hg (j := 2) rfl, ?_⟩
          refine (W.sameB_spec (h1.rows R[t] (List.getElem_mem htl)).1.1 (hr.step s1).1 (by omega)).mono fun e w24 ⟨he, X24⟩ => ⟨_, he, fun hs => ?_, fun hs => ?_⟩
          · have hs := of_decide_eq_true hs
            have s24' := Step.of_no X24 s1.ok
            have s24 := s1.trans s24'
            have h24 := h1.step s24' id
            obtain ⟨da, dc, la, lc, b1, b2, b3, b4, b5⟩ := id h24.at_
            obtain ⟨ad, ha⟩ := b4.row.addr (Cs_ne (by intro e; subst e; simp at htl))
            have hf : L.find? (fun r => r.kind == 5 && (r.n == s && decide (r.A = b))) = some L[t] := find_at hne htL (by rw [hget t htl, hkd, hnn, hs]; simp)
            have hres : signR d L s b = ((R[t].r.h, 0), d, L) := by unfold signR; rw [hn]; simp only [hf, hget t htl]
            rw [hres]
            exact ⟨la, R.length, lc, b1.cella (i := 1) rfl, ad, ha, by omega, by omega, R[t].r.h, by rw [Int.toNat_natCast]; exact row_cell b4.row ha hg (j := 0) rfl, _, rfl, s24.none, R, hLR, h24⟩
          · have hs := of_decide_eq_false hs
            exact ⟨by omega, by omega, q - 1, by omega, t + 1, grow w1 o1, rfl, by omega, take_step hne htL (by rw [hget t htl]; simp [hs]), s1.trans (Step.of_no X24 s1.ok)⟩
        · exact ⟨by omega, by omega, q - 1, by omega, t + 1, o1, rfl, by omega, take_step hne htL (by rw [hget t htl]; simp [hnn]), s1⟩
      · exact ⟨by omega, by omega, q - 1, by omega, t + 1, o1, rfl, by omega, take_step hne htL (by rw [hget t htl]; simp [hkd]), s1⟩
    · obtain rfl : t = L.length := by omega
      rw [List.take_length] at hne
      have hres : signR d L s b = (((putR d L ⟨0, 5, b, [], s, 0⟩).1, 0), (putR d L ⟨0, 5, b, [], s, 0⟩).2) := by unfold signR; rw [hn]; simp only [find_end hne]
      rw [hres]
      refine (put_spec (h.step s1 id) s1.ok hk.draws hk.short ⟨⟨0, 5, b, [], s, 0⟩, a, c, none, 0⟩ ⟨hr.step s1, Row.nil _ _ _, hc, Nat.le_refl _⟩).mono fun e w35 ⟨o35, he, s35, h35⟩ => ⟨_, he, o35, rfl, s1.none.trans s35, h35⟩
theorem rVerify_spec (h : ROrc w o k d L) (hk : ROk w o d L) (p x : Int) {a : Option Addr} {c : Nat} {b : List UInt8} (hr : Row w o a (bytesV b)) :
    Calls Try.prog 25 #[.pointer (some (blk k)), .int .u64 p, .slice a b.length c, .int .u64 x] w (Ret (.bool (verifyR L p b x)) fun w' => Ext no w w') := by
  refine cachetteref03_Oracle_Verify.run _ _ _ _ _ _ ?_
  unfold cachetteref03_Oracle_Verify.N
  obtain ⟨R, hLR, h0⟩ := id h
  have hlen : L.length = R.length := by rw [hLR, List.length_map]
  have hk1 := hk.short
  refine (is_spec h0 hk.tags (by omega) p 4).mono fun e w13 ⟨X13, hor⟩ => ?_
  rw [← hLR] at hor
  have s13 := Step.of_no X13 hk.tags
  have rest : ∀ (w20 : World) (p21 : Nat), Ext no w13 w20 → Priv w13 w20 [p21] → ∀ (N9 : Int) (b1 : Bool), (isR L p 4 = none ∧ b1 = false ∨ ∃ y, isR L p 4 = some y ∧ b1 = true ∧ y.n = N9) →
      Calls Try.prog 37 #[.pointer (some (blk k)), .int .u64 x, .int .i64 5] w20 fun ee29 ww30 => ∃ (H22 : Int) (Kind23 : Int) (A24a : Option Addr) (A24n : Nat) (A24c : Nat) (B25a : Option Addr) (B25n : Nat) (B25c : Nat) (N26 : Int) (M27 : Int) (isv28 : Bool), ee29 = .returned (.tuple #[.agg #[.int .u64 H22, .int .i64 Kind23, .slice A24a A24n A24c, .slice B25a B25n B25c, .int .u64 N26, .int .u64 M27], .bool isv28]) ∧
      Keep [p21] w20 ww30 ∧
      (b1 = true →
        (isv28 = true →
          (N26 = N9 →
            ∀ (ww37 : World), Ext no ww30 ww37 →
            Calls Try.prog 9 #[.slice A24a A24n A24c, .slice a b.length c] ww37 fun ee43 ww44 => ∃ (same42 : Bool), ee43 = .returned (.bool same42) ∧
            (Value.bool same42 = .bool (verifyR L p b x) ∧ Ext no w ww44)) ∧
          (N26 ≠ N9 →
            ∀ (ww37 : World), Ext no ww30 ww37 →
            (Value.bool false = .bool (verifyR L p b x) ∧ Ext no w ww37))) ∧
        (isv28 = false →
          ∀ (ww37 : World), Ext no ww30 ww37 →
          (Value.bool false = .bool (verifyR L p b x) ∧ Ext no w ww37))) ∧
      (b1 = false →
        ∀ (ww37 : World), Ext no ww30 ww37 →
        (Value.bool false = .bool (verifyR L p b x) ∧ Ext no w ww37)) := fun w20 p21 X20 hp N9 b1 hb1 => by
    have s20' := Step.of_no X20 s13.ok
    have s20 := s13.trans s20'
    refine (is_spec (h0.step s20 id) s20.ok (by omega) x 5).mono fun e w30 ⟨X30, hor⟩ => ?_
    rw [← hLR] at hor
    have Y30 := (X13.trans X20).trans X30
    have s30 := s20.trans (Step.of_no X30 s20.ok)
    rcases hor with ⟨hn, he⟩ | ⟨y, hy, hn, he⟩
    · have hf : verifyR L p b x = false := by unfold verifyR; rw [hn]; cases isR L p 4 <;> rfl
      exact ⟨_, _, _, _, _, _, _, _, _, _, _, he, X30.kept, fun _ => ⟨fun h => (by cases h), fun _ w37 X37 => ⟨by rw [hf], Y30.trans X37⟩⟩, fun _ w37 X37 => ⟨by rw [hf], Y30.trans X37⟩⟩
    · rcases hb1 with ⟨h4, rfl⟩ | ⟨z, h4, rfl, hz⟩
      · have hf : verifyR L p b x = false := by unfold verifyR; rw [h4]
        exact ⟨_, _, _, _, _, _, _, _, _, _, _, he, X30.kept, fun h => (by cases h), fun _ w37 X37 => ⟨by rw [hf], Y30.trans X37⟩⟩
      · have hv : verifyR L p b x = decide (y.r.n = z.n ∧ y.r.A = b) := by unfold verifyR; rw [h4, hn]
        refine ⟨_, _, _, _, _, _, _, _, _, _, _, he, X30.kept, fun _ => ⟨fun _ => ⟨fun hnn w37 X37 => ?_, fun hnn w37 X37 => ⟨by rw [hv, decide_eq_false fun h => hnn (h.1.trans hz)], Y30.trans X37⟩⟩, fun h => (by cases h)⟩, fun h => (by cases h)⟩
        have s37 := s30.trans (Step.of_no X37 s30.ok)
        have hyL : y.r ∈ L := by rw [hLR]; exact List.mem_map.2 ⟨y, hy, rfl⟩
        refine (W.sameB_spec ((h0.rows y hy).step s37).1.1 (hr.step s37).1 (hk.bytes _ hyL).1).mono fun e w44 ⟨he, X44⟩ => ⟨_, he, ?_, (Y30.trans X37).trans X44⟩
        rw [hv]
        congr 1
        rw [decide_eq_decide]
        exact ⟨fun h => ⟨hnn.trans hz.symm, h⟩, fun h => h.2⟩
  rcases hor with ⟨hn, he⟩ | ⟨y, hy, hn, he⟩
  · exact ⟨_, _, _, _, _, _, _, _, _, _, _, he, fun w20 p21 X20 hp => rest w20 p21 X20 hp 0 false (.inl ⟨hn, rfl⟩)⟩
  · exact ⟨_, _, _, _, _, _, _, _, _, _, _, he, fun w20 p21 X20 hp => rest w20 p21 X20 hp y.r.n true (.inr ⟨y.r, hn, rfl, rfl⟩)⟩
end
end Go.Proofs.Ytgagmbmkpfjbbaa
