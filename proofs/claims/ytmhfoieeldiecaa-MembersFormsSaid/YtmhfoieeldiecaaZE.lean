/- Members' bytes: predicates. -/
import Derived.Test.YtmhfoieeldiecaaZD
set_option linter.unusedVariables false
set_option linter.unusedSimpArgs false
set_option maxRecDepth 20000
set_option maxHeartbeats 2000000
namespace Go.Proofs.Ytmhfoieeldiecaa
open Go Go.Mx Go.Proofs
/-- members.Bytes -/
def members_Bytes.M (cKind1 : Int) (cWho2 : Int) (cPublic3 : Int) (cLimit4 : Int) (cWraps5a : Option Addr) (cWraps5n : Nat) (cWraps5c : Nat) (cOld6a : Option Addr) (cOld6n : Nat) (cOld6c : Nat) (R : Value → World → Prop) (w : World) : Prop :=
  thenW (w.alloc (.cells #[.int .i64 cKind1, .int .i64 cWho2, .int .u64 cPublic3, .int .i64 cLimit4, .slice cWraps5a cWraps5n cWraps5c, .slice cOld6a cOld6n cOld6c] 36)) fun ww7 =>
  ∃ (xKind8 : Int) (xWho9 : Int) (xPublic10 : Int) (xLimit11 : Int) (xWraps12a : Option Addr) (xWraps12n : Nat) (xWraps12c : Nat) (xOld13a : Option Addr) (xOld13n : Nat) (xOld13c : Nat), cellsAt ww7 (blk w.heap.size) [.int .i64 xKind8, .int .i64 xWho9, .int .u64 xPublic10, .int .i64 xLimit11, .slice xWraps12a xWraps12n xWraps12c, .slice xOld13a xOld13n xOld13c] 0 ∧
  Calls Try.prog 31 #[.agg #[.int .i64 xKind8, .int .i64 xWho9, .int .u64 xPublic10, .int .i64 xLimit11, .slice xWraps12a xWraps12n xWraps12c, .slice xOld13a xOld13n xOld13c]] ww7 fun ee15 ww16 => ∃ (right14 : Bool), ee15 = .returned (.bool right14) ∧
  bif !right14 then (
  R (.tuple #[.slice none 0 0, .int .i64 1]) ww16) else (
  ∃ (Kind17 : Int), ww16.cell? ((blk w.heap.size).add 0) = some (.int .i64 Kind17) ∧
  Calls Try.prog 41 #[.slice none 0 0, .int .u64 (IntKind.u64.wrap Kind17)] ww16 fun ee19 ww20 => ∃ (num18a : Option Addr) (num18n : Nat) (num18c : Nat), ee19 = .returned (.slice num18a num18n num18c) ∧
  ∃ (Kind21 : Int), ww20.cell? ((blk w.heap.size).add 0) = some (.int .i64 Kind21) ∧
  bif Kind21 == 3 then (
  ∃ (Wraps22a : Option Addr) (Wraps22n : Nat) (Wraps22c : Nat), ww20.cell? ((blk w.heap.size).add 4) = some (.slice Wraps22a Wraps22n Wraps22c) ∧
  Calls Try.prog 41 #[.slice num18a num18n num18c, .int .u64 (IntKind.u64.wrap (Wraps22n : Int))] ww20 fun ee24 ww25 => ∃ (num23a : Option Addr) (num23n : Nat) (num23c : Nat), ee24 = .returned (.slice num23a num23n num23c) ∧
  ∃ (Wraps26a : Option Addr) (Wraps26n : Nat) (Wraps26c : Nat), ww25.cell? ((blk w.heap.size).add 4) = some (.slice Wraps26a Wraps26n Wraps26c) ∧
  ∃ (I0 : Nat → List Value → World → Prop) (m29 : Nat), I0 m29 [.slice num23a num23n num23c, .int .i64 0] ww25 ∧ ∀ (m30 : Nat) (ww31 : World) (b27a : Option Addr) (b27n : Nat) (b27c : Nat) (t28 : Int), I0 m30 [.slice b27a b27n b27c, .int .i64 t28] ww31 →
  bif decide (t28 < (Wraps26n : Int)) then (
  Wraps26a.elim False fun a32 =>
  0 ≤ (t28 : Int) ∧ (t28 : Int) < (Wraps26n : Int) ∧
  ∃ (xWho33 : Int) (xB34a : Option Addr) (xB34n : Nat) (xB34c : Nat), cellsAt ww31 (a32.add (Int.toNat t28 * 2)) [.int .i64 xWho33, .slice xB34a xB34n xB34c] 0 ∧
  thenW (ww31.alloc (.cells #[.int .i64 0, .slice none 0 0] 85)) fun ww35 =>
  canStore ww35 ((blk ww31.heap.size).add 0) ∧
  thenW (ww35.setCell ((blk ww31.heap.size).add 0) (.int .i64 xWho33)) fun ww36 =>
  canStore ww36 ((blk ww31.heap.size).add 1) ∧
  thenW (ww36.setCell ((blk ww31.heap.size).add 1) (.slice xB34a xB34n xB34c)) fun ww37 =>
  thenW (ww37.drew) fun ww38 =>
  ∃ (Who39 : Int), ww38.cell? ((blk ww31.heap.size).add 0) = some (.int .i64 Who39) ∧
  ∃ (B40a : Option Addr) (B40n : Nat) (B40c : Nat), ww38.cell? ((blk ww31.heap.size).add 1) = some (.slice B40a B40n B40c) ∧
  Calls Try.prog 41 #[.slice b27a b27n b27c, .int .u64 (IntKind.u64.wrap Who39)] ww38 fun ee42 ww43 => ∃ (num41a : Option Addr) (num41n : Nat) (num41c : Nat), ee42 = .returned (.slice num41a num41n num41c) ∧
  ww43.cell? ((blk ww31.heap.size).add 1) = some (.slice B40a B40n B40c) ∧
  Calls Try.prog 42 #[.slice num41a num41n num41c, .slice B40a B40n B40c] ww43 fun ee45 ww46 => ∃ (bytes44a : Option Addr) (bytes44n : Nat) (bytes44c : Nat), ee45 = .returned (.slice bytes44a bytes44n bytes44c) ∧
  ∃ m47, m47 < m30 ∧ I0 m47 [.slice bytes44a bytes44n bytes44c, .int .i64 (IntKind.i64.wrap (t28 + 1))] ww46) else (
  ∃ (Old48a : Option Addr) (Old48n : Nat) (Old48c : Nat), ww31.cell? ((blk w.heap.size).add 5) = some (.slice Old48a Old48n Old48c) ∧
  Calls Try.prog 42 #[.slice b27a b27n b27c, .slice Old48a Old48n Old48c] ww31 fun ee50 ww51 => ∃ (bytes49a : Option Addr) (bytes49n : Nat) (bytes49c : Nat), ee50 = .returned (.slice bytes49a bytes49n bytes49c) ∧
  R (.tuple #[.slice bytes49a bytes49n bytes49c, .int .i64 0]) ww51)) else (
  ∃ (Who52 : Int), ww20.cell? ((blk w.heap.size).add 1) = some (.int .i64 Who52) ∧
  Calls Try.prog 41 #[.slice num18a num18n num18c, .int .u64 (IntKind.u64.wrap Who52)] ww20 fun ee54 ww55 => ∃ (num53a : Option Addr) (num53n : Nat) (num53c : Nat), ee54 = .returned (.slice num53a num53n num53c) ∧
  ∃ (Kind56 : Int), ww55.cell? ((blk w.heap.size).add 0) = some (.int .i64 Kind56) ∧
  bif Kind56 == 1 then (
  ∃ (Public57 : Int), ww55.cell? ((blk w.heap.size).add 2) = some (.int .u64 Public57) ∧
  Calls Try.prog 41 #[.slice num53a num53n num53c, .int .u64 Public57] ww55 fun ee59 ww60 => ∃ (num58a : Option Addr) (num58n : Nat) (num58c : Nat), ee59 = .returned (.slice num58a num58n num58c) ∧
  R (.tuple #[.slice num58a num58n num58c, .int .i64 0]) ww60) else (
  ∃ (Limit61 : Int), ww55.cell? ((blk w.heap.size).add 3) = some (.int .i64 Limit61) ∧
  Calls Try.prog 41 #[.slice num53a num53n num53c, .int .u64 (IntKind.u64.wrap Limit61)] ww55 fun ee63 ww64 => ∃ (num62a : Option Addr) (num62n : Nat) (num62c : Nat), ee63 = .returned (.slice num62a num62n num62c) ∧
  R (.tuple #[.slice num62a num62n num62c, .int .i64 0]) ww64)))

theorem members_Bytes.eq (cKind1 : Int) (cWho2 : Int) (cPublic3 : Int) (cLimit4 : Int) (cWraps5a : Option Addr) (cWraps5n : Nat) (cWraps5c : Nat) (cOld6a : Option Addr) (cOld6n : Nat) (cOld6c : Nat) (R : Value → World → Prop) (w : World) : mfunc Try.prog [(0, [1, 24, 25], [(4, (.one .slice)), (26, (.one (.int .i64)))])] 27 [.agg #[.int .i64 cKind1, .int .i64 cWho2, .int .u64 cPublic3, .int .i64 cLimit4, .slice cWraps5a cWraps5n cWraps5c, .slice cOld6a cOld6n cOld6c]] R w = members_Bytes.M cKind1 cWho2 cPublic3 cLimit4 cWraps5a cWraps5n cWraps5c cOld6a cOld6n cOld6c R w := by kernel_rfl
theorem members_Bytes.ok (cKind1 : Int) (cWho2 : Int) (cPublic3 : Int) (cLimit4 : Int) (cWraps5a : Option Addr) (cWraps5n : Nat) (cWraps5c : Nat) (cOld6a : Option Addr) (cOld6n : Nat) (cOld6c : Nat) {R : Value → World → Prop} {w : World} (h : members_Bytes.M cKind1 cWho2 cPublic3 cLimit4 cWraps5a cWraps5n cWraps5c cOld6a cOld6n cOld6c R w) : Calls Try.prog 27 #[.agg #[.int .i64 cKind1, .int .i64 cWho2, .int .u64 cPublic3, .int .i64 cLimit4, .slice cWraps5a cWraps5n cWraps5c, .slice cOld6a cOld6n cOld6c]] w fun e w' => ∃ v, e = .returned v ∧ R v w' :=
  mfunc_ok follows (H := [(0, [1, 24, 25], [(4, (.one .slice)), (26, (.one (.int .i64)))])]) (args := [.agg #[.int .i64 cKind1, .int .i64 cWho2, .int .u64 cPublic3, .int .i64 cLimit4, .slice cWraps5a cWraps5n cWraps5c, .slice cOld6a cOld6n cOld6c]]) (by rw [members_Bytes.eq]; exact h)

def members_Bytes.N (cKind1 : Int) (cWho2 : Int) (cPublic3 : Int) (cLimit4 : Int) (cWraps5a : Option Addr) (cWraps5n : Nat) (cWraps5c : Nat) (cOld6a : Option Addr) (cOld6n : Nat) (cOld6c : Nat) (R : Value → World → Prop) (w : World) : Prop :=
  ∀ (ww7 : World) (p8 : Nat), Ext no w ww7 → Priv w ww7 [p8] →
  Calls Try.prog 31 #[.agg #[.int .i64 cKind1, .int .i64 cWho2, .int .u64 cPublic3, .int .i64 cLimit4, .slice cWraps5a cWraps5n cWraps5c, .slice cOld6a cOld6n cOld6c]] ww7 fun ee10 ww11 => ∃ (right9 : Bool), ee10 = .returned (.bool right9) ∧
  Keep [p8] ww7 ww11 ∧
  (right9 = false →
    R (.tuple #[.slice none 0 0, .int .i64 1]) ww11) ∧
  (right9 = true →
    Calls Try.prog 41 #[.slice none 0 0, .int .u64 (IntKind.u64.wrap cKind1)] ww11 fun ee14 ww15 => ∃ (num13a : Option Addr) (num13n : Nat) (num13c : Nat), ee14 = .returned (.slice num13a num13n num13c) ∧
    Keep [p8] ww11 ww15 ∧
    (cKind1 = 3 →
      Calls Try.prog 41 #[.slice num13a num13n num13c, .int .u64 (IntKind.u64.wrap (cWraps5n : Int))] ww15 fun ee18 ww19 => ∃ (num17a : Option Addr) (num17n : Nat) (num17c : Nat), ee18 = .returned (.slice num17a num17n num17c) ∧
      Keep [p8] ww15 ww19 ∧
      ∃ (I0 : Nat → List Value → World → Prop) (m22 : Nat), I0 m22 [.slice num17a num17n num17c, .int .i64 0] ww19 ∧ ∀ (m23 : Nat) (ww24 : World) (b20a : Option Addr) (b20n : Nat) (b20c : Nat) (t21 : Int), I0 m23 [.slice b20a b20n b20c, .int .i64 t21] ww24 →
      (t21 < (cWraps5n : Int) →
        ∃ a26 : Addr, cWraps5a = some a26 ∧
        0 ≤ (t21 : Int) ∧ (t21 : Int) < (cWraps5n : Int) ∧
        ∃ (xWho28 : Int) (xB29a : Option Addr) (xB29n : Nat) (xB29c : Nat), cellsAt ww24 (a26.add (Int.toNat t21 * 2)) [.int .i64 xWho28, .slice xB29a xB29n xB29c] 0 ∧
        ∀ (ww33 : World) (p34 : Nat), Ext no ww24 ww33 → Priv ww24 ww33 [p34] →
        Calls Try.prog 41 #[.slice b20a b20n b20c, .int .u64 (IntKind.u64.wrap xWho28)] ww33 fun ee36 ww37 => ∃ (num35a : Option Addr) (num35n : Nat) (num35c : Nat), ee36 = .returned (.slice num35a num35n num35c) ∧
        Keep [p8, p34] ww33 ww37 ∧
        Calls Try.prog 42 #[.slice num35a num35n num35c, .slice xB29a xB29n xB29c] ww37 fun ee39 ww40 => ∃ (bytes38a : Option Addr) (bytes38n : Nat) (bytes38c : Nat), ee39 = .returned (.slice bytes38a bytes38n bytes38c) ∧
        Keep [p8] ww37 ww40 ∧
        (-9223372036854775808 : Int) ≤ (t21 + 1) ∧ (t21 + 1) < 9223372036854775808 ∧
        ∃ m41, m41 < m23 ∧ I0 m41 [.slice bytes38a bytes38n bytes38c, .int .i64 (t21 + 1)] ww40) ∧
      ((cWraps5n : Int) ≤ t21 →
        Calls Try.prog 42 #[.slice b20a b20n b20c, .slice cOld6a cOld6n cOld6c] ww24 fun ee43 ww44 => ∃ (bytes42a : Option Addr) (bytes42n : Nat) (bytes42c : Nat), ee43 = .returned (.slice bytes42a bytes42n bytes42c) ∧
        R (.tuple #[.slice bytes42a bytes42n bytes42c, .int .i64 0]) ww44)) ∧
    (cKind1 ≠ 3 →
      Calls Try.prog 41 #[.slice num13a num13n num13c, .int .u64 (IntKind.u64.wrap cWho2)] ww15 fun ee46 ww47 => ∃ (num45a : Option Addr) (num45n : Nat) (num45c : Nat), ee46 = .returned (.slice num45a num45n num45c) ∧
      Keep [p8] ww15 ww47 ∧
      (cKind1 = 1 →
        Calls Try.prog 41 #[.slice num45a num45n num45c, .int .u64 cPublic3] ww47 fun ee50 ww51 => ∃ (num49a : Option Addr) (num49n : Nat) (num49c : Nat), ee50 = .returned (.slice num49a num49n num49c) ∧
        R (.tuple #[.slice num49a num49n num49c, .int .i64 0]) ww51) ∧
      (cKind1 ≠ 1 →
        Calls Try.prog 41 #[.slice num45a num45n num45c, .int .u64 (IntKind.u64.wrap cLimit4)] ww47 fun ee53 ww54 => ∃ (num52a : Option Addr) (num52n : Nat) (num52c : Nat), ee53 = .returned (.slice num52a num52n num52c) ∧
        R (.tuple #[.slice num52a num52n num52c, .int .i64 0]) ww54)))

theorem members_Bytes.up (cKind1 : Int) (cWho2 : Int) (cPublic3 : Int) (cLimit4 : Int) (cWraps5a : Option Addr) (cWraps5n : Nat) (cWraps5c : Nat) (cOld6a : Option Addr) (cOld6n : Nat) (cOld6c : Nat) {R : Value → World → Prop} {w : World} (h : members_Bytes.N cKind1 cWho2 cPublic3 cLimit4 cWraps5a cWraps5n cWraps5c cOld6a cOld6n cOld6c R w) : members_Bytes.M cKind1 cWho2 cPublic3 cLimit4 cWraps5a cWraps5n cWraps5c cOld6a cOld6n cOld6c R w := by
  unfold members_Bytes.M
  unfold members_Bytes.N at h
  refine thenW_in fun ww7 e7 => ?_
  have hb1 := Blk.of_new e7
  have hg1 := ((Ext.refl no w)).size
  have hx7 := (Ext.refl no w).x_alloc e7
  refine ⟨cKind1, cWho2, cPublic3, cLimit4, cWraps5a, cWraps5n, cWraps5c, cOld6a, cOld6n, cOld6c, ⟨hb1.celli 0 rfl rfl, hb1.celli 1 rfl rfl, hb1.celli 2 rfl rfl, hb1.celli 3 rfl rfl, hb1.celli 4 rfl rfl, hb1.celli 5 rfl rfl, trivial⟩, ?_⟩
  have h := h ww7 (w.heap.size) hx7 (Priv.cons hg1 hb1.lt Priv.nil)
  refine h.mono fun ee10 ww11 h => ?_
  obtain ⟨right9, he, hk, h⟩ := h
  refine ⟨right9, he, ?_⟩
  have hb1 := hk.blk hb1 (by simp)
  refine bif_of (fun c12 => ?_) (fun c12 => ?_)
  · have h := h.1 (not_t c12)
    exact h
  · have h := h.2 (not_f c12)
    refine ⟨cKind1, hb1.celli 0 rfl rfl, ?_⟩
    refine h.mono fun ee14 ww15 h => ?_
    obtain ⟨num13a, num13n, num13c, he, hk, h⟩ := h
    refine ⟨num13a, num13n, num13c, he, ?_⟩
    have hb1 := hk.blk hb1 (by simp)
    refine ⟨cKind1, hb1.celli 0 rfl rfl, ?_⟩
    refine bif_of (fun c16 => ?_) (fun c16 => ?_)
    · have h := h.1 (beq_t c16)
      refine ⟨cWraps5a, cWraps5n, cWraps5c, hb1.celli 4 rfl rfl, ?_⟩
      refine h.mono fun ee18 ww19 h => ?_
      obtain ⟨num17a, num17n, num17c, he, hk, h⟩ := h
      refine ⟨num17a, num17n, num17c, he, ?_⟩
      have hb1 := hk.blk hb1 (by simp)
      refine ⟨cWraps5a, cWraps5n, cWraps5c, hb1.celli 4 rfl rfl, ?_⟩
      obtain ⟨I0, m22, h0, h⟩ := h
      refine ⟨fun k vs ww => Blk ww w.heap.size 36 [.int .i64 cKind1, .int .i64 cWho2, .int .u64 cPublic3, .int .i64 cLimit4, .slice cWraps5a cWraps5n cWraps5c, .slice cOld6a cOld6n cOld6c] ∧ I0 k vs ww, m22, ⟨hb1, h0⟩, fun m23 ww24 b20a b20n b20c t21 hI => ?_⟩
      obtain ⟨hb1, hI⟩ := hI
      have h := h m23 ww24 b20a b20n b20c t21 hI
      refine bif_of (fun c25 => ?_) (fun c25 => ?_)
      · have h := h.1 (of_decide_eq_true c25)
        obtain ⟨a26, ha26, h⟩ := h
        refine elim_some ha26 ?_
        obtain ⟨hq1, hq2, h⟩ := h
        refine ⟨hq1, hq2, ?_⟩
        obtain ⟨xWho28, xB29a, xB29n, xB29c, hc27, h⟩ := h
        refine ⟨xWho28, xB29a, xB29n, xB29c, hc27, ?_⟩
        refine thenW_in fun ww30 e30 => ?_
        have hb2 := Blk.of_new e30
        have hg2 := ((Ext.refl no ww24)).size
        have hb1_2 := Nat.ne_of_lt hb1.lt
        have hb1 := hb1.x_alloc e30
        have hx30 := (Ext.refl no ww24).x_alloc e30
        refine ⟨hb2.cani 0 rfl rfl, thenW_in fun ww31 e31 => ?_⟩
        have hx31 := hx30.x_set (q := ww24.heap.size) (i := 0) rfl (.inr hg2) e31
        have hb1 := hb1.oth (q := ww24.heap.size) (i := 0) rfl hb1_2 e31
        have hb2 := hb2.seti 0 rfl e31
        refine ⟨hb2.cani 1 rfl rfl, thenW_in fun ww32 e32 => ?_⟩
        have hx32 := hx31.x_set (q := ww24.heap.size) (i := 1) rfl (.inr hg2) e32
        have hb1 := hb1.oth (q := ww24.heap.size) (i := 1) rfl hb1_2 e32
        have hb2 := hb2.seti 1 rfl e32
        refine thenW_in fun ww33 e33 => ?_
        have hx33 := hx32.x_drew e33
        have hb1 := hb1.x_drew e33
        have hb2 := hb2.x_drew e33
        refine ⟨xWho28, hb2.celli 0 rfl rfl, ?_⟩
        refine ⟨xB29a, xB29n, xB29c, hb2.celli 1 rfl rfl, ?_⟩
        have h := h ww33 (ww24.heap.size) hx33 (Priv.cons hg2 hb2.lt Priv.nil)
        refine h.mono fun ee36 ww37 h => ?_
        obtain ⟨num35a, num35n, num35c, he, hk, h⟩ := h
        refine ⟨num35a, num35n, num35c, he, ?_⟩
        have hb1 := hk.blk hb1 (by simp)
        have hb2 := hk.blk hb2 (by simp)
        refine ⟨hb2.celli 1 rfl rfl, ?_⟩
        refine h.mono fun ee39 ww40 h => ?_
        obtain ⟨bytes38a, bytes38n, bytes38c, he, hk, h⟩ := h
        refine ⟨bytes38a, bytes38n, bytes38c, he, ?_⟩
        have hb1 := hk.blk hb1 (by simp)
        obtain ⟨hw1, hw2, h⟩ := h
        try rw [w64 hw1 hw2]
        obtain ⟨m41, hk, h⟩ := h
        exact ⟨m41, hk, hb1, h⟩
      · have h := h.2 (Int.not_lt.1 (of_decide_eq_false c25))
        refine ⟨cOld6a, cOld6n, cOld6c, hb1.celli 5 rfl rfl, ?_⟩
        refine h.mono fun ee43 ww44 h => ?_
        obtain ⟨bytes42a, bytes42n, bytes42c, he, h⟩ := h
        refine ⟨bytes42a, bytes42n, bytes42c, he, ?_⟩
        exact h
    · have h := h.2 (beq_f c16)
      refine ⟨cWho2, hb1.celli 1 rfl rfl, ?_⟩
      refine h.mono fun ee46 ww47 h => ?_
      obtain ⟨num45a, num45n, num45c, he, hk, h⟩ := h
      refine ⟨num45a, num45n, num45c, he, ?_⟩
      have hb1 := hk.blk hb1 (by simp)
      refine ⟨cKind1, hb1.celli 0 rfl rfl, ?_⟩
      refine bif_of (fun c48 => ?_) (fun c48 => ?_)
      · have h := h.1 (beq_t c48)
        refine ⟨cPublic3, hb1.celli 2 rfl rfl, ?_⟩
        refine h.mono fun ee50 ww51 h => ?_
        obtain ⟨num49a, num49n, num49c, he, h⟩ := h
        refine ⟨num49a, num49n, num49c, he, ?_⟩
        exact h
      · have h := h.2 (beq_f c48)
        refine ⟨cLimit4, hb1.celli 3 rfl rfl, ?_⟩
        refine h.mono fun ee53 ww54 h => ?_
        obtain ⟨num52a, num52n, num52c, he, h⟩ := h
        refine ⟨num52a, num52n, num52c, he, ?_⟩
        exact h

theorem members_Bytes.go (cKind1 : Int) (cWho2 : Int) (cPublic3 : Int) (cLimit4 : Int) (cWraps5a : Option Addr) (cWraps5n : Nat) (cWraps5c : Nat) (cOld6a : Option Addr) (cOld6n : Nat) (cOld6c : Nat) {R : Value → World → Prop} {w : World} (h : members_Bytes.N cKind1 cWho2 cPublic3 cLimit4 cWraps5a cWraps5n cWraps5c cOld6a cOld6n cOld6c R w) : Calls Try.prog 27 #[.agg #[.int .i64 cKind1, .int .i64 cWho2, .int .u64 cPublic3, .int .i64 cLimit4, .slice cWraps5a cWraps5n cWraps5c, .slice cOld6a cOld6n cOld6c]] w fun e w' => ∃ v, e = .returned v ∧ R v w' := members_Bytes.ok cKind1 cWho2 cPublic3 cLimit4 cWraps5a cWraps5n cWraps5c cOld6a cOld6n cOld6c (members_Bytes.up cKind1 cWho2 cPublic3 cLimit4 cWraps5a cWraps5n cWraps5c cOld6a cOld6n cOld6c h)
theorem members_Bytes.run (cKind1 : Int) (cWho2 : Int) (cPublic3 : Int) (cLimit4 : Int) (cWraps5a : Option Addr) (cWraps5n : Nat) (cWraps5c : Nat) (cOld6a : Option Addr) (cOld6n : Nat) (cOld6c : Nat) {V : Value} {Q : World → Prop} {w : World} (h : members_Bytes.N cKind1 cWho2 cPublic3 cLimit4 cWraps5a cWraps5n cWraps5c cOld6a cOld6n cOld6c (fun v w' => v = V ∧ Q w') w) : Calls Try.prog 27 #[.agg #[.int .i64 cKind1, .int .i64 cWho2, .int .u64 cPublic3, .int .i64 cLimit4, .slice cWraps5a cWraps5n cWraps5c, .slice cOld6a cOld6n cOld6c]] w (Ret V Q) := (members_Bytes.go cKind1 cWho2 cPublic3 cLimit4 cWraps5a cWraps5n cWraps5c cOld6a cOld6n cOld6c h).mono fun e w' ⟨v, he, hv, hq⟩ => ⟨by rw [he, hv], hq⟩

/-- (members.reader).who -/
def members_reader_who.M (rReader1 : Option Addr) (R : Value → World → Prop) (w : World) : Prop :=
  thenW (w.alloc (.cells #[.pointer rReader1] 98)) fun ww2 =>
  ∃ (Reader3 : Option Addr), ww2.cell? ((blk w.heap.size).add 0) = some (.pointer Reader3) ∧
  Calls Try.prog 47 #[.pointer Reader3, .int .i64 7] ww2 fun ee5 ww6 => ∃ (count4 : Int), ee5 = .returned (.int .i64 count4) ∧
  R (.int .i64 count4) ww6

theorem members_reader_who.eq (rReader1 : Option Addr) (R : Value → World → Prop) (w : World) : mfunc Try.prog [] 78 [.agg #[.pointer rReader1]] R w = members_reader_who.M rReader1 R w := by kernel_rfl
theorem members_reader_who.ok (rReader1 : Option Addr) {R : Value → World → Prop} {w : World} (h : members_reader_who.M rReader1 R w) : Calls Try.prog 78 #[.agg #[.pointer rReader1]] w fun e w' => ∃ v, e = .returned v ∧ R v w' :=
  mfunc_ok follows (H := []) (args := [.agg #[.pointer rReader1]]) (by rw [members_reader_who.eq]; exact h)

def members_reader_who.N (rReader1 : Option Addr) (R : Value → World → Prop) (w : World) : Prop :=
  ∀ (ww2 : World), Ext no w ww2 →
  Calls Try.prog 47 #[.pointer rReader1, .int .i64 7] ww2 fun ee5 ww6 => ∃ (count4 : Int), ee5 = .returned (.int .i64 count4) ∧
  R (.int .i64 count4) ww6

theorem members_reader_who.up (rReader1 : Option Addr) {R : Value → World → Prop} {w : World} (h : members_reader_who.N rReader1 R w) : members_reader_who.M rReader1 R w := by
  unfold members_reader_who.M
  unfold members_reader_who.N at h
  refine thenW_in fun ww2 e2 => ?_
  have hb1 := Blk.of_new e2
  have hg1 := ((Ext.refl no w)).size
  have hx2 := (Ext.refl no w).x_alloc e2
  refine ⟨rReader1, hb1.celli 0 rfl rfl, ?_⟩
  have h := h ww2 hx2
  refine h.mono fun ee5 ww6 h => ?_
  obtain ⟨count4, he, h⟩ := h
  refine ⟨count4, he, ?_⟩
  exact h

theorem members_reader_who.go (rReader1 : Option Addr) {R : Value → World → Prop} {w : World} (h : members_reader_who.N rReader1 R w) : Calls Try.prog 78 #[.agg #[.pointer rReader1]] w fun e w' => ∃ v, e = .returned v ∧ R v w' := members_reader_who.ok rReader1 (members_reader_who.up rReader1 h)
theorem members_reader_who.run (rReader1 : Option Addr) {V : Value} {Q : World → Prop} {w : World} (h : members_reader_who.N rReader1 (fun v w' => v = V ∧ Q w') w) : Calls Try.prog 78 #[.agg #[.pointer rReader1]] w (Ret V Q) := (members_reader_who.go rReader1 h).mono fun e w' ⟨v, he, hv, hq⟩ => ⟨by rw [he, hv], hq⟩

/-- (members.reader).invite -/
def members_reader_invite.M (rReader1 : Option Addr) (c2 : Option Addr) (R : Value → World → Prop) (w : World) : Prop :=
  thenW (w.alloc (.cells #[.pointer rReader1] 98)) fun ww3 =>
  thenW (ww3.drew) fun ww4 =>
  ∃ (xReader5 : Option Addr), cellsAt ww4 (blk w.heap.size) [.pointer xReader5] 0 ∧
  ∃ (Reader6 : Option Addr), ww4.cell? ((blk w.heap.size).add 0) = some (.pointer Reader6) ∧
  Calls Try.prog 78 #[.agg #[.pointer xReader5]] ww4 fun ee8 ww9 => ∃ (who7 : Int), ee8 = .returned (.int .i64 who7) ∧
  ww9.cell? ((blk w.heap.size).add 0) = some (.pointer Reader6) ∧
  Calls Try.prog 65 #[.pointer Reader6] ww9 fun ee11 ww12 => ∃ (num10 : Int), ee11 = .returned (.int .u64 num10) ∧
  c2.elim False fun a13 =>
  canStore ww12 ((a13.add 1).add 0) ∧
  thenW (ww12.setCell ((a13.add 1).add 0) (.int .i64 who7)) fun ww14 =>
  c2.elim False fun a15 =>
  canStore ww14 ((a15.add 2).add 0) ∧
  thenW (ww14.setCell ((a15.add 2).add 0) (.int .u64 num10)) fun ww16 =>
  R (.tuple #[]) ww16

theorem members_reader_invite.eq (rReader1 : Option Addr) (c2 : Option Addr) (R : Value → World → Prop) (w : World) : mfunc Try.prog [] 69 [.agg #[.pointer rReader1], .pointer c2] R w = members_reader_invite.M rReader1 c2 R w := by kernel_rfl
theorem members_reader_invite.ok (rReader1 : Option Addr) (c2 : Option Addr) {R : Value → World → Prop} {w : World} (h : members_reader_invite.M rReader1 c2 R w) : Calls Try.prog 69 #[.agg #[.pointer rReader1], .pointer c2] w fun e w' => ∃ v, e = .returned v ∧ R v w' :=
  mfunc_ok follows (H := []) (args := [.agg #[.pointer rReader1], .pointer c2]) (by rw [members_reader_invite.eq]; exact h)

def members_reader_invite.N (rReader1 : Option Addr) (c2 : Option Addr) (R : Value → World → Prop) (w : World) : Prop :=
  ∀ (ww4 : World) (p5 : Nat), Ext no w ww4 → Priv w ww4 [p5] →
  Calls Try.prog 78 #[.agg #[.pointer rReader1]] ww4 fun ee7 ww8 => ∃ (who6 : Int), ee7 = .returned (.int .i64 who6) ∧
  Keep [p5] ww4 ww8 ∧
  Calls Try.prog 65 #[.pointer rReader1] ww8 fun ee10 ww11 => ∃ (num9 : Int), ee10 = .returned (.int .u64 num9) ∧
  ∃ a12 : Addr, c2 = some a12 ∧
  canStore ww11 ((a12.add 1).add 0) ∧
  thenW (ww11.setCell ((a12.add 1).add 0) (.int .i64 who6)) fun ww13 =>
  canStore ww13 ((a12.add 2).add 0) ∧
  thenW (ww13.setCell ((a12.add 2).add 0) (.int .u64 num9)) fun ww14 =>
  R (.tuple #[]) ww14

theorem members_reader_invite.up (rReader1 : Option Addr) (c2 : Option Addr) {R : Value → World → Prop} {w : World} (h : members_reader_invite.N rReader1 c2 R w) : members_reader_invite.M rReader1 c2 R w := by
  unfold members_reader_invite.M
  unfold members_reader_invite.N at h
  refine thenW_in fun ww3 e3 => ?_
  have hb1 := Blk.of_new e3
  have hg1 := ((Ext.refl no w)).size
  have hx3 := (Ext.refl no w).x_alloc e3
  refine thenW_in fun ww4 e4 => ?_
  have hx4 := hx3.x_drew e4
  have hb1 := hb1.x_drew e4
  refine ⟨rReader1, ⟨hb1.celli 0 rfl rfl, trivial⟩, ?_⟩
  refine ⟨rReader1, hb1.celli 0 rfl rfl, ?_⟩
  have h := h ww4 (w.heap.size) hx4 (Priv.cons hg1 hb1.lt Priv.nil)
  refine h.mono fun ee7 ww8 h => ?_
  obtain ⟨who6, he, hk, h⟩ := h
  refine ⟨who6, he, ?_⟩
  have hb1 := hk.blk hb1 (by simp)
  refine ⟨hb1.celli 0 rfl rfl, ?_⟩
  refine h.mono fun ee10 ww11 h => ?_
  obtain ⟨num9, he, h⟩ := h
  refine ⟨num9, he, ?_⟩
  obtain ⟨a12, ha12, h⟩ := h
  refine elim_some ha12 ?_
  obtain ⟨hcs, h⟩ := h
  refine ⟨hcs, thenW_in fun ww13 e13 => ?_⟩
  replace h := thenW_out h e13
  refine elim_some ha12 ?_
  obtain ⟨hcs, h⟩ := h
  refine ⟨hcs, thenW_in fun ww14 e14 => ?_⟩
  replace h := thenW_out h e14
  exact h

theorem members_reader_invite.go (rReader1 : Option Addr) (c2 : Option Addr) {R : Value → World → Prop} {w : World} (h : members_reader_invite.N rReader1 c2 R w) : Calls Try.prog 69 #[.agg #[.pointer rReader1], .pointer c2] w fun e w' => ∃ v, e = .returned v ∧ R v w' := members_reader_invite.ok rReader1 c2 (members_reader_invite.up rReader1 c2 h)
theorem members_reader_invite.run (rReader1 : Option Addr) (c2 : Option Addr) {V : Value} {Q : World → Prop} {w : World} (h : members_reader_invite.N rReader1 c2 (fun v w' => v = V ∧ Q w') w) : Calls Try.prog 69 #[.agg #[.pointer rReader1], .pointer c2] w (Ret V Q) := (members_reader_invite.go rReader1 c2 h).mono fun e w' ⟨v, he, hv, hq⟩ => ⟨by rw [he, hv], hq⟩

/-- (members.reader).revoke -/
def members_reader_revoke.M (rReader1 : Option Addr) (c2 : Option Addr) (R : Value → World → Prop) (w : World) : Prop :=
  thenW (w.alloc (.cells #[.pointer rReader1] 98)) fun ww3 =>
  thenW (ww3.drew) fun ww4 =>
  ∃ (xReader5 : Option Addr), cellsAt ww4 (blk w.heap.size) [.pointer xReader5] 0 ∧
  ∃ (Reader6 : Option Addr), ww4.cell? ((blk w.heap.size).add 0) = some (.pointer Reader6) ∧
  Calls Try.prog 78 #[.agg #[.pointer xReader5]] ww4 fun ee8 ww9 => ∃ (who7 : Int), ee8 = .returned (.int .i64 who7) ∧
  ww9.cell? ((blk w.heap.size).add 0) = some (.pointer Reader6) ∧
  Calls Try.prog 47 #[.pointer Reader6, .int .i64 200] ww9 fun ee11 ww12 => ∃ (count10 : Int), ee11 = .returned (.int .i64 count10) ∧
  c2.elim False fun a13 =>
  canStore ww12 ((a13.add 1).add 0) ∧
  thenW (ww12.setCell ((a13.add 1).add 0) (.int .i64 who7)) fun ww14 =>
  c2.elim False fun a15 =>
  canStore ww14 ((a15.add 3).add 0) ∧
  thenW (ww14.setCell ((a15.add 3).add 0) (.int .i64 count10)) fun ww16 =>
  R (.tuple #[]) ww16

theorem members_reader_revoke.eq (rReader1 : Option Addr) (c2 : Option Addr) (R : Value → World → Prop) (w : World) : mfunc Try.prog [] 70 [.agg #[.pointer rReader1], .pointer c2] R w = members_reader_revoke.M rReader1 c2 R w := by kernel_rfl
theorem members_reader_revoke.ok (rReader1 : Option Addr) (c2 : Option Addr) {R : Value → World → Prop} {w : World} (h : members_reader_revoke.M rReader1 c2 R w) : Calls Try.prog 70 #[.agg #[.pointer rReader1], .pointer c2] w fun e w' => ∃ v, e = .returned v ∧ R v w' :=
  mfunc_ok follows (H := []) (args := [.agg #[.pointer rReader1], .pointer c2]) (by rw [members_reader_revoke.eq]; exact h)

def members_reader_revoke.N (rReader1 : Option Addr) (c2 : Option Addr) (R : Value → World → Prop) (w : World) : Prop :=
  ∀ (ww4 : World) (p5 : Nat), Ext no w ww4 → Priv w ww4 [p5] →
  Calls Try.prog 78 #[.agg #[.pointer rReader1]] ww4 fun ee7 ww8 => ∃ (who6 : Int), ee7 = .returned (.int .i64 who6) ∧
  Keep [p5] ww4 ww8 ∧
  Calls Try.prog 47 #[.pointer rReader1, .int .i64 200] ww8 fun ee10 ww11 => ∃ (count9 : Int), ee10 = .returned (.int .i64 count9) ∧
  ∃ a12 : Addr, c2 = some a12 ∧
  canStore ww11 ((a12.add 1).add 0) ∧
  thenW (ww11.setCell ((a12.add 1).add 0) (.int .i64 who6)) fun ww13 =>
  canStore ww13 ((a12.add 3).add 0) ∧
  thenW (ww13.setCell ((a12.add 3).add 0) (.int .i64 count9)) fun ww14 =>
  R (.tuple #[]) ww14

theorem members_reader_revoke.up (rReader1 : Option Addr) (c2 : Option Addr) {R : Value → World → Prop} {w : World} (h : members_reader_revoke.N rReader1 c2 R w) : members_reader_revoke.M rReader1 c2 R w := by
  unfold members_reader_revoke.M
  unfold members_reader_revoke.N at h
  refine thenW_in fun ww3 e3 => ?_
  have hb1 := Blk.of_new e3
  have hg1 := ((Ext.refl no w)).size
  have hx3 := (Ext.refl no w).x_alloc e3
  refine thenW_in fun ww4 e4 => ?_
  have hx4 := hx3.x_drew e4
  have hb1 := hb1.x_drew e4
  refine ⟨rReader1, ⟨hb1.celli 0 rfl rfl, trivial⟩, ?_⟩
  refine ⟨rReader1, hb1.celli 0 rfl rfl, ?_⟩
  have h := h ww4 (w.heap.size) hx4 (Priv.cons hg1 hb1.lt Priv.nil)
  refine h.mono fun ee7 ww8 h => ?_
  obtain ⟨who6, he, hk, h⟩ := h
  refine ⟨who6, he, ?_⟩
  have hb1 := hk.blk hb1 (by simp)
  refine ⟨hb1.celli 0 rfl rfl, ?_⟩
  refine h.mono fun ee10 ww11 h => ?_
  obtain ⟨count9, he, h⟩ := h
  refine ⟨count9, he, ?_⟩
  obtain ⟨a12, ha12, h⟩ := h
  refine elim_some ha12 ?_
  obtain ⟨hcs, h⟩ := h
  refine ⟨hcs, thenW_in fun ww13 e13 => ?_⟩
  replace h := thenW_out h e13
  refine elim_some ha12 ?_
  obtain ⟨hcs, h⟩ := h
  refine ⟨hcs, thenW_in fun ww14 e14 => ?_⟩
  replace h := thenW_out h e14
  exact h

theorem members_reader_revoke.go (rReader1 : Option Addr) (c2 : Option Addr) {R : Value → World → Prop} {w : World} (h : members_reader_revoke.N rReader1 c2 R w) : Calls Try.prog 70 #[.agg #[.pointer rReader1], .pointer c2] w fun e w' => ∃ v, e = .returned v ∧ R v w' := members_reader_revoke.ok rReader1 c2 (members_reader_revoke.up rReader1 c2 h)
theorem members_reader_revoke.run (rReader1 : Option Addr) (c2 : Option Addr) {V : Value} {Q : World → Prop} {w : World} (h : members_reader_revoke.N rReader1 c2 (fun v w' => v = V ∧ Q w') w) : Calls Try.prog 70 #[.agg #[.pointer rReader1], .pointer c2] w (Ret V Q) := (members_reader_revoke.go rReader1 c2 h).mono fun e w' ⟨v, he, hv, hq⟩ => ⟨by rw [he, hv], hq⟩

/-- (members.reader).epoch -/
def members_reader_epoch.M (rReader1 : Option Addr) (c2 : Option Addr) (R : Value → World → Prop) (w : World) : Prop :=
  thenW (w.alloc (.cells #[.pointer rReader1] 98)) fun ww3 =>
  ∃ (Reader4 : Option Addr), ww3.cell? ((blk w.heap.size).add 0) = some (.pointer Reader4) ∧
  Calls Try.prog 47 #[.pointer Reader4, .int .i64 8] ww3 fun ee6 ww7 => ∃ (count5 : Int), ee6 = .returned (.int .i64 count5) ∧
  ∃ (I0 : Nat → List Value → World → Prop) (m9 : Nat), I0 m9 [.int .i64 0] ww7 ∧ ∀ (m10 : Nat) (ww11 : World) (t8 : Int), I0 m10 [.int .i64 t8] ww11 →
  bif decide (t8 < count5) then (
  thenW (ww11.drew) fun ww12 =>
  c2.elim False fun a13 =>
  ∃ (Wraps14a : Option Addr) (Wraps14n : Nat) (Wraps14c : Nat), ww12.cell? (a13.add 4) = some (.slice Wraps14a Wraps14n Wraps14c) ∧
  ∃ (xReader15 : Option Addr), cellsAt ww12 (blk w.heap.size) [.pointer xReader15] 0 ∧
  ∃ (Reader16 : Option Addr), ww12.cell? ((blk w.heap.size).add 0) = some (.pointer Reader16) ∧
  Calls Try.prog 78 #[.agg #[.pointer xReader15]] ww12 fun ee18 ww19 => ∃ (who17 : Int), ee18 = .returned (.int .i64 who17) ∧
  ww19.cell? ((blk w.heap.size).add 0) = some (.pointer Reader16) ∧
  ww19.cell? (a13.add 4) = some (.slice Wraps14a Wraps14n Wraps14c) ∧
  Calls Try.prog 79 #[.pointer Reader16, .int .i64 16] ww19 fun ee21 ww22 => ∃ (bytes20a : Option Addr) (bytes20n : Nat) (bytes20c : Nat), ee21 = .returned (.slice bytes20a bytes20n bytes20c) ∧
  ww22.cell? (a13.add 4) = some (.slice Wraps14a Wraps14n Wraps14c) ∧
  thenW (ww22.alloc (.cells #[.int .i64 who17, .slice bytes20a bytes20n bytes20c] 85)) fun ww23 =>
  ww23.cell? (a13.add 4) = some (.slice Wraps14a Wraps14n Wraps14c) ∧
  ∃ (a24a : Option Addr) (a24n : Nat) (a24c : Nat) (ww25 : World), (Builtin.append_ #[33, 33] 33 #[.slice Wraps14a Wraps14n Wraps14c, .slice (some (blk ww22.heap.size)) 1 1]).run Try.prog ww23 = .ok (.slice a24a a24n a24c) ww25 ∧
  c2.elim False fun a26 =>
  canStore ww25 ((a26.add 4).add 0) ∧
  thenW (ww25.setCell ((a26.add 4).add 0) (.slice a24a a24n a24c)) fun ww27 =>
  ∃ m28, m28 < m10 ∧ I0 m28 [.int .i64 (IntKind.i64.wrap (t8 + 1))] ww27) else (
  ∃ (Reader29 : Option Addr), ww11.cell? ((blk w.heap.size).add 0) = some (.pointer Reader29) ∧
  Calls Try.prog 79 #[.pointer Reader29, .int .i64 24] ww11 fun ee31 ww32 => ∃ (bytes30a : Option Addr) (bytes30n : Nat) (bytes30c : Nat), ee31 = .returned (.slice bytes30a bytes30n bytes30c) ∧
  c2.elim False fun a33 =>
  canStore ww32 ((a33.add 5).add 0) ∧
  thenW (ww32.setCell ((a33.add 5).add 0) (.slice bytes30a bytes30n bytes30c)) fun ww34 =>
  R (.tuple #[]) ww34)

theorem members_reader_epoch.eq (rReader1 : Option Addr) (c2 : Option Addr) (R : Value → World → Prop) (w : World) : mfunc Try.prog [(0, [1, 2, 6], [(7, (.one (.int .i64)))])] 71 [.agg #[.pointer rReader1], .pointer c2] R w = members_reader_epoch.M rReader1 c2 R w := by kernel_rfl
theorem members_reader_epoch.ok (rReader1 : Option Addr) (c2 : Option Addr) {R : Value → World → Prop} {w : World} (h : members_reader_epoch.M rReader1 c2 R w) : Calls Try.prog 71 #[.agg #[.pointer rReader1], .pointer c2] w fun e w' => ∃ v, e = .returned v ∧ R v w' :=
  mfunc_ok follows (H := [(0, [1, 2, 6], [(7, (.one (.int .i64)))])]) (args := [.agg #[.pointer rReader1], .pointer c2]) (by rw [members_reader_epoch.eq]; exact h)

def members_reader_epoch.N (rReader1 : Option Addr) (c2 : Option Addr) (R : Value → World → Prop) (w : World) : Prop :=
  ∀ (ww3 : World) (p4 : Nat), Ext no w ww3 → Priv w ww3 [p4] →
  Calls Try.prog 47 #[.pointer rReader1, .int .i64 8] ww3 fun ee6 ww7 => ∃ (count5 : Int), ee6 = .returned (.int .i64 count5) ∧
  Keep [p4] ww3 ww7 ∧
  ∃ (I0 : Nat → List Value → World → Prop) (m9 : Nat), I0 m9 [.int .i64 0] ww7 ∧ ∀ (m10 : Nat) (ww11 : World) (t8 : Int), I0 m10 [.int .i64 t8] ww11 →
  (t8 < count5 →
    ∃ a14 : Addr, c2 = some a14 ∧
    ∃ (Wraps16a : Option Addr) (Wraps16n : Nat) (Wraps16c : Nat), ww11.cell? (a14.add 4) = some (.slice Wraps16a Wraps16n Wraps16c) ∧
    ∀ (ww13 : World), Ext no ww11 ww13 →
    Calls Try.prog 78 #[.agg #[.pointer rReader1]] ww13 fun ee18 ww19 => ∃ (who17 : Int), ee18 = .returned (.int .i64 who17) ∧
    Keep [p4] ww13 ww19 ∧
    ww19.cell? (a14.add 4) = some (.slice Wraps16a Wraps16n Wraps16c) ∧
    Calls Try.prog 79 #[.pointer rReader1, .int .i64 16] ww19 fun ee22 ww23 => ∃ (bytes21a : Option Addr) (bytes21n : Nat) (bytes21c : Nat), ee22 = .returned (.slice bytes21a bytes21n bytes21c) ∧
    Keep [p4] ww19 ww23 ∧
    ww23.cell? (a14.add 4) = some (.slice Wraps16a Wraps16n Wraps16c) ∧
    ∀ (ww25 : World) (q26 : Nat), Ext no ww23 ww25 → Blk ww25 q26 85 [.int .i64 who17, .slice bytes21a bytes21n bytes21c] → ww23.heap.size ≤ q26 → q26 < ww25.heap.size →
    ww25.cell? (a14.add 4) = some (.slice Wraps16a Wraps16n Wraps16c) ∧
    ∃ (a28a : Option Addr) (a28n : Nat) (a28c : Nat) (ww29 : World), (Builtin.append_ #[33, 33] 33 #[.slice Wraps16a Wraps16n Wraps16c, .slice (some (blk q26)) 1 1]).run Try.prog ww25 = .ok (.slice a28a a28n a28c) ww29 ∧
    Keep [p4] ww25 ww29 ∧
    canStore ww29 ((a14.add 4).add 0) ∧
    (∀ p ∈ [p4], p ≠ Addr.block (a14.add 4)) ∧
    thenW (ww29.setCell ((a14.add 4).add 0) (.slice a28a a28n a28c)) fun ww30 =>
    (-9223372036854775808 : Int) ≤ (t8 + 1) ∧ (t8 + 1) < 9223372036854775808 ∧
    ∃ m31, m31 < m10 ∧ I0 m31 [.int .i64 (t8 + 1)] ww30) ∧
  (count5 ≤ t8 →
    Calls Try.prog 79 #[.pointer rReader1, .int .i64 24] ww11 fun ee33 ww34 => ∃ (bytes32a : Option Addr) (bytes32n : Nat) (bytes32c : Nat), ee33 = .returned (.slice bytes32a bytes32n bytes32c) ∧
    ∃ a35 : Addr, c2 = some a35 ∧
    canStore ww34 ((a35.add 5).add 0) ∧
    thenW (ww34.setCell ((a35.add 5).add 0) (.slice bytes32a bytes32n bytes32c)) fun ww36 =>
    R (.tuple #[]) ww36)

theorem members_reader_epoch.up (rReader1 : Option Addr) (c2 : Option Addr) {R : Value → World → Prop} {w : World} (h : members_reader_epoch.N rReader1 c2 R w) : members_reader_epoch.M rReader1 c2 R w := by
  unfold members_reader_epoch.M
  unfold members_reader_epoch.N at h
  refine thenW_in fun ww3 e3 => ?_
  have hb1 := Blk.of_new e3
  have hg1 := ((Ext.refl no w)).size
  have hx3 := (Ext.refl no w).x_alloc e3
  refine ⟨rReader1, hb1.celli 0 rfl rfl, ?_⟩
  have h := h ww3 (w.heap.size) hx3 (Priv.cons hg1 hb1.lt Priv.nil)
  refine h.mono fun ee6 ww7 h => ?_
  obtain ⟨count5, he, hk, h⟩ := h
  refine ⟨count5, he, ?_⟩
  have hb1 := hk.blk hb1 (by simp)
  obtain ⟨I0, m9, h0, h⟩ := h
  refine ⟨fun k vs ww => Blk ww w.heap.size 98 [.pointer rReader1] ∧ I0 k vs ww, m9, ⟨hb1, h0⟩, fun m10 ww11 t8 hI => ?_⟩
  obtain ⟨hb1, hI⟩ := hI
  have h := h m10 ww11 t8 hI
  refine bif_of (fun c12 => ?_) (fun c12 => ?_)
  · have h := h.1 (of_decide_eq_true c12)
    refine thenW_in fun ww13 e13 => ?_
    have hx13 := (Ext.refl no ww11).x_drew e13
    have hb1 := hb1.x_drew e13
    obtain ⟨a14, ha14, h⟩ := h
    refine elim_some ha14 ?_
    obtain ⟨Wraps16a, Wraps16n, Wraps16c, hc15, h⟩ := h
    refine ⟨Wraps16a, Wraps16n, Wraps16c, (hx13).cell hc15 id, ?_⟩
    refine ⟨rReader1, ⟨hb1.celli 0 rfl rfl, trivial⟩, ?_⟩
    refine ⟨rReader1, hb1.celli 0 rfl rfl, ?_⟩
    have h := h ww13 hx13
    refine h.mono fun ee18 ww19 h => ?_
    obtain ⟨who17, he, hk, h⟩ := h
    refine ⟨who17, he, ?_⟩
    have hb1 := hk.blk hb1 (by simp)
    obtain ⟨ho20, h⟩ := h
    refine ⟨hb1.celli 0 rfl rfl, ho20, ?_⟩
    refine h.mono fun ee22 ww23 h => ?_
    obtain ⟨bytes21a, bytes21n, bytes21c, he, hk, h⟩ := h
    refine ⟨bytes21a, bytes21n, bytes21c, he, ?_⟩
    have hb1 := hk.blk hb1 (by simp)
    obtain ⟨ho24, h⟩ := h
    refine ⟨ho24, ?_⟩
    refine thenW_in fun ww25 e25 => ?_
    have hb1 := hb1.x_alloc e25
    have h := h ww25 ww23.heap.size ((Ext.refl no ww23).x_alloc e25) (Blk.of_new e25) ((Ext.refl no ww23)).size (size_lt_alloc e25)
    obtain ⟨ho27, h⟩ := h
    refine ⟨ho27, ?_⟩
    obtain ⟨a28a, a28n, a28c, ww29, hr, hk, h⟩ := h
    refine ⟨a28a, a28n, a28c, ww29, hr, ?_⟩
    have hb1 := hk.blk hb1 (by simp)
    refine elim_some ha14 ?_
    obtain ⟨hcs, hof, h⟩ := h
    refine ⟨hcs, thenW_in fun ww30 e30 => ?_⟩
    replace h := thenW_out h e30
    have hb1 := hb1.off (by rw [block_add]; exact hof _ (by simp)) e30
    obtain ⟨hw1, hw2, h⟩ := h
    try rw [w64 hw1 hw2]
    obtain ⟨m31, hk, h⟩ := h
    exact ⟨m31, hk, hb1, h⟩
  · have h := h.2 (Int.not_lt.1 (of_decide_eq_false c12))
    refine ⟨rReader1, hb1.celli 0 rfl rfl, ?_⟩
    refine h.mono fun ee33 ww34 h => ?_
    obtain ⟨bytes32a, bytes32n, bytes32c, he, h⟩ := h
    refine ⟨bytes32a, bytes32n, bytes32c, he, ?_⟩
    obtain ⟨a35, ha35, h⟩ := h
    refine elim_some ha35 ?_
    obtain ⟨hcs, h⟩ := h
    refine ⟨hcs, thenW_in fun ww36 e36 => ?_⟩
    replace h := thenW_out h e36
    exact h

theorem members_reader_epoch.go (rReader1 : Option Addr) (c2 : Option Addr) {R : Value → World → Prop} {w : World} (h : members_reader_epoch.N rReader1 c2 R w) : Calls Try.prog 71 #[.agg #[.pointer rReader1], .pointer c2] w fun e w' => ∃ v, e = .returned v ∧ R v w' := members_reader_epoch.ok rReader1 c2 (members_reader_epoch.up rReader1 c2 h)
theorem members_reader_epoch.run (rReader1 : Option Addr) (c2 : Option Addr) {V : Value} {Q : World → Prop} {w : World} (h : members_reader_epoch.N rReader1 c2 (fun v w' => v = V ∧ Q w') w) : Calls Try.prog 71 #[.agg #[.pointer rReader1], .pointer c2] w (Ret V Q) := (members_reader_epoch.go rReader1 c2 h).mono fun e w' ⟨v, he, hv, hq⟩ => ⟨by rw [he, hv], hq⟩

/-- (members.reader).kind -/
def members_reader_kind.M (rReader1 : Option Addr) (n2 : Int) (R : Value → World → Prop) (w : World) : Prop :=
  thenW (w.alloc (.cells #[.pointer rReader1] 98)) fun ww3 =>
  bif n2 == 1 then (
  ∃ (xReader4 : Option Addr), cellsAt ww3 (blk w.heap.size) [.pointer xReader4] 0 ∧
  R (.func (.func 69) (#[.agg #[.pointer xReader4]]) #[]) ww3) else (
  bif n2 == 2 then (
  ∃ (xReader5 : Option Addr), cellsAt ww3 (blk w.heap.size) [.pointer xReader5] 0 ∧
  R (.func (.func 70) (#[.agg #[.pointer xReader5]]) #[]) ww3) else (
  bif n2 == 3 then (
  ∃ (xReader6 : Option Addr), cellsAt ww3 (blk w.heap.size) [.pointer xReader6] 0 ∧
  R (.func (.func 71) (#[.agg #[.pointer xReader6]]) #[]) ww3) else (
  R (.func (.func 72) #[] #[]) ww3)))

theorem members_reader_kind.eq (rReader1 : Option Addr) (n2 : Int) (R : Value → World → Prop) (w : World) : mfunc Try.prog [] 48 [.agg #[.pointer rReader1], .int .i64 n2] R w = members_reader_kind.M rReader1 n2 R w := by kernel_rfl
theorem members_reader_kind.ok (rReader1 : Option Addr) (n2 : Int) {R : Value → World → Prop} {w : World} (h : members_reader_kind.M rReader1 n2 R w) : Calls Try.prog 48 #[.agg #[.pointer rReader1], .int .i64 n2] w fun e w' => ∃ v, e = .returned v ∧ R v w' :=
  mfunc_ok follows (H := []) (args := [.agg #[.pointer rReader1], .int .i64 n2]) (by rw [members_reader_kind.eq]; exact h)

def members_reader_kind.N (rReader1 : Option Addr) (n2 : Int) (R : Value → World → Prop) (w : World) : Prop :=
  (n2 = 1 →
    ∀ (ww3 : World), Ext no w ww3 →
    R (.func (.func 69) (#[.agg #[.pointer rReader1]]) #[]) ww3) ∧
  (n2 ≠ 1 →
    (n2 = 2 →
      ∀ (ww3 : World), Ext no w ww3 →
      R (.func (.func 70) (#[.agg #[.pointer rReader1]]) #[]) ww3) ∧
    (n2 ≠ 2 →
      (n2 = 3 →
        ∀ (ww3 : World), Ext no w ww3 →
        R (.func (.func 71) (#[.agg #[.pointer rReader1]]) #[]) ww3) ∧
      (n2 ≠ 3 →
        ∀ (ww3 : World), Ext no w ww3 →
        R (.func (.func 72) #[] #[]) ww3)))

theorem members_reader_kind.up (rReader1 : Option Addr) (n2 : Int) {R : Value → World → Prop} {w : World} (h : members_reader_kind.N rReader1 n2 R w) : members_reader_kind.M rReader1 n2 R w := by
  unfold members_reader_kind.M
  unfold members_reader_kind.N at h
  refine thenW_in fun ww3 e3 => ?_
  have hb1 := Blk.of_new e3
  have hg1 := ((Ext.refl no w)).size
  have hx3 := (Ext.refl no w).x_alloc e3
  refine bif_of (fun c4 => ?_) (fun c4 => ?_)
  · have h := h.1 (beq_t c4)
    refine ⟨rReader1, ⟨hb1.celli 0 rfl rfl, trivial⟩, ?_⟩
    have h := h ww3 hx3
    exact h
  · have h := h.2 (beq_f c4)
    refine bif_of (fun c6 => ?_) (fun c6 => ?_)
    · have h := h.1 (beq_t c6)
      refine ⟨rReader1, ⟨hb1.celli 0 rfl rfl, trivial⟩, ?_⟩
      have h := h ww3 hx3
      exact h
    · have h := h.2 (beq_f c6)
      refine bif_of (fun c8 => ?_) (fun c8 => ?_)
      · have h := h.1 (beq_t c8)
        refine ⟨rReader1, ⟨hb1.celli 0 rfl rfl, trivial⟩, ?_⟩
        have h := h ww3 hx3
        exact h
      · have h := h.2 (beq_f c8)
        have h := h ww3 hx3
        exact h

theorem members_reader_kind.go (rReader1 : Option Addr) (n2 : Int) {R : Value → World → Prop} {w : World} (h : members_reader_kind.N rReader1 n2 R w) : Calls Try.prog 48 #[.agg #[.pointer rReader1], .int .i64 n2] w fun e w' => ∃ v, e = .returned v ∧ R v w' := members_reader_kind.ok rReader1 n2 (members_reader_kind.up rReader1 n2 h)
theorem members_reader_kind.run (rReader1 : Option Addr) (n2 : Int) {V : Value} {Q : World → Prop} {w : World} (h : members_reader_kind.N rReader1 n2 (fun v w' => v = V ∧ Q w') w) : Calls Try.prog 48 #[.agg #[.pointer rReader1], .int .i64 n2] w (Ret V Q) := (members_reader_kind.go rReader1 n2 h).mono fun e w' ⟨v, he, hv, hq⟩ => ⟨by rw [he, hv], hq⟩

/-- (members.reader).kind$1 -/
def members_reader_kind_1.M (p1 : Option Addr) (R : Value → World → Prop) (w : World) : Prop :=
  R (.tuple #[]) w

theorem members_reader_kind_1.eq (p1 : Option Addr) (R : Value → World → Prop) (w : World) : mfunc Try.prog [] 72 [.pointer p1] R w = members_reader_kind_1.M p1 R w := by kernel_rfl
theorem members_reader_kind_1.ok (p1 : Option Addr) {R : Value → World → Prop} {w : World} (h : members_reader_kind_1.M p1 R w) : Calls Try.prog 72 #[.pointer p1] w fun e w' => ∃ v, e = .returned v ∧ R v w' :=
  mfunc_ok follows (H := []) (args := [.pointer p1]) (by rw [members_reader_kind_1.eq]; exact h)

def members_reader_kind_1.N (p1 : Option Addr) (R : Value → World → Prop) (w : World) : Prop :=
  R (.tuple #[]) w

theorem members_reader_kind_1.up (p1 : Option Addr) {R : Value → World → Prop} {w : World} (h : members_reader_kind_1.N p1 R w) : members_reader_kind_1.M p1 R w := by
  unfold members_reader_kind_1.M
  unfold members_reader_kind_1.N at h
  exact h

theorem members_reader_kind_1.go (p1 : Option Addr) {R : Value → World → Prop} {w : World} (h : members_reader_kind_1.N p1 R w) : Calls Try.prog 72 #[.pointer p1] w fun e w' => ∃ v, e = .returned v ∧ R v w' := members_reader_kind_1.ok p1 (members_reader_kind_1.up p1 h)
theorem members_reader_kind_1.run (p1 : Option Addr) {V : Value} {Q : World → Prop} {w : World} (h : members_reader_kind_1.N p1 (fun v w' => v = V ∧ Q w') w) : Calls Try.prog 72 #[.pointer p1] w (Ret V Q) := (members_reader_kind_1.go p1 h).mono fun e w' ⟨v, he, hv, hq⟩ => ⟨by rw [he, hv], hq⟩

/-- members.Read -/
def members_Read.M (b1a : Option Addr) (b1n : Nat) (b1c : Nat) (R : Value → World → Prop) (w : World) : Prop :=
  thenW (w.alloc (.cells #[.int .i64 0, .int .i64 0, .int .u64 0, .int .i64 0, .slice none 0 0, .slice none 0 0] 36)) fun ww2 =>
  Calls Try.prog 46 #[.slice b1a b1n b1c] ww2 fun ee4 ww5 => ∃ (read3 : Option Addr), ee4 = .returned (.pointer read3) ∧
  thenW (ww5.alloc (.cells #[.pointer none] 98)) fun ww6 =>
  canStore ww6 ((blk ww5.heap.size).add 0) ∧
  thenW (ww6.setCell ((blk ww5.heap.size).add 0) (.pointer read3)) fun ww7 =>
  ∃ (Reader8 : Option Addr), ww7.cell? ((blk ww5.heap.size).add 0) = some (.pointer Reader8) ∧
  Calls Try.prog 47 #[.pointer Reader8, .int .i64 3] ww7 fun ee10 ww11 => ∃ (count9 : Int), ee10 = .returned (.int .i64 count9) ∧
  canStore ww11 (((blk w.heap.size).add 0).add 0) ∧
  thenW (ww11.setCell (((blk w.heap.size).add 0).add 0) (.int .i64 count9)) fun ww12 =>
  ∃ (xReader13 : Option Addr), cellsAt ww12 (blk ww5.heap.size) [.pointer xReader13] 0 ∧
  ∃ (Kind14 : Int), ww12.cell? ((blk w.heap.size).add 0) = some (.int .i64 Kind14) ∧
  Calls Try.prog 48 #[.agg #[.pointer xReader13], .int .i64 Kind14] ww12 fun ee16 ww17 => ∃ (kind15k : Nat) (kind15f : Array Value) (kind15g : Array Value), ee16 = .returned (.func (.func kind15k) kind15f kind15g) ∧
  bif enters Try.prog kind15k then Calls Try.prog kind15k (kind15f.toList ++ ([.pointer (some (blk w.heap.size))] : List Value) ++ kind15g.toList).toArray ww17 (fun ee18 ww19 => ee18 = .returned (.tuple #[]) ∧
  ∃ (Reader21 : Option Addr), ww19.cell? ((blk ww5.heap.size).add 0) = some (.pointer Reader21) ∧
  Calls Try.prog 49 #[.pointer Reader21] ww19 fun ee23 ww24 => ∃ (done22 : Int), ee23 = .returned (.int .i64 done22) ∧
  bif done22 != 0 then (
  canStore ww24 ((blk w.heap.size).add 0) ∧
  thenW (ww24.setCell ((blk w.heap.size).add 0) (.int .i64 0)) fun ww25 =>
  canStore ww25 ((blk w.heap.size).add 1) ∧
  thenW (ww25.setCell ((blk w.heap.size).add 1) (.int .i64 0)) fun ww26 =>
  canStore ww26 ((blk w.heap.size).add 2) ∧
  thenW (ww26.setCell ((blk w.heap.size).add 2) (.int .u64 0)) fun ww27 =>
  canStore ww27 ((blk w.heap.size).add 3) ∧
  thenW (ww27.setCell ((blk w.heap.size).add 3) (.int .i64 0)) fun ww28 =>
  canStore ww28 ((blk w.heap.size).add 4) ∧
  thenW (ww28.setCell ((blk w.heap.size).add 4) (.slice none 0 0)) fun ww29 =>
  canStore ww29 ((blk w.heap.size).add 5) ∧
  thenW (ww29.setCell ((blk w.heap.size).add 5) (.slice none 0 0)) fun ww30 =>
  ∃ (resKind31 : Int) (resWho32 : Int) (resPublic33 : Int) (resLimit34 : Int) (resWraps35a : Option Addr) (resWraps35n : Nat) (resWraps35c : Nat) (resOld36a : Option Addr) (resOld36n : Nat) (resOld36c : Nat), cellsAt ww30 (blk w.heap.size) [.int .i64 resKind31, .int .i64 resWho32, .int .u64 resPublic33, .int .i64 resLimit34, .slice resWraps35a resWraps35n resWraps35c, .slice resOld36a resOld36n resOld36c] 0 ∧
  R (.tuple #[.agg #[.int .i64 resKind31, .int .i64 resWho32, .int .u64 resPublic33, .int .i64 resLimit34, .slice resWraps35a resWraps35n resWraps35c, .slice resOld36a resOld36n resOld36c], .int .i64 done22]) ww30) else (
  ∃ (xKind37 : Int) (xWho38 : Int) (xPublic39 : Int) (xLimit40 : Int) (xWraps41a : Option Addr) (xWraps41n : Nat) (xWraps41c : Nat) (xOld42a : Option Addr) (xOld42n : Nat) (xOld42c : Nat), cellsAt ww24 (blk w.heap.size) [.int .i64 xKind37, .int .i64 xWho38, .int .u64 xPublic39, .int .i64 xLimit40, .slice xWraps41a xWraps41n xWraps41c, .slice xOld42a xOld42n xOld42c] 0 ∧
  Calls Try.prog 31 #[.agg #[.int .i64 xKind37, .int .i64 xWho38, .int .u64 xPublic39, .int .i64 xLimit40, .slice xWraps41a xWraps41n xWraps41c, .slice xOld42a xOld42n xOld42c]] ww24 fun ee44 ww45 => ∃ (right43 : Bool), ee44 = .returned (.bool right43) ∧
  bif !right43 then (
  canStore ww45 ((blk w.heap.size).add 0) ∧
  thenW (ww45.setCell ((blk w.heap.size).add 0) (.int .i64 0)) fun ww46 =>
  canStore ww46 ((blk w.heap.size).add 1) ∧
  thenW (ww46.setCell ((blk w.heap.size).add 1) (.int .i64 0)) fun ww47 =>
  canStore ww47 ((blk w.heap.size).add 2) ∧
  thenW (ww47.setCell ((blk w.heap.size).add 2) (.int .u64 0)) fun ww48 =>
  canStore ww48 ((blk w.heap.size).add 3) ∧
  thenW (ww48.setCell ((blk w.heap.size).add 3) (.int .i64 0)) fun ww49 =>
  canStore ww49 ((blk w.heap.size).add 4) ∧
  thenW (ww49.setCell ((blk w.heap.size).add 4) (.slice none 0 0)) fun ww50 =>
  canStore ww50 ((blk w.heap.size).add 5) ∧
  thenW (ww50.setCell ((blk w.heap.size).add 5) (.slice none 0 0)) fun ww51 =>
  ∃ (resKind52 : Int) (resWho53 : Int) (resPublic54 : Int) (resLimit55 : Int) (resWraps56a : Option Addr) (resWraps56n : Nat) (resWraps56c : Nat) (resOld57a : Option Addr) (resOld57n : Nat) (resOld57c : Nat), cellsAt ww51 (blk w.heap.size) [.int .i64 resKind52, .int .i64 resWho53, .int .u64 resPublic54, .int .i64 resLimit55, .slice resWraps56a resWraps56n resWraps56c, .slice resOld57a resOld57n resOld57c] 0 ∧
  R (.tuple #[.agg #[.int .i64 resKind52, .int .i64 resWho53, .int .u64 resPublic54, .int .i64 resLimit55, .slice resWraps56a resWraps56n resWraps56c, .slice resOld57a resOld57n resOld57c], .int .i64 4]) ww51) else (
  ∃ (xKind58 : Int) (xWho59 : Int) (xPublic60 : Int) (xLimit61 : Int) (xWraps62a : Option Addr) (xWraps62n : Nat) (xWraps62c : Nat) (xOld63a : Option Addr) (xOld63n : Nat) (xOld63c : Nat), cellsAt ww45 (blk w.heap.size) [.int .i64 xKind58, .int .i64 xWho59, .int .u64 xPublic60, .int .i64 xLimit61, .slice xWraps62a xWraps62n xWraps62c, .slice xOld63a xOld63n xOld63c] 0 ∧
  canStore ww45 ((blk w.heap.size).add 0) ∧
  thenW (ww45.setCell ((blk w.heap.size).add 0) (.int .i64 xKind58)) fun ww64 =>
  canStore ww64 ((blk w.heap.size).add 1) ∧
  thenW (ww64.setCell ((blk w.heap.size).add 1) (.int .i64 xWho59)) fun ww65 =>
  canStore ww65 ((blk w.heap.size).add 2) ∧
  thenW (ww65.setCell ((blk w.heap.size).add 2) (.int .u64 xPublic60)) fun ww66 =>
  canStore ww66 ((blk w.heap.size).add 3) ∧
  thenW (ww66.setCell ((blk w.heap.size).add 3) (.int .i64 xLimit61)) fun ww67 =>
  canStore ww67 ((blk w.heap.size).add 4) ∧
  thenW (ww67.setCell ((blk w.heap.size).add 4) (.slice xWraps62a xWraps62n xWraps62c)) fun ww68 =>
  canStore ww68 ((blk w.heap.size).add 5) ∧
  thenW (ww68.setCell ((blk w.heap.size).add 5) (.slice xOld63a xOld63n xOld63c)) fun ww69 =>
  ∃ (resKind70 : Int) (resWho71 : Int) (resPublic72 : Int) (resLimit73 : Int) (resWraps74a : Option Addr) (resWraps74n : Nat) (resWraps74c : Nat) (resOld75a : Option Addr) (resOld75n : Nat) (resOld75c : Nat), cellsAt ww69 (blk w.heap.size) [.int .i64 resKind70, .int .i64 resWho71, .int .u64 resPublic72, .int .i64 resLimit73, .slice resWraps74a resWraps74n resWraps74c, .slice resOld75a resOld75n resOld75c] 0 ∧
  R (.tuple #[.agg #[.int .i64 resKind70, .int .i64 resWho71, .int .u64 resPublic72, .int .i64 resLimit73, .slice resWraps74a resWraps74n resWraps74c, .slice resOld75a resOld75n resOld75c], .int .i64 0]) ww69))) else (∃ (ww20 : World), (externCall kind15k (kind15f.toList ++ ([.pointer (some (blk w.heap.size))] : List Value) ++ kind15g.toList).toArray).run Try.prog ww17 = .ok (.tuple #[]) ww20 ∧
  ∃ (Reader76 : Option Addr), ww20.cell? ((blk ww5.heap.size).add 0) = some (.pointer Reader76) ∧
  Calls Try.prog 49 #[.pointer Reader76] ww20 fun ee78 ww79 => ∃ (done77 : Int), ee78 = .returned (.int .i64 done77) ∧
  bif done77 != 0 then (
  canStore ww79 ((blk w.heap.size).add 0) ∧
  thenW (ww79.setCell ((blk w.heap.size).add 0) (.int .i64 0)) fun ww80 =>
  canStore ww80 ((blk w.heap.size).add 1) ∧
  thenW (ww80.setCell ((blk w.heap.size).add 1) (.int .i64 0)) fun ww81 =>
  canStore ww81 ((blk w.heap.size).add 2) ∧
  thenW (ww81.setCell ((blk w.heap.size).add 2) (.int .u64 0)) fun ww82 =>
  canStore ww82 ((blk w.heap.size).add 3) ∧
  thenW (ww82.setCell ((blk w.heap.size).add 3) (.int .i64 0)) fun ww83 =>
  canStore ww83 ((blk w.heap.size).add 4) ∧
  thenW (ww83.setCell ((blk w.heap.size).add 4) (.slice none 0 0)) fun ww84 =>
  canStore ww84 ((blk w.heap.size).add 5) ∧
  thenW (ww84.setCell ((blk w.heap.size).add 5) (.slice none 0 0)) fun ww85 =>
  ∃ (resKind86 : Int) (resWho87 : Int) (resPublic88 : Int) (resLimit89 : Int) (resWraps90a : Option Addr) (resWraps90n : Nat) (resWraps90c : Nat) (resOld91a : Option Addr) (resOld91n : Nat) (resOld91c : Nat), cellsAt ww85 (blk w.heap.size) [.int .i64 resKind86, .int .i64 resWho87, .int .u64 resPublic88, .int .i64 resLimit89, .slice resWraps90a resWraps90n resWraps90c, .slice resOld91a resOld91n resOld91c] 0 ∧
  R (.tuple #[.agg #[.int .i64 resKind86, .int .i64 resWho87, .int .u64 resPublic88, .int .i64 resLimit89, .slice resWraps90a resWraps90n resWraps90c, .slice resOld91a resOld91n resOld91c], .int .i64 done77]) ww85) else (
  ∃ (xKind92 : Int) (xWho93 : Int) (xPublic94 : Int) (xLimit95 : Int) (xWraps96a : Option Addr) (xWraps96n : Nat) (xWraps96c : Nat) (xOld97a : Option Addr) (xOld97n : Nat) (xOld97c : Nat), cellsAt ww79 (blk w.heap.size) [.int .i64 xKind92, .int .i64 xWho93, .int .u64 xPublic94, .int .i64 xLimit95, .slice xWraps96a xWraps96n xWraps96c, .slice xOld97a xOld97n xOld97c] 0 ∧
  Calls Try.prog 31 #[.agg #[.int .i64 xKind92, .int .i64 xWho93, .int .u64 xPublic94, .int .i64 xLimit95, .slice xWraps96a xWraps96n xWraps96c, .slice xOld97a xOld97n xOld97c]] ww79 fun ee99 ww100 => ∃ (right98 : Bool), ee99 = .returned (.bool right98) ∧
  bif !right98 then (
  canStore ww100 ((blk w.heap.size).add 0) ∧
  thenW (ww100.setCell ((blk w.heap.size).add 0) (.int .i64 0)) fun ww101 =>
  canStore ww101 ((blk w.heap.size).add 1) ∧
  thenW (ww101.setCell ((blk w.heap.size).add 1) (.int .i64 0)) fun ww102 =>
  canStore ww102 ((blk w.heap.size).add 2) ∧
  thenW (ww102.setCell ((blk w.heap.size).add 2) (.int .u64 0)) fun ww103 =>
  canStore ww103 ((blk w.heap.size).add 3) ∧
  thenW (ww103.setCell ((blk w.heap.size).add 3) (.int .i64 0)) fun ww104 =>
  canStore ww104 ((blk w.heap.size).add 4) ∧
  thenW (ww104.setCell ((blk w.heap.size).add 4) (.slice none 0 0)) fun ww105 =>
  canStore ww105 ((blk w.heap.size).add 5) ∧
  thenW (ww105.setCell ((blk w.heap.size).add 5) (.slice none 0 0)) fun ww106 =>
  ∃ (resKind107 : Int) (resWho108 : Int) (resPublic109 : Int) (resLimit110 : Int) (resWraps111a : Option Addr) (resWraps111n : Nat) (resWraps111c : Nat) (resOld112a : Option Addr) (resOld112n : Nat) (resOld112c : Nat), cellsAt ww106 (blk w.heap.size) [.int .i64 resKind107, .int .i64 resWho108, .int .u64 resPublic109, .int .i64 resLimit110, .slice resWraps111a resWraps111n resWraps111c, .slice resOld112a resOld112n resOld112c] 0 ∧
  R (.tuple #[.agg #[.int .i64 resKind107, .int .i64 resWho108, .int .u64 resPublic109, .int .i64 resLimit110, .slice resWraps111a resWraps111n resWraps111c, .slice resOld112a resOld112n resOld112c], .int .i64 4]) ww106) else (
  ∃ (xKind113 : Int) (xWho114 : Int) (xPublic115 : Int) (xLimit116 : Int) (xWraps117a : Option Addr) (xWraps117n : Nat) (xWraps117c : Nat) (xOld118a : Option Addr) (xOld118n : Nat) (xOld118c : Nat), cellsAt ww100 (blk w.heap.size) [.int .i64 xKind113, .int .i64 xWho114, .int .u64 xPublic115, .int .i64 xLimit116, .slice xWraps117a xWraps117n xWraps117c, .slice xOld118a xOld118n xOld118c] 0 ∧
  canStore ww100 ((blk w.heap.size).add 0) ∧
  thenW (ww100.setCell ((blk w.heap.size).add 0) (.int .i64 xKind113)) fun ww119 =>
  canStore ww119 ((blk w.heap.size).add 1) ∧
  thenW (ww119.setCell ((blk w.heap.size).add 1) (.int .i64 xWho114)) fun ww120 =>
  canStore ww120 ((blk w.heap.size).add 2) ∧
  thenW (ww120.setCell ((blk w.heap.size).add 2) (.int .u64 xPublic115)) fun ww121 =>
  canStore ww121 ((blk w.heap.size).add 3) ∧
  thenW (ww121.setCell ((blk w.heap.size).add 3) (.int .i64 xLimit116)) fun ww122 =>
  canStore ww122 ((blk w.heap.size).add 4) ∧
  thenW (ww122.setCell ((blk w.heap.size).add 4) (.slice xWraps117a xWraps117n xWraps117c)) fun ww123 =>
  canStore ww123 ((blk w.heap.size).add 5) ∧
  thenW (ww123.setCell ((blk w.heap.size).add 5) (.slice xOld118a xOld118n xOld118c)) fun ww124 =>
  ∃ (resKind125 : Int) (resWho126 : Int) (resPublic127 : Int) (resLimit128 : Int) (resWraps129a : Option Addr) (resWraps129n : Nat) (resWraps129c : Nat) (resOld130a : Option Addr) (resOld130n : Nat) (resOld130c : Nat), cellsAt ww124 (blk w.heap.size) [.int .i64 resKind125, .int .i64 resWho126, .int .u64 resPublic127, .int .i64 resLimit128, .slice resWraps129a resWraps129n resWraps129c, .slice resOld130a resOld130n resOld130c] 0 ∧
  R (.tuple #[.agg #[.int .i64 resKind125, .int .i64 resWho126, .int .u64 resPublic127, .int .i64 resLimit128, .slice resWraps129a resWraps129n resWraps129c, .slice resOld130a resOld130n resOld130c], .int .i64 0]) ww124)))

theorem members_Read.eq (b1a : Option Addr) (b1n : Nat) (b1c : Nat) (R : Value → World → Prop) (w : World) : mfunc Try.prog [] 29 [.slice b1a b1n b1c] R w = members_Read.M b1a b1n b1c R w := by kernel_rfl
theorem members_Read.ok (b1a : Option Addr) (b1n : Nat) (b1c : Nat) {R : Value → World → Prop} {w : World} (h : members_Read.M b1a b1n b1c R w) : Calls Try.prog 29 #[.slice b1a b1n b1c] w fun e w' => ∃ v, e = .returned v ∧ R v w' :=
  mfunc_ok follows (H := []) (args := [.slice b1a b1n b1c]) (by rw [members_Read.eq]; exact h)

def members_Read.N (b1a : Option Addr) (b1n : Nat) (b1c : Nat) (R : Value → World → Prop) (w : World) : Prop :=
  ∀ (ww2 : World) (q3 : Nat), Ext no w ww2 → Blk ww2 q3 36 [.int .i64 0, .int .i64 0, .int .u64 0, .int .i64 0, .slice none 0 0, .slice none 0 0] → w.heap.size ≤ q3 → q3 < ww2.heap.size →
  Calls Try.prog 46 #[.slice b1a b1n b1c] ww2 fun ee5 ww6 => ∃ (read4 : Option Addr), ee5 = .returned (.pointer read4) ∧
  ∀ (ww8 : World) (p9 : Nat), Ext no ww6 ww8 → Priv ww6 ww8 [p9] →
  Calls Try.prog 47 #[.pointer read4, .int .i64 3] ww8 fun ee11 ww12 => ∃ (count10 : Int), ee11 = .returned (.int .i64 count10) ∧
  Keep [p9] ww8 ww12 ∧
  canStore ww12 (((blk q3).add 0).add 0) ∧
  (∀ p ∈ [p9], p ≠ Addr.block ((blk q3).add 0)) ∧
  thenW (ww12.setCell (((blk q3).add 0).add 0) (.int .i64 count10)) fun ww13 =>
  ∃ (Kind15 : Int), ww13.cell? ((blk q3).add 0) = some (.int .i64 Kind15) ∧
  Calls Try.prog 48 #[.agg #[.pointer read4], .int .i64 Kind15] ww13 fun ee17 ww18 => ∃ (kind16k : Nat) (kind16f : Array Value) (kind16g : Array Value), ee17 = .returned (.func (.func kind16k) kind16f kind16g) ∧
  Keep [p9] ww13 ww18 ∧
  enters Try.prog kind16k = true ∧ Calls Try.prog kind16k (kind16f.toList ++ ([.pointer (some (blk q3))] : List Value) ++ kind16g.toList).toArray ww18 (fun ee19 ww20 => ee19 = .returned (.tuple #[]) ∧
  Keep [p9] ww18 ww20 ∧
  Calls Try.prog 49 #[.pointer read4] ww20 fun ee22 ww23 => ∃ (done21 : Int), ee22 = .returned (.int .i64 done21) ∧
  (done21 ≠ 0 →
    canStore ww23 ((blk q3).add 0) ∧
    thenW (ww23.setCell ((blk q3).add 0) (.int .i64 0)) fun ww25 =>
    canStore ww25 ((blk q3).add 1) ∧
    thenW (ww25.setCell ((blk q3).add 1) (.int .i64 0)) fun ww26 =>
    canStore ww26 ((blk q3).add 2) ∧
    thenW (ww26.setCell ((blk q3).add 2) (.int .u64 0)) fun ww27 =>
    canStore ww27 ((blk q3).add 3) ∧
    thenW (ww27.setCell ((blk q3).add 3) (.int .i64 0)) fun ww28 =>
    canStore ww28 ((blk q3).add 4) ∧
    thenW (ww28.setCell ((blk q3).add 4) (.slice none 0 0)) fun ww29 =>
    canStore ww29 ((blk q3).add 5) ∧
    thenW (ww29.setCell ((blk q3).add 5) (.slice none 0 0)) fun ww30 =>
    ∃ (resKind32 : Int) (resWho33 : Int) (resPublic34 : Int) (resLimit35 : Int) (resWraps36a : Option Addr) (resWraps36n : Nat) (resWraps36c : Nat) (resOld37a : Option Addr) (resOld37n : Nat) (resOld37c : Nat), cellsAt ww30 (blk q3) [.int .i64 resKind32, .int .i64 resWho33, .int .u64 resPublic34, .int .i64 resLimit35, .slice resWraps36a resWraps36n resWraps36c, .slice resOld37a resOld37n resOld37c] 0 ∧
    R (.tuple #[.agg #[.int .i64 resKind32, .int .i64 resWho33, .int .u64 resPublic34, .int .i64 resLimit35, .slice resWraps36a resWraps36n resWraps36c, .slice resOld37a resOld37n resOld37c], .int .i64 done21]) ww30) ∧
  (done21 = 0 →
    ∃ (xKind39 : Int) (xWho40 : Int) (xPublic41 : Int) (xLimit42 : Int) (xWraps43a : Option Addr) (xWraps43n : Nat) (xWraps43c : Nat) (xOld44a : Option Addr) (xOld44n : Nat) (xOld44c : Nat), cellsAt ww23 (blk q3) [.int .i64 xKind39, .int .i64 xWho40, .int .u64 xPublic41, .int .i64 xLimit42, .slice xWraps43a xWraps43n xWraps43c, .slice xOld44a xOld44n xOld44c] 0 ∧
    Calls Try.prog 31 #[.agg #[.int .i64 xKind39, .int .i64 xWho40, .int .u64 xPublic41, .int .i64 xLimit42, .slice xWraps43a xWraps43n xWraps43c, .slice xOld44a xOld44n xOld44c]] ww23 fun ee46 ww47 => ∃ (right45 : Bool), ee46 = .returned (.bool right45) ∧
    (right45 = false →
      canStore ww47 ((blk q3).add 0) ∧
      thenW (ww47.setCell ((blk q3).add 0) (.int .i64 0)) fun ww49 =>
      canStore ww49 ((blk q3).add 1) ∧
      thenW (ww49.setCell ((blk q3).add 1) (.int .i64 0)) fun ww50 =>
      canStore ww50 ((blk q3).add 2) ∧
      thenW (ww50.setCell ((blk q3).add 2) (.int .u64 0)) fun ww51 =>
      canStore ww51 ((blk q3).add 3) ∧
      thenW (ww51.setCell ((blk q3).add 3) (.int .i64 0)) fun ww52 =>
      canStore ww52 ((blk q3).add 4) ∧
      thenW (ww52.setCell ((blk q3).add 4) (.slice none 0 0)) fun ww53 =>
      canStore ww53 ((blk q3).add 5) ∧
      thenW (ww53.setCell ((blk q3).add 5) (.slice none 0 0)) fun ww54 =>
      ∃ (resKind56 : Int) (resWho57 : Int) (resPublic58 : Int) (resLimit59 : Int) (resWraps60a : Option Addr) (resWraps60n : Nat) (resWraps60c : Nat) (resOld61a : Option Addr) (resOld61n : Nat) (resOld61c : Nat), cellsAt ww54 (blk q3) [.int .i64 resKind56, .int .i64 resWho57, .int .u64 resPublic58, .int .i64 resLimit59, .slice resWraps60a resWraps60n resWraps60c, .slice resOld61a resOld61n resOld61c] 0 ∧
      R (.tuple #[.agg #[.int .i64 resKind56, .int .i64 resWho57, .int .u64 resPublic58, .int .i64 resLimit59, .slice resWraps60a resWraps60n resWraps60c, .slice resOld61a resOld61n resOld61c], .int .i64 4]) ww54) ∧
    (right45 = true →
      ∃ (xKind63 : Int) (xWho64 : Int) (xPublic65 : Int) (xLimit66 : Int) (xWraps67a : Option Addr) (xWraps67n : Nat) (xWraps67c : Nat) (xOld68a : Option Addr) (xOld68n : Nat) (xOld68c : Nat), cellsAt ww47 (blk q3) [.int .i64 xKind63, .int .i64 xWho64, .int .u64 xPublic65, .int .i64 xLimit66, .slice xWraps67a xWraps67n xWraps67c, .slice xOld68a xOld68n xOld68c] 0 ∧
      canStore ww47 ((blk q3).add 0) ∧
      thenW (ww47.setCell ((blk q3).add 0) (.int .i64 xKind63)) fun ww69 =>
      canStore ww69 ((blk q3).add 1) ∧
      thenW (ww69.setCell ((blk q3).add 1) (.int .i64 xWho64)) fun ww70 =>
      canStore ww70 ((blk q3).add 2) ∧
      thenW (ww70.setCell ((blk q3).add 2) (.int .u64 xPublic65)) fun ww71 =>
      canStore ww71 ((blk q3).add 3) ∧
      thenW (ww71.setCell ((blk q3).add 3) (.int .i64 xLimit66)) fun ww72 =>
      canStore ww72 ((blk q3).add 4) ∧
      thenW (ww72.setCell ((blk q3).add 4) (.slice xWraps67a xWraps67n xWraps67c)) fun ww73 =>
      canStore ww73 ((blk q3).add 5) ∧
      thenW (ww73.setCell ((blk q3).add 5) (.slice xOld68a xOld68n xOld68c)) fun ww74 =>
      ∃ (resKind76 : Int) (resWho77 : Int) (resPublic78 : Int) (resLimit79 : Int) (resWraps80a : Option Addr) (resWraps80n : Nat) (resWraps80c : Nat) (resOld81a : Option Addr) (resOld81n : Nat) (resOld81c : Nat), cellsAt ww74 (blk q3) [.int .i64 resKind76, .int .i64 resWho77, .int .u64 resPublic78, .int .i64 resLimit79, .slice resWraps80a resWraps80n resWraps80c, .slice resOld81a resOld81n resOld81c] 0 ∧
      R (.tuple #[.agg #[.int .i64 resKind76, .int .i64 resWho77, .int .u64 resPublic78, .int .i64 resLimit79, .slice resWraps80a resWraps80n resWraps80c, .slice resOld81a resOld81n resOld81c], .int .i64 0]) ww74)))

theorem members_Read.up (b1a : Option Addr) (b1n : Nat) (b1c : Nat) {R : Value → World → Prop} {w : World} (h : members_Read.N b1a b1n b1c R w) : members_Read.M b1a b1n b1c R w := by
  unfold members_Read.M
  unfold members_Read.N at h
  refine thenW_in fun ww2 e2 => ?_
  have h := h ww2 w.heap.size ((Ext.refl no w).x_alloc e2) (Blk.of_new e2) ((Ext.refl no w)).size (size_lt_alloc e2)
  refine h.mono fun ee5 ww6 h => ?_
  obtain ⟨read4, he, h⟩ := h
  refine ⟨read4, he, ?_⟩
  refine thenW_in fun ww7 e7 => ?_
  have hb1 := Blk.of_new e7
  have hg1 := ((Ext.refl no ww6)).size
  have hx7 := (Ext.refl no ww6).x_alloc e7
  refine ⟨hb1.cani 0 rfl rfl, thenW_in fun ww8 e8 => ?_⟩
  have hx8 := hx7.x_set (q := ww6.heap.size) (i := 0) rfl (.inr hg1) e8
  have hb1 := hb1.seti 0 rfl e8
  refine ⟨read4, hb1.celli 0 rfl rfl, ?_⟩
  have h := h ww8 (ww6.heap.size) hx8 (Priv.cons hg1 hb1.lt Priv.nil)
  refine h.mono fun ee11 ww12 h => ?_
  obtain ⟨count10, he, hk, h⟩ := h
  refine ⟨count10, he, ?_⟩
  have hb1 := hk.blk hb1 (by simp)
  obtain ⟨hcs, hof, h⟩ := h
  refine ⟨hcs, thenW_in fun ww13 e13 => ?_⟩
  replace h := thenW_out h e13
  have hb1 := hb1.off (by rw [block_add]; exact hof _ (by simp)) e13
  refine ⟨read4, ⟨hb1.celli 0 rfl rfl, trivial⟩, ?_⟩
  obtain ⟨Kind15, hc14, h⟩ := h
  refine ⟨Kind15, hc14, ?_⟩
  refine h.mono fun ee17 ww18 h => ?_
  obtain ⟨kind16k, kind16f, kind16g, he, hk, h⟩ := h
  refine ⟨kind16k, kind16f, kind16g, he, ?_⟩
  have hb1 := hk.blk hb1 (by simp)
  obtain ⟨hen, h⟩ := h
  refine bif_tt hen ?_
  refine h.mono fun ee19 ww20 h => ?_
  obtain ⟨he, hk, h⟩ := h
  refine ⟨he, ?_⟩
  have hb1 := hk.blk hb1 (by simp)
  refine ⟨read4, hb1.celli 0 rfl rfl, ?_⟩
  refine h.mono fun ee22 ww23 h => ?_
  obtain ⟨done21, he, h⟩ := h
  refine ⟨done21, he, ?_⟩
  refine bif_of (fun c24 => ?_) (fun c24 => ?_)
  · have h := h.1 (bne_t c24)
    obtain ⟨hcs, h⟩ := h
    refine ⟨hcs, thenW_in fun ww25 e25 => ?_⟩
    replace h := thenW_out h e25
    obtain ⟨hcs, h⟩ := h
    refine ⟨hcs, thenW_in fun ww26 e26 => ?_⟩
    replace h := thenW_out h e26
    obtain ⟨hcs, h⟩ := h
    refine ⟨hcs, thenW_in fun ww27 e27 => ?_⟩
    replace h := thenW_out h e27
    obtain ⟨hcs, h⟩ := h
    refine ⟨hcs, thenW_in fun ww28 e28 => ?_⟩
    replace h := thenW_out h e28
    obtain ⟨hcs, h⟩ := h
    refine ⟨hcs, thenW_in fun ww29 e29 => ?_⟩
    replace h := thenW_out h e29
    obtain ⟨hcs, h⟩ := h
    refine ⟨hcs, thenW_in fun ww30 e30 => ?_⟩
    replace h := thenW_out h e30
    obtain ⟨resKind32, resWho33, resPublic34, resLimit35, resWraps36a, resWraps36n, resWraps36c, resOld37a, resOld37n, resOld37c, hc31, h⟩ := h
    refine ⟨resKind32, resWho33, resPublic34, resLimit35, resWraps36a, resWraps36n, resWraps36c, resOld37a, resOld37n, resOld37c, hc31, ?_⟩
    exact h
  · have h := h.2 (bne_f c24)
    obtain ⟨xKind39, xWho40, xPublic41, xLimit42, xWraps43a, xWraps43n, xWraps43c, xOld44a, xOld44n, xOld44c, hc38, h⟩ := h
    refine ⟨xKind39, xWho40, xPublic41, xLimit42, xWraps43a, xWraps43n, xWraps43c, xOld44a, xOld44n, xOld44c, hc38, ?_⟩
    refine h.mono fun ee46 ww47 h => ?_
    obtain ⟨right45, he, h⟩ := h
    refine ⟨right45, he, ?_⟩
    refine bif_of (fun c48 => ?_) (fun c48 => ?_)
    · have h := h.1 (not_t c48)
      obtain ⟨hcs, h⟩ := h
      refine ⟨hcs, thenW_in fun ww49 e49 => ?_⟩
      replace h := thenW_out h e49
      obtain ⟨hcs, h⟩ := h
      refine ⟨hcs, thenW_in fun ww50 e50 => ?_⟩
      replace h := thenW_out h e50
      obtain ⟨hcs, h⟩ := h
      refine ⟨hcs, thenW_in fun ww51 e51 => ?_⟩
      replace h := thenW_out h e51
      obtain ⟨hcs, h⟩ := h
      refine ⟨hcs, thenW_in fun ww52 e52 => ?_⟩
      replace h := thenW_out h e52
      obtain ⟨hcs, h⟩ := h
      refine ⟨hcs, thenW_in fun ww53 e53 => ?_⟩
      replace h := thenW_out h e53
      obtain ⟨hcs, h⟩ := h
      refine ⟨hcs, thenW_in fun ww54 e54 => ?_⟩
      replace h := thenW_out h e54
      obtain ⟨resKind56, resWho57, resPublic58, resLimit59, resWraps60a, resWraps60n, resWraps60c, resOld61a, resOld61n, resOld61c, hc55, h⟩ := h
      refine ⟨resKind56, resWho57, resPublic58, resLimit59, resWraps60a, resWraps60n, resWraps60c, resOld61a, resOld61n, resOld61c, hc55, ?_⟩
      exact h
    · have h := h.2 (not_f c48)
      obtain ⟨xKind63, xWho64, xPublic65, xLimit66, xWraps67a, xWraps67n, xWraps67c, xOld68a, xOld68n, xOld68c, hc62, h⟩ := h
      refine ⟨xKind63, xWho64, xPublic65, xLimit66, xWraps67a, xWraps67n, xWraps67c, xOld68a, xOld68n, xOld68c, hc62, ?_⟩
      obtain ⟨hcs, h⟩ := h
      refine ⟨hcs, thenW_in fun ww69 e69 => ?_⟩
      replace h := thenW_out h e69
      obtain ⟨hcs, h⟩ := h
      refine ⟨hcs, thenW_in fun ww70 e70 => ?_⟩
      replace h := thenW_out h e70
      obtain ⟨hcs, h⟩ := h
      refine ⟨hcs, thenW_in fun ww71 e71 => ?_⟩
      replace h := thenW_out h e71
      obtain ⟨hcs, h⟩ := h
      refine ⟨hcs, thenW_in fun ww72 e72 => ?_⟩
      replace h := thenW_out h e72
      obtain ⟨hcs, h⟩ := h
      refine ⟨hcs, thenW_in fun ww73 e73 => ?_⟩
      replace h := thenW_out h e73
      obtain ⟨hcs, h⟩ := h
      refine ⟨hcs, thenW_in fun ww74 e74 => ?_⟩
      replace h := thenW_out h e74
      obtain ⟨resKind76, resWho77, resPublic78, resLimit79, resWraps80a, resWraps80n, resWraps80c, resOld81a, resOld81n, resOld81c, hc75, h⟩ := h
      refine ⟨resKind76, resWho77, resPublic78, resLimit79, resWraps80a, resWraps80n, resWraps80c, resOld81a, resOld81n, resOld81c, hc75, ?_⟩
      exact h

theorem members_Read.go (b1a : Option Addr) (b1n : Nat) (b1c : Nat) {R : Value → World → Prop} {w : World} (h : members_Read.N b1a b1n b1c R w) : Calls Try.prog 29 #[.slice b1a b1n b1c] w fun e w' => ∃ v, e = .returned v ∧ R v w' := members_Read.ok b1a b1n b1c (members_Read.up b1a b1n b1c h)
theorem members_Read.run (b1a : Option Addr) (b1n : Nat) (b1c : Nat) {V : Value} {Q : World → Prop} {w : World} (h : members_Read.N b1a b1n b1c (fun v w' => v = V ∧ Q w') w) : Calls Try.prog 29 #[.slice b1a b1n b1c] w (Ret V Q) := (members_Read.go b1a b1n b1c h).mono fun e w' ⟨v, he, hv, hq⟩ => ⟨by rw [he, hv], hq⟩

/-- cachetteref12.num -/
def cachetteref12_num.M (n1 : Int) (R : Value → World → Prop) (w : World) : Prop :=
  Calls Try.prog 44 #[.int .u64 (IntKind.u64.wrap n1)] w fun ee3 ww4 => ∃ (num2a : Option Addr) (num2n : Nat) (num2c : Nat), ee3 = .returned (.slice num2a num2n num2c) ∧
  R (.slice num2a num2n num2c) ww4

theorem cachetteref12_num.eq (n1 : Int) (R : Value → World → Prop) (w : World) : mfunc Try.prog [] 43 [.int .i64 n1] R w = cachetteref12_num.M n1 R w := by kernel_rfl
theorem cachetteref12_num.ok (n1 : Int) {R : Value → World → Prop} {w : World} (h : cachetteref12_num.M n1 R w) : Calls Try.prog 43 #[.int .i64 n1] w fun e w' => ∃ v, e = .returned v ∧ R v w' :=
  mfunc_ok follows (H := []) (args := [.int .i64 n1]) (by rw [cachetteref12_num.eq]; exact h)

def cachetteref12_num.N (n1 : Int) (R : Value → World → Prop) (w : World) : Prop :=
  Calls Try.prog 44 #[.int .u64 (IntKind.u64.wrap n1)] w fun ee3 ww4 => ∃ (num2a : Option Addr) (num2n : Nat) (num2c : Nat), ee3 = .returned (.slice num2a num2n num2c) ∧
  R (.slice num2a num2n num2c) ww4

theorem cachetteref12_num.up (n1 : Int) {R : Value → World → Prop} {w : World} (h : cachetteref12_num.N n1 R w) : cachetteref12_num.M n1 R w := by
  unfold cachetteref12_num.M
  unfold cachetteref12_num.N at h
  refine h.mono fun ee3 ww4 h => ?_
  obtain ⟨num2a, num2n, num2c, he, h⟩ := h
  refine ⟨num2a, num2n, num2c, he, ?_⟩
  exact h

theorem cachetteref12_num.go (n1 : Int) {R : Value → World → Prop} {w : World} (h : cachetteref12_num.N n1 R w) : Calls Try.prog 43 #[.int .i64 n1] w fun e w' => ∃ v, e = .returned v ∧ R v w' := cachetteref12_num.ok n1 (cachetteref12_num.up n1 h)
theorem cachetteref12_num.run (n1 : Int) {V : Value} {Q : World → Prop} {w : World} (h : cachetteref12_num.N n1 (fun v w' => v = V ∧ Q w') w) : Calls Try.prog 43 #[.int .i64 n1] w (Ret V Q) := (cachetteref12_num.go n1 h).mono fun e w' ⟨v, he, hv, hq⟩ => ⟨by rw [he, hv], hq⟩

/-- cachetteref12.Bytes -/
def cachetteref12_Bytes.M (cKind1 : Int) (cWho2 : Int) (cPublic3 : Int) (cLimit4 : Int) (cWraps5a : Option Addr) (cWraps5n : Nat) (cWraps5c : Nat) (cOld6a : Option Addr) (cOld6n : Nat) (cOld6c : Nat) (R : Value → World → Prop) (w : World) : Prop :=
  thenW (w.alloc (.cells #[.int .i64 cKind1, .int .i64 cWho2, .int .u64 cPublic3, .int .i64 cLimit4, .slice cWraps5a cWraps5n cWraps5c, .slice cOld6a cOld6n cOld6c] 40)) fun ww7 =>
  ∃ (xKind8 : Int) (xWho9 : Int) (xPublic10 : Int) (xLimit11 : Int) (xWraps12a : Option Addr) (xWraps12n : Nat) (xWraps12c : Nat) (xOld13a : Option Addr) (xOld13n : Nat) (xOld13c : Nat), cellsAt ww7 (blk w.heap.size) [.int .i64 xKind8, .int .i64 xWho9, .int .u64 xPublic10, .int .i64 xLimit11, .slice xWraps12a xWraps12n xWraps12c, .slice xOld13a xOld13n xOld13c] 0 ∧
  Calls Try.prog 32 #[.agg #[.int .i64 xKind8, .int .i64 xWho9, .int .u64 xPublic10, .int .i64 xLimit11, .slice xWraps12a xWraps12n xWraps12c, .slice xOld13a xOld13n xOld13c]] ww7 fun ee15 ww16 => ∃ (right14 : Bool), ee15 = .returned (.bool right14) ∧
  bif !right14 then (
  R (.tuple #[.slice none 0 0, .int .i64 1]) ww16) else (
  ∃ (Kind17 : Int), ww16.cell? ((blk w.heap.size).add 0) = some (.int .i64 Kind17) ∧
  Calls Try.prog 43 #[.int .i64 Kind17] ww16 fun ee19 ww20 => ∃ (num18a : Option Addr) (num18n : Nat) (num18c : Nat), ee19 = .returned (.slice num18a num18n num18c) ∧
  ∃ (Kind21 : Int), ww20.cell? ((blk w.heap.size).add 0) = some (.int .i64 Kind21) ∧
  bif Kind21 == 1 then (
  thenW (ww20.drew) fun ww22 =>
  ∃ (Who23 : Int), ww22.cell? ((blk w.heap.size).add 1) = some (.int .i64 Who23) ∧
  ∃ (Public24 : Int), ww22.cell? ((blk w.heap.size).add 2) = some (.int .u64 Public24) ∧
  Calls Try.prog 43 #[.int .i64 Who23] ww22 fun ee26 ww27 => ∃ (num25a : Option Addr) (num25n : Nat) (num25c : Nat), ee26 = .returned (.slice num25a num25n num25c) ∧
  ww27.cell? ((blk w.heap.size).add 2) = some (.int .u64 Public24) ∧
  ∃ (a28a : Option Addr) (a28n : Nat) (a28c : Nat) (ww29 : World), (Builtin.append_ #[34, 34] 34 #[.slice num18a num18n num18c, .slice num25a num25n num25c]).run Try.prog ww27 = .ok (.slice a28a a28n a28c) ww29 ∧
  ww29.cell? ((blk w.heap.size).add 2) = some (.int .u64 Public24) ∧
  Calls Try.prog 44 #[.int .u64 Public24] ww29 fun ee31 ww32 => ∃ (num30a : Option Addr) (num30n : Nat) (num30c : Nat), ee31 = .returned (.slice num30a num30n num30c) ∧
  ∃ (a33a : Option Addr) (a33n : Nat) (a33c : Nat) (ww34 : World), (Builtin.append_ #[34, 34] 34 #[.slice a28a a28n a28c, .slice num30a num30n num30c]).run Try.prog ww32 = .ok (.slice a33a a33n a33c) ww34 ∧
  R (.tuple #[.slice a33a a33n a33c, .int .i64 0]) ww34) else (
  bif Kind21 == 2 then (
  thenW (ww20.drew) fun ww35 =>
  ∃ (Who36 : Int), ww35.cell? ((blk w.heap.size).add 1) = some (.int .i64 Who36) ∧
  ∃ (Limit37 : Int), ww35.cell? ((blk w.heap.size).add 3) = some (.int .i64 Limit37) ∧
  Calls Try.prog 43 #[.int .i64 Who36] ww35 fun ee39 ww40 => ∃ (num38a : Option Addr) (num38n : Nat) (num38c : Nat), ee39 = .returned (.slice num38a num38n num38c) ∧
  ww40.cell? ((blk w.heap.size).add 3) = some (.int .i64 Limit37) ∧
  ∃ (a41a : Option Addr) (a41n : Nat) (a41c : Nat) (ww42 : World), (Builtin.append_ #[34, 34] 34 #[.slice num18a num18n num18c, .slice num38a num38n num38c]).run Try.prog ww40 = .ok (.slice a41a a41n a41c) ww42 ∧
  ww42.cell? ((blk w.heap.size).add 3) = some (.int .i64 Limit37) ∧
  Calls Try.prog 43 #[.int .i64 Limit37] ww42 fun ee44 ww45 => ∃ (num43a : Option Addr) (num43n : Nat) (num43c : Nat), ee44 = .returned (.slice num43a num43n num43c) ∧
  ∃ (a46a : Option Addr) (a46n : Nat) (a46c : Nat) (ww47 : World), (Builtin.append_ #[34, 34] 34 #[.slice a41a a41n a41c, .slice num43a num43n num43c]).run Try.prog ww45 = .ok (.slice a46a a46n a46c) ww47 ∧
  R (.tuple #[.slice a46a a46n a46c, .int .i64 0]) ww47) else (
  bif Kind21 == 3 then (
  ∃ (Wraps48a : Option Addr) (Wraps48n : Nat) (Wraps48c : Nat), ww20.cell? ((blk w.heap.size).add 4) = some (.slice Wraps48a Wraps48n Wraps48c) ∧
  Calls Try.prog 43 #[.int .i64 (Wraps48n : Int)] ww20 fun ee50 ww51 => ∃ (num49a : Option Addr) (num49n : Nat) (num49c : Nat), ee50 = .returned (.slice num49a num49n num49c) ∧
  ∃ (a52a : Option Addr) (a52n : Nat) (a52c : Nat) (ww53 : World), (Builtin.append_ #[34, 34] 34 #[.slice num18a num18n num18c, .slice num49a num49n num49c]).run Try.prog ww51 = .ok (.slice a52a a52n a52c) ww53 ∧
  ∃ (I1 : Nat → List Value → World → Prop) (m56 : Nat), I1 m56 [.slice a52a a52n a52c, .int .i64 0] ww53 ∧ ∀ (m57 : Nat) (ww58 : World) (b54a : Option Addr) (b54n : Nat) (b54c : Nat) (i55 : Int), I1 m57 [.slice b54a b54n b54c, .int .i64 i55] ww58 →
  ∃ (Wraps59a : Option Addr) (Wraps59n : Nat) (Wraps59c : Nat), ww58.cell? ((blk w.heap.size).add 4) = some (.slice Wraps59a Wraps59n Wraps59c) ∧
  bif decide (i55 < (Wraps59n : Int)) then (
  thenW (ww58.drew) fun ww60 =>
  ∃ (Wraps61a : Option Addr) (Wraps61n : Nat) (Wraps61c : Nat), ww60.cell? ((blk w.heap.size).add 4) = some (.slice Wraps61a Wraps61n Wraps61c) ∧
  Wraps61a.elim False fun a62 =>
  0 ≤ (i55 : Int) ∧ (i55 : Int) < (Wraps61n : Int) ∧
  ∃ (Who63 : Int), ww60.cell? ((a62.add (Int.toNat i55 * 2)).add 0) = some (.int .i64 Who63) ∧
  ∃ (Wraps64a : Option Addr) (Wraps64n : Nat) (Wraps64c : Nat), ww60.cell? ((blk w.heap.size).add 4) = some (.slice Wraps64a Wraps64n Wraps64c) ∧
  Wraps64a.elim False fun a65 =>
  0 ≤ (i55 : Int) ∧ (i55 : Int) < (Wraps64n : Int) ∧
  ∃ (B66a : Option Addr) (B66n : Nat) (B66c : Nat), ww60.cell? ((a65.add (Int.toNat i55 * 2)).add 1) = some (.slice B66a B66n B66c) ∧
  Calls Try.prog 43 #[.int .i64 Who63] ww60 fun ee68 ww69 => ∃ (num67a : Option Addr) (num67n : Nat) (num67c : Nat), ee68 = .returned (.slice num67a num67n num67c) ∧
  ww69.cell? ((a65.add (Int.toNat i55 * 2)).add 1) = some (.slice B66a B66n B66c) ∧
  ww69.cell? ((blk w.heap.size).add 4) = some (.slice Wraps64a Wraps64n Wraps64c) ∧
  ∃ (a70a : Option Addr) (a70n : Nat) (a70c : Nat) (ww71 : World), (Builtin.append_ #[34, 34] 34 #[.slice b54a b54n b54c, .slice num67a num67n num67c]).run Try.prog ww69 = .ok (.slice a70a a70n a70c) ww71 ∧
  ww71.cell? ((a65.add (Int.toNat i55 * 2)).add 1) = some (.slice B66a B66n B66c) ∧
  ww71.cell? ((blk w.heap.size).add 4) = some (.slice Wraps64a Wraps64n Wraps64c) ∧
  Calls Try.prog 45 #[.slice B66a B66n B66c] ww71 fun ee73 ww74 => ∃ (bytes72a : Option Addr) (bytes72n : Nat) (bytes72c : Nat), ee73 = .returned (.slice bytes72a bytes72n bytes72c) ∧
  ∃ (a75a : Option Addr) (a75n : Nat) (a75c : Nat) (ww76 : World), (Builtin.append_ #[34, 34] 34 #[.slice a70a a70n a70c, .slice bytes72a bytes72n bytes72c]).run Try.prog ww74 = .ok (.slice a75a a75n a75c) ww76 ∧
  ∃ m77, m77 < m57 ∧ I1 m77 [.slice a75a a75n a75c, .int .i64 (IntKind.i64.wrap (i55 + 1))] ww76) else (
  ∃ (Old78a : Option Addr) (Old78n : Nat) (Old78c : Nat), ww58.cell? ((blk w.heap.size).add 5) = some (.slice Old78a Old78n Old78c) ∧
  Calls Try.prog 45 #[.slice Old78a Old78n Old78c] ww58 fun ee80 ww81 => ∃ (bytes79a : Option Addr) (bytes79n : Nat) (bytes79c : Nat), ee80 = .returned (.slice bytes79a bytes79n bytes79c) ∧
  ∃ (a82a : Option Addr) (a82n : Nat) (a82c : Nat) (ww83 : World), (Builtin.append_ #[34, 34] 34 #[.slice b54a b54n b54c, .slice bytes79a bytes79n bytes79c]).run Try.prog ww81 = .ok (.slice a82a a82n a82c) ww83 ∧
  R (.tuple #[.slice a82a a82n a82c, .int .i64 0]) ww83)) else (
  R (.tuple #[.slice num18a num18n num18c, .int .i64 0]) ww20))))

theorem cachetteref12_Bytes.eq (cKind1 : Int) (cWho2 : Int) (cPublic3 : Int) (cLimit4 : Int) (cWraps5a : Option Addr) (cWraps5n : Nat) (cWraps5c : Nat) (cOld6a : Option Addr) (cOld6n : Nat) (cOld6c : Nat) (R : Value → World → Prop) (w : World) : mfunc Try.prog [(1, [1], [(4, (.one .slice)), (5, (.one (.int .i64)))])] 28 [.agg #[.int .i64 cKind1, .int .i64 cWho2, .int .u64 cPublic3, .int .i64 cLimit4, .slice cWraps5a cWraps5n cWraps5c, .slice cOld6a cOld6n cOld6c]] R w = cachetteref12_Bytes.M cKind1 cWho2 cPublic3 cLimit4 cWraps5a cWraps5n cWraps5c cOld6a cOld6n cOld6c R w := by kernel_rfl
theorem cachetteref12_Bytes.ok (cKind1 : Int) (cWho2 : Int) (cPublic3 : Int) (cLimit4 : Int) (cWraps5a : Option Addr) (cWraps5n : Nat) (cWraps5c : Nat) (cOld6a : Option Addr) (cOld6n : Nat) (cOld6c : Nat) {R : Value → World → Prop} {w : World} (h : cachetteref12_Bytes.M cKind1 cWho2 cPublic3 cLimit4 cWraps5a cWraps5n cWraps5c cOld6a cOld6n cOld6c R w) : Calls Try.prog 28 #[.agg #[.int .i64 cKind1, .int .i64 cWho2, .int .u64 cPublic3, .int .i64 cLimit4, .slice cWraps5a cWraps5n cWraps5c, .slice cOld6a cOld6n cOld6c]] w fun e w' => ∃ v, e = .returned v ∧ R v w' :=
  mfunc_ok follows (H := [(1, [1], [(4, (.one .slice)), (5, (.one (.int .i64)))])]) (args := [.agg #[.int .i64 cKind1, .int .i64 cWho2, .int .u64 cPublic3, .int .i64 cLimit4, .slice cWraps5a cWraps5n cWraps5c, .slice cOld6a cOld6n cOld6c]]) (by rw [cachetteref12_Bytes.eq]; exact h)

def cachetteref12_Bytes.N (cKind1 : Int) (cWho2 : Int) (cPublic3 : Int) (cLimit4 : Int) (cWraps5a : Option Addr) (cWraps5n : Nat) (cWraps5c : Nat) (cOld6a : Option Addr) (cOld6n : Nat) (cOld6c : Nat) (R : Value → World → Prop) (w : World) : Prop :=
  ∀ (ww7 : World) (p8 : Nat), Ext no w ww7 → Priv w ww7 [p8] →
  Calls Try.prog 32 #[.agg #[.int .i64 cKind1, .int .i64 cWho2, .int .u64 cPublic3, .int .i64 cLimit4, .slice cWraps5a cWraps5n cWraps5c, .slice cOld6a cOld6n cOld6c]] ww7 fun ee10 ww11 => ∃ (right9 : Bool), ee10 = .returned (.bool right9) ∧
  Keep [p8] ww7 ww11 ∧
  (right9 = false →
    R (.tuple #[.slice none 0 0, .int .i64 1]) ww11) ∧
  (right9 = true →
    Calls Try.prog 43 #[.int .i64 cKind1] ww11 fun ee14 ww15 => ∃ (num13a : Option Addr) (num13n : Nat) (num13c : Nat), ee14 = .returned (.slice num13a num13n num13c) ∧
    Keep [p8] ww11 ww15 ∧
    (cKind1 = 1 →
      ∀ (ww17 : World), Ext no ww15 ww17 →
      Calls Try.prog 43 #[.int .i64 cWho2] ww17 fun ee19 ww20 => ∃ (num18a : Option Addr) (num18n : Nat) (num18c : Nat), ee19 = .returned (.slice num18a num18n num18c) ∧
      Keep [p8] ww17 ww20 ∧
      ∃ (a21a : Option Addr) (a21n : Nat) (a21c : Nat) (ww22 : World), (Builtin.append_ #[34, 34] 34 #[.slice num13a num13n num13c, .slice num18a num18n num18c]).run Try.prog ww20 = .ok (.slice a21a a21n a21c) ww22 ∧
      Keep [p8] ww20 ww22 ∧
      Calls Try.prog 44 #[.int .u64 cPublic3] ww22 fun ee24 ww25 => ∃ (num23a : Option Addr) (num23n : Nat) (num23c : Nat), ee24 = .returned (.slice num23a num23n num23c) ∧
      ∃ (a26a : Option Addr) (a26n : Nat) (a26c : Nat) (ww27 : World), (Builtin.append_ #[34, 34] 34 #[.slice a21a a21n a21c, .slice num23a num23n num23c]).run Try.prog ww25 = .ok (.slice a26a a26n a26c) ww27 ∧
      R (.tuple #[.slice a26a a26n a26c, .int .i64 0]) ww27) ∧
    (cKind1 ≠ 1 →
      (cKind1 = 2 →
        ∀ (ww29 : World), Ext no ww15 ww29 →
        Calls Try.prog 43 #[.int .i64 cWho2] ww29 fun ee31 ww32 => ∃ (num30a : Option Addr) (num30n : Nat) (num30c : Nat), ee31 = .returned (.slice num30a num30n num30c) ∧
        Keep [p8] ww29 ww32 ∧
        ∃ (a33a : Option Addr) (a33n : Nat) (a33c : Nat) (ww34 : World), (Builtin.append_ #[34, 34] 34 #[.slice num13a num13n num13c, .slice num30a num30n num30c]).run Try.prog ww32 = .ok (.slice a33a a33n a33c) ww34 ∧
        Keep [p8] ww32 ww34 ∧
        Calls Try.prog 43 #[.int .i64 cLimit4] ww34 fun ee36 ww37 => ∃ (num35a : Option Addr) (num35n : Nat) (num35c : Nat), ee36 = .returned (.slice num35a num35n num35c) ∧
        ∃ (a38a : Option Addr) (a38n : Nat) (a38c : Nat) (ww39 : World), (Builtin.append_ #[34, 34] 34 #[.slice a33a a33n a33c, .slice num35a num35n num35c]).run Try.prog ww37 = .ok (.slice a38a a38n a38c) ww39 ∧
        R (.tuple #[.slice a38a a38n a38c, .int .i64 0]) ww39) ∧
      (cKind1 ≠ 2 →
        (cKind1 = 3 →
          Calls Try.prog 43 #[.int .i64 (cWraps5n : Int)] ww15 fun ee42 ww43 => ∃ (num41a : Option Addr) (num41n : Nat) (num41c : Nat), ee42 = .returned (.slice num41a num41n num41c) ∧
          Keep [p8] ww15 ww43 ∧
          ∃ (a44a : Option Addr) (a44n : Nat) (a44c : Nat) (ww45 : World), (Builtin.append_ #[34, 34] 34 #[.slice num13a num13n num13c, .slice num41a num41n num41c]).run Try.prog ww43 = .ok (.slice a44a a44n a44c) ww45 ∧
          Keep [p8] ww43 ww45 ∧
          ∃ (I1 : Nat → List Value → World → Prop) (m48 : Nat), I1 m48 [.slice a44a a44n a44c, .int .i64 0] ww45 ∧ ∀ (m49 : Nat) (ww50 : World) (b46a : Option Addr) (b46n : Nat) (b46c : Nat) (i47 : Int), I1 m49 [.slice b46a b46n b46c, .int .i64 i47] ww50 →
          (i47 < (cWraps5n : Int) →
            ∃ a53 : Addr, cWraps5a = some a53 ∧
            0 ≤ (i47 : Int) ∧ (i47 : Int) < (cWraps5n : Int) ∧
            ∃ (Who55 : Int), ww50.cell? ((a53.add (Int.toNat i47 * 2)).add 0) = some (.int .i64 Who55) ∧
            0 ≤ (i47 : Int) ∧ (i47 : Int) < (cWraps5n : Int) ∧
            ∃ (B57a : Option Addr) (B57n : Nat) (B57c : Nat), ww50.cell? ((a53.add (Int.toNat i47 * 2)).add 1) = some (.slice B57a B57n B57c) ∧
            ∀ (ww52 : World), Ext no ww50 ww52 →
            Calls Try.prog 43 #[.int .i64 Who55] ww52 fun ee59 ww60 => ∃ (num58a : Option Addr) (num58n : Nat) (num58c : Nat), ee59 = .returned (.slice num58a num58n num58c) ∧
            Keep [p8] ww52 ww60 ∧
            ww60.cell? ((a53.add (Int.toNat i47 * 2)).add 1) = some (.slice B57a B57n B57c) ∧
            ∃ (a62a : Option Addr) (a62n : Nat) (a62c : Nat) (ww63 : World), (Builtin.append_ #[34, 34] 34 #[.slice b46a b46n b46c, .slice num58a num58n num58c]).run Try.prog ww60 = .ok (.slice a62a a62n a62c) ww63 ∧
            Keep [p8] ww60 ww63 ∧
            ww63.cell? ((a53.add (Int.toNat i47 * 2)).add 1) = some (.slice B57a B57n B57c) ∧
            Calls Try.prog 45 #[.slice B57a B57n B57c] ww63 fun ee66 ww67 => ∃ (bytes65a : Option Addr) (bytes65n : Nat) (bytes65c : Nat), ee66 = .returned (.slice bytes65a bytes65n bytes65c) ∧
            Keep [p8] ww63 ww67 ∧
            ∃ (a68a : Option Addr) (a68n : Nat) (a68c : Nat) (ww69 : World), (Builtin.append_ #[34, 34] 34 #[.slice a62a a62n a62c, .slice bytes65a bytes65n bytes65c]).run Try.prog ww67 = .ok (.slice a68a a68n a68c) ww69 ∧
            Keep [p8] ww67 ww69 ∧
            (-9223372036854775808 : Int) ≤ (i47 + 1) ∧ (i47 + 1) < 9223372036854775808 ∧
            ∃ m70, m70 < m49 ∧ I1 m70 [.slice a68a a68n a68c, .int .i64 (i47 + 1)] ww69) ∧
          ((cWraps5n : Int) ≤ i47 →
            Calls Try.prog 45 #[.slice cOld6a cOld6n cOld6c] ww50 fun ee72 ww73 => ∃ (bytes71a : Option Addr) (bytes71n : Nat) (bytes71c : Nat), ee72 = .returned (.slice bytes71a bytes71n bytes71c) ∧
            ∃ (a74a : Option Addr) (a74n : Nat) (a74c : Nat) (ww75 : World), (Builtin.append_ #[34, 34] 34 #[.slice b46a b46n b46c, .slice bytes71a bytes71n bytes71c]).run Try.prog ww73 = .ok (.slice a74a a74n a74c) ww75 ∧
            R (.tuple #[.slice a74a a74n a74c, .int .i64 0]) ww75)) ∧
        (cKind1 ≠ 3 →
          R (.tuple #[.slice num13a num13n num13c, .int .i64 0]) ww15))))

theorem cachetteref12_Bytes.up (cKind1 : Int) (cWho2 : Int) (cPublic3 : Int) (cLimit4 : Int) (cWraps5a : Option Addr) (cWraps5n : Nat) (cWraps5c : Nat) (cOld6a : Option Addr) (cOld6n : Nat) (cOld6c : Nat) {R : Value → World → Prop} {w : World} (h : cachetteref12_Bytes.N cKind1 cWho2 cPublic3 cLimit4 cWraps5a cWraps5n cWraps5c cOld6a cOld6n cOld6c R w) : cachetteref12_Bytes.M cKind1 cWho2 cPublic3 cLimit4 cWraps5a cWraps5n cWraps5c cOld6a cOld6n cOld6c R w := by
  unfold cachetteref12_Bytes.M
  unfold cachetteref12_Bytes.N at h
  refine thenW_in fun ww7 e7 => ?_
  have hb1 := Blk.of_new e7
  have hg1 := ((Ext.refl no w)).size
  have hx7 := (Ext.refl no w).x_alloc e7
  refine ⟨cKind1, cWho2, cPublic3, cLimit4, cWraps5a, cWraps5n, cWraps5c, cOld6a, cOld6n, cOld6c, ⟨hb1.celli 0 rfl rfl, hb1.celli 1 rfl rfl, hb1.celli 2 rfl rfl, hb1.celli 3 rfl rfl, hb1.celli 4 rfl rfl, hb1.celli 5 rfl rfl, trivial⟩, ?_⟩
  have h := h ww7 (w.heap.size) hx7 (Priv.cons hg1 hb1.lt Priv.nil)
  refine h.mono fun ee10 ww11 h => ?_
  obtain ⟨right9, he, hk, h⟩ := h
  refine ⟨right9, he, ?_⟩
  have hb1 := hk.blk hb1 (by simp)
  refine bif_of (fun c12 => ?_) (fun c12 => ?_)
  · have h := h.1 (not_t c12)
    exact h
  · have h := h.2 (not_f c12)
    refine ⟨cKind1, hb1.celli 0 rfl rfl, ?_⟩
    refine h.mono fun ee14 ww15 h => ?_
    obtain ⟨num13a, num13n, num13c, he, hk, h⟩ := h
    refine ⟨num13a, num13n, num13c, he, ?_⟩
    have hb1 := hk.blk hb1 (by simp)
    refine ⟨cKind1, hb1.celli 0 rfl rfl, ?_⟩
    refine bif_of (fun c16 => ?_) (fun c16 => ?_)
    · have h := h.1 (beq_t c16)
      refine thenW_in fun ww17 e17 => ?_
      have hx17 := (Ext.refl no ww15).x_drew e17
      have hb1 := hb1.x_drew e17
      refine ⟨cWho2, hb1.celli 1 rfl rfl, ?_⟩
      refine ⟨cPublic3, hb1.celli 2 rfl rfl, ?_⟩
      have h := h ww17 hx17
      refine h.mono fun ee19 ww20 h => ?_
      obtain ⟨num18a, num18n, num18c, he, hk, h⟩ := h
      refine ⟨num18a, num18n, num18c, he, ?_⟩
      have hb1 := hk.blk hb1 (by simp)
      refine ⟨hb1.celli 2 rfl rfl, ?_⟩
      obtain ⟨a21a, a21n, a21c, ww22, hr, hk, h⟩ := h
      refine ⟨a21a, a21n, a21c, ww22, hr, ?_⟩
      have hb1 := hk.blk hb1 (by simp)
      refine ⟨hb1.celli 2 rfl rfl, ?_⟩
      refine h.mono fun ee24 ww25 h => ?_
      obtain ⟨num23a, num23n, num23c, he, h⟩ := h
      refine ⟨num23a, num23n, num23c, he, ?_⟩
      obtain ⟨a26a, a26n, a26c, ww27, hr, h⟩ := h
      refine ⟨a26a, a26n, a26c, ww27, hr, ?_⟩
      exact h
    · have h := h.2 (beq_f c16)
      refine bif_of (fun c28 => ?_) (fun c28 => ?_)
      · have h := h.1 (beq_t c28)
        refine thenW_in fun ww29 e29 => ?_
        have hx29 := (Ext.refl no ww15).x_drew e29
        have hb1 := hb1.x_drew e29
        refine ⟨cWho2, hb1.celli 1 rfl rfl, ?_⟩
        refine ⟨cLimit4, hb1.celli 3 rfl rfl, ?_⟩
        have h := h ww29 hx29
        refine h.mono fun ee31 ww32 h => ?_
        obtain ⟨num30a, num30n, num30c, he, hk, h⟩ := h
        refine ⟨num30a, num30n, num30c, he, ?_⟩
        have hb1 := hk.blk hb1 (by simp)
        refine ⟨hb1.celli 3 rfl rfl, ?_⟩
        obtain ⟨a33a, a33n, a33c, ww34, hr, hk, h⟩ := h
        refine ⟨a33a, a33n, a33c, ww34, hr, ?_⟩
        have hb1 := hk.blk hb1 (by simp)
        refine ⟨hb1.celli 3 rfl rfl, ?_⟩
        refine h.mono fun ee36 ww37 h => ?_
        obtain ⟨num35a, num35n, num35c, he, h⟩ := h
        refine ⟨num35a, num35n, num35c, he, ?_⟩
        obtain ⟨a38a, a38n, a38c, ww39, hr, h⟩ := h
        refine ⟨a38a, a38n, a38c, ww39, hr, ?_⟩
        exact h
      · have h := h.2 (beq_f c28)
        refine bif_of (fun c40 => ?_) (fun c40 => ?_)
        · have h := h.1 (beq_t c40)
          refine ⟨cWraps5a, cWraps5n, cWraps5c, hb1.celli 4 rfl rfl, ?_⟩
          refine h.mono fun ee42 ww43 h => ?_
          obtain ⟨num41a, num41n, num41c, he, hk, h⟩ := h
          refine ⟨num41a, num41n, num41c, he, ?_⟩
          have hb1 := hk.blk hb1 (by simp)
          obtain ⟨a44a, a44n, a44c, ww45, hr, hk, h⟩ := h
          refine ⟨a44a, a44n, a44c, ww45, hr, ?_⟩
          have hb1 := hk.blk hb1 (by simp)
          obtain ⟨I1, m48, h0, h⟩ := h
          refine ⟨fun k vs ww => Blk ww w.heap.size 40 [.int .i64 cKind1, .int .i64 cWho2, .int .u64 cPublic3, .int .i64 cLimit4, .slice cWraps5a cWraps5n cWraps5c, .slice cOld6a cOld6n cOld6c] ∧ I1 k vs ww, m48, ⟨hb1, h0⟩, fun m49 ww50 b46a b46n b46c i47 hI => ?_⟩
          obtain ⟨hb1, hI⟩ := hI
          have h := h m49 ww50 b46a b46n b46c i47 hI
          refine ⟨cWraps5a, cWraps5n, cWraps5c, hb1.celli 4 rfl rfl, ?_⟩
          refine bif_of (fun c51 => ?_) (fun c51 => ?_)
          · have h := h.1 (of_decide_eq_true c51)
            refine thenW_in fun ww52 e52 => ?_
            have hx52 := (Ext.refl no ww50).x_drew e52
            have hb1 := hb1.x_drew e52
            refine ⟨cWraps5a, cWraps5n, cWraps5c, hb1.celli 4 rfl rfl, ?_⟩
            obtain ⟨a53, ha53, h⟩ := h
            refine elim_some ha53 ?_
            obtain ⟨hq1, hq2, h⟩ := h
            refine ⟨hq1, hq2, ?_⟩
            obtain ⟨Who55, hc54, h⟩ := h
            refine ⟨Who55, (hx52).cell hc54 id, ?_⟩
            refine ⟨cWraps5a, cWraps5n, cWraps5c, hb1.celli 4 rfl rfl, ?_⟩
            refine elim_some ha53 ?_
            obtain ⟨hq1, hq2, h⟩ := h
            refine ⟨hq1, hq2, ?_⟩
            obtain ⟨B57a, B57n, B57c, hc56, h⟩ := h
            refine ⟨B57a, B57n, B57c, (hx52).cell hc56 id, ?_⟩
            have h := h ww52 hx52
            refine h.mono fun ee59 ww60 h => ?_
            obtain ⟨num58a, num58n, num58c, he, hk, h⟩ := h
            refine ⟨num58a, num58n, num58c, he, ?_⟩
            have hb1 := hk.blk hb1 (by simp)
            obtain ⟨ho61, h⟩ := h
            refine ⟨ho61, hb1.celli 4 rfl rfl, ?_⟩
            obtain ⟨a62a, a62n, a62c, ww63, hr, hk, h⟩ := h
            refine ⟨a62a, a62n, a62c, ww63, hr, ?_⟩
            have hb1 := hk.blk hb1 (by simp)
            obtain ⟨ho64, h⟩ := h
            refine ⟨ho64, hb1.celli 4 rfl rfl, ?_⟩
            refine h.mono fun ee66 ww67 h => ?_
            obtain ⟨bytes65a, bytes65n, bytes65c, he, hk, h⟩ := h
            refine ⟨bytes65a, bytes65n, bytes65c, he, ?_⟩
            have hb1 := hk.blk hb1 (by simp)
            obtain ⟨a68a, a68n, a68c, ww69, hr, hk, h⟩ := h
            refine ⟨a68a, a68n, a68c, ww69, hr, ?_⟩
            have hb1 := hk.blk hb1 (by simp)
            obtain ⟨hw1, hw2, h⟩ := h
            try rw [w64 hw1 hw2]
            obtain ⟨m70, hk, h⟩ := h
            exact ⟨m70, hk, hb1, h⟩
          · have h := h.2 (Int.not_lt.1 (of_decide_eq_false c51))
            refine ⟨cOld6a, cOld6n, cOld6c, hb1.celli 5 rfl rfl, ?_⟩
            refine h.mono fun ee72 ww73 h => ?_
            obtain ⟨bytes71a, bytes71n, bytes71c, he, h⟩ := h
            refine ⟨bytes71a, bytes71n, bytes71c, he, ?_⟩
            obtain ⟨a74a, a74n, a74c, ww75, hr, h⟩ := h
            refine ⟨a74a, a74n, a74c, ww75, hr, ?_⟩
            exact h
        · have h := h.2 (beq_f c40)
          exact h

theorem cachetteref12_Bytes.go (cKind1 : Int) (cWho2 : Int) (cPublic3 : Int) (cLimit4 : Int) (cWraps5a : Option Addr) (cWraps5n : Nat) (cWraps5c : Nat) (cOld6a : Option Addr) (cOld6n : Nat) (cOld6c : Nat) {R : Value → World → Prop} {w : World} (h : cachetteref12_Bytes.N cKind1 cWho2 cPublic3 cLimit4 cWraps5a cWraps5n cWraps5c cOld6a cOld6n cOld6c R w) : Calls Try.prog 28 #[.agg #[.int .i64 cKind1, .int .i64 cWho2, .int .u64 cPublic3, .int .i64 cLimit4, .slice cWraps5a cWraps5n cWraps5c, .slice cOld6a cOld6n cOld6c]] w fun e w' => ∃ v, e = .returned v ∧ R v w' := cachetteref12_Bytes.ok cKind1 cWho2 cPublic3 cLimit4 cWraps5a cWraps5n cWraps5c cOld6a cOld6n cOld6c (cachetteref12_Bytes.up cKind1 cWho2 cPublic3 cLimit4 cWraps5a cWraps5n cWraps5c cOld6a cOld6n cOld6c h)
theorem cachetteref12_Bytes.run (cKind1 : Int) (cWho2 : Int) (cPublic3 : Int) (cLimit4 : Int) (cWraps5a : Option Addr) (cWraps5n : Nat) (cWraps5c : Nat) (cOld6a : Option Addr) (cOld6n : Nat) (cOld6c : Nat) {V : Value} {Q : World → Prop} {w : World} (h : cachetteref12_Bytes.N cKind1 cWho2 cPublic3 cLimit4 cWraps5a cWraps5n cWraps5c cOld6a cOld6n cOld6c (fun v w' => v = V ∧ Q w') w) : Calls Try.prog 28 #[.agg #[.int .i64 cKind1, .int .i64 cWho2, .int .u64 cPublic3, .int .i64 cLimit4, .slice cWraps5a cWraps5n cWraps5c, .slice cOld6a cOld6n cOld6c]] w (Ret V Q) := (cachetteref12_Bytes.go cKind1 cWho2 cPublic3 cLimit4 cWraps5a cWraps5n cWraps5c cOld6a cOld6n cOld6c h).mono fun e w' ⟨v, he, hv, hq⟩ => ⟨by rw [he, hv], hq⟩

/-- cachetteref12.Read -/
def cachetteref12_Read.M (b1a : Option Addr) (b1n : Nat) (b1c : Nat) (R : Value → World → Prop) (w : World) : Prop :=
  thenW (w.alloc (.cells #[.int .i64 0, .int .i64 0, .int .u64 0, .int .i64 0, .slice none 0 0, .slice none 0 0] 40)) fun ww2 =>
  thenW (ww2.alloc (.cells #[.slice b1a b1n b1c, .int .i64 0] 106)) fun ww3 =>
  Calls Try.prog 50 #[.pointer (some (blk ww2.heap.size)), .int .i64 3] ww3 fun ee5 ww6 => ∃ (count4 : Int), ee5 = .returned (.int .i64 count4) ∧
  thenW (ww6.alloc (.cells #[.int .i64 0, .int .i64 0, .int .u64 0, .int .i64 0, .slice none 0 0, .slice none 0 0] 40)) fun ww7 =>
  canStore ww7 ((blk ww6.heap.size).add 0) ∧
  thenW (ww7.setCell ((blk ww6.heap.size).add 0) (.int .i64 count4)) fun ww8 =>
  canStore ww8 ((blk ww6.heap.size).add 1) ∧
  thenW (ww8.setCell ((blk ww6.heap.size).add 1) (.int .i64 0)) fun ww9 =>
  canStore ww9 ((blk ww6.heap.size).add 2) ∧
  thenW (ww9.setCell ((blk ww6.heap.size).add 2) (.int .u64 0)) fun ww10 =>
  canStore ww10 ((blk ww6.heap.size).add 3) ∧
  thenW (ww10.setCell ((blk ww6.heap.size).add 3) (.int .i64 0)) fun ww11 =>
  canStore ww11 ((blk ww6.heap.size).add 4) ∧
  thenW (ww11.setCell ((blk ww6.heap.size).add 4) (.slice none 0 0)) fun ww12 =>
  canStore ww12 ((blk ww6.heap.size).add 5) ∧
  thenW (ww12.setCell ((blk ww6.heap.size).add 5) (.slice none 0 0)) fun ww13 =>
  ∃ (Kind14 : Int), ww13.cell? ((blk ww6.heap.size).add 0) = some (.int .i64 Kind14) ∧
  bif Kind14 == 1 then (
  Calls Try.prog 50 #[.pointer (some (blk ww2.heap.size)), .int .i64 7] ww13 fun ee16 ww17 => ∃ (count15 : Int), ee16 = .returned (.int .i64 count15) ∧
  canStore ww17 (((blk ww6.heap.size).add 1).add 0) ∧
  thenW (ww17.setCell (((blk ww6.heap.size).add 1).add 0) (.int .i64 count15)) fun ww18 =>
  Calls Try.prog 51 #[.pointer (some (blk ww2.heap.size))] ww18 fun ee20 ww21 => ∃ (num19 : Int), ee20 = .returned (.int .u64 num19) ∧
  canStore ww21 (((blk ww6.heap.size).add 2).add 0) ∧
  thenW (ww21.setCell (((blk ww6.heap.size).add 2).add 0) (.int .u64 num19)) fun ww22 =>
  Calls Try.prog 53 #[.pointer (some (blk ww2.heap.size))] ww22 fun ee24 ww25 => ∃ (done23 : Int), ee24 = .returned (.int .i64 done23) ∧
  bif done23 != 0 then (
  canStore ww25 ((blk w.heap.size).add 0) ∧
  thenW (ww25.setCell ((blk w.heap.size).add 0) (.int .i64 0)) fun ww26 =>
  canStore ww26 ((blk w.heap.size).add 1) ∧
  thenW (ww26.setCell ((blk w.heap.size).add 1) (.int .i64 0)) fun ww27 =>
  canStore ww27 ((blk w.heap.size).add 2) ∧
  thenW (ww27.setCell ((blk w.heap.size).add 2) (.int .u64 0)) fun ww28 =>
  canStore ww28 ((blk w.heap.size).add 3) ∧
  thenW (ww28.setCell ((blk w.heap.size).add 3) (.int .i64 0)) fun ww29 =>
  canStore ww29 ((blk w.heap.size).add 4) ∧
  thenW (ww29.setCell ((blk w.heap.size).add 4) (.slice none 0 0)) fun ww30 =>
  canStore ww30 ((blk w.heap.size).add 5) ∧
  thenW (ww30.setCell ((blk w.heap.size).add 5) (.slice none 0 0)) fun ww31 =>
  ∃ (resKind32 : Int) (resWho33 : Int) (resPublic34 : Int) (resLimit35 : Int) (resWraps36a : Option Addr) (resWraps36n : Nat) (resWraps36c : Nat) (resOld37a : Option Addr) (resOld37n : Nat) (resOld37c : Nat), cellsAt ww31 (blk w.heap.size) [.int .i64 resKind32, .int .i64 resWho33, .int .u64 resPublic34, .int .i64 resLimit35, .slice resWraps36a resWraps36n resWraps36c, .slice resOld37a resOld37n resOld37c] 0 ∧
  R (.tuple #[.agg #[.int .i64 resKind32, .int .i64 resWho33, .int .u64 resPublic34, .int .i64 resLimit35, .slice resWraps36a resWraps36n resWraps36c, .slice resOld37a resOld37n resOld37c], .int .i64 done23]) ww31) else (
  ∃ (xKind38 : Int) (xWho39 : Int) (xPublic40 : Int) (xLimit41 : Int) (xWraps42a : Option Addr) (xWraps42n : Nat) (xWraps42c : Nat) (xOld43a : Option Addr) (xOld43n : Nat) (xOld43c : Nat), cellsAt ww25 (blk ww6.heap.size) [.int .i64 xKind38, .int .i64 xWho39, .int .u64 xPublic40, .int .i64 xLimit41, .slice xWraps42a xWraps42n xWraps42c, .slice xOld43a xOld43n xOld43c] 0 ∧
  Calls Try.prog 32 #[.agg #[.int .i64 xKind38, .int .i64 xWho39, .int .u64 xPublic40, .int .i64 xLimit41, .slice xWraps42a xWraps42n xWraps42c, .slice xOld43a xOld43n xOld43c]] ww25 fun ee45 ww46 => ∃ (right44 : Bool), ee45 = .returned (.bool right44) ∧
  bif !right44 then (
  canStore ww46 ((blk w.heap.size).add 0) ∧
  thenW (ww46.setCell ((blk w.heap.size).add 0) (.int .i64 0)) fun ww47 =>
  canStore ww47 ((blk w.heap.size).add 1) ∧
  thenW (ww47.setCell ((blk w.heap.size).add 1) (.int .i64 0)) fun ww48 =>
  canStore ww48 ((blk w.heap.size).add 2) ∧
  thenW (ww48.setCell ((blk w.heap.size).add 2) (.int .u64 0)) fun ww49 =>
  canStore ww49 ((blk w.heap.size).add 3) ∧
  thenW (ww49.setCell ((blk w.heap.size).add 3) (.int .i64 0)) fun ww50 =>
  canStore ww50 ((blk w.heap.size).add 4) ∧
  thenW (ww50.setCell ((blk w.heap.size).add 4) (.slice none 0 0)) fun ww51 =>
  canStore ww51 ((blk w.heap.size).add 5) ∧
  thenW (ww51.setCell ((blk w.heap.size).add 5) (.slice none 0 0)) fun ww52 =>
  ∃ (resKind53 : Int) (resWho54 : Int) (resPublic55 : Int) (resLimit56 : Int) (resWraps57a : Option Addr) (resWraps57n : Nat) (resWraps57c : Nat) (resOld58a : Option Addr) (resOld58n : Nat) (resOld58c : Nat), cellsAt ww52 (blk w.heap.size) [.int .i64 resKind53, .int .i64 resWho54, .int .u64 resPublic55, .int .i64 resLimit56, .slice resWraps57a resWraps57n resWraps57c, .slice resOld58a resOld58n resOld58c] 0 ∧
  R (.tuple #[.agg #[.int .i64 resKind53, .int .i64 resWho54, .int .u64 resPublic55, .int .i64 resLimit56, .slice resWraps57a resWraps57n resWraps57c, .slice resOld58a resOld58n resOld58c], .int .i64 4]) ww52) else (
  ∃ (xKind59 : Int) (xWho60 : Int) (xPublic61 : Int) (xLimit62 : Int) (xWraps63a : Option Addr) (xWraps63n : Nat) (xWraps63c : Nat) (xOld64a : Option Addr) (xOld64n : Nat) (xOld64c : Nat), cellsAt ww46 (blk ww6.heap.size) [.int .i64 xKind59, .int .i64 xWho60, .int .u64 xPublic61, .int .i64 xLimit62, .slice xWraps63a xWraps63n xWraps63c, .slice xOld64a xOld64n xOld64c] 0 ∧
  canStore ww46 ((blk w.heap.size).add 0) ∧
  thenW (ww46.setCell ((blk w.heap.size).add 0) (.int .i64 xKind59)) fun ww65 =>
  canStore ww65 ((blk w.heap.size).add 1) ∧
  thenW (ww65.setCell ((blk w.heap.size).add 1) (.int .i64 xWho60)) fun ww66 =>
  canStore ww66 ((blk w.heap.size).add 2) ∧
  thenW (ww66.setCell ((blk w.heap.size).add 2) (.int .u64 xPublic61)) fun ww67 =>
  canStore ww67 ((blk w.heap.size).add 3) ∧
  thenW (ww67.setCell ((blk w.heap.size).add 3) (.int .i64 xLimit62)) fun ww68 =>
  canStore ww68 ((blk w.heap.size).add 4) ∧
  thenW (ww68.setCell ((blk w.heap.size).add 4) (.slice xWraps63a xWraps63n xWraps63c)) fun ww69 =>
  canStore ww69 ((blk w.heap.size).add 5) ∧
  thenW (ww69.setCell ((blk w.heap.size).add 5) (.slice xOld64a xOld64n xOld64c)) fun ww70 =>
  ∃ (resKind71 : Int) (resWho72 : Int) (resPublic73 : Int) (resLimit74 : Int) (resWraps75a : Option Addr) (resWraps75n : Nat) (resWraps75c : Nat) (resOld76a : Option Addr) (resOld76n : Nat) (resOld76c : Nat), cellsAt ww70 (blk w.heap.size) [.int .i64 resKind71, .int .i64 resWho72, .int .u64 resPublic73, .int .i64 resLimit74, .slice resWraps75a resWraps75n resWraps75c, .slice resOld76a resOld76n resOld76c] 0 ∧
  R (.tuple #[.agg #[.int .i64 resKind71, .int .i64 resWho72, .int .u64 resPublic73, .int .i64 resLimit74, .slice resWraps75a resWraps75n resWraps75c, .slice resOld76a resOld76n resOld76c], .int .i64 0]) ww70))) else (
  bif Kind14 == 2 then (
  Calls Try.prog 50 #[.pointer (some (blk ww2.heap.size)), .int .i64 7] ww13 fun ee78 ww79 => ∃ (count77 : Int), ee78 = .returned (.int .i64 count77) ∧
  canStore ww79 (((blk ww6.heap.size).add 1).add 0) ∧
  thenW (ww79.setCell (((blk ww6.heap.size).add 1).add 0) (.int .i64 count77)) fun ww80 =>
  Calls Try.prog 50 #[.pointer (some (blk ww2.heap.size)), .int .i64 200] ww80 fun ee82 ww83 => ∃ (count81 : Int), ee82 = .returned (.int .i64 count81) ∧
  canStore ww83 (((blk ww6.heap.size).add 3).add 0) ∧
  thenW (ww83.setCell (((blk ww6.heap.size).add 3).add 0) (.int .i64 count81)) fun ww84 =>
  Calls Try.prog 53 #[.pointer (some (blk ww2.heap.size))] ww84 fun ee86 ww87 => ∃ (done85 : Int), ee86 = .returned (.int .i64 done85) ∧
  bif done85 != 0 then (
  canStore ww87 ((blk w.heap.size).add 0) ∧
  thenW (ww87.setCell ((blk w.heap.size).add 0) (.int .i64 0)) fun ww88 =>
  canStore ww88 ((blk w.heap.size).add 1) ∧
  thenW (ww88.setCell ((blk w.heap.size).add 1) (.int .i64 0)) fun ww89 =>
  canStore ww89 ((blk w.heap.size).add 2) ∧
  thenW (ww89.setCell ((blk w.heap.size).add 2) (.int .u64 0)) fun ww90 =>
  canStore ww90 ((blk w.heap.size).add 3) ∧
  thenW (ww90.setCell ((blk w.heap.size).add 3) (.int .i64 0)) fun ww91 =>
  canStore ww91 ((blk w.heap.size).add 4) ∧
  thenW (ww91.setCell ((blk w.heap.size).add 4) (.slice none 0 0)) fun ww92 =>
  canStore ww92 ((blk w.heap.size).add 5) ∧
  thenW (ww92.setCell ((blk w.heap.size).add 5) (.slice none 0 0)) fun ww93 =>
  ∃ (resKind94 : Int) (resWho95 : Int) (resPublic96 : Int) (resLimit97 : Int) (resWraps98a : Option Addr) (resWraps98n : Nat) (resWraps98c : Nat) (resOld99a : Option Addr) (resOld99n : Nat) (resOld99c : Nat), cellsAt ww93 (blk w.heap.size) [.int .i64 resKind94, .int .i64 resWho95, .int .u64 resPublic96, .int .i64 resLimit97, .slice resWraps98a resWraps98n resWraps98c, .slice resOld99a resOld99n resOld99c] 0 ∧
  R (.tuple #[.agg #[.int .i64 resKind94, .int .i64 resWho95, .int .u64 resPublic96, .int .i64 resLimit97, .slice resWraps98a resWraps98n resWraps98c, .slice resOld99a resOld99n resOld99c], .int .i64 done85]) ww93) else (
  ∃ (xKind100 : Int) (xWho101 : Int) (xPublic102 : Int) (xLimit103 : Int) (xWraps104a : Option Addr) (xWraps104n : Nat) (xWraps104c : Nat) (xOld105a : Option Addr) (xOld105n : Nat) (xOld105c : Nat), cellsAt ww87 (blk ww6.heap.size) [.int .i64 xKind100, .int .i64 xWho101, .int .u64 xPublic102, .int .i64 xLimit103, .slice xWraps104a xWraps104n xWraps104c, .slice xOld105a xOld105n xOld105c] 0 ∧
  Calls Try.prog 32 #[.agg #[.int .i64 xKind100, .int .i64 xWho101, .int .u64 xPublic102, .int .i64 xLimit103, .slice xWraps104a xWraps104n xWraps104c, .slice xOld105a xOld105n xOld105c]] ww87 fun ee107 ww108 => ∃ (right106 : Bool), ee107 = .returned (.bool right106) ∧
  bif !right106 then (
  canStore ww108 ((blk w.heap.size).add 0) ∧
  thenW (ww108.setCell ((blk w.heap.size).add 0) (.int .i64 0)) fun ww109 =>
  canStore ww109 ((blk w.heap.size).add 1) ∧
  thenW (ww109.setCell ((blk w.heap.size).add 1) (.int .i64 0)) fun ww110 =>
  canStore ww110 ((blk w.heap.size).add 2) ∧
  thenW (ww110.setCell ((blk w.heap.size).add 2) (.int .u64 0)) fun ww111 =>
  canStore ww111 ((blk w.heap.size).add 3) ∧
  thenW (ww111.setCell ((blk w.heap.size).add 3) (.int .i64 0)) fun ww112 =>
  canStore ww112 ((blk w.heap.size).add 4) ∧
  thenW (ww112.setCell ((blk w.heap.size).add 4) (.slice none 0 0)) fun ww113 =>
  canStore ww113 ((blk w.heap.size).add 5) ∧
  thenW (ww113.setCell ((blk w.heap.size).add 5) (.slice none 0 0)) fun ww114 =>
  ∃ (resKind115 : Int) (resWho116 : Int) (resPublic117 : Int) (resLimit118 : Int) (resWraps119a : Option Addr) (resWraps119n : Nat) (resWraps119c : Nat) (resOld120a : Option Addr) (resOld120n : Nat) (resOld120c : Nat), cellsAt ww114 (blk w.heap.size) [.int .i64 resKind115, .int .i64 resWho116, .int .u64 resPublic117, .int .i64 resLimit118, .slice resWraps119a resWraps119n resWraps119c, .slice resOld120a resOld120n resOld120c] 0 ∧
  R (.tuple #[.agg #[.int .i64 resKind115, .int .i64 resWho116, .int .u64 resPublic117, .int .i64 resLimit118, .slice resWraps119a resWraps119n resWraps119c, .slice resOld120a resOld120n resOld120c], .int .i64 4]) ww114) else (
  ∃ (xKind121 : Int) (xWho122 : Int) (xPublic123 : Int) (xLimit124 : Int) (xWraps125a : Option Addr) (xWraps125n : Nat) (xWraps125c : Nat) (xOld126a : Option Addr) (xOld126n : Nat) (xOld126c : Nat), cellsAt ww108 (blk ww6.heap.size) [.int .i64 xKind121, .int .i64 xWho122, .int .u64 xPublic123, .int .i64 xLimit124, .slice xWraps125a xWraps125n xWraps125c, .slice xOld126a xOld126n xOld126c] 0 ∧
  canStore ww108 ((blk w.heap.size).add 0) ∧
  thenW (ww108.setCell ((blk w.heap.size).add 0) (.int .i64 xKind121)) fun ww127 =>
  canStore ww127 ((blk w.heap.size).add 1) ∧
  thenW (ww127.setCell ((blk w.heap.size).add 1) (.int .i64 xWho122)) fun ww128 =>
  canStore ww128 ((blk w.heap.size).add 2) ∧
  thenW (ww128.setCell ((blk w.heap.size).add 2) (.int .u64 xPublic123)) fun ww129 =>
  canStore ww129 ((blk w.heap.size).add 3) ∧
  thenW (ww129.setCell ((blk w.heap.size).add 3) (.int .i64 xLimit124)) fun ww130 =>
  canStore ww130 ((blk w.heap.size).add 4) ∧
  thenW (ww130.setCell ((blk w.heap.size).add 4) (.slice xWraps125a xWraps125n xWraps125c)) fun ww131 =>
  canStore ww131 ((blk w.heap.size).add 5) ∧
  thenW (ww131.setCell ((blk w.heap.size).add 5) (.slice xOld126a xOld126n xOld126c)) fun ww132 =>
  ∃ (resKind133 : Int) (resWho134 : Int) (resPublic135 : Int) (resLimit136 : Int) (resWraps137a : Option Addr) (resWraps137n : Nat) (resWraps137c : Nat) (resOld138a : Option Addr) (resOld138n : Nat) (resOld138c : Nat), cellsAt ww132 (blk w.heap.size) [.int .i64 resKind133, .int .i64 resWho134, .int .u64 resPublic135, .int .i64 resLimit136, .slice resWraps137a resWraps137n resWraps137c, .slice resOld138a resOld138n resOld138c] 0 ∧
  R (.tuple #[.agg #[.int .i64 resKind133, .int .i64 resWho134, .int .u64 resPublic135, .int .i64 resLimit136, .slice resWraps137a resWraps137n resWraps137c, .slice resOld138a resOld138n resOld138c], .int .i64 0]) ww132))) else (
  bif Kind14 == 3 then (
  Calls Try.prog 50 #[.pointer (some (blk ww2.heap.size)), .int .i64 8] ww13 fun ee140 ww141 => ∃ (count139 : Int), ee140 = .returned (.int .i64 count139) ∧
  ∃ (I1 : Nat → List Value → World → Prop) (m143 : Nat), I1 m143 [.int .i64 0] ww141 ∧ ∀ (m144 : Nat) (ww145 : World) (i142 : Int), I1 m144 [.int .i64 i142] ww145 →
  bif decide (i142 < count139) then (
  ∃ (Kv146 : Int), ww145.cell? ((blk ww2.heap.size).add 1) = some (.int .i64 Kv146) ∧
  bif Kv146 == 0 then (
  Calls Try.prog 50 #[.pointer (some (blk ww2.heap.size)), .int .i64 7] ww145 fun ee148 ww149 => ∃ (count147 : Int), ee148 = .returned (.int .i64 count147) ∧
  thenW (ww149.drew) fun ww150 =>
  ∃ (Wraps151a : Option Addr) (Wraps151n : Nat) (Wraps151c : Nat), ww150.cell? ((blk ww6.heap.size).add 4) = some (.slice Wraps151a Wraps151n Wraps151c) ∧
  Calls Try.prog 52 #[.pointer (some (blk ww2.heap.size)), .int .i64 16] ww150 fun ee153 ww154 => ∃ (bytes152a : Option Addr) (bytes152n : Nat) (bytes152c : Nat), ee153 = .returned (.slice bytes152a bytes152n bytes152c) ∧
  ww154.cell? ((blk ww6.heap.size).add 4) = some (.slice Wraps151a Wraps151n Wraps151c) ∧
  thenW (ww154.alloc (.cells #[.int .i64 count147, .slice bytes152a bytes152n bytes152c] 84)) fun ww155 =>
  ww155.cell? ((blk ww6.heap.size).add 4) = some (.slice Wraps151a Wraps151n Wraps151c) ∧
  ∃ (a156a : Option Addr) (a156n : Nat) (a156c : Nat) (ww157 : World), (Builtin.append_ #[38, 38] 38 #[.slice Wraps151a Wraps151n Wraps151c, .slice (some (blk ww154.heap.size)) 1 1]).run Try.prog ww155 = .ok (.slice a156a a156n a156c) ww157 ∧
  canStore ww157 (((blk ww6.heap.size).add 4).add 0) ∧
  thenW (ww157.setCell (((blk ww6.heap.size).add 4).add 0) (.slice a156a a156n a156c)) fun ww158 =>
  ∃ m159, m159 < m144 ∧ I1 m159 [.int .i64 (IntKind.i64.wrap (i142 + 1))] ww158) else (
  Calls Try.prog 52 #[.pointer (some (blk ww2.heap.size)), .int .i64 24] ww145 fun ee161 ww162 => ∃ (bytes160a : Option Addr) (bytes160n : Nat) (bytes160c : Nat), ee161 = .returned (.slice bytes160a bytes160n bytes160c) ∧
  canStore ww162 (((blk ww6.heap.size).add 5).add 0) ∧
  thenW (ww162.setCell (((blk ww6.heap.size).add 5).add 0) (.slice bytes160a bytes160n bytes160c)) fun ww163 =>
  Calls Try.prog 53 #[.pointer (some (blk ww2.heap.size))] ww163 fun ee165 ww166 => ∃ (done164 : Int), ee165 = .returned (.int .i64 done164) ∧
  bif done164 != 0 then (
  canStore ww166 ((blk w.heap.size).add 0) ∧
  thenW (ww166.setCell ((blk w.heap.size).add 0) (.int .i64 0)) fun ww167 =>
  canStore ww167 ((blk w.heap.size).add 1) ∧
  thenW (ww167.setCell ((blk w.heap.size).add 1) (.int .i64 0)) fun ww168 =>
  canStore ww168 ((blk w.heap.size).add 2) ∧
  thenW (ww168.setCell ((blk w.heap.size).add 2) (.int .u64 0)) fun ww169 =>
  canStore ww169 ((blk w.heap.size).add 3) ∧
  thenW (ww169.setCell ((blk w.heap.size).add 3) (.int .i64 0)) fun ww170 =>
  canStore ww170 ((blk w.heap.size).add 4) ∧
  thenW (ww170.setCell ((blk w.heap.size).add 4) (.slice none 0 0)) fun ww171 =>
  canStore ww171 ((blk w.heap.size).add 5) ∧
  thenW (ww171.setCell ((blk w.heap.size).add 5) (.slice none 0 0)) fun ww172 =>
  ∃ (resKind173 : Int) (resWho174 : Int) (resPublic175 : Int) (resLimit176 : Int) (resWraps177a : Option Addr) (resWraps177n : Nat) (resWraps177c : Nat) (resOld178a : Option Addr) (resOld178n : Nat) (resOld178c : Nat), cellsAt ww172 (blk w.heap.size) [.int .i64 resKind173, .int .i64 resWho174, .int .u64 resPublic175, .int .i64 resLimit176, .slice resWraps177a resWraps177n resWraps177c, .slice resOld178a resOld178n resOld178c] 0 ∧
  R (.tuple #[.agg #[.int .i64 resKind173, .int .i64 resWho174, .int .u64 resPublic175, .int .i64 resLimit176, .slice resWraps177a resWraps177n resWraps177c, .slice resOld178a resOld178n resOld178c], .int .i64 done164]) ww172) else (
  ∃ (xKind179 : Int) (xWho180 : Int) (xPublic181 : Int) (xLimit182 : Int) (xWraps183a : Option Addr) (xWraps183n : Nat) (xWraps183c : Nat) (xOld184a : Option Addr) (xOld184n : Nat) (xOld184c : Nat), cellsAt ww166 (blk ww6.heap.size) [.int .i64 xKind179, .int .i64 xWho180, .int .u64 xPublic181, .int .i64 xLimit182, .slice xWraps183a xWraps183n xWraps183c, .slice xOld184a xOld184n xOld184c] 0 ∧
  Calls Try.prog 32 #[.agg #[.int .i64 xKind179, .int .i64 xWho180, .int .u64 xPublic181, .int .i64 xLimit182, .slice xWraps183a xWraps183n xWraps183c, .slice xOld184a xOld184n xOld184c]] ww166 fun ee186 ww187 => ∃ (right185 : Bool), ee186 = .returned (.bool right185) ∧
  bif !right185 then (
  canStore ww187 ((blk w.heap.size).add 0) ∧
  thenW (ww187.setCell ((blk w.heap.size).add 0) (.int .i64 0)) fun ww188 =>
  canStore ww188 ((blk w.heap.size).add 1) ∧
  thenW (ww188.setCell ((blk w.heap.size).add 1) (.int .i64 0)) fun ww189 =>
  canStore ww189 ((blk w.heap.size).add 2) ∧
  thenW (ww189.setCell ((blk w.heap.size).add 2) (.int .u64 0)) fun ww190 =>
  canStore ww190 ((blk w.heap.size).add 3) ∧
  thenW (ww190.setCell ((blk w.heap.size).add 3) (.int .i64 0)) fun ww191 =>
  canStore ww191 ((blk w.heap.size).add 4) ∧
  thenW (ww191.setCell ((blk w.heap.size).add 4) (.slice none 0 0)) fun ww192 =>
  canStore ww192 ((blk w.heap.size).add 5) ∧
  thenW (ww192.setCell ((blk w.heap.size).add 5) (.slice none 0 0)) fun ww193 =>
  ∃ (resKind194 : Int) (resWho195 : Int) (resPublic196 : Int) (resLimit197 : Int) (resWraps198a : Option Addr) (resWraps198n : Nat) (resWraps198c : Nat) (resOld199a : Option Addr) (resOld199n : Nat) (resOld199c : Nat), cellsAt ww193 (blk w.heap.size) [.int .i64 resKind194, .int .i64 resWho195, .int .u64 resPublic196, .int .i64 resLimit197, .slice resWraps198a resWraps198n resWraps198c, .slice resOld199a resOld199n resOld199c] 0 ∧
  R (.tuple #[.agg #[.int .i64 resKind194, .int .i64 resWho195, .int .u64 resPublic196, .int .i64 resLimit197, .slice resWraps198a resWraps198n resWraps198c, .slice resOld199a resOld199n resOld199c], .int .i64 4]) ww193) else (
  ∃ (xKind200 : Int) (xWho201 : Int) (xPublic202 : Int) (xLimit203 : Int) (xWraps204a : Option Addr) (xWraps204n : Nat) (xWraps204c : Nat) (xOld205a : Option Addr) (xOld205n : Nat) (xOld205c : Nat), cellsAt ww187 (blk ww6.heap.size) [.int .i64 xKind200, .int .i64 xWho201, .int .u64 xPublic202, .int .i64 xLimit203, .slice xWraps204a xWraps204n xWraps204c, .slice xOld205a xOld205n xOld205c] 0 ∧
  canStore ww187 ((blk w.heap.size).add 0) ∧
  thenW (ww187.setCell ((blk w.heap.size).add 0) (.int .i64 xKind200)) fun ww206 =>
  canStore ww206 ((blk w.heap.size).add 1) ∧
  thenW (ww206.setCell ((blk w.heap.size).add 1) (.int .i64 xWho201)) fun ww207 =>
  canStore ww207 ((blk w.heap.size).add 2) ∧
  thenW (ww207.setCell ((blk w.heap.size).add 2) (.int .u64 xPublic202)) fun ww208 =>
  canStore ww208 ((blk w.heap.size).add 3) ∧
  thenW (ww208.setCell ((blk w.heap.size).add 3) (.int .i64 xLimit203)) fun ww209 =>
  canStore ww209 ((blk w.heap.size).add 4) ∧
  thenW (ww209.setCell ((blk w.heap.size).add 4) (.slice xWraps204a xWraps204n xWraps204c)) fun ww210 =>
  canStore ww210 ((blk w.heap.size).add 5) ∧
  thenW (ww210.setCell ((blk w.heap.size).add 5) (.slice xOld205a xOld205n xOld205c)) fun ww211 =>
  ∃ (resKind212 : Int) (resWho213 : Int) (resPublic214 : Int) (resLimit215 : Int) (resWraps216a : Option Addr) (resWraps216n : Nat) (resWraps216c : Nat) (resOld217a : Option Addr) (resOld217n : Nat) (resOld217c : Nat), cellsAt ww211 (blk w.heap.size) [.int .i64 resKind212, .int .i64 resWho213, .int .u64 resPublic214, .int .i64 resLimit215, .slice resWraps216a resWraps216n resWraps216c, .slice resOld217a resOld217n resOld217c] 0 ∧
  R (.tuple #[.agg #[.int .i64 resKind212, .int .i64 resWho213, .int .u64 resPublic214, .int .i64 resLimit215, .slice resWraps216a resWraps216n resWraps216c, .slice resOld217a resOld217n resOld217c], .int .i64 0]) ww211)))) else (
  Calls Try.prog 52 #[.pointer (some (blk ww2.heap.size)), .int .i64 24] ww145 fun ee219 ww220 => ∃ (bytes218a : Option Addr) (bytes218n : Nat) (bytes218c : Nat), ee219 = .returned (.slice bytes218a bytes218n bytes218c) ∧
  canStore ww220 (((blk ww6.heap.size).add 5).add 0) ∧
  thenW (ww220.setCell (((blk ww6.heap.size).add 5).add 0) (.slice bytes218a bytes218n bytes218c)) fun ww221 =>
  Calls Try.prog 53 #[.pointer (some (blk ww2.heap.size))] ww221 fun ee223 ww224 => ∃ (done222 : Int), ee223 = .returned (.int .i64 done222) ∧
  bif done222 != 0 then (
  canStore ww224 ((blk w.heap.size).add 0) ∧
  thenW (ww224.setCell ((blk w.heap.size).add 0) (.int .i64 0)) fun ww225 =>
  canStore ww225 ((blk w.heap.size).add 1) ∧
  thenW (ww225.setCell ((blk w.heap.size).add 1) (.int .i64 0)) fun ww226 =>
  canStore ww226 ((blk w.heap.size).add 2) ∧
  thenW (ww226.setCell ((blk w.heap.size).add 2) (.int .u64 0)) fun ww227 =>
  canStore ww227 ((blk w.heap.size).add 3) ∧
  thenW (ww227.setCell ((blk w.heap.size).add 3) (.int .i64 0)) fun ww228 =>
  canStore ww228 ((blk w.heap.size).add 4) ∧
  thenW (ww228.setCell ((blk w.heap.size).add 4) (.slice none 0 0)) fun ww229 =>
  canStore ww229 ((blk w.heap.size).add 5) ∧
  thenW (ww229.setCell ((blk w.heap.size).add 5) (.slice none 0 0)) fun ww230 =>
  ∃ (resKind231 : Int) (resWho232 : Int) (resPublic233 : Int) (resLimit234 : Int) (resWraps235a : Option Addr) (resWraps235n : Nat) (resWraps235c : Nat) (resOld236a : Option Addr) (resOld236n : Nat) (resOld236c : Nat), cellsAt ww230 (blk w.heap.size) [.int .i64 resKind231, .int .i64 resWho232, .int .u64 resPublic233, .int .i64 resLimit234, .slice resWraps235a resWraps235n resWraps235c, .slice resOld236a resOld236n resOld236c] 0 ∧
  R (.tuple #[.agg #[.int .i64 resKind231, .int .i64 resWho232, .int .u64 resPublic233, .int .i64 resLimit234, .slice resWraps235a resWraps235n resWraps235c, .slice resOld236a resOld236n resOld236c], .int .i64 done222]) ww230) else (
  ∃ (xKind237 : Int) (xWho238 : Int) (xPublic239 : Int) (xLimit240 : Int) (xWraps241a : Option Addr) (xWraps241n : Nat) (xWraps241c : Nat) (xOld242a : Option Addr) (xOld242n : Nat) (xOld242c : Nat), cellsAt ww224 (blk ww6.heap.size) [.int .i64 xKind237, .int .i64 xWho238, .int .u64 xPublic239, .int .i64 xLimit240, .slice xWraps241a xWraps241n xWraps241c, .slice xOld242a xOld242n xOld242c] 0 ∧
  Calls Try.prog 32 #[.agg #[.int .i64 xKind237, .int .i64 xWho238, .int .u64 xPublic239, .int .i64 xLimit240, .slice xWraps241a xWraps241n xWraps241c, .slice xOld242a xOld242n xOld242c]] ww224 fun ee244 ww245 => ∃ (right243 : Bool), ee244 = .returned (.bool right243) ∧
  bif !right243 then (
  canStore ww245 ((blk w.heap.size).add 0) ∧
  thenW (ww245.setCell ((blk w.heap.size).add 0) (.int .i64 0)) fun ww246 =>
  canStore ww246 ((blk w.heap.size).add 1) ∧
  thenW (ww246.setCell ((blk w.heap.size).add 1) (.int .i64 0)) fun ww247 =>
  canStore ww247 ((blk w.heap.size).add 2) ∧
  thenW (ww247.setCell ((blk w.heap.size).add 2) (.int .u64 0)) fun ww248 =>
  canStore ww248 ((blk w.heap.size).add 3) ∧
  thenW (ww248.setCell ((blk w.heap.size).add 3) (.int .i64 0)) fun ww249 =>
  canStore ww249 ((blk w.heap.size).add 4) ∧
  thenW (ww249.setCell ((blk w.heap.size).add 4) (.slice none 0 0)) fun ww250 =>
  canStore ww250 ((blk w.heap.size).add 5) ∧
  thenW (ww250.setCell ((blk w.heap.size).add 5) (.slice none 0 0)) fun ww251 =>
  ∃ (resKind252 : Int) (resWho253 : Int) (resPublic254 : Int) (resLimit255 : Int) (resWraps256a : Option Addr) (resWraps256n : Nat) (resWraps256c : Nat) (resOld257a : Option Addr) (resOld257n : Nat) (resOld257c : Nat), cellsAt ww251 (blk w.heap.size) [.int .i64 resKind252, .int .i64 resWho253, .int .u64 resPublic254, .int .i64 resLimit255, .slice resWraps256a resWraps256n resWraps256c, .slice resOld257a resOld257n resOld257c] 0 ∧
  R (.tuple #[.agg #[.int .i64 resKind252, .int .i64 resWho253, .int .u64 resPublic254, .int .i64 resLimit255, .slice resWraps256a resWraps256n resWraps256c, .slice resOld257a resOld257n resOld257c], .int .i64 4]) ww251) else (
  ∃ (xKind258 : Int) (xWho259 : Int) (xPublic260 : Int) (xLimit261 : Int) (xWraps262a : Option Addr) (xWraps262n : Nat) (xWraps262c : Nat) (xOld263a : Option Addr) (xOld263n : Nat) (xOld263c : Nat), cellsAt ww245 (blk ww6.heap.size) [.int .i64 xKind258, .int .i64 xWho259, .int .u64 xPublic260, .int .i64 xLimit261, .slice xWraps262a xWraps262n xWraps262c, .slice xOld263a xOld263n xOld263c] 0 ∧
  canStore ww245 ((blk w.heap.size).add 0) ∧
  thenW (ww245.setCell ((blk w.heap.size).add 0) (.int .i64 xKind258)) fun ww264 =>
  canStore ww264 ((blk w.heap.size).add 1) ∧
  thenW (ww264.setCell ((blk w.heap.size).add 1) (.int .i64 xWho259)) fun ww265 =>
  canStore ww265 ((blk w.heap.size).add 2) ∧
  thenW (ww265.setCell ((blk w.heap.size).add 2) (.int .u64 xPublic260)) fun ww266 =>
  canStore ww266 ((blk w.heap.size).add 3) ∧
  thenW (ww266.setCell ((blk w.heap.size).add 3) (.int .i64 xLimit261)) fun ww267 =>
  canStore ww267 ((blk w.heap.size).add 4) ∧
  thenW (ww267.setCell ((blk w.heap.size).add 4) (.slice xWraps262a xWraps262n xWraps262c)) fun ww268 =>
  canStore ww268 ((blk w.heap.size).add 5) ∧
  thenW (ww268.setCell ((blk w.heap.size).add 5) (.slice xOld263a xOld263n xOld263c)) fun ww269 =>
  ∃ (resKind270 : Int) (resWho271 : Int) (resPublic272 : Int) (resLimit273 : Int) (resWraps274a : Option Addr) (resWraps274n : Nat) (resWraps274c : Nat) (resOld275a : Option Addr) (resOld275n : Nat) (resOld275c : Nat), cellsAt ww269 (blk w.heap.size) [.int .i64 resKind270, .int .i64 resWho271, .int .u64 resPublic272, .int .i64 resLimit273, .slice resWraps274a resWraps274n resWraps274c, .slice resOld275a resOld275n resOld275c] 0 ∧
  R (.tuple #[.agg #[.int .i64 resKind270, .int .i64 resWho271, .int .u64 resPublic272, .int .i64 resLimit273, .slice resWraps274a resWraps274n resWraps274c, .slice resOld275a resOld275n resOld275c], .int .i64 0]) ww269)))) else (
  Calls Try.prog 53 #[.pointer (some (blk ww2.heap.size))] ww13 fun ee277 ww278 => ∃ (done276 : Int), ee277 = .returned (.int .i64 done276) ∧
  bif done276 != 0 then (
  canStore ww278 ((blk w.heap.size).add 0) ∧
  thenW (ww278.setCell ((blk w.heap.size).add 0) (.int .i64 0)) fun ww279 =>
  canStore ww279 ((blk w.heap.size).add 1) ∧
  thenW (ww279.setCell ((blk w.heap.size).add 1) (.int .i64 0)) fun ww280 =>
  canStore ww280 ((blk w.heap.size).add 2) ∧
  thenW (ww280.setCell ((blk w.heap.size).add 2) (.int .u64 0)) fun ww281 =>
  canStore ww281 ((blk w.heap.size).add 3) ∧
  thenW (ww281.setCell ((blk w.heap.size).add 3) (.int .i64 0)) fun ww282 =>
  canStore ww282 ((blk w.heap.size).add 4) ∧
  thenW (ww282.setCell ((blk w.heap.size).add 4) (.slice none 0 0)) fun ww283 =>
  canStore ww283 ((blk w.heap.size).add 5) ∧
  thenW (ww283.setCell ((blk w.heap.size).add 5) (.slice none 0 0)) fun ww284 =>
  ∃ (resKind285 : Int) (resWho286 : Int) (resPublic287 : Int) (resLimit288 : Int) (resWraps289a : Option Addr) (resWraps289n : Nat) (resWraps289c : Nat) (resOld290a : Option Addr) (resOld290n : Nat) (resOld290c : Nat), cellsAt ww284 (blk w.heap.size) [.int .i64 resKind285, .int .i64 resWho286, .int .u64 resPublic287, .int .i64 resLimit288, .slice resWraps289a resWraps289n resWraps289c, .slice resOld290a resOld290n resOld290c] 0 ∧
  R (.tuple #[.agg #[.int .i64 resKind285, .int .i64 resWho286, .int .u64 resPublic287, .int .i64 resLimit288, .slice resWraps289a resWraps289n resWraps289c, .slice resOld290a resOld290n resOld290c], .int .i64 done276]) ww284) else (
  ∃ (xKind291 : Int) (xWho292 : Int) (xPublic293 : Int) (xLimit294 : Int) (xWraps295a : Option Addr) (xWraps295n : Nat) (xWraps295c : Nat) (xOld296a : Option Addr) (xOld296n : Nat) (xOld296c : Nat), cellsAt ww278 (blk ww6.heap.size) [.int .i64 xKind291, .int .i64 xWho292, .int .u64 xPublic293, .int .i64 xLimit294, .slice xWraps295a xWraps295n xWraps295c, .slice xOld296a xOld296n xOld296c] 0 ∧
  Calls Try.prog 32 #[.agg #[.int .i64 xKind291, .int .i64 xWho292, .int .u64 xPublic293, .int .i64 xLimit294, .slice xWraps295a xWraps295n xWraps295c, .slice xOld296a xOld296n xOld296c]] ww278 fun ee298 ww299 => ∃ (right297 : Bool), ee298 = .returned (.bool right297) ∧
  bif !right297 then (
  canStore ww299 ((blk w.heap.size).add 0) ∧
  thenW (ww299.setCell ((blk w.heap.size).add 0) (.int .i64 0)) fun ww300 =>
  canStore ww300 ((blk w.heap.size).add 1) ∧
  thenW (ww300.setCell ((blk w.heap.size).add 1) (.int .i64 0)) fun ww301 =>
  canStore ww301 ((blk w.heap.size).add 2) ∧
  thenW (ww301.setCell ((blk w.heap.size).add 2) (.int .u64 0)) fun ww302 =>
  canStore ww302 ((blk w.heap.size).add 3) ∧
  thenW (ww302.setCell ((blk w.heap.size).add 3) (.int .i64 0)) fun ww303 =>
  canStore ww303 ((blk w.heap.size).add 4) ∧
  thenW (ww303.setCell ((blk w.heap.size).add 4) (.slice none 0 0)) fun ww304 =>
  canStore ww304 ((blk w.heap.size).add 5) ∧
  thenW (ww304.setCell ((blk w.heap.size).add 5) (.slice none 0 0)) fun ww305 =>
  ∃ (resKind306 : Int) (resWho307 : Int) (resPublic308 : Int) (resLimit309 : Int) (resWraps310a : Option Addr) (resWraps310n : Nat) (resWraps310c : Nat) (resOld311a : Option Addr) (resOld311n : Nat) (resOld311c : Nat), cellsAt ww305 (blk w.heap.size) [.int .i64 resKind306, .int .i64 resWho307, .int .u64 resPublic308, .int .i64 resLimit309, .slice resWraps310a resWraps310n resWraps310c, .slice resOld311a resOld311n resOld311c] 0 ∧
  R (.tuple #[.agg #[.int .i64 resKind306, .int .i64 resWho307, .int .u64 resPublic308, .int .i64 resLimit309, .slice resWraps310a resWraps310n resWraps310c, .slice resOld311a resOld311n resOld311c], .int .i64 4]) ww305) else (
  ∃ (xKind312 : Int) (xWho313 : Int) (xPublic314 : Int) (xLimit315 : Int) (xWraps316a : Option Addr) (xWraps316n : Nat) (xWraps316c : Nat) (xOld317a : Option Addr) (xOld317n : Nat) (xOld317c : Nat), cellsAt ww299 (blk ww6.heap.size) [.int .i64 xKind312, .int .i64 xWho313, .int .u64 xPublic314, .int .i64 xLimit315, .slice xWraps316a xWraps316n xWraps316c, .slice xOld317a xOld317n xOld317c] 0 ∧
  canStore ww299 ((blk w.heap.size).add 0) ∧
  thenW (ww299.setCell ((blk w.heap.size).add 0) (.int .i64 xKind312)) fun ww318 =>
  canStore ww318 ((blk w.heap.size).add 1) ∧
  thenW (ww318.setCell ((blk w.heap.size).add 1) (.int .i64 xWho313)) fun ww319 =>
  canStore ww319 ((blk w.heap.size).add 2) ∧
  thenW (ww319.setCell ((blk w.heap.size).add 2) (.int .u64 xPublic314)) fun ww320 =>
  canStore ww320 ((blk w.heap.size).add 3) ∧
  thenW (ww320.setCell ((blk w.heap.size).add 3) (.int .i64 xLimit315)) fun ww321 =>
  canStore ww321 ((blk w.heap.size).add 4) ∧
  thenW (ww321.setCell ((blk w.heap.size).add 4) (.slice xWraps316a xWraps316n xWraps316c)) fun ww322 =>
  canStore ww322 ((blk w.heap.size).add 5) ∧
  thenW (ww322.setCell ((blk w.heap.size).add 5) (.slice xOld317a xOld317n xOld317c)) fun ww323 =>
  ∃ (resKind324 : Int) (resWho325 : Int) (resPublic326 : Int) (resLimit327 : Int) (resWraps328a : Option Addr) (resWraps328n : Nat) (resWraps328c : Nat) (resOld329a : Option Addr) (resOld329n : Nat) (resOld329c : Nat), cellsAt ww323 (blk w.heap.size) [.int .i64 resKind324, .int .i64 resWho325, .int .u64 resPublic326, .int .i64 resLimit327, .slice resWraps328a resWraps328n resWraps328c, .slice resOld329a resOld329n resOld329c] 0 ∧
  R (.tuple #[.agg #[.int .i64 resKind324, .int .i64 resWho325, .int .u64 resPublic326, .int .i64 resLimit327, .slice resWraps328a resWraps328n resWraps328c, .slice resOld329a resOld329n resOld329c], .int .i64 0]) ww323)))))

theorem cachetteref12_Read.eq (b1a : Option Addr) (b1n : Nat) (b1c : Nat) (R : Value → World → Prop) (w : World) : mfunc Try.prog [(1, [2, 4, 5, 6], [(7, (.one (.int .i64)))])] 30 [.slice b1a b1n b1c] R w = cachetteref12_Read.M b1a b1n b1c R w := by kernel_rfl
theorem cachetteref12_Read.ok (b1a : Option Addr) (b1n : Nat) (b1c : Nat) {R : Value → World → Prop} {w : World} (h : cachetteref12_Read.M b1a b1n b1c R w) : Calls Try.prog 30 #[.slice b1a b1n b1c] w fun e w' => ∃ v, e = .returned v ∧ R v w' :=
  mfunc_ok follows (H := [(1, [2, 4, 5, 6], [(7, (.one (.int .i64)))])]) (args := [.slice b1a b1n b1c]) (by rw [cachetteref12_Read.eq]; exact h)

def cachetteref12_Read.N (b1a : Option Addr) (b1n : Nat) (b1c : Nat) (R : Value → World → Prop) (w : World) : Prop :=
  ∀ (ww3 : World) (q4 : Nat) (p5 : Nat), Ext no w ww3 → Blk ww3 q4 106 [.slice b1a b1n b1c, .int .i64 0] → w.heap.size ≤ q4 → q4 < ww3.heap.size → Privq w q4 [p5] →
  Calls Try.prog 50 #[.pointer (some (blk q4)), .int .i64 3] ww3 fun ee7 ww8 => ∃ (count6 : Int), ee7 = .returned (.int .i64 count6) ∧
  Keep [p5] ww3 ww8 ∧
  (count6 = 1 →
    ∀ (ww15 : World) (p17 : Nat), Ext no ww8 ww15 → Priv ww8 ww15 [p17] →
    Calls Try.prog 50 #[.pointer (some (blk q4)), .int .i64 7] ww15 fun ee19 ww20 => ∃ (count18 : Int), ee19 = .returned (.int .i64 count18) ∧
    Keep [p5, p17] ww15 ww20 ∧
    ∀ (ww21 : World), Ext (fun b => b = p17) ww20 ww21 →
    Calls Try.prog 51 #[.pointer (some (blk q4))] ww21 fun ee23 ww24 => ∃ (num22 : Int), ee23 = .returned (.int .u64 num22) ∧
    Keep [p5, p17] ww21 ww24 ∧
    ∀ (ww25 : World), Ext (fun b => b = p17) ww24 ww25 →
    Calls Try.prog 53 #[.pointer (some (blk q4))] ww25 fun ee27 ww28 => ∃ (done26 : Int), ee27 = .returned (.int .i64 done26) ∧
    Keep [p5, p17] ww25 ww28 ∧
    (done26 ≠ 0 →
      ∀ (ww35 : World), Ext (fun b => b = p5) ww28 ww35 →
      R (.tuple #[.agg #[.int .i64 0, .int .i64 0, .int .u64 0, .int .i64 0, .slice none 0 0, .slice none 0 0], .int .i64 done26]) ww35) ∧
    (done26 = 0 →
      Calls Try.prog 32 #[.agg #[.int .i64 count6, .int .i64 count18, .int .u64 num22, .int .i64 0, .slice none 0 0, .slice none 0 0]] ww28 fun ee37 ww38 => ∃ (right36 : Bool), ee37 = .returned (.bool right36) ∧
      Keep [p5, p17] ww28 ww38 ∧
      (right36 = false →
        ∀ (ww45 : World), Ext (fun b => b = p5) ww38 ww45 →
        R (.tuple #[.agg #[.int .i64 0, .int .i64 0, .int .u64 0, .int .i64 0, .slice none 0 0, .slice none 0 0], .int .i64 4]) ww45) ∧
      (right36 = true →
        ∀ (ww51 : World), Ext (fun b => b = p5) ww38 ww51 →
        R (.tuple #[.agg #[.int .i64 count6, .int .i64 count18, .int .u64 num22, .int .i64 0, .slice none 0 0, .slice none 0 0], .int .i64 0]) ww51))) ∧
  (count6 ≠ 1 →
    (count6 = 2 →
      ∀ (ww15 : World) (p53 : Nat), Ext no ww8 ww15 → Priv ww8 ww15 [p53] →
      Calls Try.prog 50 #[.pointer (some (blk q4)), .int .i64 7] ww15 fun ee55 ww56 => ∃ (count54 : Int), ee55 = .returned (.int .i64 count54) ∧
      Keep [p5, p53] ww15 ww56 ∧
      ∀ (ww57 : World), Ext (fun b => b = p53) ww56 ww57 →
      Calls Try.prog 50 #[.pointer (some (blk q4)), .int .i64 200] ww57 fun ee59 ww60 => ∃ (count58 : Int), ee59 = .returned (.int .i64 count58) ∧
      Keep [p5, p53] ww57 ww60 ∧
      ∀ (ww61 : World), Ext (fun b => b = p53) ww60 ww61 →
      Calls Try.prog 53 #[.pointer (some (blk q4))] ww61 fun ee63 ww64 => ∃ (done62 : Int), ee63 = .returned (.int .i64 done62) ∧
      Keep [p5, p53] ww61 ww64 ∧
      (done62 ≠ 0 →
        ∀ (ww71 : World), Ext (fun b => b = p5) ww64 ww71 →
        R (.tuple #[.agg #[.int .i64 0, .int .i64 0, .int .u64 0, .int .i64 0, .slice none 0 0, .slice none 0 0], .int .i64 done62]) ww71) ∧
      (done62 = 0 →
        Calls Try.prog 32 #[.agg #[.int .i64 count6, .int .i64 count54, .int .u64 0, .int .i64 count58, .slice none 0 0, .slice none 0 0]] ww64 fun ee73 ww74 => ∃ (right72 : Bool), ee73 = .returned (.bool right72) ∧
        Keep [p5, p53] ww64 ww74 ∧
        (right72 = false →
          ∀ (ww81 : World), Ext (fun b => b = p5) ww74 ww81 →
          R (.tuple #[.agg #[.int .i64 0, .int .i64 0, .int .u64 0, .int .i64 0, .slice none 0 0, .slice none 0 0], .int .i64 4]) ww81) ∧
        (right72 = true →
          ∀ (ww87 : World), Ext (fun b => b = p5) ww74 ww87 →
          R (.tuple #[.agg #[.int .i64 count6, .int .i64 count54, .int .u64 0, .int .i64 count58, .slice none 0 0, .slice none 0 0], .int .i64 0]) ww87))) ∧
    (count6 ≠ 2 →
      (count6 = 3 →
        ∀ (ww15 : World) (p89 : Nat), Ext no ww8 ww15 → Priv ww8 ww15 [p89] →
        Calls Try.prog 50 #[.pointer (some (blk q4)), .int .i64 8] ww15 fun ee91 ww92 => ∃ (count90 : Int), ee91 = .returned (.int .i64 count90) ∧
        Keep [p5, p89] ww15 ww92 ∧
        ∃ (I1 : Nat → List Value → World → Prop) (m106 : Nat), I1 m106 [.int .i64 0, .int .i64 0, .int .i64 0, .int .u64 0, .int .i64 0, .slice none 0 0, .slice none 0 0, .int .i64 count6, .int .i64 0, .int .u64 0, .int .i64 0, .slice none 0 0, .slice none 0 0] ww92 ∧ ∀ (m107 : Nat) (ww108 : World) (i93 : Int) (Kind94 : Int) (Who95 : Int) (Public96 : Int) (Limit97 : Int) (Wraps98a : Option Addr) (Wraps98n : Nat) (Wraps98c : Nat) (Old99a : Option Addr) (Old99n : Nat) (Old99c : Nat) (Kind100 : Int) (Who101 : Int) (Public102 : Int) (Limit103 : Int) (Wraps104a : Option Addr) (Wraps104n : Nat) (Wraps104c : Nat) (Old105a : Option Addr) (Old105n : Nat) (Old105c : Nat), I1 m107 [.int .i64 i93, .int .i64 Kind94, .int .i64 Who95, .int .u64 Public96, .int .i64 Limit97, .slice Wraps98a Wraps98n Wraps98c, .slice Old99a Old99n Old99c, .int .i64 Kind100, .int .i64 Who101, .int .u64 Public102, .int .i64 Limit103, .slice Wraps104a Wraps104n Wraps104c, .slice Old105a Old105n Old105c] ww108 →
        (i93 < count90 →
          ∃ (Kv111 : Int), ww108.cell? ((blk q4).add 1) = some (.int .i64 Kv111) ∧
          (Kv111 = 0 →
            Calls Try.prog 50 #[.pointer (some (blk q4)), .int .i64 7] ww108 fun ee114 ww115 => ∃ (count113 : Int), ee114 = .returned (.int .i64 count113) ∧
            Keep [p5, p89] ww108 ww115 ∧
            ∀ (ww116 : World), Ext no ww115 ww116 →
            Calls Try.prog 52 #[.pointer (some (blk q4)), .int .i64 16] ww116 fun ee118 ww119 => ∃ (bytes117a : Option Addr) (bytes117n : Nat) (bytes117c : Nat), ee118 = .returned (.slice bytes117a bytes117n bytes117c) ∧
            Keep [p5, p89] ww116 ww119 ∧
            ∀ (ww120 : World) (q121 : Nat), Ext no ww119 ww120 → Blk ww120 q121 84 [.int .i64 count113, .slice bytes117a bytes117n bytes117c] → ww119.heap.size ≤ q121 → q121 < ww120.heap.size →
            ∃ (a122a : Option Addr) (a122n : Nat) (a122c : Nat) (ww123 : World), (Builtin.append_ #[38, 38] 38 #[.slice Wraps104a Wraps104n Wraps104c, .slice (some (blk q121)) 1 1]).run Try.prog ww120 = .ok (.slice a122a a122n a122c) ww123 ∧
            Keep [p5, p89] ww120 ww123 ∧
            (-9223372036854775808 : Int) ≤ (i93 + 1) ∧ (i93 + 1) < 9223372036854775808 ∧
            ∀ (ww124 : World), Ext (fun b => b = p89) ww123 ww124 →
            ∃ m125, m125 < m107 ∧ I1 m125 [.int .i64 (i93 + 1), .int .i64 Kind94, .int .i64 Who95, .int .u64 Public96, .int .i64 Limit97, .slice Wraps98a Wraps98n Wraps98c, .slice Old99a Old99n Old99c, .int .i64 Kind100, .int .i64 Who101, .int .u64 Public102, .int .i64 Limit103, .slice a122a a122n a122c, .slice Old105a Old105n Old105c] ww124) ∧
          (Kv111 ≠ 0 →
            Calls Try.prog 52 #[.pointer (some (blk q4)), .int .i64 24] ww108 fun ee127 ww128 => ∃ (bytes126a : Option Addr) (bytes126n : Nat) (bytes126c : Nat), ee127 = .returned (.slice bytes126a bytes126n bytes126c) ∧
            Keep [p5, p89] ww108 ww128 ∧
            ∀ (ww129 : World), Ext (fun b => b = p89) ww128 ww129 →
            Calls Try.prog 53 #[.pointer (some (blk q4))] ww129 fun ee131 ww132 => ∃ (done130 : Int), ee131 = .returned (.int .i64 done130) ∧
            Keep [p5, p89] ww129 ww132 ∧
            (done130 ≠ 0 →
              ∀ (ww139 : World), Ext (fun b => b = p5) ww132 ww139 →
              R (.tuple #[.agg #[.int .i64 0, .int .i64 0, .int .u64 0, .int .i64 0, .slice none 0 0, .slice none 0 0], .int .i64 done130]) ww139) ∧
            (done130 = 0 →
              Calls Try.prog 32 #[.agg #[.int .i64 Kind100, .int .i64 Who101, .int .u64 Public102, .int .i64 Limit103, .slice Wraps104a Wraps104n Wraps104c, .slice bytes126a bytes126n bytes126c]] ww132 fun ee141 ww142 => ∃ (right140 : Bool), ee141 = .returned (.bool right140) ∧
              Keep [p5, p89] ww132 ww142 ∧
              (right140 = false →
                ∀ (ww149 : World), Ext (fun b => b = p5) ww142 ww149 →
                R (.tuple #[.agg #[.int .i64 0, .int .i64 0, .int .u64 0, .int .i64 0, .slice none 0 0, .slice none 0 0], .int .i64 4]) ww149) ∧
              (right140 = true →
                ∀ (ww155 : World), Ext (fun b => b = p5) ww142 ww155 →
                R (.tuple #[.agg #[.int .i64 Kind100, .int .i64 Who101, .int .u64 Public102, .int .i64 Limit103, .slice Wraps104a Wraps104n Wraps104c, .slice bytes126a bytes126n bytes126c], .int .i64 0]) ww155)))) ∧
        (count90 ≤ i93 →
          Calls Try.prog 52 #[.pointer (some (blk q4)), .int .i64 24] ww108 fun ee157 ww158 => ∃ (bytes156a : Option Addr) (bytes156n : Nat) (bytes156c : Nat), ee157 = .returned (.slice bytes156a bytes156n bytes156c) ∧
          Keep [p5, p89] ww108 ww158 ∧
          ∀ (ww159 : World), Ext (fun b => b = p89) ww158 ww159 →
          Calls Try.prog 53 #[.pointer (some (blk q4))] ww159 fun ee161 ww162 => ∃ (done160 : Int), ee161 = .returned (.int .i64 done160) ∧
          Keep [p5, p89] ww159 ww162 ∧
          (done160 ≠ 0 →
            ∀ (ww169 : World), Ext (fun b => b = p5) ww162 ww169 →
            R (.tuple #[.agg #[.int .i64 0, .int .i64 0, .int .u64 0, .int .i64 0, .slice none 0 0, .slice none 0 0], .int .i64 done160]) ww169) ∧
          (done160 = 0 →
            Calls Try.prog 32 #[.agg #[.int .i64 Kind100, .int .i64 Who101, .int .u64 Public102, .int .i64 Limit103, .slice Wraps104a Wraps104n Wraps104c, .slice bytes156a bytes156n bytes156c]] ww162 fun ee171 ww172 => ∃ (right170 : Bool), ee171 = .returned (.bool right170) ∧
            Keep [p5, p89] ww162 ww172 ∧
            (right170 = false →
              ∀ (ww179 : World), Ext (fun b => b = p5) ww172 ww179 →
              R (.tuple #[.agg #[.int .i64 0, .int .i64 0, .int .u64 0, .int .i64 0, .slice none 0 0, .slice none 0 0], .int .i64 4]) ww179) ∧
            (right170 = true →
              ∀ (ww185 : World), Ext (fun b => b = p5) ww172 ww185 →
              R (.tuple #[.agg #[.int .i64 Kind100, .int .i64 Who101, .int .u64 Public102, .int .i64 Limit103, .slice Wraps104a Wraps104n Wraps104c, .slice bytes156a bytes156n bytes156c], .int .i64 0]) ww185)))) ∧
      (count6 ≠ 3 →
        ∀ (ww15 : World) (p186 : Nat), Ext no ww8 ww15 → Priv ww8 ww15 [p186] →
        Calls Try.prog 53 #[.pointer (some (blk q4))] ww15 fun ee188 ww189 => ∃ (done187 : Int), ee188 = .returned (.int .i64 done187) ∧
        Keep [p5, p186] ww15 ww189 ∧
        (done187 ≠ 0 →
          ∀ (ww196 : World), Ext (fun b => b = p5) ww189 ww196 →
          R (.tuple #[.agg #[.int .i64 0, .int .i64 0, .int .u64 0, .int .i64 0, .slice none 0 0, .slice none 0 0], .int .i64 done187]) ww196) ∧
        (done187 = 0 →
          Calls Try.prog 32 #[.agg #[.int .i64 count6, .int .i64 0, .int .u64 0, .int .i64 0, .slice none 0 0, .slice none 0 0]] ww189 fun ee198 ww199 => ∃ (right197 : Bool), ee198 = .returned (.bool right197) ∧
          Keep [p5, p186] ww189 ww199 ∧
          (right197 = false →
            ∀ (ww206 : World), Ext (fun b => b = p5) ww199 ww206 →
            R (.tuple #[.agg #[.int .i64 0, .int .i64 0, .int .u64 0, .int .i64 0, .slice none 0 0, .slice none 0 0], .int .i64 4]) ww206) ∧
          (right197 = true →
            ∀ (ww212 : World), Ext (fun b => b = p5) ww199 ww212 →
            R (.tuple #[.agg #[.int .i64 count6, .int .i64 0, .int .u64 0, .int .i64 0, .slice none 0 0, .slice none 0 0], .int .i64 0]) ww212)))))

theorem cachetteref12_Read.up (b1a : Option Addr) (b1n : Nat) (b1c : Nat) {R : Value → World → Prop} {w : World} (h : cachetteref12_Read.N b1a b1n b1c R w) : cachetteref12_Read.M b1a b1n b1c R w := by
  unfold cachetteref12_Read.M
  unfold cachetteref12_Read.N at h
  refine thenW_in fun ww2 e2 => ?_
  have hb1 := Blk.of_new e2
  have hg1 := ((Ext.refl no w)).size
  have hx2 := (Ext.refl no w).x_alloc e2
  refine thenW_in fun ww3 e3 => ?_
  have hl1 := hb1.lt
  have hb1 := hb1.x_alloc e3
  have h := h ww3 ww2.heap.size (w.heap.size) (hx2.x_alloc e3) (Blk.of_new e3) (hx2).size (size_lt_alloc e3) (Privq.cons hg1 hl1 Privq.nil)
  refine h.mono fun ee7 ww8 h => ?_
  obtain ⟨count6, he, hk, h⟩ := h
  refine ⟨count6, he, ?_⟩
  have hb1 := hk.blk hb1 (by simp)
  refine thenW_in fun ww9 e9 => ?_
  have hb2 := Blk.of_new e9
  have hg2 := ((Ext.refl no ww8)).size
  have hb1_2 := Nat.ne_of_lt hb1.lt
  have hb1 := hb1.x_alloc e9
  have hx9 := (Ext.refl no ww8).x_alloc e9
  refine ⟨hb2.cani 0 rfl rfl, thenW_in fun ww10 e10 => ?_⟩
  have hx10 := hx9.x_set (q := ww8.heap.size) (i := 0) rfl (.inr hg2) e10
  have hb1 := hb1.oth (q := ww8.heap.size) (i := 0) rfl hb1_2 e10
  have hb2 : Blk ww10 ww8.heap.size 40 [.int .i64 count6, .int .i64 0, .int .u64 0, .int .i64 0, .slice none 0 0, .slice none 0 0] := hb2.seti 0 rfl e10
  refine ⟨hb2.cani 1 rfl rfl, thenW_in fun ww11 e11 => ?_⟩
  have hx11 := hx10.x_set (q := ww8.heap.size) (i := 1) rfl (.inr hg2) e11
  have hb1 := hb1.oth (q := ww8.heap.size) (i := 1) rfl hb1_2 e11
  have hb2 : Blk ww11 ww8.heap.size 40 [.int .i64 count6, .int .i64 0, .int .u64 0, .int .i64 0, .slice none 0 0, .slice none 0 0] := hb2.seti 1 rfl e11
  refine ⟨hb2.cani 2 rfl rfl, thenW_in fun ww12 e12 => ?_⟩
  have hx12 := hx11.x_set (q := ww8.heap.size) (i := 2) rfl (.inr hg2) e12
  have hb1 := hb1.oth (q := ww8.heap.size) (i := 2) rfl hb1_2 e12
  have hb2 : Blk ww12 ww8.heap.size 40 [.int .i64 count6, .int .i64 0, .int .u64 0, .int .i64 0, .slice none 0 0, .slice none 0 0] := hb2.seti 2 rfl e12
  refine ⟨hb2.cani 3 rfl rfl, thenW_in fun ww13 e13 => ?_⟩
  have hx13 := hx12.x_set (q := ww8.heap.size) (i := 3) rfl (.inr hg2) e13
  have hb1 := hb1.oth (q := ww8.heap.size) (i := 3) rfl hb1_2 e13
  have hb2 : Blk ww13 ww8.heap.size 40 [.int .i64 count6, .int .i64 0, .int .u64 0, .int .i64 0, .slice none 0 0, .slice none 0 0] := hb2.seti 3 rfl e13
  refine ⟨hb2.cani 4 rfl rfl, thenW_in fun ww14 e14 => ?_⟩
  have hx14 := hx13.x_set (q := ww8.heap.size) (i := 4) rfl (.inr hg2) e14
  have hb1 := hb1.oth (q := ww8.heap.size) (i := 4) rfl hb1_2 e14
  have hb2 : Blk ww14 ww8.heap.size 40 [.int .i64 count6, .int .i64 0, .int .u64 0, .int .i64 0, .slice none 0 0, .slice none 0 0] := hb2.seti 4 rfl e14
  refine ⟨hb2.cani 5 rfl rfl, thenW_in fun ww15 e15 => ?_⟩
  have hx15 := hx14.x_set (q := ww8.heap.size) (i := 5) rfl (.inr hg2) e15
  have hb1 := hb1.oth (q := ww8.heap.size) (i := 5) rfl hb1_2 e15
  have hb2 : Blk ww15 ww8.heap.size 40 [.int .i64 count6, .int .i64 0, .int .u64 0, .int .i64 0, .slice none 0 0, .slice none 0 0] := hb2.seti 5 rfl e15
  refine ⟨count6, hb2.celli 0 rfl rfl, ?_⟩
  refine bif_of (fun c16 => ?_) (fun c16 => ?_)
  · have h := h.1 (beq_t c16)
    have h := h ww15 (ww8.heap.size) hx15 (Priv.cons hg2 hb2.lt Priv.nil)
    refine h.mono fun ee19 ww20 h => ?_
    obtain ⟨count18, he, hk, h⟩ := h
    refine ⟨count18, he, ?_⟩
    have hb1 := hk.blk hb1 (by simp)
    have hb2 := hk.blk hb2 (by simp)
    have hm21 : Ext (fun b => b = ww8.heap.size) ww20 ww20 := ((Ext.refl no ww20)).none
    refine ⟨hb2.cani 1 rfl rfl, thenW_in fun ww21 e21 => ?_⟩
    have hx21 := hm21.x_set (q := ww8.heap.size) (i := 1) rfl (.inl rfl) e21
    have hb1 := hb1.oth (q := ww8.heap.size) (i := 1) rfl hb1_2 e21
    have hb2 : Blk ww21 ww8.heap.size 40 [.int .i64 count6, .int .i64 count18, .int .u64 0, .int .i64 0, .slice none 0 0, .slice none 0 0] := hb2.seti 1 rfl e21
    have h := h ww21 hx21
    refine h.mono fun ee23 ww24 h => ?_
    obtain ⟨num22, he, hk, h⟩ := h
    refine ⟨num22, he, ?_⟩
    have hb1 := hk.blk hb1 (by simp)
    have hb2 := hk.blk hb2 (by simp)
    have hm25 : Ext (fun b => b = ww8.heap.size) ww24 ww24 := ((Ext.refl no ww24)).none
    refine ⟨hb2.cani 2 rfl rfl, thenW_in fun ww25 e25 => ?_⟩
    have hx25 := hm25.x_set (q := ww8.heap.size) (i := 2) rfl (.inl rfl) e25
    have hb1 := hb1.oth (q := ww8.heap.size) (i := 2) rfl hb1_2 e25
    have hb2 : Blk ww25 ww8.heap.size 40 [.int .i64 count6, .int .i64 count18, .int .u64 num22, .int .i64 0, .slice none 0 0, .slice none 0 0] := hb2.seti 2 rfl e25
    have h := h ww25 hx25
    refine h.mono fun ee27 ww28 h => ?_
    obtain ⟨done26, he, hk, h⟩ := h
    refine ⟨done26, he, ?_⟩
    have hb1 := hk.blk hb1 (by simp)
    have hb2 := hk.blk hb2 (by simp)
    refine bif_of (fun c29 => ?_) (fun c29 => ?_)
    · have h := h.1 (bne_t c29)
      have hm35 : Ext (fun b => b = w.heap.size) ww28 ww28 := ((Ext.refl no ww28)).none
      refine ⟨hb1.cani 0 rfl rfl, thenW_in fun ww30 e30 => ?_⟩
      have hx30 := hm35.x_set (q := w.heap.size) (i := 0) rfl (.inl rfl) e30
      have hb1 : Blk ww30 w.heap.size 40 [.int .i64 0, .int .i64 0, .int .u64 0, .int .i64 0, .slice none 0 0, .slice none 0 0] := hb1.seti 0 rfl e30
      refine ⟨hb1.cani 1 rfl rfl, thenW_in fun ww31 e31 => ?_⟩
      have hx31 := hx30.x_set (q := w.heap.size) (i := 1) rfl (.inl rfl) e31
      have hb1 : Blk ww31 w.heap.size 40 [.int .i64 0, .int .i64 0, .int .u64 0, .int .i64 0, .slice none 0 0, .slice none 0 0] := hb1.seti 1 rfl e31
      refine ⟨hb1.cani 2 rfl rfl, thenW_in fun ww32 e32 => ?_⟩
      have hx32 := hx31.x_set (q := w.heap.size) (i := 2) rfl (.inl rfl) e32
      have hb1 : Blk ww32 w.heap.size 40 [.int .i64 0, .int .i64 0, .int .u64 0, .int .i64 0, .slice none 0 0, .slice none 0 0] := hb1.seti 2 rfl e32
      refine ⟨hb1.cani 3 rfl rfl, thenW_in fun ww33 e33 => ?_⟩
      have hx33 := hx32.x_set (q := w.heap.size) (i := 3) rfl (.inl rfl) e33
      have hb1 : Blk ww33 w.heap.size 40 [.int .i64 0, .int .i64 0, .int .u64 0, .int .i64 0, .slice none 0 0, .slice none 0 0] := hb1.seti 3 rfl e33
      refine ⟨hb1.cani 4 rfl rfl, thenW_in fun ww34 e34 => ?_⟩
      have hx34 := hx33.x_set (q := w.heap.size) (i := 4) rfl (.inl rfl) e34
      have hb1 : Blk ww34 w.heap.size 40 [.int .i64 0, .int .i64 0, .int .u64 0, .int .i64 0, .slice none 0 0, .slice none 0 0] := hb1.seti 4 rfl e34
      refine ⟨hb1.cani 5 rfl rfl, thenW_in fun ww35 e35 => ?_⟩
      have hx35 := hx34.x_set (q := w.heap.size) (i := 5) rfl (.inl rfl) e35
      have hb1 : Blk ww35 w.heap.size 40 [.int .i64 0, .int .i64 0, .int .u64 0, .int .i64 0, .slice none 0 0, .slice none 0 0] := hb1.seti 5 rfl e35
      refine ⟨0, 0, 0, 0, none, 0, 0, none, 0, 0, ⟨hb1.celli 0 rfl rfl, hb1.celli 1 rfl rfl, hb1.celli 2 rfl rfl, hb1.celli 3 rfl rfl, hb1.celli 4 rfl rfl, hb1.celli 5 rfl rfl, trivial⟩, ?_⟩
      have h := h ww35 hx35
      exact h
    · have h := h.2 (bne_f c29)
      refine ⟨count6, count18, num22, 0, none, 0, 0, none, 0, 0, ⟨hb2.celli 0 rfl rfl, hb2.celli 1 rfl rfl, hb2.celli 2 rfl rfl, hb2.celli 3 rfl rfl, hb2.celli 4 rfl rfl, hb2.celli 5 rfl rfl, trivial⟩, ?_⟩
      refine h.mono fun ee37 ww38 h => ?_
      obtain ⟨right36, he, hk, h⟩ := h
      refine ⟨right36, he, ?_⟩
      have hb1 := hk.blk hb1 (by simp)
      have hb2 := hk.blk hb2 (by simp)
      refine bif_of (fun c39 => ?_) (fun c39 => ?_)
      · have h := h.1 (not_t c39)
        have hm45 : Ext (fun b => b = w.heap.size) ww38 ww38 := ((Ext.refl no ww38)).none
        refine ⟨hb1.cani 0 rfl rfl, thenW_in fun ww40 e40 => ?_⟩
        have hx40 := hm45.x_set (q := w.heap.size) (i := 0) rfl (.inl rfl) e40
        have hb1 : Blk ww40 w.heap.size 40 [.int .i64 0, .int .i64 0, .int .u64 0, .int .i64 0, .slice none 0 0, .slice none 0 0] := hb1.seti 0 rfl e40
        refine ⟨hb1.cani 1 rfl rfl, thenW_in fun ww41 e41 => ?_⟩
        have hx41 := hx40.x_set (q := w.heap.size) (i := 1) rfl (.inl rfl) e41
        have hb1 : Blk ww41 w.heap.size 40 [.int .i64 0, .int .i64 0, .int .u64 0, .int .i64 0, .slice none 0 0, .slice none 0 0] := hb1.seti 1 rfl e41
        refine ⟨hb1.cani 2 rfl rfl, thenW_in fun ww42 e42 => ?_⟩
        have hx42 := hx41.x_set (q := w.heap.size) (i := 2) rfl (.inl rfl) e42
        have hb1 : Blk ww42 w.heap.size 40 [.int .i64 0, .int .i64 0, .int .u64 0, .int .i64 0, .slice none 0 0, .slice none 0 0] := hb1.seti 2 rfl e42
        refine ⟨hb1.cani 3 rfl rfl, thenW_in fun ww43 e43 => ?_⟩
        have hx43 := hx42.x_set (q := w.heap.size) (i := 3) rfl (.inl rfl) e43
        have hb1 : Blk ww43 w.heap.size 40 [.int .i64 0, .int .i64 0, .int .u64 0, .int .i64 0, .slice none 0 0, .slice none 0 0] := hb1.seti 3 rfl e43
        refine ⟨hb1.cani 4 rfl rfl, thenW_in fun ww44 e44 => ?_⟩
        have hx44 := hx43.x_set (q := w.heap.size) (i := 4) rfl (.inl rfl) e44
        have hb1 : Blk ww44 w.heap.size 40 [.int .i64 0, .int .i64 0, .int .u64 0, .int .i64 0, .slice none 0 0, .slice none 0 0] := hb1.seti 4 rfl e44
        refine ⟨hb1.cani 5 rfl rfl, thenW_in fun ww45 e45 => ?_⟩
        have hx45 := hx44.x_set (q := w.heap.size) (i := 5) rfl (.inl rfl) e45
        have hb1 : Blk ww45 w.heap.size 40 [.int .i64 0, .int .i64 0, .int .u64 0, .int .i64 0, .slice none 0 0, .slice none 0 0] := hb1.seti 5 rfl e45
        refine ⟨0, 0, 0, 0, none, 0, 0, none, 0, 0, ⟨hb1.celli 0 rfl rfl, hb1.celli 1 rfl rfl, hb1.celli 2 rfl rfl, hb1.celli 3 rfl rfl, hb1.celli 4 rfl rfl, hb1.celli 5 rfl rfl, trivial⟩, ?_⟩
        have h := h ww45 hx45
        exact h
      · have h := h.2 (not_f c39)
        refine ⟨count6, count18, num22, 0, none, 0, 0, none, 0, 0, ⟨hb2.celli 0 rfl rfl, hb2.celli 1 rfl rfl, hb2.celli 2 rfl rfl, hb2.celli 3 rfl rfl, hb2.celli 4 rfl rfl, hb2.celli 5 rfl rfl, trivial⟩, ?_⟩
        have hm51 : Ext (fun b => b = w.heap.size) ww38 ww38 := ((Ext.refl no ww38)).none
        refine ⟨hb1.cani 0 rfl rfl, thenW_in fun ww46 e46 => ?_⟩
        have hx46 := hm51.x_set (q := w.heap.size) (i := 0) rfl (.inl rfl) e46
        have hb1 : Blk ww46 w.heap.size 40 [.int .i64 count6, .int .i64 0, .int .u64 0, .int .i64 0, .slice none 0 0, .slice none 0 0] := hb1.seti 0 rfl e46
        refine ⟨hb1.cani 1 rfl rfl, thenW_in fun ww47 e47 => ?_⟩
        have hx47 := hx46.x_set (q := w.heap.size) (i := 1) rfl (.inl rfl) e47
        have hb1 : Blk ww47 w.heap.size 40 [.int .i64 count6, .int .i64 count18, .int .u64 0, .int .i64 0, .slice none 0 0, .slice none 0 0] := hb1.seti 1 rfl e47
        refine ⟨hb1.cani 2 rfl rfl, thenW_in fun ww48 e48 => ?_⟩
        have hx48 := hx47.x_set (q := w.heap.size) (i := 2) rfl (.inl rfl) e48
        have hb1 : Blk ww48 w.heap.size 40 [.int .i64 count6, .int .i64 count18, .int .u64 num22, .int .i64 0, .slice none 0 0, .slice none 0 0] := hb1.seti 2 rfl e48
        refine ⟨hb1.cani 3 rfl rfl, thenW_in fun ww49 e49 => ?_⟩
        have hx49 := hx48.x_set (q := w.heap.size) (i := 3) rfl (.inl rfl) e49
        have hb1 : Blk ww49 w.heap.size 40 [.int .i64 count6, .int .i64 count18, .int .u64 num22, .int .i64 0, .slice none 0 0, .slice none 0 0] := hb1.seti 3 rfl e49
        refine ⟨hb1.cani 4 rfl rfl, thenW_in fun ww50 e50 => ?_⟩
        have hx50 := hx49.x_set (q := w.heap.size) (i := 4) rfl (.inl rfl) e50
        have hb1 : Blk ww50 w.heap.size 40 [.int .i64 count6, .int .i64 count18, .int .u64 num22, .int .i64 0, .slice none 0 0, .slice none 0 0] := hb1.seti 4 rfl e50
        refine ⟨hb1.cani 5 rfl rfl, thenW_in fun ww51 e51 => ?_⟩
        have hx51 := hx50.x_set (q := w.heap.size) (i := 5) rfl (.inl rfl) e51
        have hb1 : Blk ww51 w.heap.size 40 [.int .i64 count6, .int .i64 count18, .int .u64 num22, .int .i64 0, .slice none 0 0, .slice none 0 0] := hb1.seti 5 rfl e51
        refine ⟨count6, count18, num22, 0, none, 0, 0, none, 0, 0, ⟨hb1.celli 0 rfl rfl, hb1.celli 1 rfl rfl, hb1.celli 2 rfl rfl, hb1.celli 3 rfl rfl, hb1.celli 4 rfl rfl, hb1.celli 5 rfl rfl, trivial⟩, ?_⟩
        have h := h ww51 hx51
        exact h
  · have h := h.2 (beq_f c16)
    refine bif_of (fun c52 => ?_) (fun c52 => ?_)
    · have h := h.1 (beq_t c52)
      have h := h ww15 (ww8.heap.size) hx15 (Priv.cons hg2 hb2.lt Priv.nil)
      refine h.mono fun ee55 ww56 h => ?_
      obtain ⟨count54, he, hk, h⟩ := h
      refine ⟨count54, he, ?_⟩
      have hb1 := hk.blk hb1 (by simp)
      have hb2 := hk.blk hb2 (by simp)
      have hm57 : Ext (fun b => b = ww8.heap.size) ww56 ww56 := ((Ext.refl no ww56)).none
      refine ⟨hb2.cani 1 rfl rfl, thenW_in fun ww57 e57 => ?_⟩
      have hx57 := hm57.x_set (q := ww8.heap.size) (i := 1) rfl (.inl rfl) e57
      have hb1 := hb1.oth (q := ww8.heap.size) (i := 1) rfl hb1_2 e57
      have hb2 : Blk ww57 ww8.heap.size 40 [.int .i64 count6, .int .i64 count54, .int .u64 0, .int .i64 0, .slice none 0 0, .slice none 0 0] := hb2.seti 1 rfl e57
      have h := h ww57 hx57
      refine h.mono fun ee59 ww60 h => ?_
      obtain ⟨count58, he, hk, h⟩ := h
      refine ⟨count58, he, ?_⟩
      have hb1 := hk.blk hb1 (by simp)
      have hb2 := hk.blk hb2 (by simp)
      have hm61 : Ext (fun b => b = ww8.heap.size) ww60 ww60 := ((Ext.refl no ww60)).none
      refine ⟨hb2.cani 3 rfl rfl, thenW_in fun ww61 e61 => ?_⟩
      have hx61 := hm61.x_set (q := ww8.heap.size) (i := 3) rfl (.inl rfl) e61
      have hb1 := hb1.oth (q := ww8.heap.size) (i := 3) rfl hb1_2 e61
      have hb2 : Blk ww61 ww8.heap.size 40 [.int .i64 count6, .int .i64 count54, .int .u64 0, .int .i64 count58, .slice none 0 0, .slice none 0 0] := hb2.seti 3 rfl e61
      have h := h ww61 hx61
      refine h.mono fun ee63 ww64 h => ?_
      obtain ⟨done62, he, hk, h⟩ := h
      refine ⟨done62, he, ?_⟩
      have hb1 := hk.blk hb1 (by simp)
      have hb2 := hk.blk hb2 (by simp)
      refine bif_of (fun c65 => ?_) (fun c65 => ?_)
      · have h := h.1 (bne_t c65)
        have hm71 : Ext (fun b => b = w.heap.size) ww64 ww64 := ((Ext.refl no ww64)).none
        refine ⟨hb1.cani 0 rfl rfl, thenW_in fun ww66 e66 => ?_⟩
        have hx66 := hm71.x_set (q := w.heap.size) (i := 0) rfl (.inl rfl) e66
        have hb1 : Blk ww66 w.heap.size 40 [.int .i64 0, .int .i64 0, .int .u64 0, .int .i64 0, .slice none 0 0, .slice none 0 0] := hb1.seti 0 rfl e66
        refine ⟨hb1.cani 1 rfl rfl, thenW_in fun ww67 e67 => ?_⟩
        have hx67 := hx66.x_set (q := w.heap.size) (i := 1) rfl (.inl rfl) e67
        have hb1 : Blk ww67 w.heap.size 40 [.int .i64 0, .int .i64 0, .int .u64 0, .int .i64 0, .slice none 0 0, .slice none 0 0] := hb1.seti 1 rfl e67
        refine ⟨hb1.cani 2 rfl rfl, thenW_in fun ww68 e68 => ?_⟩
        have hx68 := hx67.x_set (q := w.heap.size) (i := 2) rfl (.inl rfl) e68
        have hb1 : Blk ww68 w.heap.size 40 [.int .i64 0, .int .i64 0, .int .u64 0, .int .i64 0, .slice none 0 0, .slice none 0 0] := hb1.seti 2 rfl e68
        refine ⟨hb1.cani 3 rfl rfl, thenW_in fun ww69 e69 => ?_⟩
        have hx69 := hx68.x_set (q := w.heap.size) (i := 3) rfl (.inl rfl) e69
        have hb1 : Blk ww69 w.heap.size 40 [.int .i64 0, .int .i64 0, .int .u64 0, .int .i64 0, .slice none 0 0, .slice none 0 0] := hb1.seti 3 rfl e69
        refine ⟨hb1.cani 4 rfl rfl, thenW_in fun ww70 e70 => ?_⟩
        have hx70 := hx69.x_set (q := w.heap.size) (i := 4) rfl (.inl rfl) e70
        have hb1 : Blk ww70 w.heap.size 40 [.int .i64 0, .int .i64 0, .int .u64 0, .int .i64 0, .slice none 0 0, .slice none 0 0] := hb1.seti 4 rfl e70
        refine ⟨hb1.cani 5 rfl rfl, thenW_in fun ww71 e71 => ?_⟩
        have hx71 := hx70.x_set (q := w.heap.size) (i := 5) rfl (.inl rfl) e71
        have hb1 : Blk ww71 w.heap.size 40 [.int .i64 0, .int .i64 0, .int .u64 0, .int .i64 0, .slice none 0 0, .slice none 0 0] := hb1.seti 5 rfl e71
        refine ⟨0, 0, 0, 0, none, 0, 0, none, 0, 0, ⟨hb1.celli 0 rfl rfl, hb1.celli 1 rfl rfl, hb1.celli 2 rfl rfl, hb1.celli 3 rfl rfl, hb1.celli 4 rfl rfl, hb1.celli 5 rfl rfl, trivial⟩, ?_⟩
        have h := h ww71 hx71
        exact h
      · have h := h.2 (bne_f c65)
        refine ⟨count6, count54, 0, count58, none, 0, 0, none, 0, 0, ⟨hb2.celli 0 rfl rfl, hb2.celli 1 rfl rfl, hb2.celli 2 rfl rfl, hb2.celli 3 rfl rfl, hb2.celli 4 rfl rfl, hb2.celli 5 rfl rfl, trivial⟩, ?_⟩
        refine h.mono fun ee73 ww74 h => ?_
        obtain ⟨right72, he, hk, h⟩ := h
        refine ⟨right72, he, ?_⟩
        have hb1 := hk.blk hb1 (by simp)
        have hb2 := hk.blk hb2 (by simp)
        refine bif_of (fun c75 => ?_) (fun c75 => ?_)
        · have h := h.1 (not_t c75)
          have hm81 : Ext (fun b => b = w.heap.size) ww74 ww74 := ((Ext.refl no ww74)).none
          refine ⟨hb1.cani 0 rfl rfl, thenW_in fun ww76 e76 => ?_⟩
          have hx76 := hm81.x_set (q := w.heap.size) (i := 0) rfl (.inl rfl) e76
          have hb1 : Blk ww76 w.heap.size 40 [.int .i64 0, .int .i64 0, .int .u64 0, .int .i64 0, .slice none 0 0, .slice none 0 0] := hb1.seti 0 rfl e76
          refine ⟨hb1.cani 1 rfl rfl, thenW_in fun ww77 e77 => ?_⟩
          have hx77 := hx76.x_set (q := w.heap.size) (i := 1) rfl (.inl rfl) e77
          have hb1 : Blk ww77 w.heap.size 40 [.int .i64 0, .int .i64 0, .int .u64 0, .int .i64 0, .slice none 0 0, .slice none 0 0] := hb1.seti 1 rfl e77
          refine ⟨hb1.cani 2 rfl rfl, thenW_in fun ww78 e78 => ?_⟩
          have hx78 := hx77.x_set (q := w.heap.size) (i := 2) rfl (.inl rfl) e78
          have hb1 : Blk ww78 w.heap.size 40 [.int .i64 0, .int .i64 0, .int .u64 0, .int .i64 0, .slice none 0 0, .slice none 0 0] := hb1.seti 2 rfl e78
          refine ⟨hb1.cani 3 rfl rfl, thenW_in fun ww79 e79 => ?_⟩
          have hx79 := hx78.x_set (q := w.heap.size) (i := 3) rfl (.inl rfl) e79
          have hb1 : Blk ww79 w.heap.size 40 [.int .i64 0, .int .i64 0, .int .u64 0, .int .i64 0, .slice none 0 0, .slice none 0 0] := hb1.seti 3 rfl e79
          refine ⟨hb1.cani 4 rfl rfl, thenW_in fun ww80 e80 => ?_⟩
          have hx80 := hx79.x_set (q := w.heap.size) (i := 4) rfl (.inl rfl) e80
          have hb1 : Blk ww80 w.heap.size 40 [.int .i64 0, .int .i64 0, .int .u64 0, .int .i64 0, .slice none 0 0, .slice none 0 0] := hb1.seti 4 rfl e80
          refine ⟨hb1.cani 5 rfl rfl, thenW_in fun ww81 e81 => ?_⟩
          have hx81 := hx80.x_set (q := w.heap.size) (i := 5) rfl (.inl rfl) e81
          have hb1 : Blk ww81 w.heap.size 40 [.int .i64 0, .int .i64 0, .int .u64 0, .int .i64 0, .slice none 0 0, .slice none 0 0] := hb1.seti 5 rfl e81
          refine ⟨0, 0, 0, 0, none, 0, 0, none, 0, 0, ⟨hb1.celli 0 rfl rfl, hb1.celli 1 rfl rfl, hb1.celli 2 rfl rfl, hb1.celli 3 rfl rfl, hb1.celli 4 rfl rfl, hb1.celli 5 rfl rfl, trivial⟩, ?_⟩
          have h := h ww81 hx81
          exact h
        · have h := h.2 (not_f c75)
          refine ⟨count6, count54, 0, count58, none, 0, 0, none, 0, 0, ⟨hb2.celli 0 rfl rfl, hb2.celli 1 rfl rfl, hb2.celli 2 rfl rfl, hb2.celli 3 rfl rfl, hb2.celli 4 rfl rfl, hb2.celli 5 rfl rfl, trivial⟩, ?_⟩
          have hm87 : Ext (fun b => b = w.heap.size) ww74 ww74 := ((Ext.refl no ww74)).none
          refine ⟨hb1.cani 0 rfl rfl, thenW_in fun ww82 e82 => ?_⟩
          have hx82 := hm87.x_set (q := w.heap.size) (i := 0) rfl (.inl rfl) e82
          have hb1 : Blk ww82 w.heap.size 40 [.int .i64 count6, .int .i64 0, .int .u64 0, .int .i64 0, .slice none 0 0, .slice none 0 0] := hb1.seti 0 rfl e82
          refine ⟨hb1.cani 1 rfl rfl, thenW_in fun ww83 e83 => ?_⟩
          have hx83 := hx82.x_set (q := w.heap.size) (i := 1) rfl (.inl rfl) e83
          have hb1 : Blk ww83 w.heap.size 40 [.int .i64 count6, .int .i64 count54, .int .u64 0, .int .i64 0, .slice none 0 0, .slice none 0 0] := hb1.seti 1 rfl e83
          refine ⟨hb1.cani 2 rfl rfl, thenW_in fun ww84 e84 => ?_⟩
          have hx84 := hx83.x_set (q := w.heap.size) (i := 2) rfl (.inl rfl) e84
          have hb1 : Blk ww84 w.heap.size 40 [.int .i64 count6, .int .i64 count54, .int .u64 0, .int .i64 0, .slice none 0 0, .slice none 0 0] := hb1.seti 2 rfl e84
          refine ⟨hb1.cani 3 rfl rfl, thenW_in fun ww85 e85 => ?_⟩
          have hx85 := hx84.x_set (q := w.heap.size) (i := 3) rfl (.inl rfl) e85
          have hb1 : Blk ww85 w.heap.size 40 [.int .i64 count6, .int .i64 count54, .int .u64 0, .int .i64 count58, .slice none 0 0, .slice none 0 0] := hb1.seti 3 rfl e85
          refine ⟨hb1.cani 4 rfl rfl, thenW_in fun ww86 e86 => ?_⟩
          have hx86 := hx85.x_set (q := w.heap.size) (i := 4) rfl (.inl rfl) e86
          have hb1 : Blk ww86 w.heap.size 40 [.int .i64 count6, .int .i64 count54, .int .u64 0, .int .i64 count58, .slice none 0 0, .slice none 0 0] := hb1.seti 4 rfl e86
          refine ⟨hb1.cani 5 rfl rfl, thenW_in fun ww87 e87 => ?_⟩
          have hx87 := hx86.x_set (q := w.heap.size) (i := 5) rfl (.inl rfl) e87
          have hb1 : Blk ww87 w.heap.size 40 [.int .i64 count6, .int .i64 count54, .int .u64 0, .int .i64 count58, .slice none 0 0, .slice none 0 0] := hb1.seti 5 rfl e87
          refine ⟨count6, count54, 0, count58, none, 0, 0, none, 0, 0, ⟨hb1.celli 0 rfl rfl, hb1.celli 1 rfl rfl, hb1.celli 2 rfl rfl, hb1.celli 3 rfl rfl, hb1.celli 4 rfl rfl, hb1.celli 5 rfl rfl, trivial⟩, ?_⟩
          have h := h ww87 hx87
          exact h
    · have h := h.2 (beq_f c52)
      refine bif_of (fun c88 => ?_) (fun c88 => ?_)
      · have h := h.1 (beq_t c88)
        have h := h ww15 (ww8.heap.size) hx15 (Priv.cons hg2 hb2.lt Priv.nil)
        refine h.mono fun ee91 ww92 h => ?_
        obtain ⟨count90, he, hk, h⟩ := h
        refine ⟨count90, he, ?_⟩
        have hb1 := hk.blk hb1 (by simp)
        have hb2 := hk.blk hb2 (by simp)
        obtain ⟨I1, m106, h0, h⟩ := h
        refine ⟨fun k vs ww => ∃ (Kind94 : Int) (Who95 : Int) (Public96 : Int) (Limit97 : Int) (Wraps98a : Option Addr) (Wraps98n : Nat) (Wraps98c : Nat) (Old99a : Option Addr) (Old99n : Nat) (Old99c : Nat) (Kind100 : Int) (Who101 : Int) (Public102 : Int) (Limit103 : Int) (Wraps104a : Option Addr) (Wraps104n : Nat) (Wraps104c : Nat) (Old105a : Option Addr) (Old105n : Nat) (Old105c : Nat), Blk ww w.heap.size 40 [.int .i64 Kind94, .int .i64 Who95, .int .u64 Public96, .int .i64 Limit97, .slice Wraps98a Wraps98n Wraps98c, .slice Old99a Old99n Old99c] ∧ Blk ww ww8.heap.size 40 [.int .i64 Kind100, .int .i64 Who101, .int .u64 Public102, .int .i64 Limit103, .slice Wraps104a Wraps104n Wraps104c, .slice Old105a Old105n Old105c] ∧ I1 k (vs ++ [.int .i64 Kind94, .int .i64 Who95, .int .u64 Public96, .int .i64 Limit97, .slice Wraps98a Wraps98n Wraps98c, .slice Old99a Old99n Old99c, .int .i64 Kind100, .int .i64 Who101, .int .u64 Public102, .int .i64 Limit103, .slice Wraps104a Wraps104n Wraps104c, .slice Old105a Old105n Old105c]) ww, m106, ⟨0, 0, 0, 0, none, 0, 0, none, 0, 0, count6, 0, 0, 0, none, 0, 0, none, 0, 0, hb1, hb2, h0⟩, fun m107 ww108 i93 hI => ?_⟩
        obtain ⟨Kind94, Who95, Public96, Limit97, Wraps98a, Wraps98n, Wraps98c, Old99a, Old99n, Old99c, Kind100, Who101, Public102, Limit103, Wraps104a, Wraps104n, Wraps104c, Old105a, Old105n, Old105c, hb1, hb2, hI⟩ := hI
        have h := h m107 ww108 i93 Kind94 Who95 Public96 Limit97 Wraps98a Wraps98n Wraps98c Old99a Old99n Old99c Kind100 Who101 Public102 Limit103 Wraps104a Wraps104n Wraps104c Old105a Old105n Old105c hI
        refine bif_of (fun c109 => ?_) (fun c109 => ?_)
        · have h := h.1 (of_decide_eq_true c109)
          obtain ⟨Kv111, hc110, h⟩ := h
          refine ⟨Kv111, hc110, ?_⟩
          refine bif_of (fun c112 => ?_) (fun c112 => ?_)
          · have h := h.1 (beq_t c112)
            refine h.mono fun ee114 ww115 h => ?_
            obtain ⟨count113, he, hk, h⟩ := h
            refine ⟨count113, he, ?_⟩
            have hb1 := hk.blk hb1 (by simp)
            have hb2 := hk.blk hb2 (by simp)
            refine thenW_in fun ww116 e116 => ?_
            have hx116 := (Ext.refl no ww115).x_drew e116
            have hb1 := hb1.x_drew e116
            have hb2 := hb2.x_drew e116
            refine ⟨Wraps104a, Wraps104n, Wraps104c, hb2.celli 4 rfl rfl, ?_⟩
            have h := h ww116 hx116
            refine h.mono fun ee118 ww119 h => ?_
            obtain ⟨bytes117a, bytes117n, bytes117c, he, hk, h⟩ := h
            refine ⟨bytes117a, bytes117n, bytes117c, he, ?_⟩
            have hb1 := hk.blk hb1 (by simp)
            have hb2 := hk.blk hb2 (by simp)
            refine ⟨hb2.celli 4 rfl rfl, ?_⟩
            refine thenW_in fun ww120 e120 => ?_
            have hb1 := hb1.x_alloc e120
            have hb2 := hb2.x_alloc e120
            have h := h ww120 ww119.heap.size ((Ext.refl no ww119).x_alloc e120) (Blk.of_new e120) ((Ext.refl no ww119)).size (size_lt_alloc e120)
            refine ⟨hb2.celli 4 rfl rfl, ?_⟩
            obtain ⟨a122a, a122n, a122c, ww123, hr, hk, h⟩ := h
            refine ⟨a122a, a122n, a122c, ww123, hr, ?_⟩
            have hb1 := hk.blk hb1 (by simp)
            have hb2 := hk.blk hb2 (by simp)
            have hm124 : Ext (fun b => b = ww8.heap.size) ww123 ww123 := ((Ext.refl no ww123)).none
            refine ⟨hb2.cani 4 rfl rfl, thenW_in fun ww124 e124 => ?_⟩
            have hx124 := hm124.x_set (q := ww8.heap.size) (i := 4) rfl (.inl rfl) e124
            have hb1 := hb1.oth (q := ww8.heap.size) (i := 4) rfl hb1_2 e124
            have hb2 : Blk ww124 ww8.heap.size 40 [.int .i64 Kind100, .int .i64 Who101, .int .u64 Public102, .int .i64 Limit103, .slice a122a a122n a122c, .slice Old105a Old105n Old105c] := hb2.seti 4 rfl e124
            obtain ⟨hw1, hw2, h⟩ := h
            try rw [w64 hw1 hw2]
            have h := h ww124 hx124
            obtain ⟨m125, hk, h⟩ := h
            exact ⟨m125, hk, Kind94, Who95, Public96, Limit97, Wraps98a, Wraps98n, Wraps98c, Old99a, Old99n, Old99c, Kind100, Who101, Public102, Limit103, a122a, a122n, a122c, Old105a, Old105n, Old105c, hb1, hb2, h⟩
          · have h := h.2 (beq_f c112)
            refine h.mono fun ee127 ww128 h => ?_
            obtain ⟨bytes126a, bytes126n, bytes126c, he, hk, h⟩ := h
            refine ⟨bytes126a, bytes126n, bytes126c, he, ?_⟩
            have hb1 := hk.blk hb1 (by simp)
            have hb2 := hk.blk hb2 (by simp)
            have hm129 : Ext (fun b => b = ww8.heap.size) ww128 ww128 := ((Ext.refl no ww128)).none
            refine ⟨hb2.cani 5 rfl rfl, thenW_in fun ww129 e129 => ?_⟩
            have hx129 := hm129.x_set (q := ww8.heap.size) (i := 5) rfl (.inl rfl) e129
            have hb1 := hb1.oth (q := ww8.heap.size) (i := 5) rfl hb1_2 e129
            have hb2 : Blk ww129 ww8.heap.size 40 [.int .i64 Kind100, .int .i64 Who101, .int .u64 Public102, .int .i64 Limit103, .slice Wraps104a Wraps104n Wraps104c, .slice bytes126a bytes126n bytes126c] := hb2.seti 5 rfl e129
            have h := h ww129 hx129
            refine h.mono fun ee131 ww132 h => ?_
            obtain ⟨done130, he, hk, h⟩ := h
            refine ⟨done130, he, ?_⟩
            have hb1 := hk.blk hb1 (by simp)
            have hb2 := hk.blk hb2 (by simp)
            refine bif_of (fun c133 => ?_) (fun c133 => ?_)
            · have h := h.1 (bne_t c133)
              have hm139 : Ext (fun b => b = w.heap.size) ww132 ww132 := ((Ext.refl no ww132)).none
              refine ⟨hb1.cani 0 rfl rfl, thenW_in fun ww134 e134 => ?_⟩
              have hx134 := hm139.x_set (q := w.heap.size) (i := 0) rfl (.inl rfl) e134
              have hb1 : Blk ww134 w.heap.size 40 [.int .i64 0, .int .i64 Who95, .int .u64 Public96, .int .i64 Limit97, .slice Wraps98a Wraps98n Wraps98c, .slice Old99a Old99n Old99c] := hb1.seti 0 rfl e134
              refine ⟨hb1.cani 1 rfl rfl, thenW_in fun ww135 e135 => ?_⟩
              have hx135 := hx134.x_set (q := w.heap.size) (i := 1) rfl (.inl rfl) e135
              have hb1 : Blk ww135 w.heap.size 40 [.int .i64 0, .int .i64 0, .int .u64 Public96, .int .i64 Limit97, .slice Wraps98a Wraps98n Wraps98c, .slice Old99a Old99n Old99c] := hb1.seti 1 rfl e135
              refine ⟨hb1.cani 2 rfl rfl, thenW_in fun ww136 e136 => ?_⟩
              have hx136 := hx135.x_set (q := w.heap.size) (i := 2) rfl (.inl rfl) e136
              have hb1 : Blk ww136 w.heap.size 40 [.int .i64 0, .int .i64 0, .int .u64 0, .int .i64 Limit97, .slice Wraps98a Wraps98n Wraps98c, .slice Old99a Old99n Old99c] := hb1.seti 2 rfl e136
              refine ⟨hb1.cani 3 rfl rfl, thenW_in fun ww137 e137 => ?_⟩
              have hx137 := hx136.x_set (q := w.heap.size) (i := 3) rfl (.inl rfl) e137
              have hb1 : Blk ww137 w.heap.size 40 [.int .i64 0, .int .i64 0, .int .u64 0, .int .i64 0, .slice Wraps98a Wraps98n Wraps98c, .slice Old99a Old99n Old99c] := hb1.seti 3 rfl e137
              refine ⟨hb1.cani 4 rfl rfl, thenW_in fun ww138 e138 => ?_⟩
              have hx138 := hx137.x_set (q := w.heap.size) (i := 4) rfl (.inl rfl) e138
              have hb1 : Blk ww138 w.heap.size 40 [.int .i64 0, .int .i64 0, .int .u64 0, .int .i64 0, .slice none 0 0, .slice Old99a Old99n Old99c] := hb1.seti 4 rfl e138
              refine ⟨hb1.cani 5 rfl rfl, thenW_in fun ww139 e139 => ?_⟩
              have hx139 := hx138.x_set (q := w.heap.size) (i := 5) rfl (.inl rfl) e139
              have hb1 : Blk ww139 w.heap.size 40 [.int .i64 0, .int .i64 0, .int .u64 0, .int .i64 0, .slice none 0 0, .slice none 0 0] := hb1.seti 5 rfl e139
              refine ⟨0, 0, 0, 0, none, 0, 0, none, 0, 0, ⟨hb1.celli 0 rfl rfl, hb1.celli 1 rfl rfl, hb1.celli 2 rfl rfl, hb1.celli 3 rfl rfl, hb1.celli 4 rfl rfl, hb1.celli 5 rfl rfl, trivial⟩, ?_⟩
              have h := h ww139 hx139
              exact h
            · have h := h.2 (bne_f c133)
              refine ⟨Kind100, Who101, Public102, Limit103, Wraps104a, Wraps104n, Wraps104c, bytes126a, bytes126n, bytes126c, ⟨hb2.celli 0 rfl rfl, hb2.celli 1 rfl rfl, hb2.celli 2 rfl rfl, hb2.celli 3 rfl rfl, hb2.celli 4 rfl rfl, hb2.celli 5 rfl rfl, trivial⟩, ?_⟩
              refine h.mono fun ee141 ww142 h => ?_
              obtain ⟨right140, he, hk, h⟩ := h
              refine ⟨right140, he, ?_⟩
              have hb1 := hk.blk hb1 (by simp)
              have hb2 := hk.blk hb2 (by simp)
              refine bif_of (fun c143 => ?_) (fun c143 => ?_)
              · have h := h.1 (not_t c143)
                have hm149 : Ext (fun b => b = w.heap.size) ww142 ww142 := ((Ext.refl no ww142)).none
                refine ⟨hb1.cani 0 rfl rfl, thenW_in fun ww144 e144 => ?_⟩
                have hx144 := hm149.x_set (q := w.heap.size) (i := 0) rfl (.inl rfl) e144
                have hb1 : Blk ww144 w.heap.size 40 [.int .i64 0, .int .i64 Who95, .int .u64 Public96, .int .i64 Limit97, .slice Wraps98a Wraps98n Wraps98c, .slice Old99a Old99n Old99c] := hb1.seti 0 rfl e144
                refine ⟨hb1.cani 1 rfl rfl, thenW_in fun ww145 e145 => ?_⟩
                have hx145 := hx144.x_set (q := w.heap.size) (i := 1) rfl (.inl rfl) e145
                have hb1 : Blk ww145 w.heap.size 40 [.int .i64 0, .int .i64 0, .int .u64 Public96, .int .i64 Limit97, .slice Wraps98a Wraps98n Wraps98c, .slice Old99a Old99n Old99c] := hb1.seti 1 rfl e145
                refine ⟨hb1.cani 2 rfl rfl, thenW_in fun ww146 e146 => ?_⟩
                have hx146 := hx145.x_set (q := w.heap.size) (i := 2) rfl (.inl rfl) e146
                have hb1 : Blk ww146 w.heap.size 40 [.int .i64 0, .int .i64 0, .int .u64 0, .int .i64 Limit97, .slice Wraps98a Wraps98n Wraps98c, .slice Old99a Old99n Old99c] := hb1.seti 2 rfl e146
                refine ⟨hb1.cani 3 rfl rfl, thenW_in fun ww147 e147 => ?_⟩
                have hx147 := hx146.x_set (q := w.heap.size) (i := 3) rfl (.inl rfl) e147
                have hb1 : Blk ww147 w.heap.size 40 [.int .i64 0, .int .i64 0, .int .u64 0, .int .i64 0, .slice Wraps98a Wraps98n Wraps98c, .slice Old99a Old99n Old99c] := hb1.seti 3 rfl e147
                refine ⟨hb1.cani 4 rfl rfl, thenW_in fun ww148 e148 => ?_⟩
                have hx148 := hx147.x_set (q := w.heap.size) (i := 4) rfl (.inl rfl) e148
                have hb1 : Blk ww148 w.heap.size 40 [.int .i64 0, .int .i64 0, .int .u64 0, .int .i64 0, .slice none 0 0, .slice Old99a Old99n Old99c] := hb1.seti 4 rfl e148
                refine ⟨hb1.cani 5 rfl rfl, thenW_in fun ww149 e149 => ?_⟩
                have hx149 := hx148.x_set (q := w.heap.size) (i := 5) rfl (.inl rfl) e149
                have hb1 : Blk ww149 w.heap.size 40 [.int .i64 0, .int .i64 0, .int .u64 0, .int .i64 0, .slice none 0 0, .slice none 0 0] := hb1.seti 5 rfl e149
                refine ⟨0, 0, 0, 0, none, 0, 0, none, 0, 0, ⟨hb1.celli 0 rfl rfl, hb1.celli 1 rfl rfl, hb1.celli 2 rfl rfl, hb1.celli 3 rfl rfl, hb1.celli 4 rfl rfl, hb1.celli 5 rfl rfl, trivial⟩, ?_⟩
                have h := h ww149 hx149
                exact h
              · have h := h.2 (not_f c143)
                refine ⟨Kind100, Who101, Public102, Limit103, Wraps104a, Wraps104n, Wraps104c, bytes126a, bytes126n, bytes126c, ⟨hb2.celli 0 rfl rfl, hb2.celli 1 rfl rfl, hb2.celli 2 rfl rfl, hb2.celli 3 rfl rfl, hb2.celli 4 rfl rfl, hb2.celli 5 rfl rfl, trivial⟩, ?_⟩
                have hm155 : Ext (fun b => b = w.heap.size) ww142 ww142 := ((Ext.refl no ww142)).none
                refine ⟨hb1.cani 0 rfl rfl, thenW_in fun ww150 e150 => ?_⟩
                have hx150 := hm155.x_set (q := w.heap.size) (i := 0) rfl (.inl rfl) e150
                have hb1 : Blk ww150 w.heap.size 40 [.int .i64 Kind100, .int .i64 Who95, .int .u64 Public96, .int .i64 Limit97, .slice Wraps98a Wraps98n Wraps98c, .slice Old99a Old99n Old99c] := hb1.seti 0 rfl e150
                refine ⟨hb1.cani 1 rfl rfl, thenW_in fun ww151 e151 => ?_⟩
                have hx151 := hx150.x_set (q := w.heap.size) (i := 1) rfl (.inl rfl) e151
                have hb1 : Blk ww151 w.heap.size 40 [.int .i64 Kind100, .int .i64 Who101, .int .u64 Public96, .int .i64 Limit97, .slice Wraps98a Wraps98n Wraps98c, .slice Old99a Old99n Old99c] := hb1.seti 1 rfl e151
                refine ⟨hb1.cani 2 rfl rfl, thenW_in fun ww152 e152 => ?_⟩
                have hx152 := hx151.x_set (q := w.heap.size) (i := 2) rfl (.inl rfl) e152
                have hb1 : Blk ww152 w.heap.size 40 [.int .i64 Kind100, .int .i64 Who101, .int .u64 Public102, .int .i64 Limit97, .slice Wraps98a Wraps98n Wraps98c, .slice Old99a Old99n Old99c] := hb1.seti 2 rfl e152
                refine ⟨hb1.cani 3 rfl rfl, thenW_in fun ww153 e153 => ?_⟩
                have hx153 := hx152.x_set (q := w.heap.size) (i := 3) rfl (.inl rfl) e153
                have hb1 : Blk ww153 w.heap.size 40 [.int .i64 Kind100, .int .i64 Who101, .int .u64 Public102, .int .i64 Limit103, .slice Wraps98a Wraps98n Wraps98c, .slice Old99a Old99n Old99c] := hb1.seti 3 rfl e153
                refine ⟨hb1.cani 4 rfl rfl, thenW_in fun ww154 e154 => ?_⟩
                have hx154 := hx153.x_set (q := w.heap.size) (i := 4) rfl (.inl rfl) e154
                have hb1 : Blk ww154 w.heap.size 40 [.int .i64 Kind100, .int .i64 Who101, .int .u64 Public102, .int .i64 Limit103, .slice Wraps104a Wraps104n Wraps104c, .slice Old99a Old99n Old99c] := hb1.seti 4 rfl e154
                refine ⟨hb1.cani 5 rfl rfl, thenW_in fun ww155 e155 => ?_⟩
                have hx155 := hx154.x_set (q := w.heap.size) (i := 5) rfl (.inl rfl) e155
                have hb1 : Blk ww155 w.heap.size 40 [.int .i64 Kind100, .int .i64 Who101, .int .u64 Public102, .int .i64 Limit103, .slice Wraps104a Wraps104n Wraps104c, .slice bytes126a bytes126n bytes126c] := hb1.seti 5 rfl e155
                refine ⟨Kind100, Who101, Public102, Limit103, Wraps104a, Wraps104n, Wraps104c, bytes126a, bytes126n, bytes126c, ⟨hb1.celli 0 rfl rfl, hb1.celli 1 rfl rfl, hb1.celli 2 rfl rfl, hb1.celli 3 rfl rfl, hb1.celli 4 rfl rfl, hb1.celli 5 rfl rfl, trivial⟩, ?_⟩
                have h := h ww155 hx155
                exact h
        · have h := h.2 (Int.not_lt.1 (of_decide_eq_false c109))
          refine h.mono fun ee157 ww158 h => ?_
          obtain ⟨bytes156a, bytes156n, bytes156c, he, hk, h⟩ := h
          refine ⟨bytes156a, bytes156n, bytes156c, he, ?_⟩
          have hb1 := hk.blk hb1 (by simp)
          have hb2 := hk.blk hb2 (by simp)
          have hm159 : Ext (fun b => b = ww8.heap.size) ww158 ww158 := ((Ext.refl no ww158)).none
          refine ⟨hb2.cani 5 rfl rfl, thenW_in fun ww159 e159 => ?_⟩
          have hx159 := hm159.x_set (q := ww8.heap.size) (i := 5) rfl (.inl rfl) e159
          have hb1 := hb1.oth (q := ww8.heap.size) (i := 5) rfl hb1_2 e159
          have hb2 : Blk ww159 ww8.heap.size 40 [.int .i64 Kind100, .int .i64 Who101, .int .u64 Public102, .int .i64 Limit103, .slice Wraps104a Wraps104n Wraps104c, .slice bytes156a bytes156n bytes156c] := hb2.seti 5 rfl e159
          have h := h ww159 hx159
          refine h.mono fun ee161 ww162 h => ?_
          obtain ⟨done160, he, hk, h⟩ := h
          refine ⟨done160, he, ?_⟩
          have hb1 := hk.blk hb1 (by simp)
          have hb2 := hk.blk hb2 (by simp)
          refine bif_of (fun c163 => ?_) (fun c163 => ?_)
          · have h := h.1 (bne_t c163)
            have hm169 : Ext (fun b => b = w.heap.size) ww162 ww162 := ((Ext.refl no ww162)).none
            refine ⟨hb1.cani 0 rfl rfl, thenW_in fun ww164 e164 => ?_⟩
            have hx164 := hm169.x_set (q := w.heap.size) (i := 0) rfl (.inl rfl) e164
            have hb1 : Blk ww164 w.heap.size 40 [.int .i64 0, .int .i64 Who95, .int .u64 Public96, .int .i64 Limit97, .slice Wraps98a Wraps98n Wraps98c, .slice Old99a Old99n Old99c] := hb1.seti 0 rfl e164
            refine ⟨hb1.cani 1 rfl rfl, thenW_in fun ww165 e165 => ?_⟩
            have hx165 := hx164.x_set (q := w.heap.size) (i := 1) rfl (.inl rfl) e165
            have hb1 : Blk ww165 w.heap.size 40 [.int .i64 0, .int .i64 0, .int .u64 Public96, .int .i64 Limit97, .slice Wraps98a Wraps98n Wraps98c, .slice Old99a Old99n Old99c] := hb1.seti 1 rfl e165
            refine ⟨hb1.cani 2 rfl rfl, thenW_in fun ww166 e166 => ?_⟩
            have hx166 := hx165.x_set (q := w.heap.size) (i := 2) rfl (.inl rfl) e166
            have hb1 : Blk ww166 w.heap.size 40 [.int .i64 0, .int .i64 0, .int .u64 0, .int .i64 Limit97, .slice Wraps98a Wraps98n Wraps98c, .slice Old99a Old99n Old99c] := hb1.seti 2 rfl e166
            refine ⟨hb1.cani 3 rfl rfl, thenW_in fun ww167 e167 => ?_⟩
            have hx167 := hx166.x_set (q := w.heap.size) (i := 3) rfl (.inl rfl) e167
            have hb1 : Blk ww167 w.heap.size 40 [.int .i64 0, .int .i64 0, .int .u64 0, .int .i64 0, .slice Wraps98a Wraps98n Wraps98c, .slice Old99a Old99n Old99c] := hb1.seti 3 rfl e167
            refine ⟨hb1.cani 4 rfl rfl, thenW_in fun ww168 e168 => ?_⟩
            have hx168 := hx167.x_set (q := w.heap.size) (i := 4) rfl (.inl rfl) e168
            have hb1 : Blk ww168 w.heap.size 40 [.int .i64 0, .int .i64 0, .int .u64 0, .int .i64 0, .slice none 0 0, .slice Old99a Old99n Old99c] := hb1.seti 4 rfl e168
            refine ⟨hb1.cani 5 rfl rfl, thenW_in fun ww169 e169 => ?_⟩
            have hx169 := hx168.x_set (q := w.heap.size) (i := 5) rfl (.inl rfl) e169
            have hb1 : Blk ww169 w.heap.size 40 [.int .i64 0, .int .i64 0, .int .u64 0, .int .i64 0, .slice none 0 0, .slice none 0 0] := hb1.seti 5 rfl e169
            refine ⟨0, 0, 0, 0, none, 0, 0, none, 0, 0, ⟨hb1.celli 0 rfl rfl, hb1.celli 1 rfl rfl, hb1.celli 2 rfl rfl, hb1.celli 3 rfl rfl, hb1.celli 4 rfl rfl, hb1.celli 5 rfl rfl, trivial⟩, ?_⟩
            have h := h ww169 hx169
            exact h
          · have h := h.2 (bne_f c163)
            refine ⟨Kind100, Who101, Public102, Limit103, Wraps104a, Wraps104n, Wraps104c, bytes156a, bytes156n, bytes156c, ⟨hb2.celli 0 rfl rfl, hb2.celli 1 rfl rfl, hb2.celli 2 rfl rfl, hb2.celli 3 rfl rfl, hb2.celli 4 rfl rfl, hb2.celli 5 rfl rfl, trivial⟩, ?_⟩
            refine h.mono fun ee171 ww172 h => ?_
            obtain ⟨right170, he, hk, h⟩ := h
            refine ⟨right170, he, ?_⟩
            have hb1 := hk.blk hb1 (by simp)
            have hb2 := hk.blk hb2 (by simp)
            refine bif_of (fun c173 => ?_) (fun c173 => ?_)
            · have h := h.1 (not_t c173)
              have hm179 : Ext (fun b => b = w.heap.size) ww172 ww172 := ((Ext.refl no ww172)).none
              refine ⟨hb1.cani 0 rfl rfl, thenW_in fun ww174 e174 => ?_⟩
              have hx174 := hm179.x_set (q := w.heap.size) (i := 0) rfl (.inl rfl) e174
              have hb1 : Blk ww174 w.heap.size 40 [.int .i64 0, .int .i64 Who95, .int .u64 Public96, .int .i64 Limit97, .slice Wraps98a Wraps98n Wraps98c, .slice Old99a Old99n Old99c] := hb1.seti 0 rfl e174
              refine ⟨hb1.cani 1 rfl rfl, thenW_in fun ww175 e175 => ?_⟩
              have hx175 := hx174.x_set (q := w.heap.size) (i := 1) rfl (.inl rfl) e175
              have hb1 : Blk ww175 w.heap.size 40 [.int .i64 0, .int .i64 0, .int .u64 Public96, .int .i64 Limit97, .slice Wraps98a Wraps98n Wraps98c, .slice Old99a Old99n Old99c] := hb1.seti 1 rfl e175
              refine ⟨hb1.cani 2 rfl rfl, thenW_in fun ww176 e176 => ?_⟩
              have hx176 := hx175.x_set (q := w.heap.size) (i := 2) rfl (.inl rfl) e176
              have hb1 : Blk ww176 w.heap.size 40 [.int .i64 0, .int .i64 0, .int .u64 0, .int .i64 Limit97, .slice Wraps98a Wraps98n Wraps98c, .slice Old99a Old99n Old99c] := hb1.seti 2 rfl e176
              refine ⟨hb1.cani 3 rfl rfl, thenW_in fun ww177 e177 => ?_⟩
              have hx177 := hx176.x_set (q := w.heap.size) (i := 3) rfl (.inl rfl) e177
              have hb1 : Blk ww177 w.heap.size 40 [.int .i64 0, .int .i64 0, .int .u64 0, .int .i64 0, .slice Wraps98a Wraps98n Wraps98c, .slice Old99a Old99n Old99c] := hb1.seti 3 rfl e177
              refine ⟨hb1.cani 4 rfl rfl, thenW_in fun ww178 e178 => ?_⟩
              have hx178 := hx177.x_set (q := w.heap.size) (i := 4) rfl (.inl rfl) e178
              have hb1 : Blk ww178 w.heap.size 40 [.int .i64 0, .int .i64 0, .int .u64 0, .int .i64 0, .slice none 0 0, .slice Old99a Old99n Old99c] := hb1.seti 4 rfl e178
              refine ⟨hb1.cani 5 rfl rfl, thenW_in fun ww179 e179 => ?_⟩
              have hx179 := hx178.x_set (q := w.heap.size) (i := 5) rfl (.inl rfl) e179
              have hb1 : Blk ww179 w.heap.size 40 [.int .i64 0, .int .i64 0, .int .u64 0, .int .i64 0, .slice none 0 0, .slice none 0 0] := hb1.seti 5 rfl e179
              refine ⟨0, 0, 0, 0, none, 0, 0, none, 0, 0, ⟨hb1.celli 0 rfl rfl, hb1.celli 1 rfl rfl, hb1.celli 2 rfl rfl, hb1.celli 3 rfl rfl, hb1.celli 4 rfl rfl, hb1.celli 5 rfl rfl, trivial⟩, ?_⟩
              have h := h ww179 hx179
              exact h
            · have h := h.2 (not_f c173)
              refine ⟨Kind100, Who101, Public102, Limit103, Wraps104a, Wraps104n, Wraps104c, bytes156a, bytes156n, bytes156c, ⟨hb2.celli 0 rfl rfl, hb2.celli 1 rfl rfl, hb2.celli 2 rfl rfl, hb2.celli 3 rfl rfl, hb2.celli 4 rfl rfl, hb2.celli 5 rfl rfl, trivial⟩, ?_⟩
              have hm185 : Ext (fun b => b = w.heap.size) ww172 ww172 := ((Ext.refl no ww172)).none
              refine ⟨hb1.cani 0 rfl rfl, thenW_in fun ww180 e180 => ?_⟩
              have hx180 := hm185.x_set (q := w.heap.size) (i := 0) rfl (.inl rfl) e180
              have hb1 : Blk ww180 w.heap.size 40 [.int .i64 Kind100, .int .i64 Who95, .int .u64 Public96, .int .i64 Limit97, .slice Wraps98a Wraps98n Wraps98c, .slice Old99a Old99n Old99c] := hb1.seti 0 rfl e180
              refine ⟨hb1.cani 1 rfl rfl, thenW_in fun ww181 e181 => ?_⟩
              have hx181 := hx180.x_set (q := w.heap.size) (i := 1) rfl (.inl rfl) e181
              have hb1 : Blk ww181 w.heap.size 40 [.int .i64 Kind100, .int .i64 Who101, .int .u64 Public96, .int .i64 Limit97, .slice Wraps98a Wraps98n Wraps98c, .slice Old99a Old99n Old99c] := hb1.seti 1 rfl e181
              refine ⟨hb1.cani 2 rfl rfl, thenW_in fun ww182 e182 => ?_⟩
              have hx182 := hx181.x_set (q := w.heap.size) (i := 2) rfl (.inl rfl) e182
              have hb1 : Blk ww182 w.heap.size 40 [.int .i64 Kind100, .int .i64 Who101, .int .u64 Public102, .int .i64 Limit97, .slice Wraps98a Wraps98n Wraps98c, .slice Old99a Old99n Old99c] := hb1.seti 2 rfl e182
              refine ⟨hb1.cani 3 rfl rfl, thenW_in fun ww183 e183 => ?_⟩
              have hx183 := hx182.x_set (q := w.heap.size) (i := 3) rfl (.inl rfl) e183
              have hb1 : Blk ww183 w.heap.size 40 [.int .i64 Kind100, .int .i64 Who101, .int .u64 Public102, .int .i64 Limit103, .slice Wraps98a Wraps98n Wraps98c, .slice Old99a Old99n Old99c] := hb1.seti 3 rfl e183
              refine ⟨hb1.cani 4 rfl rfl, thenW_in fun ww184 e184 => ?_⟩
              have hx184 := hx183.x_set (q := w.heap.size) (i := 4) rfl (.inl rfl) e184
              have hb1 : Blk ww184 w.heap.size 40 [.int .i64 Kind100, .int .i64 Who101, .int .u64 Public102, .int .i64 Limit103, .slice Wraps104a Wraps104n Wraps104c, .slice Old99a Old99n Old99c] := hb1.seti 4 rfl e184
              refine ⟨hb1.cani 5 rfl rfl, thenW_in fun ww185 e185 => ?_⟩
              have hx185 := hx184.x_set (q := w.heap.size) (i := 5) rfl (.inl rfl) e185
              have hb1 : Blk ww185 w.heap.size 40 [.int .i64 Kind100, .int .i64 Who101, .int .u64 Public102, .int .i64 Limit103, .slice Wraps104a Wraps104n Wraps104c, .slice bytes156a bytes156n bytes156c] := hb1.seti 5 rfl e185
              refine ⟨Kind100, Who101, Public102, Limit103, Wraps104a, Wraps104n, Wraps104c, bytes156a, bytes156n, bytes156c, ⟨hb1.celli 0 rfl rfl, hb1.celli 1 rfl rfl, hb1.celli 2 rfl rfl, hb1.celli 3 rfl rfl, hb1.celli 4 rfl rfl, hb1.celli 5 rfl rfl, trivial⟩, ?_⟩
              have h := h ww185 hx185
              exact h
      · have h := h.2 (beq_f c88)
        have h := h ww15 (ww8.heap.size) hx15 (Priv.cons hg2 hb2.lt Priv.nil)
        refine h.mono fun ee188 ww189 h => ?_
        obtain ⟨done187, he, hk, h⟩ := h
        refine ⟨done187, he, ?_⟩
        have hb1 := hk.blk hb1 (by simp)
        have hb2 := hk.blk hb2 (by simp)
        refine bif_of (fun c190 => ?_) (fun c190 => ?_)
        · have h := h.1 (bne_t c190)
          have hm196 : Ext (fun b => b = w.heap.size) ww189 ww189 := ((Ext.refl no ww189)).none
          refine ⟨hb1.cani 0 rfl rfl, thenW_in fun ww191 e191 => ?_⟩
          have hx191 := hm196.x_set (q := w.heap.size) (i := 0) rfl (.inl rfl) e191
          have hb1 : Blk ww191 w.heap.size 40 [.int .i64 0, .int .i64 0, .int .u64 0, .int .i64 0, .slice none 0 0, .slice none 0 0] := hb1.seti 0 rfl e191
          refine ⟨hb1.cani 1 rfl rfl, thenW_in fun ww192 e192 => ?_⟩
          have hx192 := hx191.x_set (q := w.heap.size) (i := 1) rfl (.inl rfl) e192
          have hb1 : Blk ww192 w.heap.size 40 [.int .i64 0, .int .i64 0, .int .u64 0, .int .i64 0, .slice none 0 0, .slice none 0 0] := hb1.seti 1 rfl e192
          refine ⟨hb1.cani 2 rfl rfl, thenW_in fun ww193 e193 => ?_⟩
          have hx193 := hx192.x_set (q := w.heap.size) (i := 2) rfl (.inl rfl) e193
          have hb1 : Blk ww193 w.heap.size 40 [.int .i64 0, .int .i64 0, .int .u64 0, .int .i64 0, .slice none 0 0, .slice none 0 0] := hb1.seti 2 rfl e193
          refine ⟨hb1.cani 3 rfl rfl, thenW_in fun ww194 e194 => ?_⟩
          have hx194 := hx193.x_set (q := w.heap.size) (i := 3) rfl (.inl rfl) e194
          have hb1 : Blk ww194 w.heap.size 40 [.int .i64 0, .int .i64 0, .int .u64 0, .int .i64 0, .slice none 0 0, .slice none 0 0] := hb1.seti 3 rfl e194
          refine ⟨hb1.cani 4 rfl rfl, thenW_in fun ww195 e195 => ?_⟩
          have hx195 := hx194.x_set (q := w.heap.size) (i := 4) rfl (.inl rfl) e195
          have hb1 : Blk ww195 w.heap.size 40 [.int .i64 0, .int .i64 0, .int .u64 0, .int .i64 0, .slice none 0 0, .slice none 0 0] := hb1.seti 4 rfl e195
          refine ⟨hb1.cani 5 rfl rfl, thenW_in fun ww196 e196 => ?_⟩
          have hx196 := hx195.x_set (q := w.heap.size) (i := 5) rfl (.inl rfl) e196
          have hb1 : Blk ww196 w.heap.size 40 [.int .i64 0, .int .i64 0, .int .u64 0, .int .i64 0, .slice none 0 0, .slice none 0 0] := hb1.seti 5 rfl e196
          refine ⟨0, 0, 0, 0, none, 0, 0, none, 0, 0, ⟨hb1.celli 0 rfl rfl, hb1.celli 1 rfl rfl, hb1.celli 2 rfl rfl, hb1.celli 3 rfl rfl, hb1.celli 4 rfl rfl, hb1.celli 5 rfl rfl, trivial⟩, ?_⟩
          have h := h ww196 hx196
          exact h
        · have h := h.2 (bne_f c190)
          refine ⟨count6, 0, 0, 0, none, 0, 0, none, 0, 0, ⟨hb2.celli 0 rfl rfl, hb2.celli 1 rfl rfl, hb2.celli 2 rfl rfl, hb2.celli 3 rfl rfl, hb2.celli 4 rfl rfl, hb2.celli 5 rfl rfl, trivial⟩, ?_⟩
          refine h.mono fun ee198 ww199 h => ?_
          obtain ⟨right197, he, hk, h⟩ := h
          refine ⟨right197, he, ?_⟩
          have hb1 := hk.blk hb1 (by simp)
          have hb2 := hk.blk hb2 (by simp)
          refine bif_of (fun c200 => ?_) (fun c200 => ?_)
          · have h := h.1 (not_t c200)
            have hm206 : Ext (fun b => b = w.heap.size) ww199 ww199 := ((Ext.refl no ww199)).none
            refine ⟨hb1.cani 0 rfl rfl, thenW_in fun ww201 e201 => ?_⟩
            have hx201 := hm206.x_set (q := w.heap.size) (i := 0) rfl (.inl rfl) e201
            have hb1 : Blk ww201 w.heap.size 40 [.int .i64 0, .int .i64 0, .int .u64 0, .int .i64 0, .slice none 0 0, .slice none 0 0] := hb1.seti 0 rfl e201
            refine ⟨hb1.cani 1 rfl rfl, thenW_in fun ww202 e202 => ?_⟩
            have hx202 := hx201.x_set (q := w.heap.size) (i := 1) rfl (.inl rfl) e202
            have hb1 : Blk ww202 w.heap.size 40 [.int .i64 0, .int .i64 0, .int .u64 0, .int .i64 0, .slice none 0 0, .slice none 0 0] := hb1.seti 1 rfl e202
            refine ⟨hb1.cani 2 rfl rfl, thenW_in fun ww203 e203 => ?_⟩
            have hx203 := hx202.x_set (q := w.heap.size) (i := 2) rfl (.inl rfl) e203
            have hb1 : Blk ww203 w.heap.size 40 [.int .i64 0, .int .i64 0, .int .u64 0, .int .i64 0, .slice none 0 0, .slice none 0 0] := hb1.seti 2 rfl e203
            refine ⟨hb1.cani 3 rfl rfl, thenW_in fun ww204 e204 => ?_⟩
            have hx204 := hx203.x_set (q := w.heap.size) (i := 3) rfl (.inl rfl) e204
            have hb1 : Blk ww204 w.heap.size 40 [.int .i64 0, .int .i64 0, .int .u64 0, .int .i64 0, .slice none 0 0, .slice none 0 0] := hb1.seti 3 rfl e204
            refine ⟨hb1.cani 4 rfl rfl, thenW_in fun ww205 e205 => ?_⟩
            have hx205 := hx204.x_set (q := w.heap.size) (i := 4) rfl (.inl rfl) e205
            have hb1 : Blk ww205 w.heap.size 40 [.int .i64 0, .int .i64 0, .int .u64 0, .int .i64 0, .slice none 0 0, .slice none 0 0] := hb1.seti 4 rfl e205
            refine ⟨hb1.cani 5 rfl rfl, thenW_in fun ww206 e206 => ?_⟩
            have hx206 := hx205.x_set (q := w.heap.size) (i := 5) rfl (.inl rfl) e206
            have hb1 : Blk ww206 w.heap.size 40 [.int .i64 0, .int .i64 0, .int .u64 0, .int .i64 0, .slice none 0 0, .slice none 0 0] := hb1.seti 5 rfl e206
            refine ⟨0, 0, 0, 0, none, 0, 0, none, 0, 0, ⟨hb1.celli 0 rfl rfl, hb1.celli 1 rfl rfl, hb1.celli 2 rfl rfl, hb1.celli 3 rfl rfl, hb1.celli 4 rfl rfl, hb1.celli 5 rfl rfl, trivial⟩, ?_⟩
            have h := h ww206 hx206
            exact h
          · have h := h.2 (not_f c200)
            refine ⟨count6, 0, 0, 0, none, 0, 0, none, 0, 0, ⟨hb2.celli 0 rfl rfl, hb2.celli 1 rfl rfl, hb2.celli 2 rfl rfl, hb2.celli 3 rfl rfl, hb2.celli 4 rfl rfl, hb2.celli 5 rfl rfl, trivial⟩, ?_⟩
            have hm212 : Ext (fun b => b = w.heap.size) ww199 ww199 := ((Ext.refl no ww199)).none
            refine ⟨hb1.cani 0 rfl rfl, thenW_in fun ww207 e207 => ?_⟩
            have hx207 := hm212.x_set (q := w.heap.size) (i := 0) rfl (.inl rfl) e207
            have hb1 : Blk ww207 w.heap.size 40 [.int .i64 count6, .int .i64 0, .int .u64 0, .int .i64 0, .slice none 0 0, .slice none 0 0] := hb1.seti 0 rfl e207
            refine ⟨hb1.cani 1 rfl rfl, thenW_in fun ww208 e208 => ?_⟩
            have hx208 := hx207.x_set (q := w.heap.size) (i := 1) rfl (.inl rfl) e208
            have hb1 : Blk ww208 w.heap.size 40 [.int .i64 count6, .int .i64 0, .int .u64 0, .int .i64 0, .slice none 0 0, .slice none 0 0] := hb1.seti 1 rfl e208
            refine ⟨hb1.cani 2 rfl rfl, thenW_in fun ww209 e209 => ?_⟩
            have hx209 := hx208.x_set (q := w.heap.size) (i := 2) rfl (.inl rfl) e209
            have hb1 : Blk ww209 w.heap.size 40 [.int .i64 count6, .int .i64 0, .int .u64 0, .int .i64 0, .slice none 0 0, .slice none 0 0] := hb1.seti 2 rfl e209
            refine ⟨hb1.cani 3 rfl rfl, thenW_in fun ww210 e210 => ?_⟩
            have hx210 := hx209.x_set (q := w.heap.size) (i := 3) rfl (.inl rfl) e210
            have hb1 : Blk ww210 w.heap.size 40 [.int .i64 count6, .int .i64 0, .int .u64 0, .int .i64 0, .slice none 0 0, .slice none 0 0] := hb1.seti 3 rfl e210
            refine ⟨hb1.cani 4 rfl rfl, thenW_in fun ww211 e211 => ?_⟩
            have hx211 := hx210.x_set (q := w.heap.size) (i := 4) rfl (.inl rfl) e211
            have hb1 : Blk ww211 w.heap.size 40 [.int .i64 count6, .int .i64 0, .int .u64 0, .int .i64 0, .slice none 0 0, .slice none 0 0] := hb1.seti 4 rfl e211
            refine ⟨hb1.cani 5 rfl rfl, thenW_in fun ww212 e212 => ?_⟩
            have hx212 := hx211.x_set (q := w.heap.size) (i := 5) rfl (.inl rfl) e212
            have hb1 : Blk ww212 w.heap.size 40 [.int .i64 count6, .int .i64 0, .int .u64 0, .int .i64 0, .slice none 0 0, .slice none 0 0] := hb1.seti 5 rfl e212
            refine ⟨count6, 0, 0, 0, none, 0, 0, none, 0, 0, ⟨hb1.celli 0 rfl rfl, hb1.celli 1 rfl rfl, hb1.celli 2 rfl rfl, hb1.celli 3 rfl rfl, hb1.celli 4 rfl rfl, hb1.celli 5 rfl rfl, trivial⟩, ?_⟩
            have h := h ww212 hx212
            exact h

theorem cachetteref12_Read.go (b1a : Option Addr) (b1n : Nat) (b1c : Nat) {R : Value → World → Prop} {w : World} (h : cachetteref12_Read.N b1a b1n b1c R w) : Calls Try.prog 30 #[.slice b1a b1n b1c] w fun e w' => ∃ v, e = .returned v ∧ R v w' := cachetteref12_Read.ok b1a b1n b1c (cachetteref12_Read.up b1a b1n b1c h)
theorem cachetteref12_Read.run (b1a : Option Addr) (b1n : Nat) (b1c : Nat) {V : Value} {Q : World → Prop} {w : World} (h : cachetteref12_Read.N b1a b1n b1c (fun v w' => v = V ∧ Q w') w) : Calls Try.prog 30 #[.slice b1a b1n b1c] w (Ret V Q) := (cachetteref12_Read.go b1a b1n b1c h).mono fun e w' ⟨v, he, hv, hq⟩ => ⟨by rw [he, hv], hq⟩

/-- cachetteref12.Changes -/
def cachetteref12_Changes.M (aKind1 : Int) (aWho2 : Int) (aPublic3 : Int) (aLimit4 : Int) (aWraps5a : Option Addr) (aWraps5n : Nat) (aWraps5c : Nat) (aOld6a : Option Addr) (aOld6n : Nat) (aOld6c : Nat) (bKind7 : Int) (bWho8 : Int) (bPublic9 : Int) (bLimit10 : Int) (bWraps11a : Option Addr) (bWraps11n : Nat) (bWraps11c : Nat) (bOld12a : Option Addr) (bOld12n : Nat) (bOld12c : Nat) (R : Value → World → Prop) (w : World) : Prop :=
  thenW (w.alloc (.cells #[.int .i64 aKind1, .int .i64 aWho2, .int .u64 aPublic3, .int .i64 aLimit4, .slice aWraps5a aWraps5n aWraps5c, .slice aOld6a aOld6n aOld6c] 40)) fun ww13 =>
  thenW (ww13.alloc (.cells #[.int .i64 bKind7, .int .i64 bWho8, .int .u64 bPublic9, .int .i64 bLimit10, .slice bWraps11a bWraps11n bWraps11c, .slice bOld12a bOld12n bOld12c] 40)) fun ww14 =>
  ∃ (Kind15 : Int), ww14.cell? ((blk w.heap.size).add 0) = some (.int .i64 Kind15) ∧
  ∃ (Kind16 : Int), ww14.cell? ((blk ww13.heap.size).add 0) = some (.int .i64 Kind16) ∧
  bif Kind15 != Kind16 then (
  R (.bool false) ww14) else (
  ∃ (Who17 : Int), ww14.cell? ((blk w.heap.size).add 1) = some (.int .i64 Who17) ∧
  ∃ (Who18 : Int), ww14.cell? ((blk ww13.heap.size).add 1) = some (.int .i64 Who18) ∧
  bif Who17 != Who18 then (
  R (.bool false) ww14) else (
  ∃ (Public19 : Int), ww14.cell? ((blk w.heap.size).add 2) = some (.int .u64 Public19) ∧
  ∃ (Public20 : Int), ww14.cell? ((blk ww13.heap.size).add 2) = some (.int .u64 Public20) ∧
  bif Public19 != Public20 then (
  R (.bool false) ww14) else (
  ∃ (Limit21 : Int), ww14.cell? ((blk w.heap.size).add 3) = some (.int .i64 Limit21) ∧
  ∃ (Limit22 : Int), ww14.cell? ((blk ww13.heap.size).add 3) = some (.int .i64 Limit22) ∧
  bif Limit21 != Limit22 then (
  R (.bool false) ww14) else (
  ∃ (Wraps23a : Option Addr) (Wraps23n : Nat) (Wraps23c : Nat), ww14.cell? ((blk w.heap.size).add 4) = some (.slice Wraps23a Wraps23n Wraps23c) ∧
  ∃ (Wraps24a : Option Addr) (Wraps24n : Nat) (Wraps24c : Nat), ww14.cell? ((blk ww13.heap.size).add 4) = some (.slice Wraps24a Wraps24n Wraps24c) ∧
  bif (Wraps23n : Int) != (Wraps24n : Int) then (
  R (.bool false) ww14) else (
  ∃ (Old25a : Option Addr) (Old25n : Nat) (Old25c : Nat), ww14.cell? ((blk w.heap.size).add 5) = some (.slice Old25a Old25n Old25c) ∧
  ∃ (Old26a : Option Addr) (Old26n : Nat) (Old26c : Nat), ww14.cell? ((blk ww13.heap.size).add 5) = some (.slice Old26a Old26n Old26c) ∧
  Calls Try.prog 33 #[.slice Old25a Old25n Old25c, .slice Old26a Old26n Old26c] ww14 fun ee28 ww29 => ∃ (same27 : Bool), ee28 = .returned (.bool same27) ∧
  bif !same27 then (
  R (.bool false) ww29) else (
  ∃ (I0 : Nat → List Value → World → Prop) (m31 : Nat), I0 m31 [.int .i64 0] ww29 ∧ ∀ (m32 : Nat) (ww33 : World) (i30 : Int), I0 m32 [.int .i64 i30] ww33 →
  ∃ (Wraps34a : Option Addr) (Wraps34n : Nat) (Wraps34c : Nat), ww33.cell? ((blk w.heap.size).add 4) = some (.slice Wraps34a Wraps34n Wraps34c) ∧
  bif decide (i30 < (Wraps34n : Int)) then (
  thenW (ww33.drew) fun ww35 =>
  ∃ (Wraps36a : Option Addr) (Wraps36n : Nat) (Wraps36c : Nat), ww35.cell? ((blk w.heap.size).add 4) = some (.slice Wraps36a Wraps36n Wraps36c) ∧
  Wraps36a.elim False fun a37 =>
  0 ≤ (i30 : Int) ∧ (i30 : Int) < (Wraps36n : Int) ∧
  ∃ (Who38 : Int), ww35.cell? ((a37.add (Int.toNat i30 * 2)).add 0) = some (.int .i64 Who38) ∧
  ∃ (Wraps39a : Option Addr) (Wraps39n : Nat) (Wraps39c : Nat), ww35.cell? ((blk ww13.heap.size).add 4) = some (.slice Wraps39a Wraps39n Wraps39c) ∧
  Wraps39a.elim False fun a40 =>
  0 ≤ (i30 : Int) ∧ (i30 : Int) < (Wraps39n : Int) ∧
  ∃ (Who41 : Int), ww35.cell? ((a40.add (Int.toNat i30 * 2)).add 0) = some (.int .i64 Who41) ∧
  bif Who38 != Who41 then (
  R (.bool false) ww35) else (
  ∃ (Wraps42a : Option Addr) (Wraps42n : Nat) (Wraps42c : Nat), ww35.cell? ((blk w.heap.size).add 4) = some (.slice Wraps42a Wraps42n Wraps42c) ∧
  Wraps42a.elim False fun a43 =>
  0 ≤ (i30 : Int) ∧ (i30 : Int) < (Wraps42n : Int) ∧
  ∃ (B44a : Option Addr) (B44n : Nat) (B44c : Nat), ww35.cell? ((a43.add (Int.toNat i30 * 2)).add 1) = some (.slice B44a B44n B44c) ∧
  ∃ (Wraps45a : Option Addr) (Wraps45n : Nat) (Wraps45c : Nat), ww35.cell? ((blk ww13.heap.size).add 4) = some (.slice Wraps45a Wraps45n Wraps45c) ∧
  Wraps45a.elim False fun a46 =>
  0 ≤ (i30 : Int) ∧ (i30 : Int) < (Wraps45n : Int) ∧
  ∃ (B47a : Option Addr) (B47n : Nat) (B47c : Nat), ww35.cell? ((a46.add (Int.toNat i30 * 2)).add 1) = some (.slice B47a B47n B47c) ∧
  Calls Try.prog 33 #[.slice B44a B44n B44c, .slice B47a B47n B47c] ww35 fun ee49 ww50 => ∃ (same48 : Bool), ee49 = .returned (.bool same48) ∧
  bif !same48 then (
  R (.bool false) ww50) else (
  ∃ m51, m51 < m32 ∧ I0 m51 [.int .i64 (IntKind.i64.wrap (i30 + 1))] ww50))) else (
  R (.bool true) ww33)))))))

theorem cachetteref12_Changes.eq (aKind1 : Int) (aWho2 : Int) (aPublic3 : Int) (aLimit4 : Int) (aWraps5a : Option Addr) (aWraps5n : Nat) (aWraps5c : Nat) (aOld6a : Option Addr) (aOld6n : Nat) (aOld6c : Nat) (bKind7 : Int) (bWho8 : Int) (bPublic9 : Int) (bLimit10 : Int) (bWraps11a : Option Addr) (bWraps11n : Nat) (bWraps11c : Nat) (bOld12a : Option Addr) (bOld12n : Nat) (bOld12c : Nat) (R : Value → World → Prop) (w : World) : mfunc Try.prog [(0, [2, 3], [(5, (.one (.int .i64)))])] 34 [.agg #[.int .i64 aKind1, .int .i64 aWho2, .int .u64 aPublic3, .int .i64 aLimit4, .slice aWraps5a aWraps5n aWraps5c, .slice aOld6a aOld6n aOld6c], .agg #[.int .i64 bKind7, .int .i64 bWho8, .int .u64 bPublic9, .int .i64 bLimit10, .slice bWraps11a bWraps11n bWraps11c, .slice bOld12a bOld12n bOld12c]] R w = cachetteref12_Changes.M aKind1 aWho2 aPublic3 aLimit4 aWraps5a aWraps5n aWraps5c aOld6a aOld6n aOld6c bKind7 bWho8 bPublic9 bLimit10 bWraps11a bWraps11n bWraps11c bOld12a bOld12n bOld12c R w := by kernel_rfl
theorem cachetteref12_Changes.ok (aKind1 : Int) (aWho2 : Int) (aPublic3 : Int) (aLimit4 : Int) (aWraps5a : Option Addr) (aWraps5n : Nat) (aWraps5c : Nat) (aOld6a : Option Addr) (aOld6n : Nat) (aOld6c : Nat) (bKind7 : Int) (bWho8 : Int) (bPublic9 : Int) (bLimit10 : Int) (bWraps11a : Option Addr) (bWraps11n : Nat) (bWraps11c : Nat) (bOld12a : Option Addr) (bOld12n : Nat) (bOld12c : Nat) {R : Value → World → Prop} {w : World} (h : cachetteref12_Changes.M aKind1 aWho2 aPublic3 aLimit4 aWraps5a aWraps5n aWraps5c aOld6a aOld6n aOld6c bKind7 bWho8 bPublic9 bLimit10 bWraps11a bWraps11n bWraps11c bOld12a bOld12n bOld12c R w) : Calls Try.prog 34 #[.agg #[.int .i64 aKind1, .int .i64 aWho2, .int .u64 aPublic3, .int .i64 aLimit4, .slice aWraps5a aWraps5n aWraps5c, .slice aOld6a aOld6n aOld6c], .agg #[.int .i64 bKind7, .int .i64 bWho8, .int .u64 bPublic9, .int .i64 bLimit10, .slice bWraps11a bWraps11n bWraps11c, .slice bOld12a bOld12n bOld12c]] w fun e w' => ∃ v, e = .returned v ∧ R v w' :=
  mfunc_ok follows (H := [(0, [2, 3], [(5, (.one (.int .i64)))])]) (args := [.agg #[.int .i64 aKind1, .int .i64 aWho2, .int .u64 aPublic3, .int .i64 aLimit4, .slice aWraps5a aWraps5n aWraps5c, .slice aOld6a aOld6n aOld6c], .agg #[.int .i64 bKind7, .int .i64 bWho8, .int .u64 bPublic9, .int .i64 bLimit10, .slice bWraps11a bWraps11n bWraps11c, .slice bOld12a bOld12n bOld12c]]) (by rw [cachetteref12_Changes.eq]; exact h)

def cachetteref12_Changes.N (aKind1 : Int) (aWho2 : Int) (aPublic3 : Int) (aLimit4 : Int) (aWraps5a : Option Addr) (aWraps5n : Nat) (aWraps5c : Nat) (aOld6a : Option Addr) (aOld6n : Nat) (aOld6c : Nat) (bKind7 : Int) (bWho8 : Int) (bPublic9 : Int) (bLimit10 : Int) (bWraps11a : Option Addr) (bWraps11n : Nat) (bWraps11c : Nat) (bOld12a : Option Addr) (bOld12n : Nat) (bOld12c : Nat) (R : Value → World → Prop) (w : World) : Prop :=
  (aKind1 ≠ bKind7 →
    ∀ (ww14 : World), Ext no w ww14 →
    R (.bool false) ww14) ∧
  (aKind1 = bKind7 →
    (aWho2 ≠ bWho8 →
      ∀ (ww14 : World), Ext no w ww14 →
      R (.bool false) ww14) ∧
    (aWho2 = bWho8 →
      (aPublic3 ≠ bPublic9 →
        ∀ (ww14 : World), Ext no w ww14 →
        R (.bool false) ww14) ∧
      (aPublic3 = bPublic9 →
        (aLimit4 ≠ bLimit10 →
          ∀ (ww14 : World), Ext no w ww14 →
          R (.bool false) ww14) ∧
        (aLimit4 = bLimit10 →
          ((aWraps5n : Int) ≠ (bWraps11n : Int) →
            ∀ (ww14 : World), Ext no w ww14 →
            R (.bool false) ww14) ∧
          ((aWraps5n : Int) = (bWraps11n : Int) →
            ∀ (ww14 : World) (p30 : Nat) (p31 : Nat), Ext no w ww14 → Priv w ww14 [p30, p31] →
            Calls Try.prog 33 #[.slice aOld6a aOld6n aOld6c, .slice bOld12a bOld12n bOld12c] ww14 fun ee33 ww34 => ∃ (same32 : Bool), ee33 = .returned (.bool same32) ∧
            Keep [p30, p31] ww14 ww34 ∧
            (same32 = false →
              R (.bool false) ww34) ∧
            (same32 = true →
              ∃ (I0 : Nat → List Value → World → Prop) (m37 : Nat), I0 m37 [.int .i64 0] ww34 ∧ ∀ (m38 : Nat) (ww39 : World) (i36 : Int), I0 m38 [.int .i64 i36] ww39 →
              (i36 < (aWraps5n : Int) →
                ∃ a42 : Addr, aWraps5a = some a42 ∧
                0 ≤ (i36 : Int) ∧ (i36 : Int) < (aWraps5n : Int) ∧
                ∃ (Who44 : Int), ww39.cell? ((a42.add (Int.toNat i36 * 2)).add 0) = some (.int .i64 Who44) ∧
                ∃ a45 : Addr, bWraps11a = some a45 ∧
                0 ≤ (i36 : Int) ∧ (i36 : Int) < (bWraps11n : Int) ∧
                ∃ (Who47 : Int), ww39.cell? ((a45.add (Int.toNat i36 * 2)).add 0) = some (.int .i64 Who47) ∧
                (Who44 ≠ Who47 →
                  ∀ (ww41 : World), Ext no ww39 ww41 →
                  R (.bool false) ww41) ∧
                (Who44 = Who47 →
                  0 ≤ (i36 : Int) ∧ (i36 : Int) < (aWraps5n : Int) ∧
                  ∃ (B50a : Option Addr) (B50n : Nat) (B50c : Nat), ww39.cell? ((a42.add (Int.toNat i36 * 2)).add 1) = some (.slice B50a B50n B50c) ∧
                  0 ≤ (i36 : Int) ∧ (i36 : Int) < (bWraps11n : Int) ∧
                  ∃ (B52a : Option Addr) (B52n : Nat) (B52c : Nat), ww39.cell? ((a45.add (Int.toNat i36 * 2)).add 1) = some (.slice B52a B52n B52c) ∧
                  ∀ (ww41 : World), Ext no ww39 ww41 →
                  Calls Try.prog 33 #[.slice B50a B50n B50c, .slice B52a B52n B52c] ww41 fun ee54 ww55 => ∃ (same53 : Bool), ee54 = .returned (.bool same53) ∧
                  Keep [p30, p31] ww41 ww55 ∧
                  (same53 = false →
                    R (.bool false) ww55) ∧
                  (same53 = true →
                    (-9223372036854775808 : Int) ≤ (i36 + 1) ∧ (i36 + 1) < 9223372036854775808 ∧
                    ∃ m57, m57 < m38 ∧ I0 m57 [.int .i64 (i36 + 1)] ww55))) ∧
              ((aWraps5n : Int) ≤ i36 →
                R (.bool true) ww39)))))))

theorem cachetteref12_Changes.up (aKind1 : Int) (aWho2 : Int) (aPublic3 : Int) (aLimit4 : Int) (aWraps5a : Option Addr) (aWraps5n : Nat) (aWraps5c : Nat) (aOld6a : Option Addr) (aOld6n : Nat) (aOld6c : Nat) (bKind7 : Int) (bWho8 : Int) (bPublic9 : Int) (bLimit10 : Int) (bWraps11a : Option Addr) (bWraps11n : Nat) (bWraps11c : Nat) (bOld12a : Option Addr) (bOld12n : Nat) (bOld12c : Nat) {R : Value → World → Prop} {w : World} (h : cachetteref12_Changes.N aKind1 aWho2 aPublic3 aLimit4 aWraps5a aWraps5n aWraps5c aOld6a aOld6n aOld6c bKind7 bWho8 bPublic9 bLimit10 bWraps11a bWraps11n bWraps11c bOld12a bOld12n bOld12c R w) : cachetteref12_Changes.M aKind1 aWho2 aPublic3 aLimit4 aWraps5a aWraps5n aWraps5c aOld6a aOld6n aOld6c bKind7 bWho8 bPublic9 bLimit10 bWraps11a bWraps11n bWraps11c bOld12a bOld12n bOld12c R w := by
  unfold cachetteref12_Changes.M
  unfold cachetteref12_Changes.N at h
  refine thenW_in fun ww13 e13 => ?_
  have hb1 := Blk.of_new e13
  have hg1 := ((Ext.refl no w)).size
  have hx13 := (Ext.refl no w).x_alloc e13
  refine thenW_in fun ww14 e14 => ?_
  have hb2 := Blk.of_new e14
  have hg2 := (hx13).size
  have hb1_2 := Nat.ne_of_lt hb1.lt
  have hb1 := hb1.x_alloc e14
  have hx14 := hx13.x_alloc e14
  refine ⟨aKind1, hb1.celli 0 rfl rfl, ?_⟩
  refine ⟨bKind7, hb2.celli 0 rfl rfl, ?_⟩
  refine bif_of (fun c15 => ?_) (fun c15 => ?_)
  · have h := h.1 (bne_t c15)
    have h := h ww14 hx14
    exact h
  · have h := h.2 (bne_f c15)
    refine ⟨aWho2, hb1.celli 1 rfl rfl, ?_⟩
    refine ⟨bWho8, hb2.celli 1 rfl rfl, ?_⟩
    refine bif_of (fun c18 => ?_) (fun c18 => ?_)
    · have h := h.1 (bne_t c18)
      have h := h ww14 hx14
      exact h
    · have h := h.2 (bne_f c18)
      refine ⟨aPublic3, hb1.celli 2 rfl rfl, ?_⟩
      refine ⟨bPublic9, hb2.celli 2 rfl rfl, ?_⟩
      refine bif_of (fun c21 => ?_) (fun c21 => ?_)
      · have h := h.1 (bne_t c21)
        have h := h ww14 hx14
        exact h
      · have h := h.2 (bne_f c21)
        refine ⟨aLimit4, hb1.celli 3 rfl rfl, ?_⟩
        refine ⟨bLimit10, hb2.celli 3 rfl rfl, ?_⟩
        refine bif_of (fun c24 => ?_) (fun c24 => ?_)
        · have h := h.1 (bne_t c24)
          have h := h ww14 hx14
          exact h
        · have h := h.2 (bne_f c24)
          refine ⟨aWraps5a, aWraps5n, aWraps5c, hb1.celli 4 rfl rfl, ?_⟩
          refine ⟨bWraps11a, bWraps11n, bWraps11c, hb2.celli 4 rfl rfl, ?_⟩
          refine bif_of (fun c27 => ?_) (fun c27 => ?_)
          · have h := h.1 (bne_t c27)
            have h := h ww14 hx14
            exact h
          · have h := h.2 (bne_f c27)
            refine ⟨aOld6a, aOld6n, aOld6c, hb1.celli 5 rfl rfl, ?_⟩
            refine ⟨bOld12a, bOld12n, bOld12c, hb2.celli 5 rfl rfl, ?_⟩
            have h := h ww14 (w.heap.size) (ww13.heap.size) hx14 (Priv.cons hg1 hb1.lt (Priv.cons hg2 hb2.lt Priv.nil))
            refine h.mono fun ee33 ww34 h => ?_
            obtain ⟨same32, he, hk, h⟩ := h
            refine ⟨same32, he, ?_⟩
            have hb1 := hk.blk hb1 (by simp)
            have hb2 := hk.blk hb2 (by simp)
            refine bif_of (fun c35 => ?_) (fun c35 => ?_)
            · have h := h.1 (not_t c35)
              exact h
            · have h := h.2 (not_f c35)
              obtain ⟨I0, m37, h0, h⟩ := h
              refine ⟨fun k vs ww => Blk ww w.heap.size 40 [.int .i64 aKind1, .int .i64 aWho2, .int .u64 aPublic3, .int .i64 aLimit4, .slice aWraps5a aWraps5n aWraps5c, .slice aOld6a aOld6n aOld6c] ∧ Blk ww ww13.heap.size 40 [.int .i64 bKind7, .int .i64 bWho8, .int .u64 bPublic9, .int .i64 bLimit10, .slice bWraps11a bWraps11n bWraps11c, .slice bOld12a bOld12n bOld12c] ∧ I0 k vs ww, m37, ⟨hb1, hb2, h0⟩, fun m38 ww39 i36 hI => ?_⟩
              obtain ⟨hb1, hb2, hI⟩ := hI
              have h := h m38 ww39 i36 hI
              refine ⟨aWraps5a, aWraps5n, aWraps5c, hb1.celli 4 rfl rfl, ?_⟩
              refine bif_of (fun c40 => ?_) (fun c40 => ?_)
              · have h := h.1 (of_decide_eq_true c40)
                refine thenW_in fun ww41 e41 => ?_
                have hx41 := (Ext.refl no ww39).x_drew e41
                have hb1 := hb1.x_drew e41
                have hb2 := hb2.x_drew e41
                refine ⟨aWraps5a, aWraps5n, aWraps5c, hb1.celli 4 rfl rfl, ?_⟩
                obtain ⟨a42, ha42, h⟩ := h
                refine elim_some ha42 ?_
                obtain ⟨hq1, hq2, h⟩ := h
                refine ⟨hq1, hq2, ?_⟩
                obtain ⟨Who44, hc43, h⟩ := h
                refine ⟨Who44, (hx41).cell hc43 id, ?_⟩
                refine ⟨bWraps11a, bWraps11n, bWraps11c, hb2.celli 4 rfl rfl, ?_⟩
                obtain ⟨a45, ha45, h⟩ := h
                refine elim_some ha45 ?_
                obtain ⟨hq1, hq2, h⟩ := h
                refine ⟨hq1, hq2, ?_⟩
                obtain ⟨Who47, hc46, h⟩ := h
                refine ⟨Who47, (hx41).cell hc46 id, ?_⟩
                refine bif_of (fun c48 => ?_) (fun c48 => ?_)
                · have h := h.1 (bne_t c48)
                  have h := h ww41 hx41
                  exact h
                · have h := h.2 (bne_f c48)
                  refine ⟨aWraps5a, aWraps5n, aWraps5c, hb1.celli 4 rfl rfl, ?_⟩
                  refine elim_some ha42 ?_
                  obtain ⟨hq1, hq2, h⟩ := h
                  refine ⟨hq1, hq2, ?_⟩
                  obtain ⟨B50a, B50n, B50c, hc49, h⟩ := h
                  refine ⟨B50a, B50n, B50c, (hx41).cell hc49 id, ?_⟩
                  refine ⟨bWraps11a, bWraps11n, bWraps11c, hb2.celli 4 rfl rfl, ?_⟩
                  refine elim_some ha45 ?_
                  obtain ⟨hq1, hq2, h⟩ := h
                  refine ⟨hq1, hq2, ?_⟩
                  obtain ⟨B52a, B52n, B52c, hc51, h⟩ := h
                  refine ⟨B52a, B52n, B52c, (hx41).cell hc51 id, ?_⟩
                  have h := h ww41 hx41
                  refine h.mono fun ee54 ww55 h => ?_
                  obtain ⟨same53, he, hk, h⟩ := h
                  refine ⟨same53, he, ?_⟩
                  have hb1 := hk.blk hb1 (by simp)
                  have hb2 := hk.blk hb2 (by simp)
                  refine bif_of (fun c56 => ?_) (fun c56 => ?_)
                  · have h := h.1 (not_t c56)
                    exact h
                  · have h := h.2 (not_f c56)
                    obtain ⟨hw1, hw2, h⟩ := h
                    try rw [w64 hw1 hw2]
                    obtain ⟨m57, hk, h⟩ := h
                    exact ⟨m57, hk, hb1, hb2, h⟩
              · have h := h.2 (Int.not_lt.1 (of_decide_eq_false c40))
                exact h

theorem cachetteref12_Changes.go (aKind1 : Int) (aWho2 : Int) (aPublic3 : Int) (aLimit4 : Int) (aWraps5a : Option Addr) (aWraps5n : Nat) (aWraps5c : Nat) (aOld6a : Option Addr) (aOld6n : Nat) (aOld6c : Nat) (bKind7 : Int) (bWho8 : Int) (bPublic9 : Int) (bLimit10 : Int) (bWraps11a : Option Addr) (bWraps11n : Nat) (bWraps11c : Nat) (bOld12a : Option Addr) (bOld12n : Nat) (bOld12c : Nat) {R : Value → World → Prop} {w : World} (h : cachetteref12_Changes.N aKind1 aWho2 aPublic3 aLimit4 aWraps5a aWraps5n aWraps5c aOld6a aOld6n aOld6c bKind7 bWho8 bPublic9 bLimit10 bWraps11a bWraps11n bWraps11c bOld12a bOld12n bOld12c R w) : Calls Try.prog 34 #[.agg #[.int .i64 aKind1, .int .i64 aWho2, .int .u64 aPublic3, .int .i64 aLimit4, .slice aWraps5a aWraps5n aWraps5c, .slice aOld6a aOld6n aOld6c], .agg #[.int .i64 bKind7, .int .i64 bWho8, .int .u64 bPublic9, .int .i64 bLimit10, .slice bWraps11a bWraps11n bWraps11c, .slice bOld12a bOld12n bOld12c]] w fun e w' => ∃ v, e = .returned v ∧ R v w' := cachetteref12_Changes.ok aKind1 aWho2 aPublic3 aLimit4 aWraps5a aWraps5n aWraps5c aOld6a aOld6n aOld6c bKind7 bWho8 bPublic9 bLimit10 bWraps11a bWraps11n bWraps11c bOld12a bOld12n bOld12c (cachetteref12_Changes.up aKind1 aWho2 aPublic3 aLimit4 aWraps5a aWraps5n aWraps5c aOld6a aOld6n aOld6c bKind7 bWho8 bPublic9 bLimit10 bWraps11a bWraps11n bWraps11c bOld12a bOld12n bOld12c h)
theorem cachetteref12_Changes.run (aKind1 : Int) (aWho2 : Int) (aPublic3 : Int) (aLimit4 : Int) (aWraps5a : Option Addr) (aWraps5n : Nat) (aWraps5c : Nat) (aOld6a : Option Addr) (aOld6n : Nat) (aOld6c : Nat) (bKind7 : Int) (bWho8 : Int) (bPublic9 : Int) (bLimit10 : Int) (bWraps11a : Option Addr) (bWraps11n : Nat) (bWraps11c : Nat) (bOld12a : Option Addr) (bOld12n : Nat) (bOld12c : Nat) {V : Value} {Q : World → Prop} {w : World} (h : cachetteref12_Changes.N aKind1 aWho2 aPublic3 aLimit4 aWraps5a aWraps5n aWraps5c aOld6a aOld6n aOld6c bKind7 bWho8 bPublic9 bLimit10 bWraps11a bWraps11n bWraps11c bOld12a bOld12n bOld12c (fun v w' => v = V ∧ Q w') w) : Calls Try.prog 34 #[.agg #[.int .i64 aKind1, .int .i64 aWho2, .int .u64 aPublic3, .int .i64 aLimit4, .slice aWraps5a aWraps5n aWraps5c, .slice aOld6a aOld6n aOld6c], .agg #[.int .i64 bKind7, .int .i64 bWho8, .int .u64 bPublic9, .int .i64 bLimit10, .slice bWraps11a bWraps11n bWraps11c, .slice bOld12a bOld12n bOld12c]] w (Ret V Q) := (cachetteref12_Changes.go aKind1 aWho2 aPublic3 aLimit4 aWraps5a aWraps5n aWraps5c aOld6a aOld6n aOld6c bKind7 bWho8 bPublic9 bLimit10 bWraps11a bWraps11n bWraps11c bOld12a bOld12n bOld12c h).mono fun e w' ⟨v, he, hv, hq⟩ => ⟨by rw [he, hv], hq⟩

/-- cachettelaw12.MembersForms -/
def cachettelaw12_MembersForms.M (cKind1 : Int) (cWho2 : Int) (cPublic3 : Int) (cLimit4 : Int) (cWraps5a : Option Addr) (cWraps5n : Nat) (cWraps5c : Nat) (cOld6a : Option Addr) (cOld6n : Nat) (cOld6c : Nat) (b7a : Option Addr) (b7n : Nat) (b7c : Nat) (R : Value → World → Prop) (w : World) : Prop :=
  thenW (w.alloc (.cells #[.int .i64 cKind1, .int .i64 cWho2, .int .u64 cPublic3, .int .i64 cLimit4, .slice cWraps5a cWraps5n cWraps5c, .slice cOld6a cOld6n cOld6c] 40)) fun ww8 =>
  ∃ (xKind9 : Int) (xWho10 : Int) (xPublic11 : Int) (xLimit12 : Int) (xWraps13a : Option Addr) (xWraps13n : Nat) (xWraps13c : Nat) (xOld14a : Option Addr) (xOld14n : Nat) (xOld14c : Nat), cellsAt ww8 (blk w.heap.size) [.int .i64 xKind9, .int .i64 xWho10, .int .u64 xPublic11, .int .i64 xLimit12, .slice xWraps13a xWraps13n xWraps13c, .slice xOld14a xOld14n xOld14c] 0 ∧
  thenW (ww8.alloc (.cells #[.int .i64 xKind9, .int .i64 xWho10, .int .u64 xPublic11, .int .i64 xLimit12, .slice xWraps13a xWraps13n xWraps13c, .slice xOld14a xOld14n xOld14c] 40)) fun ww15 =>
  Calls Try.prog 9 #[.slice (some (blk ww8.heap.size)) 1 1] ww15 fun ee17 ww18 => ∃ (light16 : Bool), ee17 = .returned (.bool light16) ∧
  bif !light16 then (
  Calls Try.prog 10 #[] ww18 fun ee20 ww21 => ∃ (alive19 : Bool), ee20 = .returned (.bool alive19) ∧
  R (.bool alive19) ww21) else (
  bif decide ((b7n : Int) > 500) then (
  Calls Try.prog 10 #[] ww18 fun ee23 ww24 => ∃ (alive22 : Bool), ee23 = .returned (.bool alive22) ∧
  R (.bool alive22) ww24) else (
  ∃ (xKind25 : Int) (xWho26 : Int) (xPublic27 : Int) (xLimit28 : Int) (xWraps29a : Option Addr) (xWraps29n : Nat) (xWraps29c : Nat) (xOld30a : Option Addr) (xOld30n : Nat) (xOld30c : Nat), cellsAt ww18 (blk w.heap.size) [.int .i64 xKind25, .int .i64 xWho26, .int .u64 xPublic27, .int .i64 xLimit28, .slice xWraps29a xWraps29n xWraps29c, .slice xOld30a xOld30n xOld30c] 0 ∧
  Calls Try.prog 13 #[.agg #[.int .i64 xKind25, .int .i64 xWho26, .int .u64 xPublic27, .int .i64 xLimit28, .slice xWraps29a xWraps29n xWraps29c, .slice xOld30a xOld30n xOld30c]] ww18 fun ee37 ww38 => ∃ (Kind31 : Int) (Who32 : Int) (Public33 : Int) (Limit34 : Int) (Wraps35a : Option Addr) (Wraps35n : Nat) (Wraps35c : Nat) (Old36a : Option Addr) (Old36n : Nat) (Old36c : Nat), ee37 = .returned (.agg #[.int .i64 Kind31, .int .i64 Who32, .int .u64 Public33, .int .i64 Limit34, .slice Wraps35a Wraps35n Wraps35c, .slice Old36a Old36n Old36c]) ∧
  Calls Try.prog 27 #[.agg #[.int .i64 Kind31, .int .i64 Who32, .int .u64 Public33, .int .i64 Limit34, .slice Wraps35a Wraps35n Wraps35c, .slice Old36a Old36n Old36c]] ww38 fun ee41 ww42 => ∃ (bytes39a : Option Addr) (bytes39n : Nat) (bytes39c : Nat) (bytes40 : Int), ee41 = .returned (.tuple #[.slice bytes39a bytes39n bytes39c, .int .i64 bytes40]) ∧
  ∃ (xKind43 : Int) (xWho44 : Int) (xPublic45 : Int) (xLimit46 : Int) (xWraps47a : Option Addr) (xWraps47n : Nat) (xWraps47c : Nat) (xOld48a : Option Addr) (xOld48n : Nat) (xOld48c : Nat), cellsAt ww42 (blk w.heap.size) [.int .i64 xKind43, .int .i64 xWho44, .int .u64 xPublic45, .int .i64 xLimit46, .slice xWraps47a xWraps47n xWraps47c, .slice xOld48a xOld48n xOld48c] 0 ∧
  Calls Try.prog 28 #[.agg #[.int .i64 xKind43, .int .i64 xWho44, .int .u64 xPublic45, .int .i64 xLimit46, .slice xWraps47a xWraps47n xWraps47c, .slice xOld48a xOld48n xOld48c]] ww42 fun ee51 ww52 => ∃ (bytes49a : Option Addr) (bytes49n : Nat) (bytes49c : Nat) (bytes50 : Int), ee51 = .returned (.tuple #[.slice bytes49a bytes49n bytes49c, .int .i64 bytes50]) ∧
  Calls Try.prog 29 #[.slice b7a b7n b7c] ww52 fun ee60 ww61 => ∃ (Kind53 : Int) (Who54 : Int) (Public55 : Int) (Limit56 : Int) (Wraps57a : Option Addr) (Wraps57n : Nat) (Wraps57c : Nat) (Old58a : Option Addr) (Old58n : Nat) (Old58c : Nat) (read59 : Int), ee60 = .returned (.tuple #[.agg #[.int .i64 Kind53, .int .i64 Who54, .int .u64 Public55, .int .i64 Limit56, .slice Wraps57a Wraps57n Wraps57c, .slice Old58a Old58n Old58c], .int .i64 read59]) ∧
  thenW (ww61.alloc (.cells #[.int .i64 0, .int .i64 0, .int .u64 0, .int .i64 0, .slice none 0 0, .slice none 0 0] 36)) fun ww62 =>
  canStore ww62 ((blk ww61.heap.size).add 0) ∧
  thenW (ww62.setCell ((blk ww61.heap.size).add 0) (.int .i64 Kind53)) fun ww63 =>
  canStore ww63 ((blk ww61.heap.size).add 1) ∧
  thenW (ww63.setCell ((blk ww61.heap.size).add 1) (.int .i64 Who54)) fun ww64 =>
  canStore ww64 ((blk ww61.heap.size).add 2) ∧
  thenW (ww64.setCell ((blk ww61.heap.size).add 2) (.int .u64 Public55)) fun ww65 =>
  canStore ww65 ((blk ww61.heap.size).add 3) ∧
  thenW (ww65.setCell ((blk ww61.heap.size).add 3) (.int .i64 Limit56)) fun ww66 =>
  canStore ww66 ((blk ww61.heap.size).add 4) ∧
  thenW (ww66.setCell ((blk ww61.heap.size).add 4) (.slice Wraps57a Wraps57n Wraps57c)) fun ww67 =>
  canStore ww67 ((blk ww61.heap.size).add 5) ∧
  thenW (ww67.setCell ((blk ww61.heap.size).add 5) (.slice Old58a Old58n Old58c)) fun ww68 =>
  Calls Try.prog 30 #[.slice b7a b7n b7c] ww68 fun ee76 ww77 => ∃ (Kind69 : Int) (Who70 : Int) (Public71 : Int) (Limit72 : Int) (Wraps73a : Option Addr) (Wraps73n : Nat) (Wraps73c : Nat) (Old74a : Option Addr) (Old74n : Nat) (Old74c : Nat) (read75 : Int), ee76 = .returned (.tuple #[.agg #[.int .i64 Kind69, .int .i64 Who70, .int .u64 Public71, .int .i64 Limit72, .slice Wraps73a Wraps73n Wraps73c, .slice Old74a Old74n Old74c], .int .i64 read75]) ∧
  thenW (ww77.alloc (.cells #[.int .i64 0, .int .i64 0, .int .u64 0, .int .i64 0, .slice none 0 0, .slice none 0 0] 40)) fun ww78 =>
  canStore ww78 ((blk ww77.heap.size).add 0) ∧
  thenW (ww78.setCell ((blk ww77.heap.size).add 0) (.int .i64 Kind69)) fun ww79 =>
  canStore ww79 ((blk ww77.heap.size).add 1) ∧
  thenW (ww79.setCell ((blk ww77.heap.size).add 1) (.int .i64 Who70)) fun ww80 =>
  canStore ww80 ((blk ww77.heap.size).add 2) ∧
  thenW (ww80.setCell ((blk ww77.heap.size).add 2) (.int .u64 Public71)) fun ww81 =>
  canStore ww81 ((blk ww77.heap.size).add 3) ∧
  thenW (ww81.setCell ((blk ww77.heap.size).add 3) (.int .i64 Limit72)) fun ww82 =>
  canStore ww82 ((blk ww77.heap.size).add 4) ∧
  thenW (ww82.setCell ((blk ww77.heap.size).add 4) (.slice Wraps73a Wraps73n Wraps73c)) fun ww83 =>
  canStore ww83 ((blk ww77.heap.size).add 5) ∧
  thenW (ww83.setCell ((blk ww77.heap.size).add 5) (.slice Old74a Old74n Old74c)) fun ww84 =>
  thenW (ww84.drew) fun ww85 =>
  ∃ (xKind86 : Int) (xWho87 : Int) (xPublic88 : Int) (xLimit89 : Int) (xWraps90a : Option Addr) (xWraps90n : Nat) (xWraps90c : Nat) (xOld91a : Option Addr) (xOld91n : Nat) (xOld91c : Nat), cellsAt ww85 (blk w.heap.size) [.int .i64 xKind86, .int .i64 xWho87, .int .u64 xPublic88, .int .i64 xLimit89, .slice xWraps90a xWraps90n xWraps90c, .slice xOld91a xOld91n xOld91c] 0 ∧
  ∃ (xKind92 : Int) (xWho93 : Int) (xPublic94 : Int) (xLimit95 : Int) (xWraps96a : Option Addr) (xWraps96n : Nat) (xWraps96c : Nat) (xOld97a : Option Addr) (xOld97n : Nat) (xOld97c : Nat), cellsAt ww85 (blk w.heap.size) [.int .i64 xKind92, .int .i64 xWho93, .int .u64 xPublic94, .int .i64 xLimit95, .slice xWraps96a xWraps96n xWraps96c, .slice xOld97a xOld97n xOld97c] 0 ∧
  Calls Try.prog 13 #[.agg #[.int .i64 xKind86, .int .i64 xWho87, .int .u64 xPublic88, .int .i64 xLimit89, .slice xWraps90a xWraps90n xWraps90c, .slice xOld91a xOld91n xOld91c]] ww85 fun ee104 ww105 => ∃ (Kind98 : Int) (Who99 : Int) (Public100 : Int) (Limit101 : Int) (Wraps102a : Option Addr) (Wraps102n : Nat) (Wraps102c : Nat) (Old103a : Option Addr) (Old103n : Nat) (Old103c : Nat), ee104 = .returned (.agg #[.int .i64 Kind98, .int .i64 Who99, .int .u64 Public100, .int .i64 Limit101, .slice Wraps102a Wraps102n Wraps102c, .slice Old103a Old103n Old103c]) ∧
  cellsAt ww105 (blk w.heap.size) [.int .i64 xKind92, .int .i64 xWho93, .int .u64 xPublic94, .int .i64 xLimit95, .slice xWraps96a xWraps96n xWraps96c, .slice xOld97a xOld97n xOld97c] 0 ∧
  Calls Try.prog 31 #[.agg #[.int .i64 Kind98, .int .i64 Who99, .int .u64 Public100, .int .i64 Limit101, .slice Wraps102a Wraps102n Wraps102c, .slice Old103a Old103n Old103c]] ww105 fun ee107 ww108 => ∃ (right106 : Bool), ee107 = .returned (.bool right106) ∧
  cellsAt ww108 (blk w.heap.size) [.int .i64 xKind92, .int .i64 xWho93, .int .u64 xPublic94, .int .i64 xLimit95, .slice xWraps96a xWraps96n xWraps96c, .slice xOld97a xOld97n xOld97c] 0 ∧
  Calls Try.prog 32 #[.agg #[.int .i64 xKind92, .int .i64 xWho93, .int .u64 xPublic94, .int .i64 xLimit95, .slice xWraps96a xWraps96n xWraps96c, .slice xOld97a xOld97n xOld97c]] ww108 fun ee110 ww111 => ∃ (right109 : Bool), ee110 = .returned (.bool right109) ∧
  bif right106 == right109 then (
  Calls Try.prog 33 #[.slice bytes39a bytes39n bytes39c, .slice bytes49a bytes49n bytes49c] ww111 fun ee113 ww114 => ∃ (same112 : Bool), ee113 = .returned (.bool same112) ∧
  bif same112 then (
  bif bytes40 == bytes50 then (
  ∃ (xKind115 : Int) (xWho116 : Int) (xPublic117 : Int) (xLimit118 : Int) (xWraps119a : Option Addr) (xWraps119n : Nat) (xWraps119c : Nat) (xOld120a : Option Addr) (xOld120n : Nat) (xOld120c : Nat), cellsAt ww114 (blk ww61.heap.size) [.int .i64 xKind115, .int .i64 xWho116, .int .u64 xPublic117, .int .i64 xLimit118, .slice xWraps119a xWraps119n xWraps119c, .slice xOld120a xOld120n xOld120c] 0 ∧
  ∃ (xKind121 : Int) (xWho122 : Int) (xPublic123 : Int) (xLimit124 : Int) (xWraps125a : Option Addr) (xWraps125n : Nat) (xWraps125c : Nat) (xOld126a : Option Addr) (xOld126n : Nat) (xOld126c : Nat), cellsAt ww114 (blk ww77.heap.size) [.int .i64 xKind121, .int .i64 xWho122, .int .u64 xPublic123, .int .i64 xLimit124, .slice xWraps125a xWraps125n xWraps125c, .slice xOld126a xOld126n xOld126c] 0 ∧
  Calls Try.prog 35 #[.agg #[.int .i64 xKind115, .int .i64 xWho116, .int .u64 xPublic117, .int .i64 xLimit118, .slice xWraps119a xWraps119n xWraps119c, .slice xOld120a xOld120n xOld120c]] ww114 fun ee133 ww134 => ∃ (Kind127 : Int) (Who128 : Int) (Public129 : Int) (Limit130 : Int) (Wraps131a : Option Addr) (Wraps131n : Nat) (Wraps131c : Nat) (Old132a : Option Addr) (Old132n : Nat) (Old132c : Nat), ee133 = .returned (.agg #[.int .i64 Kind127, .int .i64 Who128, .int .u64 Public129, .int .i64 Limit130, .slice Wraps131a Wraps131n Wraps131c, .slice Old132a Old132n Old132c]) ∧
  cellsAt ww134 (blk ww77.heap.size) [.int .i64 xKind121, .int .i64 xWho122, .int .u64 xPublic123, .int .i64 xLimit124, .slice xWraps125a xWraps125n xWraps125c, .slice xOld126a xOld126n xOld126c] 0 ∧
  Calls Try.prog 34 #[.agg #[.int .i64 Kind127, .int .i64 Who128, .int .u64 Public129, .int .i64 Limit130, .slice Wraps131a Wraps131n Wraps131c, .slice Old132a Old132n Old132c], .agg #[.int .i64 xKind121, .int .i64 xWho122, .int .u64 xPublic123, .int .i64 xLimit124, .slice xWraps125a xWraps125n xWraps125c, .slice xOld126a xOld126n xOld126c]] ww134 fun ee136 ww137 => ∃ (changes135 : Bool), ee136 = .returned (.bool changes135) ∧
  bif changes135 then (
  bif read59 == read75 then (
  Calls Try.prog 10 #[] ww137 fun ee139 ww140 => ∃ (alive138 : Bool), ee139 = .returned (.bool alive138) ∧
  R (.bool alive138) ww140) else (
  R (.bool false) ww137)) else (
  R (.bool false) ww137)) else (
  R (.bool false) ww114)) else (
  R (.bool false) ww114)) else (
  R (.bool false) ww111)))

theorem cachettelaw12_MembersForms.eq (cKind1 : Int) (cWho2 : Int) (cPublic3 : Int) (cLimit4 : Int) (cWraps5a : Option Addr) (cWraps5n : Nat) (cWraps5c : Nat) (cOld6a : Option Addr) (cOld6n : Nat) (cOld6c : Nat) (b7a : Option Addr) (b7n : Nat) (b7c : Nat) (R : Value → World → Prop) (w : World) : mfunc Try.prog [] 7 [.agg #[.int .i64 cKind1, .int .i64 cWho2, .int .u64 cPublic3, .int .i64 cLimit4, .slice cWraps5a cWraps5n cWraps5c, .slice cOld6a cOld6n cOld6c], .slice b7a b7n b7c] R w = cachettelaw12_MembersForms.M cKind1 cWho2 cPublic3 cLimit4 cWraps5a cWraps5n cWraps5c cOld6a cOld6n cOld6c b7a b7n b7c R w := by kernel_rfl
theorem cachettelaw12_MembersForms.ok (cKind1 : Int) (cWho2 : Int) (cPublic3 : Int) (cLimit4 : Int) (cWraps5a : Option Addr) (cWraps5n : Nat) (cWraps5c : Nat) (cOld6a : Option Addr) (cOld6n : Nat) (cOld6c : Nat) (b7a : Option Addr) (b7n : Nat) (b7c : Nat) {R : Value → World → Prop} {w : World} (h : cachettelaw12_MembersForms.M cKind1 cWho2 cPublic3 cLimit4 cWraps5a cWraps5n cWraps5c cOld6a cOld6n cOld6c b7a b7n b7c R w) : Calls Try.prog 7 #[.agg #[.int .i64 cKind1, .int .i64 cWho2, .int .u64 cPublic3, .int .i64 cLimit4, .slice cWraps5a cWraps5n cWraps5c, .slice cOld6a cOld6n cOld6c], .slice b7a b7n b7c] w fun e w' => ∃ v, e = .returned v ∧ R v w' :=
  mfunc_ok follows (H := []) (args := [.agg #[.int .i64 cKind1, .int .i64 cWho2, .int .u64 cPublic3, .int .i64 cLimit4, .slice cWraps5a cWraps5n cWraps5c, .slice cOld6a cOld6n cOld6c], .slice b7a b7n b7c]) (by rw [cachettelaw12_MembersForms.eq]; exact h)

def cachettelaw12_MembersForms.N (cKind1 : Int) (cWho2 : Int) (cPublic3 : Int) (cLimit4 : Int) (cWraps5a : Option Addr) (cWraps5n : Nat) (cWraps5c : Nat) (cOld6a : Option Addr) (cOld6n : Nat) (cOld6c : Nat) (b7a : Option Addr) (b7n : Nat) (b7c : Nat) (R : Value → World → Prop) (w : World) : Prop :=
  ∀ (ww9 : World) (q10 : Nat) (p11 : Nat), Ext no w ww9 → Blk ww9 q10 40 [.int .i64 cKind1, .int .i64 cWho2, .int .u64 cPublic3, .int .i64 cLimit4, .slice cWraps5a cWraps5n cWraps5c, .slice cOld6a cOld6n cOld6c] → w.heap.size ≤ q10 → q10 < ww9.heap.size → Privq w q10 [p11] →
  Calls Try.prog 9 #[.slice (some (blk q10)) 1 1] ww9 fun ee13 ww14 => ∃ (light12 : Bool), ee13 = .returned (.bool light12) ∧
  Keep [p11] ww9 ww14 ∧
  (light12 = false →
    Calls Try.prog 10 #[] ww14 fun ee17 ww18 => ∃ (alive16 : Bool), ee17 = .returned (.bool alive16) ∧
    R (.bool alive16) ww18) ∧
  (light12 = true →
    ((b7n : Int) > 500 →
      Calls Try.prog 10 #[] ww14 fun ee21 ww22 => ∃ (alive20 : Bool), ee21 = .returned (.bool alive20) ∧
      R (.bool alive20) ww22) ∧
    ((b7n : Int) ≤ 500 →
      Calls Try.prog 13 #[.agg #[.int .i64 cKind1, .int .i64 cWho2, .int .u64 cPublic3, .int .i64 cLimit4, .slice cWraps5a cWraps5n cWraps5c, .slice cOld6a cOld6n cOld6c]] ww14 fun ee29 ww30 => ∃ (Kind23 : Int) (Who24 : Int) (Public25 : Int) (Limit26 : Int) (Wraps27a : Option Addr) (Wraps27n : Nat) (Wraps27c : Nat) (Old28a : Option Addr) (Old28n : Nat) (Old28c : Nat), ee29 = .returned (.agg #[.int .i64 Kind23, .int .i64 Who24, .int .u64 Public25, .int .i64 Limit26, .slice Wraps27a Wraps27n Wraps27c, .slice Old28a Old28n Old28c]) ∧
      Keep [p11] ww14 ww30 ∧
      Calls Try.prog 27 #[.agg #[.int .i64 Kind23, .int .i64 Who24, .int .u64 Public25, .int .i64 Limit26, .slice Wraps27a Wraps27n Wraps27c, .slice Old28a Old28n Old28c]] ww30 fun ee33 ww34 => ∃ (bytes31a : Option Addr) (bytes31n : Nat) (bytes31c : Nat) (bytes32 : Int), ee33 = .returned (.tuple #[.slice bytes31a bytes31n bytes31c, .int .i64 bytes32]) ∧
      Keep [p11] ww30 ww34 ∧
      Calls Try.prog 28 #[.agg #[.int .i64 cKind1, .int .i64 cWho2, .int .u64 cPublic3, .int .i64 cLimit4, .slice cWraps5a cWraps5n cWraps5c, .slice cOld6a cOld6n cOld6c]] ww34 fun ee37 ww38 => ∃ (bytes35a : Option Addr) (bytes35n : Nat) (bytes35c : Nat) (bytes36 : Int), ee37 = .returned (.tuple #[.slice bytes35a bytes35n bytes35c, .int .i64 bytes36]) ∧
      Keep [p11] ww34 ww38 ∧
      Calls Try.prog 29 #[.slice b7a b7n b7c] ww38 fun ee46 ww47 => ∃ (Kind39 : Int) (Who40 : Int) (Public41 : Int) (Limit42 : Int) (Wraps43a : Option Addr) (Wraps43n : Nat) (Wraps43c : Nat) (Old44a : Option Addr) (Old44n : Nat) (Old44c : Nat) (read45 : Int), ee46 = .returned (.tuple #[.agg #[.int .i64 Kind39, .int .i64 Who40, .int .u64 Public41, .int .i64 Limit42, .slice Wraps43a Wraps43n Wraps43c, .slice Old44a Old44n Old44c], .int .i64 read45]) ∧
      Keep [p11] ww38 ww47 ∧
      ∀ (ww54 : World) (p55 : Nat), Ext no ww47 ww54 → Priv ww47 ww54 [p55] →
      Calls Try.prog 30 #[.slice b7a b7n b7c] ww54 fun ee63 ww64 => ∃ (Kind56 : Int) (Who57 : Int) (Public58 : Int) (Limit59 : Int) (Wraps60a : Option Addr) (Wraps60n : Nat) (Wraps60c : Nat) (Old61a : Option Addr) (Old61n : Nat) (Old61c : Nat) (read62 : Int), ee63 = .returned (.tuple #[.agg #[.int .i64 Kind56, .int .i64 Who57, .int .u64 Public58, .int .i64 Limit59, .slice Wraps60a Wraps60n Wraps60c, .slice Old61a Old61n Old61c], .int .i64 read62]) ∧
      Keep [p11, p55] ww54 ww64 ∧
      ∀ (ww72 : World) (p73 : Nat), Ext no ww64 ww72 → Priv ww64 ww72 [p73] →
      Calls Try.prog 13 #[.agg #[.int .i64 cKind1, .int .i64 cWho2, .int .u64 cPublic3, .int .i64 cLimit4, .slice cWraps5a cWraps5n cWraps5c, .slice cOld6a cOld6n cOld6c]] ww72 fun ee80 ww81 => ∃ (Kind74 : Int) (Who75 : Int) (Public76 : Int) (Limit77 : Int) (Wraps78a : Option Addr) (Wraps78n : Nat) (Wraps78c : Nat) (Old79a : Option Addr) (Old79n : Nat) (Old79c : Nat), ee80 = .returned (.agg #[.int .i64 Kind74, .int .i64 Who75, .int .u64 Public76, .int .i64 Limit77, .slice Wraps78a Wraps78n Wraps78c, .slice Old79a Old79n Old79c]) ∧
      Keep [p11, p55, p73] ww72 ww81 ∧
      Calls Try.prog 31 #[.agg #[.int .i64 Kind74, .int .i64 Who75, .int .u64 Public76, .int .i64 Limit77, .slice Wraps78a Wraps78n Wraps78c, .slice Old79a Old79n Old79c]] ww81 fun ee83 ww84 => ∃ (right82 : Bool), ee83 = .returned (.bool right82) ∧
      Keep [p11, p55, p73] ww81 ww84 ∧
      Calls Try.prog 32 #[.agg #[.int .i64 cKind1, .int .i64 cWho2, .int .u64 cPublic3, .int .i64 cLimit4, .slice cWraps5a cWraps5n cWraps5c, .slice cOld6a cOld6n cOld6c]] ww84 fun ee86 ww87 => ∃ (right85 : Bool), ee86 = .returned (.bool right85) ∧
      Keep [p55, p73] ww84 ww87 ∧
      (right82 = right85 →
        Calls Try.prog 33 #[.slice bytes31a bytes31n bytes31c, .slice bytes35a bytes35n bytes35c] ww87 fun ee90 ww91 => ∃ (same89 : Bool), ee90 = .returned (.bool same89) ∧
        Keep [p55, p73] ww87 ww91 ∧
        (same89 = true →
          (bytes32 = bytes36 →
            Calls Try.prog 35 #[.agg #[.int .i64 Kind39, .int .i64 Who40, .int .u64 Public41, .int .i64 Limit42, .slice Wraps43a Wraps43n Wraps43c, .slice Old44a Old44n Old44c]] ww91 fun ee100 ww101 => ∃ (Kind94 : Int) (Who95 : Int) (Public96 : Int) (Limit97 : Int) (Wraps98a : Option Addr) (Wraps98n : Nat) (Wraps98c : Nat) (Old99a : Option Addr) (Old99n : Nat) (Old99c : Nat), ee100 = .returned (.agg #[.int .i64 Kind94, .int .i64 Who95, .int .u64 Public96, .int .i64 Limit97, .slice Wraps98a Wraps98n Wraps98c, .slice Old99a Old99n Old99c]) ∧
            Keep [p73] ww91 ww101 ∧
            Calls Try.prog 34 #[.agg #[.int .i64 Kind94, .int .i64 Who95, .int .u64 Public96, .int .i64 Limit97, .slice Wraps98a Wraps98n Wraps98c, .slice Old99a Old99n Old99c], .agg #[.int .i64 Kind56, .int .i64 Who57, .int .u64 Public58, .int .i64 Limit59, .slice Wraps60a Wraps60n Wraps60c, .slice Old61a Old61n Old61c]] ww101 fun ee103 ww104 => ∃ (changes102 : Bool), ee103 = .returned (.bool changes102) ∧
            (changes102 = true →
              (read45 = read62 →
                Calls Try.prog 10 #[] ww104 fun ee108 ww109 => ∃ (alive107 : Bool), ee108 = .returned (.bool alive107) ∧
                R (.bool alive107) ww109) ∧
              (read45 ≠ read62 →
                R (.bool false) ww104)) ∧
            (changes102 = false →
              R (.bool false) ww104)) ∧
          (bytes32 ≠ bytes36 →
            R (.bool false) ww91)) ∧
        (same89 = false →
          R (.bool false) ww91)) ∧
      (right82 ≠ right85 →
        R (.bool false) ww87)))

theorem cachettelaw12_MembersForms.up (cKind1 : Int) (cWho2 : Int) (cPublic3 : Int) (cLimit4 : Int) (cWraps5a : Option Addr) (cWraps5n : Nat) (cWraps5c : Nat) (cOld6a : Option Addr) (cOld6n : Nat) (cOld6c : Nat) (b7a : Option Addr) (b7n : Nat) (b7c : Nat) {R : Value → World → Prop} {w : World} (h : cachettelaw12_MembersForms.N cKind1 cWho2 cPublic3 cLimit4 cWraps5a cWraps5n cWraps5c cOld6a cOld6n cOld6c b7a b7n b7c R w) : cachettelaw12_MembersForms.M cKind1 cWho2 cPublic3 cLimit4 cWraps5a cWraps5n cWraps5c cOld6a cOld6n cOld6c b7a b7n b7c R w := by
  unfold cachettelaw12_MembersForms.M
  unfold cachettelaw12_MembersForms.N at h
  refine thenW_in fun ww8 e8 => ?_
  have hb1 := Blk.of_new e8
  have hg1 := ((Ext.refl no w)).size
  have hx8 := (Ext.refl no w).x_alloc e8
  refine ⟨cKind1, cWho2, cPublic3, cLimit4, cWraps5a, cWraps5n, cWraps5c, cOld6a, cOld6n, cOld6c, ⟨hb1.celli 0 rfl rfl, hb1.celli 1 rfl rfl, hb1.celli 2 rfl rfl, hb1.celli 3 rfl rfl, hb1.celli 4 rfl rfl, hb1.celli 5 rfl rfl, trivial⟩, ?_⟩
  refine thenW_in fun ww9 e9 => ?_
  have hl1 := hb1.lt
  have hb1 := hb1.x_alloc e9
  have h := h ww9 ww8.heap.size (w.heap.size) (hx8.x_alloc e9) (Blk.of_new e9) (hx8).size (size_lt_alloc e9) (Privq.cons hg1 hl1 Privq.nil)
  refine h.mono fun ee13 ww14 h => ?_
  obtain ⟨light12, he, hk, h⟩ := h
  refine ⟨light12, he, ?_⟩
  have hb1 := hk.blk hb1 (by simp)
  refine bif_of (fun c15 => ?_) (fun c15 => ?_)
  · have h := h.1 (not_t c15)
    refine h.mono fun ee17 ww18 h => ?_
    obtain ⟨alive16, he, h⟩ := h
    refine ⟨alive16, he, ?_⟩
    exact h
  · have h := h.2 (not_f c15)
    refine bif_of (fun c19 => ?_) (fun c19 => ?_)
    · have h := h.1 (of_decide_eq_true c19)
      refine h.mono fun ee21 ww22 h => ?_
      obtain ⟨alive20, he, h⟩ := h
      refine ⟨alive20, he, ?_⟩
      exact h
    · have h := h.2 (Int.not_lt.1 (of_decide_eq_false c19))
      refine ⟨cKind1, cWho2, cPublic3, cLimit4, cWraps5a, cWraps5n, cWraps5c, cOld6a, cOld6n, cOld6c, ⟨hb1.celli 0 rfl rfl, hb1.celli 1 rfl rfl, hb1.celli 2 rfl rfl, hb1.celli 3 rfl rfl, hb1.celli 4 rfl rfl, hb1.celli 5 rfl rfl, trivial⟩, ?_⟩
      refine h.mono fun ee29 ww30 h => ?_
      obtain ⟨Kind23, Who24, Public25, Limit26, Wraps27a, Wraps27n, Wraps27c, Old28a, Old28n, Old28c, he, hk, h⟩ := h
      refine ⟨Kind23, Who24, Public25, Limit26, Wraps27a, Wraps27n, Wraps27c, Old28a, Old28n, Old28c, he, ?_⟩
      have hb1 := hk.blk hb1 (by simp)
      refine h.mono fun ee33 ww34 h => ?_
      obtain ⟨bytes31a, bytes31n, bytes31c, bytes32, he, hk, h⟩ := h
      refine ⟨bytes31a, bytes31n, bytes31c, bytes32, he, ?_⟩
      have hb1 := hk.blk hb1 (by simp)
      refine ⟨cKind1, cWho2, cPublic3, cLimit4, cWraps5a, cWraps5n, cWraps5c, cOld6a, cOld6n, cOld6c, ⟨hb1.celli 0 rfl rfl, hb1.celli 1 rfl rfl, hb1.celli 2 rfl rfl, hb1.celli 3 rfl rfl, hb1.celli 4 rfl rfl, hb1.celli 5 rfl rfl, trivial⟩, ?_⟩
      refine h.mono fun ee37 ww38 h => ?_
      obtain ⟨bytes35a, bytes35n, bytes35c, bytes36, he, hk, h⟩ := h
      refine ⟨bytes35a, bytes35n, bytes35c, bytes36, he, ?_⟩
      have hb1 := hk.blk hb1 (by simp)
      refine h.mono fun ee46 ww47 h => ?_
      obtain ⟨Kind39, Who40, Public41, Limit42, Wraps43a, Wraps43n, Wraps43c, Old44a, Old44n, Old44c, read45, he, hk, h⟩ := h
      refine ⟨Kind39, Who40, Public41, Limit42, Wraps43a, Wraps43n, Wraps43c, Old44a, Old44n, Old44c, read45, he, ?_⟩
      have hb1 := hk.blk hb1 (by simp)
      refine thenW_in fun ww48 e48 => ?_
      have hb2 := Blk.of_new e48
      have hg2 := ((Ext.refl no ww47)).size
      have hb1_2 := Nat.ne_of_lt hb1.lt
      have hb1 := hb1.x_alloc e48
      have hx48 := (Ext.refl no ww47).x_alloc e48
      refine ⟨hb2.cani 0 rfl rfl, thenW_in fun ww49 e49 => ?_⟩
      have hx49 := hx48.x_set (q := ww47.heap.size) (i := 0) rfl (.inr hg2) e49
      have hb1 := hb1.oth (q := ww47.heap.size) (i := 0) rfl hb1_2 e49
      have hb2 : Blk ww49 ww47.heap.size 36 [.int .i64 Kind39, .int .i64 0, .int .u64 0, .int .i64 0, .slice none 0 0, .slice none 0 0] := hb2.seti 0 rfl e49
      refine ⟨hb2.cani 1 rfl rfl, thenW_in fun ww50 e50 => ?_⟩
      have hx50 := hx49.x_set (q := ww47.heap.size) (i := 1) rfl (.inr hg2) e50
      have hb1 := hb1.oth (q := ww47.heap.size) (i := 1) rfl hb1_2 e50
      have hb2 : Blk ww50 ww47.heap.size 36 [.int .i64 Kind39, .int .i64 Who40, .int .u64 0, .int .i64 0, .slice none 0 0, .slice none 0 0] := hb2.seti 1 rfl e50
      refine ⟨hb2.cani 2 rfl rfl, thenW_in fun ww51 e51 => ?_⟩
      have hx51 := hx50.x_set (q := ww47.heap.size) (i := 2) rfl (.inr hg2) e51
      have hb1 := hb1.oth (q := ww47.heap.size) (i := 2) rfl hb1_2 e51
      have hb2 : Blk ww51 ww47.heap.size 36 [.int .i64 Kind39, .int .i64 Who40, .int .u64 Public41, .int .i64 0, .slice none 0 0, .slice none 0 0] := hb2.seti 2 rfl e51
      refine ⟨hb2.cani 3 rfl rfl, thenW_in fun ww52 e52 => ?_⟩
      have hx52 := hx51.x_set (q := ww47.heap.size) (i := 3) rfl (.inr hg2) e52
      have hb1 := hb1.oth (q := ww47.heap.size) (i := 3) rfl hb1_2 e52
      have hb2 : Blk ww52 ww47.heap.size 36 [.int .i64 Kind39, .int .i64 Who40, .int .u64 Public41, .int .i64 Limit42, .slice none 0 0, .slice none 0 0] := hb2.seti 3 rfl e52
      refine ⟨hb2.cani 4 rfl rfl, thenW_in fun ww53 e53 => ?_⟩
      have hx53 := hx52.x_set (q := ww47.heap.size) (i := 4) rfl (.inr hg2) e53
      have hb1 := hb1.oth (q := ww47.heap.size) (i := 4) rfl hb1_2 e53
      have hb2 : Blk ww53 ww47.heap.size 36 [.int .i64 Kind39, .int .i64 Who40, .int .u64 Public41, .int .i64 Limit42, .slice Wraps43a Wraps43n Wraps43c, .slice none 0 0] := hb2.seti 4 rfl e53
      refine ⟨hb2.cani 5 rfl rfl, thenW_in fun ww54 e54 => ?_⟩
      have hx54 := hx53.x_set (q := ww47.heap.size) (i := 5) rfl (.inr hg2) e54
      have hb1 := hb1.oth (q := ww47.heap.size) (i := 5) rfl hb1_2 e54
      have hb2 : Blk ww54 ww47.heap.size 36 [.int .i64 Kind39, .int .i64 Who40, .int .u64 Public41, .int .i64 Limit42, .slice Wraps43a Wraps43n Wraps43c, .slice Old44a Old44n Old44c] := hb2.seti 5 rfl e54
      have h := h ww54 (ww47.heap.size) hx54 (Priv.cons hg2 hb2.lt Priv.nil)
      refine h.mono fun ee63 ww64 h => ?_
      obtain ⟨Kind56, Who57, Public58, Limit59, Wraps60a, Wraps60n, Wraps60c, Old61a, Old61n, Old61c, read62, he, hk, h⟩ := h
      refine ⟨Kind56, Who57, Public58, Limit59, Wraps60a, Wraps60n, Wraps60c, Old61a, Old61n, Old61c, read62, he, ?_⟩
      have hb1 := hk.blk hb1 (by simp)
      have hb2 := hk.blk hb2 (by simp)
      refine thenW_in fun ww65 e65 => ?_
      have hb3 := Blk.of_new e65
      have hg3 := ((Ext.refl no ww64)).size
      have hb1_3 := Nat.ne_of_lt hb1.lt
      have hb1 := hb1.x_alloc e65
      have hb2_3 := Nat.ne_of_lt hb2.lt
      have hb2 := hb2.x_alloc e65
      have hx65 := (Ext.refl no ww64).x_alloc e65
      refine ⟨hb3.cani 0 rfl rfl, thenW_in fun ww66 e66 => ?_⟩
      have hx66 := hx65.x_set (q := ww64.heap.size) (i := 0) rfl (.inr hg3) e66
      have hb1 := hb1.oth (q := ww64.heap.size) (i := 0) rfl hb1_3 e66
      have hb2 := hb2.oth (q := ww64.heap.size) (i := 0) rfl hb2_3 e66
      have hb3 : Blk ww66 ww64.heap.size 40 [.int .i64 Kind56, .int .i64 0, .int .u64 0, .int .i64 0, .slice none 0 0, .slice none 0 0] := hb3.seti 0 rfl e66
      refine ⟨hb3.cani 1 rfl rfl, thenW_in fun ww67 e67 => ?_⟩
      have hx67 := hx66.x_set (q := ww64.heap.size) (i := 1) rfl (.inr hg3) e67
      have hb1 := hb1.oth (q := ww64.heap.size) (i := 1) rfl hb1_3 e67
      have hb2 := hb2.oth (q := ww64.heap.size) (i := 1) rfl hb2_3 e67
      have hb3 : Blk ww67 ww64.heap.size 40 [.int .i64 Kind56, .int .i64 Who57, .int .u64 0, .int .i64 0, .slice none 0 0, .slice none 0 0] := hb3.seti 1 rfl e67
      refine ⟨hb3.cani 2 rfl rfl, thenW_in fun ww68 e68 => ?_⟩
      have hx68 := hx67.x_set (q := ww64.heap.size) (i := 2) rfl (.inr hg3) e68
      have hb1 := hb1.oth (q := ww64.heap.size) (i := 2) rfl hb1_3 e68
      have hb2 := hb2.oth (q := ww64.heap.size) (i := 2) rfl hb2_3 e68
      have hb3 : Blk ww68 ww64.heap.size 40 [.int .i64 Kind56, .int .i64 Who57, .int .u64 Public58, .int .i64 0, .slice none 0 0, .slice none 0 0] := hb3.seti 2 rfl e68
      refine ⟨hb3.cani 3 rfl rfl, thenW_in fun ww69 e69 => ?_⟩
      have hx69 := hx68.x_set (q := ww64.heap.size) (i := 3) rfl (.inr hg3) e69
      have hb1 := hb1.oth (q := ww64.heap.size) (i := 3) rfl hb1_3 e69
      have hb2 := hb2.oth (q := ww64.heap.size) (i := 3) rfl hb2_3 e69
      have hb3 : Blk ww69 ww64.heap.size 40 [.int .i64 Kind56, .int .i64 Who57, .int .u64 Public58, .int .i64 Limit59, .slice none 0 0, .slice none 0 0] := hb3.seti 3 rfl e69
      refine ⟨hb3.cani 4 rfl rfl, thenW_in fun ww70 e70 => ?_⟩
      have hx70 := hx69.x_set (q := ww64.heap.size) (i := 4) rfl (.inr hg3) e70
      have hb1 := hb1.oth (q := ww64.heap.size) (i := 4) rfl hb1_3 e70
      have hb2 := hb2.oth (q := ww64.heap.size) (i := 4) rfl hb2_3 e70
      have hb3 : Blk ww70 ww64.heap.size 40 [.int .i64 Kind56, .int .i64 Who57, .int .u64 Public58, .int .i64 Limit59, .slice Wraps60a Wraps60n Wraps60c, .slice none 0 0] := hb3.seti 4 rfl e70
      refine ⟨hb3.cani 5 rfl rfl, thenW_in fun ww71 e71 => ?_⟩
      have hx71 := hx70.x_set (q := ww64.heap.size) (i := 5) rfl (.inr hg3) e71
      have hb1 := hb1.oth (q := ww64.heap.size) (i := 5) rfl hb1_3 e71
      have hb2 := hb2.oth (q := ww64.heap.size) (i := 5) rfl hb2_3 e71
      have hb3 : Blk ww71 ww64.heap.size 40 [.int .i64 Kind56, .int .i64 Who57, .int .u64 Public58, .int .i64 Limit59, .slice Wraps60a Wraps60n Wraps60c, .slice Old61a Old61n Old61c] := hb3.seti 5 rfl e71
      refine thenW_in fun ww72 e72 => ?_
      have hx72 := hx71.x_drew e72
      have hb1 := hb1.x_drew e72
      have hb2 := hb2.x_drew e72
      have hb3 := hb3.x_drew e72
      refine ⟨cKind1, cWho2, cPublic3, cLimit4, cWraps5a, cWraps5n, cWraps5c, cOld6a, cOld6n, cOld6c, ⟨hb1.celli 0 rfl rfl, hb1.celli 1 rfl rfl, hb1.celli 2 rfl rfl, hb1.celli 3 rfl rfl, hb1.celli 4 rfl rfl, hb1.celli 5 rfl rfl, trivial⟩, ?_⟩
      refine ⟨cKind1, cWho2, cPublic3, cLimit4, cWraps5a, cWraps5n, cWraps5c, cOld6a, cOld6n, cOld6c, ⟨hb1.celli 0 rfl rfl, hb1.celli 1 rfl rfl, hb1.celli 2 rfl rfl, hb1.celli 3 rfl rfl, hb1.celli 4 rfl rfl, hb1.celli 5 rfl rfl, trivial⟩, ?_⟩
      have h := h ww72 (ww64.heap.size) hx72 (Priv.cons hg3 hb3.lt Priv.nil)
      refine h.mono fun ee80 ww81 h => ?_
      obtain ⟨Kind74, Who75, Public76, Limit77, Wraps78a, Wraps78n, Wraps78c, Old79a, Old79n, Old79c, he, hk, h⟩ := h
      refine ⟨Kind74, Who75, Public76, Limit77, Wraps78a, Wraps78n, Wraps78c, Old79a, Old79n, Old79c, he, ?_⟩
      have hb1 := hk.blk hb1 (by simp)
      have hb2 := hk.blk hb2 (by simp)
      have hb3 := hk.blk hb3 (by simp)
      refine ⟨⟨hb1.celli 0 rfl rfl, hb1.celli 1 rfl rfl, hb1.celli 2 rfl rfl, hb1.celli 3 rfl rfl, hb1.celli 4 rfl rfl, hb1.celli 5 rfl rfl, trivial⟩, ?_⟩
      refine h.mono fun ee83 ww84 h => ?_
      obtain ⟨right82, he, hk, h⟩ := h
      refine ⟨right82, he, ?_⟩
      have hb1 := hk.blk hb1 (by simp)
      have hb2 := hk.blk hb2 (by simp)
      have hb3 := hk.blk hb3 (by simp)
      refine ⟨⟨hb1.celli 0 rfl rfl, hb1.celli 1 rfl rfl, hb1.celli 2 rfl rfl, hb1.celli 3 rfl rfl, hb1.celli 4 rfl rfl, hb1.celli 5 rfl rfl, trivial⟩, ?_⟩
      refine h.mono fun ee86 ww87 h => ?_
      obtain ⟨right85, he, hk, h⟩ := h
      refine ⟨right85, he, ?_⟩
      have hb2 := hk.blk hb2 (by simp)
      have hb3 := hk.blk hb3 (by simp)
      refine bif_of (fun c88 => ?_) (fun c88 => ?_)
      · have h := h.1 (bbeq_t c88)
        refine h.mono fun ee90 ww91 h => ?_
        obtain ⟨same89, he, hk, h⟩ := h
        refine ⟨same89, he, ?_⟩
        have hb2 := hk.blk hb2 (by simp)
        have hb3 := hk.blk hb3 (by simp)
        refine bif_of (fun c92 => ?_) (fun c92 => ?_)
        · have h := h.1 c92
          refine bif_of (fun c93 => ?_) (fun c93 => ?_)
          · have h := h.1 (beq_t c93)
            refine ⟨Kind39, Who40, Public41, Limit42, Wraps43a, Wraps43n, Wraps43c, Old44a, Old44n, Old44c, ⟨hb2.celli 0 rfl rfl, hb2.celli 1 rfl rfl, hb2.celli 2 rfl rfl, hb2.celli 3 rfl rfl, hb2.celli 4 rfl rfl, hb2.celli 5 rfl rfl, trivial⟩, ?_⟩
            refine ⟨Kind56, Who57, Public58, Limit59, Wraps60a, Wraps60n, Wraps60c, Old61a, Old61n, Old61c, ⟨hb3.celli 0 rfl rfl, hb3.celli 1 rfl rfl, hb3.celli 2 rfl rfl, hb3.celli 3 rfl rfl, hb3.celli 4 rfl rfl, hb3.celli 5 rfl rfl, trivial⟩, ?_⟩
            refine h.mono fun ee100 ww101 h => ?_
            obtain ⟨Kind94, Who95, Public96, Limit97, Wraps98a, Wraps98n, Wraps98c, Old99a, Old99n, Old99c, he, hk, h⟩ := h
            refine ⟨Kind94, Who95, Public96, Limit97, Wraps98a, Wraps98n, Wraps98c, Old99a, Old99n, Old99c, he, ?_⟩
            have hb3 := hk.blk hb3 (by simp)
            refine ⟨⟨hb3.celli 0 rfl rfl, hb3.celli 1 rfl rfl, hb3.celli 2 rfl rfl, hb3.celli 3 rfl rfl, hb3.celli 4 rfl rfl, hb3.celli 5 rfl rfl, trivial⟩, ?_⟩
            refine h.mono fun ee103 ww104 h => ?_
            obtain ⟨changes102, he, h⟩ := h
            refine ⟨changes102, he, ?_⟩
            refine bif_of (fun c105 => ?_) (fun c105 => ?_)
            · have h := h.1 c105
              refine bif_of (fun c106 => ?_) (fun c106 => ?_)
              · have h := h.1 (beq_t c106)
                refine h.mono fun ee108 ww109 h => ?_
                obtain ⟨alive107, he, h⟩ := h
                refine ⟨alive107, he, ?_⟩
                exact h
              · have h := h.2 (beq_f c106)
                exact h
            · have h := h.2 c105
              exact h
          · have h := h.2 (beq_f c93)
            exact h
        · have h := h.2 c92
          exact h
      · have h := h.2 (bbeq_f c88)
        exact h

theorem cachettelaw12_MembersForms.go (cKind1 : Int) (cWho2 : Int) (cPublic3 : Int) (cLimit4 : Int) (cWraps5a : Option Addr) (cWraps5n : Nat) (cWraps5c : Nat) (cOld6a : Option Addr) (cOld6n : Nat) (cOld6c : Nat) (b7a : Option Addr) (b7n : Nat) (b7c : Nat) {R : Value → World → Prop} {w : World} (h : cachettelaw12_MembersForms.N cKind1 cWho2 cPublic3 cLimit4 cWraps5a cWraps5n cWraps5c cOld6a cOld6n cOld6c b7a b7n b7c R w) : Calls Try.prog 7 #[.agg #[.int .i64 cKind1, .int .i64 cWho2, .int .u64 cPublic3, .int .i64 cLimit4, .slice cWraps5a cWraps5n cWraps5c, .slice cOld6a cOld6n cOld6c], .slice b7a b7n b7c] w fun e w' => ∃ v, e = .returned v ∧ R v w' := cachettelaw12_MembersForms.ok cKind1 cWho2 cPublic3 cLimit4 cWraps5a cWraps5n cWraps5c cOld6a cOld6n cOld6c b7a b7n b7c (cachettelaw12_MembersForms.up cKind1 cWho2 cPublic3 cLimit4 cWraps5a cWraps5n cWraps5c cOld6a cOld6n cOld6c b7a b7n b7c h)
theorem cachettelaw12_MembersForms.run (cKind1 : Int) (cWho2 : Int) (cPublic3 : Int) (cLimit4 : Int) (cWraps5a : Option Addr) (cWraps5n : Nat) (cWraps5c : Nat) (cOld6a : Option Addr) (cOld6n : Nat) (cOld6c : Nat) (b7a : Option Addr) (b7n : Nat) (b7c : Nat) {V : Value} {Q : World → Prop} {w : World} (h : cachettelaw12_MembersForms.N cKind1 cWho2 cPublic3 cLimit4 cWraps5a cWraps5n cWraps5c cOld6a cOld6n cOld6c b7a b7n b7c (fun v w' => v = V ∧ Q w') w) : Calls Try.prog 7 #[.agg #[.int .i64 cKind1, .int .i64 cWho2, .int .u64 cPublic3, .int .i64 cLimit4, .slice cWraps5a cWraps5n cWraps5c, .slice cOld6a cOld6n cOld6c], .slice b7a b7n b7c] w (Ret V Q) := (cachettelaw12_MembersForms.go cKind1 cWho2 cPublic3 cLimit4 cWraps5a cWraps5n cWraps5c cOld6a cOld6n cOld6c b7a b7n b7c h).mono fun e w' ⟨v, he, hv, hq⟩ => ⟨by rw [he, hv], hq⟩

end Go.Proofs.Ytmhfoieeldiecaa

