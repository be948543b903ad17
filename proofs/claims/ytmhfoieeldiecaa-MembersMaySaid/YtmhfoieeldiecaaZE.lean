/- Members: predicates of the laws that ask the reference. -/
import Derived.Test.YtmhfoieeldiecaaZD
set_option linter.unusedVariables false
set_option linter.unusedSimpArgs false
set_option maxRecDepth 20000
set_option maxHeartbeats 2000000
namespace Go.Proofs.Ytmhfoieeldiecaa
open Go Go.Mx Go.Proofs
/-- cachettelaw12.MembersMay -/
def cachettelaw12_MembersMay.M (publicv1 : Int) (l2a : Option Addr) (l2n : Nat) (l2c : Nat) (wv3 : Int) (indexv4 : Int) (epoch5 : Int) (R : Value → World → Prop) (w : World) : Prop :=
  Calls Try.prog 9 #[.slice l2a l2n l2c] w fun ee7 ww8 => ∃ (light6 : Bool), ee7 = .returned (.bool light6) ∧
  bif !light6 then (
  Calls Try.prog 10 #[] ww8 fun ee10 ww11 => ∃ (alive9 : Bool), ee10 = .returned (.bool alive9) ∧
  R (.bool alive9) ww11) else (
  ∃ (I0 : Nat → List Value → World → Prop) (m14 : Nat), I0 m14 [.slice none 0 0, .int .i64 0] ww8 ∧ ∀ (m15 : Nat) (ww16 : World) (all12a : Option Addr) (all12n : Nat) (all12c : Nat) (i13 : Int), I0 m15 [.slice all12a all12n all12c, .int .i64 i13] ww16 →
  bif decide (i13 < (l2n : Int)) then (
  l2a.elim False fun a17 =>
  0 ≤ (i13 : Int) ∧ (i13 : Int) < (l2n : Int) ∧
  ∃ (xKind18 : Int) (xWho19 : Int) (xPublic20 : Int) (xLimit21 : Int) (xWraps22a : Option Addr) (xWraps22n : Nat) (xWraps22c : Nat) (xOld23a : Option Addr) (xOld23n : Nat) (xOld23c : Nat), cellsAt ww16 (a17.add (Int.toNat i13 * 6)) [.int .i64 xKind18, .int .i64 xWho19, .int .u64 xPublic20, .int .i64 xLimit21, .slice xWraps22a xWraps22n xWraps22c, .slice xOld23a xOld23n xOld23c] 0 ∧
  Calls Try.prog 13 #[.agg #[.int .i64 xKind18, .int .i64 xWho19, .int .u64 xPublic20, .int .i64 xLimit21, .slice xWraps22a xWraps22n xWraps22c, .slice xOld23a xOld23n xOld23c]] ww16 fun ee30 ww31 => ∃ (Kind24 : Int) (Who25 : Int) (Public26 : Int) (Limit27 : Int) (Wraps28a : Option Addr) (Wraps28n : Nat) (Wraps28c : Nat) (Old29a : Option Addr) (Old29n : Nat) (Old29c : Nat), ee30 = .returned (.agg #[.int .i64 Kind24, .int .i64 Who25, .int .u64 Public26, .int .i64 Limit27, .slice Wraps28a Wraps28n Wraps28c, .slice Old29a Old29n Old29c]) ∧
  thenW (ww31.alloc (.cells #[.int .i64 Kind24, .int .i64 Who25, .int .u64 Public26, .int .i64 Limit27, .slice Wraps28a Wraps28n Wraps28c, .slice Old29a Old29n Old29c] 36)) fun ww32 =>
  ∃ (a33a : Option Addr) (a33n : Nat) (a33c : Nat) (ww34 : World), (Builtin.append_ #[56, 56] 56 #[.slice all12a all12n all12c, .slice (some (blk ww31.heap.size)) 1 1]).run Try.prog ww32 = .ok (.slice a33a a33n a33c) ww34 ∧
  ∃ m35, m35 < m15 ∧ I0 m35 [.slice a33a a33n a33c, .int .i64 (IntKind.i64.wrap (i13 + 1))] ww34) else (
  Calls Try.prog 24 #[.slice all12a all12n all12c, .int .u64 publicv1] ww16 fun ee40 ww41 => ∃ (L36a : Option Addr) (L36n : Nat) (L36c : Nat) (Epoch37 : Int) (behind38 : Int) (behind39 : Int), ee40 = .returned (.tuple #[.agg #[.slice L36a L36n L36c, .int .i64 Epoch37], .int .i64 behind38, .int .i64 behind39]) ∧
  thenW (ww41.alloc (.cells #[.slice none 0 0, .int .i64 0] 28)) fun ww42 =>
  canStore ww42 ((blk ww41.heap.size).add 0) ∧
  thenW (ww42.setCell ((blk ww41.heap.size).add 0) (.slice L36a L36n L36c)) fun ww43 =>
  canStore ww43 ((blk ww41.heap.size).add 1) ∧
  thenW (ww43.setCell ((blk ww41.heap.size).add 1) (.int .i64 Epoch37)) fun ww44 =>
  Calls Try.prog 25 #[.slice l2a l2n l2c, .int .u64 publicv1] ww44 fun ee49 ww50 => ∃ (L45a : Option Addr) (L45n : Nat) (L45c : Nat) (Epoch46 : Int) (behind47 : Int) (behind48 : Int), ee49 = .returned (.tuple #[.agg #[.slice L45a L45n L45c, .int .i64 Epoch46], .int .i64 behind47, .int .i64 behind48]) ∧
  thenW (ww50.alloc (.cells #[.slice none 0 0, .int .i64 0] 45)) fun ww51 =>
  canStore ww51 ((blk ww50.heap.size).add 0) ∧
  thenW (ww51.setCell ((blk ww50.heap.size).add 0) (.slice L45a L45n L45c)) fun ww52 =>
  canStore ww52 ((blk ww50.heap.size).add 1) ∧
  thenW (ww52.setCell ((blk ww50.heap.size).add 1) (.int .i64 Epoch46)) fun ww53 =>
  thenW (ww53.drew) fun ww54 =>
  ∃ (xL55a : Option Addr) (xL55n : Nat) (xL55c : Nat) (xEpoch56 : Int), cellsAt ww54 (blk ww41.heap.size) [.slice xL55a xL55n xL55c, .int .i64 xEpoch56] 0 ∧
  ∃ (xL57a : Option Addr) (xL57n : Nat) (xL57c : Nat) (xEpoch58 : Int), cellsAt ww54 (blk ww50.heap.size) [.slice xL57a xL57n xL57c, .int .i64 xEpoch58] 0 ∧
  Calls Try.prog 14 #[.agg #[.slice xL55a xL55n xL55c, .int .i64 xEpoch56], .int .i64 wv3, .int .i64 indexv4, .int .i64 epoch5] ww54 fun ee60 ww61 => ∃ (may59 : Int), ee60 = .returned (.int .i64 may59) ∧
  cellsAt ww61 (blk ww50.heap.size) [.slice xL57a xL57n xL57c, .int .i64 xEpoch58] 0 ∧
  Calls Try.prog 26 #[.agg #[.slice xL57a xL57n xL57c, .int .i64 xEpoch58], .int .i64 wv3, .int .i64 indexv4, .int .i64 epoch5] ww61 fun ee63 ww64 => ∃ (may62 : Int), ee63 = .returned (.int .i64 may62) ∧
  bif may59 == may62 then (
  Calls Try.prog 10 #[] ww64 fun ee66 ww67 => ∃ (alive65 : Bool), ee66 = .returned (.bool alive65) ∧
  R (.bool alive65) ww67) else (
  R (.bool false) ww64)))

theorem cachettelaw12_MembersMay.eq (publicv1 : Int) (l2a : Option Addr) (l2n : Nat) (l2c : Nat) (wv3 : Int) (indexv4 : Int) (epoch5 : Int) (R : Value → World → Prop) (w : World) : mfunc Try.prog [(0, [0, 1, 2, 3, 4], [(11, (.one .slice)), (12, (.one (.int .i64)))])] 6 [.int .u64 publicv1, .slice l2a l2n l2c, .int .i64 wv3, .int .i64 indexv4, .int .i64 epoch5] R w = cachettelaw12_MembersMay.M publicv1 l2a l2n l2c wv3 indexv4 epoch5 R w := by kernel_rfl
theorem cachettelaw12_MembersMay.ok (publicv1 : Int) (l2a : Option Addr) (l2n : Nat) (l2c : Nat) (wv3 : Int) (indexv4 : Int) (epoch5 : Int) {R : Value → World → Prop} {w : World} (h : cachettelaw12_MembersMay.M publicv1 l2a l2n l2c wv3 indexv4 epoch5 R w) : Calls Try.prog 6 #[.int .u64 publicv1, .slice l2a l2n l2c, .int .i64 wv3, .int .i64 indexv4, .int .i64 epoch5] w fun e w' => ∃ v, e = .returned v ∧ R v w' :=
  mfunc_ok follows (H := [(0, [0, 1, 2, 3, 4], [(11, (.one .slice)), (12, (.one (.int .i64)))])]) (args := [.int .u64 publicv1, .slice l2a l2n l2c, .int .i64 wv3, .int .i64 indexv4, .int .i64 epoch5]) (by rw [cachettelaw12_MembersMay.eq]; exact h)

def cachettelaw12_MembersMay.N (publicv1 : Int) (l2a : Option Addr) (l2n : Nat) (l2c : Nat) (wv3 : Int) (indexv4 : Int) (epoch5 : Int) (R : Value → World → Prop) (w : World) : Prop :=
  Calls Try.prog 9 #[.slice l2a l2n l2c] w fun ee7 ww8 => ∃ (light6 : Bool), ee7 = .returned (.bool light6) ∧
  (light6 = false →
    Calls Try.prog 10 #[] ww8 fun ee11 ww12 => ∃ (alive10 : Bool), ee11 = .returned (.bool alive10) ∧
    R (.bool alive10) ww12) ∧
  (light6 = true →
    ∃ (I0 : Nat → List Value → World → Prop) (m15 : Nat), I0 m15 [.slice none 0 0, .int .i64 0] ww8 ∧ ∀ (m16 : Nat) (ww17 : World) (all13a : Option Addr) (all13n : Nat) (all13c : Nat) (i14 : Int), I0 m16 [.slice all13a all13n all13c, .int .i64 i14] ww17 →
    (i14 < (l2n : Int) →
      ∃ a19 : Addr, l2a = some a19 ∧
      0 ≤ (i14 : Int) ∧ (i14 : Int) < (l2n : Int) ∧
      ∃ (xKind21 : Int) (xWho22 : Int) (xPublic23 : Int) (xLimit24 : Int) (xWraps25a : Option Addr) (xWraps25n : Nat) (xWraps25c : Nat) (xOld26a : Option Addr) (xOld26n : Nat) (xOld26c : Nat), cellsAt ww17 (a19.add (Int.toNat i14 * 6)) [.int .i64 xKind21, .int .i64 xWho22, .int .u64 xPublic23, .int .i64 xLimit24, .slice xWraps25a xWraps25n xWraps25c, .slice xOld26a xOld26n xOld26c] 0 ∧
      Calls Try.prog 13 #[.agg #[.int .i64 xKind21, .int .i64 xWho22, .int .u64 xPublic23, .int .i64 xLimit24, .slice xWraps25a xWraps25n xWraps25c, .slice xOld26a xOld26n xOld26c]] ww17 fun ee33 ww34 => ∃ (Kind27 : Int) (Who28 : Int) (Public29 : Int) (Limit30 : Int) (Wraps31a : Option Addr) (Wraps31n : Nat) (Wraps31c : Nat) (Old32a : Option Addr) (Old32n : Nat) (Old32c : Nat), ee33 = .returned (.agg #[.int .i64 Kind27, .int .i64 Who28, .int .u64 Public29, .int .i64 Limit30, .slice Wraps31a Wraps31n Wraps31c, .slice Old32a Old32n Old32c]) ∧
      ∀ (ww35 : World) (q36 : Nat), Ext no ww34 ww35 → Blk ww35 q36 36 [.int .i64 Kind27, .int .i64 Who28, .int .u64 Public29, .int .i64 Limit30, .slice Wraps31a Wraps31n Wraps31c, .slice Old32a Old32n Old32c] → ww34.heap.size ≤ q36 → q36 < ww35.heap.size →
      ∃ (a37a : Option Addr) (a37n : Nat) (a37c : Nat) (ww38 : World), (Builtin.append_ #[56, 56] 56 #[.slice all13a all13n all13c, .slice (some (blk q36)) 1 1]).run Try.prog ww35 = .ok (.slice a37a a37n a37c) ww38 ∧
      (-9223372036854775808 : Int) ≤ (i14 + 1) ∧ (i14 + 1) < 9223372036854775808 ∧
      ∃ m39, m39 < m16 ∧ I0 m39 [.slice a37a a37n a37c, .int .i64 (i14 + 1)] ww38) ∧
    ((l2n : Int) ≤ i14 →
      Calls Try.prog 24 #[.slice all13a all13n all13c, .int .u64 publicv1] ww17 fun ee44 ww45 => ∃ (L40a : Option Addr) (L40n : Nat) (L40c : Nat) (Epoch41 : Int) (behind42 : Int) (behind43 : Int), ee44 = .returned (.tuple #[.agg #[.slice L40a L40n L40c, .int .i64 Epoch41], .int .i64 behind42, .int .i64 behind43]) ∧
      ∀ (ww48 : World) (p49 : Nat), Ext no ww45 ww48 → Priv ww45 ww48 [p49] →
      Calls Try.prog 25 #[.slice l2a l2n l2c, .int .u64 publicv1] ww48 fun ee54 ww55 => ∃ (L50a : Option Addr) (L50n : Nat) (L50c : Nat) (Epoch51 : Int) (behind52 : Int) (behind53 : Int), ee54 = .returned (.tuple #[.agg #[.slice L50a L50n L50c, .int .i64 Epoch51], .int .i64 behind52, .int .i64 behind53]) ∧
      Keep [p49] ww48 ww55 ∧
      ∀ (ww59 : World) (p60 : Nat), Ext no ww55 ww59 → Priv ww55 ww59 [p60] →
      Calls Try.prog 14 #[.agg #[.slice L40a L40n L40c, .int .i64 Epoch41], .int .i64 wv3, .int .i64 indexv4, .int .i64 epoch5] ww59 fun ee62 ww63 => ∃ (may61 : Int), ee62 = .returned (.int .i64 may61) ∧
      Keep [p60] ww59 ww63 ∧
      Calls Try.prog 26 #[.agg #[.slice L50a L50n L50c, .int .i64 Epoch51], .int .i64 wv3, .int .i64 indexv4, .int .i64 epoch5] ww63 fun ee65 ww66 => ∃ (may64 : Int), ee65 = .returned (.int .i64 may64) ∧
      (may61 = may64 →
        Calls Try.prog 10 #[] ww66 fun ee69 ww70 => ∃ (alive68 : Bool), ee69 = .returned (.bool alive68) ∧
        R (.bool alive68) ww70) ∧
      (may61 ≠ may64 →
        R (.bool false) ww66)))

theorem cachettelaw12_MembersMay.up (publicv1 : Int) (l2a : Option Addr) (l2n : Nat) (l2c : Nat) (wv3 : Int) (indexv4 : Int) (epoch5 : Int) {R : Value → World → Prop} {w : World} (h : cachettelaw12_MembersMay.N publicv1 l2a l2n l2c wv3 indexv4 epoch5 R w) : cachettelaw12_MembersMay.M publicv1 l2a l2n l2c wv3 indexv4 epoch5 R w := by
  unfold cachettelaw12_MembersMay.M
  unfold cachettelaw12_MembersMay.N at h
  refine h.mono fun ee7 ww8 h => ?_
  obtain ⟨light6, he, h⟩ := h
  refine ⟨light6, he, ?_⟩
  refine bif_of (fun c9 => ?_) (fun c9 => ?_)
  · have h := h.1 (not_t c9)
    refine h.mono fun ee11 ww12 h => ?_
    obtain ⟨alive10, he, h⟩ := h
    refine ⟨alive10, he, ?_⟩
    exact h
  · have h := h.2 (not_f c9)
    obtain ⟨I0, m15, h0, h⟩ := h
    refine ⟨I0, m15, h0, fun m16 ww17 all13a all13n all13c i14 hI => ?_⟩
    have h := h m16 ww17 all13a all13n all13c i14 hI
    refine bif_of (fun c18 => ?_) (fun c18 => ?_)
    · have h := h.1 (of_decide_eq_true c18)
      obtain ⟨a19, ha19, h⟩ := h
      refine elim_some ha19 ?_
      obtain ⟨hq1, hq2, h⟩ := h
      refine ⟨hq1, hq2, ?_⟩
      obtain ⟨xKind21, xWho22, xPublic23, xLimit24, xWraps25a, xWraps25n, xWraps25c, xOld26a, xOld26n, xOld26c, hc20, h⟩ := h
      refine ⟨xKind21, xWho22, xPublic23, xLimit24, xWraps25a, xWraps25n, xWraps25c, xOld26a, xOld26n, xOld26c, hc20, ?_⟩
      refine h.mono fun ee33 ww34 h => ?_
      obtain ⟨Kind27, Who28, Public29, Limit30, Wraps31a, Wraps31n, Wraps31c, Old32a, Old32n, Old32c, he, h⟩ := h
      refine ⟨Kind27, Who28, Public29, Limit30, Wraps31a, Wraps31n, Wraps31c, Old32a, Old32n, Old32c, he, ?_⟩
      refine thenW_in fun ww35 e35 => ?_
      have h := h ww35 ww34.heap.size ((Ext.refl no ww34).x_alloc e35) (Blk.of_new e35) ((Ext.refl no ww34)).size (size_lt_alloc e35)
      obtain ⟨a37a, a37n, a37c, ww38, hr, h⟩ := h
      refine ⟨a37a, a37n, a37c, ww38, hr, ?_⟩
      obtain ⟨hw1, hw2, h⟩ := h
      try rw [w64 hw1 hw2]
      obtain ⟨m39, hk, h⟩ := h
      exact ⟨m39, hk, h⟩
    · have h := h.2 (Int.not_lt.1 (of_decide_eq_false c18))
      refine h.mono fun ee44 ww45 h => ?_
      obtain ⟨L40a, L40n, L40c, Epoch41, behind42, behind43, he, h⟩ := h
      refine ⟨L40a, L40n, L40c, Epoch41, behind42, behind43, he, ?_⟩
      refine thenW_in fun ww46 e46 => ?_
      have hb1 := Blk.of_new e46
      have hg1 := ((Ext.refl no ww45)).size
      have hx46 := (Ext.refl no ww45).x_alloc e46
      refine ⟨hb1.cani 0 rfl rfl, thenW_in fun ww47 e47 => ?_⟩
      have hx47 := hx46.x_set (q := ww45.heap.size) (i := 0) rfl (.inr hg1) e47
      have hb1 := hb1.seti 0 rfl e47
      refine ⟨hb1.cani 1 rfl rfl, thenW_in fun ww48 e48 => ?_⟩
      have hx48 := hx47.x_set (q := ww45.heap.size) (i := 1) rfl (.inr hg1) e48
      have hb1 := hb1.seti 1 rfl e48
      have h := h ww48 (ww45.heap.size) hx48 (Priv.cons hg1 hb1.lt Priv.nil)
      refine h.mono fun ee54 ww55 h => ?_
      obtain ⟨L50a, L50n, L50c, Epoch51, behind52, behind53, he, hk, h⟩ := h
      refine ⟨L50a, L50n, L50c, Epoch51, behind52, behind53, he, ?_⟩
      have hb1 := hk.blk hb1 (by simp)
      refine thenW_in fun ww56 e56 => ?_
      have hb2 := Blk.of_new e56
      have hg2 := ((Ext.refl no ww55)).size
      have hb1_2 := Nat.ne_of_lt hb1.lt
      have hb1 := hb1.x_alloc e56
      have hx56 := (Ext.refl no ww55).x_alloc e56
      refine ⟨hb2.cani 0 rfl rfl, thenW_in fun ww57 e57 => ?_⟩
      have hx57 := hx56.x_set (q := ww55.heap.size) (i := 0) rfl (.inr hg2) e57
      have hb1 := hb1.oth (q := ww55.heap.size) (i := 0) rfl hb1_2 e57
      have hb2 := hb2.seti 0 rfl e57
      refine ⟨hb2.cani 1 rfl rfl, thenW_in fun ww58 e58 => ?_⟩
      have hx58 := hx57.x_set (q := ww55.heap.size) (i := 1) rfl (.inr hg2) e58
      have hb1 := hb1.oth (q := ww55.heap.size) (i := 1) rfl hb1_2 e58
      have hb2 := hb2.seti 1 rfl e58
      refine thenW_in fun ww59 e59 => ?_
      have hx59 := hx58.x_drew e59
      have hb1 := hb1.x_drew e59
      have hb2 := hb2.x_drew e59
      refine ⟨L40a, L40n, L40c, Epoch41, ⟨hb1.celli 0 rfl rfl, hb1.celli 1 rfl rfl, trivial⟩, ?_⟩
      refine ⟨L50a, L50n, L50c, Epoch51, ⟨hb2.celli 0 rfl rfl, hb2.celli 1 rfl rfl, trivial⟩, ?_⟩
      have h := h ww59 (ww55.heap.size) hx59 (Priv.cons hg2 hb2.lt Priv.nil)
      refine h.mono fun ee62 ww63 h => ?_
      obtain ⟨may61, he, hk, h⟩ := h
      refine ⟨may61, he, ?_⟩
      have hb2 := hk.blk hb2 (by simp)
      refine ⟨⟨hb2.celli 0 rfl rfl, hb2.celli 1 rfl rfl, trivial⟩, ?_⟩
      refine h.mono fun ee65 ww66 h => ?_
      obtain ⟨may64, he, h⟩ := h
      refine ⟨may64, he, ?_⟩
      refine bif_of (fun c67 => ?_) (fun c67 => ?_)
      · have h := h.1 (beq_t c67)
        refine h.mono fun ee69 ww70 h => ?_
        obtain ⟨alive68, he, h⟩ := h
        refine ⟨alive68, he, ?_⟩
        exact h
      · have h := h.2 (beq_f c67)
        exact h

theorem cachettelaw12_MembersMay.go (publicv1 : Int) (l2a : Option Addr) (l2n : Nat) (l2c : Nat) (wv3 : Int) (indexv4 : Int) (epoch5 : Int) {R : Value → World → Prop} {w : World} (h : cachettelaw12_MembersMay.N publicv1 l2a l2n l2c wv3 indexv4 epoch5 R w) : Calls Try.prog 6 #[.int .u64 publicv1, .slice l2a l2n l2c, .int .i64 wv3, .int .i64 indexv4, .int .i64 epoch5] w fun e w' => ∃ v, e = .returned v ∧ R v w' := cachettelaw12_MembersMay.ok publicv1 l2a l2n l2c wv3 indexv4 epoch5 (cachettelaw12_MembersMay.up publicv1 l2a l2n l2c wv3 indexv4 epoch5 h)
theorem cachettelaw12_MembersMay.run (publicv1 : Int) (l2a : Option Addr) (l2n : Nat) (l2c : Nat) (wv3 : Int) (indexv4 : Int) (epoch5 : Int) {V : Value} {Q : World → Prop} {w : World} (h : cachettelaw12_MembersMay.N publicv1 l2a l2n l2c wv3 indexv4 epoch5 (fun v w' => v = V ∧ Q w') w) : Calls Try.prog 6 #[.int .u64 publicv1, .slice l2a l2n l2c, .int .i64 wv3, .int .i64 indexv4, .int .i64 epoch5] w (Ret V Q) := (cachettelaw12_MembersMay.go publicv1 l2a l2n l2c wv3 indexv4 epoch5 h).mono fun e w' ⟨v, he, hv, hq⟩ => ⟨by rw [he, hv], hq⟩

end Go.Proofs.Ytmhfoieeldiecaa

/- Members: Behind, the program's and the reference's. -/
set_option linter.unusedVariables false
set_option linter.unusedSimpArgs false
set_option maxRecDepth 20000
set_option maxHeartbeats 4000000
namespace Go.Proofs.Ytmhfoieeldiecaa
open Go Go.Mx Go.Proofs
open W (OwnB)
section
variable {w w' w1 : World} {o o' o1 : Own} {a b la : Option Addr} {c d N lc : Nat} {s t : MS} {m : Mem} {cg : Chg} {ml : List Mem} {l : List CR} {pb : Int}
def BehR (w : World) (o : Own) (r : MS × Int × Int) (v : Value) (w' : World) : Prop := ∃ o' a' c', v = (.tuple #[.agg #[.slice a' r.1.ml.length c', .int .i64 r.1.ep], .int .i64 r.2.1, .int .i64 r.2.2]) ∧ Step no w o w' o' ∧ Row w' o' a' (r.1.ml.flatMap Mem.C) ∧ r.1.ok ∧ r.1.ml.length ≤ c'
def BehG (w : World) (o : Own) (r : MS × Int × Int) (x : Ending) (w' : World) : Prop := ∃ v, x = .returned v ∧ BehR w o r v w'
def wsOk (w : World) (o : Own) (l : List CR) : Prop := ∀ p ∈ l, Row w o p.wa (p.l.flatMap Wr.C) ∧ p.l.length < 1000000 ∧ p.old.length < 1000000
theorem wsOk.step {K : Nat → Prop} (h : wsOk w o l) (s : Step K w o w' o') : wsOk w' o' l := fun p hp => ⟨(h p hp).1.step s, (h p hp).2⟩
theorem behindM_cons (s : MS) (c : Chg) (r : List Chg) (i : Nat) : behindM s (c :: r) i = if (applyM s c).2 = 0 then behindM (applyM s c).1 r (i + 1) else (s, (i : Int), (applyM s c).2) := rfl
structure BI (w : World) (o : Own) (Q : List Nat) (l : List CR) (pb : Int) (t : Nat) (s : MS) (a : Option Addr) (c : Nat) (w1 : World) (o1 : Own) : Prop where
  go : behindM s ((l.map CR.cg).drop t) t = behindM (newM pb) (l.map CR.cg) 0
  ok : s.ok
  cap : s.ml.length ≤ c
  st : Step no w o w1 o1
  row : Row w1 o1 a (s.ml.flatMap Mem.C)
  mine : Mine Q w1 o1
theorem rBehind_spec (hr : Row w o la (l.flatMap CR.C)) (hg : wsOk w o l) (ok : Tags w o) (hl : l.length < 1000000) (pb : Int) :
    Calls Try.prog 25 #[.slice la l.length lc, .int .u64 pb] w (BehG w o (behindM (newM pb) (l.map CR.cg) 0)) := by
  refine cachetteref12_Behind.go la l.length lc pb (R := BehR w o (behindM (newM pb) (l.map CR.cg) 0)) ?_
  unfold cachetteref12_Behind.N
  intro w3 p4 X3 hp4
  obtain ⟨s3, M3⟩ := Step.priv X3 hp4 ok
  refine (rNew_spec s3.ok pb).mono fun x w8 ⟨o8, a8, c8, hx, s8', r8, hc8⟩ => ⟨_, _, _, _, hx, M3.keep s8' fun _ _ => id, fun w11 p12 X11 hp12 => ?_⟩
  have s8 := s3.trans s8'
  obtain ⟨s11', M11⟩ := Step.priv X11 hp12 s8.ok
  have s11 := s8.trans s11'
  have MQ := ((M3.step s8').step s11').app M11
  have g : ∀ p ∈ [p4, p12], w.heap.size ≤ p := fun p hp => by
    simp only [List.mem_cons, List.not_mem_nil, or_false] at hp
    rcases hp with rfl | rfl
    · exact (hp4 p (by simp)).1
    · have := (hp12 p (by simp)).1; have := s8.size; omega
  refine ⟨fun m vs w1 => ∃ (t : Nat) (s : MS) (a1 : Option Addr) (c1 : Nat) (o1 : Own), vs = [.int .i64 t, .slice none 0 0, .int .i64 0, .slice a1 s.ml.length c1, .int .i64 s.ep] ∧ m + t = l.length ∧ BI w o [p4, p12] l pb t s a1 c1 w1 o1, l.length, ⟨0, newM pb, a8, c8, _, rfl, rfl, ⟨rfl, newM_ok pb, hc8, s11, r8.step s11', MQ⟩⟩, ?_⟩
  rintro m w20 i0 za zn zc ze ra rn rc re ⟨t, s, a1, c1, o20, hi, hm, I⟩
  simp only [List.cons.injEq, Value.slice.injEq, Value.int.injEq, true_and, and_true] at hi
  obtain ⟨rfl, ⟨rfl, rfl, rfl⟩, rfl, ⟨rfl, rfl, rfl⟩, rfl⟩ := hi
  have hle := I.ok.le
  refine ⟨fun ht => ?_, fun ht w52 X52 => ?_⟩
  · have htl : t < l.length := by omega
    have hgt : l[t]? = some l[t] := List.getElem?_eq_getElem htl
    have hxg := (hg.step I.st) _ (List.getElem_mem htl)
    have hdr := List.drop_eq_getElem_cons (l := l.map CR.cg) (i := t) (by simpa using htl)
    rw [List.getElem_map] at hdr
    have hgo := I.go
    rw [hdr, behindM_cons] at hgo
    generalize l[t] = x at *
    obtain ⟨ad, rfl⟩ := hr.1.faddr CR.len (by decide) htl
    refine ⟨ad, rfl, by omega, by omega, x.kd, x.who, x.pub, x.lim, x.wa, x.l.length, x.wc, x.oa, x.old.length, x.oc, by rw [Int.toNat_natCast]; exact (hr.step I.st).1.floads CR.len hgt, fun w32 L31 X32 hp31 => ?_⟩
    obtain ⟨s32', M32⟩ := Step.priv X32 hp31 I.st.ok
    have s32 := I.st.trans s32'
    have MQ32 := I.mine.step s32'
    rw [CR.V]
    refine (rApply_spec (I.row.step s32') s32.ok I.ok I.cap (hxg.1.step s32') rfl hxg.2.1 hxg.2.2).mono fun e w37 ⟨o37, a', c', hx, s37', r37, hc'⟩ => ⟨_, _, _, _, _, hx, M32.keep s37' fun _ _ => id, MQ32.keep s37' fun _ _ => id, fun hne w45 X45 w44 X44 => ?_, fun h0 w50 X50 => ⟨by omega, by omega, fun w48 X48 => ?_⟩⟩
    all_goals have s37 := s32.trans s37'
    all_goals have gL : ∀ p ∈ L31, w.heap.size ≤ p := fun p hp => by have := (hp31 p hp).1; have := I.st.size; omega
    · have s45' := Step.joins X45 s37.ok (M32.step s37')
      have s45 := s37.trans' s45' fun i hi => .inr (gL i hi)
      have s44' := Step.stores X44 s45.ok ((((MQ32.step s37').step s45')).sub (M := [p4]) (by simp)) (by simp)
      have sF := s45.trans' s44' fun i hi => .inr (g i (by simp at hi ⊢; omega))
      rw [if_neg hne] at hgo
      rw [← hgo]
      exact ⟨_, _, _, rfl, sF, (((I.row.step s32').step s37').step s45').step s44', I.ok, I.cap⟩
    · have s50' := Step.joins X50 s37.ok (M32.step s37')
      have s50 := s37.trans' s50' fun i hi => .inr (gL i hi)
      have s48' := Step.stores X48 s50.ok ((((MQ32.step s37').step s50')).sub (M := [p12]) (by simp)) (by simp)
      have sF := s50.trans' s48' fun i hi => .inr (g i (by simp at hi ⊢; omega))
      rw [if_pos h0] at hgo
      exact ⟨m - 1, by omega, t + 1, (applyM s x.cg).1, a', c', _, rfl, by omega, ⟨hgo, applyM_ok I.ok h0, hc', sF, (r37.step s50').step s48', ((MQ32.step s37').step s50').step s48'⟩⟩
  · have htt : t = l.length := by omega
    have hgo := I.go
    rw [List.drop_eq_nil_of_le (by simp; omega)] at hgo
    have s52' := Step.stores X52 I.st.ok (I.mine.sub (M := [p4]) (by simp)) (by simp)
    have sF := I.st.trans' s52' fun i hi => .inr (g i (by simp at hi ⊢; omega))
    rw [← hgo]
    exact ⟨_, _, _, by subst htt; rfl, sF, I.row.step s52', I.ok, I.cap⟩
theorem Behind_spec (hr : Row w o la (l.flatMap CR.C)) (hg : wsOk w o l) (ok : Tags w o) (hl : l.length < 1000000) (pb : Int) :
    Calls Try.prog 24 #[.slice la l.length lc, .int .u64 pb] w (BehG w o (behindM (newM pb) (l.map CR.cg) 0)) := by
  refine members_Behind.go la l.length lc pb (R := BehR w o (behindM (newM pb) (l.map CR.cg) 0)) ?_
  unfold members_Behind.N
  intro w3 p4 X3 hp4
  obtain ⟨s3, M3⟩ := Step.priv X3 hp4 ok
  refine (New_spec s3.ok pb).mono fun x w8 ⟨o8, a8, c8, hx, s8', r8, hc8⟩ => ⟨_, _, _, _, hx, M3.keep s8' fun _ _ => id, fun w11 p12 X11 hp12 => ?_⟩
  have s8 := s3.trans s8'
  obtain ⟨s11', M11⟩ := Step.priv X11 hp12 s8.ok
  have s11 := s8.trans s11'
  have MQ := ((M3.step s8').step s11').app M11
  have g : ∀ p ∈ [p4, p12], w.heap.size ≤ p := fun p hp => by
    simp only [List.mem_cons, List.not_mem_nil, or_false] at hp
    rcases hp with rfl | rfl
    · exact (hp4 p (by simp)).1
    · have := (hp12 p (by simp)).1; have := s8.size; omega
  refine ⟨fun m vs w1 => ∃ (t : Nat) (s : MS) (a1 : Option Addr) (c1 : Nat) (o1 : Own), vs = [.int .i64 t, .slice none 0 0, .int .i64 0, .slice a1 s.ml.length c1, .int .i64 s.ep] ∧ m + t = l.length ∧ BI w o [p4, p12] l pb t s a1 c1 w1 o1, l.length, ⟨0, newM pb, a8, c8, _, rfl, rfl, ⟨rfl, newM_ok pb, hc8, s11, r8.step s11', MQ⟩⟩, ?_⟩
  rintro m w20 i0 za zn zc ze ra rn rc re ⟨t, s, a1, c1, o20, hi, hm, I⟩
  simp only [List.cons.injEq, Value.slice.injEq, Value.int.injEq, true_and, and_true] at hi
  obtain ⟨rfl, ⟨rfl, rfl, rfl⟩, rfl, ⟨rfl, rfl, rfl⟩, rfl⟩ := hi
  have hle := I.ok.le
  refine ⟨fun ht => ?_, fun ht w52 X52 => ?_⟩
  · have htl : t < l.length := by omega
    have hgt : l[t]? = some l[t] := List.getElem?_eq_getElem htl
    have hxg := (hg.step I.st) _ (List.getElem_mem htl)
    have hdr := List.drop_eq_getElem_cons (l := l.map CR.cg) (i := t) (by simpa using htl)
    rw [List.getElem_map] at hdr
    have hgo := I.go
    rw [hdr, behindM_cons] at hgo
    generalize l[t] = x at *
    obtain ⟨ad, rfl⟩ := hr.1.faddr CR.len (by decide) htl
    refine ⟨ad, rfl, by omega, by omega, x.kd, x.who, x.pub, x.lim, x.wa, x.l.length, x.wc, x.oa, x.old.length, x.oc, by rw [Int.toNat_natCast]; exact (hr.step I.st).1.floads CR.len hgt, fun w36 X36 => ?_⟩
    have s36' := Step.of_no X36 I.st.ok
    have s36 := I.st.trans s36'
    have MQ36 := I.mine.step s36'
    rw [CR.V]
    refine (Apply_spec (I.row.step s36') s36.ok I.ok (hxg.1.step s36') rfl hxg.2.1 hxg.2.2).mono fun e w42 ⟨o42, a', c', hx, s42', r42, hc'⟩ => ⟨_, _, _, _, _, hx, MQ36.keep s42' fun _ _ => id, fun hne w48 X48 => ?_, fun h0 => ⟨by omega, by omega, fun w51 X51 => ?_⟩⟩
    all_goals have s42 := s36.trans s42'
    · have s48' := Step.stores X48 s42.ok ((MQ36.step s42').sub (M := [p4]) (by simp)) (by simp)
      have sF := s42.trans' s48' fun i hi => .inr (g i (by simp at hi ⊢; omega))
      rw [if_neg hne] at hgo
      rw [← hgo]
      exact ⟨_, _, _, rfl, sF, ((I.row.step s36').step s42').step s48', I.ok, I.cap⟩
    · have s51' := Step.stores X51 s42.ok ((MQ36.step s42').sub (M := [p12]) (by simp)) (by simp)
      have sF := s42.trans' s51' fun i hi => .inr (g i (by simp at hi ⊢; omega))
      rw [if_pos h0] at hgo
      exact ⟨m - 1, by omega, t + 1, (applyM s x.cg).1, a', c', _, rfl, by omega, ⟨hgo, applyM_ok I.ok h0, hc', sF, r42.step s51', (MQ36.step s42').step s51'⟩⟩
  · have htt : t = l.length := by omega
    have hgo := I.go
    rw [List.drop_eq_nil_of_le (by simp; omega)] at hgo
    have s52' := Step.stores X52 I.st.ok (I.mine.sub (M := [p4]) (by simp)) (by simp)
    have sF := I.st.trans' s52' fun i hi => .inr (g i (by simp at hi ⊢; omega))
    rw [← hgo]
    exact ⟨_, _, _, by subst htt; rfl, sF, I.row.step s52', I.ok, I.cap⟩
end
end Go.Proofs.Ytmhfoieeldiecaa

/- MembersMay, MembersPlays. -/
set_option linter.unusedVariables false
set_option linter.unusedSimpArgs false
set_option maxRecDepth 20000
set_option maxHeartbeats 4000000
namespace Go.Proofs.Ytmhfoieeldiecaa
open Go Go.Mx Go.Proofs
open W (OwnB)
theorem inf36 : (Try.prog.info? 36).map (fun i => (i.zero, i.size, i.bytes)) = some (some (.agg #[.int .i64 0, .int .i64 0, .int .u64 0, .int .i64 0, .slice none 0 0, .slice none 0 0]), 6, 80) := by kernel_rfl
abbrev CRw (N : Nat) (w : World) (o : Own) (a : Option Addr) (c : Nat) (q : List CR) : Prop := LRow 36 6 N w o a q.length c (q.flatMap CR.C)
section
variable {w w' w1 : World} {o o' o1 : Own} {a b la : Option Addr} {c d N lc : Nat} {s t : MS} {m : Mem} {cg : Chg} {ml : List Mem} {l q : List CR} {pb : Int}
theorem CR.one (x : CR) : ∀ u ∈ x.C, u.oneCell' = true := fun u hu => by
  simp only [CR.C, List.mem_cons, List.not_mem_nil, or_false] at hu
  rcases hu with rfl | rfl | rfl | rfl | rfl | rfl <;> rfl
theorem CRw.push (h : CRw N w o a c q) (ok : Tags w o) (hl : q.length < 1000000) (y : CR) {p : Nat} (hb : Blk w p 36 y.C) (hq : N ≤ p) (hq' : p < w.heap.size) :
    ∃ a' n' c' w' o', (Builtin.append_ #[56, 56] 56 #[.slice a q.length c, .slice (some (blk p)) 1 1]).run Try.prog w = .ok (.slice a' n' c') w' ∧ n' = (q ++ [y]).length ∧ Step (fun j => N ≤ j) w o w' o' ∧ CRw N w' o' a' c' (q ++ [y]) := by
  obtain ⟨i, hi, hz, hsz, hby⟩ := info_of inf36
  obtain ⟨a', c', w', o', hrun, s2, hrow, _⟩ := LRow.push (ty := 56) Try.underlying56 hi hz hsz hby rfl (by decide) h ok hq hq' (xa := some (blk p)) (m := 1) (xc := 1) (news := y.C) rfl (RowAt.of_blk hb) y.one (by omega) (by omega)
  exact ⟨a', _, c', w', o', hrun, by simp, s2, by unfold CRw; rw [List.length_append, List.flatMap_append]; simpa using hrow⟩
/-- the program's changes so far. -/
structure AI (W : World) (N : Nat) (l : List CR) (t : Nat) (q : List CR) (a : Option Addr) (c : Nat) (w : World) (o : Own) : Prop where
  cg : q.map CR.cg = (l.take t).map CR.cg
  st : Step no W (fun _ => none) w o
  row : CRw N w o a c q
  ws : wsOk w o q
theorem noneOwn (w : World) : grow w (fun _ => none) = fun _ => none := by funext b; unfold grow; split <;> rfl
theorem wsOk.none {W : World} (h : wsOk w o q) : wsOk w (grow W fun _ => none) q := fun p hp => ⟨⟨(h p hp).1.1, fun _ ad ha => by rw [noneOwn]⟩, (h p hp).2⟩
theorem AI.len {W : World} {t : Nat} (h : AI W N l t q a c w o) (ht : t ≤ l.length) : q.length = t := by
  have := congrArg List.length h.cg
  simp at this; omega
theorem MembersMay_spec (W : World) {who index epoch : Int} (hl : RowAt W la (l.flatMap CR.C)) (hlg : ∀ p ∈ l, p.good W) :
    Calls Try.prog 6 #[.int .u64 pb, .slice la l.length lc, .int .i64 who, .int .i64 index, .int .i64 epoch] W (Ret (.bool true) fun w' => Ext no W w') := by
  refine cachettelaw12_MembersMay.run _ _ _ _ _ _ _ ?_
  unfold cachettelaw12_MembersMay.N
  refine (light12_spec hl (fun p hp => (hlg p hp).ws)).mono fun e w8 ⟨he, hw⟩ => ⟨_, he, fun _ => ?_, fun hL => ?_⟩
  · subst hw
    exact (alive12_spec _).mono fun e w9 ⟨he, X⟩ => ⟨_, he, rfl, X⟩
  subst hw
  obtain ⟨hl1, hl2⟩ := light12_of hL
  have ok0 : Tags w8 (fun _ => none) := fun b j _ h => by cases h
  have fin : ∀ {w1 w' : World} {o1 : Own}, Step no w8 (fun _ => none) w1 o1 → Ext no w1 w' → Ext no w8 w' := fun s X => (s.ext.mono fun b ⟨_, _, h⟩ _ => h).trans X
  have hlw : wsOk w8 (fun _ => none) l := fun p hp => ⟨noW12 (hlg p hp).ws, by have := hl2 p hp; omega, by have := hl2 p hp; omega⟩
  refine ⟨fun m vs w1 => ∃ (t : Nat) (q : List CR) (a1 : Option Addr) (c1 : Nat) (o1 : Own), vs = [.slice a1 q.length c1, .int .i64 t] ∧ m + t = l.length ∧ AI w8 w8.heap.size l t q a1 c1 w1 o1, l.length, ⟨0, [], none, 0, _, rfl, rfl, ⟨rfl, Step.refl _ ok0, LRow.nil _ _ _ _ _, fun p hp => absurd hp (by simp)⟩⟩, ?_⟩
  rintro m w17 ra rn rc i0 ⟨t, q, a1, c1, o17, hi, hm, I⟩
  simp only [List.cons.injEq, Value.slice.injEq, Value.int.injEq, true_and, and_true] at hi
  obtain ⟨⟨rfl, rfl, rfl⟩, rfl⟩ := hi
  have hqt := I.len (by omega)
  refine ⟨fun ht => ?_, fun ht => ?_⟩
  · have htl : t < l.length := by omega
    have hg : l[t]? = some l[t] := List.getElem?_eq_getElem htl
    have htk : l.take (t + 1) = l.take t ++ [l[t]] := by rw [List.take_add_one, hg]; rfl
    have hxg := (hlw.step I.st) _ (List.getElem_mem htl)
    generalize l[t] = x at *
    obtain ⟨ad, rfl⟩ := hl.faddr CR.len (by decide) htl
    refine ⟨ad, rfl, by omega, by omega, x.kd, x.who, x.pub, x.lim, x.wa, x.l.length, x.wc, x.oa, x.old.length, x.oc, by rw [Int.toNat_natCast]; exact ((noW12 hl).step I.st).1.floads CR.len hg, ?_⟩
    rw [CR.V]
    refine (Own_spec I.st.ok hxg.1 rfl hxg.2.1).mono fun v w34 ⟨o34, wa', wc', he, s34', rw', _⟩ => ⟨_, _, _, _, _, _, _, _, _, _, he, fun w35 q36 X35 hb hq hq' => ?_⟩
    have e1 : x.cg.ws.length = x.l.length := by simp [CR.cg]
    rw [e1] at hb
    have s34 := I.st.trans s34'
    have s35' := Step.of_no X35 s34.ok
    have s35 := s34.trans s35'
    have r35 : CRw w8.heap.size w35 _ ra rc q := LRow.step (LRow.step I.row s34' fun k h => h.elim) s35' fun k h => h.elim
    have h34 := s34.size
    obtain ⟨a', n', c', w38, o38, hrun, hn', s38', hrow⟩ := r35.push s35.ok (by omega) { x with wa := wa', wc := wc' } hb (by omega) hq'
    have s38 : Step no w8 (fun _ => none) w38 o38 := s35.trans' s38' fun i hi => .inr hi
    refine ⟨a', n', c', w38, hrun, by omega, by omega, m - 1, by omega, t + 1, q ++ [{ x with wa := wa', wc := wc' }], a', c', o38, by rw [hn']; rfl, by omega, ⟨?_, s38, hrow, fun p hp => ?_⟩⟩
    · rw [htk, List.map_append, List.map_append, I.cg]; rfl
    · rcases List.mem_append.1 hp with h | h
      · exact (((I.ws.step s34').step s35').step s38') p h
      · simp at h; subst h
        exact ⟨(rw'.step s35').step s38', hxg.2⟩
  · have htt : t = l.length := by omega
    have hcg : q.map CR.cg = l.map CR.cg := by rw [I.cg, htt, List.take_length]
    have sg := noStep (K := no) I.st
    have hB := Behind_spec (lc := rc) (I.row.give I.st (Nat.le_refl _)) (I.ws.none (W := w8)) sg.ok (by omega) pb
    rw [hcg] at hB
    refine hB.mono fun e w45 ⟨v, he, o45, a', c', hv, s45', r45, k45, c45⟩ => ?_
    subst hv
    have s45 := sg.trans s45'
    refine ⟨_, _, _, _, _, _, he, fun w48 p49 X48 hp49 => ?_⟩
    obtain ⟨s48', M48⟩ := Step.priv X48 hp49 s45.ok
    have s48 := s45.trans s48'
    refine (rBehind_spec (lc := lc) ((noW12 hl).step s48) (hlw.step s48) s48'.ok (by omega) pb).mono fun e w55 ⟨v, he, o55, b', d', hv, s55', r55, k55, c55⟩ => ?_
    subst hv
    have s55 := s48.trans s55'
    have r45' := (r45.step s48').step s55'
    generalize behindM (newM pb) (l.map CR.cg) 0 = r at *
    refine ⟨_, _, _, _, _, _, he, M48.keep s55' fun _ _ => id, fun w59 p60 X59 hp60 => ?_⟩
    obtain ⟨s59', M59⟩ := Step.priv X59 hp60 s55.ok
    have hle := k55.le
    refine (May_spec (r45'.step s59') s59'.ok k55.sorted (by omega) who index epoch).mono fun e w63 ⟨he, o63, s63'⟩ => ⟨_, he, M59.keep s63' fun _ _ => id, ?_⟩
    refine (rMay_spec ((r55.step s59').step s63') s63'.ok k55.sorted (by omega) who index epoch).mono fun e w66 ⟨he, o66, s66'⟩ => ⟨_, he, fun _ => ?_, fun h => absurd rfl h⟩
    exact (alive12_spec _).mono fun e w70 ⟨he, X⟩ => ⟨_, he, rfl, fin (((s55.trans s59').trans s63').trans s66') X⟩
theorem MembersMay_walk (W : World) (n0 : Int) (a1 : Option Addr) (len1 cap1 : Nat) (n2 n3 n4 : Int) (w0 : (Lit.int .u64 n0).wf = true) (o1 : CRsQ W [.slice a1 len1 cap1]) (w2 : (Lit.int .i64 n2).wf = true) (w3 : (Lit.int .i64 n3).wf = true) (w4 : (Lit.int .i64 n4).wf = true) :
    Calls Try.prog 6 #[.int .u64 n0, .slice a1 len1 cap1, .int .i64 n2, .int .i64 n3, .int .i64 n4] W (Ret (.bool true) fun w' => Ext no W w') := by
  obtain ⟨_, c1, l, e1, q1, q2, r1, f1⟩ := o1
  cases e1
  exact MembersMay_spec W r1 f1
end
end Go.Proofs.Ytmhfoieeldiecaa
