/- ChainPlays, ChainWhole: predicates. -/
import Derived.Test.YtdelmfpchbpafaaZE
set_option linter.unusedVariables false
set_option linter.unusedSimpArgs false
set_option maxRecDepth 20000
set_option maxHeartbeats 2000000
namespace Go.Proofs.Ytdelmfpchbpafaa
open Go Go.Mx Go.Proofs
open W (OwnB GivesW numR countR doneR zig unzig intR)
/-- (*cachetteref07.Log).Head -/
def cachetteref07_Log_Head.M (l1 : Option Addr) (o2 : Option Addr) (R : Value → World → Prop) (w : World) : Prop :=
 thenW (w.alloc (.cells #[.int .i64 0, .int .i64 0, .int .u64 0] 65)) fun bl =>
 thenW (bl.drew) fun ah =>
 l1.elim False fun a5 =>
 ∃ (W6 : Int), ah.cell? (a5.add 0) = some (.int .i64 W6) ∧
 l1.elim False fun a7 =>
 ∃ (bh : Option Addr) (bf : Nat) (bi : Nat), ah.cell? (a7.add 2) = some (.slice bh bf bi) ∧
 thenW (ah.alloc (.cells #[.int .i64 0, .int .i64 0, .int .u64 0] 65)) fun b9 =>
 b9.cell? (a7.add 2) = some (.slice bh bf bi) ∧
 b9.cell? (a5.add 0) = some (.int .i64 W6) ∧
 canStore b9 ((blk ah.heap.size).add 0) ∧
 thenW (b9.setCell ((blk ah.heap.size).add 0) (.int .i64 W6)) fun b0 =>
 canStore b0 ((blk ah.heap.size).add 1) ∧
 thenW (b0.setCell ((blk ah.heap.size).add 1) (.int .i64 (bf : Int))) fun b2 =>
 canStore b2 ((blk ah.heap.size).add 2) ∧
 thenW (b2.setCell ((blk ah.heap.size).add 2) (.int .u64 0)) fun ai =>
 l1.elim False fun bj =>
 ∃ (ba : Option Addr) (b4 : Nat) (be : Nat), ai.cell? (bj.add 2) = some (.slice ba b4 be) ∧
 bif decide ((b4 : Int) > 0) then (
 thenW (ai.drew) fun aq =>
 l1.elim False fun bk =>
 ∃ (b7 : Option Addr) (b3 : Nat) (bg : Nat), aq.cell? (bk.add 2) = some (.slice b7 b3 bg) ∧
 l1.elim False fun bn =>
 ∃ (bb : Option Addr) (ar : Nat) (bc : Nat), aq.cell? (bn.add 2) = some (.slice bb ar bc) ∧
 b7.elim False fun bm =>
 0 ≤ ((IntKind.i64.wrap ((ar : Int) - 1)) : Int) ∧ ((IntKind.i64.wrap ((ar : Int) - 1)) : Int) < (b3 : Int) ∧
 ∃ (a2 : Int) (a8 : Int) (ag : Int) (ap : Int) (ak : Int) (a9 : Int) (a6 : Option Addr) (af : Nat) (ad : Nat) (aj : Int), cellsAt aq (bm.add (Int.toNat (IntKind.i64.wrap ((ar : Int) - 1)) * 8)) [.int .i64 a2, .int .i64 a8, .int .u64 ag, .int .i64 ap, .int .i64 ak, .int .i64 a9, .slice a6 af ad, .int .u64 aj] 0 ∧
 Calls Try.prog 49 #[.pointer o2, .agg #[.int .i64 a2, .int .i64 a8, .int .u64 ag, .int .i64 ap, .int .i64 ak, .int .i64 a9, .slice a6 af ad, .int .u64 aj]] aq fun bd az => ∃ (au : Int) (b6 : Int), bd = .returned (.tuple #[.int .u64 au, .int .i64 b6]) ∧
 canStore az (((blk ah.heap.size).add 2).add 0) ∧
 thenW (az.setCell (((blk ah.heap.size).add 2).add 0) (.int .u64 au)) fun av =>
 ∃ (a3 : Int) (an : Int) (al : Int), cellsAt av (blk ah.heap.size) [.int .i64 a3, .int .i64 an, .int .u64 al] 0 ∧
 canStore av ((blk w.heap.size).add 0) ∧
 thenW (av.setCell ((blk w.heap.size).add 0) (.int .i64 a3)) fun aw =>
 canStore aw ((blk w.heap.size).add 1) ∧
 thenW (aw.setCell ((blk w.heap.size).add 1) (.int .i64 an)) fun ax =>
 canStore ax ((blk w.heap.size).add 2) ∧
 thenW (ax.setCell ((blk w.heap.size).add 2) (.int .u64 al)) fun b5 =>
 ∃ (a0 : Int) (ab : Int) (ae : Int), cellsAt b5 (blk w.heap.size) [.int .i64 a0, .int .i64 ab, .int .u64 ae] 0 ∧
 R (.agg #[.int .i64 a0, .int .i64 ab, .int .u64 ae]) b5) else (
 ∃ (a4 : Int) (am : Int) (ao : Int), cellsAt ai (blk ah.heap.size) [.int .i64 a4, .int .i64 am, .int .u64 ao] 0 ∧
 canStore ai ((blk w.heap.size).add 0) ∧
 thenW (ai.setCell ((blk w.heap.size).add 0) (.int .i64 a4)) fun ay =>
 canStore ay ((blk w.heap.size).add 1) ∧
 thenW (ay.setCell ((blk w.heap.size).add 1) (.int .i64 am)) fun b8 =>
 canStore b8 ((blk w.heap.size).add 2) ∧
 thenW (b8.setCell ((blk w.heap.size).add 2) (.int .u64 ao)) fun b1 =>
 ∃ (a1 : Int) (aa : Int) (ac : Int), cellsAt b1 (blk w.heap.size) [.int .i64 a1, .int .i64 aa, .int .u64 ac] 0 ∧
 R (.agg #[.int .i64 a1, .int .i64 aa, .int .u64 ac]) b1)

theorem cachetteref07_Log_Head.eq (l1 : Option Addr) (o2 : Option Addr) (R : Value → World → Prop) (w : World) : mfunc Try.prog [] 32 [.pointer l1, .pointer o2] R w = cachetteref07_Log_Head.M l1 o2 R w := by kernel_rfl
theorem cachetteref07_Log_Head.ok (l1 : Option Addr) (o2 : Option Addr) {R : Value → World → Prop} {w : World} (h : cachetteref07_Log_Head.M l1 o2 R w) : Calls Try.prog 32 #[.pointer l1, .pointer o2] w fun e w' => ∃ v, e = .returned v ∧ R v w' :=
  mfunc_ok follows (H := []) (args := [.pointer l1, .pointer o2]) (by rw [cachetteref07_Log_Head.eq]; exact h)

def cachetteref07_Log_Head.N (l1 : Option Addr) (o2 : Option Addr) (R : Value → World → Prop) (w : World) : Prop :=
 ∃ a5 : Addr, l1 = some a5 ∧
 ∃ (W7 : Int), w.cell? (a5.add 0) = some (.int .i64 W7) ∧
 ∃ (ax : Option Addr) (ap : Nat) (ay : Nat), w.cell? (a5.add 2) = some (.slice ax ap ay) ∧
 ∃ (am : Option Addr) (ae : Nat) (av : Nat), w.cell? (a5.add 2) = some (.slice am ae av) ∧
 ((ae : Int) > 0 →
 ∃ (ai : Option Addr) (ak : Nat) (an : Nat), w.cell? (a5.add 2) = some (.slice ai ak an) ∧
 ∃ (ao : Option Addr) (a8 : Nat) (ar : Nat), w.cell? (a5.add 2) = some (.slice ao a8 ar) ∧
 (-9223372036854775808 : Int) ≤ ((a8 : Int) - 1) ∧ ((a8 : Int) - 1) < 9223372036854775808 ∧
 ∃ aw : Addr, ai = some aw ∧
 0 ≤ (((a8 : Int) - 1) : Int) ∧ (((a8 : Int) - 1) : Int) < (ak : Int) ∧
 ∃ (a0 : Int) (a2 : Int) (a7 : Int) (a9 : Int) (ab : Int) (a4 : Int) (a1 : Option Addr) (a3 : Nat) (a6 : Nat) (aa : Int), cellsAt w (aw.add (Int.toNat ((a8 : Int) - 1) * 8)) [.int .i64 a0, .int .i64 a2, .int .u64 a7, .int .i64 a9, .int .i64 ab, .int .i64 a4, .slice a1 a3 a6, .int .u64 aa] 0 ∧
 ∀ (ac : World) (aq : Nat) (al : Nat), Ext no w ac → Priv w ac [aq, al] →
 Calls Try.prog 49 #[.pointer o2, .agg #[.int .i64 a0, .int .i64 a2, .int .u64 a7, .int .i64 a9, .int .i64 ab, .int .i64 a4, .slice a1 a3 a6, .int .u64 aa]] ac fun au ah => ∃ (ad : Int) (af : Int), au = .returned (.tuple #[.int .u64 ad, .int .i64 af]) ∧
 Keep [aq, al] ac ah ∧
 ∀ (ag : World), Ext (fun b => b = aq ∨ b = al) ah ag →
 R (.agg #[.int .i64 W7, .int .i64 (ap : Int), .int .u64 ad]) ag) ∧
 ((ae : Int) ≤ 0 →
 ∀ (aj : World), Ext no w aj →
 R (.agg #[.int .i64 W7, .int .i64 (ap : Int), .int .u64 0]) aj)

theorem cachetteref07_Log_Head.up (l1 : Option Addr) (o2 : Option Addr) {R : Value → World → Prop} {w : World} (h : cachetteref07_Log_Head.N l1 o2 R w) : cachetteref07_Log_Head.M l1 o2 R w := by
  unfold cachetteref07_Log_Head.M
  unfold cachetteref07_Log_Head.N at h
  refine thenW_in fun ci e3 => ?_
  have a0 := Blk.of_new e3
  have ap := ((Ext.refl no w)).size
  have c9 := (Ext.refl no w).x_alloc e3
  refine thenW_in fun a4 e4 => ?_
  have ao := c9.x_drew e4
  have a0 := a0.x_drew e4
  obtain ⟨a5, am, h⟩ := h
  refine elim_some am ?_
  obtain ⟨W7, bw, h⟩ := h
  refine ⟨W7, (ao).cell bw id, ?_⟩
  refine elim_some am ?_
  obtain ⟨c5, al, c8, bs, h⟩ := h
  refine ⟨c5, al, c8, (ao).cell bs id, ?_⟩
  refine thenW_in fun cf bf => ?_
  have a1 := Blk.of_new bf
  have an := (ao).size
  have a2 := Nat.ne_of_lt a0.lt
  have a0 := a0.x_alloc bf
  have ah := ao.x_alloc bf
  refine ⟨(ah).cell bs id, (ah).cell bw id, ?_⟩
  refine ⟨a1.cani 0 rfl rfl, thenW_in fun ca ax => ?_⟩
  have aq := ah.x_set (q := a4.heap.size) (i := 0) rfl (.inr an) ax
  have a0 := a0.oth (q := a4.heap.size) (i := 0) rfl a2 ax
  have a1 := a1.seti 0 rfl ax
  refine ⟨a1.cani 1 rfl rfl, thenW_in fun c2 b6 => ?_⟩
  have av := aq.x_set (q := a4.heap.size) (i := 1) rfl (.inr an) b6
  have a0 := a0.oth (q := a4.heap.size) (i := 1) rfl a2 b6
  have a1 := a1.seti 1 rfl b6
  refine ⟨a1.cani 2 rfl rfl, thenW_in fun ce bj => ?_⟩
  have af := av.x_set (q := a4.heap.size) (i := 2) rfl (.inr an) bj
  have a0 := a0.oth (q := a4.heap.size) (i := 2) rfl a2 bj
  have a1 := a1.seti 2 rfl bj
  refine elim_some am ?_
  obtain ⟨b2, az, ay, b1, h⟩ := h
  refine ⟨b2, az, ay, (af).cell b1 id, ?_⟩
  refine bif_of (fun au => ?_) (fun au => ?_)
  · have h := h.1 (of_decide_eq_true au)
    refine thenW_in fun bp b3 => ?_
    have ad := af.x_drew b3
    have a0 := a0.x_drew b3
    have a1 := a1.x_drew b3
    refine elim_some am ?_
    obtain ⟨bc, br, bk, ar, h⟩ := h
    refine ⟨bc, br, bk, (ad).cell ar id, ?_⟩
    refine elim_some am ?_
    obtain ⟨bm, b7, bq, bn, h⟩ := h
    refine ⟨bm, b7, bq, (ad).cell bn id, ?_⟩
    obtain ⟨c1, c4, h⟩ := h
    try rw [w64 c1 c4]
    obtain ⟨ch, b5, h⟩ := h
    refine elim_some b5 ?_
    obtain ⟨cd, c6, h⟩ := h
    refine ⟨cd, c6, ?_⟩
    obtain ⟨a3, aa, ac, ag, aj, a6, a7, a8, ab, ai, b0, h⟩ := h
    refine ⟨a3, aa, ac, ag, aj, a6, a7, a8, ab, ai, cellsAt_no (ad) b0, ?_⟩
    have h := h bp (w.heap.size) (a4.heap.size) ad (Priv.cons ap a0.lt (Priv.cons an a1.lt Priv.nil))
    refine h.mono fun c3 ae h => ?_
    obtain ⟨a9, ak, he, hk, h⟩ := h
    refine ⟨a9, ak, he, ?_⟩
    have a0 := hk.blk a0 (by simp)
    have a1 := hk.blk a1 (by simp)
    have b4 : Ext (fun b => b = a4.heap.size) ae ae := ((Ext.refl no ae)).none
    refine ⟨a1.cani 2 rfl rfl, thenW_in fun bb aw => ?_⟩
    have ba := b4.x_set (q := a4.heap.size) (i := 2) rfl (.inl rfl) aw
    have a0 := a0.oth (q := a4.heap.size) (i := 2) rfl a2 aw
    have a1 := a1.seti 2 rfl aw
    refine ⟨W7, (al : Int), a9, ⟨a1.celli 0 rfl rfl, a1.celli 1 rfl rfl, a1.celli 2 rfl rfl, trivial⟩, ?_⟩
    have bh : Ext (fun b => b = w.heap.size ∨ b = a4.heap.size) ae bb := (ba).mono fun _ h _ => .inr h
    refine ⟨a0.cani 0 rfl rfl, thenW_in fun cb bt => ?_⟩
    have bl := bh.x_set (q := w.heap.size) (i := 0) rfl (.inl (.inl rfl)) bt
    have a0 := a0.seti 0 rfl bt
    refine ⟨a0.cani 1 rfl rfl, thenW_in fun c7 bu => ?_⟩
    have bo := bl.x_set (q := w.heap.size) (i := 1) rfl (.inl (.inl rfl)) bu
    have a0 := a0.seti 1 rfl bu
    refine ⟨a0.cani 2 rfl rfl, thenW_in fun bi bz => ?_⟩
    have b9 := bo.x_set (q := w.heap.size) (i := 2) rfl (.inl (.inl rfl)) bz
    have a0 := a0.seti 2 rfl bz
    refine ⟨W7, (al : Int), a9, ⟨a0.celli 0 rfl rfl, a0.celli 1 rfl rfl, a0.celli 2 rfl rfl, trivial⟩, ?_⟩
    have h := h bi b9
    exact h
  · have h := h.2 (Int.not_lt.1 (of_decide_eq_false au))
    refine ⟨W7, (al : Int), 0, ⟨a1.celli 0 rfl rfl, a1.celli 1 rfl rfl, a1.celli 2 rfl rfl, trivial⟩, ?_⟩
    refine ⟨a0.cani 0 rfl rfl, thenW_in fun cg c0 => ?_⟩
    have b8 := af.x_set (q := w.heap.size) (i := 0) rfl (.inr ap) c0
    have a0 := a0.seti 0 rfl c0
    refine ⟨a0.cani 1 rfl rfl, thenW_in fun cc bx => ?_⟩
    have bg := b8.x_set (q := w.heap.size) (i := 1) rfl (.inr ap) bx
    have a0 := a0.seti 1 rfl bx
    refine ⟨a0.cani 2 rfl rfl, thenW_in fun bd bv => ?_⟩
    have be := bg.x_set (q := w.heap.size) (i := 2) rfl (.inr ap) bv
    have a0 := a0.seti 2 rfl bv
    refine ⟨W7, (al : Int), 0, ⟨a0.celli 0 rfl rfl, a0.celli 1 rfl rfl, a0.celli 2 rfl rfl, trivial⟩, ?_⟩
    have h := h bd be
    exact h

theorem cachetteref07_Log_Head.go (l1 : Option Addr) (o2 : Option Addr) {R : Value → World → Prop} {w : World} (h : cachetteref07_Log_Head.N l1 o2 R w) : Calls Try.prog 32 #[.pointer l1, .pointer o2] w fun e w' => ∃ v, e = .returned v ∧ R v w' := cachetteref07_Log_Head.ok l1 o2 (cachetteref07_Log_Head.up l1 o2 h)
/-- (*cachetteref07.Log).late -/
def cachetteref07_Log_late.M (l1 : Option Addr) (aj : Int) (ah : Int) (R : Value → World → Prop) (w : World) : Prop :=
 thenW (w.alloc (.cells #[.int .i64 aj, .int .i64 ah] 45)) fun ab =>
 l1.elim False fun a5 =>
 ∃ (ag : Option Addr) (a4 : Nat) (ae : Nat), ab.cell? (a5.add 2) = some (.slice ag a4 ae) ∧
 thenW (ab.drew) fun a6 =>
 bif decide ((a4 : Int) > 0) then (
 l1.elim False fun a8 =>
 ∃ (ad : Option Addr) (ac : Nat) (ai : Nat), a6.cell? (a8.add 2) = some (.slice ad ac ai) ∧
 ad.elim False fun af =>
 0 ≤ ((IntKind.i64.wrap ((a4 : Int) - 1)) : Int) ∧ ((IntKind.i64.wrap ((a4 : Int) - 1)) : Int) < (ac : Int) ∧
 ∃ (a2 : Int) (a1 : Int), cellsAt a6 ((af.add (Int.toNat (IntKind.i64.wrap ((a4 : Int) - 1)) * 8)).add 3) [.int .i64 a2, .int .i64 a1] 0 ∧
 ∃ (a3 : Int) (a7 : Int), cellsAt a6 (blk w.heap.size) [.int .i64 a3, .int .i64 a7] 0 ∧
 Calls Try.prog 58 #[.agg #[.int .i64 a2, .int .i64 a1], .agg #[.int .i64 a3, .int .i64 a7]] a6 fun aa a9 => ∃ (a0 : Bool), aa = .returned (.bool a0) ∧
 R (.bool (!a0)) a9) else (
 R (.bool false) a6)

theorem cachetteref07_Log_late.eq (l1 : Option Addr) (sT2 : Int) (sW3 : Int) (R : Value → World → Prop) (w : World) : mfunc Try.prog [] 39 [.pointer l1, .agg #[.int .i64 sT2, .int .i64 sW3]] R w = cachetteref07_Log_late.M l1 sT2 sW3 R w := by kernel_rfl
theorem cachetteref07_Log_late.ok (l1 : Option Addr) (a1 : Int) (a0 : Int) {R : Value → World → Prop} {w : World} (h : cachetteref07_Log_late.M l1 a1 a0 R w) : Calls Try.prog 39 #[.pointer l1, .agg #[.int .i64 a1, .int .i64 a0]] w fun e w' => ∃ v, e = .returned v ∧ R v w' :=
  mfunc_ok follows (H := []) (args := [.pointer l1, .agg #[.int .i64 a1, .int .i64 a0]]) (by rw [cachetteref07_Log_late.eq]; exact h)

def cachetteref07_Log_late.N (l1 : Option Addr) (ad : Int) (aa : Int) (R : Value → World → Prop) (w : World) : Prop :=
 ∃ a5 : Addr, l1 = some a5 ∧
 ∃ (ac : Option Addr) (a0 : Nat) (ab : Nat), w.cell? (a5.add 2) = some (.slice ac a0 ab) ∧
 ((a0 : Int) > 0 →
 ∃ (a3 : Option Addr) (a6 : Nat) (a7 : Nat), w.cell? (a5.add 2) = some (.slice a3 a6 a7) ∧
 (-9223372036854775808 : Int) ≤ ((a0 : Int) - 1) ∧ ((a0 : Int) - 1) < 9223372036854775808 ∧
 ∃ a8 : Addr, a3 = some a8 ∧
 0 ≤ (((a0 : Int) - 1) : Int) ∧ (((a0 : Int) - 1) : Int) < (a6 : Int) ∧
 ∃ (a1 : Int) (a2 : Int), cellsAt w ((a8.add (Int.toNat ((a0 : Int) - 1) * 8)).add 3) [.int .i64 a1, .int .i64 a2] 0 ∧
 ∀ (a4 : World), Ext no w a4 →
 R (.bool (!(cachetteref04_Less.F a1 a2 ad aa))) a4) ∧
 ((a0 : Int) ≤ 0 →
 ∀ (a9 : World), Ext no w a9 →
 R (.bool false) a9)

theorem cachetteref07_Log_late.up (l1 : Option Addr) (a3 : Int) (a2 : Int) {R : Value → World → Prop} {w : World} (h : cachetteref07_Log_late.N l1 a3 a2 R w) : cachetteref07_Log_late.M l1 a3 a2 R w := by
  unfold cachetteref07_Log_late.M
  unfold cachetteref07_Log_late.N at h
  refine thenW_in fun ap e4 => ?_
  have a6 := Blk.of_new e4
  have aq := ((Ext.refl no w)).size
  have ae := (Ext.refl no w).x_alloc e4
  obtain ⟨a5, af, h⟩ := h
  refine elim_some af ?_
  obtain ⟨ao, ak, an, al, h⟩ := h
  refine ⟨ao, ak, an, (ae).cell al id, ?_⟩
  refine thenW_in fun ai e8 => ?_
  have a4 := ae.x_drew e8
  have a6 := a6.x_drew e8
  refine bif_of (fun c9 => ?_) (fun c9 => ?_)
  · have h := h.1 (of_decide_eq_true c9)
    refine elim_some af ?_
    obtain ⟨ac, aa, a9, ad, h⟩ := h
    refine ⟨ac, aa, a9, (a4).cell ad id, ?_⟩
    obtain ⟨ah, aj, h⟩ := h
    try rw [w64 ah aj]
    obtain ⟨ar, ab, h⟩ := h
    refine elim_some ab ?_
    obtain ⟨ag, am, h⟩ := h
    refine ⟨ag, am, ?_⟩
    obtain ⟨a0, a1, a8, h⟩ := h
    refine ⟨a0, a1, cellsAt_no (a4) a8, ?_⟩
    refine ⟨a3, a2, ⟨a6.celli 0 rfl rfl, a6.celli 1 rfl rfl, trivial⟩, ?_⟩
    refine (cachetteref04_Less.pure a0 a1 a3 a2).mono fun ee ww16 ⟨he, hxx⟩ => ⟨(cachetteref04_Less.F a0 a1 a3 a2), he, ?_⟩
    have a7 := a4.trans hxx
    have h := h ww16 a7
    exact h
  · have h := h.2 (Int.not_lt.1 (of_decide_eq_false c9))
    have h := h ai a4
    exact h

theorem cachetteref07_Log_late.go (l1 : Option Addr) (a1 : Int) (a0 : Int) {R : Value → World → Prop} {w : World} (h : cachetteref07_Log_late.N l1 a1 a0 R w) : Calls Try.prog 39 #[.pointer l1, .agg #[.int .i64 a1, .int .i64 a0]] w fun e w' => ∃ v, e = .returned v ∧ R v w' := cachetteref07_Log_late.ok l1 a1 a0 (cachetteref07_Log_late.up l1 a1 a0 h)
theorem cachetteref07_Log_late.run (l1 : Option Addr) (a1 : Int) (a0 : Int) {V : Value} {Q : World → Prop} {w : World} (h : cachetteref07_Log_late.N l1 a1 a0 (fun v w' => v = V ∧ Q w') w) : Calls Try.prog 39 #[.pointer l1, .agg #[.int .i64 a1, .int .i64 a0]] w (Ret V Q) := (cachetteref07_Log_late.go l1 a1 a0 h).mono fun e w' ⟨v, he, hv, hq⟩ => ⟨by rw [he, hv], hq⟩

/-- (*cachetteref07.Log).Check -/
def cachetteref07_Log_Check.M (l1 : Option Addr) (o2 : Option Addr) (b7 : Int) (bl : Int) (bw : Int) (c3 : Int) (cb : Int) (bk : Int) (bn : Option Addr) (bm : Nat) (br : Nat) (bx : Int) (R : Value → World → Prop) (w : World) : Prop :=
 thenW (w.alloc (.cells #[.int .i64 b7, .int .i64 bl, .int .u64 bw, .int .i64 c3, .int .i64 cb, .int .i64 bk, .slice bn bm br, .int .u64 bx] 47)) fun c4 =>
 ∃ (a2 : Int) (ah : Int) (av : Int) (b2 : Int) (b8 : Int) (ag : Int) (ad : Option Addr) (aq : Nat) (a9 : Nat) (bc : Int), cellsAt c4 (blk w.heap.size) [.int .i64 a2, .int .i64 ah, .int .u64 av, .int .i64 b2, .int .i64 b8, .int .i64 ag, .slice ad aq a9, .int .u64 bc] 0 ∧
 Calls Try.prog 38 #[.agg #[.int .i64 a2, .int .i64 ah, .int .u64 av, .int .i64 b2, .int .i64 b8, .int .i64 ag, .slice ad aq a9, .int .u64 bc]] c4 fun ck c6 => ∃ (b1 : Bool), ck = .returned (.bool b1) ∧
 bif !b1 then (
 R (.int .i64 1) c6) else (
 thenW (c6.drew) fun bp =>
 ∃ (al : Int), bp.cell? ((blk w.heap.size).add 0) = some (.int .i64 al) ∧
 l1.elim False fun cq =>
 ∃ (cm : Int), bp.cell? (cq.add 0) = some (.int .i64 cm) ∧
 bif al != cm then (
 R (.int .i64 20) bp) else (
 thenW (bp.drew) fun bv =>
 l1.elim False fun co =>
 ∃ (ap : Int), bv.cell? (co.add 1) = some (.int .u64 ap) ∧
 ∃ (a1 : Int) (af : Int) (aw : Int) (b9 : Int) (bh : Int) (ao : Int) (am : Option Addr) (a5 : Nat) (a6 : Nat) (bf : Int), cellsAt bv (blk w.heap.size) [.int .i64 a1, .int .i64 af, .int .u64 aw, .int .i64 b9, .int .i64 bh, .int .i64 ao, .slice am a5 a6, .int .u64 bf] 0 ∧
 Calls Try.prog 44 #[.pointer o2, .int .u64 ap, .agg #[.int .i64 a1, .int .i64 af, .int .u64 aw, .int .i64 b9, .int .i64 bh, .int .i64 ao, .slice am a5 a6, .int .u64 bf]] bv fun cj c2 => ∃ (au : Bool), cj = .returned (.bool au) ∧
 bif !au then (
 R (.int .i64 6) c2) else (
 thenW (c2.drew) fun bq =>
 ∃ (ay : Int), bq.cell? ((blk w.heap.size).add 1) = some (.int .i64 ay) ∧
 l1.elim False fun cn =>
 ∃ (ch : Option Addr) (c5 : Nat) (cg : Nat), bq.cell? (cn.add 2) = some (.slice ch c5 cg) ∧
 bif decide (ay < (c5 : Int)) then (
 thenW (bq.drew) fun b3 =>
 l1.elim False fun cs =>
 ∃ (c8 : Option Addr) (c0 : Nat) (ci : Nat), b3.cell? (cs.add 2) = some (.slice c8 c0 ci) ∧
 ∃ (a0 : Int), b3.cell? ((blk w.heap.size).add 1) = some (.int .i64 a0) ∧
 c8.elim False fun cp =>
 0 ≤ (a0 : Int) ∧ (a0 : Int) < (c0 : Int) ∧
 ∃ (a4 : Int) (a7 : Int) (ax : Int) (ba : Int) (b5 : Int) (ak : Int) (aa : Option Addr) (aj : Nat) (ae : Nat) (bd : Int), cellsAt b3 (cp.add (Int.toNat a0 * 8)) [.int .i64 a4, .int .i64 a7, .int .u64 ax, .int .i64 ba, .int .i64 b5, .int .i64 ak, .slice aa aj ae, .int .u64 bd] 0 ∧
 ∃ (a3 : Int) (ai : Int) (az : Int) (bg : Int) (be : Int) (ab : Int) (ac : Option Addr) (an : Nat) (a8 : Nat) (b6 : Int), cellsAt b3 (blk w.heap.size) [.int .i64 a3, .int .i64 ai, .int .u64 az, .int .i64 bg, .int .i64 be, .int .i64 ab, .slice ac an a8, .int .u64 b6] 0 ∧
 Calls Try.prog 17 #[.agg #[.int .i64 a4, .int .i64 a7, .int .u64 ax, .int .i64 ba, .int .i64 b5, .int .i64 ak, .slice aa aj ae, .int .u64 bd], .agg #[.int .i64 a3, .int .i64 ai, .int .u64 az, .int .i64 bg, .int .i64 be, .int .i64 ab, .slice ac an a8, .int .u64 b6]] b3 fun ce c9 => ∃ (b4 : Bool), ce = .returned (.bool b4) ∧
 bif b4 then (
 R (.int .i64 8) c9) else (
 R (.int .i64 9) c9)) else (
 thenW (bq.drew) fun bo =>
 ∃ (b0 : Int), bo.cell? ((blk w.heap.size).add 1) = some (.int .i64 b0) ∧
 l1.elim False fun cr =>
 ∃ (cc : Option Addr) (bz : Nat) (cl : Nat), bo.cell? (cr.add 2) = some (.slice cc bz cl) ∧
 bif decide (b0 > (bz : Int)) then (
 R (.int .i64 7) bo) else (
 thenW (bo.drew) fun ca =>
 ∃ (ar : Int), ca.cell? ((blk w.heap.size).add 2) = some (.int .u64 ar) ∧
 Calls Try.prog 32 #[.pointer l1, .pointer o2] ca fun cd bj => ∃ (bi : Int) (c1 : Int) (bt : Int), cd = .returned (.agg #[.int .i64 bi, .int .i64 c1, .int .u64 bt]) ∧
 bj.cell? ((blk w.heap.size).add 2) = some (.int .u64 ar) ∧
 bif ar != bt then (
 R (.int .i64 5) bj) else (
 ∃ (bs : Int) (bu : Int), cellsAt bj ((blk w.heap.size).add 3) [.int .i64 bs, .int .i64 bu] 0 ∧
 Calls Try.prog 39 #[.pointer l1, .agg #[.int .i64 bs, .int .i64 bu]] bj fun cf c7 => ∃ (bb : Bool), cf = .returned (.bool bb) ∧
 bif bb then (
 R (.int .i64 2) c7) else (
 R (.int .i64 0) c7)))))))

theorem cachetteref07_Log_Check.eq (l1 : Option Addr) (o2 : Option Addr) (eWriter3 : Int) (eIndex4 : Int) (ePrev5 : Int) (eAtT6 : Int) (eAtW7 : Int) (eEpoch8 : Int) (eBody9a : Option Addr) (eBody9n : Nat) (eBody9c : Nat) (eSig10 : Int) (R : Value → World → Prop) (w : World) : mfunc Try.prog [] 20 [.pointer l1, .pointer o2, .agg #[.int .i64 eWriter3, .int .i64 eIndex4, .int .u64 ePrev5, .int .i64 eAtT6, .int .i64 eAtW7, .int .i64 eEpoch8, .slice eBody9a eBody9n eBody9c, .int .u64 eSig10]] R w = cachetteref07_Log_Check.M l1 o2 eWriter3 eIndex4 ePrev5 eAtT6 eAtW7 eEpoch8 eBody9a eBody9n eBody9c eSig10 R w := by kernel_rfl
theorem cachetteref07_Log_Check.ok (l1 : Option Addr) (o2 : Option Addr) (a0 : Int) (a2 : Int) (a6 : Int) (a9 : Int) (a8 : Int) (a3 : Int) (a1 : Option Addr) (a5 : Nat) (a4 : Nat) (a7 : Int) {R : Value → World → Prop} {w : World} (h : cachetteref07_Log_Check.M l1 o2 a0 a2 a6 a9 a8 a3 a1 a5 a4 a7 R w) : Calls Try.prog 20 #[.pointer l1, .pointer o2, .agg #[.int .i64 a0, .int .i64 a2, .int .u64 a6, .int .i64 a9, .int .i64 a8, .int .i64 a3, .slice a1 a5 a4, .int .u64 a7]] w fun e w' => ∃ v, e = .returned v ∧ R v w' :=
  mfunc_ok follows (H := []) (args := [.pointer l1, .pointer o2, .agg #[.int .i64 a0, .int .i64 a2, .int .u64 a6, .int .i64 a9, .int .i64 a8, .int .i64 a3, .slice a1 a5 a4, .int .u64 a7]]) (by rw [cachetteref07_Log_Check.eq]; exact h)

def cachetteref07_Log_Check.N (l1 : Option Addr) (o2 : Option Addr) (a1 : Int) (a0 : Int) (a2 : Int) (af : Int) (ai : Int) (a3 : Int) (a5 : Option Addr) (a4 : Nat) (a6 : Nat) (a9 : Int) (R : Value → World → Prop) (w : World) : Prop :=
 ((cachetteref06_Right.F a1 a0 a2 af ai a3 a5 a4 a6 a9) = false →
 ∀ (b1 : World), Ext no w b1 →
 R (.int .i64 1) b1) ∧
 ((cachetteref06_Right.F a1 a0 a2 af ai a3 a5 a4 a6 a9) = true →
 ∃ ay : Addr, l1 = some ay ∧
 ∃ (be : Int), w.cell? (ay.add 0) = some (.int .i64 be) ∧
 (a1 ≠ be →
 ∀ (az : World), Ext no w az →
 R (.int .i64 20) az) ∧
 (a1 = be →
 ∃ (ab : Int), w.cell? (ay.add 1) = some (.int .u64 ab) ∧
 ∀ (ar : World) (b8 : Nat), Ext no w ar → Priv w ar [b8] →
 Calls Try.prog 44 #[.pointer o2, .int .u64 ab, .agg #[.int .i64 a1, .int .i64 a0, .int .u64 a2, .int .i64 af, .int .i64 ai, .int .i64 a3, .slice a5 a4 a6, .int .u64 a9]] ar fun ba aa => ∃ (a8 : Bool), ba = .returned (.bool a8) ∧
 Keep [b8] ar aa ∧
 (a8 = false →
 R (.int .i64 6) aa) ∧
 (a8 = true →
 ∃ (bi : Option Addr) (aw : Nat) (bc : Nat), aa.cell? (ay.add 2) = some (.slice bi aw bc) ∧
 (a0 < (aw : Int) →
 ∃ (b7 : Option Addr) (b4 : Nat) (bg : Nat), aa.cell? (ay.add 2) = some (.slice b7 b4 bg) ∧
 ∃ bj : Addr, b7 = some bj ∧
 0 ≤ (a0 : Int) ∧ (a0 : Int) < (b4 : Int) ∧
 ∃ (a7 : Int) (ah : Int) (al : Int) (aq : Int) (an : Int) (ae : Int) (ad : Option Addr) (ac : Nat) (ag : Nat) (ao : Int), cellsAt aa (bj.add (Int.toNat a0 * 8)) [.int .i64 a7, .int .i64 ah, .int .u64 al, .int .i64 aq, .int .i64 an, .int .i64 ae, .slice ad ac ag, .int .u64 ao] 0 ∧
 ∀ (b3 : World), Ext no aa b3 →
 Calls Try.prog 17 #[.agg #[.int .i64 a7, .int .i64 ah, .int .u64 al, .int .i64 aq, .int .i64 an, .int .i64 ae, .slice ad ac ag, .int .u64 ao], .agg #[.int .i64 a1, .int .i64 a0, .int .u64 a2, .int .i64 af, .int .i64 ai, .int .i64 a3, .slice a5 a4 a6, .int .u64 a9]] b3 fun bd b5 => ∃ (aj : Bool), bd = .returned (.bool aj) ∧
 (aj = true →
 R (.int .i64 8) b5) ∧
 (aj = false →
 R (.int .i64 9) b5)) ∧
 ((aw : Int) ≤ a0 →
 ∃ (b9 : Option Addr) (au : Nat) (bb : Nat), aa.cell? (ay.add 2) = some (.slice b9 au bb) ∧
 (a0 > (au : Int) →
 ∀ (b0 : World), Ext no aa b0 →
 R (.int .i64 7) b0) ∧
 (a0 ≤ (au : Int) →
 ∀ (ax : World), Ext no aa ax →
 Calls Try.prog 32 #[.pointer l1, .pointer o2] ax fun bf av => ∃ (ap : Int) (b2 : Int) (am : Int), bf = .returned (.agg #[.int .i64 ap, .int .i64 b2, .int .u64 am]) ∧
 Keep [b8] ax av ∧
 (a2 ≠ am →
 R (.int .i64 5) av) ∧
 (a2 = am →
 Calls Try.prog 39 #[.pointer l1, .agg #[.int .i64 af, .int .i64 ai]] av fun bh b6 => ∃ (ak : Bool), bh = .returned (.bool ak) ∧
 (ak = true →
 R (.int .i64 2) b6) ∧
 (ak = false →
 R (.int .i64 0) b6)))))))

theorem cachetteref07_Log_Check.up (l1 : Option Addr) (o2 : Option Addr) (a1 : Int) (a0 : Int) (a7 : Int) (a9 : Int) (aa : Int) (a3 : Int) (a5 : Option Addr) (a4 : Nat) (a6 : Nat) (a8 : Int) {R : Value → World → Prop} {w : World} (h : cachetteref07_Log_Check.N l1 o2 a1 a0 a7 a9 aa a3 a5 a4 a6 a8 R w) : cachetteref07_Log_Check.M l1 o2 a1 a0 a7 a9 aa a3 a5 a4 a6 a8 R w := by
  unfold cachetteref07_Log_Check.M
  unfold cachetteref07_Log_Check.N at h
  refine thenW_in fun ca bz => ?_
  have a2 := Blk.of_new bz
  have ce := ((Ext.refl no w)).size
  have b2 := (Ext.refl no w).x_alloc bz
  refine ⟨a1, a0, a7, a9, aa, a3, a5, a4, a6, a8, ⟨a2.celli 0 rfl rfl, a2.celli 1 rfl rfl, a2.celli 2 rfl rfl, a2.celli 3 rfl rfl, a2.celli 4 rfl rfl, a2.celli 5 rfl rfl, a2.celli 6 rfl rfl, a2.celli 7 rfl rfl, trivial⟩, ?_⟩
  refine (cachetteref06_Right.pure a1 a0 a7 a9 aa a3 a5 a4 a6 a8).mono fun ee ww12 ⟨he, hxx⟩ => ⟨(cachetteref06_Right.F a1 a0 a7 a9 aa a3 a5 a4 a6 a8), he, ?_⟩
  have ax := b2.trans hxx
  have a2 := a2.ext hxx id
  refine bif_of (fun bs => ?_) (fun bs => ?_)
  · have h := h.1 (not_t bs)
    have h := h ww12 ax
    exact h
  · have h := h.2 (not_f bs)
    refine thenW_in fun b9 c3 => ?_
    have an := ax.x_drew c3
    have a2 := a2.x_drew c3
    refine ⟨a1, a2.celli 0 rfl rfl, ?_⟩
    obtain ⟨ci, ah, h⟩ := h
    refine elim_some ah ?_
    obtain ⟨cg, be, h⟩ := h
    refine ⟨cg, (an).cell be id, ?_⟩
    refine bif_of (fun bg => ?_) (fun bg => ?_)
    · have h := h.1 (bne_t bg)
      have h := h b9 an
      exact h
    · have h := h.2 (bne_f bg)
      refine thenW_in fun b8 c0 => ?_
      have az := an.x_drew c0
      have a2 := a2.x_drew c0
      refine elim_some ah ?_
      obtain ⟨af, b6, h⟩ := h
      refine ⟨af, (az).cell b6 id, ?_⟩
      refine ⟨a1, a0, a7, a9, aa, a3, a5, a4, a6, a8, ⟨a2.celli 0 rfl rfl, a2.celli 1 rfl rfl, a2.celli 2 rfl rfl, a2.celli 3 rfl rfl, a2.celli 4 rfl rfl, a2.celli 5 rfl rfl, a2.celli 6 rfl rfl, a2.celli 7 rfl rfl, trivial⟩, ?_⟩
      have h := h b8 (w.heap.size) az (Priv.cons ce a2.lt Priv.nil)
      refine h.mono fun cc bi h => ?_
      obtain ⟨ak, he, hk, h⟩ := h
      refine ⟨ak, he, ?_⟩
      have a2 := hk.blk a2 (by simp)
      refine bif_of (fun ba => ?_) (fun ba => ?_)
      · have h := h.1 (not_t ba)
        exact h
      · have h := h.2 (not_f ba)
        refine thenW_in fun ch c2 => ?_
        have aw := (Ext.refl no bi).x_drew c2
        have a2 := a2.x_drew c2
        refine ⟨a0, a2.celli 1 rfl rfl, ?_⟩
        refine elim_some ah ?_
        obtain ⟨bh, b7, b4, bq, h⟩ := h
        refine ⟨bh, b7, b4, (aw).cell bq id, ?_⟩
        refine bif_of (fun bk => ?_) (fun bk => ?_)
        · have h := h.1 (of_decide_eq_true bk)
          refine thenW_in fun bl c1 => ?_
          have ao := aw.x_drew c1
          have a2 := a2.x_drew c1
          refine elim_some ah ?_
          obtain ⟨bv, bm, bf, bc, h⟩ := h
          refine ⟨bv, bm, bf, (ao).cell bc id, ?_⟩
          refine ⟨a0, a2.celli 1 rfl rfl, ?_⟩
          obtain ⟨cj, bo, h⟩ := h
          refine elim_some bo ?_
          obtain ⟨cb, c8, h⟩ := h
          refine ⟨cb, c8, ?_⟩
          obtain ⟨ab, aj, al, av, aq, ad, ac, ag, ai, au, bu, h⟩ := h
          refine ⟨ab, aj, al, av, aq, ad, ac, ag, ai, au, cellsAt_no (ao) bu, ?_⟩
          refine ⟨a1, a0, a7, a9, aa, a3, a5, a4, a6, a8, ⟨a2.celli 0 rfl rfl, a2.celli 1 rfl rfl, a2.celli 2 rfl rfl, a2.celli 3 rfl rfl, a2.celli 4 rfl rfl, a2.celli 5 rfl rfl, a2.celli 6 rfl rfl, a2.celli 7 rfl rfl, trivial⟩, ?_⟩
          have h := h bl ao
          refine h.mono fun cf c5 h => ?_
          obtain ⟨ar, he, h⟩ := h
          refine ⟨ar, he, ?_⟩
          refine bif_of (fun bw => ?_) (fun bw => ?_)
          · have h := h.1 bw
            exact h
          · have h := h.2 bw
            exact h
        · have h := h.2 (Int.not_lt.1 (of_decide_eq_false bk))
          refine thenW_in fun b3 c4 => ?_
          have ap := aw.x_drew c4
          have a2 := a2.x_drew c4
          refine ⟨a0, a2.celli 1 rfl rfl, ?_⟩
          refine elim_some ah ?_
          obtain ⟨b1, bj, bp, bb, h⟩ := h
          refine ⟨b1, bj, bp, (ap).cell bb id, ?_⟩
          refine bif_of (fun bt => ?_) (fun bt => ?_)
          · have h := h.1 (of_decide_eq_true bt)
            have h := h b3 ap
            exact h
          · have h := h.2 (Int.not_lt.1 (of_decide_eq_false bt))
            refine thenW_in fun bd bx => ?_
            have br := ap.x_drew bx
            have a2 := a2.x_drew bx
            refine ⟨a7, a2.celli 2 rfl rfl, ?_⟩
            have h := h bd br
            refine h.mono fun cd c9 h => ?_
            obtain ⟨ae, ay, b0, he, hk, h⟩ := h
            refine ⟨ae, ay, b0, he, ?_⟩
            have a2 := hk.blk a2 (by simp)
            refine ⟨a2.celli 2 rfl rfl, ?_⟩
            refine bif_of (fun bn => ?_) (fun bn => ?_)
            · have h := h.1 (bne_t bn)
              exact h
            · have h := h.2 (bne_f bn)
              refine ⟨a9, aa, ⟨a2.celli 3 rfl rfl, a2.celli 4 rfl rfl, trivial⟩, ?_⟩
              refine h.mono fun c7 c6 h => ?_
              obtain ⟨am, he, h⟩ := h
              refine ⟨am, he, ?_⟩
              refine bif_of (fun b5 => ?_) (fun b5 => ?_)
              · have h := h.1 b5
                exact h
              · have h := h.2 b5
                exact h

theorem cachetteref07_Log_Check.go (l1 : Option Addr) (o2 : Option Addr) (a0 : Int) (a2 : Int) (a6 : Int) (a9 : Int) (a8 : Int) (a3 : Int) (a1 : Option Addr) (a5 : Nat) (a4 : Nat) (a7 : Int) {R : Value → World → Prop} {w : World} (h : cachetteref07_Log_Check.N l1 o2 a0 a2 a6 a9 a8 a3 a1 a5 a4 a7 R w) : Calls Try.prog 20 #[.pointer l1, .pointer o2, .agg #[.int .i64 a0, .int .i64 a2, .int .u64 a6, .int .i64 a9, .int .i64 a8, .int .i64 a3, .slice a1 a5 a4, .int .u64 a7]] w fun e w' => ∃ v, e = .returned v ∧ R v w' := cachetteref07_Log_Check.ok l1 o2 a0 a2 a6 a9 a8 a3 a1 a5 a4 a7 (cachetteref07_Log_Check.up l1 o2 a0 a2 a6 a9 a8 a3 a1 a5 a4 a7 h)
/-- (*cachetteref07.Log).Accept -/
def cachetteref07_Log_Accept.M (l1 : Option Addr) (o2 : Option Addr) (aj : Int) (am : Int) (av : Int) (b2 : Int) (b4 : Int) (an : Int) (ap : Option Addr) (ao : Nat) (ar : Nat) (az : Int) (R : Value → World → Prop) (w : World) : Prop :=
 thenW (w.alloc (.cells #[.int .i64 aj, .int .i64 am, .int .u64 av, .int .i64 b2, .int .i64 b4, .int .i64 an, .slice ap ao ar, .int .u64 az] 47)) fun b3 =>
 ∃ (a2 : Int) (a3 : Int) (ad : Int) (af : Int) (al : Int) (aa : Int) (ac : Option Addr) (a6 : Nat) (a5 : Nat) (ai : Int), cellsAt b3 (blk w.heap.size) [.int .i64 a2, .int .i64 a3, .int .u64 ad, .int .i64 af, .int .i64 al, .int .i64 aa, .slice ac a6 a5, .int .u64 ai] 0 ∧
 Calls Try.prog 20 #[.pointer l1, .pointer o2, .agg #[.int .i64 a2, .int .i64 a3, .int .u64 ad, .int .i64 af, .int .i64 al, .int .i64 aa, .slice ac a6 a5, .int .u64 ai]] b3 fun b9 b6 => ∃ (a0 : Int), b9 = .returned (.int .i64 a0) ∧
 bif a0 == 0 then (
 thenW (b6.drew) fun aq =>
 l1.elim False fun bb =>
 ∃ (ay : Option Addr) (au : Nat) (aw : Nat), aq.cell? (bb.add 2) = some (.slice ay au aw) ∧
 ∃ (a1 : Int) (ab : Int) (ae : Int) (ak : Int) (ag : Int) (a9 : Int) (a8 : Option Addr) (a4 : Nat) (a7 : Nat) (ah : Int), cellsAt aq (blk w.heap.size) [.int .i64 a1, .int .i64 ab, .int .u64 ae, .int .i64 ak, .int .i64 ag, .int .i64 a9, .slice a8 a4 a7, .int .u64 ah] 0 ∧
 thenW (aq.alloc (.cells #[.int .i64 a1, .int .i64 ab, .int .u64 ae, .int .i64 ak, .int .i64 ag, .int .i64 a9, .slice a8 a4 a7, .int .u64 ah] 47)) fun b1 =>
 b1.cell? (bb.add 2) = some (.slice ay au aw) ∧
 ∃ (b5 : Option Addr) (b7 : Nat) (b0 : Nat) (ax : World), (Builtin.append_ #[40, 40] 40 #[.slice ay au aw, .slice (some (blk aq.heap.size)) 1 1]).run Try.prog b1 = .ok (.slice b5 b7 b0) ax ∧
 l1.elim False fun ba =>
 canStore ax ((ba.add 2).add 0) ∧
 thenW (ax.setCell ((ba.add 2).add 0) (.slice b5 b7 b0)) fun b8 =>
 R (.int .i64 a0) b8) else (
 R (.int .i64 a0) b6)

theorem cachetteref07_Log_Accept.eq (l1 : Option Addr) (o2 : Option Addr) (eWriter3 : Int) (eIndex4 : Int) (ePrev5 : Int) (eAtT6 : Int) (eAtW7 : Int) (eEpoch8 : Int) (eBody9a : Option Addr) (eBody9n : Nat) (eBody9c : Nat) (eSig10 : Int) (R : Value → World → Prop) (w : World) : mfunc Try.prog [] 22 [.pointer l1, .pointer o2, .agg #[.int .i64 eWriter3, .int .i64 eIndex4, .int .u64 ePrev5, .int .i64 eAtT6, .int .i64 eAtW7, .int .i64 eEpoch8, .slice eBody9a eBody9n eBody9c, .int .u64 eSig10]] R w = cachetteref07_Log_Accept.M l1 o2 eWriter3 eIndex4 ePrev5 eAtT6 eAtW7 eEpoch8 eBody9a eBody9n eBody9c eSig10 R w := by kernel_rfl
theorem cachetteref07_Log_Accept.ok (l1 : Option Addr) (o2 : Option Addr) (a0 : Int) (a2 : Int) (a6 : Int) (a9 : Int) (a8 : Int) (a3 : Int) (a1 : Option Addr) (a5 : Nat) (a4 : Nat) (a7 : Int) {R : Value → World → Prop} {w : World} (h : cachetteref07_Log_Accept.M l1 o2 a0 a2 a6 a9 a8 a3 a1 a5 a4 a7 R w) : Calls Try.prog 22 #[.pointer l1, .pointer o2, .agg #[.int .i64 a0, .int .i64 a2, .int .u64 a6, .int .i64 a9, .int .i64 a8, .int .i64 a3, .slice a1 a5 a4, .int .u64 a7]] w fun e w' => ∃ v, e = .returned v ∧ R v w' :=
  mfunc_ok follows (H := []) (args := [.pointer l1, .pointer o2, .agg #[.int .i64 a0, .int .i64 a2, .int .u64 a6, .int .i64 a9, .int .i64 a8, .int .i64 a3, .slice a1 a5 a4, .int .u64 a7]]) (by rw [cachetteref07_Log_Accept.eq]; exact h)

def cachetteref07_Log_Accept.N (l1 : Option Addr) (o2 : Option Addr) (a1 : Int) (a2 : Int) (a8 : Int) (ac : Int) (ad : Int) (a3 : Int) (a5 : Option Addr) (a4 : Nat) (a6 : Nat) (aa : Int) (R : Value → World → Prop) (w : World) : Prop :=
 ∀ (ab : World) (ap : Nat), Ext no w ab → Priv w ab [ap] →
 Calls Try.prog 20 #[.pointer l1, .pointer o2, .agg #[.int .i64 a1, .int .i64 a2, .int .u64 a8, .int .i64 ac, .int .i64 ad, .int .i64 a3, .slice a5 a4 a6, .int .u64 aa]] ab fun ao a7 => ∃ (a0 : Int), ao = .returned (.int .i64 a0) ∧
 Keep [ap] ab a7 ∧
 (a0 = 0 →
 ∃ al : Addr, l1 = some al ∧
 ∃ (af : Option Addr) (ah : Nat) (ag : Nat), a7.cell? (al.add 2) = some (.slice af ah ag) ∧
 ∀ (a9 : World) (am : Nat), Ext no a7 a9 → Blk a9 am 47 [.int .i64 a1, .int .i64 a2, .int .u64 a8, .int .i64 ac, .int .i64 ad, .int .i64 a3, .slice a5 a4 a6, .int .u64 aa] → a7.heap.size ≤ am → am < a9.heap.size →
 a9.cell? (al.add 2) = some (.slice af ah ag) ∧
 ∃ (ak : Option Addr) (ai : Nat) (aj : Nat) (ae : World), (Builtin.append_ #[40, 40] 40 #[.slice af ah ag, .slice (some (blk am)) 1 1]).run Try.prog a9 = .ok (.slice ak ai aj) ae ∧
 canStore ae ((al.add 2).add 0) ∧
 thenW (ae.setCell ((al.add 2).add 0) (.slice ak ai aj)) fun an =>
 R (.int .i64 a0) an) ∧
 (a0 ≠ 0 →
 R (.int .i64 a0) a7)

theorem cachetteref07_Log_Accept.up (l1 : Option Addr) (o2 : Option Addr) (a0 : Int) (a1 : Int) (a7 : Int) (a9 : Int) (aa : Int) (a2 : Int) (a4 : Option Addr) (a3 : Nat) (a5 : Nat) (a8 : Int) {R : Value → World → Prop} {w : World} (h : cachetteref07_Log_Accept.N l1 o2 a0 a1 a7 a9 aa a2 a4 a3 a5 a8 R w) : cachetteref07_Log_Accept.M l1 o2 a0 a1 a7 a9 aa a2 a4 a3 a5 a8 R w := by
  unfold cachetteref07_Log_Accept.M
  unfold cachetteref07_Log_Accept.N at h
  refine thenW_in fun al ax => ?_
  have a6 := Blk.of_new ax
  have az := ((Ext.refl no w)).size
  have ah := (Ext.refl no w).x_alloc ax
  refine ⟨a0, a1, a7, a9, aa, a2, a4, a3, a5, a8, ⟨a6.celli 0 rfl rfl, a6.celli 1 rfl rfl, a6.celli 2 rfl rfl, a6.celli 3 rfl rfl, a6.celli 4 rfl rfl, a6.celli 5 rfl rfl, a6.celli 6 rfl rfl, a6.celli 7 rfl rfl, trivial⟩, ?_⟩
  have h := h al (w.heap.size) ah (Priv.cons az a6.lt Priv.nil)
  refine h.mono fun b1 ae h => ?_
  obtain ⟨ab, he, hk, h⟩ := h
  refine ⟨ab, he, ?_⟩
  have a6 := hk.blk a6 (by simp)
  refine bif_of (fun am => ?_) (fun am => ?_)
  · have h := h.1 (beq_t am)
    refine thenW_in fun an aw => ?_
    have ac := (Ext.refl no ae).x_drew aw
    have a6 := a6.x_drew aw
    obtain ⟨b2, ad, h⟩ := h
    refine elim_some ad ?_
    obtain ⟨ap, au, ar, af, h⟩ := h
    refine ⟨ap, au, ar, (ac).cell af id, ?_⟩
    refine ⟨a0, a1, a7, a9, aa, a2, a4, a3, a5, a8, ⟨a6.celli 0 rfl rfl, a6.celli 1 rfl rfl, a6.celli 2 rfl rfl, a6.celli 3 rfl rfl, a6.celli 4 rfl rfl, a6.celli 5 rfl rfl, a6.celli 6 rfl rfl, a6.celli 7 rfl rfl, trivial⟩, ?_⟩
    refine thenW_in fun ao av => ?_
    have h := h ao an.heap.size (ac.x_alloc av) (Blk.of_new av) (ac).size (size_lt_alloc av)
    obtain ⟨aq, h⟩ := h
    refine ⟨aq, ?_⟩
    obtain ⟨ak, ai, aj, ag, hr, h⟩ := h
    refine ⟨ak, ai, aj, ag, hr, ?_⟩
    refine elim_some ad ?_
    obtain ⟨hcs, h⟩ := h
    refine ⟨hcs, thenW_in fun b0 ay => ?_⟩
    replace h := thenW_out h ay
    exact h
  · have h := h.2 (beq_f am)
    exact h

theorem cachetteref07_Log_Accept.go (l1 : Option Addr) (o2 : Option Addr) (a0 : Int) (a2 : Int) (a6 : Int) (a9 : Int) (a8 : Int) (a3 : Int) (a1 : Option Addr) (a5 : Nat) (a4 : Nat) (a7 : Int) {R : Value → World → Prop} {w : World} (h : cachetteref07_Log_Accept.N l1 o2 a0 a2 a6 a9 a8 a3 a1 a5 a4 a7 R w) : Calls Try.prog 22 #[.pointer l1, .pointer o2, .agg #[.int .i64 a0, .int .i64 a2, .int .u64 a6, .int .i64 a9, .int .i64 a8, .int .i64 a3, .slice a1 a5 a4, .int .u64 a7]] w fun e w' => ∃ v, e = .returned v ∧ R v w' := cachetteref07_Log_Accept.ok l1 o2 a0 a2 a6 a9 a8 a3 a1 a5 a4 a7 (cachetteref07_Log_Accept.up l1 o2 a0 a2 a6 a9 a8 a3 a1 a5 a4 a7 h)
/-- (*cachetteref07.Log).Issue -/
def cachetteref07_Log_Issue.M (l1 : Option Addr) (o2 : Option Addr) (ew : Int) (lo : Int) (lj : Int) (gi : Int) (gb : Option Addr) (fy : Nat) (fw : Nat) (R : Value → World → Prop) (w : World) : Prop :=
 thenW (w.alloc (.cells #[.int .i64 lo, .int .i64 lj] 45)) fun a0 =>
 thenW (a0.alloc (.cells #[.int .i64 0, .int .i64 0, .int .u64 0, .int .i64 0, .int .i64 0, .int .i64 0, .slice none 0 0, .int .u64 0] 47)) fun li =>
 l1.elim False fun lq =>
 ∃ (ln : Option Addr) (ky : Nat) (ll : Nat), li.cell? (lq.add 2) = some (.slice ln ky ll) ∧
 bif decide ((ky : Int) ≥ 200) then (
 canStore li ((blk a0.heap.size).add 0) ∧
 thenW (li.setCell ((blk a0.heap.size).add 0) (.int .i64 0)) fun ki =>
 canStore ki ((blk a0.heap.size).add 1) ∧
 thenW (ki.setCell ((blk a0.heap.size).add 1) (.int .i64 0)) fun kf =>
 canStore kf ((blk a0.heap.size).add 2) ∧
 thenW (kf.setCell ((blk a0.heap.size).add 2) (.int .u64 0)) fun l3 =>
 canStore l3 ((blk a0.heap.size).add 3) ∧
 thenW (l3.setCell ((blk a0.heap.size).add 3) (.int .i64 0)) fun k7 =>
 canStore k7 ((blk a0.heap.size).add 4) ∧
 thenW (k7.setCell ((blk a0.heap.size).add 4) (.int .i64 0)) fun kr =>
 canStore kr ((blk a0.heap.size).add 5) ∧
 thenW (kr.setCell ((blk a0.heap.size).add 5) (.int .i64 0)) fun kv =>
 canStore kv ((blk a0.heap.size).add 6) ∧
 thenW (kv.setCell ((blk a0.heap.size).add 6) (.slice none 0 0)) fun l7 =>
 canStore l7 ((blk a0.heap.size).add 7) ∧
 thenW (l7.setCell ((blk a0.heap.size).add 7) (.int .u64 0)) fun kw =>
 ∃ (ap : Int) (bf : Int) (dd : Int) (en : Int) (e4 : Int) (bx : Int) (bh : Option Addr) (be : Nat) (bm : Nat) (eg : Int), cellsAt kw (blk a0.heap.size) [.int .i64 ap, .int .i64 bf, .int .u64 dd, .int .i64 en, .int .i64 e4, .int .i64 bx, .slice bh be bm, .int .u64 eg] 0 ∧
 R (.tuple #[.agg #[.int .i64 ap, .int .i64 bf, .int .u64 dd, .int .i64 en, .int .i64 e4, .int .i64 bx, .slice bh be bm, .int .u64 eg], .int .i64 3]) kw) else (
 thenW (li.drew) fun a3 =>
 l1.elim False fun kc =>
 ∃ (k5 : Int), a3.cell? (kc.add 0) = some (.int .i64 k5) ∧
 l1.elim False fun lb =>
 ∃ (gg : Option Addr) (er : Nat) (fu : Nat), a3.cell? (lb.add 2) = some (.slice gg er fu) ∧
 ∃ (eq : Int) (ep : Int), cellsAt a3 (blk w.heap.size) [.int .i64 eq, .int .i64 ep] 0 ∧
 (Calls Try.prog 32 #[.pointer l1, .pointer o2] a3 fun lm a4 => ∃ (g9 : Int) (km : Int) (jx : Int), lm = .returned (.agg #[.int .i64 g9, .int .i64 km, .int .u64 jx]) ∧
 cellsAt a4 (blk w.heap.size) [.int .i64 eq, .int .i64 ep] 0 ∧
 a4.cell? (lb.add 2) = some (.slice gg er fu) ∧
 a4.cell? (kc.add 0) = some (.int .i64 k5) ∧
 thenW (a4.alloc (.cells #[.int .i64 0, .int .i64 0, .int .u64 0, .int .i64 0, .int .i64 0, .int .i64 0, .slice none 0 0, .int .u64 0] 47)) fun gh =>
 cellsAt gh (blk w.heap.size) [.int .i64 eq, .int .i64 ep] 0 ∧
 gh.cell? (lb.add 2) = some (.slice gg er fu) ∧
 gh.cell? (kc.add 0) = some (.int .i64 k5) ∧
 canStore gh ((blk a4.heap.size).add 0) ∧
 thenW (gh.setCell ((blk a4.heap.size).add 0) (.int .i64 k5)) fun ke =>
 canStore ke ((blk a4.heap.size).add 1) ∧
 thenW (ke.setCell ((blk a4.heap.size).add 1) (.int .i64 (er : Int))) fun kg =>
 canStore kg ((blk a4.heap.size).add 2) ∧
 thenW (kg.setCell ((blk a4.heap.size).add 2) (.int .u64 jx)) fun ka =>
 canStore ka ((blk a4.heap.size).add 3) ∧
 thenW (ka.setCell ((blk a4.heap.size).add 3) (.int .i64 eq)) fun l8 =>
 canStore l8 ((blk a4.heap.size).add 4) ∧
 thenW (l8.setCell ((blk a4.heap.size).add 4) (.int .i64 ep)) fun kx =>
 canStore kx ((blk a4.heap.size).add 5) ∧
 thenW (kx.setCell ((blk a4.heap.size).add 5) (.int .i64 gi)) fun kb =>
 canStore kb ((blk a4.heap.size).add 6) ∧
 thenW (kb.setCell ((blk a4.heap.size).add 6) (.slice gb fy fw)) fun ko =>
 canStore ko ((blk a4.heap.size).add 7) ∧
 thenW (ko.setCell ((blk a4.heap.size).add 7) (.int .u64 0)) fun k6 =>
 ∃ (cc : Int) (ed : Int) (es : Int) (gf : Int) (gl : Int) (eb : Int) (ee : Option Addr) (du : Nat) (ea : Nat) (fr : Int), cellsAt k6 (blk a4.heap.size) [.int .i64 cc, .int .i64 ed, .int .u64 es, .int .i64 gf, .int .i64 gl, .int .i64 eb, .slice ee du ea, .int .u64 fr] 0 ∧
 Calls Try.prog 38 #[.agg #[.int .i64 cc, .int .i64 ed, .int .u64 es, .int .i64 gf, .int .i64 gl, .int .i64 eb, .slice ee du ea, .int .u64 fr]] k6 fun lk gn => ∃ (ez : Bool), lk = .returned (.bool ez) ∧
 bif !ez then (
 canStore gn ((blk a0.heap.size).add 0) ∧
 thenW (gn.setCell ((blk a0.heap.size).add 0) (.int .i64 0)) fun kt =>
 canStore kt ((blk a0.heap.size).add 1) ∧
 thenW (kt.setCell ((blk a0.heap.size).add 1) (.int .i64 0)) fun lf =>
 canStore lf ((blk a0.heap.size).add 2) ∧
 thenW (lf.setCell ((blk a0.heap.size).add 2) (.int .u64 0)) fun lg =>
 canStore lg ((blk a0.heap.size).add 3) ∧
 thenW (lg.setCell ((blk a0.heap.size).add 3) (.int .i64 0)) fun l0 =>
 canStore l0 ((blk a0.heap.size).add 4) ∧
 thenW (l0.setCell ((blk a0.heap.size).add 4) (.int .i64 0)) fun l9 =>
 canStore l9 ((blk a0.heap.size).add 5) ∧
 thenW (l9.setCell ((blk a0.heap.size).add 5) (.int .i64 0)) fun l4 =>
 canStore l4 ((blk a0.heap.size).add 6) ∧
 thenW (l4.setCell ((blk a0.heap.size).add 6) (.slice none 0 0)) fun kh =>
 canStore kh ((blk a0.heap.size).add 7) ∧
 thenW (kh.setCell ((blk a0.heap.size).add 7) (.int .u64 0)) fun lh =>
 ∃ (b1 : Int) (bp : Int) (df : Int) (ef : Int) (e7 : Int) (bj : Int) (bz : Option Addr) (bd : Nat) (bw : Nat) (ds : Int), cellsAt lh (blk a0.heap.size) [.int .i64 b1, .int .i64 bp, .int .u64 df, .int .i64 ef, .int .i64 e7, .int .i64 bj, .slice bz bd bw, .int .u64 ds] 0 ∧
 R (.tuple #[.agg #[.int .i64 b1, .int .i64 bp, .int .u64 df, .int .i64 ef, .int .i64 e7, .int .i64 bj, .slice bz bd bw, .int .u64 ds], .int .i64 1]) lh) else (
 ∃ (le : Int) (la : Int), cellsAt gn (blk w.heap.size) [.int .i64 le, .int .i64 la] 0 ∧
 Calls Try.prog 39 #[.pointer l1, .agg #[.int .i64 le, .int .i64 la]] gn fun lp gm => ∃ (ge : Bool), lp = .returned (.bool ge) ∧
 bif ge then (
 canStore gm ((blk a0.heap.size).add 0) ∧
 thenW (gm.setCell ((blk a0.heap.size).add 0) (.int .i64 0)) fun kd =>
 canStore kd ((blk a0.heap.size).add 1) ∧
 thenW (kd.setCell ((blk a0.heap.size).add 1) (.int .i64 0)) fun kj =>
 canStore kj ((blk a0.heap.size).add 2) ∧
 thenW (kj.setCell ((blk a0.heap.size).add 2) (.int .u64 0)) fun lc =>
 canStore lc ((blk a0.heap.size).add 3) ∧
 thenW (lc.setCell ((blk a0.heap.size).add 3) (.int .i64 0)) fun kp =>
 canStore kp ((blk a0.heap.size).add 4) ∧
 thenW (kp.setCell ((blk a0.heap.size).add 4) (.int .i64 0)) fun l6 =>
 canStore l6 ((blk a0.heap.size).add 5) ∧
 thenW (l6.setCell ((blk a0.heap.size).add 5) (.int .i64 0)) fun kl =>
 canStore kl ((blk a0.heap.size).add 6) ∧
 thenW (kl.setCell ((blk a0.heap.size).add 6) (.slice none 0 0)) fun kn =>
 canStore kn ((blk a0.heap.size).add 7) ∧
 thenW (kn.setCell ((blk a0.heap.size).add 7) (.int .u64 0)) fun kz =>
 ∃ (au : Int) (bq : Int) (cs : Int) (e0 : Int) (e6 : Int) (bb : Int) (bl : Option Addr) (c1 : Nat) (bi : Nat) (ej : Int), cellsAt kz (blk a0.heap.size) [.int .i64 au, .int .i64 bq, .int .u64 cs, .int .i64 e0, .int .i64 e6, .int .i64 bb, .slice bl c1 bi, .int .u64 ej] 0 ∧
 R (.tuple #[.agg #[.int .i64 au, .int .i64 bq, .int .u64 cs, .int .i64 e0, .int .i64 e6, .int .i64 bb, .slice bl c1 bi, .int .u64 ej], .int .i64 2]) kz) else (
 ∃ (cf : Int) (dx : Int) (ff : Int) (fb : Int) (f3 : Int) (d9 : Int) (di : Option Addr) (c6 : Nat) (d4 : Nat) (f6 : Int), cellsAt gm (blk a4.heap.size) [.int .i64 cf, .int .i64 dx, .int .u64 ff, .int .i64 fb, .int .i64 f3, .int .i64 d9, .slice di c6 d4, .int .u64 f6] 0 ∧
 Calls Try.prog 40 #[.pointer o2, .int .u64 ew, .agg #[.int .i64 cf, .int .i64 dx, .int .u64 ff, .int .i64 fb, .int .i64 f3, .int .i64 d9, .slice di c6 d4, .int .u64 f6]] gm fun l5 a1 => ∃ (ce : Int) (ec : Int) (ey : Int) (gj : Int) (g1 : Int) (ek : Int) (e3 : Option Addr) (em : Nat) (dz : Nat) (ft : Int) (dq : Int), l5 = .returned (.tuple #[.agg #[.int .i64 ce, .int .i64 ec, .int .u64 ey, .int .i64 gj, .int .i64 g1, .int .i64 ek, .slice e3 em dz, .int .u64 ft], .int .i64 dq]) ∧
 thenW (a1.alloc (.cells #[.int .i64 0, .int .i64 0, .int .u64 0, .int .i64 0, .int .i64 0, .int .i64 0, .slice none 0 0, .int .u64 0] 47)) fun iu =>
 canStore iu ((blk a1.heap.size).add 0) ∧
 thenW (iu.setCell ((blk a1.heap.size).add 0) (.int .i64 ce)) fun i0 =>
 canStore i0 ((blk a1.heap.size).add 1) ∧
 thenW (i0.setCell ((blk a1.heap.size).add 1) (.int .i64 ec)) fun jn =>
 canStore jn ((blk a1.heap.size).add 2) ∧
 thenW (jn.setCell ((blk a1.heap.size).add 2) (.int .u64 ey)) fun i9 =>
 canStore i9 ((blk a1.heap.size).add 3) ∧
 thenW (i9.setCell ((blk a1.heap.size).add 3) (.int .i64 gj)) fun jr =>
 canStore jr ((blk a1.heap.size).add 4) ∧
 thenW (jr.setCell ((blk a1.heap.size).add 4) (.int .i64 g1)) fun jy =>
 canStore jy ((blk a1.heap.size).add 5) ∧
 thenW (jy.setCell ((blk a1.heap.size).add 5) (.int .i64 ek)) fun jw =>
 canStore jw ((blk a1.heap.size).add 6) ∧
 thenW (jw.setCell ((blk a1.heap.size).add 6) (.slice e3 em dz)) fun j0 =>
 canStore j0 ((blk a1.heap.size).add 7) ∧
 thenW (j0.setCell ((blk a1.heap.size).add 7) (.int .u64 ft)) fun fv =>
 bif dq != 0 then (
 canStore fv ((blk a0.heap.size).add 0) ∧
 thenW (fv.setCell ((blk a0.heap.size).add 0) (.int .i64 0)) fun jj =>
 canStore jj ((blk a0.heap.size).add 1) ∧
 thenW (jj.setCell ((blk a0.heap.size).add 1) (.int .i64 0)) fun ig =>
 canStore ig ((blk a0.heap.size).add 2) ∧
 thenW (ig.setCell ((blk a0.heap.size).add 2) (.int .u64 0)) fun js =>
 canStore js ((blk a0.heap.size).add 3) ∧
 thenW (js.setCell ((blk a0.heap.size).add 3) (.int .i64 0)) fun ix =>
 canStore ix ((blk a0.heap.size).add 4) ∧
 thenW (ix.setCell ((blk a0.heap.size).add 4) (.int .i64 0)) fun i3 =>
 canStore i3 ((blk a0.heap.size).add 5) ∧
 thenW (i3.setCell ((blk a0.heap.size).add 5) (.int .i64 0)) fun jo =>
 canStore jo ((blk a0.heap.size).add 6) ∧
 thenW (jo.setCell ((blk a0.heap.size).add 6) (.slice none 0 0)) fun jp =>
 canStore jp ((blk a0.heap.size).add 7) ∧
 thenW (jp.setCell ((blk a0.heap.size).add 7) (.int .u64 0)) fun ir =>
 ∃ (aa : Int) (aq : Int) (bs : Int) (cp : Int) (de : Int) (az : Int) (b4 : Option Addr) (ax : Nat) (b8 : Nat) (d6 : Int), cellsAt ir (blk a0.heap.size) [.int .i64 aa, .int .i64 aq, .int .u64 bs, .int .i64 cp, .int .i64 de, .int .i64 az, .slice b4 ax b8, .int .u64 d6] 0 ∧
 R (.tuple #[.agg #[.int .i64 aa, .int .i64 aq, .int .u64 bs, .int .i64 cp, .int .i64 de, .int .i64 az, .slice b4 ax b8, .int .u64 d6], .int .i64 dq]) ir) else (
 thenW (fv.drew) fun f9 =>
 l1.elim False fun ld =>
 ∃ (gk : Option Addr) (g8 : Nat) (fx : Nat), f9.cell? (ld.add 2) = some (.slice gk g8 fx) ∧
 ∃ (bg : Int) (db : Int) (eh : Int) (f4 : Int) (fo : Int) (d7 : Int) (dn : Option Addr) (cn : Nat) (d5 : Nat) (fc : Int), cellsAt f9 (blk a1.heap.size) [.int .i64 bg, .int .i64 db, .int .u64 eh, .int .i64 f4, .int .i64 fo, .int .i64 d7, .slice dn cn d5, .int .u64 fc] 0 ∧
 thenW (f9.alloc (.cells #[.int .i64 bg, .int .i64 db, .int .u64 eh, .int .i64 f4, .int .i64 fo, .int .i64 d7, .slice dn cn d5, .int .u64 fc] 47)) fun i1 =>
 i1.cell? (ld.add 2) = some (.slice gk g8 fx) ∧
 ∃ (jl : Option Addr) (jm : Nat) (gx : Nat) (g7 : World), (Builtin.append_ #[40, 40] 40 #[.slice gk g8 fx, .slice (some (blk f9.heap.size)) 1 1]).run Try.prog i1 = .ok (.slice jl jm gx) g7 ∧
 l1.elim False fun l2 =>
 canStore g7 ((l2.add 2).add 0) ∧
 thenW (g7.setCell ((l2.add 2).add 0) (.slice jl jm gx)) fun fz =>
 ∃ (br : Int) (cg : Int) (dy : Int) (fk : Int) (fj : Int) (c5 : Int) (dj : Option Addr) (d1 : Nat) (ch : Nat) (eu : Int), cellsAt fz (blk a1.heap.size) [.int .i64 br, .int .i64 cg, .int .u64 dy, .int .i64 fk, .int .i64 fj, .int .i64 c5, .slice dj d1 ch, .int .u64 eu] 0 ∧
 canStore fz ((blk a0.heap.size).add 0) ∧
 thenW (fz.setCell ((blk a0.heap.size).add 0) (.int .i64 br)) fun i4 =>
 canStore i4 ((blk a0.heap.size).add 1) ∧
 thenW (i4.setCell ((blk a0.heap.size).add 1) (.int .i64 cg)) fun gy =>
 canStore gy ((blk a0.heap.size).add 2) ∧
 thenW (gy.setCell ((blk a0.heap.size).add 2) (.int .u64 dy)) fun j1 =>
 canStore j1 ((blk a0.heap.size).add 3) ∧
 thenW (j1.setCell ((blk a0.heap.size).add 3) (.int .i64 fk)) fun ik =>
 canStore ik ((blk a0.heap.size).add 4) ∧
 thenW (ik.setCell ((blk a0.heap.size).add 4) (.int .i64 fj)) fun jg =>
 canStore jg ((blk a0.heap.size).add 5) ∧
 thenW (jg.setCell ((blk a0.heap.size).add 5) (.int .i64 c5)) fun ju =>
 canStore ju ((blk a0.heap.size).add 6) ∧
 thenW (ju.setCell ((blk a0.heap.size).add 6) (.slice dj d1 ch)) fun je =>
 canStore je ((blk a0.heap.size).add 7) ∧
 thenW (je.setCell ((blk a0.heap.size).add 7) (.int .u64 eu)) fun iy =>
 ∃ (a7 : Int) (ai : Int) (bu : Int) (cb : Int) (dl : Int) (ao : Int) (b0 : Option Addr) (ar : Nat) (b2 : Nat) (d8 : Int), cellsAt iy (blk a0.heap.size) [.int .i64 a7, .int .i64 ai, .int .u64 bu, .int .i64 cb, .int .i64 dl, .int .i64 ao, .slice b0 ar b2, .int .u64 d8] 0 ∧
 R (.tuple #[.agg #[.int .i64 a7, .int .i64 ai, .int .u64 bu, .int .i64 cb, .int .i64 dl, .int .i64 ao, .slice b0 ar b2, .int .u64 d8], .int .i64 0]) iy)))) ∧
 (thenW (a3.alloc (.cells #[.int .i64 0, .int .i64 0, .int .u64 0, .int .i64 0, .int .i64 0, .int .i64 0, .slice none 0 0, .int .u64 0] 47)) fun ev =>
 cellsAt ev (blk w.heap.size) [.int .i64 eq, .int .i64 ep] 0 ∧
 ev.cell? (lb.add 2) = some (.slice gg er fu) ∧
 ev.cell? (kc.add 0) = some (.int .i64 k5) ∧
 Calls Try.prog 32 #[.pointer l1, .pointer o2] ev fun ks dv => ∃ (fq : Int) (k4 : Int) (ga : Int), ks = .returned (.agg #[.int .i64 fq, .int .i64 k4, .int .u64 ga]) ∧
 cellsAt dv (blk w.heap.size) [.int .i64 eq, .int .i64 ep] 0 ∧
 dv.cell? (lb.add 2) = some (.slice gg er fu) ∧
 dv.cell? (kc.add 0) = some (.int .i64 k5) ∧
 canStore dv ((blk a3.heap.size).add 0) ∧
 thenW (dv.setCell ((blk a3.heap.size).add 0) (.int .i64 k5)) fun ie =>
 canStore ie ((blk a3.heap.size).add 1) ∧
 thenW (ie.setCell ((blk a3.heap.size).add 1) (.int .i64 (er : Int))) fun jb =>
 canStore jb ((blk a3.heap.size).add 2) ∧
 thenW (jb.setCell ((blk a3.heap.size).add 2) (.int .u64 ga)) fun im =>
 canStore im ((blk a3.heap.size).add 3) ∧
 thenW (im.setCell ((blk a3.heap.size).add 3) (.int .i64 eq)) fun iw =>
 canStore iw ((blk a3.heap.size).add 4) ∧
 thenW (iw.setCell ((blk a3.heap.size).add 4) (.int .i64 ep)) fun ic =>
 canStore ic ((blk a3.heap.size).add 5) ∧
 thenW (ic.setCell ((blk a3.heap.size).add 5) (.int .i64 gi)) fun j6 =>
 canStore j6 ((blk a3.heap.size).add 6) ∧
 thenW (j6.setCell ((blk a3.heap.size).add 6) (.slice gb fy fw)) fun jv =>
 canStore jv ((blk a3.heap.size).add 7) ∧
 thenW (jv.setCell ((blk a3.heap.size).add 7) (.int .u64 0)) fun ja =>
 ∃ (bn : Int) (d2 : Int) (e8 : Int) (f1 : Int) (fp : Int) (da : Int) (cq : Option Addr) (ci : Nat) (dp : Nat) (f7 : Int), cellsAt ja (blk a3.heap.size) [.int .i64 bn, .int .i64 d2, .int .u64 e8, .int .i64 f1, .int .i64 fp, .int .i64 da, .slice cq ci dp, .int .u64 f7] 0 ∧
 Calls Try.prog 38 #[.agg #[.int .i64 bn, .int .i64 d2, .int .u64 e8, .int .i64 f1, .int .i64 fp, .int .i64 da, .slice cq ci dp, .int .u64 f7]] ja fun k8 fh => ∃ (el : Bool), k8 = .returned (.bool el) ∧
 bif !el then (
 canStore fh ((blk a0.heap.size).add 0) ∧
 thenW (fh.setCell ((blk a0.heap.size).add 0) (.int .i64 0)) fun jh =>
 canStore jh ((blk a0.heap.size).add 1) ∧
 thenW (jh.setCell ((blk a0.heap.size).add 1) (.int .i64 0)) fun jt =>
 canStore jt ((blk a0.heap.size).add 2) ∧
 thenW (jt.setCell ((blk a0.heap.size).add 2) (.int .u64 0)) fun gz =>
 canStore gz ((blk a0.heap.size).add 3) ∧
 thenW (gz.setCell ((blk a0.heap.size).add 3) (.int .i64 0)) fun iz =>
 canStore iz ((blk a0.heap.size).add 4) ∧
 thenW (iz.setCell ((blk a0.heap.size).add 4) (.int .i64 0)) fun jq =>
 canStore jq ((blk a0.heap.size).add 5) ∧
 thenW (jq.setCell ((blk a0.heap.size).add 5) (.int .i64 0)) fun io =>
 canStore io ((blk a0.heap.size).add 6) ∧
 thenW (io.setCell ((blk a0.heap.size).add 6) (.slice none 0 0)) fun jz =>
 canStore jz ((blk a0.heap.size).add 7) ∧
 thenW (jz.setCell ((blk a0.heap.size).add 7) (.int .u64 0)) fun it =>
 ∃ (a5 : Int) (b3 : Int) (c0 : Int) (cr : Int) (c8 : Int) (ac : Int) (ad : Option Addr) (ak : Nat) (ay : Nat) (cw : Int), cellsAt it (blk a0.heap.size) [.int .i64 a5, .int .i64 b3, .int .u64 c0, .int .i64 cr, .int .i64 c8, .int .i64 ac, .slice ad ak ay, .int .u64 cw] 0 ∧
 R (.tuple #[.agg #[.int .i64 a5, .int .i64 b3, .int .u64 c0, .int .i64 cr, .int .i64 c8, .int .i64 ac, .slice ad ak ay, .int .u64 cw], .int .i64 1]) it) else (
 ∃ (j2 : Int) (gw : Int), cellsAt fh (blk w.heap.size) [.int .i64 j2, .int .i64 gw] 0 ∧
 Calls Try.prog 39 #[.pointer l1, .agg #[.int .i64 j2, .int .i64 gw]] fh fun kk f2 => ∃ (ex : Bool), kk = .returned (.bool ex) ∧
 bif ex then (
 canStore f2 ((blk a0.heap.size).add 0) ∧
 thenW (f2.setCell ((blk a0.heap.size).add 0) (.int .i64 0)) fun ip =>
 canStore ip ((blk a0.heap.size).add 1) ∧
 thenW (ip.setCell ((blk a0.heap.size).add 1) (.int .i64 0)) fun gr =>
 canStore gr ((blk a0.heap.size).add 2) ∧
 thenW (gr.setCell ((blk a0.heap.size).add 2) (.int .u64 0)) fun i7 =>
 canStore i7 ((blk a0.heap.size).add 3) ∧
 thenW (i7.setCell ((blk a0.heap.size).add 3) (.int .i64 0)) fun j3 =>
 canStore j3 ((blk a0.heap.size).add 4) ∧
 thenW (j3.setCell ((blk a0.heap.size).add 4) (.int .i64 0)) fun jd =>
 canStore jd ((blk a0.heap.size).add 5) ∧
 thenW (jd.setCell ((blk a0.heap.size).add 5) (.int .i64 0)) fun ii =>
 canStore ii ((blk a0.heap.size).add 6) ∧
 thenW (ii.setCell ((blk a0.heap.size).add 6) (.slice none 0 0)) fun j9 =>
 canStore j9 ((blk a0.heap.size).add 7) ∧
 thenW (j9.setCell ((blk a0.heap.size).add 7) (.int .u64 0)) fun j8 =>
 ∃ (a6 : Int) (ag : Int) (ba : Int) (d3 : Int) (cx : Int) (b9 : Int) (al : Option Addr) (am : Nat) (an : Nat) (c9 : Int), cellsAt j8 (blk a0.heap.size) [.int .i64 a6, .int .i64 ag, .int .u64 ba, .int .i64 d3, .int .i64 cx, .int .i64 b9, .slice al am an, .int .u64 c9] 0 ∧
 R (.tuple #[.agg #[.int .i64 a6, .int .i64 ag, .int .u64 ba, .int .i64 d3, .int .i64 cx, .int .i64 b9, .slice al am an, .int .u64 c9], .int .i64 2]) j8) else (
 ∃ (bc : Int) (c4 : Int) (e2 : Int) (f0 : Int) (fg : Int) (cd : Int) (dc : Option Addr) (dk : Nat) (c3 : Nat) (fa : Int), cellsAt f2 (blk a3.heap.size) [.int .i64 bc, .int .i64 c4, .int .u64 e2, .int .i64 f0, .int .i64 fg, .int .i64 cd, .slice dc dk c3, .int .u64 fa] 0 ∧
 Calls Try.prog 40 #[.pointer o2, .int .u64 ew, .agg #[.int .i64 bc, .int .i64 c4, .int .u64 e2, .int .i64 f0, .int .i64 fg, .int .i64 cd, .slice dc dk c3, .int .u64 fa]] f2 fun kq a2 => ∃ (cz : Int) (dw : Int) (f8 : Int) (gd : Int) (g4 : Int) (ei : Int) (e1 : Option Addr) (dt : Nat) (eo : Nat) (g5 : Int) (dr : Int), kq = .returned (.tuple #[.agg #[.int .i64 cz, .int .i64 dw, .int .u64 f8, .int .i64 gd, .int .i64 g4, .int .i64 ei, .slice e1 dt eo, .int .u64 g5], .int .i64 dr]) ∧
 thenW (a2.alloc (.cells #[.int .i64 0, .int .i64 0, .int .u64 0, .int .i64 0, .int .i64 0, .int .i64 0, .slice none 0 0, .int .u64 0] 47)) fun k3 =>
 canStore k3 ((blk a2.heap.size).add 0) ∧
 thenW (k3.setCell ((blk a2.heap.size).add 0) (.int .i64 cz)) fun iv =>
 canStore iv ((blk a2.heap.size).add 1) ∧
 thenW (iv.setCell ((blk a2.heap.size).add 1) (.int .i64 dw)) fun gv =>
 canStore gv ((blk a2.heap.size).add 2) ∧
 thenW (gv.setCell ((blk a2.heap.size).add 2) (.int .u64 f8)) fun iq =>
 canStore iq ((blk a2.heap.size).add 3) ∧
 thenW (iq.setCell ((blk a2.heap.size).add 3) (.int .i64 gd)) fun gp =>
 canStore gp ((blk a2.heap.size).add 4) ∧
 thenW (gp.setCell ((blk a2.heap.size).add 4) (.int .i64 g4)) fun jc =>
 canStore jc ((blk a2.heap.size).add 5) ∧
 thenW (jc.setCell ((blk a2.heap.size).add 5) (.int .i64 ei)) fun ij =>
 canStore ij ((blk a2.heap.size).add 6) ∧
 thenW (ij.setCell ((blk a2.heap.size).add 6) (.slice e1 dt eo)) fun ib =>
 canStore ib ((blk a2.heap.size).add 7) ∧
 thenW (ib.setCell ((blk a2.heap.size).add 7) (.int .u64 g5)) fun g6 =>
 bif dr != 0 then (
 canStore g6 ((blk a0.heap.size).add 0) ∧
 thenW (g6.setCell ((blk a0.heap.size).add 0) (.int .i64 0)) fun k0 =>
 canStore k0 ((blk a0.heap.size).add 1) ∧
 thenW (k0.setCell ((blk a0.heap.size).add 1) (.int .i64 0)) fun j5 =>
 canStore j5 ((blk a0.heap.size).add 2) ∧
 thenW (j5.setCell ((blk a0.heap.size).add 2) (.int .u64 0)) fun k1 =>
 canStore k1 ((blk a0.heap.size).add 3) ∧
 thenW (k1.setCell ((blk a0.heap.size).add 3) (.int .i64 0)) fun jk =>
 canStore jk ((blk a0.heap.size).add 4) ∧
 thenW (jk.setCell ((blk a0.heap.size).add 4) (.int .i64 0)) fun j7 =>
 canStore j7 ((blk a0.heap.size).add 5) ∧
 thenW (j7.setCell ((blk a0.heap.size).add 5) (.int .i64 0)) fun gs =>
 canStore gs ((blk a0.heap.size).add 6) ∧
 thenW (gs.setCell ((blk a0.heap.size).add 6) (.slice none 0 0)) fun i5 =>
 canStore i5 ((blk a0.heap.size).add 7) ∧
 thenW (i5.setCell ((blk a0.heap.size).add 7) (.int .u64 0)) fun ih =>
 ∃ (a8 : Int) (av : Int) (bt : Int) (dg : Int) (ct : Int) (b6 : Int) (ah : Option Addr) (aj : Nat) (ae : Nat) (cl : Int), cellsAt ih (blk a0.heap.size) [.int .i64 a8, .int .i64 av, .int .u64 bt, .int .i64 dg, .int .i64 ct, .int .i64 b6, .slice ah aj ae, .int .u64 cl] 0 ∧
 R (.tuple #[.agg #[.int .i64 a8, .int .i64 av, .int .u64 bt, .int .i64 dg, .int .i64 ct, .int .i64 b6, .slice ah aj ae, .int .u64 cl], .int .i64 dr]) ih) else (
 thenW (g6.drew) fun fl =>
 l1.elim False fun ku =>
 ∃ (fs : Option Addr) (gc : Nat) (g0 : Nat), fl.cell? (ku.add 2) = some (.slice fs gc g0) ∧
 ∃ (bk : Int) (dm : Int) (e9 : Int) (fm : Int) (fi : Int) (ca : Int) (cj : Option Addr) (cm : Nat) (c7 : Nat) (et : Int), cellsAt fl (blk a2.heap.size) [.int .i64 bk, .int .i64 dm, .int .u64 e9, .int .i64 fm, .int .i64 fi, .int .i64 ca, .slice cj cm c7, .int .u64 et] 0 ∧
 thenW (fl.alloc (.cells #[.int .i64 bk, .int .i64 dm, .int .u64 e9, .int .i64 fm, .int .i64 fi, .int .i64 ca, .slice cj cm c7, .int .u64 et] 47)) fun ji =>
 ji.cell? (ku.add 2) = some (.slice fs gc g0) ∧
 ∃ (gq : Option Addr) (i8 : Nat) (il : Nat) (g2 : World), (Builtin.append_ #[40, 40] 40 #[.slice fs gc g0, .slice (some (blk fl.heap.size)) 1 1]).run Try.prog ji = .ok (.slice gq i8 il) g2 ∧
 l1.elim False fun k9 =>
 canStore g2 ((k9.add 2).add 0) ∧
 thenW (g2.setCell ((k9.add 2).add 0) (.slice gq i8 il)) fun g3 =>
 ∃ (bo : Int) (dh : Int) (e5 : Int) (fd : Int) (fe : Int) (d0 : Int) (cu : Option Addr) (co : Nat) (ck : Nat) (f5 : Int), cellsAt g3 (blk a2.heap.size) [.int .i64 bo, .int .i64 dh, .int .u64 e5, .int .i64 fd, .int .i64 fe, .int .i64 d0, .slice cu co ck, .int .u64 f5] 0 ∧
 canStore g3 ((blk a0.heap.size).add 0) ∧
 thenW (g3.setCell ((blk a0.heap.size).add 0) (.int .i64 bo)) fun k2 =>
 canStore k2 ((blk a0.heap.size).add 1) ∧
 thenW (k2.setCell ((blk a0.heap.size).add 1) (.int .i64 dh)) fun jf =>
 canStore jf ((blk a0.heap.size).add 2) ∧
 thenW (jf.setCell ((blk a0.heap.size).add 2) (.int .u64 e5)) fun i2 =>
 canStore i2 ((blk a0.heap.size).add 3) ∧
 thenW (i2.setCell ((blk a0.heap.size).add 3) (.int .i64 fd)) fun ia =>
 canStore ia ((blk a0.heap.size).add 4) ∧
 thenW (ia.setCell ((blk a0.heap.size).add 4) (.int .i64 fe)) fun gu =>
 canStore gu ((blk a0.heap.size).add 5) ∧
 thenW (gu.setCell ((blk a0.heap.size).add 5) (.int .i64 d0)) fun i6 =>
 canStore i6 ((blk a0.heap.size).add 6) ∧
 thenW (i6.setCell ((blk a0.heap.size).add 6) (.slice cu co ck)) fun j4 =>
 canStore j4 ((blk a0.heap.size).add 7) ∧
 thenW (j4.setCell ((blk a0.heap.size).add 7) (.int .u64 f5)) fun gt =>
 ∃ (a9 : Int) (aw : Int) (bv : Int) (cy : Int) (cv : Int) (ab : Int) (b5 : Option Addr) (af : Nat) (b7 : Nat) (c2 : Int), cellsAt gt (blk a0.heap.size) [.int .i64 a9, .int .i64 aw, .int .u64 bv, .int .i64 cy, .int .i64 cv, .int .i64 ab, .slice b5 af b7, .int .u64 c2] 0 ∧
 R (.tuple #[.agg #[.int .i64 a9, .int .i64 aw, .int .u64 bv, .int .i64 cy, .int .i64 cv, .int .i64 ab, .slice b5 af b7, .int .u64 c2], .int .i64 0]) gt)))))

theorem cachetteref07_Log_Issue.eq (l1 : Option Addr) (o2 : Option Addr) (secret3 : Int) (atT4 : Int) (atW5 : Int) (epoch6 : Int) (body7a : Option Addr) (body7n : Nat) (body7c : Nat) (R : Value → World → Prop) (w : World) : mfunc Try.prog [] 16 [.pointer l1, .pointer o2, .int .u64 secret3, .agg #[.int .i64 atT4, .int .i64 atW5], .int .i64 epoch6, .slice body7a body7n body7c] R w = cachetteref07_Log_Issue.M l1 o2 secret3 atT4 atW5 epoch6 body7a body7n body7c R w := by kernel_rfl
theorem cachetteref07_Log_Issue.ok (l1 : Option Addr) (o2 : Option Addr) (a0 : Int) (a5 : Int) (a6 : Int) (a2 : Int) (a1 : Option Addr) (a3 : Nat) (a4 : Nat) {R : Value → World → Prop} {w : World} (h : cachetteref07_Log_Issue.M l1 o2 a0 a5 a6 a2 a1 a3 a4 R w) : Calls Try.prog 16 #[.pointer l1, .pointer o2, .int .u64 a0, .agg #[.int .i64 a5, .int .i64 a6], .int .i64 a2, .slice a1 a3 a4] w fun e w' => ∃ v, e = .returned v ∧ R v w' :=
  mfunc_ok follows (H := []) (args := [.pointer l1, .pointer o2, .int .u64 a0, .agg #[.int .i64 a5, .int .i64 a6], .int .i64 a2, .slice a1 a3 a4]) (by rw [cachetteref07_Log_Issue.eq]; exact h)

def cachetteref07_Log_Issue.N (l1 : Option Addr) (o2 : Option Addr) (aw : Int) (ao : Int) (an : Int) (a1 : Int) (a2 : Option Addr) (a0 : Nat) (a3 : Nat) (R : Value → World → Prop) (w : World) : Prop :=
 ∃ am : Addr, l1 = some am ∧
 ∃ (cn : Option Addr) (c5 : Nat) (co : Nat), w.cell? (am.add 2) = some (.slice cn c5 co) ∧
 ((c5 : Int) ≥ 200 →
 ∀ (c7 : World), Ext no w c7 →
 R (.tuple #[.agg #[.int .i64 0, .int .i64 0, .int .u64 0, .int .i64 0, .int .i64 0, .int .i64 0, .slice none 0 0, .int .u64 0], .int .i64 3]) c7) ∧
 ((c5 : Int) < 200 →
 ∃ (bl : Int), w.cell? (am.add 0) = some (.int .i64 bl) ∧
 ∃ (c3 : Option Addr) (aj : Nat) (c2 : Nat), w.cell? (am.add 2) = some (.slice c3 aj c2) ∧
 (∀ (bq : World) (cq : Nat) (az : Nat), Ext no w bq → Priv w bq [cq, az] →
 Calls Try.prog 32 #[.pointer l1, .pointer o2] bq fun cl b0 => ∃ (bf : Int) (cc : Int) (ax : Int), cl = .returned (.agg #[.int .i64 bf, .int .i64 cc, .int .u64 ax]) ∧
 Keep [cq, az] bq b0 ∧
 b0.cell? (am.add 2) = some (.slice c3 aj c2) ∧
 b0.cell? (am.add 0) = some (.int .i64 bl) ∧
 ((cachetteref06_Right.F bl (aj : Int) ax ao an a1 a2 a0 a3 0) = false →
 ∀ (ca : World), Ext (fun b => b = az) b0 ca →
 R (.tuple #[.agg #[.int .i64 0, .int .i64 0, .int .u64 0, .int .i64 0, .int .i64 0, .int .i64 0, .slice none 0 0, .int .u64 0], .int .i64 1]) ca) ∧
 ((cachetteref06_Right.F bl (aj : Int) ax ao an a1 a2 a0 a3 0) = true →
 ∀ (bm : World) (cp : Nat), Ext no b0 bm → Priv b0 bm [cp] →
 Calls Try.prog 39 #[.pointer l1, .agg #[.int .i64 ao, .int .i64 an]] bm fun ch bn => ∃ (ar : Bool), ch = .returned (.bool ar) ∧
 Keep [az, cp] bm bn ∧
 (ar = true →
 ∀ (c9 : World), Ext (fun b => b = az) bn c9 →
 R (.tuple #[.agg #[.int .i64 0, .int .i64 0, .int .u64 0, .int .i64 0, .int .i64 0, .int .i64 0, .slice none 0 0, .int .u64 0], .int .i64 2]) c9) ∧
 (ar = false →
 Calls Try.prog 40 #[.pointer o2, .int .u64 aw, .agg #[.int .i64 bl, .int .i64 (aj : Int), .int .u64 ax, .int .i64 ao, .int .i64 an, .int .i64 a1, .slice a2 a0 a3, .int .u64 0]] bn fun ci b1 => ∃ (a4 : Int) (ab : Int) (au : Int) (bh : Int) (bi : Int) (al : Int) (af : Option Addr) (a9 : Nat) (ag : Nat) (bj : Int) (ai : Int), ci = .returned (.tuple #[.agg #[.int .i64 a4, .int .i64 ab, .int .u64 au, .int .i64 bh, .int .i64 bi, .int .i64 al, .slice af a9 ag, .int .u64 bj], .int .i64 ai]) ∧
 Keep [az] bn b1 ∧
 (ai ≠ 0 →
 ∀ (c6 : World), Ext (fun b => b = az) b1 c6 →
 R (.tuple #[.agg #[.int .i64 0, .int .i64 0, .int .u64 0, .int .i64 0, .int .i64 0, .int .i64 0, .slice none 0 0, .int .u64 0], .int .i64 ai]) c6) ∧
 (ai = 0 →
 ∃ (bd : Option Addr) (b9 : Nat) (bb : Nat), b1.cell? (am.add 2) = some (.slice bd b9 bb) ∧
 ∀ (a7 : World) (b4 : Nat) (c4 : Nat), Ext no b1 a7 → Blk a7 b4 47 [.int .i64 a4, .int .i64 ab, .int .u64 au, .int .i64 bh, .int .i64 bi, .int .i64 al, .slice af a9 ag, .int .u64 bj] → b1.heap.size ≤ b4 → b4 < a7.heap.size → Privq b1 b4 [c4] →
 a7.cell? (am.add 2) = some (.slice bd b9 bb) ∧
 ∃ (bv : Option Addr) (bx : Nat) (bs : Nat) (a8 : World), (Builtin.append_ #[40, 40] 40 #[.slice bd b9 bb, .slice (some (blk b4)) 1 1]).run Try.prog a7 = .ok (.slice bv bx bs) a8 ∧
 Keep [az, c4] a7 a8 ∧
 canStore a8 ((am.add 2).add 0) ∧
 (∀ p ∈ [az, c4], p ≠ Addr.block (am.add 2)) ∧
 thenW (a8.setCell ((am.add 2).add 0) (.slice bv bx bs)) fun cb =>
 ∀ (br : World), Ext (fun b => b = az) cb br →
 R (.tuple #[.agg #[.int .i64 a4, .int .i64 ab, .int .u64 au, .int .i64 bh, .int .i64 bi, .int .i64 al, .slice af a9 ag, .int .u64 bj], .int .i64 0]) br)))) ∧
 (∀ (bp : World) (az : Nat) (bk : Nat) (cd : Nat), Ext no w bp → Priv w bp [az, bk, cd] →
 Calls Try.prog 32 #[.pointer l1, .pointer o2] bp fun cj bc => ∃ (b5 : Int) (c8 : Int) (ay : Int), cj = .returned (.agg #[.int .i64 b5, .int .i64 c8, .int .u64 ay]) ∧
 Keep [az, bk, cd] bp bc ∧
 bc.cell? (am.add 2) = some (.slice c3 aj c2) ∧
 bc.cell? (am.add 0) = some (.int .i64 bl) ∧
 ((cachetteref06_Right.F bl (aj : Int) ay ao an a1 a2 a0 a3 0) = false →
 ∀ (cf : World), Ext (fun b => b = bk ∨ b = cd) bc cf →
 R (.tuple #[.agg #[.int .i64 0, .int .i64 0, .int .u64 0, .int .i64 0, .int .i64 0, .int .i64 0, .slice none 0 0, .int .u64 0], .int .i64 1]) cf) ∧
 ((cachetteref06_Right.F bl (aj : Int) ay ao an a1 a2 a0 a3 0) = true →
 ∀ (c0 : World), Ext (fun b => b = cd) bc c0 →
 Calls Try.prog 39 #[.pointer l1, .agg #[.int .i64 ao, .int .i64 an]] c0 fun cm bo => ∃ (ap : Bool), cm = .returned (.bool ap) ∧
 Keep [bk, cd] c0 bo ∧
 (ap = true →
 ∀ (ce : World), Ext (fun b => b = bk) bo ce →
 R (.tuple #[.agg #[.int .i64 0, .int .i64 0, .int .u64 0, .int .i64 0, .int .i64 0, .int .i64 0, .slice none 0 0, .int .u64 0], .int .i64 2]) ce) ∧
 (ap = false →
 Calls Try.prog 40 #[.pointer o2, .int .u64 aw, .agg #[.int .i64 bl, .int .i64 (aj : Int), .int .u64 ay, .int .i64 ao, .int .i64 an, .int .i64 a1, .slice a2 a0 a3, .int .u64 0]] bo fun ck b2 => ∃ (a5 : Int) (ah : Int) (aq : Int) (ba : Int) (b8 : Int) (ae : Int) (ac : Option Addr) (ad : Nat) (aa : Nat) (b3 : Int) (ak : Int), ck = .returned (.tuple #[.agg #[.int .i64 a5, .int .i64 ah, .int .u64 aq, .int .i64 ba, .int .i64 b8, .int .i64 ae, .slice ac ad aa, .int .u64 b3], .int .i64 ak]) ∧
 Keep [bk] bo b2 ∧
 (ak ≠ 0 →
 ∀ (cg : World), Ext (fun b => b = bk) b2 cg →
 R (.tuple #[.agg #[.int .i64 0, .int .i64 0, .int .u64 0, .int .i64 0, .int .i64 0, .int .i64 0, .slice none 0 0, .int .u64 0], .int .i64 ak]) cg) ∧
 (ak = 0 →
 ∃ (b7 : Option Addr) (bg : Nat) (be : Nat), b2.cell? (am.add 2) = some (.slice b7 bg be) ∧
 ∀ (a6 : World) (b6 : Nat) (c1 : Nat), Ext no b2 a6 → Blk a6 b6 47 [.int .i64 a5, .int .i64 ah, .int .u64 aq, .int .i64 ba, .int .i64 b8, .int .i64 ae, .slice ac ad aa, .int .u64 b3] → b2.heap.size ≤ b6 → b6 < a6.heap.size → Privq b2 b6 [c1] →
 a6.cell? (am.add 2) = some (.slice b7 bg be) ∧
 ∃ (bt : Option Addr) (bw : Nat) (bz : Nat) (av : World), (Builtin.append_ #[40, 40] 40 #[.slice b7 bg be, .slice (some (blk b6)) 1 1]).run Try.prog a6 = .ok (.slice bt bw bz) av ∧
 Keep [bk, c1] a6 av ∧
 canStore av ((am.add 2).add 0) ∧
 (∀ p ∈ [bk, c1], p ≠ Addr.block (am.add 2)) ∧
 thenW (av.setCell ((am.add 2).add 0) (.slice bt bw bz)) fun a8 =>
 ∀ (bu : World), Ext (fun b => b = bk) a8 bu →
 R (.tuple #[.agg #[.int .i64 a5, .int .i64 ah, .int .u64 aq, .int .i64 ba, .int .i64 b8, .int .i64 ae, .slice ac ad aa, .int .u64 b3], .int .i64 0]) bu)))))

theorem cachetteref07_Log_Issue.up (l1 : Option Addr) (o2 : Option Addr) (bc : Int) (ao : Int) (b0 : Int) (ac : Int) (ah : Option Addr) (ag : Nat) (af : Nat) {R : Value → World → Prop} {w : World} (h : cachetteref07_Log_Issue.N l1 o2 bc ao b0 ac ah ag af R w) : cachetteref07_Log_Issue.M l1 o2 bc ao b0 ac ah ag af R w := by
  unfold cachetteref07_Log_Issue.M
  unfold cachetteref07_Log_Issue.N at h
  refine thenW_in fun a1 e8 => ?_
  have aa := Blk.of_new e8
  have jy := ((Ext.refl no w)).size
  have jx := (Ext.refl no w).x_alloc e8
  refine thenW_in fun kd e9 => ?_
  have a0 := Blk.of_new e9
  have c8 := (jx).size
  have k3 := Nat.ne_of_lt aa.lt
  have aa := aa.x_alloc e9
  have i9 := jx.x_alloc e9
  obtain ⟨kc, bb, h⟩ := h
  refine elim_some bb ?_
  obtain ⟨jn, j9, iv, j0, h⟩ := h
  refine ⟨jn, j9, iv, (i9).cell j0 id, ?_⟩
  refine bif_of (fun j8 => ?_) (fun j8 => ?_)
  · have h := h.1 (of_decide_eq_true j8)
    refine ⟨a0.cani 0 rfl rfl, thenW_in fun iz js => ?_⟩
    have j6 := i9.x_set (q := a1.heap.size) (i := 0) rfl (.inr c8) js
    have a0 : Blk iz a1.heap.size 47 [.int .i64 0, .int .i64 0, .int .u64 0, .int .i64 0, .int .i64 0, .int .i64 0, .slice none 0 0, .int .u64 0] := a0.seti 0 rfl js
    refine ⟨a0.cani 1 rfl rfl, thenW_in fun i5 jr => ?_⟩
    have i4 := j6.x_set (q := a1.heap.size) (i := 1) rfl (.inr c8) jr
    have a0 : Blk i5 a1.heap.size 47 [.int .i64 0, .int .i64 0, .int .u64 0, .int .i64 0, .int .i64 0, .int .i64 0, .slice none 0 0, .int .u64 0] := a0.seti 1 rfl jr
    refine ⟨a0.cani 2 rfl rfl, thenW_in fun io jo => ?_⟩
    have i1 := i4.x_set (q := a1.heap.size) (i := 2) rfl (.inr c8) jo
    have a0 : Blk io a1.heap.size 47 [.int .i64 0, .int .i64 0, .int .u64 0, .int .i64 0, .int .i64 0, .int .i64 0, .slice none 0 0, .int .u64 0] := a0.seti 2 rfl jo
    refine ⟨a0.cani 3 rfl rfl, thenW_in fun it jp => ?_⟩
    have je := i1.x_set (q := a1.heap.size) (i := 3) rfl (.inr c8) jp
    have a0 : Blk it a1.heap.size 47 [.int .i64 0, .int .i64 0, .int .u64 0, .int .i64 0, .int .i64 0, .int .i64 0, .slice none 0 0, .int .u64 0] := a0.seti 3 rfl jp
    refine ⟨a0.cani 4 rfl rfl, thenW_in fun j4 jv => ?_⟩
    have j2 := je.x_set (q := a1.heap.size) (i := 4) rfl (.inr c8) jv
    have a0 : Blk j4 a1.heap.size 47 [.int .i64 0, .int .i64 0, .int .u64 0, .int .i64 0, .int .i64 0, .int .i64 0, .slice none 0 0, .int .u64 0] := a0.seti 4 rfl jv
    refine ⟨a0.cani 5 rfl rfl, thenW_in fun iw jw => ?_⟩
    have ig := j2.x_set (q := a1.heap.size) (i := 5) rfl (.inr c8) jw
    have a0 : Blk iw a1.heap.size 47 [.int .i64 0, .int .i64 0, .int .u64 0, .int .i64 0, .int .i64 0, .int .i64 0, .slice none 0 0, .int .u64 0] := a0.seti 5 rfl jw
    refine ⟨a0.cani 6 rfl rfl, thenW_in fun ij k2 => ?_⟩
    have i6 := ig.x_set (q := a1.heap.size) (i := 6) rfl (.inr c8) k2
    have a0 : Blk ij a1.heap.size 47 [.int .i64 0, .int .i64 0, .int .u64 0, .int .i64 0, .int .i64 0, .int .i64 0, .slice none 0 0, .int .u64 0] := a0.seti 6 rfl k2
    refine ⟨a0.cani 7 rfl rfl, thenW_in fun gh ju => ?_⟩
    have iq := i6.x_set (q := a1.heap.size) (i := 7) rfl (.inr c8) ju
    have a0 : Blk gh a1.heap.size 47 [.int .i64 0, .int .i64 0, .int .u64 0, .int .i64 0, .int .i64 0, .int .i64 0, .slice none 0 0, .int .u64 0] := a0.seti 7 rfl ju
    refine ⟨0, 0, 0, 0, 0, 0, none, 0, 0, 0, ⟨a0.celli 0 rfl rfl, a0.celli 1 rfl rfl, a0.celli 2 rfl rfl, a0.celli 3 rfl rfl, a0.celli 4 rfl rfl, a0.celli 5 rfl rfl, a0.celli 6 rfl rfl, a0.celli 7 rfl rfl, trivial⟩, ?_⟩
    have h := h gh iq
    exact h
  · have h := h.2 (Int.not_le.1 (of_decide_eq_false j8))
    refine thenW_in fun a9 jh => ?_
    have c0 := i9.x_drew jh
    have aa := aa.x_drew jh
    have a0 := a0.x_drew jh
    refine elim_some bb ?_
    obtain ⟨b5, g3, h⟩ := h
    refine ⟨b5, (c0).cell g3 id, ?_⟩
    refine elim_some bb ?_
    obtain ⟨jm, ap, jl, f8, h⟩ := h
    refine ⟨jm, ap, jl, (c0).cell f8 id, ?_⟩
    refine ⟨ao, b0, ⟨aa.celli 0 rfl rfl, aa.celli 1 rfl rfl, trivial⟩, ?_⟩
    obtain ⟨h0', h1'⟩ := h
    refine ⟨?_, ?_⟩
    · have h := h0'
      have h := h a9 (w.heap.size) (a1.heap.size) c0 (Priv.cons jy aa.lt (Priv.cons c8 a0.lt Priv.nil))
      refine h.mono fun ka a8 h => ?_
      obtain ⟨bi, g6, b4, he, hk, h⟩ := h
      refine ⟨bi, g6, b4, he, ?_⟩
      have aa := hk.blk aa (by simp)
      have a0 := hk.blk a0 (by simp)
      obtain ⟨gi, gq, h⟩ := h
      refine ⟨⟨aa.celli 0 rfl rfl, aa.celli 1 rfl rfl, trivial⟩, gi, gq, ?_⟩
      refine thenW_in fun k9 gz => ?_
      have a7 := Blk.of_new gz
      have bn := ((Ext.refl no a8)).size
      have an := Nat.ne_of_lt aa.lt
      have aa := aa.x_alloc gz
      have al := Nat.ne_of_lt a0.lt
      have a0 := a0.x_alloc gz
      have et := (Ext.refl no a8).x_alloc gz
      refine ⟨⟨aa.celli 0 rfl rfl, aa.celli 1 rfl rfl, trivial⟩, (et).cell gi id, (et).cell gq id, ?_⟩
      refine ⟨a7.cani 0 rfl rfl, thenW_in fun jg gx => ?_⟩
      have ir := et.x_set (q := a8.heap.size) (i := 0) rfl (.inr bn) gx
      have aa := aa.oth (q := a8.heap.size) (i := 0) rfl an gx
      have a0 := a0.oth (q := a8.heap.size) (i := 0) rfl al gx
      have a7 : Blk jg a8.heap.size 47 [.int .i64 b5, .int .i64 0, .int .u64 0, .int .i64 0, .int .i64 0, .int .i64 0, .slice none 0 0, .int .u64 0] := a7.seti 0 rfl gx
      refine ⟨a7.cani 1 rfl rfl, thenW_in fun er cd => ?_⟩
      have d2 := ir.x_set (q := a8.heap.size) (i := 1) rfl (.inr bn) cd
      have aa := aa.oth (q := a8.heap.size) (i := 1) rfl an cd
      have a0 := a0.oth (q := a8.heap.size) (i := 1) rfl al cd
      have a7 : Blk er a8.heap.size 47 [.int .i64 b5, .int .i64 (ap : Int), .int .u64 0, .int .i64 0, .int .i64 0, .int .i64 0, .slice none 0 0, .int .u64 0] := a7.seti 1 rfl cd
      refine ⟨a7.cani 2 rfl rfl, thenW_in fun d1 cc => ?_⟩
      have dp := d2.x_set (q := a8.heap.size) (i := 2) rfl (.inr bn) cc
      have aa := aa.oth (q := a8.heap.size) (i := 2) rfl an cc
      have a0 := a0.oth (q := a8.heap.size) (i := 2) rfl al cc
      have a7 : Blk d1 a8.heap.size 47 [.int .i64 b5, .int .i64 (ap : Int), .int .u64 b4, .int .i64 0, .int .i64 0, .int .i64 0, .slice none 0 0, .int .u64 0] := a7.seti 2 rfl cc
      refine ⟨a7.cani 3 rfl rfl, thenW_in fun d4 cn => ?_⟩
      have es := dp.x_set (q := a8.heap.size) (i := 3) rfl (.inr bn) cn
      have aa := aa.oth (q := a8.heap.size) (i := 3) rfl an cn
      have a0 := a0.oth (q := a8.heap.size) (i := 3) rfl al cn
      have a7 : Blk d4 a8.heap.size 47 [.int .i64 b5, .int .i64 (ap : Int), .int .u64 b4, .int .i64 ao, .int .i64 0, .int .i64 0, .slice none 0 0, .int .u64 0] := a7.seti 3 rfl cn
      refine ⟨a7.cani 4 rfl rfl, thenW_in fun cu ca => ?_⟩
      have dv := es.x_set (q := a8.heap.size) (i := 4) rfl (.inr bn) ca
      have aa := aa.oth (q := a8.heap.size) (i := 4) rfl an ca
      have a0 := a0.oth (q := a8.heap.size) (i := 4) rfl al ca
      have a7 : Blk cu a8.heap.size 47 [.int .i64 b5, .int .i64 (ap : Int), .int .u64 b4, .int .i64 ao, .int .i64 b0, .int .i64 0, .slice none 0 0, .int .u64 0] := a7.seti 4 rfl ca
      refine ⟨a7.cani 5 rfl rfl, thenW_in fun ea ck => ?_⟩
      have ew := dv.x_set (q := a8.heap.size) (i := 5) rfl (.inr bn) ck
      have aa := aa.oth (q := a8.heap.size) (i := 5) rfl an ck
      have a0 := a0.oth (q := a8.heap.size) (i := 5) rfl al ck
      have a7 : Blk ea a8.heap.size 47 [.int .i64 b5, .int .i64 (ap : Int), .int .u64 b4, .int .i64 ao, .int .i64 b0, .int .i64 ac, .slice none 0 0, .int .u64 0] := a7.seti 5 rfl ck
      refine ⟨a7.cani 6 rfl rfl, thenW_in fun dy cg => ?_⟩
      have cs := ew.x_set (q := a8.heap.size) (i := 6) rfl (.inr bn) cg
      have aa := aa.oth (q := a8.heap.size) (i := 6) rfl an cg
      have a0 := a0.oth (q := a8.heap.size) (i := 6) rfl al cg
      have a7 : Blk dy a8.heap.size 47 [.int .i64 b5, .int .i64 (ap : Int), .int .u64 b4, .int .i64 ao, .int .i64 b0, .int .i64 ac, .slice ah ag af, .int .u64 0] := a7.seti 6 rfl cg
      refine ⟨a7.cani 7 rfl rfl, thenW_in fun cx ci => ?_⟩
      have d6 := cs.x_set (q := a8.heap.size) (i := 7) rfl (.inr bn) ci
      have aa := aa.oth (q := a8.heap.size) (i := 7) rfl an ci
      have a0 := a0.oth (q := a8.heap.size) (i := 7) rfl al ci
      have a7 : Blk cx a8.heap.size 47 [.int .i64 b5, .int .i64 (ap : Int), .int .u64 b4, .int .i64 ao, .int .i64 b0, .int .i64 ac, .slice ah ag af, .int .u64 0] := a7.seti 7 rfl ci
      refine ⟨b5, (ap : Int), b4, ao, b0, ac, ah, ag, af, 0, ⟨a7.celli 0 rfl rfl, a7.celli 1 rfl rfl, a7.celli 2 rfl rfl, a7.celli 3 rfl rfl, a7.celli 4 rfl rfl, a7.celli 5 rfl rfl, a7.celli 6 rfl rfl, a7.celli 7 rfl rfl, trivial⟩, ?_⟩
      refine (cachetteref06_Right.pure b5 (ap : Int) b4 ao b0 ac ah ag af 0).mono fun ee ce ⟨he, hxx⟩ => ⟨(cachetteref06_Right.F b5 (ap : Int) b4 ao b0 ac ah ag af 0), he, ?_⟩
      have cl := d6.trans hxx
      have aa := aa.ext hxx id
      have a0 := a0.ext hxx id
      have a7 := a7.ext hxx id
      refine bif_of (fun ik => ?_) (fun ik => ?_)
      · have h := h.1 (not_t ik)
        have im : Ext (fun b => b = a1.heap.size) a8 ce := (cl).none
        refine ⟨a0.cani 0 rfl rfl, thenW_in fun iy jt => ?_⟩
        have j3 := im.x_set (q := a1.heap.size) (i := 0) rfl (.inl rfl) jt
        have a0 : Blk iy a1.heap.size 47 [.int .i64 0, .int .i64 0, .int .u64 0, .int .i64 0, .int .i64 0, .int .i64 0, .slice none 0 0, .int .u64 0] := a0.seti 0 rfl jt
        refine ⟨a0.cani 1 rfl rfl, thenW_in fun d8 fi => ?_⟩
        have dd := j3.x_set (q := a1.heap.size) (i := 1) rfl (.inl rfl) fi
        have a0 : Blk d8 a1.heap.size 47 [.int .i64 0, .int .i64 0, .int .u64 0, .int .i64 0, .int .i64 0, .int .i64 0, .slice none 0 0, .int .u64 0] := a0.seti 1 rfl fi
        refine ⟨a0.cani 2 rfl rfl, thenW_in fun ev fp => ?_⟩
        have db := dd.x_set (q := a1.heap.size) (i := 2) rfl (.inl rfl) fp
        have a0 : Blk ev a1.heap.size 47 [.int .i64 0, .int .i64 0, .int .u64 0, .int .i64 0, .int .i64 0, .int .i64 0, .slice none 0 0, .int .u64 0] := a0.seti 2 rfl fp
        refine ⟨a0.cani 3 rfl rfl, thenW_in fun en gp => ?_⟩
        have cq := db.x_set (q := a1.heap.size) (i := 3) rfl (.inl rfl) gp
        have a0 : Blk en a1.heap.size 47 [.int .i64 0, .int .i64 0, .int .u64 0, .int .i64 0, .int .i64 0, .int .i64 0, .slice none 0 0, .int .u64 0] := a0.seti 3 rfl gp
        refine ⟨a0.cani 4 rfl rfl, thenW_in fun eo gf => ?_⟩
        have du := cq.x_set (q := a1.heap.size) (i := 4) rfl (.inl rfl) gf
        have a0 : Blk eo a1.heap.size 47 [.int .i64 0, .int .i64 0, .int .u64 0, .int .i64 0, .int .i64 0, .int .i64 0, .slice none 0 0, .int .u64 0] := a0.seti 4 rfl gf
        refine ⟨a0.cani 5 rfl rfl, thenW_in fun dn ge => ?_⟩
        have eh := du.x_set (q := a1.heap.size) (i := 5) rfl (.inl rfl) ge
        have a0 : Blk dn a1.heap.size 47 [.int .i64 0, .int .i64 0, .int .u64 0, .int .i64 0, .int .i64 0, .int .i64 0, .slice none 0 0, .int .u64 0] := a0.seti 5 rfl ge
        refine ⟨a0.cani 6 rfl rfl, thenW_in fun f3 gc => ?_⟩
        have d0 := eh.x_set (q := a1.heap.size) (i := 6) rfl (.inl rfl) gc
        have a0 : Blk f3 a1.heap.size 47 [.int .i64 0, .int .i64 0, .int .u64 0, .int .i64 0, .int .i64 0, .int .i64 0, .slice none 0 0, .int .u64 0] := a0.seti 6 rfl gc
        refine ⟨a0.cani 7 rfl rfl, thenW_in fun cf fb => ?_⟩
        have ds := d0.x_set (q := a1.heap.size) (i := 7) rfl (.inl rfl) fb
        have a0 : Blk cf a1.heap.size 47 [.int .i64 0, .int .i64 0, .int .u64 0, .int .i64 0, .int .i64 0, .int .i64 0, .slice none 0 0, .int .u64 0] := a0.seti 7 rfl fb
        refine ⟨0, 0, 0, 0, 0, 0, none, 0, 0, 0, ⟨a0.celli 0 rfl rfl, a0.celli 1 rfl rfl, a0.celli 2 rfl rfl, a0.celli 3 rfl rfl, a0.celli 4 rfl rfl, a0.celli 5 rfl rfl, a0.celli 6 rfl rfl, a0.celli 7 rfl rfl, trivial⟩, ?_⟩
        have h := h cf ds
        exact h
      · have h := h.2 (not_f ik)
        refine ⟨ao, b0, ⟨aa.celli 0 rfl rfl, aa.celli 1 rfl rfl, trivial⟩, ?_⟩
        have h := h ce (a8.heap.size) cl (Priv.cons bn a7.lt Priv.nil)
        refine h.mono fun k7 eu h => ?_
        obtain ⟨dl, he, hk, h⟩ := h
        refine ⟨dl, he, ?_⟩
        have a0 := hk.blk a0 (by simp)
        have a7 := hk.blk a7 (by simp)
        refine bif_of (fun ia => ?_) (fun ia => ?_)
        · have h := h.1 ia
          have jb : Ext (fun b => b = a1.heap.size) eu eu := ((Ext.refl no eu)).none
          refine ⟨a0.cani 0 rfl rfl, thenW_in fun e2 g5 => ?_⟩
          have dc := jb.x_set (q := a1.heap.size) (i := 0) rfl (.inl rfl) g5
          have a0 : Blk e2 a1.heap.size 47 [.int .i64 0, .int .i64 0, .int .u64 0, .int .i64 0, .int .i64 0, .int .i64 0, .slice none 0 0, .int .u64 0] := a0.seti 0 rfl g5
          refine ⟨a0.cani 1 rfl rfl, thenW_in fun ef gr => ?_⟩
          have ct := dc.x_set (q := a1.heap.size) (i := 1) rfl (.inl rfl) gr
          have a0 : Blk ef a1.heap.size 47 [.int .i64 0, .int .i64 0, .int .u64 0, .int .i64 0, .int .i64 0, .int .i64 0, .slice none 0 0, .int .u64 0] := a0.seti 1 rfl gr
          refine ⟨a0.cani 2 rfl rfl, thenW_in fun e5 fa => ?_⟩
          have dg := ct.x_set (q := a1.heap.size) (i := 2) rfl (.inl rfl) fa
          have a0 : Blk e5 a1.heap.size 47 [.int .i64 0, .int .i64 0, .int .u64 0, .int .i64 0, .int .i64 0, .int .i64 0, .slice none 0 0, .int .u64 0] := a0.seti 2 rfl fa
          refine ⟨a0.cani 3 rfl rfl, thenW_in fun d7 fy => ?_⟩
          have d3 := dg.x_set (q := a1.heap.size) (i := 3) rfl (.inl rfl) fy
          have a0 : Blk d7 a1.heap.size 47 [.int .i64 0, .int .i64 0, .int .u64 0, .int .i64 0, .int .i64 0, .int .i64 0, .slice none 0 0, .int .u64 0] := a0.seti 3 rfl fy
          refine ⟨a0.cani 4 rfl rfl, thenW_in fun f2 fe => ?_⟩
          have ep := d3.x_set (q := a1.heap.size) (i := 4) rfl (.inl rfl) fe
          have a0 : Blk f2 a1.heap.size 47 [.int .i64 0, .int .i64 0, .int .u64 0, .int .i64 0, .int .i64 0, .int .i64 0, .slice none 0 0, .int .u64 0] := a0.seti 4 rfl fe
          refine ⟨a0.cani 5 rfl rfl, thenW_in fun cz fx => ?_⟩
          have e3 := ep.x_set (q := a1.heap.size) (i := 5) rfl (.inl rfl) fx
          have a0 : Blk cz a1.heap.size 47 [.int .i64 0, .int .i64 0, .int .u64 0, .int .i64 0, .int .i64 0, .int .i64 0, .slice none 0 0, .int .u64 0] := a0.seti 5 rfl fx
          refine ⟨a0.cani 6 rfl rfl, thenW_in fun cm fq => ?_⟩
          have f1 := e3.x_set (q := a1.heap.size) (i := 6) rfl (.inl rfl) fq
          have a0 : Blk cm a1.heap.size 47 [.int .i64 0, .int .i64 0, .int .u64 0, .int .i64 0, .int .i64 0, .int .i64 0, .slice none 0 0, .int .u64 0] := a0.seti 6 rfl fq
          refine ⟨a0.cani 7 rfl rfl, thenW_in fun gn jq => ?_⟩
          have jd := f1.x_set (q := a1.heap.size) (i := 7) rfl (.inl rfl) jq
          have a0 : Blk gn a1.heap.size 47 [.int .i64 0, .int .i64 0, .int .u64 0, .int .i64 0, .int .i64 0, .int .i64 0, .slice none 0 0, .int .u64 0] := a0.seti 7 rfl jq
          refine ⟨0, 0, 0, 0, 0, 0, none, 0, 0, 0, ⟨a0.celli 0 rfl rfl, a0.celli 1 rfl rfl, a0.celli 2 rfl rfl, a0.celli 3 rfl rfl, a0.celli 4 rfl rfl, a0.celli 5 rfl rfl, a0.celli 6 rfl rfl, a0.celli 7 rfl rfl, trivial⟩, ?_⟩
          have h := h gn jd
          exact h
        · have h := h.2 ia
          refine ⟨b5, (ap : Int), b4, ao, b0, ac, ah, ag, af, 0, ⟨a7.celli 0 rfl rfl, a7.celli 1 rfl rfl, a7.celli 2 rfl rfl, a7.celli 3 rfl rfl, a7.celli 4 rfl rfl, a7.celli 5 rfl rfl, a7.celli 6 rfl rfl, a7.celli 7 rfl rfl, trivial⟩, ?_⟩
          refine h.mono fun k8 ae h => ?_
          obtain ⟨a3, a5, ad, aw, b1, ak, ay, ax, av, b6, ex, he, hk, h⟩ := h
          refine ⟨a3, a5, ad, aw, b1, ak, ay, ax, av, b6, ex, he, ?_⟩
          have a0 := hk.blk a0 (by simp)
          refine thenW_in fun fl cp => ?_
          have a4 := Blk.of_new cp
          have b8 := ((Ext.refl no ae)).size
          have am := Nat.ne_of_lt a0.lt
          have a0 := a0.x_alloc cp
          have dq := (Ext.refl no ae).x_alloc cp
          refine ⟨a4.cani 0 rfl rfl, thenW_in fun eq cw => ?_⟩
          have cv := dq.x_set (q := ae.heap.size) (i := 0) rfl (.inr b8) cw
          have a0 := a0.oth (q := ae.heap.size) (i := 0) rfl am cw
          have a4 : Blk eq ae.heap.size 47 [.int .i64 a3, .int .i64 0, .int .u64 0, .int .i64 0, .int .i64 0, .int .i64 0, .slice none 0 0, .int .u64 0] := a4.seti 0 rfl cw
          refine ⟨a4.cani 1 rfl rfl, thenW_in fun dr d5 => ?_⟩
          have e0 := cv.x_set (q := ae.heap.size) (i := 1) rfl (.inr b8) d5
          have a0 := a0.oth (q := ae.heap.size) (i := 1) rfl am d5
          have a4 : Blk dr ae.heap.size 47 [.int .i64 a3, .int .i64 a5, .int .u64 0, .int .i64 0, .int .i64 0, .int .i64 0, .slice none 0 0, .int .u64 0] := a4.seti 1 rfl d5
          refine ⟨a4.cani 2 rfl rfl, thenW_in fun e7 dh => ?_⟩
          have di := e0.x_set (q := ae.heap.size) (i := 2) rfl (.inr b8) dh
          have a0 := a0.oth (q := ae.heap.size) (i := 2) rfl am dh
          have a4 : Blk e7 ae.heap.size 47 [.int .i64 a3, .int .i64 a5, .int .u64 ad, .int .i64 0, .int .i64 0, .int .i64 0, .slice none 0 0, .int .u64 0] := a4.seti 2 rfl dh
          refine ⟨a4.cani 3 rfl rfl, thenW_in fun df e6 => ?_⟩
          have ec := di.x_set (q := ae.heap.size) (i := 3) rfl (.inr b8) e6
          have a0 := a0.oth (q := ae.heap.size) (i := 3) rfl am e6
          have a4 : Blk df ae.heap.size 47 [.int .i64 a3, .int .i64 a5, .int .u64 ad, .int .i64 aw, .int .i64 0, .int .i64 0, .slice none 0 0, .int .u64 0] := a4.seti 3 rfl e6
          refine ⟨a4.cani 4 rfl rfl, thenW_in fun dm em => ?_⟩
          have de := ec.x_set (q := ae.heap.size) (i := 4) rfl (.inr b8) em
          have a0 := a0.oth (q := ae.heap.size) (i := 4) rfl am em
          have a4 : Blk dm ae.heap.size 47 [.int .i64 a3, .int .i64 a5, .int .u64 ad, .int .i64 aw, .int .i64 b1, .int .i64 0, .slice none 0 0, .int .u64 0] := a4.seti 4 rfl em
          refine ⟨a4.cani 5 rfl rfl, thenW_in fun e1 e4 => ?_⟩
          have ed := de.x_set (q := ae.heap.size) (i := 5) rfl (.inr b8) e4
          have a0 := a0.oth (q := ae.heap.size) (i := 5) rfl am e4
          have a4 : Blk e1 ae.heap.size 47 [.int .i64 a3, .int .i64 a5, .int .u64 ad, .int .i64 aw, .int .i64 b1, .int .i64 ak, .slice none 0 0, .int .u64 0] := a4.seti 5 rfl e4
          refine ⟨a4.cani 6 rfl rfl, thenW_in fun cb dt => ?_⟩
          have c9 := ed.x_set (q := ae.heap.size) (i := 6) rfl (.inr b8) dt
          have a0 := a0.oth (q := ae.heap.size) (i := 6) rfl am dt
          have a4 : Blk cb ae.heap.size 47 [.int .i64 a3, .int .i64 a5, .int .u64 ad, .int .i64 aw, .int .i64 b1, .int .i64 ak, .slice ay ax av, .int .u64 0] := a4.seti 6 rfl dt
          refine ⟨a4.cani 7 rfl rfl, thenW_in fun g8 ie => ?_⟩
          have fw := c9.x_set (q := ae.heap.size) (i := 7) rfl (.inr b8) ie
          have a0 := a0.oth (q := ae.heap.size) (i := 7) rfl am ie
          have a4 : Blk g8 ae.heap.size 47 [.int .i64 a3, .int .i64 a5, .int .u64 ad, .int .i64 aw, .int .i64 b1, .int .i64 ak, .slice ay ax av, .int .u64 b6] := a4.seti 7 rfl ie
          refine bif_of (fun j1 => ?_) (fun j1 => ?_)
          · have h := h.1 (bne_t j1)
            have i3 : Ext (fun b => b = a1.heap.size) ae g8 := (fw).none
            refine ⟨a0.cani 0 rfl rfl, thenW_in fun f4 ga => ?_⟩
            have ey := i3.x_set (q := a1.heap.size) (i := 0) rfl (.inl rfl) ga
            have a0 : Blk f4 a1.heap.size 47 [.int .i64 0, .int .i64 0, .int .u64 0, .int .i64 0, .int .i64 0, .int .i64 0, .slice none 0 0, .int .u64 0] := a0.seti 0 rfl ga
            refine ⟨a0.cani 1 rfl rfl, thenW_in fun d9 ft => ?_⟩
            have dj := ey.x_set (q := a1.heap.size) (i := 1) rfl (.inl rfl) ft
            have a0 : Blk d9 a1.heap.size 47 [.int .i64 0, .int .i64 0, .int .u64 0, .int .i64 0, .int .i64 0, .int .i64 0, .slice none 0 0, .int .u64 0] := a0.seti 1 rfl ft
            refine ⟨a0.cani 2 rfl rfl, thenW_in fun ez g9 => ?_⟩
            have eb := dj.x_set (q := a1.heap.size) (i := 2) rfl (.inl rfl) g9
            have a0 : Blk ez a1.heap.size 47 [.int .i64 0, .int .i64 0, .int .u64 0, .int .i64 0, .int .i64 0, .int .i64 0, .slice none 0 0, .int .u64 0] := a0.seti 2 rfl g9
            refine ⟨a0.cani 3 rfl rfl, thenW_in fun el f6 => ?_⟩
            have ei := eb.x_set (q := a1.heap.size) (i := 3) rfl (.inl rfl) f6
            have a0 : Blk el a1.heap.size 47 [.int .i64 0, .int .i64 0, .int .u64 0, .int .i64 0, .int .i64 0, .int .i64 0, .slice none 0 0, .int .u64 0] := a0.seti 3 rfl f6
            refine ⟨a0.cani 4 rfl rfl, thenW_in fun ej gm => ?_⟩
            have cy := ei.x_set (q := a1.heap.size) (i := 4) rfl (.inl rfl) gm
            have a0 : Blk ej a1.heap.size 47 [.int .i64 0, .int .i64 0, .int .u64 0, .int .i64 0, .int .i64 0, .int .i64 0, .slice none 0 0, .int .u64 0] := a0.seti 4 rfl gm
            refine ⟨a0.cani 5 rfl rfl, thenW_in fun f5 g1 => ?_⟩
            have da := cy.x_set (q := a1.heap.size) (i := 5) rfl (.inl rfl) g1
            have a0 : Blk f5 a1.heap.size 47 [.int .i64 0, .int .i64 0, .int .u64 0, .int .i64 0, .int .i64 0, .int .i64 0, .slice none 0 0, .int .u64 0] := a0.seti 5 rfl g1
            refine ⟨a0.cani 6 rfl rfl, thenW_in fun cj fz => ?_⟩
            have dk := da.x_set (q := a1.heap.size) (i := 6) rfl (.inl rfl) fz
            have a0 : Blk cj a1.heap.size 47 [.int .i64 0, .int .i64 0, .int .u64 0, .int .i64 0, .int .i64 0, .int .i64 0, .slice none 0 0, .int .u64 0] := a0.seti 6 rfl fz
            refine ⟨a0.cani 7 rfl rfl, thenW_in fun fk k1 => ?_⟩
            have ip := dk.x_set (q := a1.heap.size) (i := 7) rfl (.inl rfl) k1
            have a0 : Blk fk a1.heap.size 47 [.int .i64 0, .int .i64 0, .int .u64 0, .int .i64 0, .int .i64 0, .int .i64 0, .slice none 0 0, .int .u64 0] := a0.seti 7 rfl k1
            refine ⟨0, 0, 0, 0, 0, 0, none, 0, 0, 0, ⟨a0.celli 0 rfl rfl, a0.celli 1 rfl rfl, a0.celli 2 rfl rfl, a0.celli 3 rfl rfl, a0.celli 4 rfl rfl, a0.celli 5 rfl rfl, a0.celli 6 rfl rfl, a0.celli 7 rfl rfl, trivial⟩, ?_⟩
            have h := h fk ip
            exact h
          · have h := h.2 (bne_f j1)
            refine thenW_in fun ff dz => ?_
            have bv := fw.x_drew dz
            have a0 := a0.x_drew dz
            have a4 := a4.x_drew dz
            refine elim_some bb ?_
            obtain ⟨gk, fm, gj, fd, h⟩ := h
            refine ⟨gk, fm, gj, (bv).cell fd id, ?_⟩
            refine ⟨a3, a5, ad, aw, b1, ak, ay, ax, av, b6, ⟨a4.celli 0 rfl rfl, a4.celli 1 rfl rfl, a4.celli 2 rfl rfl, a4.celli 3 rfl rfl, a4.celli 4 rfl rfl, a4.celli 5 rfl rfl, a4.celli 6 rfl rfl, a4.celli 7 rfl rfl, trivial⟩, ?_⟩
            refine thenW_in fun fr br => ?_
            have jf := a4.lt
            have a0 := a0.x_alloc br
            have a4 := a4.x_alloc br
            have h := h fr ff.heap.size (ae.heap.size) (bv.x_alloc br) (Blk.of_new br) (bv).size (size_lt_alloc br) (Privq.cons b8 jf Privq.nil)
            obtain ⟨gl, h⟩ := h
            refine ⟨gl, ?_⟩
            obtain ⟨gt, g7, f7, ba, hr, hk, h⟩ := h
            refine ⟨gt, g7, f7, ba, hr, ?_⟩
            have a0 := hk.blk a0 (by simp)
            have a4 := hk.blk a4 (by simp)
            refine elim_some bb ?_
            obtain ⟨hcs, hof, h⟩ := h
            refine ⟨hcs, thenW_in fun b9 be => ?_⟩
            replace h := thenW_out h be
            have a0 := a0.off (by rw [block_add]; exact hof _ (by simp)) be
            have a4 := a4.off (by rw [block_add]; exact hof _ (by simp)) be
            refine ⟨a3, a5, ad, aw, b1, ak, ay, ax, av, b6, ⟨a4.celli 0 rfl rfl, a4.celli 1 rfl rfl, a4.celli 2 rfl rfl, a4.celli 3 rfl rfl, a4.celli 4 rfl rfl, a4.celli 5 rfl rfl, a4.celli 6 rfl rfl, a4.celli 7 rfl rfl, trivial⟩, ?_⟩
            have fj : Ext (fun b => b = a1.heap.size) b9 b9 := ((Ext.refl no b9)).none
            refine ⟨a0.cani 0 rfl rfl, thenW_in fun bt c4 => ?_⟩
            have c1 := fj.x_set (q := a1.heap.size) (i := 0) rfl (.inl rfl) c4
            have a0 : Blk bt a1.heap.size 47 [.int .i64 a3, .int .i64 0, .int .u64 0, .int .i64 0, .int .i64 0, .int .i64 0, .slice none 0 0, .int .u64 0] := a0.seti 0 rfl c4
            refine ⟨a0.cani 1 rfl rfl, thenW_in fun bh c5 => ?_⟩
            have bw := c1.x_set (q := a1.heap.size) (i := 1) rfl (.inl rfl) c5
            have a0 : Blk bh a1.heap.size 47 [.int .i64 a3, .int .i64 a5, .int .u64 0, .int .i64 0, .int .i64 0, .int .i64 0, .slice none 0 0, .int .u64 0] := a0.seti 1 rfl c5
            refine ⟨a0.cani 2 rfl rfl, thenW_in fun bj bq => ?_⟩
            have c6 := bw.x_set (q := a1.heap.size) (i := 2) rfl (.inl rfl) bq
            have a0 : Blk bj a1.heap.size 47 [.int .i64 a3, .int .i64 a5, .int .u64 ad, .int .i64 0, .int .i64 0, .int .i64 0, .slice none 0 0, .int .u64 0] := a0.seti 2 rfl bq
            refine ⟨a0.cani 3 rfl rfl, thenW_in fun bx bg => ?_⟩
            have bu := c6.x_set (q := a1.heap.size) (i := 3) rfl (.inl rfl) bg
            have a0 : Blk bx a1.heap.size 47 [.int .i64 a3, .int .i64 a5, .int .u64 ad, .int .i64 aw, .int .i64 0, .int .i64 0, .slice none 0 0, .int .u64 0] := a0.seti 3 rfl bg
            refine ⟨a0.cani 4 rfl rfl, thenW_in fun bl c3 => ?_⟩
            have c2 := bu.x_set (q := a1.heap.size) (i := 4) rfl (.inl rfl) c3
            have a0 : Blk bl a1.heap.size 47 [.int .i64 a3, .int .i64 a5, .int .u64 ad, .int .i64 aw, .int .i64 b1, .int .i64 0, .slice none 0 0, .int .u64 0] := a0.seti 4 rfl c3
            refine ⟨a0.cani 5 rfl rfl, thenW_in fun bp c7 => ?_⟩
            have bo := c2.x_set (q := a1.heap.size) (i := 5) rfl (.inl rfl) c7
            have a0 : Blk bp a1.heap.size 47 [.int .i64 a3, .int .i64 a5, .int .u64 ad, .int .i64 aw, .int .i64 b1, .int .i64 ak, .slice none 0 0, .int .u64 0] := a0.seti 5 rfl c7
            refine ⟨a0.cani 6 rfl rfl, thenW_in fun bd bk => ?_⟩
            have bf := bo.x_set (q := a1.heap.size) (i := 6) rfl (.inl rfl) bk
            have a0 : Blk bd a1.heap.size 47 [.int .i64 a3, .int .i64 a5, .int .u64 ad, .int .i64 aw, .int .i64 b1, .int .i64 ak, .slice ay ax av, .int .u64 0] := a0.seti 6 rfl bk
            refine ⟨a0.cani 7 rfl rfl, thenW_in fun co gg => ?_⟩
            have fs := bf.x_set (q := a1.heap.size) (i := 7) rfl (.inl rfl) gg
            have a0 : Blk co a1.heap.size 47 [.int .i64 a3, .int .i64 a5, .int .u64 ad, .int .i64 aw, .int .i64 b1, .int .i64 ak, .slice ay ax av, .int .u64 b6] := a0.seti 7 rfl gg
            refine ⟨a3, a5, ad, aw, b1, ak, ay, ax, av, b6, ⟨a0.celli 0 rfl rfl, a0.celli 1 rfl rfl, a0.celli 2 rfl rfl, a0.celli 3 rfl rfl, a0.celli 4 rfl rfl, a0.celli 5 rfl rfl, a0.celli 6 rfl rfl, a0.celli 7 rfl rfl, trivial⟩, ?_⟩
            have h := h co fs
            exact h
    · have h := h1'
      refine thenW_in fun ih i0 => ?_
      have a7 := Blk.of_new i0
      have bn := (c0).size
      have an := Nat.ne_of_lt aa.lt
      have aa := aa.x_alloc i0
      have al := Nat.ne_of_lt a0.lt
      have a0 := a0.x_alloc i0
      have eg := c0.x_alloc i0
      refine ⟨⟨aa.celli 0 rfl rfl, aa.celli 1 rfl rfl, trivial⟩, (eg).cell f8 id, (eg).cell g3 id, ?_⟩
      have h := h ih (w.heap.size) (a1.heap.size) (a9.heap.size) eg (Priv.cons jy aa.lt (Priv.cons c8 a0.lt (Priv.cons bn a7.lt Priv.nil)))
      refine h.mono fun k5 ch h => ?_
      obtain ⟨bs, fo, b3, he, hk, h⟩ := h
      refine ⟨bs, fo, b3, he, ?_⟩
      have aa := hk.blk aa (by simp)
      have a0 := hk.blk a0 (by simp)
      have a7 := hk.blk a7 (by simp)
      obtain ⟨i8, ib, h⟩ := h
      refine ⟨⟨aa.celli 0 rfl rfl, aa.celli 1 rfl rfl, trivial⟩, i8, ib, ?_⟩
      have i2 : Ext (fun b => b = a9.heap.size) ch ch := ((Ext.refl no ch)).none
      refine ⟨a7.cani 0 rfl rfl, thenW_in fun er cd => ?_⟩
      have d2 := i2.x_set (q := a9.heap.size) (i := 0) rfl (.inl rfl) cd
      have aa := aa.oth (q := a9.heap.size) (i := 0) rfl an cd
      have a0 := a0.oth (q := a9.heap.size) (i := 0) rfl al cd
      have a7 : Blk er a9.heap.size 47 [.int .i64 b5, .int .i64 0, .int .u64 0, .int .i64 0, .int .i64 0, .int .i64 0, .slice none 0 0, .int .u64 0] := a7.seti 0 rfl cd
      refine ⟨a7.cani 1 rfl rfl, thenW_in fun d1 cc => ?_⟩
      have dp := d2.x_set (q := a9.heap.size) (i := 1) rfl (.inl rfl) cc
      have aa := aa.oth (q := a9.heap.size) (i := 1) rfl an cc
      have a0 := a0.oth (q := a9.heap.size) (i := 1) rfl al cc
      have a7 : Blk d1 a9.heap.size 47 [.int .i64 b5, .int .i64 (ap : Int), .int .u64 0, .int .i64 0, .int .i64 0, .int .i64 0, .slice none 0 0, .int .u64 0] := a7.seti 1 rfl cc
      refine ⟨a7.cani 2 rfl rfl, thenW_in fun d4 cn => ?_⟩
      have es := dp.x_set (q := a9.heap.size) (i := 2) rfl (.inl rfl) cn
      have aa := aa.oth (q := a9.heap.size) (i := 2) rfl an cn
      have a0 := a0.oth (q := a9.heap.size) (i := 2) rfl al cn
      have a7 : Blk d4 a9.heap.size 47 [.int .i64 b5, .int .i64 (ap : Int), .int .u64 b3, .int .i64 0, .int .i64 0, .int .i64 0, .slice none 0 0, .int .u64 0] := a7.seti 2 rfl cn
      refine ⟨a7.cani 3 rfl rfl, thenW_in fun cu ca => ?_⟩
      have dv := es.x_set (q := a9.heap.size) (i := 3) rfl (.inl rfl) ca
      have aa := aa.oth (q := a9.heap.size) (i := 3) rfl an ca
      have a0 := a0.oth (q := a9.heap.size) (i := 3) rfl al ca
      have a7 : Blk cu a9.heap.size 47 [.int .i64 b5, .int .i64 (ap : Int), .int .u64 b3, .int .i64 ao, .int .i64 0, .int .i64 0, .slice none 0 0, .int .u64 0] := a7.seti 3 rfl ca
      refine ⟨a7.cani 4 rfl rfl, thenW_in fun ea ck => ?_⟩
      have ew := dv.x_set (q := a9.heap.size) (i := 4) rfl (.inl rfl) ck
      have aa := aa.oth (q := a9.heap.size) (i := 4) rfl an ck
      have a0 := a0.oth (q := a9.heap.size) (i := 4) rfl al ck
      have a7 : Blk ea a9.heap.size 47 [.int .i64 b5, .int .i64 (ap : Int), .int .u64 b3, .int .i64 ao, .int .i64 b0, .int .i64 0, .slice none 0 0, .int .u64 0] := a7.seti 4 rfl ck
      refine ⟨a7.cani 5 rfl rfl, thenW_in fun dy cg => ?_⟩
      have cs := ew.x_set (q := a9.heap.size) (i := 5) rfl (.inl rfl) cg
      have aa := aa.oth (q := a9.heap.size) (i := 5) rfl an cg
      have a0 := a0.oth (q := a9.heap.size) (i := 5) rfl al cg
      have a7 : Blk dy a9.heap.size 47 [.int .i64 b5, .int .i64 (ap : Int), .int .u64 b3, .int .i64 ao, .int .i64 b0, .int .i64 ac, .slice none 0 0, .int .u64 0] := a7.seti 5 rfl cg
      refine ⟨a7.cani 6 rfl rfl, thenW_in fun cx ci => ?_⟩
      have d6 := cs.x_set (q := a9.heap.size) (i := 6) rfl (.inl rfl) ci
      have aa := aa.oth (q := a9.heap.size) (i := 6) rfl an ci
      have a0 := a0.oth (q := a9.heap.size) (i := 6) rfl al ci
      have a7 : Blk cx a9.heap.size 47 [.int .i64 b5, .int .i64 (ap : Int), .int .u64 b3, .int .i64 ao, .int .i64 b0, .int .i64 ac, .slice ah ag af, .int .u64 0] := a7.seti 6 rfl ci
      refine ⟨a7.cani 7 rfl rfl, thenW_in fun ce gy => ?_⟩
      have cl := d6.x_set (q := a9.heap.size) (i := 7) rfl (.inl rfl) gy
      have aa := aa.oth (q := a9.heap.size) (i := 7) rfl an gy
      have a0 := a0.oth (q := a9.heap.size) (i := 7) rfl al gy
      have a7 : Blk ce a9.heap.size 47 [.int .i64 b5, .int .i64 (ap : Int), .int .u64 b3, .int .i64 ao, .int .i64 b0, .int .i64 ac, .slice ah ag af, .int .u64 0] := a7.seti 7 rfl gy
      refine ⟨b5, (ap : Int), b3, ao, b0, ac, ah, ag, af, 0, ⟨a7.celli 0 rfl rfl, a7.celli 1 rfl rfl, a7.celli 2 rfl rfl, a7.celli 3 rfl rfl, a7.celli 4 rfl rfl, a7.celli 5 rfl rfl, a7.celli 6 rfl rfl, a7.celli 7 rfl rfl, trivial⟩, ?_⟩
      refine (cachetteref06_Right.pure b5 (ap : Int) b3 ao b0 ac ah ag af 0).mono fun ee ww48 ⟨he, hxx⟩ => ⟨(cachetteref06_Right.F b5 (ap : Int) b3 ao b0 ac ah ag af 0), he, ?_⟩
      have gd := cl.trans hxx.none
      have aa := aa.ext hxx id
      have a0 := a0.ext hxx id
      have a7 := a7.ext hxx id
      refine bif_of (fun ix => ?_) (fun ix => ?_)
      · have h := h.1 (not_t ix)
        have j7 : Ext (fun b => b = a1.heap.size ∨ b = a9.heap.size) ch ww48 := (gd).mono fun _ h _ => .inr h
        refine ⟨a0.cani 0 rfl rfl, thenW_in fun d8 fi => ?_⟩
        have dd := j7.x_set (q := a1.heap.size) (i := 0) rfl (.inl (.inl rfl)) fi
        have a0 : Blk d8 a1.heap.size 47 [.int .i64 0, .int .i64 0, .int .u64 0, .int .i64 0, .int .i64 0, .int .i64 0, .slice none 0 0, .int .u64 0] := a0.seti 0 rfl fi
        refine ⟨a0.cani 1 rfl rfl, thenW_in fun ev fp => ?_⟩
        have db := dd.x_set (q := a1.heap.size) (i := 1) rfl (.inl (.inl rfl)) fp
        have a0 : Blk ev a1.heap.size 47 [.int .i64 0, .int .i64 0, .int .u64 0, .int .i64 0, .int .i64 0, .int .i64 0, .slice none 0 0, .int .u64 0] := a0.seti 1 rfl fp
        refine ⟨a0.cani 2 rfl rfl, thenW_in fun en gp => ?_⟩
        have cq := db.x_set (q := a1.heap.size) (i := 2) rfl (.inl (.inl rfl)) gp
        have a0 : Blk en a1.heap.size 47 [.int .i64 0, .int .i64 0, .int .u64 0, .int .i64 0, .int .i64 0, .int .i64 0, .slice none 0 0, .int .u64 0] := a0.seti 2 rfl gp
        refine ⟨a0.cani 3 rfl rfl, thenW_in fun eo gf => ?_⟩
        have du := cq.x_set (q := a1.heap.size) (i := 3) rfl (.inl (.inl rfl)) gf
        have a0 : Blk eo a1.heap.size 47 [.int .i64 0, .int .i64 0, .int .u64 0, .int .i64 0, .int .i64 0, .int .i64 0, .slice none 0 0, .int .u64 0] := a0.seti 3 rfl gf
        refine ⟨a0.cani 4 rfl rfl, thenW_in fun dn ge => ?_⟩
        have eh := du.x_set (q := a1.heap.size) (i := 4) rfl (.inl (.inl rfl)) ge
        have a0 : Blk dn a1.heap.size 47 [.int .i64 0, .int .i64 0, .int .u64 0, .int .i64 0, .int .i64 0, .int .i64 0, .slice none 0 0, .int .u64 0] := a0.seti 4 rfl ge
        refine ⟨a0.cani 5 rfl rfl, thenW_in fun f3 gc => ?_⟩
        have d0 := eh.x_set (q := a1.heap.size) (i := 5) rfl (.inl (.inl rfl)) gc
        have a0 : Blk f3 a1.heap.size 47 [.int .i64 0, .int .i64 0, .int .u64 0, .int .i64 0, .int .i64 0, .int .i64 0, .slice none 0 0, .int .u64 0] := a0.seti 5 rfl gc
        refine ⟨a0.cani 6 rfl rfl, thenW_in fun cf fb => ?_⟩
        have ds := d0.x_set (q := a1.heap.size) (i := 6) rfl (.inl (.inl rfl)) fb
        have a0 : Blk cf a1.heap.size 47 [.int .i64 0, .int .i64 0, .int .u64 0, .int .i64 0, .int .i64 0, .int .i64 0, .slice none 0 0, .int .u64 0] := a0.seti 6 rfl fb
        refine ⟨a0.cani 7 rfl rfl, thenW_in fun gu k4 => ?_⟩
        have j5 := ds.x_set (q := a1.heap.size) (i := 7) rfl (.inl (.inl rfl)) k4
        have a0 : Blk gu a1.heap.size 47 [.int .i64 0, .int .i64 0, .int .u64 0, .int .i64 0, .int .i64 0, .int .i64 0, .slice none 0 0, .int .u64 0] := a0.seti 7 rfl k4
        refine ⟨0, 0, 0, 0, 0, 0, none, 0, 0, 0, ⟨a0.celli 0 rfl rfl, a0.celli 1 rfl rfl, a0.celli 2 rfl rfl, a0.celli 3 rfl rfl, a0.celli 4 rfl rfl, a0.celli 5 rfl rfl, a0.celli 6 rfl rfl, a0.celli 7 rfl rfl, trivial⟩, ?_⟩
        have h := h gu j5
        exact h
      · have h := h.2 (not_f ix)
        refine ⟨ao, b0, ⟨aa.celli 0 rfl rfl, aa.celli 1 rfl rfl, trivial⟩, ?_⟩
        have h := h ww48 gd
        refine h.mono fun k6 dx h => ?_
        obtain ⟨ek, he, hk, h⟩ := h
        refine ⟨ek, he, ?_⟩
        have a0 := hk.blk a0 (by simp)
        have a7 := hk.blk a7 (by simp)
        refine bif_of (fun iu => ?_) (fun iu => ?_)
        · have h := h.1 iu
          have ii : Ext (fun b => b = a1.heap.size) dx dx := ((Ext.refl no dx)).none
          refine ⟨a0.cani 0 rfl rfl, thenW_in fun ji k0 => ?_⟩
          have jk := ii.x_set (q := a1.heap.size) (i := 0) rfl (.inl rfl) k0
          have a0 : Blk ji a1.heap.size 47 [.int .i64 0, .int .i64 0, .int .u64 0, .int .i64 0, .int .i64 0, .int .i64 0, .slice none 0 0, .int .u64 0] := a0.seti 0 rfl k0
          refine ⟨a0.cani 1 rfl rfl, thenW_in fun e2 g5 => ?_⟩
          have dc := jk.x_set (q := a1.heap.size) (i := 1) rfl (.inl rfl) g5
          have a0 : Blk e2 a1.heap.size 47 [.int .i64 0, .int .i64 0, .int .u64 0, .int .i64 0, .int .i64 0, .int .i64 0, .slice none 0 0, .int .u64 0] := a0.seti 1 rfl g5
          refine ⟨a0.cani 2 rfl rfl, thenW_in fun ef gr => ?_⟩
          have ct := dc.x_set (q := a1.heap.size) (i := 2) rfl (.inl rfl) gr
          have a0 : Blk ef a1.heap.size 47 [.int .i64 0, .int .i64 0, .int .u64 0, .int .i64 0, .int .i64 0, .int .i64 0, .slice none 0 0, .int .u64 0] := a0.seti 2 rfl gr
          refine ⟨a0.cani 3 rfl rfl, thenW_in fun e5 fa => ?_⟩
          have dg := ct.x_set (q := a1.heap.size) (i := 3) rfl (.inl rfl) fa
          have a0 : Blk e5 a1.heap.size 47 [.int .i64 0, .int .i64 0, .int .u64 0, .int .i64 0, .int .i64 0, .int .i64 0, .slice none 0 0, .int .u64 0] := a0.seti 3 rfl fa
          refine ⟨a0.cani 4 rfl rfl, thenW_in fun d7 fy => ?_⟩
          have d3 := dg.x_set (q := a1.heap.size) (i := 4) rfl (.inl rfl) fy
          have a0 : Blk d7 a1.heap.size 47 [.int .i64 0, .int .i64 0, .int .u64 0, .int .i64 0, .int .i64 0, .int .i64 0, .slice none 0 0, .int .u64 0] := a0.seti 4 rfl fy
          refine ⟨a0.cani 5 rfl rfl, thenW_in fun f2 fe => ?_⟩
          have ep := d3.x_set (q := a1.heap.size) (i := 5) rfl (.inl rfl) fe
          have a0 : Blk f2 a1.heap.size 47 [.int .i64 0, .int .i64 0, .int .u64 0, .int .i64 0, .int .i64 0, .int .i64 0, .slice none 0 0, .int .u64 0] := a0.seti 5 rfl fe
          refine ⟨a0.cani 6 rfl rfl, thenW_in fun cz fx => ?_⟩
          have e3 := ep.x_set (q := a1.heap.size) (i := 6) rfl (.inl rfl) fx
          have a0 : Blk cz a1.heap.size 47 [.int .i64 0, .int .i64 0, .int .u64 0, .int .i64 0, .int .i64 0, .int .i64 0, .slice none 0 0, .int .u64 0] := a0.seti 6 rfl fx
          refine ⟨a0.cani 7 rfl rfl, thenW_in fun cm fq => ?_⟩
          have f1 := e3.x_set (q := a1.heap.size) (i := 7) rfl (.inl rfl) fq
          have a0 : Blk cm a1.heap.size 47 [.int .i64 0, .int .i64 0, .int .u64 0, .int .i64 0, .int .i64 0, .int .i64 0, .slice none 0 0, .int .u64 0] := a0.seti 7 rfl fq
          refine ⟨0, 0, 0, 0, 0, 0, none, 0, 0, 0, ⟨a0.celli 0 rfl rfl, a0.celli 1 rfl rfl, a0.celli 2 rfl rfl, a0.celli 3 rfl rfl, a0.celli 4 rfl rfl, a0.celli 5 rfl rfl, a0.celli 6 rfl rfl, a0.celli 7 rfl rfl, trivial⟩, ?_⟩
          have h := h cm f1
          exact h
        · have h := h.2 iu
          refine ⟨b5, (ap : Int), b3, ao, b0, ac, ah, ag, af, 0, ⟨a7.celli 0 rfl rfl, a7.celli 1 rfl rfl, a7.celli 2 rfl rfl, a7.celli 3 rfl rfl, a7.celli 4 rfl rfl, a7.celli 5 rfl rfl, a7.celli 6 rfl rfl, a7.celli 7 rfl rfl, trivial⟩, ?_⟩
          refine h.mono fun kb ai h => ?_
          obtain ⟨a2, a6, ab, ar, b2, aj, au, az, aq, b7, f0, he, hk, h⟩ := h
          refine ⟨a2, a6, ab, ar, b2, aj, au, az, aq, b7, f0, he, ?_⟩
          have a0 := hk.blk a0 (by simp)
          refine thenW_in fun ae il => ?_
          have a4 := Blk.of_new il
          have b8 := ((Ext.refl no ai)).size
          have am := Nat.ne_of_lt a0.lt
          have a0 := a0.x_alloc il
          have ja := (Ext.refl no ai).x_alloc il
          refine ⟨a4.cani 0 rfl rfl, thenW_in fun fl cp => ?_⟩
          have dq := ja.x_set (q := ai.heap.size) (i := 0) rfl (.inr b8) cp
          have a0 := a0.oth (q := ai.heap.size) (i := 0) rfl am cp
          have a4 : Blk fl ai.heap.size 47 [.int .i64 a2, .int .i64 0, .int .u64 0, .int .i64 0, .int .i64 0, .int .i64 0, .slice none 0 0, .int .u64 0] := a4.seti 0 rfl cp
          refine ⟨a4.cani 1 rfl rfl, thenW_in fun eq cw => ?_⟩
          have cv := dq.x_set (q := ai.heap.size) (i := 1) rfl (.inr b8) cw
          have a0 := a0.oth (q := ai.heap.size) (i := 1) rfl am cw
          have a4 : Blk eq ai.heap.size 47 [.int .i64 a2, .int .i64 a6, .int .u64 0, .int .i64 0, .int .i64 0, .int .i64 0, .slice none 0 0, .int .u64 0] := a4.seti 1 rfl cw
          refine ⟨a4.cani 2 rfl rfl, thenW_in fun dr d5 => ?_⟩
          have e0 := cv.x_set (q := ai.heap.size) (i := 2) rfl (.inr b8) d5
          have a0 := a0.oth (q := ai.heap.size) (i := 2) rfl am d5
          have a4 : Blk dr ai.heap.size 47 [.int .i64 a2, .int .i64 a6, .int .u64 ab, .int .i64 0, .int .i64 0, .int .i64 0, .slice none 0 0, .int .u64 0] := a4.seti 2 rfl d5
          refine ⟨a4.cani 3 rfl rfl, thenW_in fun e7 dh => ?_⟩
          have di := e0.x_set (q := ai.heap.size) (i := 3) rfl (.inr b8) dh
          have a0 := a0.oth (q := ai.heap.size) (i := 3) rfl am dh
          have a4 : Blk e7 ai.heap.size 47 [.int .i64 a2, .int .i64 a6, .int .u64 ab, .int .i64 ar, .int .i64 0, .int .i64 0, .slice none 0 0, .int .u64 0] := a4.seti 3 rfl dh
          refine ⟨a4.cani 4 rfl rfl, thenW_in fun df e6 => ?_⟩
          have ec := di.x_set (q := ai.heap.size) (i := 4) rfl (.inr b8) e6
          have a0 := a0.oth (q := ai.heap.size) (i := 4) rfl am e6
          have a4 : Blk df ai.heap.size 47 [.int .i64 a2, .int .i64 a6, .int .u64 ab, .int .i64 ar, .int .i64 b2, .int .i64 0, .slice none 0 0, .int .u64 0] := a4.seti 4 rfl e6
          refine ⟨a4.cani 5 rfl rfl, thenW_in fun dm em => ?_⟩
          have de := ec.x_set (q := ai.heap.size) (i := 5) rfl (.inr b8) em
          have a0 := a0.oth (q := ai.heap.size) (i := 5) rfl am em
          have a4 : Blk dm ai.heap.size 47 [.int .i64 a2, .int .i64 a6, .int .u64 ab, .int .i64 ar, .int .i64 b2, .int .i64 aj, .slice none 0 0, .int .u64 0] := a4.seti 5 rfl em
          refine ⟨a4.cani 6 rfl rfl, thenW_in fun e1 e4 => ?_⟩
          have ed := de.x_set (q := ai.heap.size) (i := 6) rfl (.inr b8) e4
          have a0 := a0.oth (q := ai.heap.size) (i := 6) rfl am e4
          have a4 : Blk e1 ai.heap.size 47 [.int .i64 a2, .int .i64 a6, .int .u64 ab, .int .i64 ar, .int .i64 b2, .int .i64 aj, .slice au az aq, .int .u64 0] := a4.seti 6 rfl e4
          refine ⟨a4.cani 7 rfl rfl, thenW_in fun cb dt => ?_⟩
          have c9 := ed.x_set (q := ai.heap.size) (i := 7) rfl (.inr b8) dt
          have a0 := a0.oth (q := ai.heap.size) (i := 7) rfl am dt
          have a4 : Blk cb ai.heap.size 47 [.int .i64 a2, .int .i64 a6, .int .u64 ab, .int .i64 ar, .int .i64 b2, .int .i64 aj, .slice au az aq, .int .u64 b7] := a4.seti 7 rfl dt
          refine bif_of (fun jj => ?_) (fun jj => ?_)
          · have h := h.1 (bne_t jj)
            have ic : Ext (fun b => b = a1.heap.size) ai cb := (c9).none
            refine ⟨a0.cani 0 rfl rfl, thenW_in fun jc jz => ?_⟩
            have i7 := ic.x_set (q := a1.heap.size) (i := 0) rfl (.inl rfl) jz
            have a0 : Blk jc a1.heap.size 47 [.int .i64 0, .int .i64 0, .int .u64 0, .int .i64 0, .int .i64 0, .int .i64 0, .slice none 0 0, .int .u64 0] := a0.seti 0 rfl jz
            refine ⟨a0.cani 1 rfl rfl, thenW_in fun f4 ga => ?_⟩
            have ey := i7.x_set (q := a1.heap.size) (i := 1) rfl (.inl rfl) ga
            have a0 : Blk f4 a1.heap.size 47 [.int .i64 0, .int .i64 0, .int .u64 0, .int .i64 0, .int .i64 0, .int .i64 0, .slice none 0 0, .int .u64 0] := a0.seti 1 rfl ga
            refine ⟨a0.cani 2 rfl rfl, thenW_in fun d9 ft => ?_⟩
            have dj := ey.x_set (q := a1.heap.size) (i := 2) rfl (.inl rfl) ft
            have a0 : Blk d9 a1.heap.size 47 [.int .i64 0, .int .i64 0, .int .u64 0, .int .i64 0, .int .i64 0, .int .i64 0, .slice none 0 0, .int .u64 0] := a0.seti 2 rfl ft
            refine ⟨a0.cani 3 rfl rfl, thenW_in fun ez g9 => ?_⟩
            have eb := dj.x_set (q := a1.heap.size) (i := 3) rfl (.inl rfl) g9
            have a0 : Blk ez a1.heap.size 47 [.int .i64 0, .int .i64 0, .int .u64 0, .int .i64 0, .int .i64 0, .int .i64 0, .slice none 0 0, .int .u64 0] := a0.seti 3 rfl g9
            refine ⟨a0.cani 4 rfl rfl, thenW_in fun el f6 => ?_⟩
            have ei := eb.x_set (q := a1.heap.size) (i := 4) rfl (.inl rfl) f6
            have a0 : Blk el a1.heap.size 47 [.int .i64 0, .int .i64 0, .int .u64 0, .int .i64 0, .int .i64 0, .int .i64 0, .slice none 0 0, .int .u64 0] := a0.seti 4 rfl f6
            refine ⟨a0.cani 5 rfl rfl, thenW_in fun ej gm => ?_⟩
            have cy := ei.x_set (q := a1.heap.size) (i := 5) rfl (.inl rfl) gm
            have a0 : Blk ej a1.heap.size 47 [.int .i64 0, .int .i64 0, .int .u64 0, .int .i64 0, .int .i64 0, .int .i64 0, .slice none 0 0, .int .u64 0] := a0.seti 5 rfl gm
            refine ⟨a0.cani 6 rfl rfl, thenW_in fun f5 g1 => ?_⟩
            have da := cy.x_set (q := a1.heap.size) (i := 6) rfl (.inl rfl) g1
            have a0 : Blk f5 a1.heap.size 47 [.int .i64 0, .int .i64 0, .int .u64 0, .int .i64 0, .int .i64 0, .int .i64 0, .slice none 0 0, .int .u64 0] := a0.seti 6 rfl g1
            refine ⟨a0.cani 7 rfl rfl, thenW_in fun cj fz => ?_⟩
            have dk := da.x_set (q := a1.heap.size) (i := 7) rfl (.inl rfl) fz
            have a0 : Blk cj a1.heap.size 47 [.int .i64 0, .int .i64 0, .int .u64 0, .int .i64 0, .int .i64 0, .int .i64 0, .slice none 0 0, .int .u64 0] := a0.seti 7 rfl fz
            refine ⟨0, 0, 0, 0, 0, 0, none, 0, 0, 0, ⟨a0.celli 0 rfl rfl, a0.celli 1 rfl rfl, a0.celli 2 rfl rfl, a0.celli 3 rfl rfl, a0.celli 4 rfl rfl, a0.celli 5 rfl rfl, a0.celli 6 rfl rfl, a0.celli 7 rfl rfl, trivial⟩, ?_⟩
            have h := h cj dk
            exact h
          · have h := h.2 (bne_f jj)
            refine thenW_in fun fg cr => ?_
            have bm := c9.x_drew cr
            have a0 := a0.x_drew cr
            have a4 := a4.x_drew cr
            refine elim_some bb ?_
            obtain ⟨g0, gw, gs, fv, h⟩ := h
            refine ⟨g0, gw, gs, (bm).cell fv id, ?_⟩
            refine ⟨a2, a6, ab, ar, b2, aj, au, az, aq, b7, ⟨a4.celli 0 rfl rfl, a4.celli 1 rfl rfl, a4.celli 2 rfl rfl, a4.celli 3 rfl rfl, a4.celli 4 rfl rfl, a4.celli 5 rfl rfl, a4.celli 6 rfl rfl, a4.celli 7 rfl rfl, trivial⟩, ?_⟩
            refine thenW_in fun g2 bz => ?_
            have jf := a4.lt
            have a0 := a0.x_alloc bz
            have a4 := a4.x_alloc bz
            have h := h g2 fg.heap.size (ai.heap.size) (bm.x_alloc bz) (Blk.of_new bz) (bm).size (size_lt_alloc bz) (Privq.cons b8 jf Privq.nil)
            obtain ⟨f9, h⟩ := h
            refine ⟨f9, ?_⟩
            obtain ⟨fc, fu, gb, g4, hr, hk, h⟩ := h
            refine ⟨fc, fu, gb, g4, hr, ?_⟩
            have a0 := hk.blk a0 (by simp)
            have a4 := hk.blk a4 (by simp)
            refine elim_some bb ?_
            obtain ⟨hcs, hof, h⟩ := h
            refine ⟨hcs, thenW_in fun ba dw => ?_⟩
            replace h := thenW_out h dw
            have a0 := a0.off (by rw [block_add]; exact hof _ (by simp)) dw
            have a4 := a4.off (by rw [block_add]; exact hof _ (by simp)) dw
            refine ⟨a2, a6, ab, ar, b2, aj, au, az, aq, b7, ⟨a4.celli 0 rfl rfl, a4.celli 1 rfl rfl, a4.celli 2 rfl rfl, a4.celli 3 rfl rfl, a4.celli 4 rfl rfl, a4.celli 5 rfl rfl, a4.celli 6 rfl rfl, a4.celli 7 rfl rfl, trivial⟩, ?_⟩
            have gv : Ext (fun b => b = a1.heap.size) ba ba := ((Ext.refl no ba)).none
            refine ⟨a0.cani 0 rfl rfl, thenW_in fun b9 be => ?_⟩
            have fh := gv.x_set (q := a1.heap.size) (i := 0) rfl (.inl rfl) be
            have a0 : Blk b9 a1.heap.size 47 [.int .i64 a2, .int .i64 0, .int .u64 0, .int .i64 0, .int .i64 0, .int .i64 0, .slice none 0 0, .int .u64 0] := a0.seti 0 rfl be
            refine ⟨a0.cani 1 rfl rfl, thenW_in fun bt c4 => ?_⟩
            have c1 := fh.x_set (q := a1.heap.size) (i := 1) rfl (.inl rfl) c4
            have a0 : Blk bt a1.heap.size 47 [.int .i64 a2, .int .i64 a6, .int .u64 0, .int .i64 0, .int .i64 0, .int .i64 0, .slice none 0 0, .int .u64 0] := a0.seti 1 rfl c4
            refine ⟨a0.cani 2 rfl rfl, thenW_in fun bh c5 => ?_⟩
            have bw := c1.x_set (q := a1.heap.size) (i := 2) rfl (.inl rfl) c5
            have a0 : Blk bh a1.heap.size 47 [.int .i64 a2, .int .i64 a6, .int .u64 ab, .int .i64 0, .int .i64 0, .int .i64 0, .slice none 0 0, .int .u64 0] := a0.seti 2 rfl c5
            refine ⟨a0.cani 3 rfl rfl, thenW_in fun bj bq => ?_⟩
            have c6 := bw.x_set (q := a1.heap.size) (i := 3) rfl (.inl rfl) bq
            have a0 : Blk bj a1.heap.size 47 [.int .i64 a2, .int .i64 a6, .int .u64 ab, .int .i64 ar, .int .i64 0, .int .i64 0, .slice none 0 0, .int .u64 0] := a0.seti 3 rfl bq
            refine ⟨a0.cani 4 rfl rfl, thenW_in fun bx bg => ?_⟩
            have bu := c6.x_set (q := a1.heap.size) (i := 4) rfl (.inl rfl) bg
            have a0 : Blk bx a1.heap.size 47 [.int .i64 a2, .int .i64 a6, .int .u64 ab, .int .i64 ar, .int .i64 b2, .int .i64 0, .slice none 0 0, .int .u64 0] := a0.seti 4 rfl bg
            refine ⟨a0.cani 5 rfl rfl, thenW_in fun bl c3 => ?_⟩
            have c2 := bu.x_set (q := a1.heap.size) (i := 5) rfl (.inl rfl) c3
            have a0 : Blk bl a1.heap.size 47 [.int .i64 a2, .int .i64 a6, .int .u64 ab, .int .i64 ar, .int .i64 b2, .int .i64 aj, .slice none 0 0, .int .u64 0] := a0.seti 5 rfl c3
            refine ⟨a0.cani 6 rfl rfl, thenW_in fun bp c7 => ?_⟩
            have bo := c2.x_set (q := a1.heap.size) (i := 6) rfl (.inl rfl) c7
            have a0 : Blk bp a1.heap.size 47 [.int .i64 a2, .int .i64 a6, .int .u64 ab, .int .i64 ar, .int .i64 b2, .int .i64 aj, .slice au az aq, .int .u64 0] := a0.seti 6 rfl c7
            refine ⟨a0.cani 7 rfl rfl, thenW_in fun bd bk => ?_⟩
            have bf := bo.x_set (q := a1.heap.size) (i := 7) rfl (.inl rfl) bk
            have a0 : Blk bd a1.heap.size 47 [.int .i64 a2, .int .i64 a6, .int .u64 ab, .int .i64 ar, .int .i64 b2, .int .i64 aj, .slice au az aq, .int .u64 b7] := a0.seti 7 rfl bk
            refine ⟨a2, a6, ab, ar, b2, aj, au, az, aq, b7, ⟨a0.celli 0 rfl rfl, a0.celli 1 rfl rfl, a0.celli 2 rfl rfl, a0.celli 3 rfl rfl, a0.celli 4 rfl rfl, a0.celli 5 rfl rfl, a0.celli 6 rfl rfl, a0.celli 7 rfl rfl, trivial⟩, ?_⟩
            have h := h bd bf
            exact h

theorem cachetteref07_Log_Issue.go (l1 : Option Addr) (o2 : Option Addr) (a0 : Int) (a5 : Int) (a6 : Int) (a2 : Int) (a1 : Option Addr) (a3 : Nat) (a4 : Nat) {R : Value → World → Prop} {w : World} (h : cachetteref07_Log_Issue.N l1 o2 a0 a5 a6 a2 a1 a3 a4 R w) : Calls Try.prog 16 #[.pointer l1, .pointer o2, .int .u64 a0, .agg #[.int .i64 a5, .int .i64 a6], .int .i64 a2, .slice a1 a3 a4] w fun e w' => ∃ v, e = .returned v ∧ R v w' := cachetteref07_Log_Issue.ok l1 o2 a0 a5 a6 a2 a1 a3 a4 (cachetteref07_Log_Issue.up l1 o2 a0 a5 a6 a2 a1 a3 a4 h)
/-- (*cachetteref07.Log).Cut -/
def cachetteref07_Log_Cut.M (l1 : Option Addr) (n2 : Int) (R : Value → World → Prop) (w : World) : Prop :=
 l1.elim False fun a3 =>
 ∃ (ai : Option Addr) (a0 : Nat) (ah : Nat), w.cell? (a3.add 2) = some (.slice ai a0 ah) ∧
 thenW (w.alloc (.cells #[] 47)) fun ae =>
 l1.elim False fun a6 =>
 ∃ (a9 : Option Addr) (a5 : Nat) (a7 : Nat), ae.cell? (a6.add 2) = some (.slice a9 a5 a7) ∧
 (0 : Int) ≤ ((if ((a0 : Int) : Int) < (if (0 : Int) > n2 then 0 else n2) then (a0 : Int) else (if (0 : Int) > n2 then 0 else n2)) : Int) ∧ ((if ((a0 : Int) : Int) < (if (0 : Int) > n2 then 0 else n2) then (a0 : Int) else (if (0 : Int) > n2 then 0 else n2)) : Int) ≤ (a5 : Int) ∧
 ∃ (ad : Option Addr) (ab : Nat) (af : Nat) (a4 : World), (Builtin.append_ #[40, 40] 40 #[.slice (some (blk w.heap.size)) 0 0, .slice (if a7 = Int.toNat (if ((a0 : Int) : Int) < (if (0 : Int) > n2 then 0 else n2) then (a0 : Int) else (if (0 : Int) > n2 then 0 else n2)) then a9 else Option.map (fun z : Addr => z.add ((Int.toNat (if ((a0 : Int) : Int) < (if (0 : Int) > n2 then 0 else n2) then (a0 : Int) else (if (0 : Int) > n2 then 0 else n2))) * 8)) a9) (a5 - (Int.toNat (if ((a0 : Int) : Int) < (if (0 : Int) > n2 then 0 else n2) then (a0 : Int) else (if (0 : Int) > n2 then 0 else n2)))) (a7 - (Int.toNat (if ((a0 : Int) : Int) < (if (0 : Int) > n2 then 0 else n2) then (a0 : Int) else (if (0 : Int) > n2 then 0 else n2))))]).run Try.prog ae = .ok (.slice ad ab af) a4 ∧
 l1.elim False fun ag =>
 ∃ (a1 : Option Addr) (aa : Nat) (a2 : Nat), a4.cell? (ag.add 2) = some (.slice a1 aa a2) ∧
 (0 : Int) ≤ ((if ((a0 : Int) : Int) < (if (0 : Int) > n2 then 0 else n2) then (a0 : Int) else (if (0 : Int) > n2 then 0 else n2)) : Int) ∧ ((if ((a0 : Int) : Int) < (if (0 : Int) > n2 then 0 else n2) then (a0 : Int) else (if (0 : Int) > n2 then 0 else n2)) : Int) ≤ (a2 : Int) ∧ (0 : Int) ≤ ((if ((a0 : Int) : Int) < (if (0 : Int) > n2 then 0 else n2) then (a0 : Int) else (if (0 : Int) > n2 then 0 else n2)) : Int) ∧ ((if ((a0 : Int) : Int) < (if (0 : Int) > n2 then 0 else n2) then (a0 : Int) else (if (0 : Int) > n2 then 0 else n2)) : Int) ≤ ((if ((a0 : Int) : Int) < (if (0 : Int) > n2 then 0 else n2) then (a0 : Int) else (if (0 : Int) > n2 then 0 else n2)) : Int) ∧
 l1.elim False fun ac =>
 canStore a4 ((ac.add 2).add 0) ∧
 thenW (a4.setCell ((ac.add 2).add 0) (.slice (if Int.toNat (if ((a0 : Int) : Int) < (if (0 : Int) > n2 then 0 else n2) then (a0 : Int) else (if (0 : Int) > n2 then 0 else n2)) = 0 then a1 else Option.map (fun z : Addr => z.add (0 * 8)) a1) ((Int.toNat (if ((a0 : Int) : Int) < (if (0 : Int) > n2 then 0 else n2) then (a0 : Int) else (if (0 : Int) > n2 then 0 else n2))) - 0) ((Int.toNat (if ((a0 : Int) : Int) < (if (0 : Int) > n2 then 0 else n2) then (a0 : Int) else (if (0 : Int) > n2 then 0 else n2))) - 0))) fun a8 =>
 R (.slice ad ab af) a8

theorem cachetteref07_Log_Cut.eq (l1 : Option Addr) (n2 : Int) (R : Value → World → Prop) (w : World) : mfunc Try.prog [] 13 [.pointer l1, .int .i64 n2] R w = cachetteref07_Log_Cut.M l1 n2 R w := by kernel_rfl
theorem cachetteref07_Log_Cut.ok (l1 : Option Addr) (n2 : Int) {R : Value → World → Prop} {w : World} (h : cachetteref07_Log_Cut.M l1 n2 R w) : Calls Try.prog 13 #[.pointer l1, .int .i64 n2] w fun e w' => ∃ v, e = .returned v ∧ R v w' :=
  mfunc_ok follows (H := []) (args := [.pointer l1, .int .i64 n2]) (by rw [cachetteref07_Log_Cut.eq]; exact h)

def cachetteref07_Log_Cut.N (l1 : Option Addr) (n2 : Int) (R : Value → World → Prop) (w : World) : Prop :=
 ∃ a3 : Addr, l1 = some a3 ∧
 ∃ (ae : Option Addr) (a0 : Nat) (af : Nat), w.cell? (a3.add 2) = some (.slice ae a0 af) ∧
 ∀ (a2 : World) (q7 : Nat), Ext no w a2 → Blk a2 q7 47 [] → w.heap.size ≤ q7 → q7 < a2.heap.size →
 ∃ (ad : Option Addr) (a9 : Nat) (ab : Nat), a2.cell? (a3.add 2) = some (.slice ad a9 ab) ∧
 (0 : Int) ≤ ((if ((a0 : Int) : Int) < (if (0 : Int) > n2 then 0 else n2) then (a0 : Int) else (if (0 : Int) > n2 then 0 else n2)) : Int) ∧ ((if ((a0 : Int) : Int) < (if (0 : Int) > n2 then 0 else n2) then (a0 : Int) else (if (0 : Int) > n2 then 0 else n2)) : Int) ≤ (a9 : Int) ∧ 
 ∃ (a4 : Option Addr) (a6 : Nat) (a7 : Nat) (a1 : World), (Builtin.append_ #[40, 40] 40 #[.slice (some (blk q7)) 0 0, .slice (cutA ad ab (Int.toNat (if ((a0 : Int) : Int) < (if (0 : Int) > n2 then 0 else n2) then (a0 : Int) else (if (0 : Int) > n2 then 0 else n2))) 8) (a9 - (Int.toNat (if ((a0 : Int) : Int) < (if (0 : Int) > n2 then 0 else n2) then (a0 : Int) else (if (0 : Int) > n2 then 0 else n2)))) (ab - (Int.toNat (if ((a0 : Int) : Int) < (if (0 : Int) > n2 then 0 else n2) then (a0 : Int) else (if (0 : Int) > n2 then 0 else n2))))]).run Try.prog a2 = .ok (.slice a4 a6 a7) a1 ∧
 ∃ (a5 : Option Addr) (aa : Nat) (a8 : Nat), a1.cell? (a3.add 2) = some (.slice a5 aa a8) ∧
 (0 : Int) ≤ ((if ((a0 : Int) : Int) < (if (0 : Int) > n2 then 0 else n2) then (a0 : Int) else (if (0 : Int) > n2 then 0 else n2)) : Int) ∧ ((if ((a0 : Int) : Int) < (if (0 : Int) > n2 then 0 else n2) then (a0 : Int) else (if (0 : Int) > n2 then 0 else n2)) : Int) ≤ (a8 : Int) ∧ (0 : Int) ≤ ((if ((a0 : Int) : Int) < (if (0 : Int) > n2 then 0 else n2) then (a0 : Int) else (if (0 : Int) > n2 then 0 else n2)) : Int) ∧ ((if ((a0 : Int) : Int) < (if (0 : Int) > n2 then 0 else n2) then (a0 : Int) else (if (0 : Int) > n2 then 0 else n2)) : Int) ≤ ((if ((a0 : Int) : Int) < (if (0 : Int) > n2 then 0 else n2) then (a0 : Int) else (if (0 : Int) > n2 then 0 else n2)) : Int) ∧ 
 canStore a1 ((a3.add 2).add 0) ∧
 thenW (a1.setCell ((a3.add 2).add 0) (.slice a5 (Int.toNat (if ((a0 : Int) : Int) < (if (0 : Int) > n2 then 0 else n2) then (a0 : Int) else (if (0 : Int) > n2 then 0 else n2))) (Int.toNat (if ((a0 : Int) : Int) < (if (0 : Int) > n2 then 0 else n2) then (a0 : Int) else (if (0 : Int) > n2 then 0 else n2))))) fun ac =>
 R (.slice a4 a6 a7) ac

theorem cachetteref07_Log_Cut.up (l1 : Option Addr) (n2 : Int) {R : Value → World → Prop} {w : World} (h : cachetteref07_Log_Cut.N l1 n2 R w) : cachetteref07_Log_Cut.M l1 n2 R w := by
  unfold cachetteref07_Log_Cut.M
  unfold cachetteref07_Log_Cut.N at h
  obtain ⟨a3, a0, h⟩ := h
  refine elim_some a0 ?_
  obtain ⟨al, ai, ao, ad, h⟩ := h
  refine ⟨al, ai, ao, ad, ?_⟩
  refine thenW_in fun am e6 => ?_
  have h := h am w.heap.size ((Ext.refl no w).x_alloc e6) (Blk.of_new e6) ((Ext.refl no w)).size (size_lt_alloc e6)
  refine elim_some a0 ?_
  obtain ⟨ae, ak, ag, ac, h⟩ := h
  refine ⟨ae, ak, ag, ac, ?_⟩
  obtain ⟨a5, a1, h⟩ := h
  refine ⟨a5, a1, ?_⟩
  obtain ⟨ab, a2, a4, a9, hr, h⟩ := h
  refine ⟨ab, a2, a4, a9, hr, ?_⟩
  refine elim_some a0 ?_
  obtain ⟨aa, a6, a8, a7, h⟩ := h
  refine ⟨aa, a6, a8, a7, ?_⟩
  obtain ⟨a5, a1, af, ah, h⟩ := h
  refine ⟨a5, a1, af, ah, ?_⟩
  try rw [cut_zero]
  refine elim_some a0 ?_
  obtain ⟨hcs, h⟩ := h
  refine ⟨hcs, thenW_in fun an aj => ?_⟩
  replace h := thenW_out h aj
  exact h

theorem cachetteref07_Log_Cut.go (l1 : Option Addr) (n2 : Int) {R : Value → World → Prop} {w : World} (h : cachetteref07_Log_Cut.N l1 n2 R w) : Calls Try.prog 13 #[.pointer l1, .int .i64 n2] w fun e w' => ∃ v, e = .returned v ∧ R v w' := cachetteref07_Log_Cut.ok l1 n2 (cachetteref07_Log_Cut.up l1 n2 h)
/-- cachettelaw07.same -/
def cachettelaw07_same.M (l1 : Option Addr) (m2 : Option Addr) (o3 : Option Addr) (R : Value → World → Prop) (w : World) : Prop :=
 thenW (w.drew) fun ar =>
 m2.elim False fun a5 =>
 ∃ (aq : Option Addr) (al : Nat) (ap : Nat), ar.cell? (a5.add 2) = some (.slice aq al ap) ∧
 Calls Try.prog 31 #[.pointer l1] ar fun aw ak => ∃ (ag : Int), aw = .returned (.int .i64 ag) ∧
 ak.cell? (a5.add 2) = some (.slice aq al ap) ∧
 bif ag == (al : Int) then (
 Calls Try.prog 25 #[.pointer l1] ak fun ah ao => ∃ (a1 : Int) (a9 : Int) (ab : Int), ah = .returned (.agg #[.int .i64 a1, .int .i64 a9, .int .u64 ab]) ∧
 Calls Try.prog 32 #[.pointer m2, .pointer o3] ao fun aj a6 => ∃ (a0 : Int) (aa : Int) (a7 : Int), aj = .returned (.agg #[.int .i64 a0, .int .i64 aa, .int .u64 a7]) ∧
 ∃ (au : Bool), (binOp .eql 65 (.agg #[.int .i64 a1, .int .i64 a9, .int .u64 ab]) (.agg #[.int .i64 a0, .int .i64 aa, .int .u64 a7])).run Try.prog a6 = .ok (.bool au) a6 ∧
 bif au then (
 m2.elim False fun av =>
 ∃ (ae : Option Addr) (ac : Nat) (ad : Nat), a6.cell? (av.add 2) = some (.slice ae ac ad) ∧
 Calls Try.prog 33 #[.pointer l1] a6 fun ai af => ∃ (a3 : Option Addr) (a4 : Nat) (a2 : Nat), ai = .returned (.slice a3 a4 a2) ∧
 af.cell? (av.add 2) = some (.slice ae ac ad) ∧
 Calls Try.prog 11 #[.slice a3 a4 a2, .slice ae ac ad] af fun am an => ∃ (a8 : Bool), am = .returned (.bool a8) ∧
 R (.bool a8) an) else (
 R (.bool false) a6)) else (
 R (.bool false) ak)

theorem cachettelaw07_same.eq (l1 : Option Addr) (m2 : Option Addr) (o3 : Option Addr) (R : Value → World → Prop) (w : World) : mfunc Try.prog [] 14 [.pointer l1, .pointer m2, .pointer o3] R w = cachettelaw07_same.M l1 m2 o3 R w := by kernel_rfl
theorem cachettelaw07_same.ok (l1 : Option Addr) (m2 : Option Addr) (o3 : Option Addr) {R : Value → World → Prop} {w : World} (h : cachettelaw07_same.M l1 m2 o3 R w) : Calls Try.prog 14 #[.pointer l1, .pointer m2, .pointer o3] w fun e w' => ∃ v, e = .returned v ∧ R v w' :=
  mfunc_ok follows (H := []) (args := [.pointer l1, .pointer m2, .pointer o3]) (by rw [cachettelaw07_same.eq]; exact h)

def cachettelaw07_same.N (l1 : Option Addr) (m2 : Option Addr) (o3 : Option Addr) (R : Value → World → Prop) (w : World) : Prop :=
 ∃ a5 : Addr, m2 = some a5 ∧
 ∃ (ar : Option Addr) (ai : Nat) (aq : Nat), w.cell? (a5.add 2) = some (.slice ar ai aq) ∧
 ∀ (ap : World), Ext no w ap →
 Calls Try.prog 31 #[.pointer l1] ap fun au ac => ∃ (ae : Int), au = .returned (.int .i64 ae) ∧
 ac.cell? (a5.add 2) = some (.slice ar ai aq) ∧
 (ae = (ai : Int) →
 Calls Try.prog 25 #[.pointer l1] ac fun ak an => ∃ (a1 : Int) (a7 : Int) (a4 : Int), ak = .returned (.agg #[.int .i64 a1, .int .i64 a7, .int .u64 a4]) ∧
 Calls Try.prog 32 #[.pointer m2, .pointer o3] an fun aj ag => ∃ (a0 : Int) (a3 : Int) (a2 : Int), aj = .returned (.agg #[.int .i64 a0, .int .i64 a3, .int .u64 a2]) ∧
 (a1 = a0 ∧ a7 = a3 ∧ a4 = a2 →
 ∃ (af : Option Addr) (ab : Nat) (ad : Nat), ag.cell? (a5.add 2) = some (.slice af ab ad) ∧
 Calls Try.prog 33 #[.pointer l1] ag fun ao ah => ∃ (a9 : Option Addr) (a8 : Nat) (a6 : Nat), ao = .returned (.slice a9 a8 a6) ∧
 ah.cell? (a5.add 2) = some (.slice af ab ad) ∧
 Calls Try.prog 11 #[.slice a9 a8 a6, .slice af ab ad] ah fun al am => ∃ (aa : Bool), al = .returned (.bool aa) ∧
 R (.bool aa) am) ∧
 (¬ (a1 = a0 ∧ a7 = a3 ∧ a4 = a2) →
 R (.bool false) ag)) ∧
 (ae ≠ (ai : Int) →
 R (.bool false) ac)

theorem cachettelaw07_same.up (l1 : Option Addr) (m2 : Option Addr) (o3 : Option Addr) {R : Value → World → Prop} {w : World} (h : cachettelaw07_same.N l1 m2 o3 R w) : cachettelaw07_same.M l1 m2 o3 R w := by
  unfold cachettelaw07_same.M
  unfold cachettelaw07_same.N at h
  refine thenW_in fun av e4 => ?_
  have ak := (Ext.refl no w).x_drew e4
  obtain ⟨a5, al, h⟩ := h
  refine elim_some al ?_
  obtain ⟨ax, ao, aw, ap, h⟩ := h
  refine ⟨ax, ao, aw, (ak).cell ap id, ?_⟩
  have h := h av ak
  refine h.mono fun b2 au h => ?_
  obtain ⟨ag, he, h⟩ := h
  refine ⟨ag, he, ?_⟩
  obtain ⟨aj, h⟩ := h
  refine ⟨aj, ?_⟩
  refine bif_of (fun ah => ?_) (fun ah => ?_)
  · have h := h.1 (beq_t ah)
    refine h.mono fun an ay h => ?_
    obtain ⟨a1, a6, a4, he, h⟩ := h
    refine ⟨a1, a6, a4, he, ?_⟩
    refine h.mono fun am b1 h => ?_
    obtain ⟨a0, a3, a2, he, h⟩ := h
    refine ⟨a0, a3, a2, he, ?_⟩
    refine ⟨_, eqT65_eq a1 a6 a4 a0 a3 a2 _, ?_⟩
    refine bif_of (fun ad => ?_) (fun ad => ?_)
    · have h := h.1 (of_decide_eq_true ad)
      refine elim_some al ?_
      obtain ⟨ai, ac, af, ae, h⟩ := h
      refine ⟨ai, ac, af, ae, ?_⟩
      refine h.mono fun az b0 h => ?_
      obtain ⟨a9, a8, a7, he, h⟩ := h
      refine ⟨a9, a8, a7, he, ?_⟩
      obtain ⟨ab, h⟩ := h
      refine ⟨ab, ?_⟩
      refine h.mono fun aq ar h => ?_
      obtain ⟨aa, he, h⟩ := h
      refine ⟨aa, he, ?_⟩
      exact h
    · have h := h.2 (of_decide_eq_false ad)
      exact h
  · have h := h.2 (beq_f ah)
    exact h

theorem cachettelaw07_same.go (l1 : Option Addr) (m2 : Option Addr) (o3 : Option Addr) {R : Value → World → Prop} {w : World} (h : cachettelaw07_same.N l1 m2 o3 R w) : Calls Try.prog 14 #[.pointer l1, .pointer m2, .pointer o3] w fun e w' => ∃ v, e = .returned v ∧ R v w' := cachettelaw07_same.ok l1 m2 o3 (cachettelaw07_same.up l1 m2 o3 h)
/-- cachettelaw07.turned -/
def cachettelaw07_turned.M (dy : Int) (eg : Int) (ff : Int) (fr : Int) (fw : Int) (ee : Int) (eh : Option Addr) (ed : Nat) (ef : Nat) (fs : Int) (a6 : Int) (R : Value → World → Prop) (w : World) : Prop :=
 thenW (w.alloc (.cells #[.int .i64 dy, .int .i64 eg, .int .u64 ff, .int .i64 fr, .int .i64 fw, .int .i64 ee, .slice eh ed ef, .int .u64 fs] 47)) fun a0 =>
 thenW (a0.alloc (.cells #[.int .i64 0, .int .i64 0, .int .u64 0, .int .i64 0, .int .i64 0, .int .i64 0, .slice none 0 0, .int .u64 0] 47)) fun a1 =>
 bif a6 == 0 then (
 ∃ (el : Int), a1.cell? ((blk w.heap.size).add 7) = some (.int .u64 el) ∧
 canStore a1 (((blk w.heap.size).add 7).add 0) ∧
 thenW (a1.setCell (((blk w.heap.size).add 7).add 0) (.int .u64 (IntKind.u64.wrap ((BitVec.ofInt (IntKind.bits .u64) el ^^^ BitVec.ofInt (IntKind.bits .u64) 1).toNat)))) fun fj =>
 ∃ (c6 : Int) (cp : Int) (dk : Int) (dz : Int) (e9 : Int) (d3 : Int) (dd : Option Addr) (cw : Nat) (cz : Nat) (e0 : Int), cellsAt fj (blk w.heap.size) [.int .i64 c6, .int .i64 cp, .int .u64 dk, .int .i64 dz, .int .i64 e9, .int .i64 d3, .slice dd cw cz, .int .u64 e0] 0 ∧
 canStore fj ((blk a0.heap.size).add 0) ∧
 thenW (fj.setCell ((blk a0.heap.size).add 0) (.int .i64 c6)) fun g2 =>
 canStore g2 ((blk a0.heap.size).add 1) ∧
 thenW (g2.setCell ((blk a0.heap.size).add 1) (.int .i64 cp)) fun g8 =>
 canStore g8 ((blk a0.heap.size).add 2) ∧
 thenW (g8.setCell ((blk a0.heap.size).add 2) (.int .u64 dk)) fun ge =>
 canStore ge ((blk a0.heap.size).add 3) ∧
 thenW (ge.setCell ((blk a0.heap.size).add 3) (.int .i64 dz)) fun fl =>
 canStore fl ((blk a0.heap.size).add 4) ∧
 thenW (fl.setCell ((blk a0.heap.size).add 4) (.int .i64 e9)) fun fu =>
 canStore fu ((blk a0.heap.size).add 5) ∧
 thenW (fu.setCell ((blk a0.heap.size).add 5) (.int .i64 d3)) fun g3 =>
 canStore g3 ((blk a0.heap.size).add 6) ∧
 thenW (g3.setCell ((blk a0.heap.size).add 6) (.slice dd cw cz)) fun fv =>
 canStore fv ((blk a0.heap.size).add 7) ∧
 thenW (fv.setCell ((blk a0.heap.size).add 7) (.int .u64 e0)) fun gd =>
 ∃ (a9 : Int) (b3 : Int) (ca : Int) (d7 : Int) (cy : Int) (b4 : Int) (ay : Option Addr) (b8 : Nat) (b5 : Nat) (d8 : Int), cellsAt gd (blk a0.heap.size) [.int .i64 a9, .int .i64 b3, .int .u64 ca, .int .i64 d7, .int .i64 cy, .int .i64 b4, .slice ay b8 b5, .int .u64 d8] 0 ∧
 R (.agg #[.int .i64 a9, .int .i64 b3, .int .u64 ca, .int .i64 d7, .int .i64 cy, .int .i64 b4, .slice ay b8 b5, .int .u64 d8]) gd) else (
 bif a6 == 1 then (
 thenW (a1.alloc (.cells #[.int .u8 7] 5)) fun g6 =>
 ∃ (dv : Option Addr) (dj : Nat) (dh : Nat), g6.cell? ((blk w.heap.size).add 6) = some (.slice dv dj dh) ∧
 ∃ (fq : Option Addr) (fz : Nat) (fy : Nat) (fi : World), (Builtin.append_ #[43, 43] 43 #[.slice (some (blk a1.heap.size)) 1 1, .slice dv dj dh]).run Try.prog g6 = .ok (.slice fq fz fy) fi ∧
 canStore fi (((blk w.heap.size).add 6).add 0) ∧
 thenW (fi.setCell (((blk w.heap.size).add 6).add 0) (.slice fq fz fy)) fun fk =>
 ∃ (cl : Int) (co : Int) (dn : Int) (ec : Int) (e7 : Int) (d6 : Int) (d9 : Option Addr) (ct : Nat) (cv : Nat) (e4 : Int), cellsAt fk (blk w.heap.size) [.int .i64 cl, .int .i64 co, .int .u64 dn, .int .i64 ec, .int .i64 e7, .int .i64 d6, .slice d9 ct cv, .int .u64 e4] 0 ∧
 canStore fk ((blk a0.heap.size).add 0) ∧
 thenW (fk.setCell ((blk a0.heap.size).add 0) (.int .i64 cl)) fun g7 =>
 canStore g7 ((blk a0.heap.size).add 1) ∧
 thenW (g7.setCell ((blk a0.heap.size).add 1) (.int .i64 co)) fun fm =>
 canStore fm ((blk a0.heap.size).add 2) ∧
 thenW (fm.setCell ((blk a0.heap.size).add 2) (.int .u64 dn)) fun ft =>
 canStore ft ((blk a0.heap.size).add 3) ∧
 thenW (ft.setCell ((blk a0.heap.size).add 3) (.int .i64 ec)) fun g1 =>
 canStore g1 ((blk a0.heap.size).add 4) ∧
 thenW (g1.setCell ((blk a0.heap.size).add 4) (.int .i64 e7)) fun gc =>
 canStore gc ((blk a0.heap.size).add 5) ∧
 thenW (gc.setCell ((blk a0.heap.size).add 5) (.int .i64 d6)) fun g5 =>
 canStore g5 ((blk a0.heap.size).add 6) ∧
 thenW (g5.setCell ((blk a0.heap.size).add 6) (.slice d9 ct cv)) fun g9 =>
 canStore g9 ((blk a0.heap.size).add 7) ∧
 thenW (g9.setCell ((blk a0.heap.size).add 7) (.int .u64 e4)) fun gg =>
 ∃ (ag : Int) (bd : Int) (cj : Int) (d0 : Int) (cu : Int) (az : Int) (bc : Option Addr) (ba : Nat) (bf : Nat) (cn : Int), cellsAt gg (blk a0.heap.size) [.int .i64 ag, .int .i64 bd, .int .u64 cj, .int .i64 d0, .int .i64 cu, .int .i64 az, .slice bc ba bf, .int .u64 cn] 0 ∧
 R (.agg #[.int .i64 ag, .int .i64 bd, .int .u64 cj, .int .i64 d0, .int .i64 cu, .int .i64 az, .slice bc ba bf, .int .u64 cn]) gg) else (
 bif a6 == 2 then (
 ∃ (e8 : Int), a1.cell? ((blk w.heap.size).add 2) = some (.int .u64 e8) ∧
 canStore a1 (((blk w.heap.size).add 2).add 0) ∧
 thenW (a1.setCell (((blk w.heap.size).add 2).add 0) (.int .u64 (IntKind.u64.wrap ((BitVec.ofInt (IntKind.bits .u64) e8 ^^^ BitVec.ofInt (IntKind.bits .u64) 1).toNat)))) fun fg =>
 ∃ (bm : Int) (cm : Int) (di : Int) (e3 : Int) (eb : Int) (d4 : Int) (cx : Option Addr) (db : Nat) (d1 : Nat) (e1 : Int), cellsAt fg (blk w.heap.size) [.int .i64 bm, .int .i64 cm, .int .u64 di, .int .i64 e3, .int .i64 eb, .int .i64 d4, .slice cx db d1, .int .u64 e1] 0 ∧
 canStore fg ((blk a0.heap.size).add 0) ∧
 thenW (fg.setCell ((blk a0.heap.size).add 0) (.int .i64 bm)) fun g0 =>
 canStore g0 ((blk a0.heap.size).add 1) ∧
 thenW (g0.setCell ((blk a0.heap.size).add 1) (.int .i64 cm)) fun gb =>
 canStore gb ((blk a0.heap.size).add 2) ∧
 thenW (gb.setCell ((blk a0.heap.size).add 2) (.int .u64 di)) fun fp =>
 canStore fp ((blk a0.heap.size).add 3) ∧
 thenW (fp.setCell ((blk a0.heap.size).add 3) (.int .i64 e3)) fun gf =>
 canStore gf ((blk a0.heap.size).add 4) ∧
 thenW (gf.setCell ((blk a0.heap.size).add 4) (.int .i64 eb)) fun ga =>
 canStore ga ((blk a0.heap.size).add 5) ∧
 thenW (ga.setCell ((blk a0.heap.size).add 5) (.int .i64 d4)) fun fo =>
 canStore fo ((blk a0.heap.size).add 6) ∧
 thenW (fo.setCell ((blk a0.heap.size).add 6) (.slice cx db d1)) fun fx =>
 canStore fx ((blk a0.heap.size).add 7) ∧
 thenW (fx.setCell ((blk a0.heap.size).add 7) (.int .u64 e1)) fun g4 =>
 ∃ (ao : Int) (bb : Int) (c7 : Int) (da : Int) (cq : Int) (bg : Int) (b6 : Option Addr) (b0 : Nat) (bh : Nat) (cr : Int), cellsAt g4 (blk a0.heap.size) [.int .i64 ao, .int .i64 bb, .int .u64 c7, .int .i64 da, .int .i64 cq, .int .i64 bg, .slice b6 b0 bh, .int .u64 cr] 0 ∧
 R (.agg #[.int .i64 ao, .int .i64 bb, .int .u64 c7, .int .i64 da, .int .i64 cq, .int .i64 bg, .slice b6 b0 bh, .int .u64 cr]) g4) else (
 bif a6 == 3 then (
 ∃ (dq : Int), a1.cell? ((blk w.heap.size).add 1) = some (.int .i64 dq) ∧
 canStore a1 (((blk w.heap.size).add 1).add 0) ∧
 thenW (a1.setCell (((blk w.heap.size).add 1).add 0) (.int .i64 (IntKind.i64.wrap ((BitVec.ofInt (IntKind.bits .i64) dq ^^^ BitVec.ofInt (IntKind.bits .i64) 1).toNat)))) fun fh =>
 ∃ (bn : Int) (d2 : Int) (ds : Int) (e2 : Int) (ea : Int) (cf : Int) (ce : Option Addr) (cg : Nat) (bj : Nat) (df : Int), cellsAt fh (blk w.heap.size) [.int .i64 bn, .int .i64 d2, .int .u64 ds, .int .i64 e2, .int .i64 ea, .int .i64 cf, .slice ce cg bj, .int .u64 df] 0 ∧
 canStore fh ((blk a0.heap.size).add 0) ∧
 thenW (fh.setCell ((blk a0.heap.size).add 0) (.int .i64 bn)) fun ey =>
 canStore ey ((blk a0.heap.size).add 1) ∧
 thenW (ey.setCell ((blk a0.heap.size).add 1) (.int .i64 d2)) fun f5 =>
 canStore f5 ((blk a0.heap.size).add 2) ∧
 thenW (f5.setCell ((blk a0.heap.size).add 2) (.int .u64 ds)) fun fa =>
 canStore fa ((blk a0.heap.size).add 3) ∧
 thenW (fa.setCell ((blk a0.heap.size).add 3) (.int .i64 e2)) fun f6 =>
 canStore f6 ((blk a0.heap.size).add 4) ∧
 thenW (f6.setCell ((blk a0.heap.size).add 4) (.int .i64 ea)) fun eo =>
 canStore eo ((blk a0.heap.size).add 5) ∧
 thenW (eo.setCell ((blk a0.heap.size).add 5) (.int .i64 cf)) fun f0 =>
 canStore f0 ((blk a0.heap.size).add 6) ∧
 thenW (f0.setCell ((blk a0.heap.size).add 6) (.slice ce cg bj)) fun fd =>
 canStore fd ((blk a0.heap.size).add 7) ∧
 thenW (fd.setCell ((blk a0.heap.size).add 7) (.int .u64 df)) fun f9 =>
 ∃ (a4 : Int) (au : Int) (ax : Int) (ci : Int) (c8 : Int) (aj : Int) (an : Option Addr) (ai : Nat) (am : Nat) (br : Int), cellsAt f9 (blk a0.heap.size) [.int .i64 a4, .int .i64 au, .int .u64 ax, .int .i64 ci, .int .i64 c8, .int .i64 aj, .slice an ai am, .int .u64 br] 0 ∧
 R (.agg #[.int .i64 a4, .int .i64 au, .int .u64 ax, .int .i64 ci, .int .i64 c8, .int .i64 aj, .slice an ai am, .int .u64 br]) f9) else (
 bif a6 == 4 then (
 ∃ (bo : Int), a1.cell? ((blk w.heap.size).add 0) = some (.int .i64 bo) ∧
 canStore a1 (((blk w.heap.size).add 0).add 0) ∧
 thenW (a1.setCell (((blk w.heap.size).add 0).add 0) (.int .i64 (IntKind.i64.wrap ((BitVec.ofInt (IntKind.bits .i64) bo ^^^ BitVec.ofInt (IntKind.bits .i64) 1).toNat)))) fun e6 =>
 ∃ (b7 : Int) (bu : Int) (dc : Int) (dl : Int) (du : Int) (c1 : Int) (c3 : Option Addr) (bw : Nat) (bv : Nat) (dt : Int), cellsAt e6 (blk w.heap.size) [.int .i64 b7, .int .i64 bu, .int .u64 dc, .int .i64 dl, .int .i64 du, .int .i64 c1, .slice c3 bw bv, .int .u64 dt] 0 ∧
 canStore e6 ((blk a0.heap.size).add 0) ∧
 thenW (e6.setCell ((blk a0.heap.size).add 0) (.int .i64 b7)) fun fe =>
 canStore fe ((blk a0.heap.size).add 1) ∧
 thenW (fe.setCell ((blk a0.heap.size).add 1) (.int .i64 bu)) fun em =>
 canStore em ((blk a0.heap.size).add 2) ∧
 thenW (em.setCell ((blk a0.heap.size).add 2) (.int .u64 dc)) fun es =>
 canStore es ((blk a0.heap.size).add 3) ∧
 thenW (es.setCell ((blk a0.heap.size).add 3) (.int .i64 dl)) fun fc =>
 canStore fc ((blk a0.heap.size).add 4) ∧
 thenW (fc.setCell ((blk a0.heap.size).add 4) (.int .i64 du)) fun eu =>
 canStore eu ((blk a0.heap.size).add 5) ∧
 thenW (eu.setCell ((blk a0.heap.size).add 5) (.int .i64 c1)) fun fb =>
 canStore fb ((blk a0.heap.size).add 6) ∧
 thenW (fb.setCell ((blk a0.heap.size).add 6) (.slice c3 bw bv)) fun f8 =>
 canStore f8 ((blk a0.heap.size).add 7) ∧
 thenW (f8.setCell ((blk a0.heap.size).add 7) (.int .u64 dt)) fun et =>
 ∃ (a5 : Int) (aq : Int) (b1 : Int) (ch : Int) (bq : Int) (ac : Int) (ad : Option Addr) (ab : Nat) (ae : Nat) (cc : Int), cellsAt et (blk a0.heap.size) [.int .i64 a5, .int .i64 aq, .int .u64 b1, .int .i64 ch, .int .i64 bq, .int .i64 ac, .slice ad ab ae, .int .u64 cc] 0 ∧
 R (.agg #[.int .i64 a5, .int .i64 aq, .int .u64 b1, .int .i64 ch, .int .i64 bq, .int .i64 ac, .slice ad ab ae, .int .u64 cc]) et) else (
 bif a6 == 5 then (
 ∃ (d5 : Int), a1.cell? ((blk w.heap.size).add 5) = some (.int .i64 d5) ∧
 canStore a1 (((blk w.heap.size).add 5).add 0) ∧
 thenW (a1.setCell (((blk w.heap.size).add 5).add 0) (.int .i64 (IntKind.i64.wrap ((BitVec.ofInt (IntKind.bits .i64) d5 ^^^ BitVec.ofInt (IntKind.bits .i64) 1).toNat)))) fun e5 =>
 ∃ (b9 : Int) (c2 : Int) (cs : Int) (dg : Int) (dw : Int) (bx : Int) (cb : Option Addr) (c9 : Nat) (c0 : Nat) (dp : Int), cellsAt e5 (blk w.heap.size) [.int .i64 b9, .int .i64 c2, .int .u64 cs, .int .i64 dg, .int .i64 dw, .int .i64 bx, .slice cb c9 c0, .int .u64 dp] 0 ∧
 canStore e5 ((blk a0.heap.size).add 0) ∧
 thenW (e5.setCell ((blk a0.heap.size).add 0) (.int .i64 b9)) fun ei =>
 canStore ei ((blk a0.heap.size).add 1) ∧
 thenW (ei.setCell ((blk a0.heap.size).add 1) (.int .i64 c2)) fun f2 =>
 canStore f2 ((blk a0.heap.size).add 2) ∧
 thenW (f2.setCell ((blk a0.heap.size).add 2) (.int .u64 cs)) fun f1 =>
 canStore f1 ((blk a0.heap.size).add 3) ∧
 thenW (f1.setCell ((blk a0.heap.size).add 3) (.int .i64 dg)) fun f3 =>
 canStore f3 ((blk a0.heap.size).add 4) ∧
 thenW (f3.setCell ((blk a0.heap.size).add 4) (.int .i64 dw)) fun ev =>
 canStore ev ((blk a0.heap.size).add 5) ∧
 thenW (ev.setCell ((blk a0.heap.size).add 5) (.int .i64 bx)) fun ew =>
 canStore ew ((blk a0.heap.size).add 6) ∧
 thenW (ew.setCell ((blk a0.heap.size).add 6) (.slice cb c9 c0)) fun er =>
 canStore er ((blk a0.heap.size).add 7) ∧
 thenW (er.setCell ((blk a0.heap.size).add 7) (.int .u64 dp)) fun ej =>
 ∃ (a2 : Int) (af : Int) (be : Int) (ck : Int) (bp : Int) (al : Int) (ah : Option Addr) (a8 : Nat) (av : Nat) (bl : Int), cellsAt ej (blk a0.heap.size) [.int .i64 a2, .int .i64 af, .int .u64 be, .int .i64 ck, .int .i64 bp, .int .i64 al, .slice ah a8 av, .int .u64 bl] 0 ∧
 R (.agg #[.int .i64 a2, .int .i64 af, .int .u64 be, .int .i64 ck, .int .i64 bp, .int .i64 al, .slice ah a8 av, .int .u64 bl]) ej) else (
 ∃ (b2 : Int) (bs : Int) (de : Int) (dr : Int) (dm : Int) (c5 : Int) (bt : Option Addr) (bz : Nat) (bk : Nat) (dx : Int), cellsAt a1 (blk w.heap.size) [.int .i64 b2, .int .i64 bs, .int .u64 de, .int .i64 dr, .int .i64 dm, .int .i64 c5, .slice bt bz bk, .int .u64 dx] 0 ∧
 canStore a1 ((blk a0.heap.size).add 0) ∧
 thenW (a1.setCell ((blk a0.heap.size).add 0) (.int .i64 b2)) fun ep =>
 canStore ep ((blk a0.heap.size).add 1) ∧
 thenW (ep.setCell ((blk a0.heap.size).add 1) (.int .i64 bs)) fun ex =>
 canStore ex ((blk a0.heap.size).add 2) ∧
 thenW (ex.setCell ((blk a0.heap.size).add 2) (.int .u64 de)) fun f4 =>
 canStore f4 ((blk a0.heap.size).add 3) ∧
 thenW (f4.setCell ((blk a0.heap.size).add 3) (.int .i64 dr)) fun en =>
 canStore en ((blk a0.heap.size).add 4) ∧
 thenW (en.setCell ((blk a0.heap.size).add 4) (.int .i64 dm)) fun ez =>
 canStore ez ((blk a0.heap.size).add 5) ∧
 thenW (ez.setCell ((blk a0.heap.size).add 5) (.int .i64 c5)) fun eq =>
 canStore eq ((blk a0.heap.size).add 6) ∧
 thenW (eq.setCell ((blk a0.heap.size).add 6) (.slice bt bz bk)) fun ek =>
 canStore ek ((blk a0.heap.size).add 7) ∧
 thenW (ek.setCell ((blk a0.heap.size).add 7) (.int .u64 dx)) fun f7 =>
 ∃ (a3 : Int) (a7 : Int) (aw : Int) (cd : Int) (bi : Int) (ak : Int) (ar : Option Addr) (ap : Nat) (aa : Nat) (c4 : Int), cellsAt f7 (blk a0.heap.size) [.int .i64 a3, .int .i64 a7, .int .u64 aw, .int .i64 cd, .int .i64 bi, .int .i64 ak, .slice ar ap aa, .int .u64 c4] 0 ∧
 R (.agg #[.int .i64 a3, .int .i64 a7, .int .u64 aw, .int .i64 cd, .int .i64 bi, .int .i64 ak, .slice ar ap aa, .int .u64 c4]) f7))))))

theorem cachettelaw07_turned.eq (eWriter1 : Int) (eIndex2 : Int) (ePrev3 : Int) (eAtT4 : Int) (eAtW5 : Int) (eEpoch6 : Int) (eBody7a : Option Addr) (eBody7n : Nat) (eBody7c : Nat) (eSig8 : Int) (field9 : Int) (R : Value → World → Prop) (w : World) : mfunc Try.prog [] 18 [.agg #[.int .i64 eWriter1, .int .i64 eIndex2, .int .u64 ePrev3, .int .i64 eAtT4, .int .i64 eAtW5, .int .i64 eEpoch6, .slice eBody7a eBody7n eBody7c, .int .u64 eSig8], .int .i64 field9] R w = cachettelaw07_turned.M eWriter1 eIndex2 ePrev3 eAtT4 eAtW5 eEpoch6 eBody7a eBody7n eBody7c eSig8 field9 R w := by kernel_rfl
theorem cachettelaw07_turned.ok (a0 : Int) (a3 : Int) (a7 : Int) (a8 : Int) (aa : Int) (a1 : Int) (a4 : Option Addr) (a2 : Nat) (a5 : Nat) (a9 : Int) (a6 : Int) {R : Value → World → Prop} {w : World} (h : cachettelaw07_turned.M a0 a3 a7 a8 aa a1 a4 a2 a5 a9 a6 R w) : Calls Try.prog 18 #[.agg #[.int .i64 a0, .int .i64 a3, .int .u64 a7, .int .i64 a8, .int .i64 aa, .int .i64 a1, .slice a4 a2 a5, .int .u64 a9], .int .i64 a6] w fun e w' => ∃ v, e = .returned v ∧ R v w' :=
  mfunc_ok follows (H := []) (args := [.agg #[.int .i64 a0, .int .i64 a3, .int .u64 a7, .int .i64 a8, .int .i64 aa, .int .i64 a1, .slice a4 a2 a5, .int .u64 a9], .int .i64 a6]) (by rw [cachettelaw07_turned.eq]; exact h)

def cachettelaw07_turned.N (a1 : Int) (a4 : Int) (a7 : Int) (a8 : Int) (aa : Int) (a2 : Int) (a5 : Option Addr) (a3 : Nat) (a6 : Nat) (a9 : Int) (a0 : Int) (R : Value → World → Prop) (w : World) : Prop :=
 (a0 = 0 →
 ∀ (an : World), Ext no w an →
 R (.agg #[.int .i64 a1, .int .i64 a4, .int .u64 a7, .int .i64 a8, .int .i64 aa, .int .i64 a2, .slice a5 a3 a6, .int .u64 (IntKind.u64.wrap ((BitVec.ofInt (IntKind.bits .u64) a9 ^^^ BitVec.ofInt (IntKind.bits .u64) 1).toNat))]) an) ∧
 (a0 ≠ 0 →
 (a0 = 1 →
 ∀ (ab : World) (af : Nat) (ao : Nat) (ap : Nat), Ext no w ab → Blk ab af 5 [.int .u8 7] → w.heap.size ≤ af → af < ab.heap.size → Privq w af [ao, ap] →
 ∃ (ak : Option Addr) (ad : Nat) (ai : Nat) (ac : World), (Builtin.append_ #[43, 43] 43 #[.slice (some (blk af)) 1 1, .slice a5 a3 a6]).run Try.prog ab = .ok (.slice ak ad ai) ac ∧
 Keep [ao, ap] ab ac ∧
 ∀ (al : World), Ext (fun b => b = ap ∨ b = ao) ac al →
 R (.agg #[.int .i64 a1, .int .i64 a4, .int .u64 a7, .int .i64 a8, .int .i64 aa, .int .i64 a2, .slice ak ad ai, .int .u64 a9]) al) ∧
 (a0 ≠ 1 →
 (a0 = 2 →
 ∀ (aj : World), Ext no w aj →
 R (.agg #[.int .i64 a1, .int .i64 a4, .int .u64 (IntKind.u64.wrap ((BitVec.ofInt (IntKind.bits .u64) a7 ^^^ BitVec.ofInt (IntKind.bits .u64) 1).toNat)), .int .i64 a8, .int .i64 aa, .int .i64 a2, .slice a5 a3 a6, .int .u64 a9]) aj) ∧
 (a0 ≠ 2 →
 (a0 = 3 →
 ∀ (ag : World), Ext no w ag →
 R (.agg #[.int .i64 a1, .int .i64 (IntKind.i64.wrap ((BitVec.ofInt (IntKind.bits .i64) a4 ^^^ BitVec.ofInt (IntKind.bits .i64) 1).toNat)), .int .u64 a7, .int .i64 a8, .int .i64 aa, .int .i64 a2, .slice a5 a3 a6, .int .u64 a9]) ag) ∧
 (a0 ≠ 3 →
 (a0 = 4 →
 ∀ (ah : World), Ext no w ah →
 R (.agg #[.int .i64 (IntKind.i64.wrap ((BitVec.ofInt (IntKind.bits .i64) a1 ^^^ BitVec.ofInt (IntKind.bits .i64) 1).toNat)), .int .i64 a4, .int .u64 a7, .int .i64 a8, .int .i64 aa, .int .i64 a2, .slice a5 a3 a6, .int .u64 a9]) ah) ∧
 (a0 ≠ 4 →
 (a0 = 5 →
 ∀ (am : World), Ext no w am →
 R (.agg #[.int .i64 a1, .int .i64 a4, .int .u64 a7, .int .i64 a8, .int .i64 aa, .int .i64 (IntKind.i64.wrap ((BitVec.ofInt (IntKind.bits .i64) a2 ^^^ BitVec.ofInt (IntKind.bits .i64) 1).toNat)), .slice a5 a3 a6, .int .u64 a9]) am) ∧
 (a0 ≠ 5 →
 ∀ (ae : World), Ext no w ae →
 R (.agg #[.int .i64 a1, .int .i64 a4, .int .u64 a7, .int .i64 a8, .int .i64 aa, .int .i64 a2, .slice a5 a3 a6, .int .u64 a9]) ae))))))

theorem cachettelaw07_turned.up (a0 : Int) (a1 : Int) (a2 : Int) (a6 : Int) (aa : Int) (a5 : Int) (a9 : Option Addr) (a7 : Nat) (a8 : Nat) (ab : Int) (ak : Int) {R : Value → World → Prop} {w : World} (h : cachettelaw07_turned.N a0 a1 a2 a6 aa a5 a9 a7 a8 ab ak R w) : cachettelaw07_turned.M a0 a1 a2 a6 aa a5 a9 a7 a8 ab ak R w := by
  unfold cachettelaw07_turned.M
  unfold cachettelaw07_turned.N at h
  refine thenW_in fun a4 fu => ?_
  have ac := Blk.of_new fu
  have al := ((Ext.refl no w)).size
  have aw := (Ext.refl no w).x_alloc fu
  refine thenW_in fun cd bo => ?_
  have a3 := Blk.of_new bo
  have ad := (aw).size
  have ae := Nat.ne_of_lt ac.lt
  have ac := ac.x_alloc bo
  have af := aw.x_alloc bo
  refine bif_of (fun ee => ?_) (fun ee => ?_)
  · have h := h.1 (beq_t ee)
    refine ⟨ab, ac.celli 7 rfl rfl, ?_⟩
    refine ⟨ac.cani 7 rfl rfl, thenW_in fun e0 dx => ?_⟩
    have cn := af.x_set (q := w.heap.size) (i := 7) rfl (.inr al) dx
    have ac : Blk e0 w.heap.size 47 [.int .i64 a0, .int .i64 a1, .int .u64 a2, .int .i64 a6, .int .i64 aa, .int .i64 a5, .slice a9 a7 a8, .int .u64 (IntKind.u64.wrap ((BitVec.ofInt (IntKind.bits .u64) ab ^^^ BitVec.ofInt (IntKind.bits .u64) 1).toNat))] := ac.seti 7 rfl dx
    have a3 := a3.oth (q := w.heap.size) (i := 7) rfl (Ne.symm ae) dx
    refine ⟨a0, a1, a2, a6, aa, a5, a9, a7, a8, (IntKind.u64.wrap ((BitVec.ofInt (IntKind.bits .u64) ab ^^^ BitVec.ofInt (IntKind.bits .u64) 1).toNat)), ⟨ac.celli 0 rfl rfl, ac.celli 1 rfl rfl, ac.celli 2 rfl rfl, ac.celli 3 rfl rfl, ac.celli 4 rfl rfl, ac.celli 5 rfl rfl, ac.celli 6 rfl rfl, ac.celli 7 rfl rfl, trivial⟩, ?_⟩
    refine ⟨a3.cani 0 rfl rfl, thenW_in fun bp g0 => ?_⟩
    have dh := cn.x_set (q := a4.heap.size) (i := 0) rfl (.inr ad) g0
    have a3 : Blk bp a4.heap.size 47 [.int .i64 a0, .int .i64 0, .int .u64 0, .int .i64 0, .int .i64 0, .int .i64 0, .slice none 0 0, .int .u64 0] := a3.seti 0 rfl g0
    refine ⟨a3.cani 1 rfl rfl, thenW_in fun bw fx => ?_⟩
    have b9 := dh.x_set (q := a4.heap.size) (i := 1) rfl (.inr ad) fx
    have a3 : Blk bw a4.heap.size 47 [.int .i64 a0, .int .i64 a1, .int .u64 0, .int .i64 0, .int .i64 0, .int .i64 0, .slice none 0 0, .int .u64 0] := a3.seti 1 rfl fx
    refine ⟨a3.cani 2 rfl rfl, thenW_in fun dc et => ?_⟩
    have ay := b9.x_set (q := a4.heap.size) (i := 2) rfl (.inr ad) et
    have a3 : Blk dc a4.heap.size 47 [.int .i64 a0, .int .i64 a1, .int .u64 a2, .int .i64 0, .int .i64 0, .int .i64 0, .slice none 0 0, .int .u64 0] := a3.seti 2 rfl et
    refine ⟨a3.cani 3 rfl rfl, thenW_in fun ef fa => ?_⟩
    have c0 := ay.x_set (q := a4.heap.size) (i := 3) rfl (.inr ad) fa
    have a3 : Blk ef a4.heap.size 47 [.int .i64 a0, .int .i64 a1, .int .u64 a2, .int .i64 a6, .int .i64 0, .int .i64 0, .slice none 0 0, .int .u64 0] := a3.seti 3 rfl fa
    refine ⟨a3.cani 4 rfl rfl, thenW_in fun d3 fl => ?_⟩
    have cz := c0.x_set (q := a4.heap.size) (i := 4) rfl (.inr ad) fl
    have a3 : Blk d3 a4.heap.size 47 [.int .i64 a0, .int .i64 a1, .int .u64 a2, .int .i64 a6, .int .i64 aa, .int .i64 0, .slice none 0 0, .int .u64 0] := a3.seti 4 rfl fl
    refine ⟨a3.cani 5 rfl rfl, thenW_in fun em ey => ?_⟩
    have dt := cz.x_set (q := a4.heap.size) (i := 5) rfl (.inr ad) ey
    have a3 : Blk em a4.heap.size 47 [.int .i64 a0, .int .i64 a1, .int .u64 a2, .int .i64 a6, .int .i64 aa, .int .i64 a5, .slice none 0 0, .int .u64 0] := a3.seti 5 rfl ey
    refine ⟨a3.cani 6 rfl rfl, thenW_in fun bq fw => ?_⟩
    have c5 := dt.x_set (q := a4.heap.size) (i := 6) rfl (.inr ad) fw
    have a3 : Blk bq a4.heap.size 47 [.int .i64 a0, .int .i64 a1, .int .u64 a2, .int .i64 a6, .int .i64 aa, .int .i64 a5, .slice a9 a7 a8, .int .u64 0] := a3.seti 6 rfl fw
    refine ⟨a3.cani 7 rfl rfl, thenW_in fun ap f0 => ?_⟩
    have dn := c5.x_set (q := a4.heap.size) (i := 7) rfl (.inr ad) f0
    have a3 : Blk ap a4.heap.size 47 [.int .i64 a0, .int .i64 a1, .int .u64 a2, .int .i64 a6, .int .i64 aa, .int .i64 a5, .slice a9 a7 a8, .int .u64 (IntKind.u64.wrap ((BitVec.ofInt (IntKind.bits .u64) ab ^^^ BitVec.ofInt (IntKind.bits .u64) 1).toNat))] := a3.seti 7 rfl f0
    refine ⟨a0, a1, a2, a6, aa, a5, a9, a7, a8, (IntKind.u64.wrap ((BitVec.ofInt (IntKind.bits .u64) ab ^^^ BitVec.ofInt (IntKind.bits .u64) 1).toNat)), ⟨a3.celli 0 rfl rfl, a3.celli 1 rfl rfl, a3.celli 2 rfl rfl, a3.celli 3 rfl rfl, a3.celli 4 rfl rfl, a3.celli 5 rfl rfl, a3.celli 6 rfl rfl, a3.celli 7 rfl rfl, trivial⟩, ?_⟩
    have h := h ap dn
    exact h
  · have h := h.2 (beq_f ee)
    refine bif_of (fun eh => ?_) (fun eh => ?_)
    · have h := h.1 (beq_t eh)
      refine thenW_in fun b1 an => ?_
      have gc := ac.lt
      have gb := a3.lt
      have ac := ac.x_alloc an
      have a3 := a3.x_alloc an
      have h := h b1 cd.heap.size (w.heap.size) (a4.heap.size) (af.x_alloc an) (Blk.of_new an) (af).size (size_lt_alloc an) (Privq.cons al gc (Privq.cons ad gb Privq.nil))
      refine ⟨a9, a7, a8, ac.celli 6 rfl rfl, ?_⟩
      obtain ⟨ag, ai, ah, aj, hr, hk, h⟩ := h
      refine ⟨ag, ai, ah, aj, hr, ?_⟩
      have ac := hk.blk ac (by simp)
      have a3 := hk.blk a3 (by simp)
      have da : Ext (fun b => b = w.heap.size) aj aj := ((Ext.refl no aj)).none
      refine ⟨ac.cani 6 rfl rfl, thenW_in fun aq bu => ?_⟩
      have dw := da.x_set (q := w.heap.size) (i := 6) rfl (.inl rfl) bu
      have ac : Blk aq w.heap.size 47 [.int .i64 a0, .int .i64 a1, .int .u64 a2, .int .i64 a6, .int .i64 aa, .int .i64 a5, .slice ag ai ah, .int .u64 ab] := ac.seti 6 rfl bu
      have a3 := a3.oth (q := w.heap.size) (i := 6) rfl (Ne.symm ae) bu
      refine ⟨a0, a1, a2, a6, aa, a5, ag, ai, ah, ab, ⟨ac.celli 0 rfl rfl, ac.celli 1 rfl rfl, ac.celli 2 rfl rfl, ac.celli 3 rfl rfl, ac.celli 4 rfl rfl, ac.celli 5 rfl rfl, ac.celli 6 rfl rfl, ac.celli 7 rfl rfl, trivial⟩, ?_⟩
      have c6 : Ext (fun b => b = a4.heap.size ∨ b = w.heap.size) aj aq := (dw).mono fun _ h _ => .inr h
      refine ⟨a3.cani 0 rfl rfl, thenW_in fun ea fd => ?_⟩
      have dg := c6.x_set (q := a4.heap.size) (i := 0) rfl (.inl (.inl rfl)) fd
      have a3 : Blk ea a4.heap.size 47 [.int .i64 a0, .int .i64 0, .int .u64 0, .int .i64 0, .int .i64 0, .int .i64 0, .slice none 0 0, .int .u64 0] := a3.seti 0 rfl fd
      refine ⟨a3.cani 1 rfl rfl, thenW_in fun d8 fq => ?_⟩
      have bi := dg.x_set (q := a4.heap.size) (i := 1) rfl (.inl (.inl rfl)) fq
      have a3 : Blk d8 a4.heap.size 47 [.int .i64 a0, .int .i64 a1, .int .u64 0, .int .i64 0, .int .i64 0, .int .i64 0, .slice none 0 0, .int .u64 0] := a3.seti 1 rfl fq
      refine ⟨a3.cani 2 rfl rfl, thenW_in fun e1 ev => ?_⟩
      have ba := bi.x_set (q := a4.heap.size) (i := 2) rfl (.inl (.inl rfl)) ev
      have a3 : Blk e1 a4.heap.size 47 [.int .i64 a0, .int .i64 a1, .int .u64 a2, .int .i64 0, .int .i64 0, .int .i64 0, .slice none 0 0, .int .u64 0] := a3.seti 2 rfl ev
      refine ⟨a3.cani 3 rfl rfl, thenW_in fun ci fg => ?_⟩
      have dm := ba.x_set (q := a4.heap.size) (i := 3) rfl (.inl (.inl rfl)) fg
      have a3 : Blk ci a4.heap.size 47 [.int .i64 a0, .int .i64 a1, .int .u64 a2, .int .i64 a6, .int .i64 0, .int .i64 0, .slice none 0 0, .int .u64 0] := a3.seti 3 rfl fg
      refine ⟨a3.cani 4 rfl rfl, thenW_in fun ce ft => ?_⟩
      have cg := dm.x_set (q := a4.heap.size) (i := 4) rfl (.inl (.inl rfl)) ft
      have a3 : Blk ce a4.heap.size 47 [.int .i64 a0, .int .i64 a1, .int .u64 a2, .int .i64 a6, .int .i64 aa, .int .i64 0, .slice none 0 0, .int .u64 0] := a3.seti 4 rfl ft
      refine ⟨a3.cani 5 rfl rfl, thenW_in fun c3 g3 => ?_⟩
      have bb := cg.x_set (q := a4.heap.size) (i := 5) rfl (.inl (.inl rfl)) g3
      have a3 : Blk c3 a4.heap.size 47 [.int .i64 a0, .int .i64 a1, .int .u64 a2, .int .i64 a6, .int .i64 aa, .int .i64 a5, .slice none 0 0, .int .u64 0] := a3.seti 5 rfl g3
      refine ⟨a3.cani 6 rfl rfl, thenW_in fun d4 ez => ?_⟩
      have d1 := bb.x_set (q := a4.heap.size) (i := 6) rfl (.inl (.inl rfl)) ez
      have a3 : Blk d4 a4.heap.size 47 [.int .i64 a0, .int .i64 a1, .int .u64 a2, .int .i64 a6, .int .i64 aa, .int .i64 a5, .slice ag ai ah, .int .u64 0] := a3.seti 6 rfl ez
      refine ⟨a3.cani 7 rfl rfl, thenW_in fun ar eq => ?_⟩
      have eb := d1.x_set (q := a4.heap.size) (i := 7) rfl (.inl (.inl rfl)) eq
      have a3 : Blk ar a4.heap.size 47 [.int .i64 a0, .int .i64 a1, .int .u64 a2, .int .i64 a6, .int .i64 aa, .int .i64 a5, .slice ag ai ah, .int .u64 ab] := a3.seti 7 rfl eq
      refine ⟨a0, a1, a2, a6, aa, a5, ag, ai, ah, ab, ⟨a3.celli 0 rfl rfl, a3.celli 1 rfl rfl, a3.celli 2 rfl rfl, a3.celli 3 rfl rfl, a3.celli 4 rfl rfl, a3.celli 5 rfl rfl, a3.celli 6 rfl rfl, a3.celli 7 rfl rfl, trivial⟩, ?_⟩
      have h := h ar eb
      exact h
    · have h := h.2 (beq_f eh)
      refine bif_of (fun b2 => ?_) (fun b2 => ?_)
      · have h := h.1 (beq_t b2)
        refine ⟨a2, ac.celli 2 rfl rfl, ?_⟩
        refine ⟨ac.cani 2 rfl rfl, thenW_in fun dv d5 => ?_⟩
        have cs := af.x_set (q := w.heap.size) (i := 2) rfl (.inr al) d5
        have ac : Blk dv w.heap.size 47 [.int .i64 a0, .int .i64 a1, .int .u64 (IntKind.u64.wrap ((BitVec.ofInt (IntKind.bits .u64) a2 ^^^ BitVec.ofInt (IntKind.bits .u64) 1).toNat)), .int .i64 a6, .int .i64 aa, .int .i64 a5, .slice a9 a7 a8, .int .u64 ab] := ac.seti 2 rfl d5
        have a3 := a3.oth (q := w.heap.size) (i := 2) rfl (Ne.symm ae) d5
        refine ⟨a0, a1, (IntKind.u64.wrap ((BitVec.ofInt (IntKind.bits .u64) a2 ^^^ BitVec.ofInt (IntKind.bits .u64) 1).toNat)), a6, aa, a5, a9, a7, a8, ab, ⟨ac.celli 0 rfl rfl, ac.celli 1 rfl rfl, ac.celli 2 rfl rfl, ac.celli 3 rfl rfl, ac.celli 4 rfl rfl, ac.celli 5 rfl rfl, ac.celli 6 rfl rfl, ac.celli 7 rfl rfl, trivial⟩, ?_⟩
        refine ⟨a3.cani 0 rfl rfl, thenW_in fun ei g2 => ?_⟩
        have cr := cs.x_set (q := a4.heap.size) (i := 0) rfl (.inr ad) g2
        have a3 : Blk ei a4.heap.size 47 [.int .i64 a0, .int .i64 0, .int .u64 0, .int .i64 0, .int .i64 0, .int .i64 0, .slice none 0 0, .int .u64 0] := a3.seti 0 rfl g2
        refine ⟨a3.cani 1 rfl rfl, thenW_in fun cj f7 => ?_⟩
        have ds := cr.x_set (q := a4.heap.size) (i := 1) rfl (.inr ad) f7
        have a3 : Blk cj a4.heap.size 47 [.int .i64 a0, .int .i64 a1, .int .u64 0, .int .i64 0, .int .i64 0, .int .i64 0, .slice none 0 0, .int .u64 0] := a3.seti 1 rfl f7
        refine ⟨a3.cani 2 rfl rfl, thenW_in fun d6 ew => ?_⟩
        have dd := ds.x_set (q := a4.heap.size) (i := 2) rfl (.inr ad) ew
        have a3 : Blk d6 a4.heap.size 47 [.int .i64 a0, .int .i64 a1, .int .u64 (IntKind.u64.wrap ((BitVec.ofInt (IntKind.bits .u64) a2 ^^^ BitVec.ofInt (IntKind.bits .u64) 1).toNat)), .int .i64 0, .int .i64 0, .int .i64 0, .slice none 0 0, .int .u64 0] := a3.seti 2 rfl ew
        refine ⟨a3.cani 3 rfl rfl, thenW_in fun b0 f5 => ?_⟩
        have c9 := dd.x_set (q := a4.heap.size) (i := 3) rfl (.inr ad) f5
        have a3 : Blk b0 a4.heap.size 47 [.int .i64 a0, .int .i64 a1, .int .u64 (IntKind.u64.wrap ((BitVec.ofInt (IntKind.bits .u64) a2 ^^^ BitVec.ofInt (IntKind.bits .u64) 1).toNat)), .int .i64 a6, .int .i64 0, .int .i64 0, .slice none 0 0, .int .u64 0] := a3.seti 3 rfl f5
        refine ⟨a3.cani 4 rfl rfl, thenW_in fun d2 fv => ?_⟩
        have en := c9.x_set (q := a4.heap.size) (i := 4) rfl (.inr ad) fv
        have a3 : Blk d2 a4.heap.size 47 [.int .i64 a0, .int .i64 a1, .int .u64 (IntKind.u64.wrap ((BitVec.ofInt (IntKind.bits .u64) a2 ^^^ BitVec.ofInt (IntKind.bits .u64) 1).toNat)), .int .i64 a6, .int .i64 aa, .int .i64 0, .slice none 0 0, .int .u64 0] := a3.seti 4 rfl fv
        refine ⟨a3.cani 5 rfl rfl, thenW_in fun cq ex => ?_⟩
        have bm := en.x_set (q := a4.heap.size) (i := 5) rfl (.inr ad) ex
        have a3 : Blk cq a4.heap.size 47 [.int .i64 a0, .int .i64 a1, .int .u64 (IntKind.u64.wrap ((BitVec.ofInt (IntKind.bits .u64) a2 ^^^ BitVec.ofInt (IntKind.bits .u64) 1).toNat)), .int .i64 a6, .int .i64 aa, .int .i64 a5, .slice none 0 0, .int .u64 0] := a3.seti 5 rfl ex
        refine ⟨a3.cani 6 rfl rfl, thenW_in fun be fe => ?_⟩
        have b7 := bm.x_set (q := a4.heap.size) (i := 6) rfl (.inr ad) fe
        have a3 : Blk be a4.heap.size 47 [.int .i64 a0, .int .i64 a1, .int .u64 (IntKind.u64.wrap ((BitVec.ofInt (IntKind.bits .u64) a2 ^^^ BitVec.ofInt (IntKind.bits .u64) 1).toNat)), .int .i64 a6, .int .i64 aa, .int .i64 a5, .slice a9 a7 a8, .int .u64 0] := a3.seti 6 rfl fe
        refine ⟨a3.cani 7 rfl rfl, thenW_in fun ao g1 => ?_⟩
        have d0 := b7.x_set (q := a4.heap.size) (i := 7) rfl (.inr ad) g1
        have a3 : Blk ao a4.heap.size 47 [.int .i64 a0, .int .i64 a1, .int .u64 (IntKind.u64.wrap ((BitVec.ofInt (IntKind.bits .u64) a2 ^^^ BitVec.ofInt (IntKind.bits .u64) 1).toNat)), .int .i64 a6, .int .i64 aa, .int .i64 a5, .slice a9 a7 a8, .int .u64 ab] := a3.seti 7 rfl g1
        refine ⟨a0, a1, (IntKind.u64.wrap ((BitVec.ofInt (IntKind.bits .u64) a2 ^^^ BitVec.ofInt (IntKind.bits .u64) 1).toNat)), a6, aa, a5, a9, a7, a8, ab, ⟨a3.celli 0 rfl rfl, a3.celli 1 rfl rfl, a3.celli 2 rfl rfl, a3.celli 3 rfl rfl, a3.celli 4 rfl rfl, a3.celli 5 rfl rfl, a3.celli 6 rfl rfl, a3.celli 7 rfl rfl, trivial⟩, ?_⟩
        have h := h ao d0
        exact h
      · have h := h.2 (beq_f b2)
        refine bif_of (fun db => ?_) (fun db => ?_)
        · have h := h.1 (beq_t db)
          refine ⟨a1, ac.celli 1 rfl rfl, ?_⟩
          refine ⟨ac.cani 1 rfl rfl, thenW_in fun bk bh => ?_⟩
          have cy := af.x_set (q := w.heap.size) (i := 1) rfl (.inr al) bh
          have ac : Blk bk w.heap.size 47 [.int .i64 a0, .int .i64 (IntKind.i64.wrap ((BitVec.ofInt (IntKind.bits .i64) a1 ^^^ BitVec.ofInt (IntKind.bits .i64) 1).toNat)), .int .u64 a2, .int .i64 a6, .int .i64 aa, .int .i64 a5, .slice a9 a7 a8, .int .u64 ab] := ac.seti 1 rfl bh
          have a3 := a3.oth (q := w.heap.size) (i := 1) rfl (Ne.symm ae) bh
          refine ⟨a0, (IntKind.i64.wrap ((BitVec.ofInt (IntKind.bits .i64) a1 ^^^ BitVec.ofInt (IntKind.bits .i64) 1).toNat)), a2, a6, aa, a5, a9, a7, a8, ab, ⟨ac.celli 0 rfl rfl, ac.celli 1 rfl rfl, ac.celli 2 rfl rfl, ac.celli 3 rfl rfl, ac.celli 4 rfl rfl, ac.celli 5 rfl rfl, ac.celli 6 rfl rfl, ac.celli 7 rfl rfl, trivial⟩, ?_⟩
          refine ⟨a3.cani 0 rfl rfl, thenW_in fun ck eu => ?_⟩
          have e9 := cy.x_set (q := a4.heap.size) (i := 0) rfl (.inr ad) eu
          have a3 : Blk ck a4.heap.size 47 [.int .i64 a0, .int .i64 0, .int .u64 0, .int .i64 0, .int .i64 0, .int .i64 0, .slice none 0 0, .int .u64 0] := a3.seti 0 rfl eu
          refine ⟨a3.cani 1 rfl rfl, thenW_in fun e7 ep => ?_⟩
          have dk := e9.x_set (q := a4.heap.size) (i := 1) rfl (.inr ad) ep
          have a3 : Blk e7 a4.heap.size 47 [.int .i64 a0, .int .i64 (IntKind.i64.wrap ((BitVec.ofInt (IntKind.bits .i64) a1 ^^^ BitVec.ofInt (IntKind.bits .i64) 1).toNat)), .int .u64 0, .int .i64 0, .int .i64 0, .int .i64 0, .slice none 0 0, .int .u64 0] := a3.seti 1 rfl ep
          refine ⟨a3.cani 2 rfl rfl, thenW_in fun cx f3 => ?_⟩
          have cu := dk.x_set (q := a4.heap.size) (i := 2) rfl (.inr ad) f3
          have a3 : Blk cx a4.heap.size 47 [.int .i64 a0, .int .i64 (IntKind.i64.wrap ((BitVec.ofInt (IntKind.bits .i64) a1 ^^^ BitVec.ofInt (IntKind.bits .i64) 1).toNat)), .int .u64 a2, .int .i64 0, .int .i64 0, .int .i64 0, .slice none 0 0, .int .u64 0] := a3.seti 2 rfl f3
          refine ⟨a3.cani 3 rfl rfl, thenW_in fun dq g7 => ?_⟩
          have df := cu.x_set (q := a4.heap.size) (i := 3) rfl (.inr ad) g7
          have a3 : Blk dq a4.heap.size 47 [.int .i64 a0, .int .i64 (IntKind.i64.wrap ((BitVec.ofInt (IntKind.bits .i64) a1 ^^^ BitVec.ofInt (IntKind.bits .i64) 1).toNat)), .int .u64 a2, .int .i64 a6, .int .i64 0, .int .i64 0, .slice none 0 0, .int .u64 0] := a3.seti 3 rfl g7
          refine ⟨a3.cani 4 rfl rfl, thenW_in fun eo fo => ?_⟩
          have ca := df.x_set (q := a4.heap.size) (i := 4) rfl (.inr ad) fo
          have a3 : Blk eo a4.heap.size 47 [.int .i64 a0, .int .i64 (IntKind.i64.wrap ((BitVec.ofInt (IntKind.bits .i64) a1 ^^^ BitVec.ofInt (IntKind.bits .i64) 1).toNat)), .int .u64 a2, .int .i64 a6, .int .i64 aa, .int .i64 0, .slice none 0 0, .int .u64 0] := a3.seti 4 rfl fo
          refine ⟨a3.cani 5 rfl rfl, thenW_in fun c8 f9 => ?_⟩
          have e5 := ca.x_set (q := a4.heap.size) (i := 5) rfl (.inr ad) f9
          have a3 : Blk c8 a4.heap.size 47 [.int .i64 a0, .int .i64 (IntKind.i64.wrap ((BitVec.ofInt (IntKind.bits .i64) a1 ^^^ BitVec.ofInt (IntKind.bits .i64) 1).toNat)), .int .u64 a2, .int .i64 a6, .int .i64 aa, .int .i64 a5, .slice none 0 0, .int .u64 0] := a3.seti 5 rfl f9
          refine ⟨a3.cani 6 rfl rfl, thenW_in fun dy fb => ?_⟩
          have bc := e5.x_set (q := a4.heap.size) (i := 6) rfl (.inr ad) fb
          have a3 : Blk dy a4.heap.size 47 [.int .i64 a0, .int .i64 (IntKind.i64.wrap ((BitVec.ofInt (IntKind.bits .i64) a1 ^^^ BitVec.ofInt (IntKind.bits .i64) 1).toNat)), .int .u64 a2, .int .i64 a6, .int .i64 aa, .int .i64 a5, .slice a9 a7 a8, .int .u64 0] := a3.seti 6 rfl fb
          refine ⟨a3.cani 7 rfl rfl, thenW_in fun av fm => ?_⟩
          have cf := bc.x_set (q := a4.heap.size) (i := 7) rfl (.inr ad) fm
          have a3 : Blk av a4.heap.size 47 [.int .i64 a0, .int .i64 (IntKind.i64.wrap ((BitVec.ofInt (IntKind.bits .i64) a1 ^^^ BitVec.ofInt (IntKind.bits .i64) 1).toNat)), .int .u64 a2, .int .i64 a6, .int .i64 aa, .int .i64 a5, .slice a9 a7 a8, .int .u64 ab] := a3.seti 7 rfl fm
          refine ⟨a0, (IntKind.i64.wrap ((BitVec.ofInt (IntKind.bits .i64) a1 ^^^ BitVec.ofInt (IntKind.bits .i64) 1).toNat)), a2, a6, aa, a5, a9, a7, a8, ab, ⟨a3.celli 0 rfl rfl, a3.celli 1 rfl rfl, a3.celli 2 rfl rfl, a3.celli 3 rfl rfl, a3.celli 4 rfl rfl, a3.celli 5 rfl rfl, a3.celli 6 rfl rfl, a3.celli 7 rfl rfl, trivial⟩, ?_⟩
          have h := h av cf
          exact h
        · have h := h.2 (beq_f db)
          refine bif_of (fun bg => ?_) (fun bg => ?_)
          · have h := h.1 (beq_t bg)
            refine ⟨a0, ac.celli 0 rfl rfl, ?_⟩
            refine ⟨ac.cani 0 rfl rfl, thenW_in fun bz br => ?_⟩
            have bv := af.x_set (q := w.heap.size) (i := 0) rfl (.inr al) br
            have ac : Blk bz w.heap.size 47 [.int .i64 (IntKind.i64.wrap ((BitVec.ofInt (IntKind.bits .i64) a0 ^^^ BitVec.ofInt (IntKind.bits .i64) 1).toNat)), .int .i64 a1, .int .u64 a2, .int .i64 a6, .int .i64 aa, .int .i64 a5, .slice a9 a7 a8, .int .u64 ab] := ac.seti 0 rfl br
            have a3 := a3.oth (q := w.heap.size) (i := 0) rfl (Ne.symm ae) br
            refine ⟨(IntKind.i64.wrap ((BitVec.ofInt (IntKind.bits .i64) a0 ^^^ BitVec.ofInt (IntKind.bits .i64) 1).toNat)), a1, a2, a6, aa, a5, a9, a7, a8, ab, ⟨ac.celli 0 rfl rfl, ac.celli 1 rfl rfl, ac.celli 2 rfl rfl, ac.celli 3 rfl rfl, ac.celli 4 rfl rfl, ac.celli 5 rfl rfl, ac.celli 6 rfl rfl, ac.celli 7 rfl rfl, trivial⟩, ?_⟩
            refine ⟨a3.cani 0 rfl rfl, thenW_in fun az ga => ?_⟩
            have eg := bv.x_set (q := a4.heap.size) (i := 0) rfl (.inr ad) ga
            have a3 : Blk az a4.heap.size 47 [.int .i64 (IntKind.i64.wrap ((BitVec.ofInt (IntKind.bits .i64) a0 ^^^ BitVec.ofInt (IntKind.bits .i64) 1).toNat)), .int .i64 0, .int .u64 0, .int .i64 0, .int .i64 0, .int .i64 0, .slice none 0 0, .int .u64 0] := a3.seti 0 rfl ga
            refine ⟨a3.cani 1 rfl rfl, thenW_in fun e6 fh => ?_⟩
            have bl := eg.x_set (q := a4.heap.size) (i := 1) rfl (.inr ad) fh
            have a3 : Blk e6 a4.heap.size 47 [.int .i64 (IntKind.i64.wrap ((BitVec.ofInt (IntKind.bits .i64) a0 ^^^ BitVec.ofInt (IntKind.bits .i64) 1).toNat)), .int .i64 a1, .int .u64 0, .int .i64 0, .int .i64 0, .int .i64 0, .slice none 0 0, .int .u64 0] := a3.seti 1 rfl fh
            refine ⟨a3.cani 2 rfl rfl, thenW_in fun di g5 => ?_⟩
            have bn := bl.x_set (q := a4.heap.size) (i := 2) rfl (.inr ad) g5
            have a3 : Blk di a4.heap.size 47 [.int .i64 (IntKind.i64.wrap ((BitVec.ofInt (IntKind.bits .i64) a0 ^^^ BitVec.ofInt (IntKind.bits .i64) 1).toNat)), .int .i64 a1, .int .u64 a2, .int .i64 0, .int .i64 0, .int .i64 0, .slice none 0 0, .int .u64 0] := a3.seti 2 rfl g5
            refine ⟨a3.cani 3 rfl rfl, thenW_in fun dj fi => ?_⟩
            have e3 := bn.x_set (q := a4.heap.size) (i := 3) rfl (.inr ad) fi
            have a3 : Blk dj a4.heap.size 47 [.int .i64 (IntKind.i64.wrap ((BitVec.ofInt (IntKind.bits .i64) a0 ^^^ BitVec.ofInt (IntKind.bits .i64) 1).toNat)), .int .i64 a1, .int .u64 a2, .int .i64 a6, .int .i64 0, .int .i64 0, .slice none 0 0, .int .u64 0] := a3.seti 3 rfl fi
            refine ⟨a3.cani 4 rfl rfl, thenW_in fun cm fr => ?_⟩
            have bt := e3.x_set (q := a4.heap.size) (i := 4) rfl (.inr ad) fr
            have a3 : Blk cm a4.heap.size 47 [.int .i64 (IntKind.i64.wrap ((BitVec.ofInt (IntKind.bits .i64) a0 ^^^ BitVec.ofInt (IntKind.bits .i64) 1).toNat)), .int .i64 a1, .int .u64 a2, .int .i64 a6, .int .i64 aa, .int .i64 0, .slice none 0 0, .int .u64 0] := a3.seti 4 rfl fr
            refine ⟨a3.cani 5 rfl rfl, thenW_in fun d9 fc => ?_⟩
            have cp := bt.x_set (q := a4.heap.size) (i := 5) rfl (.inr ad) fc
            have a3 : Blk d9 a4.heap.size 47 [.int .i64 (IntKind.i64.wrap ((BitVec.ofInt (IntKind.bits .i64) a0 ^^^ BitVec.ofInt (IntKind.bits .i64) 1).toNat)), .int .i64 a1, .int .u64 a2, .int .i64 a6, .int .i64 aa, .int .i64 a5, .slice none 0 0, .int .u64 0] := a3.seti 5 rfl fc
            refine ⟨a3.cani 6 rfl rfl, thenW_in fun bj fp => ?_⟩
            have c2 := cp.x_set (q := a4.heap.size) (i := 6) rfl (.inr ad) fp
            have a3 : Blk bj a4.heap.size 47 [.int .i64 (IntKind.i64.wrap ((BitVec.ofInt (IntKind.bits .i64) a0 ^^^ BitVec.ofInt (IntKind.bits .i64) 1).toNat)), .int .i64 a1, .int .u64 a2, .int .i64 a6, .int .i64 aa, .int .i64 a5, .slice a9 a7 a8, .int .u64 0] := a3.seti 6 rfl fp
            refine ⟨a3.cani 7 rfl rfl, thenW_in fun ax ff => ?_⟩
            have c4 := c2.x_set (q := a4.heap.size) (i := 7) rfl (.inr ad) ff
            have a3 : Blk ax a4.heap.size 47 [.int .i64 (IntKind.i64.wrap ((BitVec.ofInt (IntKind.bits .i64) a0 ^^^ BitVec.ofInt (IntKind.bits .i64) 1).toNat)), .int .i64 a1, .int .u64 a2, .int .i64 a6, .int .i64 aa, .int .i64 a5, .slice a9 a7 a8, .int .u64 ab] := a3.seti 7 rfl ff
            refine ⟨(IntKind.i64.wrap ((BitVec.ofInt (IntKind.bits .i64) a0 ^^^ BitVec.ofInt (IntKind.bits .i64) 1).toNat)), a1, a2, a6, aa, a5, a9, a7, a8, ab, ⟨a3.celli 0 rfl rfl, a3.celli 1 rfl rfl, a3.celli 2 rfl rfl, a3.celli 3 rfl rfl, a3.celli 4 rfl rfl, a3.celli 5 rfl rfl, a3.celli 6 rfl rfl, a3.celli 7 rfl rfl, trivial⟩, ?_⟩
            have h := h ax c4
            exact h
          · have h := h.2 (beq_f bg)
            refine bif_of (fun e4 => ?_) (fun e4 => ?_)
            · have h := h.1 (beq_t e4)
              refine ⟨a5, ac.celli 5 rfl rfl, ?_⟩
              refine ⟨ac.cani 5 rfl rfl, thenW_in fun ch cl => ?_⟩
              have bx := af.x_set (q := w.heap.size) (i := 5) rfl (.inr al) cl
              have ac : Blk ch w.heap.size 47 [.int .i64 a0, .int .i64 a1, .int .u64 a2, .int .i64 a6, .int .i64 aa, .int .i64 (IntKind.i64.wrap ((BitVec.ofInt (IntKind.bits .i64) a5 ^^^ BitVec.ofInt (IntKind.bits .i64) 1).toNat)), .slice a9 a7 a8, .int .u64 ab] := ac.seti 5 rfl cl
              have a3 := a3.oth (q := w.heap.size) (i := 5) rfl (Ne.symm ae) cl
              refine ⟨a0, a1, a2, a6, aa, (IntKind.i64.wrap ((BitVec.ofInt (IntKind.bits .i64) a5 ^^^ BitVec.ofInt (IntKind.bits .i64) 1).toNat)), a9, a7, a8, ab, ⟨ac.celli 0 rfl rfl, ac.celli 1 rfl rfl, ac.celli 2 rfl rfl, ac.celli 3 rfl rfl, ac.celli 4 rfl rfl, ac.celli 5 rfl rfl, ac.celli 6 rfl rfl, ac.celli 7 rfl rfl, trivial⟩, ?_⟩
              refine ⟨a3.cani 0 rfl rfl, thenW_in fun dz fs => ?_⟩
              have dp := bx.x_set (q := a4.heap.size) (i := 0) rfl (.inr ad) fs
              have a3 : Blk dz a4.heap.size 47 [.int .i64 a0, .int .i64 0, .int .u64 0, .int .i64 0, .int .i64 0, .int .i64 0, .slice none 0 0, .int .u64 0] := a3.seti 0 rfl fs
              refine ⟨a3.cani 1 rfl rfl, thenW_in fun b4 es => ?_⟩
              have b5 := dp.x_set (q := a4.heap.size) (i := 1) rfl (.inr ad) es
              have a3 : Blk b4 a4.heap.size 47 [.int .i64 a0, .int .i64 a1, .int .u64 0, .int .i64 0, .int .i64 0, .int .i64 0, .slice none 0 0, .int .u64 0] := a3.seti 1 rfl es
              refine ⟨a3.cani 2 rfl rfl, thenW_in fun ed f4 => ?_⟩
              have c7 := b5.x_set (q := a4.heap.size) (i := 2) rfl (.inr ad) f4
              have a3 : Blk ed a4.heap.size 47 [.int .i64 a0, .int .i64 a1, .int .u64 a2, .int .i64 0, .int .i64 0, .int .i64 0, .slice none 0 0, .int .u64 0] := a3.seti 2 rfl f4
              refine ⟨a3.cani 3 rfl rfl, thenW_in fun dr f8 => ?_⟩
              have el := c7.x_set (q := a4.heap.size) (i := 3) rfl (.inr ad) f8
              have a3 : Blk dr a4.heap.size 47 [.int .i64 a0, .int .i64 a1, .int .u64 a2, .int .i64 a6, .int .i64 0, .int .i64 0, .slice none 0 0, .int .u64 0] := a3.seti 3 rfl f8
              refine ⟨a3.cani 4 rfl rfl, thenW_in fun b3 f1 => ?_⟩
              have ct := el.x_set (q := a4.heap.size) (i := 4) rfl (.inr ad) f1
              have a3 : Blk b3 a4.heap.size 47 [.int .i64 a0, .int .i64 a1, .int .u64 a2, .int .i64 a6, .int .i64 aa, .int .i64 0, .slice none 0 0, .int .u64 0] := a3.seti 4 rfl f1
              refine ⟨a3.cani 5 rfl rfl, thenW_in fun bs fk => ?_⟩
              have cw := ct.x_set (q := a4.heap.size) (i := 5) rfl (.inr ad) fk
              have a3 : Blk bs a4.heap.size 47 [.int .i64 a0, .int .i64 a1, .int .u64 a2, .int .i64 a6, .int .i64 aa, .int .i64 (IntKind.i64.wrap ((BitVec.ofInt (IntKind.bits .i64) a5 ^^^ BitVec.ofInt (IntKind.bits .i64) 1).toNat)), .slice none 0 0, .int .u64 0] := a3.seti 5 rfl fk
              refine ⟨a3.cani 6 rfl rfl, thenW_in fun cv g8 => ?_⟩
              have bd := cw.x_set (q := a4.heap.size) (i := 6) rfl (.inr ad) g8
              have a3 : Blk cv a4.heap.size 47 [.int .i64 a0, .int .i64 a1, .int .u64 a2, .int .i64 a6, .int .i64 aa, .int .i64 (IntKind.i64.wrap ((BitVec.ofInt (IntKind.bits .i64) a5 ^^^ BitVec.ofInt (IntKind.bits .i64) 1).toNat)), .slice a9 a7 a8, .int .u64 0] := a3.seti 6 rfl g8
              refine ⟨a3.cani 7 rfl rfl, thenW_in fun au f6 => ?_⟩
              have cb := bd.x_set (q := a4.heap.size) (i := 7) rfl (.inr ad) f6
              have a3 : Blk au a4.heap.size 47 [.int .i64 a0, .int .i64 a1, .int .u64 a2, .int .i64 a6, .int .i64 aa, .int .i64 (IntKind.i64.wrap ((BitVec.ofInt (IntKind.bits .i64) a5 ^^^ BitVec.ofInt (IntKind.bits .i64) 1).toNat)), .slice a9 a7 a8, .int .u64 ab] := a3.seti 7 rfl f6
              refine ⟨a0, a1, a2, a6, aa, (IntKind.i64.wrap ((BitVec.ofInt (IntKind.bits .i64) a5 ^^^ BitVec.ofInt (IntKind.bits .i64) 1).toNat)), a9, a7, a8, ab, ⟨a3.celli 0 rfl rfl, a3.celli 1 rfl rfl, a3.celli 2 rfl rfl, a3.celli 3 rfl rfl, a3.celli 4 rfl rfl, a3.celli 5 rfl rfl, a3.celli 6 rfl rfl, a3.celli 7 rfl rfl, trivial⟩, ?_⟩
              have h := h au cb
              exact h
            · have h := h.2 (beq_f e4)
              refine ⟨a0, a1, a2, a6, aa, a5, a9, a7, a8, ab, ⟨ac.celli 0 rfl rfl, ac.celli 1 rfl rfl, ac.celli 2 rfl rfl, ac.celli 3 rfl rfl, ac.celli 4 rfl rfl, ac.celli 5 rfl rfl, ac.celli 6 rfl rfl, ac.celli 7 rfl rfl, trivial⟩, ?_⟩
              refine ⟨a3.cani 0 rfl rfl, thenW_in fun bf f2 => ?_⟩
              have de := af.x_set (q := a4.heap.size) (i := 0) rfl (.inr ad) f2
              have a3 : Blk bf a4.heap.size 47 [.int .i64 a0, .int .i64 0, .int .u64 0, .int .i64 0, .int .i64 0, .int .i64 0, .slice none 0 0, .int .u64 0] := a3.seti 0 rfl f2
              refine ⟨a3.cani 1 rfl rfl, thenW_in fun co fj => ?_⟩
              have c1 := de.x_set (q := a4.heap.size) (i := 1) rfl (.inr ad) fj
              have a3 : Blk co a4.heap.size 47 [.int .i64 a0, .int .i64 a1, .int .u64 0, .int .i64 0, .int .i64 0, .int .i64 0, .slice none 0 0, .int .u64 0] := a3.seti 1 rfl fj
              refine ⟨a3.cani 2 rfl rfl, thenW_in fun e2 fy => ?_⟩
              have e8 := c1.x_set (q := a4.heap.size) (i := 2) rfl (.inr ad) fy
              have a3 : Blk e2 a4.heap.size 47 [.int .i64 a0, .int .i64 a1, .int .u64 a2, .int .i64 0, .int .i64 0, .int .i64 0, .slice none 0 0, .int .u64 0] := a3.seti 2 rfl fy
              refine ⟨a3.cani 3 rfl rfl, thenW_in fun b8 g6 => ?_⟩
              have ej := e8.x_set (q := a4.heap.size) (i := 3) rfl (.inr ad) g6
              have a3 : Blk b8 a4.heap.size 47 [.int .i64 a0, .int .i64 a1, .int .u64 a2, .int .i64 a6, .int .i64 0, .int .i64 0, .slice none 0 0, .int .u64 0] := a3.seti 3 rfl g6
              refine ⟨a3.cani 4 rfl rfl, thenW_in fun ek g9 => ?_⟩
              have dl := ej.x_set (q := a4.heap.size) (i := 4) rfl (.inr ad) g9
              have a3 : Blk ek a4.heap.size 47 [.int .i64 a0, .int .i64 a1, .int .u64 a2, .int .i64 a6, .int .i64 aa, .int .i64 0, .slice none 0 0, .int .u64 0] := a3.seti 4 rfl g9
              refine ⟨a3.cani 5 rfl rfl, thenW_in fun b6 fz => ?_⟩
              have cc := dl.x_set (q := a4.heap.size) (i := 5) rfl (.inr ad) fz
              have a3 : Blk b6 a4.heap.size 47 [.int .i64 a0, .int .i64 a1, .int .u64 a2, .int .i64 a6, .int .i64 aa, .int .i64 a5, .slice none 0 0, .int .u64 0] := a3.seti 5 rfl fz
              refine ⟨a3.cani 6 rfl rfl, thenW_in fun du g4 => ?_⟩
              have d7 := cc.x_set (q := a4.heap.size) (i := 6) rfl (.inr ad) g4
              have a3 : Blk du a4.heap.size 47 [.int .i64 a0, .int .i64 a1, .int .u64 a2, .int .i64 a6, .int .i64 aa, .int .i64 a5, .slice a9 a7 a8, .int .u64 0] := a3.seti 6 rfl g4
              refine ⟨a3.cani 7 rfl rfl, thenW_in fun am er => ?_⟩
              have ec := d7.x_set (q := a4.heap.size) (i := 7) rfl (.inr ad) er
              have a3 : Blk am a4.heap.size 47 [.int .i64 a0, .int .i64 a1, .int .u64 a2, .int .i64 a6, .int .i64 aa, .int .i64 a5, .slice a9 a7 a8, .int .u64 ab] := a3.seti 7 rfl er
              refine ⟨a0, a1, a2, a6, aa, a5, a9, a7, a8, ab, ⟨a3.celli 0 rfl rfl, a3.celli 1 rfl rfl, a3.celli 2 rfl rfl, a3.celli 3 rfl rfl, a3.celli 4 rfl rfl, a3.celli 5 rfl rfl, a3.celli 6 rfl rfl, a3.celli 7 rfl rfl, trivial⟩, ?_⟩
              have h := h am ec
              exact h

theorem cachettelaw07_turned.go (a0 : Int) (a3 : Int) (a7 : Int) (a8 : Int) (aa : Int) (a1 : Int) (a4 : Option Addr) (a2 : Nat) (a5 : Nat) (a9 : Int) (a6 : Int) {R : Value → World → Prop} {w : World} (h : cachettelaw07_turned.N a0 a3 a7 a8 aa a1 a4 a2 a5 a9 a6 R w) : Calls Try.prog 18 #[.agg #[.int .i64 a0, .int .i64 a3, .int .u64 a7, .int .i64 a8, .int .i64 aa, .int .i64 a1, .slice a4 a2 a5, .int .u64 a9], .int .i64 a6] w fun e w' => ∃ v, e = .returned v ∧ R v w' := cachettelaw07_turned.ok a0 a3 a7 a8 aa a1 a4 a2 a5 a9 a6 (cachettelaw07_turned.up a0 a3 a7 a8 aa a1 a4 a2 a5 a9 a6 h)
end Go.Proofs.Ytdelmfpchbpafaa

/- The reference's log. -/
set_option linter.unusedVariables false
set_option linter.unusedSimpArgs false
set_option maxRecDepth 20000
set_option maxHeartbeats 2000000
namespace Go.Proofs.Ytdelmfpchbpafaa
open Go Go.Mx Go.Proofs
open W (OwnB GivesW numR countR doneR zig unzig intR)
/-- the reference's oracle, in step with a state. -/
structure RSt (w : World) (o : Own) (j : Nat) (S : OS) (n : Nat) : Prop where
  ex : ∃ d R, ROrc w o j d R ∧ Sim S d R ∧ RFine n d R
  ok : Tags w o
  inv : OInv S
structure RLog (w : World) (o : Own) (q : Nat) (wr pb : Int) (es : List Ent) : Prop where
  own : o q = some q
  few : es.length ≤ 200
  st : ∃ la lc, ∃ l : List PE, l.map PE.e = es ∧ Blk w q 42 [.int .i64 wr, .int .u64 pb, .slice la l.length lc] ∧
    GrowsF 47 8 w o q la l.length lc (PE.Cs l) ∧ (∀ ad, la = some ad → ad.block ≠ q) ∧ ∀ x ∈ l, x.ok w o
def headS (S : OS) (es : List Ent) : Int × OS := match es.getLast? with | none => (0, S) | some e => ((sumE S e).1.1, (sumE S e).2)
def lateS (es : List Ent) (t tw : Int) : Bool := match es.getLast? with | none => false | some x => !(lessS x.t x.tw t tw)
section
variable {w w' w1 : World} {o o' o1 : Own} {q j k n : Nat} {K : Nat → Prop} {S S1 S2 : OS} {wr pb : Int} {es : List Ent} {e : Ent} {a : Option Addr} {c : Nat}
theorem RSt.step (h : RSt w o j S n) (s : Step K w o w' o') (hj : ¬ K j) : RSt w' o' j S n := by
  obtain ⟨d, R, h1, h2, h3⟩ := h.ex
  exact ⟨⟨d, R, h1.step s hj, h2, h3⟩, s.ok, h.inv⟩
theorem RSt.mono (h : RSt w o j S n) {m : Nat} (hm : n ≤ m) : RSt w o j S m := by
  obtain ⟨d, R, h1, h2, h3⟩ := h.ex
  exact ⟨⟨d, R, h1, h2, h3.draws, Nat.le_trans h3.short hm, h3.bytes⟩, h.ok, h.inv⟩
theorem RSt.lt (h : RSt w o j S n) : j < w.heap.size := by obtain ⟨d, R, h1, _⟩ := h.ex; exact h1.lt
theorem RSt.own (h : RSt w o j S n) : o j = some j := by obtain ⟨d, R, h1, _⟩ := h.ex; exact h1.own
theorem RSt.len (h : RSt w o j S n) : S.used.length ≤ n := by obtain ⟨d, R, h1, h2, h3⟩ := h.ex; rw [h2.us, List.length_map]; exact h3.short
theorem RLog.lt (h : RLog w o q wr pb es) : q < w.heap.size := by obtain ⟨_, _, _, _, hb, _⟩ := h.st; exact hb.lt
theorem RLog.step (h : RLog w o q wr pb es) (s : Step K w o w' o') (hq : ¬ K q) : RLog w' o' q wr pb es := by
  have hlt := h.lt
  obtain ⟨la, lc, l, h0, h1, h2, h3, h4⟩ := h.st
  exact ⟨(s.own hlt).trans h.own, h.few, la, lc, l, h0, s.blk h1 h.own hq, h2.step s hq, h3, fun x hx => (h4 x hx).step s⟩
theorem RLog.new {w w' : World} {o : Own} {q : Nat} {wr pb : Int} (X : Ext no w w') (hb : Blk w' q 42 [.int .i64 wr, .int .u64 pb, .slice none 0 0]) (h1 : w.heap.size ≤ q) (h2 : q < w'.heap.size) (ok : Tags w o) :
    ∃ o', Step no w o w' o' ∧ RLog w' o' q wr pb [] :=
  ⟨_, (Step.of_no X ok).tag h1 h2, tag_self, Nat.zero_le _, none, 0, [], rfl, hb, .inl (Grows.nil _ _ _ _ _), fun ad h => (by cases h), fun x h => (by cases h)⟩
theorem RSt.sum (h : RSt w o j S n) (hn : n + 1 < 1000000) (hf : entRight e = true → e.fit) {ba : Option Addr} {bc : Nat} (hb : RowAt w ba (bytesV e.body)) :
    Calls Try.prog 49 #[.pointer (some (blk j)), entV e ba bc] w (Gs (fun i => i = j) w o (.tuple #[u64V (sumE S e).1.1, .int .i64 (sumE S e).1.2]) fun w' o' => RSt w' o' j (sumE S e).2 (n + 1)) := by
  obtain ⟨d, R, h1, h2, h3⟩ := h.ex
  obtain ⟨e1, e2⟩ := sum_sim h2 e
  refine (rSum_spec h1 (h3.rok h.ok (by omega)) hf hb).mono fun x w' ⟨o', he, s, r⟩ => ⟨o', by rw [he, e1], s, ⟨_, _, r, e2, h3.sum e⟩, s.ok, sum_inv h.inv e⟩
theorem RSt.holds (h : RSt w o j S n) (hn : n < 1000000) (p : Int) (hf : entRight e = true → e.fit) {ba : Option Addr} {bc : Nat} (hb : RowAt w ba (bytesV e.body)) :
    Calls Try.prog 44 #[.pointer (some (blk j)), .int .u64 p, entV e ba bc] w (Ret (.bool (holdsE S p e)) fun w' => Ext no w w') := by
  obtain ⟨d, R, h1, h2, h3⟩ := h.ex
  refine (rHolds_spec h1 (h3.rok h.ok hn) p hf hb).mono fun x w' ⟨he, X⟩ => ⟨by rw [he, holds_sim h2], X⟩
theorem RSt.sign (h : RSt w o j S n) (hn : n + 1 < 1000000) (s : Int) (hf : entRight e = true → e.fit) {ba : Option Addr} {bc : Nat} (hb : Row w o ba (bytesV e.body)) (hbc : e.body.length ≤ bc) :
    Calls Try.prog 40 #[.pointer (some (blk j)), .int .u64 s, entV e ba bc] w (fun x w' => ∃ o' a' c', x = .returned (.tuple #[entV (signE S s e).1.1 a' c', .int .i64 (signE S s e).1.2]) ∧ Step (fun i => i = j) w o w' o' ∧ RSt w' o' j (signE S s e).2 (n + 1) ∧ Row w' o' a' (bytesV (signE S s e).1.1.body) ∧ (signE S s e).1.1.body.length ≤ c') := by
  obtain ⟨d, R, h1, h2, h3⟩ := h.ex
  obtain ⟨e1, e2⟩ := esign_sim h2 s e
  refine (rESign_spec h1 (h3.rok h.ok (by omega)) s hf hb hbc).mono fun x w' ⟨o', a', c', he, st, r, r1, r2⟩ => ⟨o', a', c', by rw [he, e1], st, ⟨⟨_, _, r, e2, h3.esign s e⟩, st.ok, esign_inv h.inv s e⟩, by rw [← e1]; exact r1, by rw [← e1]; exact r2⟩
theorem rHead_spec (P : RLog w o q wr pb es) (h : RSt w o j S n) (hn : n + 1 < 1000000) :
    Calls Try.prog 32 #[.pointer (some (blk q)), .pointer (some (blk j))] w (Gs (fun i => i = j) w o (.agg #[.int .i64 wr, .int .i64 es.length, .int .u64 (headS S es).1]) fun w' o' => RSt w' o' j (headS S es).2 (n + 1)) := by
  refine (cachetteref07_Log_Head.go _ _ (R := fun v w' => ∃ o', v = .agg #[.int .i64 wr, .int .i64 es.length, .int .u64 (headS S es).1] ∧ Step (fun i => i = j) w o w' o' ∧ RSt w' o' j (headS S es).2 (n + 1)) ?_).mono fun x w' ⟨v, he, o', hv, hw⟩ => ⟨o', by rw [he, hv], hw⟩
  unfold cachetteref07_Log_Head.N
  obtain ⟨la, lc, l, g0, b1, b2, b3, b4⟩ := P.st
  have hl := len_map_e g0
  have hfew := P.few
  have hjl := h.lt
  refine ⟨_, rfl, _, b1.cella (i := 0) rfl, la, l.length, lc, b1.cella (i := 2) rfl, la, l.length, lc, b1.cella (i := 2) rfl, fun hp => ?_, fun hp w44 X44 => ?_⟩
  · have hi : l.length - 1 < l.length := by omega
    have hgx : l[l.length - 1]? = some l[l.length - 1] := List.getElem?_eq_getElem hi
    have hpk := b4 _ (List.getElem_mem hi)
    generalize l[l.length - 1] = x at *
    obtain ⟨ad, rfl⟩ := b2.row.faddr PE.len (by decide) hi
    have hlast : es.getLast? = some x.e := by rw [List.getLast?_eq_getElem?, getElem_map_e g0, ← hl, hgx]; rfl
    have e1 : ((l.length : Int) - 1).toNat = l.length - 1 := by omega
    have hH : headS S es = ((sumE S x.e).1.1, (sumE S x.e).2) := by unfold headS; rw [hlast]
    refine ⟨some ad, l.length, lc, b1.cella (i := 2) rfl, some ad, l.length, lc, b1.cella (i := 2) rfl, by omega, by omega, ad, rfl, by omega, by omega, x.e.w, x.e.i, x.e.pv, x.e.t, x.e.tw, x.e.ep, x.a, x.e.body.length, x.c, x.e.sg, by rw [e1]; exact PE.loads b2.row rfl hgx, fun w17 p32 p33 X17 hp17 => ?_⟩
    obtain ⟨s17, M17⟩ := Step.priv X17 hp17 h.ok
    have g32 := hp17 p32 (by simp)
    have g33 := hp17 p33 (by simp)
    refine ((h.step s17 id).sum hn (fun _ => hpk.2.2) ((hpk.1.step s17).1)).mono fun z w37 ⟨o37, he, s37', r37⟩ => ⟨_, _, he, M17.keep s37' (by simp; omega), fun w41 X41 => ?_⟩
    have s37 := s17.none.trans s37'
    have s41' := Step.stores X41 s37.ok (M17.step s37') (by simp [or_comm])
    rw [hH]
    exact ⟨_, by rw [hl], s37.trans' s41' fun i hi => .inr (by simp at hi; omega), r37.step s41' (by simp; omega)⟩
  · have : es = [] := List.eq_nil_of_length_eq_zero (by omega)
    subst this
    have s := Step.of_no X44 h.ok
    exact ⟨_, by rw [hl]; rfl, s.none, (h.step s id).mono (by omega)⟩
theorem rLate_spec (P : RLog w o q wr pb es) (t tw : Int) :
    Calls Try.prog 39 #[.pointer (some (blk q)), .agg #[.int .i64 t, .int .i64 tw]] w (Ret (.bool (lateS es t tw)) fun w' => Ext no w w') := by
  refine cachetteref07_Log_late.run _ _ _ ?_
  unfold cachetteref07_Log_late.N
  obtain ⟨la, lc, l, g0, b1, b2, b3, b4⟩ := P.st
  have hl := len_map_e g0
  have hfew := P.few
  refine ⟨_, rfl, la, l.length, lc, b1.cella (i := 2) rfl, fun hp => ?_, fun hp w8 X => ⟨?_, X⟩⟩
  · have hi : l.length - 1 < l.length := by omega
    have hgx : l[l.length - 1]? = some l[l.length - 1] := List.getElem?_eq_getElem hi
    generalize l[l.length - 1] = x at *
    obtain ⟨ad, rfl⟩ := b2.row.faddr PE.len (by decide) hi
    have hlast : es.getLast? = some x.e := by rw [List.getLast?_eq_getElem?, getElem_map_e g0, ← hl, hgx]; rfl
    have e1 : ((l.length : Int) - 1).toNat = l.length - 1 := by omega
    have c3 := PE.cell b2.row rfl hgx (j := 3) (v := .int .i64 x.e.t) rfl
    have c4 := PE.cell b2.row rfl hgx (j := 4) (v := .int .i64 x.e.tw) rfl
    refine ⟨some ad, l.length, lc, b1.cella (i := 2) rfl, by omega, by omega, ad, rfl, by omega, by omega, x.e.t, x.e.tw, ⟨by rw [e1, add_add]; exact c3, by rw [e1, add_add]; exact c4, trivial⟩, fun w16 X16 => ⟨?_, X16⟩⟩
    unfold lateS; rw [hlast, refLess_F]
  · have : es = [] := List.eq_nil_of_length_eq_zero (by omega)
    subst this; rfl
end
end Go.Proofs.Ytdelmfpchbpafaa

/- The reference's log: Check, Accept. -/
set_option linter.unusedVariables false
set_option linter.unusedSimpArgs false
set_option maxRecDepth 20000
set_option maxHeartbeats 2000000
namespace Go.Proofs.Ytdelmfpchbpafaa
open Go Go.Mx Go.Proofs
open W (OwnB GivesW numR countR doneR zig unzig intR)
section
variable {w w' w1 : World} {o o' o1 : Own} {q j k n : Nat} {K : Nat → Prop} {S S1 S2 : OS} {L : CL} {wr pb : Int} {es : List Ent} {e : Ent} {a : Option Addr} {c : Nat}
theorem behind_as (L : CL) (e : Ent) : behindC L e = if e.pv = L.sum then (if lateS L.es e.t e.tw = true then 2 else 0) else 5 := by
  unfold behindC lateS
  split
  · cases L.es.getLast? with
    | none => rfl
    | some x =>
      by_cases h : lessS x.t x.tw e.t e.tw = true
      · simp only [h]; rfl
      · have h' : lessS x.t x.tw e.t e.tw = false := by simpa using h
        simp only [h']; rfl
  · rfl
theorem chk1 {r : Int} (h : rightC S L e = r) (hr : r ≠ 0) : checkC S L e = r := by unfold checkC; rw [if_pos (by rw [h]; exact hr), h]
theorem chk2 {r : Int} (h0 : rightC S L e = 0) (h : placeC L e = r) (hr : r ≠ 0) : checkC S L e = r := by unfold checkC; rw [if_neg (not_not_intro h0), if_pos (by rw [h]; exact hr), h]
theorem chk3 (h0 : rightC S L e = 0) (h : placeC L e = 0) : checkC S L e = behindC L e := by unfold checkC; rw [if_neg (not_not_intro h0), if_neg (not_not_intro h)]
theorem rCheck_spec (P : RLog w o q wr pb es) (h : RSt w o j S n) (hqj : q ≠ j) (hn : n + 1 < 1000000) (hf : entRight e = true → e.fit) (hb : Row w o a (bytesV e.body)) (hbl : ∀ x ∈ es, x.body.length < 1000000) :
    Calls Try.prog 20 #[.pointer (some (blk q)), .pointer (some (blk j)), entV e a c] w (fun x w' => ∃ o' S', x = .returned (.int .i64 (checkC S ⟨wr, pb, es, (headS S es).1⟩ e)) ∧ Step (fun i => i = j) w o w' o' ∧ RSt w' o' j S' (n + 1) ∧
      (S' = (headS S es).2 ∨ S' = S ∧ checkC S ⟨wr, pb, es, (headS S es).1⟩ e ≠ 0)) := by
  refine (cachetteref07_Log_Check.go (some (blk q)) (some (blk j)) e.w e.i e.pv e.t e.tw e.ep a e.body.length c e.sg (R := fun v w' => ∃ o' S', v = .int .i64 (checkC S ⟨wr, pb, es, (headS S es).1⟩ e) ∧ Step (fun i => i = j) w o w' o' ∧ RSt w' o' j S' (n + 1) ∧
      (S' = (headS S es).2 ∨ S' = S ∧ checkC S ⟨wr, pb, es, (headS S es).1⟩ e ≠ 0)) ?_).mono fun x w' ⟨v, he, o', S', hv, hw⟩ => ⟨o', S', by rw [he, hv], hw⟩
  unfold cachetteref07_Log_Check.N
  rw [refRight_F]
  obtain ⟨la, lc, l, g0, b1, b2, b3, b4⟩ := P.st
  have hl := len_map_e g0
  have hjl := h.lt
  have fin : ∀ (r : Int) (w2 : World) (o2 : Own), checkC S ⟨wr, pb, es, (headS S es).1⟩ e = r → r ≠ 0 → Step no w o w2 o2 → ∃ o' S', Value.int .i64 r = .int .i64 (checkC S ⟨wr, pb, es, (headS S es).1⟩ e) ∧ Step (fun i => i = j) w o w2 o' ∧ RSt w2 o' j S' (n + 1) ∧
      (S' = (headS S es).2 ∨ S' = S ∧ checkC S ⟨wr, pb, es, (headS S es).1⟩ e ≠ 0) :=
    fun r w2 o2 e1 e2 s => ⟨o2, S, by rw [e1], s.none, (h.step s id).mono (by omega), .inr ⟨rfl, by rw [e1]; exact e2⟩⟩
  refine ⟨fun hr w12 X => ?_, fun hr => ⟨_, rfl, _, b1.cella (i := 0) rfl, fun hw w15 X => ?_, fun hw => ⟨_, b1.cella (i := 1) rfl, fun w21 p24 X21 hp => ?_⟩⟩⟩
  · exact fin 1 _ _ (chk1 (by unfold rightC; exact if_neg (by rw [hr]; decide)) (by decide)) (by decide) (Step.of_no X h.ok)
  · exact fin 20 _ _ (chk1 (by unfold rightC; rw [if_pos hr]; exact if_neg hw) (by decide)) (by decide) (Step.of_no X h.ok)
  obtain ⟨s21, M21⟩ := Step.priv X21 hp h.ok
  have g24 := hp p24 (by simp)
  refine ((h.step s21 id).holds (by omega) pb hf (hb.step s21).1).mono fun z w27 ⟨he, X27⟩ => ⟨_, he, X27.kept, fun hh => ?_, fun hh => ?_⟩
  all_goals have s27' := Step.of_no X27 s21.ok
  all_goals have s27 := s21.trans s27'
  · exact fin 6 _ _ (chk1 (by unfold rightC; rw [if_pos hr]; exact (if_pos hw).trans (if_neg (by rw [show holdsE S (CL.mk wr pb es (headS S es).1).pb e = false from hh]; decide))) (by decide)) (by decide) s27
  have hr0 : rightC S ⟨wr, pb, es, (headS S es).1⟩ e = 0 := by unfold rightC; rw [if_pos hr]; exact (if_pos hw).trans (if_pos hh)
  have b27 := s27.blk b1 P.own id
  have b2' := b2.step s27 id
  have M27 := M21.step s27'
  have h0 := ((entRight_iff _).1 hr).2.2.1
  refine ⟨la, l.length, lc, b27.cella (i := 2) rfl, fun hlt => ?_, fun hge => ⟨la, l.length, lc, b27.cella (i := 2) rfl, fun hgt w50 X50 => ?_, fun hle w54 X54 => ?_⟩⟩
  · have hi : e.i.toNat < l.length := by omega
    have hgx : l[e.i.toNat]? = some l[e.i.toNat] := List.getElem?_eq_getElem hi
    have hpk := b4 _ (List.getElem_mem hi)
    have hbx := hbl _ (by rw [← g0]; exact List.mem_map_of_mem (List.getElem_mem hi))
    generalize l[e.i.toNat] = x at *
    obtain ⟨ad, rfl⟩ := b2.row.faddr PE.len (by decide) hi
    refine ⟨some ad, l.length, lc, b27.cella (i := 2) rfl, ad, rfl, h0, by omega, x.e.w, x.e.i, x.e.pv, x.e.t, x.e.tw, x.e.ep, x.a, x.e.body.length, x.c, x.e.sg, PE.loads b2'.row rfl hgx, fun w33 X33 => ?_⟩
    refine (rESame_spec (e := x.e) (f := e) (((hpk.1.step s27).1).no X33) (((hb.step s27).1).no X33) hbx).mono fun z w48 ⟨he, X48⟩ => ⟨_, he, fun hs => ?_, fun hs => ?_⟩
    all_goals have s48 := s27.trans (Step.of_no (X33.trans X48) s27.ok)
    · refine fin 8 _ _ (chk2 hr0 ?_ (by decide)) (by decide) s48
      unfold placeC
      rw [if_neg (show ¬ e.i > (es.length : Int) by omega), if_neg (show ¬ e.i = (es.length : Int) by omega)]
      exact if_pos (show es[e.i.toNat]? = some e by rw [getElem_map_e g0, hgx, Option.map_some, of_decide_eq_true hs])
    · refine fin 9 _ _ (chk2 hr0 ?_ (by decide)) (by decide) s48
      unfold placeC
      rw [if_neg (show ¬ e.i > (es.length : Int) by omega), if_neg (show ¬ e.i = (es.length : Int) by omega)]
      exact if_neg (show ¬ es[e.i.toNat]? = some e by rw [getElem_map_e g0, hgx, Option.map_some]; intro h; injection h with h; exact of_decide_eq_false hs h)
  · refine fin 7 _ _ (chk2 hr0 ?_ (by decide)) (by decide) (s27.trans (Step.of_no X50 s27.ok))
    unfold placeC
    exact if_pos (show e.i > (es.length : Int) by omega)
  · have s54' := Step.of_no X54 s27.ok
    have s54 := s27.trans s54'
    have hp0 : placeC ⟨wr, pb, es, (headS S es).1⟩ e = 0 := by
      unfold placeC
      rw [if_neg (show ¬ e.i > (es.length : Int) by omega)]
      exact if_pos (show e.i = (es.length : Int) by omega)
    have M54 := M27.step s54'
    refine (rHead_spec (P.step s54 id) (h.step s54 id) hn).mono fun z w59 ⟨o59, he, s59, r59⟩ => ⟨_, _, _, he, M54.keep s59 (by simp; omega), fun hpv => ?_, fun hpv => ?_⟩
    · exact ⟨o59, _, by rw [chk3 hr0 hp0, behind_as]; exact congrArg (Value.int .i64) (if_neg hpv).symm, s54.none.trans s59, r59, .inl rfl⟩
    · refine (rLate_spec ((P.step s54 id).step s59 hqj) e.t e.tw).mono fun z w63 ⟨he, X63⟩ => ⟨_, he, fun hl => ?_, fun hl => ?_⟩
      all_goals have s63' := Step.of_no X63 s59.ok
      all_goals refine ⟨_, _, ?_, (s54.none.trans s59).trans s63'.none, r59.step s63' id, .inl rfl⟩
      all_goals rw [chk3 hr0 hp0, behind_as]
      · exact congrArg (Value.int .i64) ((if_pos hpv).trans (if_pos hl)).symm
      · exact congrArg (Value.int .i64) ((if_pos hpv).trans (if_neg (by rw [show lateS (CL.mk wr pb es (headS S es).1).es e.t e.tw = false from hl]; decide))).symm
theorem rAccept_spec (P : RLog w o q wr pb es) (h : RSt w o j S n) (hqj : q ≠ j) (hn : n + 1 < 1000000) (hf : entRight e = true → e.fit) (hb : Row w o a (bytesV e.body)) (hbc : e.body.length ≤ c) (hbl : ∀ x ∈ es, x.body.length < 1000000) :
    Calls Try.prog 22 #[.pointer (some (blk q)), .pointer (some (blk j)), entV e a c] w (fun x w' => ∃ o' S', x = .returned (.int .i64 (checkC S ⟨wr, pb, es, (headS S es).1⟩ e)) ∧ Step (fun i => i = q ∨ i = j) w o w' o' ∧
      RLog w' o' q wr pb (if checkC S ⟨wr, pb, es, (headS S es).1⟩ e = 0 then es ++ [e] else es) ∧ RSt w' o' j S' (n + 1) ∧ (S' = (headS S es).2 ∨ S' = S ∧ checkC S ⟨wr, pb, es, (headS S es).1⟩ e ≠ 0)) := by
  refine (cachetteref07_Log_Accept.go (some (blk q)) (some (blk j)) e.w e.i e.pv e.t e.tw e.ep a e.body.length c e.sg (R := fun v w' => ∃ o' S', v = .int .i64 (checkC S ⟨wr, pb, es, (headS S es).1⟩ e) ∧ Step (fun i => i = q ∨ i = j) w o w' o' ∧
      RLog w' o' q wr pb (if checkC S ⟨wr, pb, es, (headS S es).1⟩ e = 0 then es ++ [e] else es) ∧ RSt w' o' j S' (n + 1) ∧ (S' = (headS S es).2 ∨ S' = S ∧ checkC S ⟨wr, pb, es, (headS S es).1⟩ e ≠ 0)) ?_).mono fun x w' ⟨v, he, o', S', hv, hw⟩ => ⟨o', S', by rw [he, hv], hw⟩
  unfold cachetteref07_Log_Accept.N
  intro w11 p12 X11 hp
  obtain ⟨s11, M11⟩ := Step.priv X11 hp h.ok
  have g12 := hp p12 (by simp)
  have hjl := h.lt
  have hlt := P.lt
  refine (rCheck_spec (P.step s11 id) (h.step s11 id) hqj hn hf (hb.step s11) hbl).mono fun x w15 ⟨o15, S', he, s15', r15, hS⟩ => ⟨_, he, M11.keep s15' (by simp; omega), fun h0 => ?_, fun h0 => ?_⟩
  · have s15 := s11.none.trans s15'
    have P15 := (P.step s11 id).step s15' hqj
    obtain ⟨q1, q2, _⟩ := accept_out (L := ⟨wr, pb, es, (headS S es).1⟩) P.few h0
    obtain ⟨la, lc, l, g0, b1, b2, b3, b4⟩ := P15.st
    have hl := len_map_e g0
    have q1' : es.length < 200 := q1
    refine ⟨_, rfl, la, l.length, lc, b1.cella (i := 2) rfl, fun w21 q22 X21 hb22 hq22 hq22' => ?_⟩
    have s21' := Step.of_no X21 s15.ok
    have b21 := s21'.blk b1 P15.own id
    obtain ⟨i, hi, hz, hsz, hby⟩ := info_of inf47
    have hnews : RowAt w21 (some (blk q22)) (PE.C ⟨e, a, c⟩) := RowAt.of_blk hb22
    have l21 := s21'.size
    have l15 := s15.size
    obtain ⟨a', c', w25, o25, hr, s25', g25, hkeep, hblk⟩ := (b2.step s21' id).push (ty := 40) Try.underlying40 hi hz hsz hby rfl (by decide) s21'.ok (by omega) (xa := some (blk q22)) (m := 1) (xc := 1) (news := PE.C ⟨e, a, c⟩) rfl hnews (PE.one _) (by decide) (by omega) (by omega)
    have oq21 : grow w15 o15 q = some q := (s21'.own (by omega)).trans P15.own
    have b25 : Blk w25 q 42 [.int .i64 wr, .int .u64 pb, .slice la l.length lc] := by
      unfold Blk at b21 ⊢
      rw [hkeep q (by omega) fun ad hd e => b3 ad hd e.symm]; exact b21
    refine ⟨b21.cella (i := 2) rfl, a', _, c', w25, hr, b25.cana (i := 2) rfl, thenW_in fun w26 e26 => ?_⟩
    have tq25 : o25 q = some q := (s25'.own (by omega)).trans oq21
    have hne : ∀ ad, a' = some ad → ad.block ≠ q := fun ad hd e => by
      rcases hblk ad hd with ⟨b, hb1, hb2⟩ | hq
      · exact b3 b hb1 (by omega)
      · omega
    have X26 : Ext (fun b => b = q) w25 w26 := (Ext.refl (fun b => b = q) w25).x_set (q := q) (i := 2) rfl (.inl rfl) e26
    obtain ⟨o26, s26'⟩ := Step.store1 X26 s25'.ok tq25
    have b26 := b25.seti 2 rfl e26
    have st : Step (fun i => i = q) w15 o15 w26 o26 := (s21'.none.trans s25').trans s26'
    refine ⟨o26, S', by rw [h0], (s15.mono fun _ h _ => .inr h).trans (st.mono fun _ h _ => .inl h), ?_, r15.step st (fun e => hqj e.symm), hS⟩
    rw [if_pos h0]
    refine ⟨(s26'.own (by have := s25'.size; omega)).trans tq25, by rw [List.length_append]; show es.length + 1 ≤ 200; omega, a', c', l ++ [⟨e, a, c⟩], by rw [List.map_append, g0]; rfl, by rw [List.length_append]; exact b26, ?_, hne, fun x hx => ?_⟩
    · rw [List.length_append]
      have : PE.Cs (l ++ [⟨e, a, c⟩]) = PE.Cs l ++ PE.C ⟨e, a, c⟩ := by simp [PE.Cs]
      rw [this]
      exact g25.keep X26 (fun ad hd => hne ad hd) fun b hb => s26'.own hb
    · rcases List.mem_append.1 hx with hx | hx
      · exact (b4 x hx).step st
      · simp at hx; subst hx
        exact ⟨(hb.step s15).step st, hbc, hf q2⟩
  · have s15 := s11.none.trans s15'
    refine ⟨o15, S', rfl, s15.mono fun _ h _ => .inr h, ?_, r15, hS⟩
    rw [if_neg h0]
    exact (P.step s11 id).step s15' hqj
end
end Go.Proofs.Ytdelmfpchbpafaa

/- The reference's log: Issue. -/
set_option linter.unusedVariables false
set_option linter.unusedSimpArgs false
set_option maxRecDepth 20000
set_option maxHeartbeats 2000000
namespace Go.Proofs.Ytdelmfpchbpafaa
open Go Go.Mx Go.Proofs
open W (OwnB GivesW numR countR doneR zig unzig intR)
def nextR (S : OS) (wr pb : Int) (es : List Ent) (t tw ep : Int) (body : List UInt8) : Ent := nextE ⟨wr, pb, es, (headS S es).1⟩ t tw ep body
def issueR (S : OS) (wr pb : Int) (es : List Ent) (sec t tw ep : Int) (body : List UInt8) : (Ent × Int) × List Ent × OS :=
  if es.length ≥ 200 then ((Ent.zero, 3), es, S)
  else if entRight (nextR S wr pb es t tw ep body) = true then
    (if lateS es t tw = true then ((Ent.zero, 2), es, (headS S es).2)
     else if (signE (headS S es).2 sec (nextR S wr pb es t tw ep body)).1.2 ≠ 0 then ((Ent.zero, (signE (headS S es).2 sec (nextR S wr pb es t tw ep body)).1.2), es, (signE (headS S es).2 sec (nextR S wr pb es t tw ep body)).2)
     else (((signE (headS S es).2 sec (nextR S wr pb es t tw ep body)).1.1, 0), es ++ [(signE (headS S es).2 sec (nextR S wr pb es t tw ep body)).1.1], (signE (headS S es).2 sec (nextR S wr pb es t tw ep body)).2))
  else ((Ent.zero, 1), es, (headS S es).2)
section
variable {w w' w1 : World} {o o' o1 : Own} {q j k n : Nat} {K : Nat → Prop} {S S1 S2 : OS} {L : CL} {wr pb : Int} {es : List Ent} {e : Ent} {a : Option Addr} {c : Nat}
theorem rIssue_spec (P : RLog w o q wr pb es) (h : RSt w o j S n) (hqj : q ≠ j) (hn : n + 2 < 1000000) (hsum : 0 ≤ (headS S es).1 ∧ (headS S es).1 < 18446744073709551616) (sec t tw ep : Int) {body : List UInt8} (hfs : (nextR S wr pb es t tw ep body).fit → (signE (headS S es).2 sec (nextR S wr pb es t tw ep body)).1.1.fit) (hb : Row w o a (bytesV body)) (hbc : body.length ≤ c) :
    Calls Try.prog 16 #[.pointer (some (blk q)), .pointer (some (blk j)), .int .u64 sec, .agg #[.int .i64 t, .int .i64 tw], .int .i64 ep, .slice a body.length c] w (fun x w' => ∃ o' a' c', x = .returned (.tuple #[entV (issueR S wr pb es sec t tw ep body).1.1 a' c', .int .i64 (issueR S wr pb es sec t tw ep body).1.2]) ∧ Step (fun i => i = q ∨ i = j) w o w' o' ∧
      RLog w' o' q wr pb (issueR S wr pb es sec t tw ep body).2.1 ∧ RSt w' o' j (issueR S wr pb es sec t tw ep body).2.2 (n + 2) ∧ Row w' o' a' (bytesV (issueR S wr pb es sec t tw ep body).1.1.body) ∧ (issueR S wr pb es sec t tw ep body).1.1.body.length ≤ c') := by
  refine (cachetteref07_Log_Issue.go (some (blk q)) (some (blk j)) sec t tw ep a body.length c (R := fun v w' => ∃ o' a' c', v = (.tuple #[entV (issueR S wr pb es sec t tw ep body).1.1 a' c', .int .i64 (issueR S wr pb es sec t tw ep body).1.2]) ∧ Step (fun i => i = q ∨ i = j) w o w' o' ∧
      RLog w' o' q wr pb (issueR S wr pb es sec t tw ep body).2.1 ∧ RSt w' o' j (issueR S wr pb es sec t tw ep body).2.2 (n + 2) ∧ Row w' o' a' (bytesV (issueR S wr pb es sec t tw ep body).1.1.body) ∧ (issueR S wr pb es sec t tw ep body).1.1.body.length ≤ c') ?_).mono fun x w' ⟨v, he, o', a', c', hv, hw⟩ => ⟨o', a', c', by rw [he, hv], hw⟩
  unfold cachetteref07_Log_Issue.N
  obtain ⟨la, lc, l, g0, b1, b2, b3, b4⟩ := P.st
  have hl := len_map_e g0
  have hjl := h.lt
  have hlt := P.lt
  rw [hl] at b1 b2
  have hF : cachetteref06_Right.F wr (es.length : Int) (headS S es).1 t tw ep a body.length c 0 = entRight (nextR S wr pb es t tw ep body) := refRight_F (nextR S wr pb es t tw ep body) a c
  have hf : (nextR S wr pb es t tw ep body).fit := ⟨hsum.1, hsum.2, by show (0 : Int) ≤ 0; decide, by show (0 : Int) < _; decide⟩
  refine ⟨_, rfl, la, es.length, lc, b1.cella (i := 2) rfl, fun hge w21 X21 => ?_, fun hlt2 => ⟨_, b1.cella (i := 0) rfl, la, es.length, lc, b1.cella (i := 2) rfl, ?_, ?_⟩⟩
  · have s := Step.of_no X21 h.ok
    unfold issueR; rw [if_pos (show es.length ≥ 200 by omega)]
    exact ⟨_, none, 0, rfl, s.none, P.step s id, (h.step s id).mono (by omega), Row.nil _ _ _, Nat.le_refl _⟩
  · have hn2 : ¬ (es.length ≥ 200) := by omega
    intro w24 p29 p30 X24 hp
    obtain ⟨s24, M24⟩ := Step.priv X24 hp h.ok
    have gp29 := hp p29 (by simp)
    have gp30 := hp p30 (by simp)
    refine (rHead_spec (P.step s24 id) (h.step s24 id) (by omega)).mono fun z w35 ⟨o35, he, s35', r35⟩ => ?_
    have s35 := s24.none.trans s35'
    have P35 := (P.step s24 id).step s35' hqj
    have b35 := s35.blk b1 P.own hqj
    have M35 := M24.step s35'
    refine ⟨_, _, _, he, M24.keep s35' (by simp; omega), b35.cella (i := 2) rfl, b35.cella (i := 0) rfl, ?_⟩
    rw [hF]
    refine ⟨fun hr w56 X56 => ?_, fun hr w47 p58 X47 hp58 => ?_⟩
    · have s56' := Step.stores X56 s35.ok (M35.sub (M := [p30]) (by simp)) (by simp [or_comm])
      have s56 := s35.trans' s56' fun i hi => .inr (by simp at hi; omega)
      unfold issueR; rw [if_neg hn2, if_neg (by rw [hr]; decide)]
      exact ⟨_, none, 0, rfl, s56.mono fun _ h _ => .inr h, P35.step s56' (by simp; omega), (r35.step s56' (by simp; omega)).mono (by omega), Row.nil _ _ _, Nat.le_refl _⟩
    obtain ⟨s47', M47'⟩ := Step.priv X47 hp58 s35.ok
    have M47 := ((M35.step s47').sub (M := [p30]) (by simp)).app M47'
    have s47 := s35.trans s47'.none
    have P47 := P35.step s47' id
    have r47 := r35.step s47' id
    refine (rLate_spec P47 t tw).mono fun z w61 ⟨he, X61⟩ => ⟨_, he, X61.kept, fun hl1 w70 X70 => ?_, fun hl0 => ?_⟩
    · have s61' := Step.of_no X61 s47.ok
      have M61 := M47.step s61'
      have s61 := s47.trans s61'.none
      have s70' := Step.stores X70 s61.ok (M61.sub (M := [p30]) (by simp)) (by simp)
      have s70 := s61.trans' s70' fun i hi => .inr (by simp at hi; omega)
      unfold issueR; rw [if_neg hn2, if_pos hr, if_pos hl1]
      exact ⟨_, none, 0, rfl, s70.mono fun _ h _ => .inr h, (P47.step s61' id).step s70' (by simp; omega), ((r47.step s61' id).step s70' (by simp; omega)).mono (by omega), Row.nil _ _ _, Nat.le_refl _⟩
    have s61' := Step.of_no X61 s47.ok
    have M61 := (M47.step s61').sub (M := [p30]) (by simp)
    have s61 := s47.trans s61'.none
    have l61 := s61.size
    have hl0' : ¬ lateS es t tw = true := by rw [hl0]; decide
    refine ((r47.step s61' id).sign (by omega) sec (e := nextR S wr pb es t tw ep body) (fun _ => hf) (hb.step s61) hbc).mono fun z w81 ⟨o81, ba, bc, he, s81', r81, rb, lb⟩ => ⟨_, _, _, _, _, _, _, _, _, _, _, he, M61.keep s81' (by simp; omega), ?_⟩
    have s81 := s61.trans s81'
    have M81 := M61.step s81'
    have P81 := (P47.step s61' id).step s81' hqj
    have l81 := s81.size
    refine ⟨fun hne w99 X99 => ?_, fun heq => ?_⟩
    · have s99' := Step.stores X99 s81.ok M81 (by simp)
      have s99 := s81.trans' s99' fun i hi => .inr (by simp at hi; omega)
      unfold issueR; rw [if_neg hn2, if_pos hr, if_neg hl0', if_pos hne]
      exact ⟨_, none, 0, rfl, s99.mono fun _ h _ => .inr h, P81.step s99' (by simp; omega), (r81.step s99' (by simp; omega)).mono (by omega), Row.nil _ _ _, Nat.le_refl _⟩
    have hfit := hfs hf
    generalize hs : signE (headS S es).2 sec (nextR S wr pb es t tw ep body) = sg at *
    obtain ⟨⟨x, kd⟩, S8⟩ := sg
    obtain ⟨la, lc, l, g0, b1, b2, b3, b4⟩ := P81.st
    have hl := len_map_e g0
    refine ⟨la, l.length, lc, b1.cella (i := 2) rfl, fun w104 q105 p106 X104 hb105 hq105 hq105' hp106 => ?_⟩
    have s104' := Step.of_no X104 s81.ok
    have b104 := s104'.blk b1 P81.own id
    obtain ⟨i, hi, hz, hsz, hby⟩ := info_of inf47
    have hnews : RowAt w104 (some (blk q105)) (PE.C ⟨x, ba, bc⟩) := RowAt.of_blk hb105
    have l104 := s104'.size
    have M104 := M81.step s104'
    have g106 := hp106.one
    obtain ⟨a', c', w109, o109, hr9, s109', g109, hkeep, hblk⟩ := (b2.step s104' id).push (ty := 40) Try.underlying40 hi hz hsz hby rfl (by decide) s104'.ok (by omega) (xa := some (blk q105)) (m := 1) (xc := 1) (news := PE.C ⟨x, ba, bc⟩) rfl hnews (PE.one _) (by decide) (by omega) (by omega)
    have oq104 : grow w81 o81 q = some q := (s104'.own (by omega)).trans P81.own
    have b109 : Blk w109 q 42 [.int .i64 wr, .int .u64 pb, .slice la l.length lc] := by
      unfold Blk at b104 ⊢
      rw [hkeep q (by omega) fun ad hd e => b3 ad hd e.symm]; exact b104
    refine ⟨b104.cella (i := 2) rfl, a', _, c', w109, hr9, s109'.keep fun p hp hps k hk => ?_, b109.cana (i := 2) rfl, fun p hp => ?_, thenW_in fun w110 e110 w118 X118 => ?_⟩
    · simp only [List.mem_cons, List.not_mem_nil, or_false] at hp
      rcases hp with rfl | rfl
      · rw [(M104 p (by simp)).2] at hk; cases hk; omega
      · rw [grow_ge (by omega)] at hk; cases hk
    · simp only [List.mem_cons, List.not_mem_nil, or_false] at hp
      show p ≠ q
      rcases hp with rfl | rfl <;> omega
    have tq109 : o109 q = some q := (s109'.own (by omega)).trans oq104
    have hne : ∀ ad, a' = some ad → ad.block ≠ q := fun ad hd e => by
      rcases hblk ad hd with ⟨b, hb1, hb2⟩ | hq
      · exact b3 b hb1 (by omega)
      · omega
    have X110 : Ext (fun b => b = q) w109 w110 := (Ext.refl (fun b => b = q) w109).x_set (q := q) (i := 2) rfl (.inl rfl) e110
    obtain ⟨o110, s110'⟩ := Step.store1 X110 s109'.ok tq109
    have b110 := b109.seti 2 rfl e110
    have l109 := s109'.size
    have st : Step (fun i => i = q) w81 o81 w110 o110 := (s104'.none.trans s109').trans s110'
    have M110 := M81.step st
    have s118' := Step.stores X118 st.ok M110 (by simp)
    have s110 : Step (fun i => i = q ∨ i = j) w o w110 o110 := (s81.mono fun _ h _ => .inr h).trans (st.mono fun _ h _ => .inl h)
    have s118 := s110.trans' s118' fun i hi => .inr (by simp at hi; omega)
    unfold issueR; rw [if_neg hn2, if_pos hr, if_neg hl0', hs, if_neg (not_not_intro heq)]
    have few : es.length + 1 ≤ 200 := by omega
    refine ⟨_, ba, bc, rfl, s118, RLog.step ⟨(s110'.own (by omega)).trans tq109, by rw [List.length_append]; exact few, a', c', l ++ [⟨x, ba, bc⟩], by rw [List.map_append, g0]; rfl, by rw [List.length_append]; exact b110, ?_, hne, fun y hy => ?_⟩ s118' (by simp; omega), (r81.step st (fun e => hqj e.symm)).step s118' (by simp; omega), (rb.step st).step s118', lb⟩
    · rw [List.length_append]
      have : PE.Cs (l ++ [⟨x, ba, bc⟩]) = PE.Cs l ++ PE.C ⟨x, ba, bc⟩ := by simp [PE.Cs]
      rw [this]
      exact g109.keep X110 (fun ad hd => hne ad hd) fun b hb => s110'.own hb
    · rcases List.mem_append.1 hy with hy | hy
      · exact (b4 y hy).step st
      · simp at hy; subst hy
        exact ⟨rb.step st, lb, hfit⟩
  · have hn2 : ¬ (es.length ≥ 200) := by omega
    intro w24 p30 p31 p32 X24 hp
    obtain ⟨s24, M24⟩ := Step.priv X24 hp h.ok
    have gp30 := hp p30 (by simp)
    have gp31 := hp p31 (by simp)
    have gp32 := hp p32 (by simp)
    refine (rHead_spec (P.step s24 id) (h.step s24 id) (by omega)).mono fun z w35 ⟨o35, he, s35', r35⟩ => ?_
    have s35 := s24.none.trans s35'
    have P35 := (P.step s24 id).step s35' hqj
    have b35 := s35.blk b1 P.own hqj
    have M35 := M24.step s35'
    refine ⟨_, _, _, he, M24.keep s35' (by simp; omega), b35.cella (i := 2) rfl, b35.cella (i := 0) rfl, ?_⟩
    rw [hF]
    refine ⟨fun hr w56 X56 => ?_, fun hr w47 X47 => ?_⟩
    · have s56' := Step.stores X56 s35.ok (M35.sub (M := [p31, p32]) (by simp)) (by simp [or_comm])
      have s56 := s35.trans' s56' fun i hi => .inr (by simp at hi; omega)
      unfold issueR; rw [if_neg hn2, if_neg (by rw [hr]; decide)]
      exact ⟨_, none, 0, rfl, s56.mono fun _ h _ => .inr h, P35.step s56' (by simp; omega), (r35.step s56' (by simp; omega)).mono (by omega), Row.nil _ _ _, Nat.le_refl _⟩
    have s47' := Step.stores X47 s35.ok (M35.sub (M := [p32]) (by simp)) (by simp)
    have M47 := (M35.step s47').sub (M := [p31, p32]) (by simp)
    have s47 := s35.trans' s47' fun i hi => .inr (by simp at hi; omega)
    have P47 := P35.step s47' (by simp; omega)
    have r47 := r35.step s47' (by simp; omega)
    refine (rLate_spec P47 t tw).mono fun z w61 ⟨he, X61⟩ => ⟨_, he, X61.kept, fun hl1 w70 X70 => ?_, fun hl0 => ?_⟩
    · have s61' := Step.of_no X61 s47.ok
      have M61 := M47.step s61'
      have s61 := s47.trans s61'.none
      have s70' := Step.stores X70 s61.ok (M61.sub (M := [p31]) (by simp)) (by simp)
      have s70 := s61.trans' s70' fun i hi => .inr (by simp at hi; omega)
      unfold issueR; rw [if_neg hn2, if_pos hr, if_pos hl1]
      exact ⟨_, none, 0, rfl, s70.mono fun _ h _ => .inr h, (P47.step s61' id).step s70' (by simp; omega), ((r47.step s61' id).step s70' (by simp; omega)).mono (by omega), Row.nil _ _ _, Nat.le_refl _⟩
    have s61' := Step.of_no X61 s47.ok
    have M61 := (M47.step s61').sub (M := [p31]) (by simp)
    have s61 := s47.trans s61'.none
    have l61 := s61.size
    have hl0' : ¬ lateS es t tw = true := by rw [hl0]; decide
    refine ((r47.step s61' id).sign (by omega) sec (e := nextR S wr pb es t tw ep body) (fun _ => hf) (hb.step s61) hbc).mono fun z w81 ⟨o81, ba, bc, he, s81', r81, rb, lb⟩ => ⟨_, _, _, _, _, _, _, _, _, _, _, he, M61.keep s81' (by simp; omega), ?_⟩
    have s81 := s61.trans s81'
    have M81 := M61.step s81'
    have P81 := (P47.step s61' id).step s81' hqj
    have l81 := s81.size
    refine ⟨fun hne w99 X99 => ?_, fun heq => ?_⟩
    · have s99' := Step.stores X99 s81.ok M81 (by simp)
      have s99 := s81.trans' s99' fun i hi => .inr (by simp at hi; omega)
      unfold issueR; rw [if_neg hn2, if_pos hr, if_neg hl0', if_pos hne]
      exact ⟨_, none, 0, rfl, s99.mono fun _ h _ => .inr h, P81.step s99' (by simp; omega), (r81.step s99' (by simp; omega)).mono (by omega), Row.nil _ _ _, Nat.le_refl _⟩
    have hfit := hfs hf
    generalize hs : signE (headS S es).2 sec (nextR S wr pb es t tw ep body) = sg at *
    obtain ⟨⟨x, kd⟩, S8⟩ := sg
    obtain ⟨la, lc, l, g0, b1, b2, b3, b4⟩ := P81.st
    have hl := len_map_e g0
    refine ⟨la, l.length, lc, b1.cella (i := 2) rfl, fun w104 q105 p106 X104 hb105 hq105 hq105' hp106 => ?_⟩
    have s104' := Step.of_no X104 s81.ok
    have b104 := s104'.blk b1 P81.own id
    obtain ⟨i, hi, hz, hsz, hby⟩ := info_of inf47
    have hnews : RowAt w104 (some (blk q105)) (PE.C ⟨x, ba, bc⟩) := RowAt.of_blk hb105
    have l104 := s104'.size
    have M104 := M81.step s104'
    have g106 := hp106.one
    obtain ⟨a', c', w109, o109, hr9, s109', g109, hkeep, hblk⟩ := (b2.step s104' id).push (ty := 40) Try.underlying40 hi hz hsz hby rfl (by decide) s104'.ok (by omega) (xa := some (blk q105)) (m := 1) (xc := 1) (news := PE.C ⟨x, ba, bc⟩) rfl hnews (PE.one _) (by decide) (by omega) (by omega)
    have oq104 : grow w81 o81 q = some q := (s104'.own (by omega)).trans P81.own
    have b109 : Blk w109 q 42 [.int .i64 wr, .int .u64 pb, .slice la l.length lc] := by
      unfold Blk at b104 ⊢
      rw [hkeep q (by omega) fun ad hd e => b3 ad hd e.symm]; exact b104
    refine ⟨b104.cella (i := 2) rfl, a', _, c', w109, hr9, s109'.keep fun p hp hps k hk => ?_, b109.cana (i := 2) rfl, fun p hp => ?_, thenW_in fun w110 e110 w118 X118 => ?_⟩
    · simp only [List.mem_cons, List.not_mem_nil, or_false] at hp
      rcases hp with rfl | rfl
      · rw [(M104 p (by simp)).2] at hk; cases hk; omega
      · rw [grow_ge (by omega)] at hk; cases hk
    · simp only [List.mem_cons, List.not_mem_nil, or_false] at hp
      show p ≠ q
      rcases hp with rfl | rfl <;> omega
    have tq109 : o109 q = some q := (s109'.own (by omega)).trans oq104
    have hne : ∀ ad, a' = some ad → ad.block ≠ q := fun ad hd e => by
      rcases hblk ad hd with ⟨b, hb1, hb2⟩ | hq
      · exact b3 b hb1 (by omega)
      · omega
    have X110 : Ext (fun b => b = q) w109 w110 := (Ext.refl (fun b => b = q) w109).x_set (q := q) (i := 2) rfl (.inl rfl) e110
    obtain ⟨o110, s110'⟩ := Step.store1 X110 s109'.ok tq109
    have b110 := b109.seti 2 rfl e110
    have l109 := s109'.size
    have st : Step (fun i => i = q) w81 o81 w110 o110 := (s104'.none.trans s109').trans s110'
    have M110 := M81.step st
    have s118' := Step.stores X118 st.ok M110 (by simp)
    have s110 : Step (fun i => i = q ∨ i = j) w o w110 o110 := (s81.mono fun _ h _ => .inr h).trans (st.mono fun _ h _ => .inl h)
    have s118 := s110.trans' s118' fun i hi => .inr (by simp at hi; omega)
    unfold issueR; rw [if_neg hn2, if_pos hr, if_neg hl0', hs, if_neg (not_not_intro heq)]
    have few : es.length + 1 ≤ 200 := by omega
    refine ⟨_, ba, bc, rfl, s118, RLog.step ⟨(s110'.own (by omega)).trans tq109, by rw [List.length_append]; exact few, a', c', l ++ [⟨x, ba, bc⟩], by rw [List.map_append, g0]; rfl, by rw [List.length_append]; exact b110, ?_, hne, fun y hy => ?_⟩ s118' (by simp; omega), (r81.step st (fun e => hqj e.symm)).step s118' (by simp; omega), (rb.step st).step s118', lb⟩
    · rw [List.length_append]
      have : PE.Cs (l ++ [⟨x, ba, bc⟩]) = PE.Cs l ++ PE.C ⟨x, ba, bc⟩ := by simp [PE.Cs]
      rw [this]
      exact g109.keep X110 (fun ad hd => hne ad hd) fun b hb => s110'.own hb
    · rcases List.mem_append.1 hy with hy | hy
      · exact (b4 y hy).step st
      · simp at hy; subst hy
        exact ⟨rb.step st, lb, hfit⟩
end
end Go.Proofs.Ytdelmfpchbpafaa

/- Cuts. -/
set_option linter.unusedVariables false
set_option linter.unusedSimpArgs false
set_option maxRecDepth 20000
set_option maxHeartbeats 2000000
namespace Go.Proofs.Ytdelmfpchbpafaa
open Go Go.Mx Go.Proofs
open W (OwnB GivesW numR countR doneR zig unzig intR)
section
variable {w w' w1 : World} {o o' o1 : Own} {q j k n : Nat} {K : Nat → Prop} {S S1 S2 : OS} {L : CL} {wr pb : Int} {es : List Ent} {e : Ent} {a : Option Addr} {c : Nat}
/-- a copy of a row of entries. -/
theorem copyE {ww : World} {qq : Nat} (X : Ext no w ww) (hb : Blk ww qq 47 []) (h1 : w.heap.size ≤ qq) (h2 : qq < ww.heap.size) (ok : Tags w o) {xa : Option Addr} {xc : Nat} {l : List PE} (hr : RowAt w xa (PE.Cs l)) (hm : l.length ≤ 200) :
    ∃ a' c' w' o', (Builtin.append_ #[40, 40] 40 #[.slice (some (blk qq)) 0 0, .slice xa l.length xc]).run Try.prog ww = .ok (.slice a' l.length c') w' ∧ Step no w o w' o' ∧ Row w' o' a' (PE.Cs l) := by
  have s := (Step.of_no X ok).tag h1 h2
  have g3 : Grows 47 8 ww (tag (grow w o) qq qq) qq (some (blk qq)) 0 0 [] := ⟨owns_of_blk hb rfl (Nat.zero_le _), fun ad ha => by cases ha; exact ⟨tag_self, h2⟩⟩
  obtain ⟨i, hi, hz, hsz, hby⟩ := info_of inf47
  obtain ⟨a', c', w', o', q1, q2, q3, q4, q5⟩ := g3.push (ty := 40) Try.underlying40 hi hz hsz hby rfl (by decide) s.ok h2 (xa := xa) (m := l.length) (xc := xc) (news := PE.Cs l) (PE.Cs_length l) (hr.no X) (fun u hu => by obtain ⟨x, _, hx⟩ := List.mem_flatMap.1 hu; exact PE.one x u hx) (by omega) (by omega)
  rw [Nat.zero_add] at q1 q3
  rw [List.nil_append] at q3
  have st := s.trans' q2 fun i hi => .inr (by omega)
  have hL : LRow 47 8 w.heap.size w' o' a' l.length c' (PE.Cs l) := .inr ⟨qq, h1, Nat.lt_of_lt_of_le h2 q2.size, q3⟩
  exact ⟨a', c', w', _, q1, Step.of_no (st.ext.mono fun b ⟨_, _, h⟩ _ => h) ok, hL.give st (Nat.le_refl _)⟩
theorem PE.Cs_split (l : List PE) (i : Nat) : (PE.Cs l).take (i * 8) = PE.Cs (l.take i) ∧ (PE.Cs l).drop (i * 8) = PE.Cs (l.drop i) := by
  unfold PE.Cs
  induction l generalizing i with
  | nil => simp
  | cons x r ih =>
    cases i with
    | zero => simp
    | succ i =>
      have := ih i
      have hx : x.C.length = 8 := rfl
      simp only [List.flatMap_cons, List.take_succ_cons, List.drop_succ_cons]
      rw [show (i + 1) * 8 = x.C.length + i * 8 by rw [hx]; omega, List.take_length_add_append, List.drop_length_add_append]
      exact ⟨by rw [this.1], this.2⟩
def cutN (es : List Ent) (n : Int) : Nat := min n.toNat es.length
theorem rCut_spec (P : RLog w o q wr pb es) (ok : Tags w o) (n : Int) :
    Calls Try.prog 13 #[.pointer (some (blk q)), .int .i64 n] w (fun x w' => ∃ o' a' c', ∃ l' : List PE, x = .returned (.slice a' l'.length c') ∧ Step (fun i => i = q) w o w' o' ∧ RLog w' o' q wr pb (es.take (cutN es n)) ∧ l'.map PE.e = es.drop (cutN es n) ∧ Row w' o' a' (PE.Cs l') ∧ ∀ x ∈ l', x.ok w' o') := by
  refine (cachetteref07_Log_Cut.go (some (blk q)) n (R := fun v w' => ∃ o' a' c', ∃ l' : List PE, v = (.slice a' l'.length c') ∧ Step (fun i => i = q) w o w' o' ∧ RLog w' o' q wr pb (es.take (cutN es n)) ∧ l'.map PE.e = es.drop (cutN es n) ∧ Row w' o' a' (PE.Cs l') ∧ ∀ x ∈ l', x.ok w' o') ?_).mono fun x w' ⟨v, he, o', a', c', l', hv, hw⟩ => ⟨o', a', c', l', by rw [he, hv], hw⟩
  unfold cachetteref07_Log_Cut.N
  obtain ⟨la, lc, l, g0, b1, b2, b3, b4⟩ := P.st
  have hl := len_map_e g0
  have hlt := P.lt
  have hfew := P.few
  refine ⟨_, rfl, la, l.length, lc, b1.cella (i := 2) rfl, fun w6 q7 X6 hb7 hq7 hq7' => ?_⟩
  have hm : (if ((l.length : Int) : Int) < (if (0 : Int) > n then 0 else n) then (l.length : Int) else (if (0 : Int) > n then 0 else n)) = ((cutN es n : Nat) : Int) := by
    unfold cutN; rw [← hl]; split <;> split at * <;> omega
  rw [hm, Int.toNat_natCast]
  have hcl : cutN es n ≤ l.length := by unfold cutN; omega
  generalize hc : cutN es n = t at *
  have hdl : (l.drop t).length = l.length - t := List.length_drop
  have hcd := (PE.Cs_split l t).2
  have hct := (PE.Cs_split l t).1
  have b6 := (Step.of_no X6 ok).blk b1 P.own id
  have r0 : RowAt w (cutA la lc t 8) (PE.Cs (l.drop t)) := by
    have := b2.row.cutn t 8 lc (by rw [PE.Cs_length]; have := b2.le; omega) (by decide)
    rwa [hcd] at this
  obtain ⟨a', c', w11, o11, hr, s11, r11⟩ := copyE (xc := lc - t) X6 hb7 hq7 hq7' ok r0 (by omega)
  rw [hdl] at hr
  have b11 := s11.blk b1 P.own id
  have l11 := s11.size
  have tq11 := (s11.own hlt).trans P.own
  refine ⟨la, l.length, lc, b6.cella (i := 2) rfl, by omega, by omega, a', _, c', w11, hr, la, l.length, lc, b11.cella (i := 2) rfl, by omega, by have := b2.le; omega, by omega, by omega, b11.cana (i := 2) rfl, thenW_in fun w14 e14 => ?_⟩
  have X14 : Ext (fun b => b = q) w11 w14 := (Ext.refl (fun b => b = q) w11).x_set (q := q) (i := 2) rfl (.inl rfl) e14
  obtain ⟨o14, s14'⟩ := Step.store1 X14 s11.ok tq11
  have b14 := b11.seti 2 rfl e14
  have s14 : Step (fun i => i = q) w o w14 o14 := s11.none.trans s14'
  refine ⟨o14, a', c', l.drop t, by rw [hdl], s14, ⟨(s14'.own (by omega)).trans tq11, by rw [List.length_take]; omega, ?_⟩, by rw [← g0, List.map_drop], r11.step s14', fun x hx => ((b4 x (List.mem_of_mem_drop hx)).step s11).step s14'⟩
  by_cases hla : la = none
  · subst hla
    have : l = [] := by
      cases l with
      | nil => rfl
      | cons x r => exact absurd (b2.row.none_nil) (by simp [PE.Cs, PE.C, entC])
    subst this
    have ht : t = 0 := by simpa using hcl
    subst ht
    refine ⟨none, 0, [], by rw [← g0]; rfl, b14, .inl (Grows.nil _ _ _ _ _), fun ad h => (by cases h), fun x h => (by cases h)⟩
  · refine ⟨la, t, l.take t, by rw [← g0, List.map_take], ?_, ?_, b3, fun x hx => ((b4 x (List.mem_of_mem_take hx)).step s11).step s14'⟩
    · rw [List.length_take, Nat.min_eq_left hcl]; exact b14
    · have := (((b2.step s11 id).cut hcl hla).keep X14 (fun ad hd => b3 ad hd) fun b hb => s14'.own hb)
      rw [hct] at this
      rw [List.length_take, Nat.min_eq_left hcl]; exact this
end
end Go.Proofs.Ytdelmfpchbpafaa

/- The program's Cut. -/
set_option linter.unusedVariables false
set_option linter.unusedSimpArgs false
set_option maxRecDepth 20000
set_option maxHeartbeats 2000000
namespace Go.Proofs.Ytdelmfpchbpafaa
open Go Go.Mx Go.Proofs
open W (OwnB GivesW numR countR doneR zig unzig intR)
section
variable {w w' w1 : World} {o o' o1 : Own} {q j k n : Nat} {K : Nat → Prop} {s p : Int} {S S1 S2 : OS} {L : CL} {wr pb : Int} {es : List Ent} {e : Ent} {a : Option Addr} {c : Nat}
theorem eClone_spec (ok : Tags w o) {l : List PE} (hr : RowAt w a (PE.Cs l)) (hm : l.length ≤ 200) :
    Calls Try.prog 29 #[.slice a l.length c] w (fun x w' => ∃ o' a' c', x = .returned (.slice a' l.length c') ∧ Step no w o w' o' ∧ Row w' o' a' (PE.Cs l)) := by
  refine (slices_Clone_api_Entry_api_Entry.go a l.length c (R := fun v w' => ∃ o' a' c', v = (.slice a' l.length c') ∧ Step no w o w' o' ∧ Row w' o' a' (PE.Cs l)) ?_).mono fun x w' ⟨v, he, o', a', c', hv, hw⟩ => ⟨o', a', c', by rw [he, hv], hw⟩
  unfold slices_Clone_api_Entry_api_Entry.N
  refine ⟨fun hn => ?_, fun hn w3 q4 X3 hb hq hq' => ?_⟩
  · subst hn
    have : l = [] := by
      cases l with
      | nil => rfl
      | cons x r => exact absurd hr.none_nil (by simp [PE.Cs, PE.C, entC])
    subst this
    exact ⟨o, none, 0, rfl, Step.refl _ ok, Row.nil _ _ _⟩
  · obtain ⟨a', c', w6, o6, hrun, s6, r6⟩ := copyE (xc := c) X3 hb hq hq' ok hr hm
    exact ⟨a', _, c', w6, hrun, o6, a', c', rfl, s6, r6⟩
def cutL (S : OS) (L : CL) (n : Int) : CL := if n ≥ L.es.length then L else { L with es := L.es.take n.toNat, sum := sumS S (L.es.take n.toNat) }
theorem sum_known (g : Good S wr s es) (he : e ∈ es) : sumE S e = ((hv S e, 0), S) := by
  obtain ⟨i, hi⟩ := List.getElem?_of_mem he
  obtain ⟨h1, x, hx⟩ := g i e hi
  rw [sumE_right h1.right, hash_eq hx]
  unfold hv; rw [hx]; rfl
theorem cCut_spec (h : OneI w o q k s p S L n) (hn : n < 1000000) (i : Int) :
    Calls Try.prog 12 #[.pointer (some (blk q)), .int .i64 i] w (fun x w' => ∃ o' a' c', ∃ l' : List PE, x = .returned (.slice a' l'.length c') ∧ Step (fun i => i = q ∨ i = k) w o w' o' ∧ OneI w' o' q k s p S (cutL S L i) n ∧ l'.map PE.e = L.es.drop (cutN L.es i) ∧ Row w' o' a' (PE.Cs l') ∧ ∀ x ∈ l', x.ok w' o') := by
  refine (chain_Log_Cut.go (some (blk q)) i (R := fun v w' => ∃ o' a' c', ∃ l' : List PE, v = (.slice a' l'.length c') ∧ Step (fun i => i = q ∨ i = k) w o w' o' ∧ OneI w' o' q k s p S (cutL S L i) n ∧ l'.map PE.e = L.es.drop (cutN L.es i) ∧ Row w' o' a' (PE.Cs l') ∧ ∀ x ∈ l', x.ok w' o') ?_).mono fun x w' ⟨v, he, o', a', c', l', hv, hw⟩ => ⟨o', a', c', l', by rw [he, hv], hw⟩
  unfold chain_Log_Cut.N
  have P := h.log
  have ok := h.ok
  obtain ⟨la, lc, l, g0, b1, b2, b3, b4⟩ := P.st
  have hl := len_map_e g0
  have hlt := P.lt
  have hfew := P.few
  refine ⟨fun h => (by cases h), fun _ => ⟨_, rfl, la, l.length, lc, b1.cella (i := 3) rfl, fun hge => ?_, fun hlt2 => ?_⟩⟩
  · have e1 : cutL S L i = L := by unfold cutL; rw [if_pos (by omega)]
    have e2 : cutN L.es i = L.es.length := by
      have h9 : (l.length : Int) ≤ i := hge
      unfold cutN; omega
    rw [e1, e2, List.drop_length]
    exact ⟨o, none, 0, [], rfl, Step.refl _ ok, h, rfl, Row.nil _ _ _, fun x hx => by cases hx⟩
  have hm : (if (0 : Int) > i then 0 else i) = ((cutN L.es i : Nat) : Int) := by
    unfold cutN; rw [← hl]; split <;> omega
  have e1 : cutL S L i = { L with es := L.es.take (cutN L.es i), sum := sumS S (L.es.take (cutN L.es i)) } := by
    unfold cutL; rw [if_neg (show ¬ i ≥ (L.es.length : Int) by omega), show i.toNat = cutN L.es i by (have h9 : i < (l.length : Int) := hlt2); unfold cutN; omega]
  rw [hm, Int.toNat_natCast, e1]
  have hcl : cutN L.es i ≤ l.length := by unfold cutN; omega
  generalize hc : cutN L.es i = t at *
  have hdl : (l.drop t).length = l.length - t := List.length_drop
  have hcd := (PE.Cs_split l t).2
  have hct := (PE.Cs_split l t).1
  have r0 : RowAt w (cutA la lc t 8) (PE.Cs (l.drop t)) := by
    have := b2.row.cutn t 8 lc (by rw [PE.Cs_length]; have := b2.le; omega) (by decide)
    rwa [hcd] at this
  refine ⟨la, l.length, lc, b1.cella (i := 3) rfl, by omega, by omega, ?_⟩
  rw [← hdl]
  refine (eClone_spec ok r0 (by omega)).mono fun z w12 ⟨o12, a', c', he, s12, r12⟩ => ⟨_, _, _, he, ?_⟩
  have b12 := s12.blk b1 P.own id
  have l12 := s12.size
  have tq12 := (s12.own hlt).trans P.own
  refine ⟨la, l.length, lc, b12.cella (i := 3) rfl, by omega, by have := b2.le; omega, by omega, by omega, b12.cana (i := 3) rfl, thenW_in fun w15 e15 => ?_⟩
  have X15 : Ext (fun b => b = q) w12 w15 := (Ext.refl (fun b => b = q) w12).x_set (q := q) (i := 3) rfl (.inl rfl) e15
  have b15 := b12.seti 3 rfl e15
  refine ⟨b15.cana (i := 4) rfl, thenW_in fun w16 e16 => ?_⟩
  have X16 : Ext (fun b => b = q) w12 w16 := X15.x_set (q := q) (i := 4) rfl (.inl rfl) e16
  obtain ⟨o16, s16'⟩ := Step.store1 X16 s12.ok tq12
  have b16 := b15.seti 4 rfl e16
  have hlt' : (L.es.take t).length = t := by rw [List.length_take]; omega
  have g16 : GrowsF 47 8 w16 o16 q la (l.take t).length t (PE.Cs (l.take t)) := by
    rw [List.length_take, Nat.min_eq_left hcl]
    by_cases hla : la = none
    · subst hla
      have : l = [] := by
        cases l with
        | nil => rfl
        | cons x r => exact absurd (b2.row.none_nil) (by simp [PE.Cs, PE.C, entC])
      subst this
      have ht : t = 0 := by simpa using hcl
      subst ht
      exact .inl (Grows.nil _ _ _ _ _)
    · have := (((b2.step s12 id).cut hcl hla).keep X16 (fun ad hd => b3 ad hd) fun b hb => s16'.own hb)
      rw [hct] at this
      exact this
  have tq16 : o16 q = some q := (s16'.own (by omega)).trans tq12
  have s16 : Step (fun i => i = q) w o w16 o16 := s12.none.trans s16'
  have hoks : ∀ {w9 : World} {o9 : Own} {K9 : Nat → Prop}, Step K9 w o w9 o9 → ∀ x ∈ l.take t, x.ok w9 o9 := fun st x hx => (b4 x (List.mem_of_mem_take hx)).step st
  have hmap : (l.take t).map PE.e = L.es.take t := by rw [← g0, List.map_take]
  have lok' : LOk S s p { L with es := L.es.take t, sum := sumS S (L.es.take t) } := ⟨h.lok.good.take t, rfl, h.lok.pb, by show (L.es.take t).length ≤ 200; omega⟩
  have hdrop : (l.drop t).map PE.e = L.es.drop t := by rw [← g0, List.map_drop]
  have hkq := h.ne
  refine ⟨fun hpos => ?_, fun hz => ?_⟩
  · have hi : t - 1 < (l.take t).length := by rw [List.length_take]; omega
    have hgx : (l.take t)[t - 1]? = some (l.take t)[t - 1] := List.getElem?_eq_getElem hi
    have hxm := List.getElem_mem hi
    generalize (l.take t)[t - 1] = x at *
    obtain ⟨ad, rfl⟩ := g16.row.faddr PE.len (by decide) hi
    have hxe : x.e ∈ L.es := by rw [← g0]; exact List.mem_map_of_mem (List.mem_of_mem_take hxm)
    have hlast : (L.es.take t).getLast? = some x.e := by rw [List.getLast?_eq_getElem?, hlt', ← hmap, List.getElem?_map, hgx]; rfl
    have hS := sum_known h.lok.good hxe
    refine ⟨_, b16.cella (i := 0) rfl, some ad, t, t, b16.cella (i := 3) rfl, by omega, by omega, ad, rfl, by omega, by omega, x.e.w, x.e.i, x.e.pv, x.e.t, x.e.tw, x.e.ep, x.a, x.e.body.length, x.c, x.e.sg, by rw [show ((t : Int) - 1).toNat = t - 1 by omega]; exact PE.loads g16.row rfl hgx, fun w18 X18 => ?_⟩
    have s18' := Step.of_no X18 s16'.ok
    have s18 := s16.trans s18'.none
    have hx18 := hoks s18 x hxm
    have u := h.len
    refine (SumO ((h.orc.step s16 (fun e => hkq e.symm)).step s18' id) s18'.ok h.inv.ok (by omega) (e := x.e) (fun _ => hx18.2.2) hx18.1.1).mono fun z w36 ⟨o36, he, s36', p36⟩ => ⟨_, _, he, ?_⟩
    rw [hS] at p36 ⊢
    have b36 := s36'.blk (s18'.blk b16 tq16 id) ((s18'.own (by have := s16.size; omega)).trans tq16) hkq
    have l16 := s16.size
    have l18 := s18.size
    refine ⟨b36.cana (i := 4) rfl, thenW_in fun w37 e37 => ?_⟩
    have X37 : Ext (fun b => b = q) w36 w37 := (Ext.refl (fun b => b = q) w36).x_set (q := q) (i := 4) rfl (.inl rfl) e37
    have tq36 : o36 q = some q := (s36'.own (by omega)).trans ((s18'.own (by omega)).trans tq16)
    obtain ⟨o37, s37'⟩ := Step.store1 X37 s36'.ok tq36
    have b37 := b36.seti 4 rfl e37
    have s36 : Step (fun i => i = q ∨ i = k) w o w36 o36 := (s18.mono fun _ h _ => .inl h).trans (s36'.mono fun _ h _ => .inr h)
    have s37 := s36.trans (s37'.mono fun _ h _ => .inl h)
    have hq36 := b36.lt
    refine ⟨o37, a', c', l.drop t, rfl, s37, ⟨⟨(s37'.own hq36).trans tq36, by show (L.es.take t).length ≤ 200; omega, some ad, t, l.take t, hmap, ?_, ?_, b3, hoks s37⟩, p36.step s37' (fun e => hkq e.symm), s37'.ok, h.inv, h.key, lok', u, hkq⟩, hdrop, (((r12.step s16').step s18').step s36').step s37', fun y hy => (b4 y (List.mem_of_mem_drop hy)).step s37⟩
    · have hsum : sumS S (L.es.take t) = hv S x.e := by unfold sumS; rw [hlast]
      rw [hsum, List.length_take, Nat.min_eq_left hcl]; exact b37
    · exact (((g16.step s18' id).step s36' hkq).keep X37 (fun ad hd => b3 ad hd) fun b hb => s37'.own hb)
  · have ht0 : t = 0 := by omega
    subst ht0
    refine ⟨o16, a', c', l.drop 0, rfl, s16.mono fun _ h _ => .inl h, ⟨⟨tq16, by show (L.es.take 0).length ≤ 200; omega, la, 0, l.take 0, hmap, ?_, ?_, b3, hoks s16⟩, h.orc.step s16 (fun e => hkq e.symm), s16'.ok, h.inv, h.key, lok', h.len, hkq⟩, hdrop, r12.step s16', fun y hy => (b4 y (List.mem_of_mem_drop hy)).step s16⟩
    · exact b16
    · exact g16
end
end Go.Proofs.Ytdelmfpchbpafaa

/- Both logs, side by side. -/
set_option linter.unusedVariables false
set_option linter.unusedSimpArgs false
set_option maxRecDepth 20000
set_option maxHeartbeats 2000000
namespace Go.Proofs.Ytdelmfpchbpafaa
open Go Go.Mx Go.Proofs
open W (OwnB GivesW numR countR doneR zig unzig intR)
section
variable {w w' w1 : World} {o o' o1 : Own} {q r j k n m : Nat} {K : Nat → Prop} {s p : Int} {S S1 S2 : OS} {L : CL} {wr pb : Int} {es : List Ent} {e : Ent} {a : Option Addr} {c : Nat}
theorem same7_spec (h : OneI w o q k s p S2 L n) (P : RLog w o r L.wr pb L.es) (R : RSt w o j S1 m) (hm : m + 1 < 1000000) (hqj : q ≠ j) (hrj : r ≠ j) (hkj : k ≠ j) (lag : headS S1 L.es = (L.sum, S2)) (hbl : ∀ x ∈ L.es, x.body.length < 1000000) :
    Calls Try.prog 14 #[.pointer (some (blk q)), .pointer (some (blk r)), .pointer (some (blk j))] w (Gs (fun i => i = j) w o (.bool true) fun w' o' => RSt w' o' j S2 (m + 1)) := by
  refine (cachettelaw07_same.go _ _ _ (R := fun v w' => ∃ o', v = .bool true ∧ Step (fun i => i = j) w o w' o' ∧ RSt w' o' j S2 (m + 1)) ?_).mono fun x w' ⟨v, he, o', hv, hw⟩ => ⟨o', by rw [he, hv], hw⟩
  unfold cachettelaw07_same.N
  obtain ⟨la, lc, l, g0, b1, b2, b3, b4⟩ := P.st
  have hl := len_map_e g0
  have hfew := P.few
  refine ⟨_, rfl, la, l.length, lc, b1.cella (i := 2) rfl, fun w4 X4 => ?_⟩
  have s4 := Step.of_no X4 h.ok
  have b4' := s4.blk b1 P.own id
  refine (cLen_spec (h.log.step s4 id)).mono fun z w10 ⟨he, hw⟩ => ⟨_, he, ?_⟩
  subst hw
  refine ⟨b4'.cella (i := 2) rfl, fun _ => ?_, fun hne => absurd (by rw [hl]) hne⟩
  refine (cHead_spec (h.log.step s4 id)).mono fun z w17 ⟨he, X17⟩ => ⟨_, _, _, he, ?_⟩
  have s17 := s4.trans (Step.of_no X17 s4.ok)
  refine (rHead_spec (P.step s17 id) (R.step s17 id) hm).mono fun z w22 ⟨o22, he, s22', r22⟩ => ⟨_, _, _, he, fun _ => ?_, fun hne => absurd ⟨rfl, rfl, by rw [lag]⟩ hne⟩
  rw [lag] at r22
  have s22 := s17.none.trans s22'
  have b22 := s22.blk b1 P.own hrj
  have h22 := h.step s22 hqj hkj
  refine ⟨la, l.length, lc, b22.cella (i := 2) rfl, ?_⟩
  refine (cAll_spec h22.log h22.ok (fun e he => by have := hbl e he; omega)).mono fun z w28 ⟨o28, a', c', l', he, s28, hmap, r28, lc28, ok28⟩ => ⟨_, _, _, he, ?_⟩
  have b28 := s28.blk b22 (s22.own P.lt |>.trans P.own) id
  refine ⟨b28.cella (i := 2) rfl, ?_⟩
  have b2' := (b2.step s22 hrj).step s28 id
  refine (refAll_spec r28.1 b2'.row (fun x hx => ⟨(ok28 x hx).1.1, hbl _ (by rw [← hmap]; exact List.mem_map_of_mem hx)⟩) (fun x hx => (((b4 x hx).step s22).step s28).1.1) (by have := len_map_e hmap; omega)).mono fun z w32 ⟨he, X32⟩ => ⟨_, he, ?_⟩
  have s32 := Step.of_no X32 s28.ok
  rw [decide_eq_true (by rw [hmap, g0])]
  exact ⟨_, rfl, (s22.trans s28.none).trans s32.none, (r22.step s28 id).step s32 id⟩
end
end Go.Proofs.Ytdelmfpchbpafaa
