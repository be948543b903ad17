/- Chain's laws: what is handed in; the example; all entries held against each other. -/
import Derived.Test.YtdelmfpchbpafaaZD
set_option linter.unusedVariables false
set_option linter.unusedSimpArgs false
set_option maxRecDepth 20000
set_option maxHeartbeats 2000000
namespace Go.Proofs.Ytdelmfpchbpafaa
open Go Go.Mx Go.Proofs
open W (OwnB GivesW numR countR doneR zig unzig intR)
/-- cachettelaw07.light -/
def cachettelaw07_light.M (ab : Option Addr) (a2 : Nat) (ac : Nat) (ae : Option Addr) (aa : Nat) (af : Nat) (R : Value → World → Prop) (w : World) : Prop :=
 bif decide ((a2 : Int) > 50) then (
 R (.bool false) w) else (
 bif decide ((aa : Int) > 40) then (
 R (.bool false) w) else (
 ∃ (I0 : Nat → List Value → World → Prop) (m4 : Nat), I0 m4 [.int .i64 0] w ∧ ∀ (m5 : Nat) (a8 : World) (i3 : Int), I0 m5 [.int .i64 i3] a8 →
 bif decide (i3 < (aa : Int)) then (
 ae.elim False fun a7 =>
 0 ≤ (i3 : Int) ∧ (i3 : Int) < (aa : Int) ∧
 ∃ (a5 : Option Addr) (a1 : Nat) (a6 : Nat), a8.cell? ((a7.add (Int.toNat i3 * 14)).add 3) = some (.slice a5 a1 a6) ∧
 bif decide ((a1 : Int) > 1200) then (
 R (.bool false) a8) else (
 ae.elim False fun a9 =>
 0 ≤ (i3 : Int) ∧ (i3 : Int) < (aa : Int) ∧
 ∃ (a4 : Option Addr) (a0 : Nat) (a3 : Nat), a8.cell? (((a9.add (Int.toNat i3 * 14)).add 6).add 6) = some (.slice a4 a0 a3) ∧
 bif decide ((a0 : Int) > 1200) then (
 R (.bool false) a8) else (
 ∃ ad, ad < m5 ∧ I0 ad [.int .i64 (IntKind.i64.wrap (i3 + 1))] a8))) else (
 R (.bool true) a8)))

theorem cachettelaw07_light.eq (draws1a : Option Addr) (draws1n : Nat) (draws1c : Nat) (l2a : Option Addr) (l2n : Nat) (l2c : Nat) (R : Value → World → Prop) (w : World) : mfunc Try.prog [(0, [1], [(5, (.one (.int .i64)))])] 5 [.slice draws1a draws1n draws1c, .slice l2a l2n l2c] R w = cachettelaw07_light.M draws1a draws1n draws1c l2a l2n l2c R w := by kernel_rfl
theorem cachettelaw07_light.ok (a1 : Option Addr) (a0 : Nat) (a2 : Nat) (a5 : Option Addr) (a3 : Nat) (a4 : Nat) {R : Value → World → Prop} {w : World} (h : cachettelaw07_light.M a1 a0 a2 a5 a3 a4 R w) : Calls Try.prog 5 #[.slice a1 a0 a2, .slice a5 a3 a4] w fun e w' => ∃ v, e = .returned v ∧ R v w' :=
  mfunc_ok follows (H := [(0, [1], [(5, (.one (.int .i64)))])]) (args := [.slice a1 a0 a2, .slice a5 a3 a4]) (by rw [cachettelaw07_light.eq]; exact h)

def cachettelaw07_light.N (a9 : Option Addr) (a2 : Nat) (aa : Nat) (ad : Option Addr) (a8 : Nat) (ae : Nat) (R : Value → World → Prop) (w : World) : Prop :=
 ((a2 : Int) > 50 →
 R (.bool false) w) ∧
 ((a2 : Int) ≤ 50 →
 ((a8 : Int) > 40 →
 R (.bool false) w) ∧
 ((a8 : Int) ≤ 40 →
 ∃ (I0 : Nat → List Value → World → Prop) (m6 : Nat), I0 m6 [.int .i64 0] w ∧ ∀ (m7 : Nat) (a7 : World) (i5 : Int), I0 m7 [.int .i64 i5] a7 →
 (i5 < (a8 : Int) →
 ∃ ab : Addr, ad = some ab ∧
 0 ≤ (i5 : Int) ∧ (i5 : Int) < (a8 : Int) ∧
 ∃ (a5 : Option Addr) (a1 : Nat) (a4 : Nat), a7.cell? ((ab.add (Int.toNat i5 * 14)).add 3) = some (.slice a5 a1 a4) ∧
 ((a1 : Int) > 1200 →
 R (.bool false) a7) ∧
 ((a1 : Int) ≤ 1200 →
 0 ≤ (i5 : Int) ∧ (i5 : Int) < (a8 : Int) ∧
 ∃ (a6 : Option Addr) (a0 : Nat) (a3 : Nat), a7.cell? (((ab.add (Int.toNat i5 * 14)).add 6).add 6) = some (.slice a6 a0 a3) ∧
 ((a0 : Int) > 1200 →
 R (.bool false) a7) ∧
 ((a0 : Int) ≤ 1200 →
 (-9223372036854775808 : Int) ≤ (i5 + 1) ∧ (i5 + 1) < 9223372036854775808 ∧
 ∃ ac, ac < m7 ∧ I0 ac [.int .i64 (i5 + 1)] a7))) ∧
 ((a8 : Int) ≤ i5 →
 R (.bool true) a7)))

theorem cachettelaw07_light.up (a1 : Option Addr) (a0 : Nat) (a2 : Nat) (ag : Option Addr) (ah : Nat) (ai : Nat) {R : Value → World → Prop} {w : World} (h : cachettelaw07_light.N a1 a0 a2 ag ah ai R w) : cachettelaw07_light.M a1 a0 a2 ag ah ai R w := by
  unfold cachettelaw07_light.M
  unfold cachettelaw07_light.N at h
  refine bif_of (fun c3 => ?_) (fun c3 => ?_)
  · have h := h.1 (of_decide_eq_true c3)
    exact h
  · have h := h.2 (Int.not_lt.1 (of_decide_eq_false c3))
    refine bif_of (fun c4 => ?_) (fun c4 => ?_)
    · have h := h.1 (of_decide_eq_true c4)
      exact h
    · have h := h.2 (Int.not_lt.1 (of_decide_eq_false c4))
      obtain ⟨I0, m6, h0, h⟩ := h
      refine ⟨I0, m6, h0, fun m7 am i5 hI => ?_⟩
      have h := h m7 am i5 hI
      refine bif_of (fun c9 => ?_) (fun c9 => ?_)
      · have h := h.1 (of_decide_eq_true c9)
        obtain ⟨an, a9, h⟩ := h
        refine elim_some a9 ?_
        obtain ⟨aa, ac, h⟩ := h
        refine ⟨aa, ac, ?_⟩
        obtain ⟨a5, a4, a7, ad, h⟩ := h
        refine ⟨a5, a4, a7, ad, ?_⟩
        refine bif_of (fun ab => ?_) (fun ab => ?_)
        · have h := h.1 (of_decide_eq_true ab)
          exact h
        · have h := h.2 (Int.not_lt.1 (of_decide_eq_false ab))
          refine elim_some a9 ?_
          obtain ⟨aa, ac, h⟩ := h
          refine ⟨aa, ac, ?_⟩
          obtain ⟨a8, a6, a3, ae, h⟩ := h
          refine ⟨a8, a6, a3, ae, ?_⟩
          refine bif_of (fun af => ?_) (fun af => ?_)
          · have h := h.1 (of_decide_eq_true af)
            exact h
          · have h := h.2 (Int.not_lt.1 (of_decide_eq_false af))
            obtain ⟨al, ak, h⟩ := h
            try rw [w64 al ak]
            obtain ⟨aj, hk, h⟩ := h
            exact ⟨aj, hk, h⟩
      · have h := h.2 (Int.not_lt.1 (of_decide_eq_false c9))
        exact h

theorem cachettelaw07_light.go (a1 : Option Addr) (a0 : Nat) (a2 : Nat) (a5 : Option Addr) (a3 : Nat) (a4 : Nat) {R : Value → World → Prop} {w : World} (h : cachettelaw07_light.N a1 a0 a2 a5 a3 a4 R w) : Calls Try.prog 5 #[.slice a1 a0 a2, .slice a5 a3 a4] w fun e w' => ∃ v, e = .returned v ∧ R v w' := cachettelaw07_light.ok a1 a0 a2 a5 a3 a4 (cachettelaw07_light.up a1 a0 a2 a5 a3 a4 h)
theorem cachettelaw07_light.run (a1 : Option Addr) (a0 : Nat) (a2 : Nat) (a5 : Option Addr) (a3 : Nat) (a4 : Nat) {V : Value} {Q : World → Prop} {w : World} (h : cachettelaw07_light.N a1 a0 a2 a5 a3 a4 (fun v w' => v = V ∧ Q w') w) : Calls Try.prog 5 #[.slice a1 a0 a2, .slice a5 a3 a4] w (Ret V Q) := (cachettelaw07_light.go a1 a0 a2 a5 a3 a4 h).mono fun e w' ⟨v, he, hv, hq⟩ => ⟨by rw [he, hv], hq⟩

/-- cachettelaw07.alive -/
def cachettelaw07_alive.M  (R : Value → World → Prop) (w : World) : Prop :=
 Calls Try.prog 7 #[.slice none 0 0] w fun ch ce => ∃ (be : Option Addr), ch = .returned (.pointer be) ∧
 Calls Try.prog 8 #[.pointer be] ce fun cf cg => ∃ (az : Int) (bc : Int), cf = .returned (.tuple #[.int .u64 az, .int .u64 bc]) ∧
 Calls Try.prog 10 #[.pointer be, .int .i64 1, .int .u64 bc] cg fun c9 bg => ∃ (b2 : Option Addr) (c3 : Int), c9 = .returned (.tuple #[.pointer b2, .int .i64 c3]) ∧
 thenW (bg.alloc (.cells #[.int .u8 120] 5)) fun cc =>
 ∃ (c2 : Option Addr) (bs : Nat) (bn : Nat) (bf : World), (convert 43 43 (.slice (some (blk bg.heap.size)) 1 1)).run Try.prog cc = .ok (.slice c2 bs bn) bf ∧
 Calls Try.prog 15 #[.pointer b2, .int .u64 az, .agg #[.int .i64 1, .int .i64 1], .int .i64 0, .slice c2 bs bn] bf fun ca a0 => ∃ (a7 : Int) (ae : Int) (ay : Int) (b6 : Int) (bb : Int) (al : Int) (ag : Option Addr) (af : Nat) (aq : Nat) (b3 : Int) (ao : Int), ca = .returned (.tuple #[.agg #[.int .i64 a7, .int .i64 ae, .int .u64 ay, .int .i64 b6, .int .i64 bb, .int .i64 al, .slice ag af aq, .int .u64 b3], .int .i64 ao]) ∧
 thenW (a0.alloc (.cells #[.int .i64 0, .int .i64 0, .int .u64 0, .int .i64 0, .int .i64 0, .int .i64 0, .slice none 0 0, .int .u64 0] 47)) fun bq =>
 canStore bq ((blk a0.heap.size).add 0) ∧
 thenW (bq.setCell ((blk a0.heap.size).add 0) (.int .i64 a7)) fun c1 =>
 canStore c1 ((blk a0.heap.size).add 1) ∧
 thenW (c1.setCell ((blk a0.heap.size).add 1) (.int .i64 ae)) fun br =>
 canStore br ((blk a0.heap.size).add 2) ∧
 thenW (br.setCell ((blk a0.heap.size).add 2) (.int .u64 ay)) fun bt =>
 canStore bt ((blk a0.heap.size).add 3) ∧
 thenW (bt.setCell ((blk a0.heap.size).add 3) (.int .i64 b6)) fun c4 =>
 canStore c4 ((blk a0.heap.size).add 4) ∧
 thenW (c4.setCell ((blk a0.heap.size).add 4) (.int .i64 bb)) fun bo =>
 canStore bo ((blk a0.heap.size).add 5) ∧
 thenW (bo.setCell ((blk a0.heap.size).add 5) (.int .i64 al)) fun c0 =>
 canStore c0 ((blk a0.heap.size).add 6) ∧
 thenW (c0.setCell ((blk a0.heap.size).add 6) (.slice ag af aq)) fun bh =>
 canStore bh ((blk a0.heap.size).add 7) ∧
 thenW (bh.setCell ((blk a0.heap.size).add 7) (.int .u64 b3)) fun c8 =>
 Calls Try.prog 15 #[.pointer b2, .int .u64 az, .agg #[.int .i64 2, .int .i64 1], .int .i64 0, .slice none 0 0] c8 fun cd a1 => ∃ (a8 : Int) (am : Int) (av : Int) (b5 : Int) (b7 : Int) (aj : Int) (ad : Option Addr) (ap : Nat) (an : Nat) (ba : Int) (ak : Int), cd = .returned (.tuple #[.agg #[.int .i64 a8, .int .i64 am, .int .u64 av, .int .i64 b5, .int .i64 b7, .int .i64 aj, .slice ad ap an, .int .u64 ba], .int .i64 ak]) ∧
 thenW (a1.alloc (.cells #[.int .i64 0, .int .i64 0, .int .u64 0, .int .i64 0, .int .i64 0, .int .i64 0, .slice none 0 0, .int .u64 0] 47)) fun bj =>
 canStore bj ((blk a1.heap.size).add 0) ∧
 thenW (bj.setCell ((blk a1.heap.size).add 0) (.int .i64 a8)) fun bk =>
 canStore bk ((blk a1.heap.size).add 1) ∧
 thenW (bk.setCell ((blk a1.heap.size).add 1) (.int .i64 am)) fun bv =>
 canStore bv ((blk a1.heap.size).add 2) ∧
 thenW (bv.setCell ((blk a1.heap.size).add 2) (.int .u64 av)) fun bp =>
 canStore bp ((blk a1.heap.size).add 3) ∧
 thenW (bp.setCell ((blk a1.heap.size).add 3) (.int .i64 b5)) fun bx =>
 canStore bx ((blk a1.heap.size).add 4) ∧
 thenW (bx.setCell ((blk a1.heap.size).add 4) (.int .i64 b7)) fun bz =>
 canStore bz ((blk a1.heap.size).add 5) ∧
 thenW (bz.setCell ((blk a1.heap.size).add 5) (.int .i64 aj)) fun bl =>
 canStore bl ((blk a1.heap.size).add 6) ∧
 thenW (bl.setCell ((blk a1.heap.size).add 6) (.slice ad ap an)) fun bm =>
 canStore bm ((blk a1.heap.size).add 7) ∧
 thenW (bm.setCell ((blk a1.heap.size).add 7) (.int .u64 ba)) fun c6 =>
 Calls Try.prog 25 #[.pointer b2] c6 fun cb a4 => ∃ (a6 : Int) (b4 : Int) (b9 : Int), cb = .returned (.agg #[.int .i64 a6, .int .i64 b4, .int .u64 b9]) ∧
 thenW (a4.alloc (.cells #[.int .i64 0, .int .i64 0, .int .u64 0] 65)) fun bu =>
 canStore bu ((blk a4.heap.size).add 0) ∧
 thenW (bu.setCell ((blk a4.heap.size).add 0) (.int .i64 a6)) fun bw =>
 canStore bw ((blk a4.heap.size).add 1) ∧
 thenW (bw.setCell ((blk a4.heap.size).add 1) (.int .i64 b4)) fun bi =>
 canStore bi ((blk a4.heap.size).add 2) ∧
 thenW (bi.setCell ((blk a4.heap.size).add 2) (.int .u64 b9)) fun a2 =>
 bif c3 == 0 then (
 bif ao == 0 then (
 bif ak == 0 then (
 ∃ (ar : Int), a2.cell? ((blk a0.heap.size).add 2) = some (.int .u64 ar) ∧
 bif ar == 0 then (
 ∃ (au : Int), a2.cell? ((blk a1.heap.size).add 2) = some (.int .u64 au) ∧
 bif au != 0 then (
 ∃ (bd : Int), a2.cell? ((blk a4.heap.size).add 1) = some (.int .i64 bd) ∧
 bif bd == 2 then (
 ∃ (b8 : Int), a2.cell? ((blk a4.heap.size).add 2) = some (.int .u64 b8) ∧
 ∃ (ax : Int), a2.cell? ((blk a1.heap.size).add 2) = some (.int .u64 ax) ∧
 bif b8 != ax then (
 ∃ (a3 : Int) (a9 : Int) (ah : Int) (b1 : Int) (aw : Int) (ab : Int) (ac : Option Addr) (a5 : Nat) (aa : Nat) (b0 : Int), cellsAt a2 (blk a0.heap.size) [.int .i64 a3, .int .i64 a9, .int .u64 ah, .int .i64 b1, .int .i64 aw, .int .i64 ab, .slice ac a5 aa, .int .u64 b0] 0 ∧
 Calls Try.prog 19 #[.pointer b2, .agg #[.int .i64 a3, .int .i64 a9, .int .u64 ah, .int .i64 b1, .int .i64 aw, .int .i64 ab, .slice ac a5 aa, .int .u64 b0]] a2 fun c7 c5 => ∃ (ai : Int), c7 = .returned (.int .i64 ai) ∧
 R (.bool (ai == 8)) c5) else (
 R (.bool false) a2)) else (
 R (.bool false) a2)) else (
 R (.bool false) a2)) else (
 R (.bool false) a2)) else (
 R (.bool false) a2)) else (
 R (.bool false) a2)) else (
 R (.bool false) a2)

theorem cachettelaw07_alive.eq  (R : Value → World → Prop) (w : World) : mfunc Try.prog [] 6 [] R w = cachettelaw07_alive.M  R w := by kernel_rfl
theorem cachettelaw07_alive.ok  {R : Value → World → Prop} {w : World} (h : cachettelaw07_alive.M  R w) : Calls Try.prog 6 #[] w fun e w' => ∃ v, e = .returned v ∧ R v w' :=
  mfunc_ok follows (H := []) (args := []) (by rw [cachettelaw07_alive.eq]; exact h)

def cachettelaw07_alive.N  (R : Value → World → Prop) (w : World) : Prop :=
 Calls Try.prog 7 #[.slice none 0 0] w fun bi bj => ∃ (ax : Option Addr), bi = .returned (.pointer ax) ∧
 Calls Try.prog 8 #[.pointer ax] bj fun bk bl => ∃ (ad : Int) (aw : Int), bk = .returned (.tuple #[.int .u64 ad, .int .u64 aw]) ∧
 Calls Try.prog 10 #[.pointer ax, .int .i64 1, .int .u64 aw] bl fun be b4 => ∃ (ae : Option Addr) (az : Int), be = .returned (.tuple #[.pointer ae, .int .i64 az]) ∧
 ∀ (al : World) (b9 : Nat), Ext no b4 al → Blk al b9 5 [.int .u8 120] → b4.heap.size ≤ b9 → b9 < al.heap.size →
 ∃ (b6 : Option Addr) (b8 : Nat) (b0 : Nat) (b5 : World), (convert 43 43 (.slice (some (blk b9)) 1 1)).run Try.prog al = .ok (.slice b6 b8 b0) b5 ∧
 Calls Try.prog 15 #[.pointer ae, .int .u64 ad, .agg #[.int .i64 1, .int .i64 1], .int .i64 0, .slice b6 b8 b0] b5 fun ba b3 => ∃ (a6 : Int) (ac : Int) (a4 : Int) (ar : Int) (au : Int) (a7 : Int) (a9 : Option Addr) (ab : Nat) (aa : Nat) (av : Int) (a2 : Int), ba = .returned (.tuple #[.agg #[.int .i64 a6, .int .i64 ac, .int .u64 a4, .int .i64 ar, .int .i64 au, .int .i64 a7, .slice a9 ab aa, .int .u64 av], .int .i64 a2]) ∧
 ∀ (an : World) (bc : Nat), Ext no b3 an → Priv b3 an [bc] →
 Calls Try.prog 15 #[.pointer ae, .int .u64 ad, .agg #[.int .i64 2, .int .i64 1], .int .i64 0, .slice none 0 0] an fun bf ay => ∃ (af : Int) (ak : Int) (a1 : Int) (b1 : Int) (b2 : Int) (aq : Int) (ap : Option Addr) (ao : Nat) (am : Nat) (b7 : Int) (a5 : Int), bf = .returned (.tuple #[.agg #[.int .i64 af, .int .i64 ak, .int .u64 a1, .int .i64 b1, .int .i64 b2, .int .i64 aq, .slice ap ao am, .int .u64 b7], .int .i64 a5]) ∧
 Keep [bc] an ay ∧
 ∀ (aj : World) (bh : Nat), Ext no ay aj → Priv ay aj [bh] →
 Calls Try.prog 25 #[.pointer ae] aj fun bb a3 => ∃ (ah : Int) (ag : Int) (ai : Int), bb = .returned (.agg #[.int .i64 ah, .int .i64 ag, .int .u64 ai]) ∧
 Keep [bc, bh] aj a3 ∧
 (az = 0 →
 (a2 = 0 →
 (a5 = 0 →
 (a4 = 0 →
 (a1 ≠ 0 →
 (ag = 2 →
 (ai ≠ a1 →
 ∀ (a0 : World), Ext no a3 a0 →
 Calls Try.prog 19 #[.pointer ae, .agg #[.int .i64 a6, .int .i64 ac, .int .u64 a4, .int .i64 ar, .int .i64 au, .int .i64 a7, .slice a9 ab aa, .int .u64 av]] a0 fun bg bd => ∃ (a8 : Int), bg = .returned (.int .i64 a8) ∧
 R (.bool (a8 == 8)) bd) ∧
 (ai = a1 →
 ∀ (a0 : World), Ext no a3 a0 →
 R (.bool false) a0)) ∧
 (ag ≠ 2 →
 ∀ (a0 : World), Ext no a3 a0 →
 R (.bool false) a0)) ∧
 (a1 = 0 →
 ∀ (a0 : World), Ext no a3 a0 →
 R (.bool false) a0)) ∧
 (a4 ≠ 0 →
 ∀ (a0 : World), Ext no a3 a0 →
 R (.bool false) a0)) ∧
 (a5 ≠ 0 →
 ∀ (a0 : World), Ext no a3 a0 →
 R (.bool false) a0)) ∧
 (a2 ≠ 0 →
 ∀ (a0 : World), Ext no a3 a0 →
 R (.bool false) a0)) ∧
 (az ≠ 0 →
 ∀ (a0 : World), Ext no a3 a0 →
 R (.bool false) a0)

theorem cachettelaw07_alive.up  {R : Value → World → Prop} {w : World} (h : cachettelaw07_alive.N  R w) : cachettelaw07_alive.M  R w := by
  unfold cachettelaw07_alive.M
  unfold cachettelaw07_alive.N at h
  refine h.mono fun ds dp h => ?_
  obtain ⟨bs, he, h⟩ := h
  refine ⟨bs, he, ?_⟩
  refine h.mono fun dq dr h => ?_
  obtain ⟨b8, b9, he, h⟩ := h
  refine ⟨b8, b9, he, ?_⟩
  refine h.mono fun dk b5 h => ?_
  obtain ⟨cw, d1, he, h⟩ := h
  refine ⟨cw, d1, he, ?_⟩
  refine thenW_in fun cy d3 => ?_
  have h := h cy b5.heap.size ((Ext.refl no b5).x_alloc d3) (Blk.of_new d3) ((Ext.refl no b5)).size (size_lt_alloc d3)
  obtain ⟨bo, cb, bf, c9, hr, h⟩ := h
  refine ⟨bo, cb, bf, c9, hr, ?_⟩
  refine h.mono fun de a6 h => ?_
  obtain ⟨a1, a4, a7, ah, ai, aa, ac, ad, ae, aq, b0, he, h⟩ := h
  refine ⟨a1, a4, a7, ah, ai, aa, ac, ad, ae, aq, b0, he, ?_⟩
  refine thenW_in fun dm dc => ?_
  have a0 := Blk.of_new dc
  have az := ((Ext.refl no a6)).size
  have ca := (Ext.refl no a6).x_alloc dc
  refine ⟨a0.cani 0 rfl rfl, thenW_in fun c7 d8 => ?_⟩
  have c1 := ca.x_set (q := a6.heap.size) (i := 0) rfl (.inr az) d8
  have a0 : Blk c7 a6.heap.size 47 [.int .i64 a1, .int .i64 0, .int .u64 0, .int .i64 0, .int .i64 0, .int .i64 0, .slice none 0 0, .int .u64 0] := a0.seti 0 rfl d8
  refine ⟨a0.cani 1 rfl rfl, thenW_in fun cc db => ?_⟩
  have cg := c1.x_set (q := a6.heap.size) (i := 1) rfl (.inr az) db
  have a0 : Blk cc a6.heap.size 47 [.int .i64 a1, .int .i64 a4, .int .u64 0, .int .i64 0, .int .i64 0, .int .i64 0, .slice none 0 0, .int .u64 0] := a0.seti 1 rfl db
  refine ⟨a0.cani 2 rfl rfl, thenW_in fun d2 d4 => ?_⟩
  have ce := cg.x_set (q := a6.heap.size) (i := 2) rfl (.inr az) d4
  have a0 : Blk d2 a6.heap.size 47 [.int .i64 a1, .int .i64 a4, .int .u64 a7, .int .i64 0, .int .i64 0, .int .i64 0, .slice none 0 0, .int .u64 0] := a0.seti 2 rfl d4
  refine ⟨a0.cani 3 rfl rfl, thenW_in fun c4 d5 => ?_⟩
  have cs := ce.x_set (q := a6.heap.size) (i := 3) rfl (.inr az) d5
  have a0 : Blk c4 a6.heap.size 47 [.int .i64 a1, .int .i64 a4, .int .u64 a7, .int .i64 ah, .int .i64 0, .int .i64 0, .slice none 0 0, .int .u64 0] := a0.seti 3 rfl d5
  refine ⟨a0.cani 4 rfl rfl, thenW_in fun cq d6 => ?_⟩
  have c6 := cs.x_set (q := a6.heap.size) (i := 4) rfl (.inr az) d6
  have a0 : Blk cq a6.heap.size 47 [.int .i64 a1, .int .i64 a4, .int .u64 a7, .int .i64 ah, .int .i64 ai, .int .i64 0, .slice none 0 0, .int .u64 0] := a0.seti 4 rfl d6
  refine ⟨a0.cani 5 rfl rfl, thenW_in fun bq d7 => ?_⟩
  have bj := c6.x_set (q := a6.heap.size) (i := 5) rfl (.inr az) d7
  have a0 : Blk bq a6.heap.size 47 [.int .i64 a1, .int .i64 a4, .int .u64 a7, .int .i64 ah, .int .i64 ai, .int .i64 aa, .slice none 0 0, .int .u64 0] := a0.seti 5 rfl d7
  refine ⟨a0.cani 6 rfl rfl, thenW_in fun cf da => ?_⟩
  have bt := bj.x_set (q := a6.heap.size) (i := 6) rfl (.inr az) da
  have a0 : Blk cf a6.heap.size 47 [.int .i64 a1, .int .i64 a4, .int .u64 a7, .int .i64 ah, .int .i64 ai, .int .i64 aa, .slice ac ad ae, .int .u64 0] := a0.seti 6 rfl da
  refine ⟨a0.cani 7 rfl rfl, thenW_in fun b7 d9 => ?_⟩
  have bg := bt.x_set (q := a6.heap.size) (i := 7) rfl (.inr az) d9
  have a0 : Blk b7 a6.heap.size 47 [.int .i64 a1, .int .i64 a4, .int .u64 a7, .int .i64 ah, .int .i64 ai, .int .i64 aa, .slice ac ad ae, .int .u64 aq] := a0.seti 7 rfl d9
  have h := h b7 (a6.heap.size) bg (Priv.cons az a0.lt Priv.nil)
  refine h.mono fun dd a3 h => ?_
  obtain ⟨a2, a5, a8, aj, ao, af, am, al, ak, b2, b1, he, hk, h⟩ := h
  refine ⟨a2, a5, a8, aj, ao, af, am, al, ak, b2, b1, he, ?_⟩
  have a0 := hk.blk a0 (by simp)
  refine thenW_in fun dj bz => ?_
  have a9 := Blk.of_new bz
  have ax := ((Ext.refl no a3)).size
  have ab := Nat.ne_of_lt a0.lt
  have a0 := a0.x_alloc bz
  have cr := (Ext.refl no a3).x_alloc bz
  refine ⟨a9.cani 0 rfl rfl, thenW_in fun c5 c0 => ?_⟩
  have cp := cr.x_set (q := a3.heap.size) (i := 0) rfl (.inr ax) c0
  have a0 := a0.oth (q := a3.heap.size) (i := 0) rfl ab c0
  have a9 : Blk c5 a3.heap.size 47 [.int .i64 a2, .int .i64 0, .int .u64 0, .int .i64 0, .int .i64 0, .int .i64 0, .slice none 0 0, .int .u64 0] := a9.seti 0 rfl c0
  refine ⟨a9.cani 1 rfl rfl, thenW_in fun ck cl => ?_⟩
  have cu := cp.x_set (q := a3.heap.size) (i := 1) rfl (.inr ax) cl
  have a0 := a0.oth (q := a3.heap.size) (i := 1) rfl ab cl
  have a9 : Blk ck a3.heap.size 47 [.int .i64 a2, .int .i64 a5, .int .u64 0, .int .i64 0, .int .i64 0, .int .i64 0, .slice none 0 0, .int .u64 0] := a9.seti 1 rfl cl
  refine ⟨a9.cani 2 rfl rfl, thenW_in fun co d0 => ?_⟩
  have bl := cu.x_set (q := a3.heap.size) (i := 2) rfl (.inr ax) d0
  have a0 := a0.oth (q := a3.heap.size) (i := 2) rfl ab d0
  have a9 : Blk co a3.heap.size 47 [.int .i64 a2, .int .i64 a5, .int .u64 a8, .int .i64 0, .int .i64 0, .int .i64 0, .slice none 0 0, .int .u64 0] := a9.seti 2 rfl d0
  refine ⟨a9.cani 3 rfl rfl, thenW_in fun bu cd => ?_⟩
  have bk := bl.x_set (q := a3.heap.size) (i := 3) rfl (.inr ax) cd
  have a0 := a0.oth (q := a3.heap.size) (i := 3) rfl ab cd
  have a9 : Blk bu a3.heap.size 47 [.int .i64 a2, .int .i64 a5, .int .u64 a8, .int .i64 aj, .int .i64 0, .int .i64 0, .slice none 0 0, .int .u64 0] := a9.seti 3 rfl cd
  refine ⟨a9.cani 4 rfl rfl, thenW_in fun c3 bn => ?_⟩
  have cn := bk.x_set (q := a3.heap.size) (i := 4) rfl (.inr ax) bn
  have a0 := a0.oth (q := a3.heap.size) (i := 4) rfl ab bn
  have a9 : Blk c3 a3.heap.size 47 [.int .i64 a2, .int .i64 a5, .int .u64 a8, .int .i64 aj, .int .i64 ao, .int .i64 0, .slice none 0 0, .int .u64 0] := a9.seti 4 rfl bn
  refine ⟨a9.cani 5 rfl rfl, thenW_in fun c8 cm => ?_⟩
  have ct := cn.x_set (q := a3.heap.size) (i := 5) rfl (.inr ax) cm
  have a0 := a0.oth (q := a3.heap.size) (i := 5) rfl ab cm
  have a9 : Blk c8 a3.heap.size 47 [.int .i64 a2, .int .i64 a5, .int .u64 a8, .int .i64 aj, .int .i64 ao, .int .i64 af, .slice none 0 0, .int .u64 0] := a9.seti 5 rfl cm
  refine ⟨a9.cani 6 rfl rfl, thenW_in fun bv cx => ?_⟩
  have be := ct.x_set (q := a3.heap.size) (i := 6) rfl (.inr ax) cx
  have a0 := a0.oth (q := a3.heap.size) (i := 6) rfl ab cx
  have a9 : Blk bv a3.heap.size 47 [.int .i64 a2, .int .i64 a5, .int .u64 a8, .int .i64 aj, .int .i64 ao, .int .i64 af, .slice am al ak, .int .u64 0] := a9.seti 6 rfl cx
  refine ⟨a9.cani 7 rfl rfl, thenW_in fun b6 bp => ?_⟩
  have ch := be.x_set (q := a3.heap.size) (i := 7) rfl (.inr ax) bp
  have a0 := a0.oth (q := a3.heap.size) (i := 7) rfl ab bp
  have a9 : Blk b6 a3.heap.size 47 [.int .i64 a2, .int .i64 a5, .int .u64 a8, .int .i64 aj, .int .i64 ao, .int .i64 af, .slice am al ak, .int .u64 b2] := a9.seti 7 rfl bp
  have h := h b6 (a3.heap.size) ch (Priv.cons ax a9.lt Priv.nil)
  refine h.mono fun dn ag h => ?_
  obtain ⟨au, b4, b3, he, hk, h⟩ := h
  refine ⟨au, b4, b3, he, ?_⟩
  have a0 := hk.blk a0 (by simp)
  have a9 := hk.blk a9 (by simp)
  refine thenW_in fun dh bc => ?_
  have aw := Blk.of_new bc
  have cz := ((Ext.refl no ag)).size
  have ar := Nat.ne_of_lt a0.lt
  have a0 := a0.x_alloc bc
  have av := Nat.ne_of_lt a9.lt
  have a9 := a9.x_alloc bc
  have cv := (Ext.refl no ag).x_alloc bc
  refine ⟨aw.cani 0 rfl rfl, thenW_in fun df ba => ?_⟩
  have bw := cv.x_set (q := ag.heap.size) (i := 0) rfl (.inr cz) ba
  have a0 := a0.oth (q := ag.heap.size) (i := 0) rfl ar ba
  have a9 := a9.oth (q := ag.heap.size) (i := 0) rfl av ba
  have aw := aw.seti 0 rfl ba
  refine ⟨aw.cani 1 rfl rfl, thenW_in fun dl bd => ?_⟩
  have c2 := bw.x_set (q := ag.heap.size) (i := 1) rfl (.inr cz) bd
  have a0 := a0.oth (q := ag.heap.size) (i := 1) rfl ar bd
  have a9 := a9.oth (q := ag.heap.size) (i := 1) rfl av bd
  have aw := aw.seti 1 rfl bd
  refine ⟨aw.cani 2 rfl rfl, thenW_in fun an bb => ?_⟩
  have ap := c2.x_set (q := ag.heap.size) (i := 2) rfl (.inr cz) bb
  have a0 := a0.oth (q := ag.heap.size) (i := 2) rfl ar bb
  have a9 := a9.oth (q := ag.heap.size) (i := 2) rfl av bb
  have aw := aw.seti 2 rfl bb
  refine bif_of (fun bh => ?_) (fun bh => ?_)
  · have h := h.1 (beq_t bh)
    refine bif_of (fun cj => ?_) (fun cj => ?_)
    · have h := h.1 (beq_t cj)
      refine bif_of (fun bm => ?_) (fun bm => ?_)
      · have h := h.1 (beq_t bm)
        refine ⟨a7, a0.celli 2 rfl rfl, ?_⟩
        refine bif_of (fun ci => ?_) (fun ci => ?_)
        · have h := h.1 (beq_t ci)
          refine ⟨a8, a9.celli 2 rfl rfl, ?_⟩
          refine bif_of (fun bi => ?_) (fun bi => ?_)
          · have h := h.1 (bne_t bi)
            refine ⟨b4, aw.celli 1 rfl rfl, ?_⟩
            refine bif_of (fun bx => ?_) (fun bx => ?_)
            · have h := h.1 (beq_t bx)
              refine ⟨b3, aw.celli 2 rfl rfl, ?_⟩
              refine ⟨a8, a9.celli 2 rfl rfl, ?_⟩
              refine bif_of (fun br => ?_) (fun br => ?_)
              · have h := h.1 (bne_t br)
                refine ⟨a1, a4, a7, ah, ai, aa, ac, ad, ae, aq, ⟨a0.celli 0 rfl rfl, a0.celli 1 rfl rfl, a0.celli 2 rfl rfl, a0.celli 3 rfl rfl, a0.celli 4 rfl rfl, a0.celli 5 rfl rfl, a0.celli 6 rfl rfl, a0.celli 7 rfl rfl, trivial⟩, ?_⟩
                have h := h an ap
                refine h.mono fun di dg h => ?_
                obtain ⟨ay, he, h⟩ := h
                refine ⟨ay, he, ?_⟩
                exact h
              · have h := h.2 (bne_f br)
                have h := h an ap
                exact h
            · have h := h.2 (beq_f bx)
              have h := h an ap
              exact h
          · have h := h.2 (bne_f bi)
            have h := h an ap
            exact h
        · have h := h.2 (beq_f ci)
          have h := h an ap
          exact h
      · have h := h.2 (beq_f bm)
        have h := h an ap
        exact h
    · have h := h.2 (beq_f cj)
      have h := h an ap
      exact h
  · have h := h.2 (beq_f bh)
    have h := h an ap
    exact h

theorem cachettelaw07_alive.go  {R : Value → World → Prop} {w : World} (h : cachettelaw07_alive.N  R w) : Calls Try.prog 6 #[] w fun e w' => ∃ v, e = .returned v ∧ R v w' := cachettelaw07_alive.ok  (cachettelaw07_alive.up  h)
theorem cachettelaw07_alive.run  {V : Value} {Q : World → Prop} {w : World} (h : cachettelaw07_alive.N  (fun v w' => v = V ∧ Q w') w) : Calls Try.prog 6 #[] w (Ret V Q) := (cachettelaw07_alive.go  h).mono fun e w' ⟨v, he, hv, hq⟩ => ⟨by rw [he, hv], hq⟩

/-- a step that is handed in. -/
structure CO where
  kd : Int
  t : Int
  ep : Int
  a : Option Addr
  c : Nat
  B : List UInt8
  n : Int
  fd : Int
  E : PE
def CO.C (p : CO) : List Value := [.int .i64 p.kd, .int .i64 p.t, .int .i64 p.ep, .slice p.a p.B.length p.c, .int .i64 p.n, .int .i64 p.fd] ++ p.E.C
theorem CO.len (p : CO) : p.C.length = 14 := rfl
structure CO.good (W : World) (p : CO) : Prop where
  t : -9223372036854775808 ≤ p.t ∧ p.t < 9223372036854775808
  ep : -9223372036854775808 ≤ p.ep ∧ p.ep < 9223372036854775808
  n : -9223372036854775808 ≤ p.n ∧ p.n < 9223372036854775808
  la : p.B.length ≤ p.c
  ra : RowAt W p.a (bytesV p.B)
  e : RowAt W p.E.a (bytesV p.E.e.body) ∧ p.E.e.body.length ≤ p.E.c ∧ p.E.e.fit ∧ p.E.e.wide
theorem opens_co : Opens Try.prog 49 fun W cs => ∃ p : CO, cs = p.C ∧ p.good W :=
  (opens_seq (qs := [(1, _), (1, _), (1, _), (1, _), (1, _), (1, _), (8, _)]) (size := 14) Try.underlying49 (by kernel_rfl)
    ⟨⟨rfl, by kernel_rfl, opens_int Try.underlying3⟩, ⟨rfl, by kernel_rfl, opens_int Try.underlying2⟩, ⟨rfl, by kernel_rfl, opens_int Try.underlying3⟩,
     ⟨rfl, by kernel_rfl, opens_bytes Try.underlying43 (by kernel_rfl) Try.underlying5⟩, ⟨rfl, by kernel_rfl, opens_int Try.underlying3⟩, ⟨rfl, by kernel_rfl, opens_int Try.underlying3⟩, ⟨rfl, by kernel_rfl, opens_entry⟩, rfl⟩).mono
    fun W cs ⟨_, _, e0, _, ⟨kd, q0, _⟩, _, _, e1, _, ⟨t, q1, ft⟩, _, _, e2, _, ⟨ep, q2, fe⟩, _, _, e3, _, ⟨aa, ac, A, q3, la, _, ra⟩, _, _, e4, _, ⟨n, q4, fn⟩, _, _, e5, _, ⟨fd, q5, _⟩, _, _, e6, _, ⟨e, ea, ec, q6, f1, f2, f3, _, f5⟩, q7⟩ => by
      subst q0; subst q1; subst q2; subst q3; subst q4; subst q5; subst q6; subst q7; subst e6; subst e5; subst e4; subst e3; subst e2; subst e1; subst e0
      exact ⟨⟨kd, t, ep, aa, ac, A, n, fd, ⟨e, ea, ec⟩⟩, rfl, wf_i64 ft, wf_i64 fe, wf_i64 fn, la, ra, f5, f3, f1, f2⟩
def COsQ (W : World) (cs : List Value) : Prop := ∃ (a : Option Addr) (c : Nat) (l : List CO), cs = [.slice a l.length c] ∧ l.length ≤ c ∧ c ≤ maxLen ∧ RowAt W a (l.flatMap CO.C) ∧ ∀ x ∈ l, x.good W
theorem opens_cos : Opens Try.prog 23 COsQ := opens_rows (size := 14) Try.underlying23 (by kernel_rfl) opens_co
def lightC (dn : Nat) (l : List CO) : Bool := decide (dn ≤ 50) && decide (l.length ≤ 40) && l.all fun p => decide (p.B.length ≤ 1200) && decide (p.E.e.body.length ≤ 1200)
section
variable {w W : World} {da la : Option Addr} {dn dc lc : Nat} {d : List Int} {l : List CO}
theorem light_spec (hl : RowAt w la (l.flatMap CO.C)) : Calls Try.prog 5 #[.slice da dn dc, .slice la l.length lc] w (Ret (.bool (lightC dn l)) fun w' => w' = w) := by
  refine cachettelaw07_light.run _ _ _ _ _ _ ?_
  unfold cachettelaw07_light.N
  refine ⟨fun h => ⟨by unfold lightC; rw [show decide (dn ≤ 50) = false by simp; omega]; rfl, rfl⟩, fun h1 => ⟨fun h => ⟨by unfold lightC; rw [show decide (l.length ≤ 40) = false by simp; omega]; simp, rfl⟩, fun h2 => ?_⟩⟩
  refine ⟨fun q vs w1 => ∃ t : Nat, vs = [.int .i64 t] ∧ q + t = l.length ∧ w1 = w ∧ (l.take t).all (fun p => decide (p.B.length ≤ 1200) && decide (p.E.e.body.length ≤ 1200)) = true, l.length, ⟨0, rfl, rfl, rfl, rfl⟩, ?_⟩
  rintro q w1 i ⟨t, hi, hq, rfl, hn⟩
  simp only [List.cons.injEq, Value.int.injEq, true_and, and_true] at hi
  subst hi
  refine ⟨fun ht => ?_, fun ht => ?_⟩
  · have htl : t < l.length := by omega
    have hg : l[t]? = some l[t] := List.getElem?_eq_getElem htl
    obtain ⟨ad, rfl⟩ := hl.faddr CO.len (by decide) htl
    have no : ¬ (l[t].B.length ≤ 1200 ∧ l[t].E.e.body.length ≤ 1200) → lightC dn l = false := fun h => by
      unfold lightC
      rw [show (l.all fun p => decide (p.B.length ≤ 1200) && decide (p.E.e.body.length ≤ 1200)) = false by rw [List.all_eq_false]; exact ⟨l[t], List.getElem_mem htl, by simpa using h⟩]; simp
    refine ⟨ad, rfl, by omega, by omega, _, _, _, by rw [Int.toNat_natCast]; exact hl.fcell CO.len hg 3 rfl, fun hA => ⟨by rw [no (by omega)], rfl⟩, fun hA => ⟨by omega, by omega, _, _, _, by rw [Int.toNat_natCast, add_add]; exact hl.fcell CO.len hg 12 rfl, fun hB => ⟨by rw [no (by omega)], rfl⟩, fun hB => ⟨by omega, by omega, q - 1, by omega, t + 1, rfl, by omega, rfl, ?_⟩⟩⟩
    rw [List.take_add_one, hg, List.all_append, hn]
    simp; omega
  · obtain rfl : t = l.length := by omega
    rw [List.take_length] at hn
    refine ⟨?_, rfl⟩
    unfold lightC
    rw [hn, decide_eq_true (show dn ≤ 50 by omega), decide_eq_true (show l.length ≤ 40 by omega)]
    rfl
theorem light_of (h : lightC dn l = true) : dn ≤ 50 ∧ l.length ≤ 40 ∧ ∀ p ∈ l, p.B.length ≤ 1200 ∧ p.E.e.body.length ≤ 1200 := by
  unfold lightC at h
  simp only [Bool.and_eq_true, decide_eq_true_eq, List.all_eq_true] at h
  exact ⟨h.1.1, h.1.2, h.2⟩
end
end Go.Proofs.Ytdelmfpchbpafaa

/- Chain: the chapter's example; a log that is none. -/
set_option linter.unusedVariables false
set_option linter.unusedSimpArgs false
set_option maxRecDepth 20000
set_option maxHeartbeats 2000000
namespace Go.Proofs.Ytdelmfpchbpafaa
open Go Go.Mx Go.Proofs
open W (OwnB GivesW numR countR doneR zig unzig intR)
theorem ex7_fact : ∃ S1 S2 S3 : OS, ∃ L1 L2 : CL, ∃ x y : Ent, pairOf (OS.init []) = ((1, 2), S1) ∧ issueC S1 ⟨1, 2, [], 0⟩ 1 1 1 0 [120] = ((x, 0), L1, S2) ∧ issueC S2 L1 1 2 1 0 [] = ((y, 0), L2, S3) ∧
    x.pv = 0 ∧ y.pv ≠ 0 ∧ L2.es.length = 2 ∧ L2.sum ≠ y.pv ∧ checkC S3 L2 x = 8 :=
  ⟨_, _, _, _, _, ⟨1, 0, 0, 1, 1, 0, [120], 3⟩, ⟨1, 1, 4, 2, 1, 0, [], 5⟩, rfl, rfl, rfl, rfl, by decide, rfl, by decide, rfl⟩
theorem alive7_spec (w : World) : Calls Try.prog 6 #[] w (Ret (.bool true) fun w' => Ext no w w') := by
  refine cachettelaw07_alive.run ?_
  unfold cachettelaw07_alive.N
  obtain ⟨S1, S2, S3, L1, L2, x, y, f1, f2, f3, f4, f5, f6, f7, f8⟩ := ex7_fact
  have ok0 : Tags w (fun _ => none) := fun b j _ h => by cases h
  refine (NewO (l := []) (c := 0) ok0 (RowAt.nil _ _) (by simp)).mono fun v w3 ⟨k, o3, hx, hk, s3, P3⟩ => ⟨_, hx, ?_⟩
  have i0 : OInv (OS.init []) := OInv.init (by simp)
  have nk : ∀ {w1 w2 : World} {o1 o2 : Own}, Step no w (fun _ => none) w1 o1 → Step (fun i => i = k) w1 o1 w2 o2 → Step no w (fun _ => none) w2 o2 := fun h1 h2 => h1.trans' h2 fun i hi => .inr (by omega)
  refine (PairO P3 s3.ok i0.ok (by decide)).mono fun v w7 ⟨o7, hx, s7', P7⟩ => ⟨_, _, hx, ?_⟩
  obtain ⟨i1, _, kp, ks, _⟩ := pair_inv i0
  have u1 := (pairOf_ok i0.ok).2
  rw [f1] at P7 i1 u1 kp ks ⊢
  dsimp only at u1 i1 kp ks P7
  have u0 : (OS.init []).used.length = 0 := rfl
  have hk1 : Keyed S1 1 2 := ⟨ks, kp⟩
  have s7 := nk s3 s7'
  refine (cNew_spec (k := k) s7.ok 1 2).mono fun v w11 h => ?_
  rcases h with ⟨h, _⟩ | ⟨_, q, o11, hx, hq, s11', PL⟩
  · exact absurd ⟨by decide, by decide⟩ h
  refine ⟨_, _, hx, ?_⟩
  have s11 := s7.trans s11'
  have l11 := PL.lt
  have hkl := P7.lt
  have hqk : q ≠ k := by omega
  have nkq : ∀ {w1 w2 : World} {o1 o2 : Own}, Step no w (fun _ => none) w1 o1 → Step (fun i => i = q ∨ i = k) w1 o1 w2 o2 → Step no w (fun _ => none) w2 o2 := fun h1 h2 => h1.trans' h2 fun i hi => .inr (by have := s7.size; omega)
  intro w12 q13 X12 hb12 hq12 hq12'
  obtain ⟨w15, hc15, hr15, X15⟩ := litB Try.underlying43 Try.underlying5 [120] X12 hb12 hq12
  refine ⟨_, _, _, w15, hc15, ?_⟩
  have s15' := Step.of_no X15 s11.ok
  have s15 := s11.trans s15'
  have rA : Row w15 (grow w11 o11) (some (blk q13)) (bytesV [120]) := Row.fresh hr15 fun ad ha => by cases ha; exact hq12
  have L0 : LOk S1 1 2 ⟨1, 2, [], 0⟩ := LOk.nil 1
  have n1 : S1.used.length + 1 < 1000000 := by omega
  have hi := L0.issue i1 hk1 (by omega) 1 1 0 [120]
  refine (cIssue_spec (PL.step s15' id) ((P7.step s11' id).step s15' id) s15.ok hqk i1.ok n1 ⟨by decide, by decide⟩ 1 1 1 0 (issue_sg i1 (by omega) _ hk1) rA).mono fun v w26 ⟨o26, xa, xc, hx, s26', PL26, P26, rx, lx⟩ => ⟨_, _, _, _, _, _, _, _, _, _, _, hx, ?_⟩
  rw [f2] at PL26 P26 rx lx hi ⊢
  obtain ⟨LO1, i2, le1, u2, _, _, _, _, xf⟩ := hi
  dsimp only at LO1 i2 le1 u2 PL26 P26
  have hk2 := hk1.le le1
  have s26 := nkq s15 s26'
  intro w35 p36 X35 hp36
  have g36 := hp36 p36 (by simp)
  have s35' := Step.of_no X35 s26.ok
  have F35 : Free [p36] w35 (grow w26 o26) := Free.of hp36
  have s35 := s26.trans s35'
  have n2 : S2.used.length + 1 < 1000000 := by omega
  have hi := LO1.issue i2 hk2 (by omega) 2 1 0 []
  refine (cIssue_spec (a := none) (c := 0) (PL26.step s35' id) (P26.step s35' id) s35.ok hqk i2.ok n2 (LO1.fit i2 (by omega)) 1 2 1 0 (issue_sg i2 (by omega) _ hk2) (body := []) (Row.nil _ _ _)).mono fun v w47 ⟨o47, ya, yc, hx, s47', PL47, P47, ry, ly⟩ => ⟨_, _, _, _, _, _, _, _, _, _, _, hx, F35.keep s47', fun w56 p57 X56 hp57 => ?_⟩
  rw [f3] at PL47 P47 ry ly hi ⊢
  have s47 := nkq s35 s47'
  have F47 := F35.step s47'
  have s56' := Step.of_no X56 s47.ok
  have s56 := s47.trans s56'
  have F56 : Free [p36, p57] w56 (grow w47 o47) := (F47.step s56').app (M := [p57]) (Free.of hp57)
  refine (cHead_spec (PL47.step s56' id)).mono fun v w62 ⟨hx, X62⟩ => ⟨_, _, _, hx, X62.kept, fun _ => ⟨fun _ => ⟨fun _ => ⟨fun _ => ⟨fun _ => ⟨fun _ => ⟨fun _ w66 X66 => ?_, fun h => absurd h f7⟩, fun h => absurd (by rw [f6]; rfl) h⟩, fun h => absurd h f5⟩, fun h => absurd f4 h⟩, fun h => absurd rfl h⟩, fun h => absurd rfl h⟩, fun h => absurd rfl h⟩
  have s66 := (Step.of_no X62 s56.ok).trans (Step.of_no X66 (Step.of_no X62 s56.ok).ok)
  have s66a := s56'.trans s66
  refine (cCheck_spec (e := x) ((PL47.step s56' id).step s66 id) ((P47.step s56' id).step s66 id) s66.ok (fun _ => xf) ((rx.step s35').step s47' |>.step s66a).1).mono fun v w77 ⟨hx, X77⟩ => ⟨_, hx, ?_, ?_⟩
  · rw [f8]; rfl
  · exact (s47.ext.mono fun b ⟨_, h, _⟩ _ => by cases h).trans ((X56.trans (X62.trans X66)).trans X77)
end Go.Proofs.Ytdelmfpchbpafaa

/- Logs that a law issues, and the list that it keeps of them. -/
set_option linter.unusedVariables false
set_option linter.unusedSimpArgs false
set_option maxRecDepth 20000
set_option maxHeartbeats 2000000
namespace Go.Proofs.Ytdelmfpchbpafaa
open Go Go.Mx Go.Proofs
open W (OwnB GivesW numR countR doneR zig unzig intR)
/-- an oracle and a log of it. -/
structure OneI (w : World) (o : Own) (q k : Nat) (s p : Int) (S : OS) (L : CL) (n : Nat) : Prop where
  log : PLog w o q k L
  orc : POrc w o k S
  ok : Tags w o
  inv : OInv S
  key : Keyed S s p
  lok : LOk S s p L
  len : S.used.length ≤ n
  ne : q ≠ k
section
variable {w w' w1 W0 : World} {o o' o1 : Own} {q k n N : Nat} {K : Nat → Prop} {s p : Int} {S : OS} {L : CL} {e : Ent} {a : Option Addr} {c : Nat} {l : List PE}
theorem OneI.step (h : OneI w o q k s p S L n) (t : Step K w o w' o') (hq : ¬ K q) (hk : ¬ K k) : OneI w' o' q k s p S L n :=
  ⟨h.log.step t hq, h.orc.step t hk, t.ok, h.inv, h.key, h.lok, h.len, h.ne⟩
theorem OneI.mono (h : OneI w o q k s p S L n) {m : Nat} (hm : n ≤ m) : OneI w o q k s p S L m := ⟨h.log, h.orc, h.ok, h.inv, h.key, h.lok, Nat.le_trans h.len hm, h.ne⟩
/-- an entry is issued. -/
theorem OneI.issue (h : OneI w o q k s p S L n) (hn : n + 2 < 1000000) (t tw ep : Int) {body : List UInt8} (hb : Row w o a (bytesV body)) :
    Calls Try.prog 15 #[.pointer (some (blk q)), .int .u64 s, .agg #[.int .i64 t, .int .i64 tw], .int .i64 ep, .slice a body.length c] w (fun x w' => ∃ (o' : Own) (S' : OS) (L' : CL) (e' : PE) (cd : Int), x = .returned (.tuple #[entV e'.e e'.a e'.c, .int .i64 cd]) ∧ Step (fun i => i = q ∨ i = k) w o w' o' ∧
      OneI w' o' q k s p S' L' (n + 2) ∧ e'.ok w' o' ∧ e'.e.body.length ≤ 1100 ∧ L'.wr = L.wr ∧ L'.es = (if cd = 0 then L.es ++ [e'.e] else L.es) ∧ (cd = 0 → OkAt S' L.wr s L.es e'.e) ∧ OS.le S S' ∧ issueC S L s t tw ep body = ((e'.e, cd), L', S')) := by
  have hu := h.len
  refine (cIssue_spec h.log h.orc h.ok h.ne h.inv.ok (by omega) (h.lok.fit h.inv (by omega)) s t tw ep (issue_sg h.inv (by omega) _ h.key) hb).mono fun x w' ⟨o', a', c', he, st, pl, po, r, lc⟩ => ?_
  obtain ⟨b1, b2, b3, b4, b5, b6, b7, b8, b9⟩ := h.lok.issue h.inv h.key (by omega) t tw ep body
  exact ⟨o', _, _, ⟨_, a', c'⟩, _, he, st, ⟨pl, po, st.ok, b2, h.key.le b3, b1, by omega, h.ne⟩, ⟨r, lc, b9⟩, b8, b5, b6, fun h => (b7 h).1, b3, rfl⟩
end
end Go.Proofs.Ytdelmfpchbpafaa

/- ChainAts. -/
set_option linter.unusedVariables false
set_option linter.unusedSimpArgs false
set_option maxRecDepth 20000
set_option maxHeartbeats 2000000
namespace Go.Proofs.Ytdelmfpchbpafaa
open Go Go.Mx Go.Proofs
open W (OwnB GivesW numR countR doneR zig unzig intR)
section
variable {w : World}
end
end Go.Proofs.Ytdelmfpchbpafaa

/- Two logs of one oracle; a log that is accepted whole; plain laws of all this. -/
set_option linter.unusedVariables false
set_option linter.unusedSimpArgs false
set_option maxRecDepth 20000
set_option maxHeartbeats 2000000
namespace Go.Proofs.Ytdelmfpchbpafaa
open Go Go.Mx Go.Proofs
open W (OwnB GivesW numR countR doneR zig unzig intR)
def wholeC (S : OS) (L : CL) : List Ent → Nat → (Int × Int) × OS
  | [], i => (((i : Int), 0), S)
  | e :: r, i => if (acceptC S L e).1 = 0 then wholeC (acceptC S L e).2.2 (acceptC S L e).2.1 r (i + 1) else (((i : Int), (acceptC S L e).1), (acceptC S L e).2.2)
def wholeE (S : OS) (p : Int) : List Ent → (Int × Int) × OS
  | [] => ((0, 0), S)
  | x :: r => wholeC S ⟨x.w, p, [], 0⟩ (x :: r) 0
section
variable {w w' w1 W0 : World} {o o' o1 : Own} {q qa qb k n n' N : Nat} {K : Nat → Prop} {s p : Int} {S S' : OS} {L L' La Lb La' Lb' : CL} {e : Ent} {a : Option Addr} {c : Nat} {l : List PE} {es es1 es2 : List Ent}
theorem OneI.accept (h : OneI w o q k s p S L n) (hn : n + 2 < 1000000) (hf : entRight e = true → e.fit) (hb : Row w o a (bytesV e.body)) :
    Calls Try.prog 21 #[.pointer (some (blk q)), entV e a c] w (fun x w' => ∃ (o' : Own) (S' : OS) (L' : CL) (cd : Int), x = .returned (.int .i64 cd) ∧ Step (fun i => i = q ∨ i = k) w o w' o' ∧ OneI w' o' q k s p S' L' (n + 1) ∧ OS.le S S' ∧ L'.wr = L.wr ∧ L'.es = (if cd = 0 then L.es ++ [e] else L.es) ∧ acceptC S L e = (cd, L', S')) := by
  have hu := h.len
  refine (cAccept_spec h.log h.orc h.ok h.ne h.inv.ok (by omega) hf hb).mono fun x w' ⟨o', he, st, pl, po⟩ => ?_
  obtain ⟨b1, b2, b3, b4, b5, b6⟩ := h.lok.accept h.inv h.key hf
  exact ⟨o', _, _, _, he, st, ⟨pl, po, st.ok, b2, h.key.le b3, b1, by omega, h.ne⟩, b3, b5, b6, rfl⟩
theorem Whole_spec (h : POrc w o k S) (ok : Tags w o) (inv : OInv S) (hk : Keyed S s p) (hu : S.used.length ≤ n) (hn : n + l.length + 2 < 1000000) (hr : Row w o a (PE.Cs l)) (hok : ∀ x ∈ l, x.ok w o) :
    Calls Try.prog 23 #[.pointer (some (blk k)), .int .u64 p, .slice a l.length c] w (fun x w' => ∃ o', x = .returned (.tuple #[.int .i64 (wholeE S p (l.map PE.e)).1.1, .int .i64 (wholeE S p (l.map PE.e)).1.2]) ∧ Step (fun i => i = k) w o w' o' ∧ POrc w' o' k (wholeE S p (l.map PE.e)).2 ∧ OInv (wholeE S p (l.map PE.e)).2 ∧ OS.le S (wholeE S p (l.map PE.e)).2 ∧ (wholeE S p (l.map PE.e)).2.used.length ≤ n + l.length) := by
  refine (chain_Whole.go (some (blk k)) p a l.length c (R := fun v w' => ∃ o', v = (.tuple #[.int .i64 (wholeE S p (l.map PE.e)).1.1, .int .i64 (wholeE S p (l.map PE.e)).1.2]) ∧ Step (fun i => i = k) w o w' o' ∧ POrc w' o' k (wholeE S p (l.map PE.e)).2 ∧ OInv (wholeE S p (l.map PE.e)).2 ∧ OS.le S (wholeE S p (l.map PE.e)).2 ∧ (wholeE S p (l.map PE.e)).2.used.length ≤ n + l.length) ?_).mono fun x w' ⟨v, he, o', hv, hw⟩ => ⟨o', by rw [he, hv], hw⟩
  unfold chain_Whole.N
  refine ⟨fun h0 => ?_, fun h0 => ?_⟩
  · have : l = [] := List.eq_nil_of_length_eq_zero (by omega)
    subst this
    exact ⟨o, rfl, Step.refl _ ok, h, inv, OS.le.refl _, by show S.used.length ≤ _; omega⟩
  · have hi : 0 < l.length := by omega
    have hg0 : l[0]? = some l[0] := List.getElem?_eq_getElem hi
    have hcons : wholeE S p (l.map PE.e) = wholeC S ⟨(l[0]).e.w, p, [], 0⟩ (l.map PE.e) 0 := by
      cases l with
      | nil => simp at hi
      | cons x r => rfl
    generalize l[0] = x0 at *
    obtain ⟨ad, rfl⟩ := hr.1.faddr PE.len (by decide) hi
    refine ⟨ad, rfl, by omega, x0.e.w, by have := PE.cell hr.1 rfl hg0 (j := 0) (v := .int .i64 x0.e.w) rfl; simpa using this, fun w8 q9 X8 hb hq hq' => ?_⟩
    obtain ⟨o8, s8, PL8⟩ := PLog.new X8 hb hq hq' ok
    have hkl := h.lt
    have one8 : OneI w8 o8 q9 k s p S ⟨x0.e.w, p, [], 0⟩ n := ⟨PL8, h.step s8 id, s8.ok, inv, hk, LOk.nil _, hu, by omega⟩
    refine ⟨fun m vs w1 => ∃ (t : Nat) (o1 : Own) (S1 : OS) (L1 : CL), vs = [.int .i64 t] ∧ m + t = l.length ∧ Step (fun i => i = q9 ∨ i = k) w8 o8 w1 o1 ∧ OneI w1 o1 q9 k s p S1 L1 (n + t) ∧ OS.le S S1 ∧ wholeC S1 L1 ((l.map PE.e).drop t) t = wholeE S p (l.map PE.e), l.length, ⟨0, o8, S, _, rfl, rfl, Step.refl _ s8.ok, one8, OS.le.refl _, hcons.symm⟩, ?_⟩
    rintro m w1 i ⟨t, o1, S1, L1, hi, hm, s1, one1, le1, hC⟩
    simp only [List.cons.injEq, Value.int.injEq, true_and, and_true] at hi
    subst hi
    have s01 : Step (fun i => i = k) w o w1 o1 := s8.none.trans' s1 fun i hi => by omega
    refine ⟨fun ht => ?_, fun ht => ?_⟩
    · have htl : t < l.length := by omega
      have hgt : l[t]? = some l[t] := List.getElem?_eq_getElem htl
      have hxm := List.getElem_mem htl
      have hdrop : (l.map PE.e).drop t = (l[t]).e :: (l.map PE.e).drop (t + 1) := by
        rw [List.drop_eq_getElem_cons (by simpa using htl)]; simp
      rw [hdrop] at hC
      generalize l[t] = x at *
      have hx := hok x hxm
      refine ⟨by omega, by omega, x.e.w, x.e.i, x.e.pv, x.e.t, x.e.tw, x.e.ep, x.a, x.e.body.length, x.c, x.e.sg, by rw [Int.toNat_natCast]; exact PE.loads (hr.step s01).1 rfl hgt, fun w32 X32 => ?_⟩
      have s32 := Step.of_no X32 one1.ok
      refine ((one1.step s32 id id).accept (by omega) (e := x.e) (fun _ => hx.2.2) ((hx.1.step s01).step s32)).mono fun v w36 ⟨o36, S', L', cd, he, st, one36, le36, hwr, hes, hacc⟩ => ⟨_, he, fun hne => ?_, fun h0 => ?_⟩
      · simp only [wholeC, hacc, if_neg hne] at hC
        rw [← hC]
        refine ⟨o36, rfl, s01.trans' (s32.none.trans st) fun i hi => ?_, one36.orc, one36.inv, le1.trans le36, ?_⟩
        · rcases hi with rfl | rfl
          · exact .inr hq
          · exact .inl rfl
        · show S'.used.length ≤ _; have := one36.len; omega
      · simp only [wholeC, hacc, if_pos h0] at hC
        exact ⟨by omega, by omega, m - 1, by omega, t + 1, o36, S', L', rfl, by omega, s1.trans (s32.none.trans st), one36, le1.trans le36, hC⟩
    · have : t = l.length := by omega
      subst this
      rw [List.drop_of_length_le (by simp)] at hC
      simp only [wholeC] at hC
      rw [← hC]
      exact ⟨o1, rfl, s01, one1.orc, one1.inv, le1, one1.len⟩
/-- the next one of a log that is good. -/
theorem Good.next (g : Good S L.wr s es) (inv : OInv S) (hk : Keyed S s p) {t : Nat} (he : es[t]? = some e) (hL : L.es = es.take t) (hs : L.sum = sumS S L.es) (hp : L.pb = p) (hf : es.length ≤ 200) :
    acceptC S L e = (0, { L with es := es.take (t + 1), sum := sumS S (es.take (t + 1)) }, S) := by
  obtain ⟨h1, x, hx⟩ := g t e he
  have hlok : LOk S s p L := ⟨by rw [hL]; exact g.take t, hs, hp, by rw [hL, List.length_take]; omega⟩
  have hc := hlok.accepts hk (by rw [hL]; exact h1)
  unfold acceptC
  rw [if_pos hc]
  unfold putC
  rw [sumE_right h1.right, hash_eq hx, hL]
  have : es.take (t + 1) = es.take t ++ [e] := by rw [List.take_add_one, he]; rfl
  rw [this]
  have : sumS S (es.take t ++ [e]) = x := by unfold sumS; rw [List.getLast?_append]; simp [hv, hx]
  rw [this]
end
end Go.Proofs.Ytdelmfpchbpafaa

/- ChainPlays, ChainWhole: predicates. -/
set_option linter.unusedVariables false
set_option linter.unusedSimpArgs false
set_option maxRecDepth 20000
set_option maxHeartbeats 2000000
namespace Go.Proofs.Ytdelmfpchbpafaa
open Go Go.Mx Go.Proofs
open W (OwnB GivesW numR countR doneR zig unzig intR)
/-- (*cachetteref07.Log).Head -/
def cachetteref07_Log_Head.M (l1 : Option Addr) (o2 : Option Addr) (R : Value → World → Prop) (w : World) : Prop :=
 thenW (w.alloc (.cells #[.int .i64 0, .int .i64 0, .int .u64 0] 65)) fun bj =>
 thenW (bj.drew) fun ah =>
 l1.elim False fun a5 =>
 ∃ (W6 : Int), ah.cell? (a5.add 0) = some (.int .i64 W6) ∧
 l1.elim False fun a7 =>
 ∃ (bi : Option Addr) (ba : Nat) (bh : Nat), ah.cell? (a7.add 2) = some (.slice bi ba bh) ∧
 thenW (ah.alloc (.cells #[.int .i64 0, .int .i64 0, .int .u64 0] 65)) fun b9 =>
 b9.cell? (a7.add 2) = some (.slice bi ba bh) ∧
 b9.cell? (a5.add 0) = some (.int .i64 W6) ∧
 canStore b9 ((blk ah.heap.size).add 0) ∧
 thenW (b9.setCell ((blk ah.heap.size).add 0) (.int .i64 W6)) fun b1 =>
 canStore b1 ((blk ah.heap.size).add 1) ∧
 thenW (b1.setCell ((blk ah.heap.size).add 1) (.int .i64 (ba : Int))) fun b2 =>
 canStore b2 ((blk ah.heap.size).add 2) ∧
 thenW (b2.setCell ((blk ah.heap.size).add 2) (.int .u64 0)) fun an =>
 l1.elim False fun bm =>
 ∃ (bd : Option Addr) (b3 : Nat) (be : Nat), an.cell? (bm.add 2) = some (.slice bd b3 be) ∧
 bif decide ((b3 : Int) > 0) then (
 thenW (an.drew) fun aq =>
 l1.elim False fun bn =>
 ∃ (b0 : Option Addr) (b8 : Nat) (bc : Nat), aq.cell? (bn.add 2) = some (.slice b0 b8 bc) ∧
 l1.elim False fun bl =>
 ∃ (bg : Option Addr) (ar : Nat) (bb : Nat), aq.cell? (bl.add 2) = some (.slice bg ar bb) ∧
 b0.elim False fun bk =>
 0 ≤ ((IntKind.i64.wrap ((ar : Int) - 1)) : Int) ∧ ((IntKind.i64.wrap ((ar : Int) - 1)) : Int) < (b8 : Int) ∧
 ∃ (a2 : Int) (a6 : Int) (ag : Int) (ak : Int) (ao : Int) (ae : Int) (a9 : Option Addr) (a8 : Nat) (ac : Nat) (aj : Int), cellsAt aq (bk.add (Int.toNat (IntKind.i64.wrap ((ar : Int) - 1)) * 8)) [.int .i64 a2, .int .i64 a6, .int .u64 ag, .int .i64 ak, .int .i64 ao, .int .i64 ae, .slice a9 a8 ac, .int .u64 aj] 0 ∧
 Calls Try.prog 49 #[.pointer o2, .agg #[.int .i64 a2, .int .i64 a6, .int .u64 ag, .int .i64 ak, .int .i64 ao, .int .i64 ae, .slice a9 a8 ac, .int .u64 aj]] aq fun bf aw => ∃ (au : Int) (ay : Int), bf = .returned (.tuple #[.int .u64 au, .int .i64 ay]) ∧
 canStore aw (((blk ah.heap.size).add 2).add 0) ∧
 thenW (aw.setCell (((blk ah.heap.size).add 2).add 0) (.int .u64 au)) fun av =>
 ∃ (a3 : Int) (am : Int) (ap : Int), cellsAt av (blk ah.heap.size) [.int .i64 a3, .int .i64 am, .int .u64 ap] 0 ∧
 canStore av ((blk w.heap.size).add 0) ∧
 thenW (av.setCell ((blk w.heap.size).add 0) (.int .i64 a3)) fun b7 =>
 canStore b7 ((blk w.heap.size).add 1) ∧
 thenW (b7.setCell ((blk w.heap.size).add 1) (.int .i64 am)) fun ax =>
 canStore ax ((blk w.heap.size).add 2) ∧
 thenW (ax.setCell ((blk w.heap.size).add 2) (.int .u64 ap)) fun b6 =>
 ∃ (a0 : Int) (ad : Int) (af : Int), cellsAt b6 (blk w.heap.size) [.int .i64 a0, .int .i64 ad, .int .u64 af] 0 ∧
 R (.agg #[.int .i64 a0, .int .i64 ad, .int .u64 af]) b6) else (
 ∃ (a4 : Int) (al : Int) (ai : Int), cellsAt an (blk ah.heap.size) [.int .i64 a4, .int .i64 al, .int .u64 ai] 0 ∧
 canStore an ((blk w.heap.size).add 0) ∧
 thenW (an.setCell ((blk w.heap.size).add 0) (.int .i64 a4)) fun b4 =>
 canStore b4 ((blk w.heap.size).add 1) ∧
 thenW (b4.setCell ((blk w.heap.size).add 1) (.int .i64 al)) fun b5 =>
 canStore b5 ((blk w.heap.size).add 2) ∧
 thenW (b5.setCell ((blk w.heap.size).add 2) (.int .u64 ai)) fun az =>
 ∃ (a1 : Int) (ab : Int) (aa : Int), cellsAt az (blk w.heap.size) [.int .i64 a1, .int .i64 ab, .int .u64 aa] 0 ∧
 R (.agg #[.int .i64 a1, .int .i64 ab, .int .u64 aa]) az)

theorem cachetteref07_Log_Head.eq (l1 : Option Addr) (o2 : Option Addr) (R : Value → World → Prop) (w : World) : mfunc Try.prog [] 32 [.pointer l1, .pointer o2] R w = cachetteref07_Log_Head.M l1 o2 R w := by kernel_rfl
theorem cachetteref07_Log_Head.ok (l1 : Option Addr) (o2 : Option Addr) {R : Value → World → Prop} {w : World} (h : cachetteref07_Log_Head.M l1 o2 R w) : Calls Try.prog 32 #[.pointer l1, .pointer o2] w fun e w' => ∃ v, e = .returned v ∧ R v w' :=
  mfunc_ok follows (H := []) (args := [.pointer l1, .pointer o2]) (by rw [cachetteref07_Log_Head.eq]; exact h)

def cachetteref07_Log_Head.N (l1 : Option Addr) (o2 : Option Addr) (R : Value → World → Prop) (w : World) : Prop :=
 ∃ a5 : Addr, l1 = some a5 ∧
 ∃ (W7 : Int), w.cell? (a5.add 0) = some (.int .i64 W7) ∧
 ∃ (ax : Option Addr) (am : Nat) (ay : Nat), w.cell? (a5.add 2) = some (.slice ax am ay) ∧
 ∃ (aq : Option Addr) (ae : Nat) (ao : Nat), w.cell? (a5.add 2) = some (.slice aq ae ao) ∧
 ((ae : Int) > 0 →
 ∃ (aj : Option Addr) (ah : Nat) (ap : Nat), w.cell? (a5.add 2) = some (.slice aj ah ap) ∧
 ∃ (ar : Option Addr) (a8 : Nat) (au : Nat), w.cell? (a5.add 2) = some (.slice ar a8 au) ∧
 (-9223372036854775808 : Int) ≤ ((a8 : Int) - 1) ∧ ((a8 : Int) - 1) < 9223372036854775808 ∧
 ∃ aw : Addr, aj = some aw ∧
 0 ≤ (((a8 : Int) - 1) : Int) ∧ (((a8 : Int) - 1) : Int) < (ah : Int) ∧
 ∃ (a0 : Int) (a3 : Int) (a7 : Int) (a9 : Int) (aa : Int) (a1 : Int) (a2 : Option Addr) (a4 : Nat) (a6 : Nat) (ab : Int), cellsAt w (aw.add (Int.toNat ((a8 : Int) - 1) * 8)) [.int .i64 a0, .int .i64 a3, .int .u64 a7, .int .i64 a9, .int .i64 aa, .int .i64 a1, .slice a2 a4 a6, .int .u64 ab] 0 ∧
 ∀ (ac : World) (av : Nat) (an : Nat), Ext no w ac → Priv w ac [av, an] →
 Calls Try.prog 49 #[.pointer o2, .agg #[.int .i64 a0, .int .i64 a3, .int .u64 a7, .int .i64 a9, .int .i64 aa, .int .i64 a1, .slice a2 a4 a6, .int .u64 ab]] ac fun al ai => ∃ (ad : Int) (af : Int), al = .returned (.tuple #[.int .u64 ad, .int .i64 af]) ∧
 Keep [av, an] ac ai ∧
 ∀ (ak : World), Ext (fun b => b = av ∨ b = an) ai ak →
 R (.agg #[.int .i64 W7, .int .i64 (am : Int), .int .u64 ad]) ak) ∧
 ((ae : Int) ≤ 0 →
 ∀ (ag : World), Ext no w ag →
 R (.agg #[.int .i64 W7, .int .i64 (am : Int), .int .u64 0]) ag)

theorem cachetteref07_Log_Head.up (l1 : Option Addr) (o2 : Option Addr) {R : Value → World → Prop} {w : World} (h : cachetteref07_Log_Head.N l1 o2 R w) : cachetteref07_Log_Head.M l1 o2 R w := by
  unfold cachetteref07_Log_Head.M
  unfold cachetteref07_Log_Head.N at h
  refine thenW_in fun ch e3 => ?_
  have a0 := Blk.of_new e3
  have ap := ((Ext.refl no w)).size
  have cb := (Ext.refl no w).x_alloc e3
  refine thenW_in fun a8 e4 => ?_
  have ao := cb.x_drew e4
  have a0 := a0.x_drew e4
  obtain ⟨a5, al, h⟩ := h
  refine elim_some al ?_
  obtain ⟨W7, bw, h⟩ := h
  refine ⟨W7, (ao).cell bw id, ?_⟩
  refine elim_some al ?_
  obtain ⟨c5, ak, c4, bs, h⟩ := h
  refine ⟨c5, ak, c4, (ao).cell bs id, ?_⟩
  refine thenW_in fun ce ax => ?_
  have a1 := Blk.of_new ax
  have an := (ao).size
  have a2 := Nat.ne_of_lt a0.lt
  have a0 := a0.x_alloc ax
  have af := ao.x_alloc ax
  refine ⟨(af).cell bs id, (af).cell bw id, ?_⟩
  refine ⟨a1.cani 0 rfl rfl, thenW_in fun c2 b6 => ?_⟩
  have bj := af.x_set (q := a8.heap.size) (i := 0) rfl (.inr an) b6
  have a0 := a0.oth (q := a8.heap.size) (i := 0) rfl a2 b6
  have a1 := a1.seti 0 rfl b6
  refine ⟨a1.cani 1 rfl rfl, thenW_in fun cg br => ?_⟩
  have bk := bj.x_set (q := a8.heap.size) (i := 1) rfl (.inr an) br
  have a0 := a0.oth (q := a8.heap.size) (i := 1) rfl a2 br
  have a1 := a1.seti 1 rfl br
  refine ⟨a1.cani 2 rfl rfl, thenW_in fun cf be => ?_⟩
  have ah := bk.x_set (q := a8.heap.size) (i := 2) rfl (.inr an) be
  have a0 := a0.oth (q := a8.heap.size) (i := 2) rfl a2 be
  have a1 := a1.seti 2 rfl be
  refine elim_some al ?_
  obtain ⟨aw, bf, bd, b3, h⟩ := h
  refine ⟨aw, bf, bd, (ah).cell b3 id, ?_⟩
  refine bif_of (fun bl => ?_) (fun bl => ?_)
  · have h := h.1 (of_decide_eq_true bl)
    refine thenW_in fun bh bn => ?_
    have ae := ah.x_drew bn
    have a0 := a0.x_drew bn
    have a1 := a1.x_drew bn
    refine elim_some al ?_
    obtain ⟨bo, b5, bi, av, h⟩ := h
    refine ⟨bo, b5, bi, (ae).cell av id, ?_⟩
    refine elim_some al ?_
    obtain ⟨b7, az, ay, bm, h⟩ := h
    refine ⟨b7, az, ay, (ae).cell bm id, ?_⟩
    obtain ⟨c8, c1, h⟩ := h
    try rw [w64 c8 c1]
    obtain ⟨ci, bc, h⟩ := h
    refine elim_some bc ?_
    obtain ⟨cc, cd, h⟩ := h
    refine ⟨cc, cd, ?_⟩
    obtain ⟨a3, aa, ad, ai, ag, a9, a4, a6, ab, aj, b9, h⟩ := h
    refine ⟨a3, aa, ad, ai, ag, a9, a4, a6, ab, aj, cellsAt_no (ae) b9, ?_⟩
    have h := h bh (w.heap.size) (a8.heap.size) ae (Priv.cons ap a0.lt (Priv.cons an a1.lt Priv.nil))
    refine h.mono fun ca ac h => ?_
    obtain ⟨a7, am, he, hk, h⟩ := h
    refine ⟨a7, am, he, ?_⟩
    have a0 := hk.blk a0 (by simp)
    have a1 := hk.blk a1 (by simp)
    have b0 : Ext (fun b => b = a8.heap.size) ac ac := ((Ext.refl no ac)).none
    refine ⟨a1.cani 2 rfl rfl, thenW_in fun b1 ar => ?_⟩
    have b2 := b0.x_set (q := a8.heap.size) (i := 2) rfl (.inl rfl) ar
    have a0 := a0.oth (q := a8.heap.size) (i := 2) rfl a2 ar
    have a1 := a1.seti 2 rfl ar
    refine ⟨W7, (ak : Int), a7, ⟨a1.celli 0 rfl rfl, a1.celli 1 rfl rfl, a1.celli 2 rfl rfl, trivial⟩, ?_⟩
    have b8 : Ext (fun b => b = w.heap.size ∨ b = a8.heap.size) ac b1 := (b2).mono fun _ h _ => .inr h
    refine ⟨a0.cani 0 rfl rfl, thenW_in fun c9 bu => ?_⟩
    have ba := b8.x_set (q := w.heap.size) (i := 0) rfl (.inl (.inl rfl)) bu
    have a0 := a0.seti 0 rfl bu
    refine ⟨a0.cani 1 rfl rfl, thenW_in fun c7 bt => ?_⟩
    have bp := ba.x_set (q := w.heap.size) (i := 1) rfl (.inl (.inl rfl)) bt
    have a0 := a0.seti 1 rfl bt
    refine ⟨a0.cani 2 rfl rfl, thenW_in fun bq bv => ?_⟩
    have b4 := bp.x_set (q := w.heap.size) (i := 2) rfl (.inl (.inl rfl)) bv
    have a0 := a0.seti 2 rfl bv
    refine ⟨W7, (ak : Int), a7, ⟨a0.celli 0 rfl rfl, a0.celli 1 rfl rfl, a0.celli 2 rfl rfl, trivial⟩, ?_⟩
    have h := h bq b4
    exact h
  · have h := h.2 (Int.not_lt.1 (of_decide_eq_false bl))
    refine ⟨W7, (ak : Int), 0, ⟨a1.celli 0 rfl rfl, a1.celli 1 rfl rfl, a1.celli 2 rfl rfl, trivial⟩, ?_⟩
    refine ⟨a0.cani 0 rfl rfl, thenW_in fun c3 bx => ?_⟩
    have bg := ah.x_set (q := w.heap.size) (i := 0) rfl (.inr ap) bx
    have a0 := a0.seti 0 rfl bx
    refine ⟨a0.cani 1 rfl rfl, thenW_in fun c6 c0 => ?_⟩
    have aq := bg.x_set (q := w.heap.size) (i := 1) rfl (.inr ap) c0
    have a0 := a0.seti 1 rfl c0
    refine ⟨a0.cani 2 rfl rfl, thenW_in fun bb bz => ?_⟩
    have au := aq.x_set (q := w.heap.size) (i := 2) rfl (.inr ap) bz
    have a0 := a0.seti 2 rfl bz
    refine ⟨W7, (ak : Int), 0, ⟨a0.celli 0 rfl rfl, a0.celli 1 rfl rfl, a0.celli 2 rfl rfl, trivial⟩, ?_⟩
    have h := h bb au
    exact h

theorem cachetteref07_Log_Head.go (l1 : Option Addr) (o2 : Option Addr) {R : Value → World → Prop} {w : World} (h : cachetteref07_Log_Head.N l1 o2 R w) : Calls Try.prog 32 #[.pointer l1, .pointer o2] w fun e w' => ∃ v, e = .returned v ∧ R v w' := cachetteref07_Log_Head.ok l1 o2 (cachetteref07_Log_Head.up l1 o2 h)
/-- (*cachetteref07.Log).late -/
def cachetteref07_Log_late.M (l1 : Option Addr) (aj : Int) (ai : Int) (R : Value → World → Prop) (w : World) : Prop :=
 thenW (w.alloc (.cells #[.int .i64 aj, .int .i64 ai] 45)) fun ad =>
 l1.elim False fun a5 =>
 ∃ (ag : Option Addr) (a4 : Nat) (af : Nat), ad.cell? (a5.add 2) = some (.slice ag a4 af) ∧
 thenW (ad.drew) fun a7 =>
 bif decide ((a4 : Int) > 0) then (
 l1.elim False fun a8 =>
 ∃ (ab : Option Addr) (ac : Nat) (ah : Nat), a7.cell? (a8.add 2) = some (.slice ab ac ah) ∧
 ab.elim False fun ae =>
 0 ≤ ((IntKind.i64.wrap ((a4 : Int) - 1)) : Int) ∧ ((IntKind.i64.wrap ((a4 : Int) - 1)) : Int) < (ac : Int) ∧
 ∃ (a2 : Int) (a1 : Int), cellsAt a7 ((ae.add (Int.toNat (IntKind.i64.wrap ((a4 : Int) - 1)) * 8)).add 3) [.int .i64 a2, .int .i64 a1] 0 ∧
 ∃ (a3 : Int) (a6 : Int), cellsAt a7 (blk w.heap.size) [.int .i64 a3, .int .i64 a6] 0 ∧
 Calls Try.prog 58 #[.agg #[.int .i64 a2, .int .i64 a1], .agg #[.int .i64 a3, .int .i64 a6]] a7 fun aa a9 => ∃ (a0 : Bool), aa = .returned (.bool a0) ∧
 R (.bool (!a0)) a9) else (
 R (.bool false) a7)

theorem cachetteref07_Log_late.eq (l1 : Option Addr) (sT2 : Int) (sW3 : Int) (R : Value → World → Prop) (w : World) : mfunc Try.prog [] 39 [.pointer l1, .agg #[.int .i64 sT2, .int .i64 sW3]] R w = cachetteref07_Log_late.M l1 sT2 sW3 R w := by kernel_rfl
theorem cachetteref07_Log_late.ok (l1 : Option Addr) (a0 : Int) (a1 : Int) {R : Value → World → Prop} {w : World} (h : cachetteref07_Log_late.M l1 a0 a1 R w) : Calls Try.prog 39 #[.pointer l1, .agg #[.int .i64 a0, .int .i64 a1]] w fun e w' => ∃ v, e = .returned v ∧ R v w' :=
  mfunc_ok follows (H := []) (args := [.pointer l1, .agg #[.int .i64 a0, .int .i64 a1]]) (by rw [cachetteref07_Log_late.eq]; exact h)

def cachetteref07_Log_late.N (l1 : Option Addr) (ac : Int) (ad : Int) (R : Value → World → Prop) (w : World) : Prop :=
 ∃ a5 : Addr, l1 = some a5 ∧
 ∃ (aa : Option Addr) (a2 : Nat) (ab : Nat), w.cell? (a5.add 2) = some (.slice aa a2 ab) ∧
 ((a2 : Int) > 0 →
 ∃ (a6 : Option Addr) (a4 : Nat) (a7 : Nat), w.cell? (a5.add 2) = some (.slice a6 a4 a7) ∧
 (-9223372036854775808 : Int) ≤ ((a2 : Int) - 1) ∧ ((a2 : Int) - 1) < 9223372036854775808 ∧
 ∃ a9 : Addr, a6 = some a9 ∧
 0 ≤ (((a2 : Int) - 1) : Int) ∧ (((a2 : Int) - 1) : Int) < (a4 : Int) ∧
 ∃ (a1 : Int) (a0 : Int), cellsAt w ((a9.add (Int.toNat ((a2 : Int) - 1) * 8)).add 3) [.int .i64 a1, .int .i64 a0] 0 ∧
 ∀ (a3 : World), Ext no w a3 →
 R (.bool (!(cachetteref04_Less.F a1 a0 ac ad))) a3) ∧
 ((a2 : Int) ≤ 0 →
 ∀ (a8 : World), Ext no w a8 →
 R (.bool false) a8)

theorem cachetteref07_Log_late.up (l1 : Option Addr) (a3 : Int) (a2 : Int) {R : Value → World → Prop} {w : World} (h : cachetteref07_Log_late.N l1 a3 a2 R w) : cachetteref07_Log_late.M l1 a3 a2 R w := by
  unfold cachetteref07_Log_late.M
  unfold cachetteref07_Log_late.N at h
  refine thenW_in fun ar e4 => ?_
  have a6 := Blk.of_new e4
  have aq := ((Ext.refl no w)).size
  have ae := (Ext.refl no w).x_alloc e4
  obtain ⟨a5, af, h⟩ := h
  refine elim_some af ?_
  obtain ⟨al, ah, an, am, h⟩ := h
  refine ⟨al, ah, an, (ae).cell am id, ?_⟩
  refine thenW_in fun ao e8 => ?_
  have a4 := ae.x_drew e8
  have a6 := a6.x_drew e8
  refine bif_of (fun c9 => ?_) (fun c9 => ?_)
  · have h := h.1 (of_decide_eq_true c9)
    refine elim_some af ?_
    obtain ⟨ab, a7, a9, a8, h⟩ := h
    refine ⟨ab, a7, a9, (a4).cell a8 id, ?_⟩
    obtain ⟨ak, aj, h⟩ := h
    try rw [w64 ak aj]
    obtain ⟨ap, aa, h⟩ := h
    refine elim_some aa ?_
    obtain ⟨ag, ai, h⟩ := h
    refine ⟨ag, ai, ?_⟩
    obtain ⟨a0, a1, ad, h⟩ := h
    refine ⟨a0, a1, cellsAt_no (a4) ad, ?_⟩
    refine ⟨a3, a2, ⟨a6.celli 0 rfl rfl, a6.celli 1 rfl rfl, trivial⟩, ?_⟩
    refine (cachetteref04_Less.pure a0 a1 a3 a2).mono fun ee ww16 ⟨he, hxx⟩ => ⟨(cachetteref04_Less.F a0 a1 a3 a2), he, ?_⟩
    have ac := a4.trans hxx
    have h := h ww16 ac
    exact h
  · have h := h.2 (Int.not_lt.1 (of_decide_eq_false c9))
    have h := h ao a4
    exact h

theorem cachetteref07_Log_late.go (l1 : Option Addr) (a0 : Int) (a1 : Int) {R : Value → World → Prop} {w : World} (h : cachetteref07_Log_late.N l1 a0 a1 R w) : Calls Try.prog 39 #[.pointer l1, .agg #[.int .i64 a0, .int .i64 a1]] w fun e w' => ∃ v, e = .returned v ∧ R v w' := cachetteref07_Log_late.ok l1 a0 a1 (cachetteref07_Log_late.up l1 a0 a1 h)
theorem cachetteref07_Log_late.run (l1 : Option Addr) (a0 : Int) (a1 : Int) {V : Value} {Q : World → Prop} {w : World} (h : cachetteref07_Log_late.N l1 a0 a1 (fun v w' => v = V ∧ Q w') w) : Calls Try.prog 39 #[.pointer l1, .agg #[.int .i64 a0, .int .i64 a1]] w (Ret V Q) := (cachetteref07_Log_late.go l1 a0 a1 h).mono fun e w' ⟨v, he, hv, hq⟩ => ⟨by rw [he, hv], hq⟩

/-- (*cachetteref07.Log).Check -/
def cachetteref07_Log_Check.M (l1 : Option Addr) (o2 : Option Addr) (b2 : Int) (bn : Int) (bw : Int) (c4 : Int) (c2 : Int) (bp : Int) (bq : Option Addr) (bl : Nat) (bj : Nat) (bx : Int) (R : Value → World → Prop) (w : World) : Prop :=
 thenW (w.alloc (.cells #[.int .i64 b2, .int .i64 bn, .int .u64 bw, .int .i64 c4, .int .i64 c2, .int .i64 bp, .slice bq bl bj, .int .u64 bx] 47)) fun c0 =>
 ∃ (a2 : Int) (ac : Int) (aw : Int) (b5 : Int) (bf : Int) (an : Int) (ap : Option Addr) (aq : Nat) (ad : Nat) (bd : Int), cellsAt c0 (blk w.heap.size) [.int .i64 a2, .int .i64 ac, .int .u64 aw, .int .i64 b5, .int .i64 bf, .int .i64 an, .slice ap aq ad, .int .u64 bd] 0 ∧
 Calls Try.prog 38 #[.agg #[.int .i64 a2, .int .i64 ac, .int .u64 aw, .int .i64 b5, .int .i64 bf, .int .i64 an, .slice ap aq ad, .int .u64 bd]] c0 fun ce cb => ∃ (ay : Bool), ce = .returned (.bool ay) ∧
 bif !ay then (
 R (.int .i64 1) cb) else (
 thenW (cb.drew) fun bm =>
 ∃ (a6 : Int), bm.cell? ((blk w.heap.size).add 0) = some (.int .i64 a6) ∧
 l1.elim False fun cq =>
 ∃ (cm : Int), bm.cell? (cq.add 0) = some (.int .i64 cm) ∧
 bif a6 != cm then (
 R (.int .i64 20) bm) else (
 thenW (bm.drew) fun bv =>
 l1.elim False fun cs =>
 ∃ (aj : Int), bv.cell? (cs.add 1) = some (.int .u64 aj) ∧
 ∃ (a1 : Int) (ao : Int) (az : Int) (b7 : Int) (b6 : Int) (al : Int) (ae : Option Addr) (ai : Nat) (a5 : Nat) (bb : Int), cellsAt bv (blk w.heap.size) [.int .i64 a1, .int .i64 ao, .int .u64 az, .int .i64 b7, .int .i64 b6, .int .i64 al, .slice ae ai a5, .int .u64 bb] 0 ∧
 Calls Try.prog 44 #[.pointer o2, .int .u64 aj, .agg #[.int .i64 a1, .int .i64 ao, .int .u64 az, .int .i64 b7, .int .i64 b6, .int .i64 al, .slice ae ai a5, .int .u64 bb]] bv fun ck c3 => ∃ (ax : Bool), ck = .returned (.bool ax) ∧
 bif !ax then (
 R (.int .i64 6) c3) else (
 thenW (c3.drew) fun br =>
 ∃ (b0 : Int), br.cell? ((blk w.heap.size).add 1) = some (.int .i64 b0) ∧
 l1.elim False fun cr =>
 ∃ (cg : Option Addr) (bz : Nat) (ci : Nat), br.cell? (cr.add 2) = some (.slice cg bz ci) ∧
 bif decide (b0 < (bz : Int)) then (
 thenW (br.drew) fun bi =>
 l1.elim False fun cp =>
 ∃ (c7 : Option Addr) (c1 : Nat) (cd : Nat), bi.cell? (cp.add 2) = some (.slice c7 c1 cd) ∧
 ∃ (a0 : Int), bi.cell? ((blk w.heap.size).add 1) = some (.int .i64 a0) ∧
 c7.elim False fun co =>
 0 ≤ (a0 : Int) ∧ (a0 : Int) < (c1 : Int) ∧
 ∃ (a4 : Int) (af : Int) (b1 : Int) (bg : Int) (ba : Int) (a9 : Int) (am : Option Addr) (ah : Nat) (ab : Nat) (b8 : Int), cellsAt bi (co.add (Int.toNat a0 * 8)) [.int .i64 a4, .int .i64 af, .int .u64 b1, .int .i64 bg, .int .i64 ba, .int .i64 a9, .slice am ah ab, .int .u64 b8] 0 ∧
 ∃ (a3 : Int) (aa : Int) (au : Int) (be : Int) (b9 : Int) (a7 : Int) (a8 : Option Addr) (ag : Nat) (ak : Nat) (b3 : Int), cellsAt bi (blk w.heap.size) [.int .i64 a3, .int .i64 aa, .int .u64 au, .int .i64 be, .int .i64 b9, .int .i64 a7, .slice a8 ag ak, .int .u64 b3] 0 ∧
 Calls Try.prog 17 #[.agg #[.int .i64 a4, .int .i64 af, .int .u64 b1, .int .i64 bg, .int .i64 ba, .int .i64 a9, .slice am ah ab, .int .u64 b8], .agg #[.int .i64 a3, .int .i64 aa, .int .u64 au, .int .i64 be, .int .i64 b9, .int .i64 a7, .slice a8 ag ak, .int .u64 b3]] bi fun cc c8 => ∃ (b4 : Bool), cc = .returned (.bool b4) ∧
 bif b4 then (
 R (.int .i64 8) c8) else (
 R (.int .i64 9) c8)) else (
 thenW (br.drew) fun bo =>
 ∃ (av : Int), bo.cell? ((blk w.heap.size).add 1) = some (.int .i64 av) ∧
 l1.elim False fun cn =>
 ∃ (cj : Option Addr) (c6 : Nat) (cl : Nat), bo.cell? (cn.add 2) = some (.slice cj c6 cl) ∧
 bif decide (av > (c6 : Int)) then (
 R (.int .i64 7) bo) else (
 thenW (bo.drew) fun c5 =>
 ∃ (ar : Int), c5.cell? ((blk w.heap.size).add 2) = some (.int .u64 ar) ∧
 Calls Try.prog 32 #[.pointer l1, .pointer o2] c5 fun ch bk => ∃ (bc : Int) (ca : Int) (bu : Int), ch = .returned (.agg #[.int .i64 bc, .int .i64 ca, .int .u64 bu]) ∧
 bk.cell? ((blk w.heap.size).add 2) = some (.int .u64 ar) ∧
 bif ar != bu then (
 R (.int .i64 5) bk) else (
 ∃ (bt : Int) (bs : Int), cellsAt bk ((blk w.heap.size).add 3) [.int .i64 bt, .int .i64 bs] 0 ∧
 Calls Try.prog 39 #[.pointer l1, .agg #[.int .i64 bt, .int .i64 bs]] bk fun cf c9 => ∃ (bh : Bool), cf = .returned (.bool bh) ∧
 bif bh then (
 R (.int .i64 2) c9) else (
 R (.int .i64 0) c9)))))))

theorem cachetteref07_Log_Check.eq (l1 : Option Addr) (o2 : Option Addr) (eWriter3 : Int) (eIndex4 : Int) (ePrev5 : Int) (eAtT6 : Int) (eAtW7 : Int) (eEpoch8 : Int) (eBody9a : Option Addr) (eBody9n : Nat) (eBody9c : Nat) (eSig10 : Int) (R : Value → World → Prop) (w : World) : mfunc Try.prog [] 20 [.pointer l1, .pointer o2, .agg #[.int .i64 eWriter3, .int .i64 eIndex4, .int .u64 ePrev5, .int .i64 eAtT6, .int .i64 eAtW7, .int .i64 eEpoch8, .slice eBody9a eBody9n eBody9c, .int .u64 eSig10]] R w = cachetteref07_Log_Check.M l1 o2 eWriter3 eIndex4 ePrev5 eAtT6 eAtW7 eEpoch8 eBody9a eBody9n eBody9c eSig10 R w := by kernel_rfl
theorem cachetteref07_Log_Check.ok (l1 : Option Addr) (o2 : Option Addr) (a0 : Int) (a3 : Int) (a6 : Int) (a9 : Int) (a8 : Int) (a1 : Int) (a4 : Option Addr) (a5 : Nat) (a2 : Nat) (a7 : Int) {R : Value → World → Prop} {w : World} (h : cachetteref07_Log_Check.M l1 o2 a0 a3 a6 a9 a8 a1 a4 a5 a2 a7 R w) : Calls Try.prog 20 #[.pointer l1, .pointer o2, .agg #[.int .i64 a0, .int .i64 a3, .int .u64 a6, .int .i64 a9, .int .i64 a8, .int .i64 a1, .slice a4 a5 a2, .int .u64 a7]] w fun e w' => ∃ v, e = .returned v ∧ R v w' :=
  mfunc_ok follows (H := []) (args := [.pointer l1, .pointer o2, .agg #[.int .i64 a0, .int .i64 a3, .int .u64 a6, .int .i64 a9, .int .i64 a8, .int .i64 a1, .slice a4 a5 a2, .int .u64 a7]]) (by rw [cachetteref07_Log_Check.eq]; exact h)

def cachetteref07_Log_Check.N (l1 : Option Addr) (o2 : Option Addr) (a1 : Int) (a0 : Int) (a2 : Int) (ag : Int) (ae : Int) (a5 : Int) (a6 : Option Addr) (a4 : Nat) (a3 : Nat) (aa : Int) (R : Value → World → Prop) (w : World) : Prop :=
 ((cachetteref06_Right.F a1 a0 a2 ag ae a5 a6 a4 a3 aa) = false →
 ∀ (b2 : World), Ext no w b2 →
 R (.int .i64 1) b2) ∧
 ((cachetteref06_Right.F a1 a0 a2 ag ae a5 a6 a4 a3 aa) = true →
 ∃ ay : Addr, l1 = some ay ∧
 ∃ (bh : Int), w.cell? (ay.add 0) = some (.int .i64 bh) ∧
 (a1 ≠ bh →
 ∀ (b3 : World), Ext no w b3 →
 R (.int .i64 20) b3) ∧
 (a1 = bh →
 ∃ (ab : Int), w.cell? (ay.add 1) = some (.int .u64 ab) ∧
 ∀ (ar : World) (be : Nat), Ext no w ar → Priv w ar [be] →
 Calls Try.prog 44 #[.pointer o2, .int .u64 ab, .agg #[.int .i64 a1, .int .i64 a0, .int .u64 a2, .int .i64 ag, .int .i64 ae, .int .i64 a5, .slice a6 a4 a3, .int .u64 aa]] ar fun bi a8 => ∃ (a9 : Bool), bi = .returned (.bool a9) ∧
 Keep [be] ar a8 ∧
 (a9 = false →
 R (.int .i64 6) a8) ∧
 (a9 = true →
 ∃ (ba : Option Addr) (ax : Nat) (bg : Nat), a8.cell? (ay.add 2) = some (.slice ba ax bg) ∧
 (a0 < (ax : Int) →
 ∃ (b1 : Option Addr) (b7 : Nat) (bc : Nat), a8.cell? (ay.add 2) = some (.slice b1 b7 bc) ∧
 ∃ bj : Addr, b1 = some bj ∧
 0 ≤ (a0 : Int) ∧ (a0 : Int) < (b7 : Int) ∧
 ∃ (a7 : Int) (ad : Int) (al : Int) (ap : Int) (an : Int) (ac : Int) (ah : Option Addr) (ai : Nat) (af : Nat) (am : Int), cellsAt a8 (bj.add (Int.toNat a0 * 8)) [.int .i64 a7, .int .i64 ad, .int .u64 al, .int .i64 ap, .int .i64 an, .int .i64 ac, .slice ah ai af, .int .u64 am] 0 ∧
 ∀ (b5 : World), Ext no a8 b5 →
 Calls Try.prog 17 #[.agg #[.int .i64 a7, .int .i64 ad, .int .u64 al, .int .i64 ap, .int .i64 an, .int .i64 ac, .slice ah ai af, .int .u64 am], .agg #[.int .i64 a1, .int .i64 a0, .int .u64 a2, .int .i64 ag, .int .i64 ae, .int .i64 a5, .slice a6 a4 a3, .int .u64 aa]] b5 fun b8 az => ∃ (ak : Bool), b8 = .returned (.bool ak) ∧
 (ak = true →
 R (.int .i64 8) az) ∧
 (ak = false →
 R (.int .i64 9) az)) ∧
 ((ax : Int) ≤ a0 →
 ∃ (b9 : Option Addr) (av : Nat) (bd : Nat), a8.cell? (ay.add 2) = some (.slice b9 av bd) ∧
 (a0 > (av : Int) →
 ∀ (b6 : World), Ext no a8 b6 →
 R (.int .i64 7) b6) ∧
 (a0 ≤ (av : Int) →
 ∀ (aw : World), Ext no a8 aw →
 Calls Try.prog 32 #[.pointer l1, .pointer o2] aw fun bb au => ∃ (aq : Int) (b4 : Int) (ao : Int), bb = .returned (.agg #[.int .i64 aq, .int .i64 b4, .int .u64 ao]) ∧
 Keep [be] aw au ∧
 (a2 ≠ ao →
 R (.int .i64 5) au) ∧
 (a2 = ao →
 Calls Try.prog 39 #[.pointer l1, .agg #[.int .i64 ag, .int .i64 ae]] au fun bf b0 => ∃ (aj : Bool), bf = .returned (.bool aj) ∧
 (aj = true →
 R (.int .i64 2) b0) ∧
 (aj = false →
 R (.int .i64 0) b0)))))))

theorem cachetteref07_Log_Check.up (l1 : Option Addr) (o2 : Option Addr) (a1 : Int) (a0 : Int) (a7 : Int) (aa : Int) (a9 : Int) (a5 : Int) (a6 : Option Addr) (a4 : Nat) (a3 : Nat) (a8 : Int) {R : Value → World → Prop} {w : World} (h : cachetteref07_Log_Check.N l1 o2 a1 a0 a7 aa a9 a5 a6 a4 a3 a8 R w) : cachetteref07_Log_Check.M l1 o2 a1 a0 a7 aa a9 a5 a6 a4 a3 a8 R w := by
  unfold cachetteref07_Log_Check.M
  unfold cachetteref07_Log_Check.N at h
  refine thenW_in fun c6 bz => ?_
  have a2 := Blk.of_new bz
  have ch := ((Ext.refl no w)).size
  have bw := (Ext.refl no w).x_alloc bz
  refine ⟨a1, a0, a7, aa, a9, a5, a6, a4, a3, a8, ⟨a2.celli 0 rfl rfl, a2.celli 1 rfl rfl, a2.celli 2 rfl rfl, a2.celli 3 rfl rfl, a2.celli 4 rfl rfl, a2.celli 5 rfl rfl, a2.celli 6 rfl rfl, a2.celli 7 rfl rfl, trivial⟩, ?_⟩
  refine (cachetteref06_Right.pure a1 a0 a7 aa a9 a5 a6 a4 a3 a8).mono fun ee ww12 ⟨he, hxx⟩ => ⟨(cachetteref06_Right.F a1 a0 a7 aa a9 a5 a6 a4 a3 a8), he, ?_⟩
  have b0 := bw.trans hxx
  have a2 := a2.ext hxx id
  refine bif_of (fun bh => ?_) (fun bh => ?_)
  · have h := h.1 (not_t bh)
    have h := h ww12 b0
    exact h
  · have h := h.2 (not_f bh)
    refine thenW_in fun bb c2 => ?_
    have aq := b0.x_drew c2
    have a2 := a2.x_drew c2
    refine ⟨a1, a2.celli 0 rfl rfl, ?_⟩
    obtain ⟨cj, aj, h⟩ := h
    refine elim_some aj ?_
    obtain ⟨cc, bc, h⟩ := h
    refine ⟨cc, (aq).cell bc id, ?_⟩
    refine bif_of (fun bv => ?_) (fun bv => ?_)
    · have h := h.1 (bne_t bv)
      have h := h bb aq
      exact h
    · have h := h.2 (bne_f bv)
      refine thenW_in fun ba c4 => ?_
      have ay := aq.x_drew c4
      have a2 := a2.x_drew c4
      refine elim_some aj ?_
      obtain ⟨ai, bi, h⟩ := h
      refine ⟨ai, (ay).cell bi id, ?_⟩
      refine ⟨a1, a0, a7, aa, a9, a5, a6, a4, a3, a8, ⟨a2.celli 0 rfl rfl, a2.celli 1 rfl rfl, a2.celli 2 rfl rfl, a2.celli 3 rfl rfl, a2.celli 4 rfl rfl, a2.celli 5 rfl rfl, a2.celli 6 rfl rfl, a2.celli 7 rfl rfl, trivial⟩, ?_⟩
      have h := h ba (w.heap.size) ay (Priv.cons ch a2.lt Priv.nil)
      refine h.mono fun cb bp h => ?_
      obtain ⟨ak, he, hk, h⟩ := h
      refine ⟨ak, he, ?_⟩
      have a2 := hk.blk a2 (by simp)
      refine bif_of (fun bm => ?_) (fun bm => ?_)
      · have h := h.1 (not_t bm)
        exact h
      · have h := h.2 (not_f bm)
        refine thenW_in fun c8 c3 => ?_
        have ar := (Ext.refl no bp).x_drew c3
        have a2 := a2.x_drew c3
        refine ⟨a0, a2.celli 1 rfl rfl, ?_⟩
        refine elim_some aj ?_
        obtain ⟨bq, b7, bd, bu, h⟩ := h
        refine ⟨bq, b7, bd, (ar).cell bu id, ?_⟩
        refine bif_of (fun b2 => ?_) (fun b2 => ?_)
        · have h := h.1 (of_decide_eq_true b2)
          refine thenW_in fun b5 bx => ?_
          have am := ar.x_drew bx
          have a2 := a2.x_drew bx
          refine elim_some aj ?_
          obtain ⟨bj, bg, bs, b3, h⟩ := h
          refine ⟨bj, bg, bs, (am).cell b3 id, ?_⟩
          refine ⟨a0, a2.celli 1 rfl rfl, ?_⟩
          obtain ⟨ci, bf, h⟩ := h
          refine elim_some bf ?_
          obtain ⟨ce, cf, h⟩ := h
          refine ⟨ce, cf, ?_⟩
          obtain ⟨ab, ag, al, av, au, ac, ad, af, ah, ao, bl, h⟩ := h
          refine ⟨ab, ag, al, av, au, ac, ad, af, ah, ao, cellsAt_no (am) bl, ?_⟩
          refine ⟨a1, a0, a7, aa, a9, a5, a6, a4, a3, a8, ⟨a2.celli 0 rfl rfl, a2.celli 1 rfl rfl, a2.celli 2 rfl rfl, a2.celli 3 rfl rfl, a2.celli 4 rfl rfl, a2.celli 5 rfl rfl, a2.celli 6 rfl rfl, a2.celli 7 rfl rfl, trivial⟩, ?_⟩
          have h := h b5 am
          refine h.mono fun c5 c9 h => ?_
          obtain ⟨an, he, h⟩ := h
          refine ⟨an, he, ?_⟩
          refine bif_of (fun b1 => ?_) (fun b1 => ?_)
          · have h := h.1 b1
            exact h
          · have h := h.2 b1
            exact h
        · have h := h.2 (Int.not_lt.1 (of_decide_eq_false b2))
          refine thenW_in fun bk c0 => ?_
          have aw := ar.x_drew c0
          have a2 := a2.x_drew c0
          refine ⟨a0, a2.celli 1 rfl rfl, ?_⟩
          refine elim_some aj ?_
          obtain ⟨b8, b9, b4, bt, h⟩ := h
          refine ⟨b8, b9, b4, (aw).cell bt id, ?_⟩
          refine bif_of (fun bn => ?_) (fun bn => ?_)
          · have h := h.1 (of_decide_eq_true bn)
            have h := h bk aw
            exact h
          · have h := h.2 (Int.not_lt.1 (of_decide_eq_false bn))
            refine thenW_in fun be c1 => ?_
            have br := aw.x_drew c1
            have a2 := a2.x_drew c1
            refine ⟨a7, a2.celli 2 rfl rfl, ?_⟩
            have h := h be br
            refine h.mono fun cg cd h => ?_
            obtain ⟨ae, ax, az, he, hk, h⟩ := h
            refine ⟨ae, ax, az, he, ?_⟩
            have a2 := hk.blk a2 (by simp)
            refine ⟨a2.celli 2 rfl rfl, ?_⟩
            refine bif_of (fun b6 => ?_) (fun b6 => ?_)
            · have h := h.1 (bne_t b6)
              exact h
            · have h := h.2 (bne_f b6)
              refine ⟨aa, a9, ⟨a2.celli 3 rfl rfl, a2.celli 4 rfl rfl, trivial⟩, ?_⟩
              refine h.mono fun ca c7 h => ?_
              obtain ⟨ap, he, h⟩ := h
              refine ⟨ap, he, ?_⟩
              refine bif_of (fun bo => ?_) (fun bo => ?_)
              · have h := h.1 bo
                exact h
              · have h := h.2 bo
                exact h

theorem cachetteref07_Log_Check.go (l1 : Option Addr) (o2 : Option Addr) (a0 : Int) (a3 : Int) (a6 : Int) (a9 : Int) (a8 : Int) (a1 : Int) (a4 : Option Addr) (a5 : Nat) (a2 : Nat) (a7 : Int) {R : Value → World → Prop} {w : World} (h : cachetteref07_Log_Check.N l1 o2 a0 a3 a6 a9 a8 a1 a4 a5 a2 a7 R w) : Calls Try.prog 20 #[.pointer l1, .pointer o2, .agg #[.int .i64 a0, .int .i64 a3, .int .u64 a6, .int .i64 a9, .int .i64 a8, .int .i64 a1, .slice a4 a5 a2, .int .u64 a7]] w fun e w' => ∃ v, e = .returned v ∧ R v w' := cachetteref07_Log_Check.ok l1 o2 a0 a3 a6 a9 a8 a1 a4 a5 a2 a7 (cachetteref07_Log_Check.up l1 o2 a0 a3 a6 a9 a8 a1 a4 a5 a2 a7 h)
/-- (*cachetteref07.Log).Accept -/
def cachetteref07_Log_Accept.M (l1 : Option Addr) (o2 : Option Addr) (ag : Int) (ar : Int) (av : Int) (b4 : Int) (b0 : Int) (ao : Int) (ap : Option Addr) (an : Nat) (am : Nat) (ax : Int) (R : Value → World → Prop) (w : World) : Prop :=
 thenW (w.alloc (.cells #[.int .i64 ag, .int .i64 ar, .int .u64 av, .int .i64 b4, .int .i64 b0, .int .i64 ao, .slice ap an am, .int .u64 ax] 47)) fun b2 =>
 ∃ (a1 : Int) (a9 : Int) (ae : Int) (al : Int) (af : Int) (a5 : Int) (a6 : Option Addr) (a8 : Nat) (aa : Nat) (ak : Int), cellsAt b2 (blk w.heap.size) [.int .i64 a1, .int .i64 a9, .int .u64 ae, .int .i64 al, .int .i64 af, .int .i64 a5, .slice a6 a8 aa, .int .u64 ak] 0 ∧
 Calls Try.prog 20 #[.pointer l1, .pointer o2, .agg #[.int .i64 a1, .int .i64 a9, .int .u64 ae, .int .i64 al, .int .i64 af, .int .i64 a5, .slice a6 a8 aa, .int .u64 ak]] b2 fun b9 b1 => ∃ (a0 : Int), b9 = .returned (.int .i64 a0) ∧
 bif a0 == 0 then (
 thenW (b1.drew) fun aq =>
 l1.elim False fun bb =>
 ∃ (au : Option Addr) (ay : Nat) (aw : Nat), aq.cell? (bb.add 2) = some (.slice au ay aw) ∧
 ∃ (a2 : Int) (ac : Int) (ad : Int) (ai : Int) (ah : Int) (a4 : Int) (ab : Option Addr) (a3 : Nat) (a7 : Nat) (aj : Int), cellsAt aq (blk w.heap.size) [.int .i64 a2, .int .i64 ac, .int .u64 ad, .int .i64 ai, .int .i64 ah, .int .i64 a4, .slice ab a3 a7, .int .u64 aj] 0 ∧
 thenW (aq.alloc (.cells #[.int .i64 a2, .int .i64 ac, .int .u64 ad, .int .i64 ai, .int .i64 ah, .int .i64 a4, .slice ab a3 a7, .int .u64 aj] 47)) fun b5 =>
 b5.cell? (bb.add 2) = some (.slice au ay aw) ∧
 ∃ (b3 : Option Addr) (b7 : Nat) (b6 : Nat) (az : World), (Builtin.append_ #[40, 40] 40 #[.slice au ay aw, .slice (some (blk aq.heap.size)) 1 1]).run Try.prog b5 = .ok (.slice b3 b7 b6) az ∧
 l1.elim False fun ba =>
 canStore az ((ba.add 2).add 0) ∧
 thenW (az.setCell ((ba.add 2).add 0) (.slice b3 b7 b6)) fun b8 =>
 R (.int .i64 a0) b8) else (
 R (.int .i64 a0) b1)

theorem cachetteref07_Log_Accept.eq (l1 : Option Addr) (o2 : Option Addr) (eWriter3 : Int) (eIndex4 : Int) (ePrev5 : Int) (eAtT6 : Int) (eAtW7 : Int) (eEpoch8 : Int) (eBody9a : Option Addr) (eBody9n : Nat) (eBody9c : Nat) (eSig10 : Int) (R : Value → World → Prop) (w : World) : mfunc Try.prog [] 22 [.pointer l1, .pointer o2, .agg #[.int .i64 eWriter3, .int .i64 eIndex4, .int .u64 ePrev5, .int .i64 eAtT6, .int .i64 eAtW7, .int .i64 eEpoch8, .slice eBody9a eBody9n eBody9c, .int .u64 eSig10]] R w = cachetteref07_Log_Accept.M l1 o2 eWriter3 eIndex4 ePrev5 eAtT6 eAtW7 eEpoch8 eBody9a eBody9n eBody9c eSig10 R w := by kernel_rfl
theorem cachetteref07_Log_Accept.ok (l1 : Option Addr) (o2 : Option Addr) (a0 : Int) (a3 : Int) (a6 : Int) (a9 : Int) (a8 : Int) (a1 : Int) (a4 : Option Addr) (a5 : Nat) (a2 : Nat) (a7 : Int) {R : Value → World → Prop} {w : World} (h : cachetteref07_Log_Accept.M l1 o2 a0 a3 a6 a9 a8 a1 a4 a5 a2 a7 R w) : Calls Try.prog 22 #[.pointer l1, .pointer o2, .agg #[.int .i64 a0, .int .i64 a3, .int .u64 a6, .int .i64 a9, .int .i64 a8, .int .i64 a1, .slice a4 a5 a2, .int .u64 a7]] w fun e w' => ∃ v, e = .returned v ∧ R v w' :=
  mfunc_ok follows (H := []) (args := [.pointer l1, .pointer o2, .agg #[.int .i64 a0, .int .i64 a3, .int .u64 a6, .int .i64 a9, .int .i64 a8, .int .i64 a1, .slice a4 a5 a2, .int .u64 a7]]) (by rw [cachetteref07_Log_Accept.eq]; exact h)

def cachetteref07_Log_Accept.N (l1 : Option Addr) (o2 : Option Addr) (a1 : Int) (a6 : Int) (a7 : Int) (ad : Int) (ac : Int) (a4 : Int) (a5 : Option Addr) (a3 : Nat) (a2 : Nat) (aa : Int) (R : Value → World → Prop) (w : World) : Prop :=
 ∀ (ab : World) (ap : Nat), Ext no w ab → Priv w ab [ap] →
 Calls Try.prog 20 #[.pointer l1, .pointer o2, .agg #[.int .i64 a1, .int .i64 a6, .int .u64 a7, .int .i64 ad, .int .i64 ac, .int .i64 a4, .slice a5 a3 a2, .int .u64 aa]] ab fun an a9 => ∃ (a0 : Int), an = .returned (.int .i64 a0) ∧
 Keep [ap] ab a9 ∧
 (a0 = 0 →
 ∃ aj : Addr, l1 = some aj ∧
 ∃ (ah : Option Addr) (af : Nat) (ag : Nat), a9.cell? (aj.add 2) = some (.slice ah af ag) ∧
 ∀ (a8 : World) (am : Nat), Ext no a9 a8 → Blk a8 am 47 [.int .i64 a1, .int .i64 a6, .int .u64 a7, .int .i64 ad, .int .i64 ac, .int .i64 a4, .slice a5 a3 a2, .int .u64 aa] → a9.heap.size ≤ am → am < a8.heap.size →
 a8.cell? (aj.add 2) = some (.slice ah af ag) ∧
 ∃ (ak : Option Addr) (al : Nat) (ai : Nat) (ae : World), (Builtin.append_ #[40, 40] 40 #[.slice ah af ag, .slice (some (blk am)) 1 1]).run Try.prog a8 = .ok (.slice ak al ai) ae ∧
 canStore ae ((aj.add 2).add 0) ∧
 thenW (ae.setCell ((aj.add 2).add 0) (.slice ak al ai)) fun ao =>
 R (.int .i64 a0) ao) ∧
 (a0 ≠ 0 →
 R (.int .i64 a0) a9)

theorem cachetteref07_Log_Accept.up (l1 : Option Addr) (o2 : Option Addr) (a0 : Int) (a5 : Int) (a7 : Int) (aa : Int) (a9 : Int) (a3 : Int) (a4 : Option Addr) (a2 : Nat) (a1 : Nat) (a8 : Int) {R : Value → World → Prop} {w : World} (h : cachetteref07_Log_Accept.N l1 o2 a0 a5 a7 aa a9 a3 a4 a2 a1 a8 R w) : cachetteref07_Log_Accept.M l1 o2 a0 a5 a7 aa a9 a3 a4 a2 a1 a8 R w := by
  unfold cachetteref07_Log_Accept.M
  unfold cachetteref07_Log_Accept.N at h
  refine thenW_in fun ag ax => ?_
  have a6 := Blk.of_new ax
  have b1 := ((Ext.refl no w)).size
  have al := (Ext.refl no w).x_alloc ax
  refine ⟨a0, a5, a7, aa, a9, a3, a4, a2, a1, a8, ⟨a6.celli 0 rfl rfl, a6.celli 1 rfl rfl, a6.celli 2 rfl rfl, a6.celli 3 rfl rfl, a6.celli 4 rfl rfl, a6.celli 5 rfl rfl, a6.celli 6 rfl rfl, a6.celli 7 rfl rfl, trivial⟩, ?_⟩
  have h := h ag (w.heap.size) al (Priv.cons b1 a6.lt Priv.nil)
  refine h.mono fun az am h => ?_
  obtain ⟨ab, he, hk, h⟩ := h
  refine ⟨ab, he, ?_⟩
  have a6 := hk.blk a6 (by simp)
  refine bif_of (fun ao => ?_) (fun ao => ?_)
  · have h := h.1 (beq_t ao)
    refine thenW_in fun av aw => ?_
    have ac := (Ext.refl no am).x_drew aw
    have a6 := a6.x_drew aw
    obtain ⟨b2, ad, h⟩ := h
    refine elim_some ad ?_
    obtain ⟨ar, an, ap, ah, h⟩ := h
    refine ⟨ar, an, ap, (ac).cell ah id, ?_⟩
    refine ⟨a0, a5, a7, aa, a9, a3, a4, a2, a1, a8, ⟨a6.celli 0 rfl rfl, a6.celli 1 rfl rfl, a6.celli 2 rfl rfl, a6.celli 3 rfl rfl, a6.celli 4 rfl rfl, a6.celli 5 rfl rfl, a6.celli 6 rfl rfl, a6.celli 7 rfl rfl, trivial⟩, ?_⟩
    refine thenW_in fun ak aj => ?_
    have h := h ak av.heap.size (ac.x_alloc aj) (Blk.of_new aj) (ac).size (size_lt_alloc aj)
    obtain ⟨af, h⟩ := h
    refine ⟨af, ?_⟩
    obtain ⟨aq, au, ae, ai, hr, h⟩ := h
    refine ⟨aq, au, ae, ai, hr, ?_⟩
    refine elim_some ad ?_
    obtain ⟨hcs, h⟩ := h
    refine ⟨hcs, thenW_in fun b0 ay => ?_⟩
    replace h := thenW_out h ay
    exact h
  · have h := h.2 (beq_f ao)
    exact h

theorem cachetteref07_Log_Accept.go (l1 : Option Addr) (o2 : Option Addr) (a0 : Int) (a3 : Int) (a6 : Int) (a9 : Int) (a8 : Int) (a1 : Int) (a4 : Option Addr) (a5 : Nat) (a2 : Nat) (a7 : Int) {R : Value → World → Prop} {w : World} (h : cachetteref07_Log_Accept.N l1 o2 a0 a3 a6 a9 a8 a1 a4 a5 a2 a7 R w) : Calls Try.prog 22 #[.pointer l1, .pointer o2, .agg #[.int .i64 a0, .int .i64 a3, .int .u64 a6, .int .i64 a9, .int .i64 a8, .int .i64 a1, .slice a4 a5 a2, .int .u64 a7]] w fun e w' => ∃ v, e = .returned v ∧ R v w' := cachetteref07_Log_Accept.ok l1 o2 a0 a3 a6 a9 a8 a1 a4 a5 a2 a7 (cachetteref07_Log_Accept.up l1 o2 a0 a3 a6 a9 a8 a1 a4 a5 a2 a7 h)
/-- (*cachetteref07.Log).Issue -/
def cachetteref07_Log_Issue.M (l1 : Option Addr) (o2 : Option Addr) (ey : Int) (lm : Int) (ln : Int) (gh : Int) (fy : Option Addr) (g7 : Nat) (g5 : Nat) (R : Value → World → Prop) (w : World) : Prop :=
 thenW (w.alloc (.cells #[.int .i64 lm, .int .i64 ln] 45)) fun a0 =>
 thenW (a0.alloc (.cells #[.int .i64 0, .int .i64 0, .int .u64 0, .int .i64 0, .int .i64 0, .int .i64 0, .slice none 0 0, .int .u64 0] 47)) fun li =>
 l1.elim False fun lq =>
 ∃ (lo : Option Addr) (kc : Nat) (lp : Nat), li.cell? (lq.add 2) = some (.slice lo kc lp) ∧
 bif decide ((kc : Int) ≥ 200) then (
 canStore li ((blk a0.heap.size).add 0) ∧
 thenW (li.setCell ((blk a0.heap.size).add 0) (.int .i64 0)) fun km =>
 canStore km ((blk a0.heap.size).add 1) ∧
 thenW (km.setCell ((blk a0.heap.size).add 1) (.int .i64 0)) fun l2 =>
 canStore l2 ((blk a0.heap.size).add 2) ∧
 thenW (l2.setCell ((blk a0.heap.size).add 2) (.int .u64 0)) fun ka =>
 canStore ka ((blk a0.heap.size).add 3) ∧
 thenW (ka.setCell ((blk a0.heap.size).add 3) (.int .i64 0)) fun lb =>
 canStore lb ((blk a0.heap.size).add 4) ∧
 thenW (lb.setCell ((blk a0.heap.size).add 4) (.int .i64 0)) fun kx =>
 canStore kx ((blk a0.heap.size).add 5) ∧
 thenW (kx.setCell ((blk a0.heap.size).add 5) (.int .i64 0)) fun kj =>
 canStore kj ((blk a0.heap.size).add 6) ∧
 thenW (kj.setCell ((blk a0.heap.size).add 6) (.slice none 0 0)) fun ko =>
 canStore ko ((blk a0.heap.size).add 7) ∧
 thenW (ko.setCell ((blk a0.heap.size).add 7) (.int .u64 0)) fun k6 =>
 ∃ (ag : Int) (bx : Int) (co : Int) (e4 : Int) (e3 : Int) (bk : Int) (bi : Option Addr) (bl : Nat) (bq : Nat) (ea : Int), cellsAt k6 (blk a0.heap.size) [.int .i64 ag, .int .i64 bx, .int .u64 co, .int .i64 e4, .int .i64 e3, .int .i64 bk, .slice bi bl bq, .int .u64 ea] 0 ∧
 R (.tuple #[.agg #[.int .i64 ag, .int .i64 bx, .int .u64 co, .int .i64 e4, .int .i64 e3, .int .i64 bk, .slice bi bl bq, .int .u64 ea], .int .i64 3]) k6) else (
 thenW (li.drew) fun a3 =>
 l1.elim False fun l0 =>
 ∃ (k4 : Int), a3.cell? (l0.add 0) = some (.int .i64 k4) ∧
 l1.elim False fun ks =>
 ∃ (fr : Option Addr) (eq : Nat) (g2 : Nat), a3.cell? (ks.add 2) = some (.slice fr eq g2) ∧
 ∃ (er : Int) (ep : Int), cellsAt a3 (blk w.heap.size) [.int .i64 er, .int .i64 ep] 0 ∧
 (Calls Try.prog 32 #[.pointer l1, .pointer o2] a3 fun lj a4 => ∃ (ft : Int) (la : Int) (i4 : Int), lj = .returned (.agg #[.int .i64 ft, .int .i64 la, .int .u64 i4]) ∧
 cellsAt a4 (blk w.heap.size) [.int .i64 er, .int .i64 ep] 0 ∧
 a4.cell? (ks.add 2) = some (.slice fr eq g2) ∧
 a4.cell? (l0.add 0) = some (.int .i64 k4) ∧
 thenW (a4.alloc (.cells #[.int .i64 0, .int .i64 0, .int .u64 0, .int .i64 0, .int .i64 0, .int .i64 0, .slice none 0 0, .int .u64 0] 47)) fun fu =>
 cellsAt fu (blk w.heap.size) [.int .i64 er, .int .i64 ep] 0 ∧
 fu.cell? (ks.add 2) = some (.slice fr eq g2) ∧
 fu.cell? (l0.add 0) = some (.int .i64 k4) ∧
 canStore fu ((blk a4.heap.size).add 0) ∧
 thenW (fu.setCell ((blk a4.heap.size).add 0) (.int .i64 k4)) fun k9 =>
 canStore k9 ((blk a4.heap.size).add 1) ∧
 thenW (k9.setCell ((blk a4.heap.size).add 1) (.int .i64 (eq : Int))) fun kp =>
 canStore kp ((blk a4.heap.size).add 2) ∧
 thenW (kp.setCell ((blk a4.heap.size).add 2) (.int .u64 i4)) fun ku =>
 canStore ku ((blk a4.heap.size).add 3) ∧
 thenW (ku.setCell ((blk a4.heap.size).add 3) (.int .i64 er)) fun kv =>
 canStore kv ((blk a4.heap.size).add 4) ∧
 thenW (kv.setCell ((blk a4.heap.size).add 4) (.int .i64 ep)) fun k8 =>
 canStore k8 ((blk a4.heap.size).add 5) ∧
 thenW (k8.setCell ((blk a4.heap.size).add 5) (.int .i64 gh)) fun kq =>
 canStore kq ((blk a4.heap.size).add 6) ∧
 thenW (kq.setCell ((blk a4.heap.size).add 6) (.slice fy g7 g5)) fun kb =>
 canStore kb ((blk a4.heap.size).add 7) ∧
 thenW (kb.setCell ((blk a4.heap.size).add 7) (.int .u64 0)) fun kg =>
 ∃ (d8 : Int) (dv : Int) (fg : Int) (g6 : Int) (gf : Int) (e9 : Int) (ee : Option Addr) (e7 : Nat) (dt : Nat) (gc : Int), cellsAt kg (blk a4.heap.size) [.int .i64 d8, .int .i64 dv, .int .u64 fg, .int .i64 g6, .int .i64 gf, .int .i64 e9, .slice ee e7 dt, .int .u64 gc] 0 ∧
 Calls Try.prog 38 #[.agg #[.int .i64 d8, .int .i64 dv, .int .u64 fg, .int .i64 g6, .int .i64 gf, .int .i64 e9, .slice ee e7 dt, .int .u64 gc]] kg fun lk gn => ∃ (es : Bool), lk = .returned (.bool es) ∧
 bif !es then (
 canStore gn ((blk a0.heap.size).add 0) ∧
 thenW (gn.setCell ((blk a0.heap.size).add 0) (.int .i64 0)) fun ld =>
 canStore ld ((blk a0.heap.size).add 1) ∧
 thenW (ld.setCell ((blk a0.heap.size).add 1) (.int .i64 0)) fun kw =>
 canStore kw ((blk a0.heap.size).add 2) ∧
 thenW (kw.setCell ((blk a0.heap.size).add 2) (.int .u64 0)) fun l7 =>
 canStore l7 ((blk a0.heap.size).add 3) ∧
 thenW (l7.setCell ((blk a0.heap.size).add 3) (.int .i64 0)) fun kf =>
 canStore kf ((blk a0.heap.size).add 4) ∧
 thenW (kf.setCell ((blk a0.heap.size).add 4) (.int .i64 0)) fun l8 =>
 canStore l8 ((blk a0.heap.size).add 5) ∧
 thenW (l8.setCell ((blk a0.heap.size).add 5) (.int .i64 0)) fun lf =>
 canStore lf ((blk a0.heap.size).add 6) ∧
 thenW (lf.setCell ((blk a0.heap.size).add 6) (.slice none 0 0)) fun kr =>
 canStore kr ((blk a0.heap.size).add 7) ∧
 thenW (kr.setCell ((blk a0.heap.size).add 7) (.int .u64 0)) fun l3 =>
 ∃ (b6 : Int) (bf : Int) (cd : Int) (e6 : Int) (e1 : Int) (bb : Int) (bm : Option Addr) (br : Nat) (bc : Nat) (ef : Int), cellsAt l3 (blk a0.heap.size) [.int .i64 b6, .int .i64 bf, .int .u64 cd, .int .i64 e6, .int .i64 e1, .int .i64 bb, .slice bm br bc, .int .u64 ef] 0 ∧
 R (.tuple #[.agg #[.int .i64 b6, .int .i64 bf, .int .u64 cd, .int .i64 e6, .int .i64 e1, .int .i64 bb, .slice bm br bc, .int .u64 ef], .int .i64 1]) l3) else (
 ∃ (kd : Int) (lh : Int), cellsAt gn (blk w.heap.size) [.int .i64 kd, .int .i64 lh] 0 ∧
 Calls Try.prog 39 #[.pointer l1, .agg #[.int .i64 kd, .int .i64 lh]] gn fun ll gm => ∃ (ga : Bool), ll = .returned (.bool ga) ∧
 bif ga then (
 canStore gm ((blk a0.heap.size).add 0) ∧
 thenW (gm.setCell ((blk a0.heap.size).add 0) (.int .i64 0)) fun lg =>
 canStore lg ((blk a0.heap.size).add 1) ∧
 thenW (lg.setCell ((blk a0.heap.size).add 1) (.int .i64 0)) fun k7 =>
 canStore k7 ((blk a0.heap.size).add 2) ∧
 thenW (k7.setCell ((blk a0.heap.size).add 2) (.int .u64 0)) fun l5 =>
 canStore l5 ((blk a0.heap.size).add 3) ∧
 thenW (l5.setCell ((blk a0.heap.size).add 3) (.int .i64 0)) fun ky =>
 canStore ky ((blk a0.heap.size).add 4) ∧
 thenW (ky.setCell ((blk a0.heap.size).add 4) (.int .i64 0)) fun kt =>
 canStore kt ((blk a0.heap.size).add 5) ∧
 thenW (kt.setCell ((blk a0.heap.size).add 5) (.int .i64 0)) fun l9 =>
 canStore l9 ((blk a0.heap.size).add 6) ∧
 thenW (l9.setCell ((blk a0.heap.size).add 6) (.slice none 0 0)) fun l4 =>
 canStore l4 ((blk a0.heap.size).add 7) ∧
 thenW (l4.setCell ((blk a0.heap.size).add 7) (.int .u64 0)) fun le =>
 ∃ (ar : Int) (c0 : Int) (ct : Int) (ec : Int) (eh : Int) (bd : Int) (bh : Option Addr) (ba : Nat) (bu : Nat) (eb : Int), cellsAt le (blk a0.heap.size) [.int .i64 ar, .int .i64 c0, .int .u64 ct, .int .i64 ec, .int .i64 eh, .int .i64 bd, .slice bh ba bu, .int .u64 eb] 0 ∧
 R (.tuple #[.agg #[.int .i64 ar, .int .i64 c0, .int .u64 ct, .int .i64 ec, .int .i64 eh, .int .i64 bd, .slice bh ba bu, .int .u64 eb], .int .i64 2]) le) else (
 ∃ (cu : Int) (ej : Int) (fk : Int) (fh : Int) (ez : Int) (dj : Int) (dn : Option Addr) (cw : Nat) (d0 : Nat) (fl : Int), cellsAt gm (blk a4.heap.size) [.int .i64 cu, .int .i64 ej, .int .u64 fk, .int .i64 fh, .int .i64 ez, .int .i64 dj, .slice dn cw d0, .int .u64 fl] 0 ∧
 Calls Try.prog 40 #[.pointer o2, .int .u64 ey, .agg #[.int .i64 cu, .int .i64 ej, .int .u64 fk, .int .i64 fh, .int .i64 ez, .int .i64 dj, .slice dn cw d0, .int .u64 fl]] gm fun lc a1 => ∃ (ce : Int) (ek : Int) (fj : Int) (gi : Int) (gk : Int) (dy : Int) (dw : Option Addr) (du : Nat) (e2 : Nat) (g3 : Int) (dq : Int), lc = .returned (.tuple #[.agg #[.int .i64 ce, .int .i64 ek, .int .u64 fj, .int .i64 gi, .int .i64 gk, .int .i64 dy, .slice dw du e2, .int .u64 g3], .int .i64 dq]) ∧
 thenW (a1.alloc (.cells #[.int .i64 0, .int .i64 0, .int .u64 0, .int .i64 0, .int .i64 0, .int .i64 0, .slice none 0 0, .int .u64 0] 47)) fun ib =>
 canStore ib ((blk a1.heap.size).add 0) ∧
 thenW (ib.setCell ((blk a1.heap.size).add 0) (.int .i64 ce)) fun jn =>
 canStore jn ((blk a1.heap.size).add 1) ∧
 thenW (jn.setCell ((blk a1.heap.size).add 1) (.int .i64 ek)) fun j6 =>
 canStore j6 ((blk a1.heap.size).add 2) ∧
 thenW (j6.setCell ((blk a1.heap.size).add 2) (.int .u64 fj)) fun jj =>
 canStore jj ((blk a1.heap.size).add 3) ∧
 thenW (jj.setCell ((blk a1.heap.size).add 3) (.int .i64 gi)) fun j7 =>
 canStore j7 ((blk a1.heap.size).add 4) ∧
 thenW (j7.setCell ((blk a1.heap.size).add 4) (.int .i64 gk)) fun ie =>
 canStore ie ((blk a1.heap.size).add 5) ∧
 thenW (ie.setCell ((blk a1.heap.size).add 5) (.int .i64 dy)) fun iw =>
 canStore iw ((blk a1.heap.size).add 6) ∧
 thenW (iw.setCell ((blk a1.heap.size).add 6) (.slice dw du e2)) fun i7 =>
 canStore i7 ((blk a1.heap.size).add 7) ∧
 thenW (i7.setCell ((blk a1.heap.size).add 7) (.int .u64 g3)) fun gl =>
 bif dq != 0 then (
 canStore gl ((blk a0.heap.size).add 0) ∧
 thenW (gl.setCell ((blk a0.heap.size).add 0) (.int .i64 0)) fun ix =>
 canStore ix ((blk a0.heap.size).add 1) ∧
 thenW (ix.setCell ((blk a0.heap.size).add 1) (.int .i64 0)) fun jc =>
 canStore jc ((blk a0.heap.size).add 2) ∧
 thenW (jc.setCell ((blk a0.heap.size).add 2) (.int .u64 0)) fun jg =>
 canStore jg ((blk a0.heap.size).add 3) ∧
 thenW (jg.setCell ((blk a0.heap.size).add 3) (.int .i64 0)) fun gz =>
 canStore gz ((blk a0.heap.size).add 4) ∧
 thenW (gz.setCell ((blk a0.heap.size).add 4) (.int .i64 0)) fun ia =>
 canStore ia ((blk a0.heap.size).add 5) ∧
 thenW (ia.setCell ((blk a0.heap.size).add 5) (.int .i64 0)) fun iu =>
 canStore iu ((blk a0.heap.size).add 6) ∧
 thenW (iu.setCell ((blk a0.heap.size).add 6) (.slice none 0 0)) fun gs =>
 canStore gs ((blk a0.heap.size).add 7) ∧
 thenW (gs.setCell ((blk a0.heap.size).add 7) (.int .u64 0)) fun jb =>
 ∃ (a5 : Int) (ab : Int) (bp : Int) (ca : Int) (cr : Int) (ak : Int) (al : Option Addr) (b7 : Nat) (b4 : Nat) (c3 : Int), cellsAt jb (blk a0.heap.size) [.int .i64 a5, .int .i64 ab, .int .u64 bp, .int .i64 ca, .int .i64 cr, .int .i64 ak, .slice al b7 b4, .int .u64 c3] 0 ∧
 R (.tuple #[.agg #[.int .i64 a5, .int .i64 ab, .int .u64 bp, .int .i64 ca, .int .i64 cr, .int .i64 ak, .slice al b7 b4, .int .u64 c3], .int .i64 dq]) jb) else (
 thenW (gl.drew) fun fo =>
 l1.elim False fun kl =>
 ∃ (g1 : Option Addr) (gd : Nat) (fz : Nat), fo.cell? (kl.add 2) = some (.slice g1 gd fz) ∧
 ∃ (bv : Int) (db : Int) (e5 : Int) (f1 : Int) (ff : Int) (d3 : Int) (cc : Option Addr) (df : Nat) (dk : Nat) (fc : Int), cellsAt fo (blk a1.heap.size) [.int .i64 bv, .int .i64 db, .int .u64 e5, .int .i64 f1, .int .i64 ff, .int .i64 d3, .slice cc df dk, .int .u64 fc] 0 ∧
 thenW (fo.alloc (.cells #[.int .i64 bv, .int .i64 db, .int .u64 e5, .int .i64 f1, .int .i64 ff, .int .i64 d3, .slice cc df dk, .int .u64 fc] 47)) fun io =>
 io.cell? (kl.add 2) = some (.slice g1 gd fz) ∧
 ∃ (iq : Option Addr) (i1 : Nat) (ji : Nat) (g4 : World), (Builtin.append_ #[40, 40] 40 #[.slice g1 gd fz, .slice (some (blk fo.heap.size)) 1 1]).run Try.prog io = .ok (.slice iq i1 ji) g4 ∧
 l1.elim False fun kh =>
 canStore g4 ((kh.add 2).add 0) ∧
 thenW (g4.setCell ((kh.add 2).add 0) (.slice iq i1 ji)) fun gg =>
 ∃ (bw : Int) (da : Int) (eo : Int) (et : Int) (f6 : Int) (dp : Int) (c4 : Option Addr) (dc : Nat) (d2 : Nat) (f8 : Int), cellsAt gg (blk a1.heap.size) [.int .i64 bw, .int .i64 da, .int .u64 eo, .int .i64 et, .int .i64 f6, .int .i64 dp, .slice c4 dc d2, .int .u64 f8] 0 ∧
 canStore gg ((blk a0.heap.size).add 0) ∧
 thenW (gg.setCell ((blk a0.heap.size).add 0) (.int .i64 bw)) fun gp =>
 canStore gp ((blk a0.heap.size).add 1) ∧
 thenW (gp.setCell ((blk a0.heap.size).add 1) (.int .i64 da)) fun jf =>
 canStore jf ((blk a0.heap.size).add 2) ∧
 thenW (jf.setCell ((blk a0.heap.size).add 2) (.int .u64 eo)) fun k3 =>
 canStore k3 ((blk a0.heap.size).add 3) ∧
 thenW (k3.setCell ((blk a0.heap.size).add 3) (.int .i64 et)) fun jo =>
 canStore jo ((blk a0.heap.size).add 4) ∧
 thenW (jo.setCell ((blk a0.heap.size).add 4) (.int .i64 f6)) fun gw =>
 canStore gw ((blk a0.heap.size).add 5) ∧
 thenW (gw.setCell ((blk a0.heap.size).add 5) (.int .i64 dp)) fun j3 =>
 canStore j3 ((blk a0.heap.size).add 6) ∧
 thenW (j3.setCell ((blk a0.heap.size).add 6) (.slice c4 dc d2)) fun j4 =>
 canStore j4 ((blk a0.heap.size).add 7) ∧
 thenW (j4.setCell ((blk a0.heap.size).add 7) (.int .u64 f8)) fun im =>
 ∃ (a9 : Int) (b5 : Int) (bs : Int) (di : Int) (dl : Int) (am : Int) (b3 : Option Addr) (ax : Nat) (aq : Nat) (dd : Int), cellsAt im (blk a0.heap.size) [.int .i64 a9, .int .i64 b5, .int .u64 bs, .int .i64 di, .int .i64 dl, .int .i64 am, .slice b3 ax aq, .int .u64 dd] 0 ∧
 R (.tuple #[.agg #[.int .i64 a9, .int .i64 b5, .int .u64 bs, .int .i64 di, .int .i64 dl, .int .i64 am, .slice b3 ax aq, .int .u64 dd], .int .i64 0]) im)))) ∧
 (thenW (a3.alloc (.cells #[.int .i64 0, .int .i64 0, .int .u64 0, .int .i64 0, .int .i64 0, .int .i64 0, .slice none 0 0, .int .u64 0] 47)) fun ev =>
 cellsAt ev (blk w.heap.size) [.int .i64 er, .int .i64 ep] 0 ∧
 ev.cell? (ks.add 2) = some (.slice fr eq g2) ∧
 ev.cell? (l0.add 0) = some (.int .i64 k4) ∧
 Calls Try.prog 32 #[.pointer l1, .pointer o2] ev fun kn dz => ∃ (fq : Int) (k5 : Int) (g0 : Int), kn = .returned (.agg #[.int .i64 fq, .int .i64 k5, .int .u64 g0]) ∧
 cellsAt dz (blk w.heap.size) [.int .i64 er, .int .i64 ep] 0 ∧
 dz.cell? (ks.add 2) = some (.slice fr eq g2) ∧
 dz.cell? (l0.add 0) = some (.int .i64 k4) ∧
 canStore dz ((blk a3.heap.size).add 0) ∧
 thenW (dz.setCell ((blk a3.heap.size).add 0) (.int .i64 k4)) fun jw =>
 canStore jw ((blk a3.heap.size).add 1) ∧
 thenW (jw.setCell ((blk a3.heap.size).add 1) (.int .i64 (eq : Int))) fun jx =>
 canStore jx ((blk a3.heap.size).add 2) ∧
 thenW (jx.setCell ((blk a3.heap.size).add 2) (.int .u64 g0)) fun gx =>
 canStore gx ((blk a3.heap.size).add 3) ∧
 thenW (gx.setCell ((blk a3.heap.size).add 3) (.int .i64 er)) fun i0 =>
 canStore i0 ((blk a3.heap.size).add 4) ∧
 thenW (i0.setCell ((blk a3.heap.size).add 4) (.int .i64 ep)) fun jl =>
 canStore jl ((blk a3.heap.size).add 5) ∧
 thenW (jl.setCell ((blk a3.heap.size).add 5) (.int .i64 gh)) fun k0 =>
 canStore k0 ((blk a3.heap.size).add 6) ∧
 thenW (k0.setCell ((blk a3.heap.size).add 6) (.slice fy g7 g5)) fun gt =>
 canStore gt ((blk a3.heap.size).add 7) ∧
 thenW (gt.setCell ((blk a3.heap.size).add 7) (.int .u64 0)) fun ja =>
 ∃ (bj : Int) (ck : Int) (ei : Int) (fd : Int) (fa : Int) (cm : Int) (de : Option Addr) (dm : Nat) (cy : Nat) (f0 : Int), cellsAt ja (blk a3.heap.size) [.int .i64 bj, .int .i64 ck, .int .u64 ei, .int .i64 fd, .int .i64 fa, .int .i64 cm, .slice de dm cy, .int .u64 f0] 0 ∧
 Calls Try.prog 38 #[.agg #[.int .i64 bj, .int .i64 ck, .int .u64 ei, .int .i64 fd, .int .i64 fa, .int .i64 cm, .slice de dm cy, .int .u64 f0]] ja fun kz fp => ∃ (en : Bool), kz = .returned (.bool en) ∧
 bif !en then (
 canStore fp ((blk a0.heap.size).add 0) ∧
 thenW (fp.setCell ((blk a0.heap.size).add 0) (.int .i64 0)) fun j2 =>
 canStore j2 ((blk a0.heap.size).add 1) ∧
 thenW (j2.setCell ((blk a0.heap.size).add 1) (.int .i64 0)) fun je =>
 canStore je ((blk a0.heap.size).add 2) ∧
 thenW (je.setCell ((blk a0.heap.size).add 2) (.int .u64 0)) fun ip =>
 canStore ip ((blk a0.heap.size).add 3) ∧
 thenW (ip.setCell ((blk a0.heap.size).add 3) (.int .i64 0)) fun ig =>
 canStore ig ((blk a0.heap.size).add 4) ∧
 thenW (ig.setCell ((blk a0.heap.size).add 4) (.int .i64 0)) fun iv =>
 canStore iv ((blk a0.heap.size).add 5) ∧
 thenW (iv.setCell ((blk a0.heap.size).add 5) (.int .i64 0)) fun jk =>
 canStore jk ((blk a0.heap.size).add 6) ∧
 thenW (jk.setCell ((blk a0.heap.size).add 6) (.slice none 0 0)) fun ij =>
 canStore ij ((blk a0.heap.size).add 7) ∧
 thenW (ij.setCell ((blk a0.heap.size).add 7) (.int .u64 0)) fun i3 =>
 ∃ (a7 : Int) (ao : Int) (c1 : Int) (d4 : Int) (d1 : Int) (b0 : Int) (b1 : Option Addr) (af : Nat) (av : Nat) (ci : Int), cellsAt i3 (blk a0.heap.size) [.int .i64 a7, .int .i64 ao, .int .u64 c1, .int .i64 d4, .int .i64 d1, .int .i64 b0, .slice b1 af av, .int .u64 ci] 0 ∧
 R (.tuple #[.agg #[.int .i64 a7, .int .i64 ao, .int .u64 c1, .int .i64 d4, .int .i64 d1, .int .i64 b0, .slice b1 af av, .int .u64 ci], .int .i64 1]) i3) else (
 ∃ (jv : Int) (jt : Int), cellsAt fp (blk w.heap.size) [.int .i64 jv, .int .i64 jt] 0 ∧
 Calls Try.prog 39 #[.pointer l1, .agg #[.int .i64 jv, .int .i64 jt]] fp fun kk fe => ∃ (f9 : Bool), kk = .returned (.bool f9) ∧
 bif f9 then (
 canStore fe ((blk a0.heap.size).add 0) ∧
 thenW (fe.setCell ((blk a0.heap.size).add 0) (.int .i64 0)) fun i5 =>
 canStore i5 ((blk a0.heap.size).add 1) ∧
 thenW (i5.setCell ((blk a0.heap.size).add 1) (.int .i64 0)) fun ik =>
 canStore ik ((blk a0.heap.size).add 2) ∧
 thenW (ik.setCell ((blk a0.heap.size).add 2) (.int .u64 0)) fun k1 =>
 canStore k1 ((blk a0.heap.size).add 3) ∧
 thenW (k1.setCell ((blk a0.heap.size).add 3) (.int .i64 0)) fun jy =>
 canStore jy ((blk a0.heap.size).add 4) ∧
 thenW (jy.setCell ((blk a0.heap.size).add 4) (.int .i64 0)) fun ir =>
 canStore ir ((blk a0.heap.size).add 5) ∧
 thenW (ir.setCell ((blk a0.heap.size).add 5) (.int .i64 0)) fun gr =>
 canStore gr ((blk a0.heap.size).add 6) ∧
 thenW (gr.setCell ((blk a0.heap.size).add 6) (.slice none 0 0)) fun i6 =>
 canStore i6 ((blk a0.heap.size).add 7) ∧
 thenW (i6.setCell ((blk a0.heap.size).add 7) (.int .u64 0)) fun jp =>
 ∃ (a8 : Int) (ac : Int) (bn : Int) (d9 : Int) (cl : Int) (az : Int) (aj : Option Addr) (an : Nat) (b2 : Nat) (cs : Int), cellsAt jp (blk a0.heap.size) [.int .i64 a8, .int .i64 ac, .int .u64 bn, .int .i64 d9, .int .i64 cl, .int .i64 az, .slice aj an b2, .int .u64 cs] 0 ∧
 R (.tuple #[.agg #[.int .i64 a8, .int .i64 ac, .int .u64 bn, .int .i64 d9, .int .i64 cl, .int .i64 az, .slice aj an b2, .int .u64 cs], .int .i64 2]) jp) else (
 ∃ (be : Int) (cj : Int) (e0 : Int) (f2 : Int) (fm : Int) (cn : Int) (ch : Option Addr) (cf : Nat) (c2 : Nat) (f3 : Int), cellsAt fe (blk a3.heap.size) [.int .i64 be, .int .i64 cj, .int .u64 e0, .int .i64 f2, .int .i64 fm, .int .i64 cn, .slice ch cf c2, .int .u64 f3] 0 ∧
 Calls Try.prog 40 #[.pointer o2, .int .u64 ey, .agg #[.int .i64 be, .int .i64 cj, .int .u64 e0, .int .i64 f2, .int .i64 fm, .int .i64 cn, .slice ch cf c2, .int .u64 f3]] fe fun ki a2 => ∃ (c7 : Int) (ds : Int) (ex : Int) (fx : Int) (gj : Int) (em : Int) (el : Option Addr) (ed : Nat) (e8 : Nat) (fv : Int) (dr : Int), ki = .returned (.tuple #[.agg #[.int .i64 c7, .int .i64 ds, .int .u64 ex, .int .i64 fx, .int .i64 gj, .int .i64 em, .slice el ed e8, .int .u64 fv], .int .i64 dr]) ∧
 thenW (a2.alloc (.cells #[.int .i64 0, .int .i64 0, .int .u64 0, .int .i64 0, .int .i64 0, .int .i64 0, .slice none 0 0, .int .u64 0] 47)) fun i8 =>
 canStore i8 ((blk a2.heap.size).add 0) ∧
 thenW (i8.setCell ((blk a2.heap.size).add 0) (.int .i64 c7)) fun it =>
 canStore it ((blk a2.heap.size).add 1) ∧
 thenW (it.setCell ((blk a2.heap.size).add 1) (.int .i64 ds)) fun j9 =>
 canStore j9 ((blk a2.heap.size).add 2) ∧
 thenW (j9.setCell ((blk a2.heap.size).add 2) (.int .u64 ex)) fun ju =>
 canStore ju ((blk a2.heap.size).add 3) ∧
 thenW (ju.setCell ((blk a2.heap.size).add 3) (.int .i64 fx)) fun iy =>
 canStore iy ((blk a2.heap.size).add 4) ∧
 thenW (iy.setCell ((blk a2.heap.size).add 4) (.int .i64 gj)) fun j5 =>
 canStore j5 ((blk a2.heap.size).add 5) ∧
 thenW (j5.setCell ((blk a2.heap.size).add 5) (.int .i64 em)) fun gu =>
 canStore gu ((blk a2.heap.size).add 6) ∧
 thenW (gu.setCell ((blk a2.heap.size).add 6) (.slice el ed e8)) fun js =>
 canStore js ((blk a2.heap.size).add 7) ∧
 thenW (js.setCell ((blk a2.heap.size).add 7) (.int .u64 fv)) fun gb =>
 bif dr != 0 then (
 canStore gb ((blk a0.heap.size).add 0) ∧
 thenW (gb.setCell ((blk a0.heap.size).add 0) (.int .i64 0)) fun ic =>
 canStore ic ((blk a0.heap.size).add 1) ∧
 thenW (ic.setCell ((blk a0.heap.size).add 1) (.int .i64 0)) fun jd =>
 canStore jd ((blk a0.heap.size).add 2) ∧
 thenW (jd.setCell ((blk a0.heap.size).add 2) (.int .u64 0)) fun ih =>
 canStore ih ((blk a0.heap.size).add 3) ∧
 thenW (ih.setCell ((blk a0.heap.size).add 3) (.int .i64 0)) fun j1 =>
 canStore j1 ((blk a0.heap.size).add 4) ∧
 thenW (j1.setCell ((blk a0.heap.size).add 4) (.int .i64 0)) fun i2 =>
 canStore i2 ((blk a0.heap.size).add 5) ∧
 thenW (i2.setCell ((blk a0.heap.size).add 5) (.int .i64 0)) fun gy =>
 canStore gy ((blk a0.heap.size).add 6) ∧
 thenW (gy.setCell ((blk a0.heap.size).add 6) (.slice none 0 0)) fun jh =>
 canStore jh ((blk a0.heap.size).add 7) ∧
 thenW (jh.setCell ((blk a0.heap.size).add 7) (.int .u64 0)) fun jq =>
 ∃ (aa : Int) (ae : Int) (bz : Int) (cg : Int) (d6 : Int) (b8 : Int) (ai : Option Addr) (ay : Nat) (b9 : Nat) (d7 : Int), cellsAt jq (blk a0.heap.size) [.int .i64 aa, .int .i64 ae, .int .u64 bz, .int .i64 cg, .int .i64 d6, .int .i64 b8, .slice ai ay b9, .int .u64 d7] 0 ∧
 R (.tuple #[.agg #[.int .i64 aa, .int .i64 ae, .int .u64 bz, .int .i64 cg, .int .i64 d6, .int .i64 b8, .slice ai ay b9, .int .u64 d7], .int .i64 dr]) jq) else (
 thenW (gb.drew) fun fi =>
 l1.elim False fun ke =>
 ∃ (ge : Option Addr) (g8 : Nat) (fw : Nat), fi.cell? (ke.add 2) = some (.slice ge g8 fw) ∧
 ∃ (bt : Int) (cv : Int) (eg : Int) (fb : Int) (f5 : Int) (c8 : Int) (c6 : Option Addr) (c9 : Nat) (cz : Nat) (f7 : Int), cellsAt fi (blk a2.heap.size) [.int .i64 bt, .int .i64 cv, .int .u64 eg, .int .i64 fb, .int .i64 f5, .int .i64 c8, .slice c6 c9 cz, .int .u64 f7] 0 ∧
 thenW (fi.alloc (.cells #[.int .i64 bt, .int .i64 cv, .int .u64 eg, .int .i64 fb, .int .i64 f5, .int .i64 c8, .slice c6 c9 cz, .int .u64 f7] 47)) fun ii =>
 ii.cell? (ke.add 2) = some (.slice ge g8 fw) ∧
 ∃ (il : Option Addr) (j8 : Nat) (gv : Nat) (fs : World), (Builtin.append_ #[40, 40] 40 #[.slice ge g8 fw, .slice (some (blk fi.heap.size)) 1 1]).run Try.prog ii = .ok (.slice il j8 gv) fs ∧
 l1.elim False fun l6 =>
 canStore fs ((l6.add 2).add 0) ∧
 thenW (fs.setCell ((l6.add 2).add 0) (.slice il j8 gv)) fun g9 =>
 ∃ (bg : Int) (dh : Int) (dx : Int) (ew : Int) (f4 : Int) (dg : Int) (c5 : Option Addr) (cx : Nat) (cp : Nat) (eu : Int), cellsAt g9 (blk a2.heap.size) [.int .i64 bg, .int .i64 dh, .int .u64 dx, .int .i64 ew, .int .i64 f4, .int .i64 dg, .slice c5 cx cp, .int .u64 eu] 0 ∧
 canStore g9 ((blk a0.heap.size).add 0) ∧
 thenW (g9.setCell ((blk a0.heap.size).add 0) (.int .i64 bg)) fun i9 =>
 canStore i9 ((blk a0.heap.size).add 1) ∧
 thenW (i9.setCell ((blk a0.heap.size).add 1) (.int .i64 dh)) fun k2 =>
 canStore k2 ((blk a0.heap.size).add 2) ∧
 thenW (k2.setCell ((blk a0.heap.size).add 2) (.int .u64 dx)) fun jr =>
 canStore jr ((blk a0.heap.size).add 3) ∧
 thenW (jr.setCell ((blk a0.heap.size).add 3) (.int .i64 ew)) fun jm =>
 canStore jm ((blk a0.heap.size).add 4) ∧
 thenW (jm.setCell ((blk a0.heap.size).add 4) (.int .i64 f4)) fun jz =>
 canStore jz ((blk a0.heap.size).add 5) ∧
 thenW (jz.setCell ((blk a0.heap.size).add 5) (.int .i64 dg)) fun iz =>
 canStore iz ((blk a0.heap.size).add 6) ∧
 thenW (iz.setCell ((blk a0.heap.size).add 6) (.slice c5 cx cp)) fun gq =>
 canStore gq ((blk a0.heap.size).add 7) ∧
 thenW (gq.setCell ((blk a0.heap.size).add 7) (.int .u64 eu)) fun j0 =>
 ∃ (a6 : Int) (au : Int) (bo : Int) (cq : Int) (cb : Int) (aw : Int) (ad : Option Addr) (ap : Nat) (ah : Nat) (d5 : Int), cellsAt j0 (blk a0.heap.size) [.int .i64 a6, .int .i64 au, .int .u64 bo, .int .i64 cq, .int .i64 cb, .int .i64 aw, .slice ad ap ah, .int .u64 d5] 0 ∧
 R (.tuple #[.agg #[.int .i64 a6, .int .i64 au, .int .u64 bo, .int .i64 cq, .int .i64 cb, .int .i64 aw, .slice ad ap ah, .int .u64 d5], .int .i64 0]) j0)))))

theorem cachetteref07_Log_Issue.eq (l1 : Option Addr) (o2 : Option Addr) (secret3 : Int) (atT4 : Int) (atW5 : Int) (epoch6 : Int) (body7a : Option Addr) (body7n : Nat) (body7c : Nat) (R : Value → World → Prop) (w : World) : mfunc Try.prog [] 16 [.pointer l1, .pointer o2, .int .u64 secret3, .agg #[.int .i64 atT4, .int .i64 atW5], .int .i64 epoch6, .slice body7a body7n body7c] R w = cachetteref07_Log_Issue.M l1 o2 secret3 atT4 atW5 epoch6 body7a body7n body7c R w := by kernel_rfl
theorem cachetteref07_Log_Issue.ok (l1 : Option Addr) (o2 : Option Addr) (a0 : Int) (a5 : Int) (a6 : Int) (a3 : Int) (a4 : Option Addr) (a2 : Nat) (a1 : Nat) {R : Value → World → Prop} {w : World} (h : cachetteref07_Log_Issue.M l1 o2 a0 a5 a6 a3 a4 a2 a1 R w) : Calls Try.prog 16 #[.pointer l1, .pointer o2, .int .u64 a0, .agg #[.int .i64 a5, .int .i64 a6], .int .i64 a3, .slice a4 a2 a1] w fun e w' => ∃ v, e = .returned v ∧ R v w' :=
  mfunc_ok follows (H := []) (args := [.pointer l1, .pointer o2, .int .u64 a0, .agg #[.int .i64 a5, .int .i64 a6], .int .i64 a3, .slice a4 a2 a1]) (by rw [cachetteref07_Log_Issue.eq]; exact h)

def cachetteref07_Log_Issue.N (l1 : Option Addr) (o2 : Option Addr) (ay : Int) (an : Int) (ao : Int) (a3 : Int) (a2 : Option Addr) (a1 : Nat) (a0 : Nat) (R : Value → World → Prop) (w : World) : Prop :=
 ∃ am : Addr, l1 = some am ∧
 ∃ (cn : Option Addr) (c0 : Nat) (ck : Nat), w.cell? (am.add 2) = some (.slice cn c0 ck) ∧
 ((c0 : Int) ≥ 200 →
 ∀ (c9 : World), Ext no w c9 →
 R (.tuple #[.agg #[.int .i64 0, .int .i64 0, .int .u64 0, .int .i64 0, .int .i64 0, .int .i64 0, .slice none 0 0, .int .u64 0], .int .i64 3]) c9) ∧
 ((c0 : Int) < 200 →
 ∃ (bm : Int), w.cell? (am.add 0) = some (.int .i64 bm) ∧
 ∃ (c4 : Option Addr) (ac : Nat) (c2 : Nat), w.cell? (am.add 2) = some (.slice c4 ac c2) ∧
 (∀ (bp : World) (cp : Nat) (b0 : Nat), Ext no w bp → Priv w bp [cp, b0] →
 Calls Try.prog 32 #[.pointer l1, .pointer o2] bp fun cm az => ∃ (bj : Int) (c8 : Int) (aw : Int), cm = .returned (.agg #[.int .i64 bj, .int .i64 c8, .int .u64 aw]) ∧
 Keep [cp, b0] bp az ∧
 az.cell? (am.add 2) = some (.slice c4 ac c2) ∧
 az.cell? (am.add 0) = some (.int .i64 bm) ∧
 ((cachetteref06_Right.F bm (ac : Int) aw an ao a3 a2 a1 a0 0) = false →
 ∀ (c7 : World), Ext (fun b => b = b0) az c7 →
 R (.tuple #[.agg #[.int .i64 0, .int .i64 0, .int .u64 0, .int .i64 0, .int .i64 0, .int .i64 0, .slice none 0 0, .int .u64 0], .int .i64 1]) c7) ∧
 ((cachetteref06_Right.F bm (ac : Int) aw an ao a3 a2 a1 a0 0) = true →
 ∀ (bl : World) (cq : Nat), Ext no az bl → Priv az bl [cq] →
 Calls Try.prog 39 #[.pointer l1, .agg #[.int .i64 an, .int .i64 ao]] bl fun co bq => ∃ (au : Bool), co = .returned (.bool au) ∧
 Keep [b0, cq] bl bq ∧
 (au = true →
 ∀ (cd : World), Ext (fun b => b = b0) bq cd →
 R (.tuple #[.agg #[.int .i64 0, .int .i64 0, .int .u64 0, .int .i64 0, .int .i64 0, .int .i64 0, .slice none 0 0, .int .u64 0], .int .i64 2]) cd) ∧
 (au = false →
 Calls Try.prog 40 #[.pointer o2, .int .u64 ay, .agg #[.int .i64 bm, .int .i64 (ac : Int), .int .u64 aw, .int .i64 an, .int .i64 ao, .int .i64 a3, .slice a2 a1 a0, .int .u64 0]] bq fun ch b1 => ∃ (a4 : Int) (ad : Int) (ap : Int) (bh : Int) (be : Int) (af : Int) (aj : Option Addr) (ah : Nat) (ag : Nat) (bb : Int) (a9 : Int), ch = .returned (.tuple #[.agg #[.int .i64 a4, .int .i64 ad, .int .u64 ap, .int .i64 bh, .int .i64 be, .int .i64 af, .slice aj ah ag, .int .u64 bb], .int .i64 a9]) ∧
 Keep [b0] bq b1 ∧
 (a9 ≠ 0 →
 ∀ (ce : World), Ext (fun b => b = b0) b1 ce →
 R (.tuple #[.agg #[.int .i64 0, .int .i64 0, .int .u64 0, .int .i64 0, .int .i64 0, .int .i64 0, .slice none 0 0, .int .u64 0], .int .i64 a9]) ce) ∧
 (a9 = 0 →
 ∃ (bi : Option Addr) (bd : Nat) (b9 : Nat), b1.cell? (am.add 2) = some (.slice bi bd b9) ∧
 ∀ (a8 : World) (bg : Nat) (c1 : Nat), Ext no b1 a8 → Blk a8 bg 47 [.int .i64 a4, .int .i64 ad, .int .u64 ap, .int .i64 bh, .int .i64 be, .int .i64 af, .slice aj ah ag, .int .u64 bb] → b1.heap.size ≤ bg → bg < a8.heap.size → Privq b1 bg [c1] →
 a8.cell? (am.add 2) = some (.slice bi bd b9) ∧
 ∃ (bv : Option Addr) (bs : Nat) (bx : Nat) (a7 : World), (Builtin.append_ #[40, 40] 40 #[.slice bi bd b9, .slice (some (blk bg)) 1 1]).run Try.prog a8 = .ok (.slice bv bs bx) a7 ∧
 Keep [b0, c1] a8 a7 ∧
 canStore a7 ((am.add 2).add 0) ∧
 (∀ p ∈ [b0, c1], p ≠ Addr.block (am.add 2)) ∧
 thenW (a7.setCell ((am.add 2).add 0) (.slice bv bs bx)) fun c6 =>
 ∀ (bt : World), Ext (fun b => b = b0) c6 bt →
 R (.tuple #[.agg #[.int .i64 a4, .int .i64 ad, .int .u64 ap, .int .i64 bh, .int .i64 be, .int .i64 af, .slice aj ah ag, .int .u64 bb], .int .i64 0]) bt)))) ∧
 (∀ (bn : World) (b0 : Nat) (bk : Nat) (cc : Nat), Ext no w bn → Priv w bn [b0, bk, cc] →
 Calls Try.prog 32 #[.pointer l1, .pointer o2] bn fun cl b4 => ∃ (ba : Int) (cb : Int) (ax : Int), cl = .returned (.agg #[.int .i64 ba, .int .i64 cb, .int .u64 ax]) ∧
 Keep [b0, bk, cc] bn b4 ∧
 b4.cell? (am.add 2) = some (.slice c4 ac c2) ∧
 b4.cell? (am.add 0) = some (.int .i64 bm) ∧
 ((cachetteref06_Right.F bm (ac : Int) ax an ao a3 a2 a1 a0 0) = false →
 ∀ (ca : World), Ext (fun b => b = bk ∨ b = cc) b4 ca →
 R (.tuple #[.agg #[.int .i64 0, .int .i64 0, .int .u64 0, .int .i64 0, .int .i64 0, .int .i64 0, .slice none 0 0, .int .u64 0], .int .i64 1]) ca) ∧
 ((cachetteref06_Right.F bm (ac : Int) ax an ao a3 a2 a1 a0 0) = true →
 ∀ (c3 : World), Ext (fun b => b = cc) b4 c3 →
 Calls Try.prog 39 #[.pointer l1, .agg #[.int .i64 an, .int .i64 ao]] c3 fun cj bo => ∃ (aq : Bool), cj = .returned (.bool aq) ∧
 Keep [bk, cc] c3 bo ∧
 (aq = true →
 ∀ (cg : World), Ext (fun b => b = bk) bo cg →
 R (.tuple #[.agg #[.int .i64 0, .int .i64 0, .int .u64 0, .int .i64 0, .int .i64 0, .int .i64 0, .slice none 0 0, .int .u64 0], .int .i64 2]) cg) ∧
 (aq = false →
 Calls Try.prog 40 #[.pointer o2, .int .u64 ay, .agg #[.int .i64 bm, .int .i64 (ac : Int), .int .u64 ax, .int .i64 an, .int .i64 ao, .int .i64 a3, .slice a2 a1 a0, .int .u64 0]] bo fun ci b2 => ∃ (a5 : Int) (aa : Int) (ar : Int) (b8 : Int) (bc : Int) (ak : Int) (ai : Option Addr) (al : Nat) (ae : Nat) (b6 : Int) (ab : Int), ci = .returned (.tuple #[.agg #[.int .i64 a5, .int .i64 aa, .int .u64 ar, .int .i64 b8, .int .i64 bc, .int .i64 ak, .slice ai al ae, .int .u64 b6], .int .i64 ab]) ∧
 Keep [bk] bo b2 ∧
 (ab ≠ 0 →
 ∀ (cf : World), Ext (fun b => b = bk) b2 cf →
 R (.tuple #[.agg #[.int .i64 0, .int .i64 0, .int .u64 0, .int .i64 0, .int .i64 0, .int .i64 0, .slice none 0 0, .int .u64 0], .int .i64 ab]) cf) ∧
 (ab = 0 →
 ∃ (bf : Option Addr) (b7 : Nat) (b3 : Nat), b2.cell? (am.add 2) = some (.slice bf b7 b3) ∧
 ∀ (a6 : World) (b5 : Nat) (c5 : Nat), Ext no b2 a6 → Blk a6 b5 47 [.int .i64 a5, .int .i64 aa, .int .u64 ar, .int .i64 b8, .int .i64 bc, .int .i64 ak, .slice ai al ae, .int .u64 b6] → b2.heap.size ≤ b5 → b5 < a6.heap.size → Privq b2 b5 [c5] →
 a6.cell? (am.add 2) = some (.slice bf b7 b3) ∧
 ∃ (bw : Option Addr) (bu : Nat) (br : Nat) (av : World), (Builtin.append_ #[40, 40] 40 #[.slice bf b7 b3, .slice (some (blk b5)) 1 1]).run Try.prog a6 = .ok (.slice bw bu br) av ∧
 Keep [bk, c5] a6 av ∧
 canStore av ((am.add 2).add 0) ∧
 (∀ p ∈ [bk, c5], p ≠ Addr.block (am.add 2)) ∧
 thenW (av.setCell ((am.add 2).add 0) (.slice bw bu br)) fun a7 =>
 ∀ (bz : World), Ext (fun b => b = bk) a7 bz →
 R (.tuple #[.agg #[.int .i64 a5, .int .i64 aa, .int .u64 ar, .int .i64 b8, .int .i64 bc, .int .i64 ak, .slice ai al ae, .int .u64 b6], .int .i64 0]) bz)))))

theorem cachetteref07_Log_Issue.up (l1 : Option Addr) (o2 : Option Addr) (bc : Int) (ao : Int) (b0 : Int) (ad : Int) (ae : Option Addr) (ag : Nat) (af : Nat) {R : Value → World → Prop} {w : World} (h : cachetteref07_Log_Issue.N l1 o2 bc ao b0 ad ae ag af R w) : cachetteref07_Log_Issue.M l1 o2 bc ao b0 ad ae ag af R w := by
  unfold cachetteref07_Log_Issue.M
  unfold cachetteref07_Log_Issue.N at h
  refine thenW_in fun a1 e8 => ?_
  have aa := Blk.of_new e8
  have ju := ((Ext.refl no w)).size
  have jq := (Ext.refl no w).x_alloc e8
  refine thenW_in fun kc e9 => ?_
  have a0 := Blk.of_new e9
  have c8 := (jq).size
  have k1 := Nat.ne_of_lt aa.lt
  have aa := aa.x_alloc e9
  have ip := jq.x_alloc e9
  obtain ⟨kd, bb, h⟩ := h
  refine elim_some bb ?_
  obtain ⟨iu, i1, jj, ic, h⟩ := h
  refine ⟨iu, i1, jj, (ip).cell ic id, ?_⟩
  refine bif_of (fun j3 => ?_) (fun j3 => ?_)
  · have h := h.1 (of_decide_eq_true j3)
    refine ⟨a0.cani 0 rfl rfl, thenW_in fun ie jx => ?_⟩
    have i6 := ip.x_set (q := a1.heap.size) (i := 0) rfl (.inr c8) jx
    have a0 : Blk ie a1.heap.size 47 [.int .i64 0, .int .i64 0, .int .u64 0, .int .i64 0, .int .i64 0, .int .i64 0, .slice none 0 0, .int .u64 0] := a0.seti 0 rfl jx
    refine ⟨a0.cani 1 rfl rfl, thenW_in fun jg k0 => ?_⟩
    have ji := i6.x_set (q := a1.heap.size) (i := 1) rfl (.inr c8) k0
    have a0 : Blk jg a1.heap.size 47 [.int .i64 0, .int .i64 0, .int .u64 0, .int .i64 0, .int .i64 0, .int .i64 0, .slice none 0 0, .int .u64 0] := a0.seti 1 rfl k0
    refine ⟨a0.cani 2 rfl rfl, thenW_in fun j5 jv => ?_⟩
    have ir := ji.x_set (q := a1.heap.size) (i := 2) rfl (.inr c8) jv
    have a0 : Blk j5 a1.heap.size 47 [.int .i64 0, .int .i64 0, .int .u64 0, .int .i64 0, .int .i64 0, .int .i64 0, .slice none 0 0, .int .u64 0] := a0.seti 2 rfl jv
    refine ⟨a0.cani 3 rfl rfl, thenW_in fun it jy => ?_⟩
    have iv := ir.x_set (q := a1.heap.size) (i := 3) rfl (.inr c8) jy
    have a0 : Blk it a1.heap.size 47 [.int .i64 0, .int .i64 0, .int .u64 0, .int .i64 0, .int .i64 0, .int .i64 0, .slice none 0 0, .int .u64 0] := a0.seti 3 rfl jy
    refine ⟨a0.cani 4 rfl rfl, thenW_in fun iy jz => ?_⟩
    have jc := iv.x_set (q := a1.heap.size) (i := 4) rfl (.inr c8) jz
    have a0 : Blk iy a1.heap.size 47 [.int .i64 0, .int .i64 0, .int .u64 0, .int .i64 0, .int .i64 0, .int .i64 0, .slice none 0 0, .int .u64 0] := a0.seti 4 rfl jz
    refine ⟨a0.cani 5 rfl rfl, thenW_in fun i5 jp => ?_⟩
    have jh := jc.x_set (q := a1.heap.size) (i := 5) rfl (.inr c8) jp
    have a0 : Blk i5 a1.heap.size 47 [.int .i64 0, .int .i64 0, .int .u64 0, .int .i64 0, .int .i64 0, .int .i64 0, .slice none 0 0, .int .u64 0] := a0.seti 5 rfl jp
    refine ⟨a0.cani 6 rfl rfl, thenW_in fun iz k3 => ?_⟩
    have jd := jh.x_set (q := a1.heap.size) (i := 6) rfl (.inr c8) k3
    have a0 : Blk iz a1.heap.size 47 [.int .i64 0, .int .i64 0, .int .u64 0, .int .i64 0, .int .i64 0, .int .i64 0, .slice none 0 0, .int .u64 0] := a0.seti 6 rfl k3
    refine ⟨a0.cani 7 rfl rfl, thenW_in fun gq jt => ?_⟩
    have j4 := jd.x_set (q := a1.heap.size) (i := 7) rfl (.inr c8) jt
    have a0 : Blk gq a1.heap.size 47 [.int .i64 0, .int .i64 0, .int .u64 0, .int .i64 0, .int .i64 0, .int .i64 0, .slice none 0 0, .int .u64 0] := a0.seti 7 rfl jt
    refine ⟨0, 0, 0, 0, 0, 0, none, 0, 0, 0, ⟨a0.celli 0 rfl rfl, a0.celli 1 rfl rfl, a0.celli 2 rfl rfl, a0.celli 3 rfl rfl, a0.celli 4 rfl rfl, a0.celli 5 rfl rfl, a0.celli 6 rfl rfl, a0.celli 7 rfl rfl, trivial⟩, ?_⟩
    have h := h gq j4
    exact h
  · have h := h.2 (Int.not_le.1 (of_decide_eq_false j3))
    refine thenW_in fun a9 j0 => ?_
    have c0 := ip.x_drew j0
    have aa := aa.x_drew j0
    have a0 := a0.x_drew j0
    refine elim_some bb ?_
    obtain ⟨b5, gk, h⟩ := h
    refine ⟨b5, (c0).cell gk id, ?_⟩
    refine elim_some bb ?_
    obtain ⟨i9, ap, j2, fu, h⟩ := h
    refine ⟨i9, ap, j2, (c0).cell fu id, ?_⟩
    refine ⟨ao, b0, ⟨aa.celli 0 rfl rfl, aa.celli 1 rfl rfl, trivial⟩, ?_⟩
    obtain ⟨h0', h1'⟩ := h
    refine ⟨?_, ?_⟩
    · have h := h0'
      have h := h a9 (w.heap.size) (a1.heap.size) c0 (Priv.cons ju aa.lt (Priv.cons c8 a0.lt Priv.nil))
      refine h.mono fun kb a8 h => ?_
      obtain ⟨bs, g1, b4, he, hk, h⟩ := h
      refine ⟨bs, g1, b4, he, ?_⟩
      have aa := hk.blk aa (by simp)
      have a0 := hk.blk a0 (by simp)
      obtain ⟨fr, fx, h⟩ := h
      refine ⟨⟨aa.celli 0 rfl rfl, aa.celli 1 rfl rfl, trivial⟩, fr, fx, ?_⟩
      refine thenW_in fun k7 i0 => ?_
      have a7 := Blk.of_new i0
      have bk := ((Ext.refl no a8)).size
      have al := Nat.ne_of_lt aa.lt
      have aa := aa.x_alloc i0
      have am := Nat.ne_of_lt a0.lt
      have a0 := a0.x_alloc i0
      have dh := (Ext.refl no a8).x_alloc i0
      refine ⟨⟨aa.celli 0 rfl rfl, aa.celli 1 rfl rfl, trivial⟩, (dh).cell fr id, (dh).cell fx id, ?_⟩
      refine ⟨a7.cani 0 rfl rfl, thenW_in fun ik gx => ?_⟩
      have io := dh.x_set (q := a8.heap.size) (i := 0) rfl (.inr bk) gx
      have aa := aa.oth (q := a8.heap.size) (i := 0) rfl al gx
      have a0 := a0.oth (q := a8.heap.size) (i := 0) rfl am gx
      have a7 : Blk ik a8.heap.size 47 [.int .i64 b5, .int .i64 0, .int .u64 0, .int .i64 0, .int .i64 0, .int .i64 0, .slice none 0 0, .int .u64 0] := a7.seti 0 rfl gx
      refine ⟨a7.cani 1 rfl rfl, thenW_in fun cw ca => ?_⟩
      have ds := io.x_set (q := a8.heap.size) (i := 1) rfl (.inr bk) ca
      have aa := aa.oth (q := a8.heap.size) (i := 1) rfl al ca
      have a0 := a0.oth (q := a8.heap.size) (i := 1) rfl am ca
      have a7 : Blk cw a8.heap.size 47 [.int .i64 b5, .int .i64 (ap : Int), .int .u64 0, .int .i64 0, .int .i64 0, .int .i64 0, .slice none 0 0, .int .u64 0] := a7.seti 1 rfl ca
      refine ⟨a7.cani 2 rfl rfl, thenW_in fun da cj => ?_⟩
      have dl := ds.x_set (q := a8.heap.size) (i := 2) rfl (.inr bk) cj
      have aa := aa.oth (q := a8.heap.size) (i := 2) rfl al cj
      have a0 := a0.oth (q := a8.heap.size) (i := 2) rfl am cj
      have a7 : Blk da a8.heap.size 47 [.int .i64 b5, .int .i64 (ap : Int), .int .u64 b4, .int .i64 0, .int .i64 0, .int .i64 0, .slice none 0 0, .int .u64 0] := a7.seti 2 rfl cj
      refine ⟨a7.cani 3 rfl rfl, thenW_in fun dw ck => ?_⟩
      have ei := dl.x_set (q := a8.heap.size) (i := 3) rfl (.inr bk) ck
      have aa := aa.oth (q := a8.heap.size) (i := 3) rfl al ck
      have a0 := a0.oth (q := a8.heap.size) (i := 3) rfl am ck
      have a7 : Blk dw a8.heap.size 47 [.int .i64 b5, .int .i64 (ap : Int), .int .u64 b4, .int .i64 ao, .int .i64 0, .int .i64 0, .slice none 0 0, .int .u64 0] := a7.seti 3 rfl ck
      refine ⟨a7.cani 4 rfl rfl, thenW_in fun e4 cn => ?_⟩
      have db := ei.x_set (q := a8.heap.size) (i := 4) rfl (.inr bk) cn
      have aa := aa.oth (q := a8.heap.size) (i := 4) rfl al cn
      have a0 := a0.oth (q := a8.heap.size) (i := 4) rfl am cn
      have a7 : Blk e4 a8.heap.size 47 [.int .i64 b5, .int .i64 (ap : Int), .int .u64 b4, .int .i64 ao, .int .i64 b0, .int .i64 0, .slice none 0 0, .int .u64 0] := a7.seti 4 rfl cn
      refine ⟨a7.cani 5 rfl rfl, thenW_in fun eb cm => ?_⟩
      have de := db.x_set (q := a8.heap.size) (i := 5) rfl (.inr bk) cm
      have aa := aa.oth (q := a8.heap.size) (i := 5) rfl al cm
      have a0 := a0.oth (q := a8.heap.size) (i := 5) rfl am cm
      have a7 : Blk eb a8.heap.size 47 [.int .i64 b5, .int .i64 (ap : Int), .int .u64 b4, .int .i64 ao, .int .i64 b0, .int .i64 ad, .slice none 0 0, .int .u64 0] := a7.seti 5 rfl cm
      refine ⟨a7.cani 6 rfl rfl, thenW_in fun d8 cb => ?_⟩
      have dm := de.x_set (q := a8.heap.size) (i := 6) rfl (.inr bk) cb
      have aa := aa.oth (q := a8.heap.size) (i := 6) rfl al cb
      have a0 := a0.oth (q := a8.heap.size) (i := 6) rfl am cb
      have a7 : Blk d8 a8.heap.size 47 [.int .i64 b5, .int .i64 (ap : Int), .int .u64 b4, .int .i64 ao, .int .i64 b0, .int .i64 ad, .slice ae ag af, .int .u64 0] := a7.seti 6 rfl cb
      refine ⟨a7.cani 7 rfl rfl, thenW_in fun dx ch => ?_⟩
      have d9 := dm.x_set (q := a8.heap.size) (i := 7) rfl (.inr bk) ch
      have aa := aa.oth (q := a8.heap.size) (i := 7) rfl al ch
      have a0 := a0.oth (q := a8.heap.size) (i := 7) rfl am ch
      have a7 : Blk dx a8.heap.size 47 [.int .i64 b5, .int .i64 (ap : Int), .int .u64 b4, .int .i64 ao, .int .i64 b0, .int .i64 ad, .slice ae ag af, .int .u64 0] := a7.seti 7 rfl ch
      refine ⟨b5, (ap : Int), b4, ao, b0, ad, ae, ag, af, 0, ⟨a7.celli 0 rfl rfl, a7.celli 1 rfl rfl, a7.celli 2 rfl rfl, a7.celli 3 rfl rfl, a7.celli 4 rfl rfl, a7.celli 5 rfl rfl, a7.celli 6 rfl rfl, a7.celli 7 rfl rfl, trivial⟩, ?_⟩
      refine (cachetteref06_Right.pure b5 (ap : Int) b4 ao b0 ad ae ag af 0).mono fun ee cc ⟨he, hxx⟩ => ⟨(cachetteref06_Right.F b5 (ap : Int) b4 ao b0 ad ae ag af 0), he, ?_⟩
      have ci := d9.trans hxx
      have aa := aa.ext hxx id
      have a0 := a0.ext hxx id
      have a7 := a7.ext hxx id
      refine bif_of (fun j7 => ?_) (fun j7 => ?_)
      · have h := h.1 (not_t j7)
        have ij : Ext (fun b => b = a1.heap.size) a8 cc := (ci).none
        refine ⟨a0.cani 0 rfl rfl, thenW_in fun je k2 => ?_⟩
        have iq := ij.x_set (q := a1.heap.size) (i := 0) rfl (.inl rfl) k2
        have a0 : Blk je a1.heap.size 47 [.int .i64 0, .int .i64 0, .int .u64 0, .int .i64 0, .int .i64 0, .int .i64 0, .slice none 0 0, .int .u64 0] := a0.seti 0 rfl k2
        refine ⟨a0.cani 1 rfl rfl, thenW_in fun f1 gv => ?_⟩
        have ej := iq.x_set (q := a1.heap.size) (i := 1) rfl (.inl rfl) gv
        have a0 : Blk f1 a1.heap.size 47 [.int .i64 0, .int .i64 0, .int .u64 0, .int .i64 0, .int .i64 0, .int .i64 0, .slice none 0 0, .int .u64 0] := a0.seti 1 rfl gv
        refine ⟨a0.cani 2 rfl rfl, thenW_in fun ef gi => ?_⟩
        have dv := ej.x_set (q := a1.heap.size) (i := 2) rfl (.inl rfl) gi
        have a0 : Blk ef a1.heap.size 47 [.int .i64 0, .int .i64 0, .int .u64 0, .int .i64 0, .int .i64 0, .int .i64 0, .slice none 0 0, .int .u64 0] := a0.seti 2 rfl gi
        refine ⟨a0.cani 3 rfl rfl, thenW_in fun ct f9 => ?_⟩
        have dd := dv.x_set (q := a1.heap.size) (i := 3) rfl (.inl rfl) f9
        have a0 : Blk ct a1.heap.size 47 [.int .i64 0, .int .i64 0, .int .u64 0, .int .i64 0, .int .i64 0, .int .i64 0, .slice none 0 0, .int .u64 0] := a0.seti 3 rfl f9
        refine ⟨a0.cani 4 rfl rfl, thenW_in fun eu g3 => ?_⟩
        have dp := dd.x_set (q := a1.heap.size) (i := 4) rfl (.inl rfl) g3
        have a0 : Blk eu a1.heap.size 47 [.int .i64 0, .int .i64 0, .int .u64 0, .int .i64 0, .int .i64 0, .int .i64 0, .slice none 0 0, .int .u64 0] := a0.seti 4 rfl g3
        refine ⟨a0.cani 5 rfl rfl, thenW_in fun e5 ga => ?_⟩
        have f3 := dp.x_set (q := a1.heap.size) (i := 5) rfl (.inl rfl) ga
        have a0 : Blk e5 a1.heap.size 47 [.int .i64 0, .int .i64 0, .int .u64 0, .int .i64 0, .int .i64 0, .int .i64 0, .slice none 0 0, .int .u64 0] := a0.seti 5 rfl ga
        refine ⟨a0.cani 6 rfl rfl, thenW_in fun er fv => ?_⟩
        have cp := f3.x_set (q := a1.heap.size) (i := 6) rfl (.inl rfl) fv
        have a0 : Blk er a1.heap.size 47 [.int .i64 0, .int .i64 0, .int .u64 0, .int .i64 0, .int .i64 0, .int .i64 0, .slice none 0 0, .int .u64 0] := a0.seti 6 rfl fv
        refine ⟨a0.cani 7 rfl rfl, thenW_in fun cf g4 => ?_⟩
        have dn := cp.x_set (q := a1.heap.size) (i := 7) rfl (.inl rfl) g4
        have a0 : Blk cf a1.heap.size 47 [.int .i64 0, .int .i64 0, .int .u64 0, .int .i64 0, .int .i64 0, .int .i64 0, .slice none 0 0, .int .u64 0] := a0.seti 7 rfl g4
        refine ⟨0, 0, 0, 0, 0, 0, none, 0, 0, 0, ⟨a0.celli 0 rfl rfl, a0.celli 1 rfl rfl, a0.celli 2 rfl rfl, a0.celli 3 rfl rfl, a0.celli 4 rfl rfl, a0.celli 5 rfl rfl, a0.celli 6 rfl rfl, a0.celli 7 rfl rfl, trivial⟩, ?_⟩
        have h := h cf dn
        exact h
      · have h := h.2 (not_f j7)
        refine ⟨ao, b0, ⟨aa.celli 0 rfl rfl, aa.celli 1 rfl rfl, trivial⟩, ?_⟩
        have h := h cc (a8.heap.size) ci (Priv.cons bk a7.lt Priv.nil)
        refine h.mono fun k9 ec h => ?_
        obtain ⟨ek, he, hk, h⟩ := h
        refine ⟨ek, he, ?_⟩
        have a0 := hk.blk a0 (by simp)
        have a7 := hk.blk a7 (by simp)
        refine bif_of (fun im => ?_) (fun im => ?_)
        · have h := h.1 im
          have ig : Ext (fun b => b = a1.heap.size) ec ec := ((Ext.refl no ec)).none
          refine ⟨a0.cani 0 rfl rfl, thenW_in fun dk fl => ?_⟩
          have d7 := ig.x_set (q := a1.heap.size) (i := 0) rfl (.inl rfl) fl
          have a0 : Blk dk a1.heap.size 47 [.int .i64 0, .int .i64 0, .int .u64 0, .int .i64 0, .int .i64 0, .int .i64 0, .slice none 0 0, .int .u64 0] := a0.seti 0 rfl fl
          refine ⟨a0.cani 1 rfl rfl, thenW_in fun et fz => ?_⟩
          have dz := d7.x_set (q := a1.heap.size) (i := 1) rfl (.inl rfl) fz
          have a0 : Blk et a1.heap.size 47 [.int .i64 0, .int .i64 0, .int .u64 0, .int .i64 0, .int .i64 0, .int .i64 0, .slice none 0 0, .int .u64 0] := a0.seti 1 rfl fz
          refine ⟨a0.cani 2 rfl rfl, thenW_in fun f2 gf => ?_⟩
          have di := dz.x_set (q := a1.heap.size) (i := 2) rfl (.inl rfl) gf
          have a0 : Blk f2 a1.heap.size 47 [.int .i64 0, .int .i64 0, .int .u64 0, .int .i64 0, .int .i64 0, .int .i64 0, .slice none 0 0, .int .u64 0] := a0.seti 2 rfl gf
          refine ⟨a0.cani 3 rfl rfl, thenW_in fun dy g5 => ?_⟩
          have en := di.x_set (q := a1.heap.size) (i := 3) rfl (.inl rfl) g5
          have a0 : Blk dy a1.heap.size 47 [.int .i64 0, .int .i64 0, .int .u64 0, .int .i64 0, .int .i64 0, .int .i64 0, .slice none 0 0, .int .u64 0] := a0.seti 3 rfl g5
          refine ⟨a0.cani 4 rfl rfl, thenW_in fun el gw => ?_⟩
          have ea := en.x_set (q := a1.heap.size) (i := 4) rfl (.inl rfl) gw
          have a0 : Blk el a1.heap.size 47 [.int .i64 0, .int .i64 0, .int .u64 0, .int .i64 0, .int .i64 0, .int .i64 0, .slice none 0 0, .int .u64 0] := a0.seti 4 rfl gw
          refine ⟨a0.cani 5 rfl rfl, thenW_in fun d2 fi => ?_⟩
          have d4 := ea.x_set (q := a1.heap.size) (i := 5) rfl (.inl rfl) fi
          have a0 : Blk d2 a1.heap.size 47 [.int .i64 0, .int .i64 0, .int .u64 0, .int .i64 0, .int .i64 0, .int .i64 0, .slice none 0 0, .int .u64 0] := a0.seti 5 rfl fi
          refine ⟨a0.cani 6 rfl rfl, thenW_in fun cl gp => ?_⟩
          have cv := d4.x_set (q := a1.heap.size) (i := 6) rfl (.inl rfl) gp
          have a0 : Blk cl a1.heap.size 47 [.int .i64 0, .int .i64 0, .int .u64 0, .int .i64 0, .int .i64 0, .int .i64 0, .slice none 0 0, .int .u64 0] := a0.seti 6 rfl gp
          refine ⟨a0.cani 7 rfl rfl, thenW_in fun fq js => ?_⟩
          have iw := cv.x_set (q := a1.heap.size) (i := 7) rfl (.inl rfl) js
          have a0 : Blk fq a1.heap.size 47 [.int .i64 0, .int .i64 0, .int .u64 0, .int .i64 0, .int .i64 0, .int .i64 0, .slice none 0 0, .int .u64 0] := a0.seti 7 rfl js
          refine ⟨0, 0, 0, 0, 0, 0, none, 0, 0, 0, ⟨a0.celli 0 rfl rfl, a0.celli 1 rfl rfl, a0.celli 2 rfl rfl, a0.celli 3 rfl rfl, a0.celli 4 rfl rfl, a0.celli 5 rfl rfl, a0.celli 6 rfl rfl, a0.celli 7 rfl rfl, trivial⟩, ?_⟩
          have h := h fq iw
          exact h
        · have h := h.2 im
          refine ⟨b5, (ap : Int), b4, ao, b0, ad, ae, ag, af, 0, ⟨a7.celli 0 rfl rfl, a7.celli 1 rfl rfl, a7.celli 2 rfl rfl, a7.celli 3 rfl rfl, a7.celli 4 rfl rfl, a7.celli 5 rfl rfl, a7.celli 6 rfl rfl, a7.celli 7 rfl rfl, trivial⟩, ?_⟩
          refine h.mono fun k5 ah h => ?_
          obtain ⟨a2, a5, ab, ax, b1, ak, ay, az, aw, b6, cr, he, hk, h⟩ := h
          refine ⟨a2, a5, ab, ax, b1, ak, ay, az, aw, b6, cr, he, ?_⟩
          have a0 := hk.blk a0 (by simp)
          refine thenW_in fun fb cy => ?_
          have a4 := Blk.of_new cy
          have b8 := ((Ext.refl no ah)).size
          have an := Nat.ne_of_lt a0.lt
          have a0 := a0.x_alloc cy
          have d0 := (Ext.refl no ah).x_alloc cy
          refine ⟨a4.cani 0 rfl rfl, thenW_in fun ep d5 => ?_⟩
          have cu := d0.x_set (q := ah.heap.size) (i := 0) rfl (.inr b8) d5
          have a0 := a0.oth (q := ah.heap.size) (i := 0) rfl an d5
          have a4 : Blk ep ah.heap.size 47 [.int .i64 a2, .int .i64 0, .int .u64 0, .int .i64 0, .int .i64 0, .int .i64 0, .slice none 0 0, .int .u64 0] := a4.seti 0 rfl d5
          refine ⟨a4.cani 1 rfl rfl, thenW_in fun eg cq => ?_⟩
          have d1 := cu.x_set (q := ah.heap.size) (i := 1) rfl (.inr b8) cq
          have a0 := a0.oth (q := ah.heap.size) (i := 1) rfl an cq
          have a4 : Blk eg ah.heap.size 47 [.int .i64 a2, .int .i64 a5, .int .u64 0, .int .i64 0, .int .i64 0, .int .i64 0, .slice none 0 0, .int .u64 0] := a4.seti 1 rfl cq
          refine ⟨a4.cani 2 rfl rfl, thenW_in fun e3 eq => ?_⟩
          have em := d1.x_set (q := ah.heap.size) (i := 2) rfl (.inr b8) eq
          have a0 := a0.oth (q := ah.heap.size) (i := 2) rfl an eq
          have a4 : Blk e3 ah.heap.size 47 [.int .i64 a2, .int .i64 a5, .int .u64 ab, .int .i64 0, .int .i64 0, .int .i64 0, .slice none 0 0, .int .u64 0] := a4.seti 2 rfl eq
          refine ⟨a4.cani 3 rfl rfl, thenW_in fun ev e7 => ?_⟩
          have f0 := em.x_set (q := ah.heap.size) (i := 3) rfl (.inr b8) e7
          have a0 := a0.oth (q := ah.heap.size) (i := 3) rfl an e7
          have a4 : Blk ev ah.heap.size 47 [.int .i64 a2, .int .i64 a5, .int .u64 ab, .int .i64 ax, .int .i64 0, .int .i64 0, .slice none 0 0, .int .u64 0] := a4.seti 3 rfl e7
          refine ⟨a4.cani 4 rfl rfl, thenW_in fun eo dg => ?_⟩
          have dc := f0.x_set (q := ah.heap.size) (i := 4) rfl (.inr b8) dg
          have a0 := a0.oth (q := ah.heap.size) (i := 4) rfl an dg
          have a4 : Blk eo ah.heap.size 47 [.int .i64 a2, .int .i64 a5, .int .u64 ab, .int .i64 ax, .int .i64 b1, .int .i64 0, .slice none 0 0, .int .u64 0] := a4.seti 4 rfl dg
          refine ⟨a4.cani 5 rfl rfl, thenW_in fun ez d6 => ?_⟩
          have f4 := dc.x_set (q := ah.heap.size) (i := 5) rfl (.inr b8) d6
          have a0 := a0.oth (q := ah.heap.size) (i := 5) rfl an d6
          have a4 : Blk ez ah.heap.size 47 [.int .i64 a2, .int .i64 a5, .int .u64 ab, .int .i64 ax, .int .i64 b1, .int .i64 ak, .slice none 0 0, .int .u64 0] := a4.seti 5 rfl d6
          refine ⟨a4.cani 6 rfl rfl, thenW_in fun ce e2 => ?_⟩
          have cg := f4.x_set (q := ah.heap.size) (i := 6) rfl (.inr b8) e2
          have a0 := a0.oth (q := ah.heap.size) (i := 6) rfl an e2
          have a4 : Blk ce ah.heap.size 47 [.int .i64 a2, .int .i64 a5, .int .u64 ab, .int .i64 ax, .int .i64 b1, .int .i64 ak, .slice ay az aw, .int .u64 0] := a4.seti 6 rfl e2
          refine ⟨a4.cani 7 rfl rfl, thenW_in fun g2 j8 => ?_⟩
          have fj := cg.x_set (q := ah.heap.size) (i := 7) rfl (.inr b8) j8
          have a0 := a0.oth (q := ah.heap.size) (i := 7) rfl an j8
          have a4 : Blk g2 ah.heap.size 47 [.int .i64 a2, .int .i64 a5, .int .u64 ab, .int .i64 ax, .int .i64 b1, .int .i64 ak, .slice ay az aw, .int .u64 b6] := a4.seti 7 rfl j8
          refine bif_of (fun i3 => ?_) (fun i3 => ?_)
          · have h := h.1 (bne_t i3)
            have il : Ext (fun b => b = a1.heap.size) ah g2 := (fj).none
            refine ⟨a0.cani 0 rfl rfl, thenW_in fun dr fs => ?_⟩
            have e1 := il.x_set (q := a1.heap.size) (i := 0) rfl (.inl rfl) fs
            have a0 : Blk dr a1.heap.size 47 [.int .i64 0, .int .i64 0, .int .u64 0, .int .i64 0, .int .i64 0, .int .i64 0, .slice none 0 0, .int .u64 0] := a0.seti 0 rfl fs
            refine ⟨a0.cani 1 rfl rfl, thenW_in fun d3 gg => ?_⟩
            have e6 := e1.x_set (q := a1.heap.size) (i := 1) rfl (.inl rfl) gg
            have a0 : Blk d3 a1.heap.size 47 [.int .i64 0, .int .i64 0, .int .u64 0, .int .i64 0, .int .i64 0, .int .i64 0, .slice none 0 0, .int .u64 0] := a0.seti 1 rfl gg
            refine ⟨a0.cani 2 rfl rfl, thenW_in fun f5 gn => ?_⟩
            have eh := e6.x_set (q := a1.heap.size) (i := 2) rfl (.inl rfl) gn
            have a0 : Blk f5 a1.heap.size 47 [.int .i64 0, .int .i64 0, .int .u64 0, .int .i64 0, .int .i64 0, .int .i64 0, .slice none 0 0, .int .u64 0] := a0.seti 2 rfl gn
            refine ⟨a0.cani 3 rfl rfl, thenW_in fun du ge => ?_⟩
            have df := eh.x_set (q := a1.heap.size) (i := 3) rfl (.inl rfl) ge
            have a0 : Blk du a1.heap.size 47 [.int .i64 0, .int .i64 0, .int .u64 0, .int .i64 0, .int .i64 0, .int .i64 0, .slice none 0 0, .int .u64 0] := a0.seti 3 rfl ge
            refine ⟨a0.cani 4 rfl rfl, thenW_in fun e0 gt => ?_⟩
            have ed := df.x_set (q := a1.heap.size) (i := 4) rfl (.inl rfl) gt
            have a0 : Blk e0 a1.heap.size 47 [.int .i64 0, .int .i64 0, .int .u64 0, .int .i64 0, .int .i64 0, .int .i64 0, .slice none 0 0, .int .u64 0] := a0.seti 4 rfl gt
            refine ⟨a0.cani 5 rfl rfl, thenW_in fun dq gc => ?_⟩
            have ex := ed.x_set (q := a1.heap.size) (i := 5) rfl (.inl rfl) gc
            have a0 : Blk dq a1.heap.size 47 [.int .i64 0, .int .i64 0, .int .u64 0, .int .i64 0, .int .i64 0, .int .i64 0, .slice none 0 0, .int .u64 0] := a0.seti 5 rfl gc
            refine ⟨a0.cani 6 rfl rfl, thenW_in fun cd ft => ?_⟩
            have dt := ex.x_set (q := a1.heap.size) (i := 6) rfl (.inl rfl) ft
            have a0 : Blk cd a1.heap.size 47 [.int .i64 0, .int .i64 0, .int .u64 0, .int .i64 0, .int .i64 0, .int .i64 0, .slice none 0 0, .int .u64 0] := a0.seti 6 rfl ft
            refine ⟨a0.cani 7 rfl rfl, thenW_in fun fd k4 => ?_⟩
            have jf := dt.x_set (q := a1.heap.size) (i := 7) rfl (.inl rfl) k4
            have a0 : Blk fd a1.heap.size 47 [.int .i64 0, .int .i64 0, .int .u64 0, .int .i64 0, .int .i64 0, .int .i64 0, .slice none 0 0, .int .u64 0] := a0.seti 7 rfl k4
            refine ⟨0, 0, 0, 0, 0, 0, none, 0, 0, 0, ⟨a0.celli 0 rfl rfl, a0.celli 1 rfl rfl, a0.celli 2 rfl rfl, a0.celli 3 rfl rfl, a0.celli 4 rfl rfl, a0.celli 5 rfl rfl, a0.celli 6 rfl rfl, a0.celli 7 rfl rfl, trivial⟩, ?_⟩
            have h := h fd jf
            exact h
          · have h := h.2 (bne_f i3)
            refine thenW_in fun fe dj => ?_
            have bq := fj.x_drew dj
            have a0 := a0.x_drew dj
            have a4 := a4.x_drew dj
            refine elim_some bb ?_
            obtain ⟨gh, fo, f8, f6, h⟩ := h
            refine ⟨gh, fo, f8, (bq).cell f6 id, ?_⟩
            refine ⟨a2, a5, ab, ax, b1, ak, ay, az, aw, b6, ⟨a4.celli 0 rfl rfl, a4.celli 1 rfl rfl, a4.celli 2 rfl rfl, a4.celli 3 rfl rfl, a4.celli 4 rfl rfl, a4.celli 5 rfl rfl, a4.celli 6 rfl rfl, a4.celli 7 rfl rfl, trivial⟩, ?_⟩
            refine thenW_in fun fc bt => ?_
            have ii := a4.lt
            have a0 := a0.x_alloc bt
            have a4 := a4.x_alloc bt
            have h := h fc fe.heap.size (ah.heap.size) (bq.x_alloc bt) (Blk.of_new bt) (bq).size (size_lt_alloc bt) (Privq.cons b8 ii Privq.nil)
            obtain ⟨fy, h⟩ := h
            refine ⟨fy, ?_⟩
            obtain ⟨gs, fg, fw, b9, hr, hk, h⟩ := h
            refine ⟨gs, fg, fw, b9, hr, ?_⟩
            have a0 := hk.blk a0 (by simp)
            have a4 := hk.blk a4 (by simp)
            refine elim_some bb ?_
            obtain ⟨hcs, hof, h⟩ := h
            refine ⟨hcs, thenW_in fun ba be => ?_⟩
            replace h := thenW_out h be
            have a0 := a0.off (by rw [block_add]; exact hof _ (by simp)) be
            have a4 := a4.off (by rw [block_add]; exact hof _ (by simp)) be
            refine ⟨a2, a5, ab, ax, b1, ak, ay, az, aw, b6, ⟨a4.celli 0 rfl rfl, a4.celli 1 rfl rfl, a4.celli 2 rfl rfl, a4.celli 3 rfl rfl, a4.celli 4 rfl rfl, a4.celli 5 rfl rfl, a4.celli 6 rfl rfl, a4.celli 7 rfl rfl, trivial⟩, ?_⟩
            have g8 : Ext (fun b => b = a1.heap.size) ba ba := ((Ext.refl no ba)).none
            refine ⟨a0.cani 0 rfl rfl, thenW_in fun bi bj => ?_⟩
            have bw := g8.x_set (q := a1.heap.size) (i := 0) rfl (.inl rfl) bj
            have a0 : Blk bi a1.heap.size 47 [.int .i64 a2, .int .i64 0, .int .u64 0, .int .i64 0, .int .i64 0, .int .i64 0, .slice none 0 0, .int .u64 0] := a0.seti 0 rfl bj
            refine ⟨a0.cani 1 rfl rfl, thenW_in fun bn c1 => ?_⟩
            have c2 := bw.x_set (q := a1.heap.size) (i := 1) rfl (.inl rfl) c1
            have a0 : Blk bn a1.heap.size 47 [.int .i64 a2, .int .i64 a5, .int .u64 0, .int .i64 0, .int .i64 0, .int .i64 0, .slice none 0 0, .int .u64 0] := a0.seti 1 rfl c1
            refine ⟨a0.cani 2 rfl rfl, thenW_in fun bv bz => ?_⟩
            have c4 := c2.x_set (q := a1.heap.size) (i := 2) rfl (.inl rfl) bz
            have a0 : Blk bv a1.heap.size 47 [.int .i64 a2, .int .i64 a5, .int .u64 ab, .int .i64 0, .int .i64 0, .int .i64 0, .slice none 0 0, .int .u64 0] := a0.seti 2 rfl bz
            refine ⟨a0.cani 3 rfl rfl, thenW_in fun bh bl => ?_⟩
            have c7 := c4.x_set (q := a1.heap.size) (i := 3) rfl (.inl rfl) bl
            have a0 : Blk bh a1.heap.size 47 [.int .i64 a2, .int .i64 a5, .int .u64 ab, .int .i64 ax, .int .i64 0, .int .i64 0, .slice none 0 0, .int .u64 0] := a0.seti 3 rfl bl
            refine ⟨a0.cani 4 rfl rfl, thenW_in fun bg br => ?_⟩
            have bu := c7.x_set (q := a1.heap.size) (i := 4) rfl (.inl rfl) br
            have a0 : Blk bg a1.heap.size 47 [.int .i64 a2, .int .i64 a5, .int .u64 ab, .int .i64 ax, .int .i64 b1, .int .i64 0, .slice none 0 0, .int .u64 0] := a0.seti 4 rfl br
            refine ⟨a0.cani 5 rfl rfl, thenW_in fun bp bx => ?_⟩
            have bm := bu.x_set (q := a1.heap.size) (i := 5) rfl (.inl rfl) bx
            have a0 : Blk bp a1.heap.size 47 [.int .i64 a2, .int .i64 a5, .int .u64 ab, .int .i64 ax, .int .i64 b1, .int .i64 ak, .slice none 0 0, .int .u64 0] := a0.seti 5 rfl bx
            refine ⟨a0.cani 6 rfl rfl, thenW_in fun bd c5 => ?_⟩
            have c3 := bm.x_set (q := a1.heap.size) (i := 6) rfl (.inl rfl) c5
            have a0 : Blk bd a1.heap.size 47 [.int .i64 a2, .int .i64 a5, .int .u64 ab, .int .i64 ax, .int .i64 b1, .int .i64 ak, .slice ay az aw, .int .u64 0] := a0.seti 6 rfl c5
            refine ⟨a0.cani 7 rfl rfl, thenW_in fun co fh => ?_⟩
            have ff := c3.x_set (q := a1.heap.size) (i := 7) rfl (.inl rfl) fh
            have a0 : Blk co a1.heap.size 47 [.int .i64 a2, .int .i64 a5, .int .u64 ab, .int .i64 ax, .int .i64 b1, .int .i64 ak, .slice ay az aw, .int .u64 b6] := a0.seti 7 rfl fh
            refine ⟨a2, a5, ab, ax, b1, ak, ay, az, aw, b6, ⟨a0.celli 0 rfl rfl, a0.celli 1 rfl rfl, a0.celli 2 rfl rfl, a0.celli 3 rfl rfl, a0.celli 4 rfl rfl, a0.celli 5 rfl rfl, a0.celli 6 rfl rfl, a0.celli 7 rfl rfl, trivial⟩, ?_⟩
            have h := h co ff
            exact h
    · have h := h1'
      refine thenW_in fun j1 gy => ?_
      have a7 := Blk.of_new gy
      have bk := (c0).size
      have al := Nat.ne_of_lt aa.lt
      have aa := aa.x_alloc gy
      have am := Nat.ne_of_lt a0.lt
      have a0 := a0.x_alloc gy
      have cz := c0.x_alloc gy
      refine ⟨⟨aa.celli 0 rfl rfl, aa.celli 1 rfl rfl, trivial⟩, (cz).cell fu id, (cz).cell gk id, ?_⟩
      have h := h j1 (w.heap.size) (a1.heap.size) (a9.heap.size) cz (Priv.cons ju aa.lt (Priv.cons c8 a0.lt (Priv.cons bk a7.lt Priv.nil)))
      refine h.mono fun k6 c9 h => ?_
      obtain ⟨bo, fm, b3, he, hk, h⟩ := h
      refine ⟨bo, fm, b3, he, ?_⟩
      have aa := hk.blk aa (by simp)
      have a0 := hk.blk a0 (by simp)
      have a7 := hk.blk a7 (by simp)
      obtain ⟨i2, jm, h⟩ := h
      refine ⟨⟨aa.celli 0 rfl rfl, aa.celli 1 rfl rfl, trivial⟩, i2, jm, ?_⟩
      have ja : Ext (fun b => b = a9.heap.size) c9 c9 := ((Ext.refl no c9)).none
      refine ⟨a7.cani 0 rfl rfl, thenW_in fun cw ca => ?_⟩
      have ds := ja.x_set (q := a9.heap.size) (i := 0) rfl (.inl rfl) ca
      have aa := aa.oth (q := a9.heap.size) (i := 0) rfl al ca
      have a0 := a0.oth (q := a9.heap.size) (i := 0) rfl am ca
      have a7 : Blk cw a9.heap.size 47 [.int .i64 b5, .int .i64 0, .int .u64 0, .int .i64 0, .int .i64 0, .int .i64 0, .slice none 0 0, .int .u64 0] := a7.seti 0 rfl ca
      refine ⟨a7.cani 1 rfl rfl, thenW_in fun da cj => ?_⟩
      have dl := ds.x_set (q := a9.heap.size) (i := 1) rfl (.inl rfl) cj
      have aa := aa.oth (q := a9.heap.size) (i := 1) rfl al cj
      have a0 := a0.oth (q := a9.heap.size) (i := 1) rfl am cj
      have a7 : Blk da a9.heap.size 47 [.int .i64 b5, .int .i64 (ap : Int), .int .u64 0, .int .i64 0, .int .i64 0, .int .i64 0, .slice none 0 0, .int .u64 0] := a7.seti 1 rfl cj
      refine ⟨a7.cani 2 rfl rfl, thenW_in fun dw ck => ?_⟩
      have ei := dl.x_set (q := a9.heap.size) (i := 2) rfl (.inl rfl) ck
      have aa := aa.oth (q := a9.heap.size) (i := 2) rfl al ck
      have a0 := a0.oth (q := a9.heap.size) (i := 2) rfl am ck
      have a7 : Blk dw a9.heap.size 47 [.int .i64 b5, .int .i64 (ap : Int), .int .u64 b3, .int .i64 0, .int .i64 0, .int .i64 0, .slice none 0 0, .int .u64 0] := a7.seti 2 rfl ck
      refine ⟨a7.cani 3 rfl rfl, thenW_in fun e4 cn => ?_⟩
      have db := ei.x_set (q := a9.heap.size) (i := 3) rfl (.inl rfl) cn
      have aa := aa.oth (q := a9.heap.size) (i := 3) rfl al cn
      have a0 := a0.oth (q := a9.heap.size) (i := 3) rfl am cn
      have a7 : Blk e4 a9.heap.size 47 [.int .i64 b5, .int .i64 (ap : Int), .int .u64 b3, .int .i64 ao, .int .i64 0, .int .i64 0, .slice none 0 0, .int .u64 0] := a7.seti 3 rfl cn
      refine ⟨a7.cani 4 rfl rfl, thenW_in fun eb cm => ?_⟩
      have de := db.x_set (q := a9.heap.size) (i := 4) rfl (.inl rfl) cm
      have aa := aa.oth (q := a9.heap.size) (i := 4) rfl al cm
      have a0 := a0.oth (q := a9.heap.size) (i := 4) rfl am cm
      have a7 : Blk eb a9.heap.size 47 [.int .i64 b5, .int .i64 (ap : Int), .int .u64 b3, .int .i64 ao, .int .i64 b0, .int .i64 0, .slice none 0 0, .int .u64 0] := a7.seti 4 rfl cm
      refine ⟨a7.cani 5 rfl rfl, thenW_in fun d8 cb => ?_⟩
      have dm := de.x_set (q := a9.heap.size) (i := 5) rfl (.inl rfl) cb
      have aa := aa.oth (q := a9.heap.size) (i := 5) rfl al cb
      have a0 := a0.oth (q := a9.heap.size) (i := 5) rfl am cb
      have a7 : Blk d8 a9.heap.size 47 [.int .i64 b5, .int .i64 (ap : Int), .int .u64 b3, .int .i64 ao, .int .i64 b0, .int .i64 ad, .slice none 0 0, .int .u64 0] := a7.seti 5 rfl cb
      refine ⟨a7.cani 6 rfl rfl, thenW_in fun dx ch => ?_⟩
      have d9 := dm.x_set (q := a9.heap.size) (i := 6) rfl (.inl rfl) ch
      have aa := aa.oth (q := a9.heap.size) (i := 6) rfl al ch
      have a0 := a0.oth (q := a9.heap.size) (i := 6) rfl am ch
      have a7 : Blk dx a9.heap.size 47 [.int .i64 b5, .int .i64 (ap : Int), .int .u64 b3, .int .i64 ao, .int .i64 b0, .int .i64 ad, .slice ae ag af, .int .u64 0] := a7.seti 6 rfl ch
      refine ⟨a7.cani 7 rfl rfl, thenW_in fun cc gz => ?_⟩
      have ci := d9.x_set (q := a9.heap.size) (i := 7) rfl (.inl rfl) gz
      have aa := aa.oth (q := a9.heap.size) (i := 7) rfl al gz
      have a0 := a0.oth (q := a9.heap.size) (i := 7) rfl am gz
      have a7 : Blk cc a9.heap.size 47 [.int .i64 b5, .int .i64 (ap : Int), .int .u64 b3, .int .i64 ao, .int .i64 b0, .int .i64 ad, .slice ae ag af, .int .u64 0] := a7.seti 7 rfl gz
      refine ⟨b5, (ap : Int), b3, ao, b0, ad, ae, ag, af, 0, ⟨a7.celli 0 rfl rfl, a7.celli 1 rfl rfl, a7.celli 2 rfl rfl, a7.celli 3 rfl rfl, a7.celli 4 rfl rfl, a7.celli 5 rfl rfl, a7.celli 6 rfl rfl, a7.celli 7 rfl rfl, trivial⟩, ?_⟩
      refine (cachetteref06_Right.pure b5 (ap : Int) b3 ao b0 ad ae ag af 0).mono fun ee ww48 ⟨he, hxx⟩ => ⟨(cachetteref06_Right.F b5 (ap : Int) b3 ao b0 ad ae ag af 0), he, ?_⟩
      have gb := ci.trans hxx.none
      have aa := aa.ext hxx id
      have a0 := a0.ext hxx id
      have a7 := a7.ext hxx id
      refine bif_of (fun ix => ?_) (fun ix => ?_)
      · have h := h.1 (not_t ix)
        have ib : Ext (fun b => b = a1.heap.size ∨ b = a9.heap.size) c9 ww48 := (gb).mono fun _ h _ => .inr h
        refine ⟨a0.cani 0 rfl rfl, thenW_in fun f1 gv => ?_⟩
        have ej := ib.x_set (q := a1.heap.size) (i := 0) rfl (.inl (.inl rfl)) gv
        have a0 : Blk f1 a1.heap.size 47 [.int .i64 0, .int .i64 0, .int .u64 0, .int .i64 0, .int .i64 0, .int .i64 0, .slice none 0 0, .int .u64 0] := a0.seti 0 rfl gv
        refine ⟨a0.cani 1 rfl rfl, thenW_in fun ef gi => ?_⟩
        have dv := ej.x_set (q := a1.heap.size) (i := 1) rfl (.inl (.inl rfl)) gi
        have a0 : Blk ef a1.heap.size 47 [.int .i64 0, .int .i64 0, .int .u64 0, .int .i64 0, .int .i64 0, .int .i64 0, .slice none 0 0, .int .u64 0] := a0.seti 1 rfl gi
        refine ⟨a0.cani 2 rfl rfl, thenW_in fun ct f9 => ?_⟩
        have dd := dv.x_set (q := a1.heap.size) (i := 2) rfl (.inl (.inl rfl)) f9
        have a0 : Blk ct a1.heap.size 47 [.int .i64 0, .int .i64 0, .int .u64 0, .int .i64 0, .int .i64 0, .int .i64 0, .slice none 0 0, .int .u64 0] := a0.seti 2 rfl f9
        refine ⟨a0.cani 3 rfl rfl, thenW_in fun eu g3 => ?_⟩
        have dp := dd.x_set (q := a1.heap.size) (i := 3) rfl (.inl (.inl rfl)) g3
        have a0 : Blk eu a1.heap.size 47 [.int .i64 0, .int .i64 0, .int .u64 0, .int .i64 0, .int .i64 0, .int .i64 0, .slice none 0 0, .int .u64 0] := a0.seti 3 rfl g3
        refine ⟨a0.cani 4 rfl rfl, thenW_in fun e5 ga => ?_⟩
        have f3 := dp.x_set (q := a1.heap.size) (i := 4) rfl (.inl (.inl rfl)) ga
        have a0 : Blk e5 a1.heap.size 47 [.int .i64 0, .int .i64 0, .int .u64 0, .int .i64 0, .int .i64 0, .int .i64 0, .slice none 0 0, .int .u64 0] := a0.seti 4 rfl ga
        refine ⟨a0.cani 5 rfl rfl, thenW_in fun er fv => ?_⟩
        have cp := f3.x_set (q := a1.heap.size) (i := 5) rfl (.inl (.inl rfl)) fv
        have a0 : Blk er a1.heap.size 47 [.int .i64 0, .int .i64 0, .int .u64 0, .int .i64 0, .int .i64 0, .int .i64 0, .slice none 0 0, .int .u64 0] := a0.seti 5 rfl fv
        refine ⟨a0.cani 6 rfl rfl, thenW_in fun cf g4 => ?_⟩
        have dn := cp.x_set (q := a1.heap.size) (i := 6) rfl (.inl (.inl rfl)) g4
        have a0 : Blk cf a1.heap.size 47 [.int .i64 0, .int .i64 0, .int .u64 0, .int .i64 0, .int .i64 0, .int .i64 0, .slice none 0 0, .int .u64 0] := a0.seti 6 rfl g4
        refine ⟨a0.cani 7 rfl rfl, thenW_in fun gr jo => ?_⟩
        have jk := dn.x_set (q := a1.heap.size) (i := 7) rfl (.inl (.inl rfl)) jo
        have a0 : Blk gr a1.heap.size 47 [.int .i64 0, .int .i64 0, .int .u64 0, .int .i64 0, .int .i64 0, .int .i64 0, .slice none 0 0, .int .u64 0] := a0.seti 7 rfl jo
        refine ⟨0, 0, 0, 0, 0, 0, none, 0, 0, 0, ⟨a0.celli 0 rfl rfl, a0.celli 1 rfl rfl, a0.celli 2 rfl rfl, a0.celli 3 rfl rfl, a0.celli 4 rfl rfl, a0.celli 5 rfl rfl, a0.celli 6 rfl rfl, a0.celli 7 rfl rfl, trivial⟩, ?_⟩
        have h := h gr jk
        exact h
      · have h := h.2 (not_f ix)
        refine ⟨ao, b0, ⟨aa.celli 0 rfl rfl, aa.celli 1 rfl rfl, trivial⟩, ?_⟩
        have h := h ww48 gb
        refine h.mono fun ka ey h => ?_
        obtain ⟨cs, he, hk, h⟩ := h
        refine ⟨cs, he, ?_⟩
        have a0 := hk.blk a0 (by simp)
        have a7 := hk.blk a7 (by simp)
        refine bif_of (fun i7 => ?_) (fun i7 => ?_)
        · have h := h.1 i7
          have j9 : Ext (fun b => b = a1.heap.size) ey ey := ((Ext.refl no ey)).none
          refine ⟨a0.cani 0 rfl rfl, thenW_in fun jb jw => ?_⟩
          have ia := j9.x_set (q := a1.heap.size) (i := 0) rfl (.inl rfl) jw
          have a0 : Blk jb a1.heap.size 47 [.int .i64 0, .int .i64 0, .int .u64 0, .int .i64 0, .int .i64 0, .int .i64 0, .slice none 0 0, .int .u64 0] := a0.seti 0 rfl jw
          refine ⟨a0.cani 1 rfl rfl, thenW_in fun dk fl => ?_⟩
          have d7 := ia.x_set (q := a1.heap.size) (i := 1) rfl (.inl rfl) fl
          have a0 : Blk dk a1.heap.size 47 [.int .i64 0, .int .i64 0, .int .u64 0, .int .i64 0, .int .i64 0, .int .i64 0, .slice none 0 0, .int .u64 0] := a0.seti 1 rfl fl
          refine ⟨a0.cani 2 rfl rfl, thenW_in fun et fz => ?_⟩
          have dz := d7.x_set (q := a1.heap.size) (i := 2) rfl (.inl rfl) fz
          have a0 : Blk et a1.heap.size 47 [.int .i64 0, .int .i64 0, .int .u64 0, .int .i64 0, .int .i64 0, .int .i64 0, .slice none 0 0, .int .u64 0] := a0.seti 2 rfl fz
          refine ⟨a0.cani 3 rfl rfl, thenW_in fun f2 gf => ?_⟩
          have di := dz.x_set (q := a1.heap.size) (i := 3) rfl (.inl rfl) gf
          have a0 : Blk f2 a1.heap.size 47 [.int .i64 0, .int .i64 0, .int .u64 0, .int .i64 0, .int .i64 0, .int .i64 0, .slice none 0 0, .int .u64 0] := a0.seti 3 rfl gf
          refine ⟨a0.cani 4 rfl rfl, thenW_in fun dy g5 => ?_⟩
          have en := di.x_set (q := a1.heap.size) (i := 4) rfl (.inl rfl) g5
          have a0 : Blk dy a1.heap.size 47 [.int .i64 0, .int .i64 0, .int .u64 0, .int .i64 0, .int .i64 0, .int .i64 0, .slice none 0 0, .int .u64 0] := a0.seti 4 rfl g5
          refine ⟨a0.cani 5 rfl rfl, thenW_in fun el gw => ?_⟩
          have ea := en.x_set (q := a1.heap.size) (i := 5) rfl (.inl rfl) gw
          have a0 : Blk el a1.heap.size 47 [.int .i64 0, .int .i64 0, .int .u64 0, .int .i64 0, .int .i64 0, .int .i64 0, .slice none 0 0, .int .u64 0] := a0.seti 5 rfl gw
          refine ⟨a0.cani 6 rfl rfl, thenW_in fun d2 fi => ?_⟩
          have d4 := ea.x_set (q := a1.heap.size) (i := 6) rfl (.inl rfl) fi
          have a0 : Blk d2 a1.heap.size 47 [.int .i64 0, .int .i64 0, .int .u64 0, .int .i64 0, .int .i64 0, .int .i64 0, .slice none 0 0, .int .u64 0] := a0.seti 6 rfl fi
          refine ⟨a0.cani 7 rfl rfl, thenW_in fun cl gp => ?_⟩
          have cv := d4.x_set (q := a1.heap.size) (i := 7) rfl (.inl rfl) gp
          have a0 : Blk cl a1.heap.size 47 [.int .i64 0, .int .i64 0, .int .u64 0, .int .i64 0, .int .i64 0, .int .i64 0, .slice none 0 0, .int .u64 0] := a0.seti 7 rfl gp
          refine ⟨0, 0, 0, 0, 0, 0, none, 0, 0, 0, ⟨a0.celli 0 rfl rfl, a0.celli 1 rfl rfl, a0.celli 2 rfl rfl, a0.celli 3 rfl rfl, a0.celli 4 rfl rfl, a0.celli 5 rfl rfl, a0.celli 6 rfl rfl, a0.celli 7 rfl rfl, trivial⟩, ?_⟩
          have h := h cl cv
          exact h
        · have h := h.2 i7
          refine ⟨b5, (ap : Int), b3, ao, b0, ad, ae, ag, af, 0, ⟨a7.celli 0 rfl rfl, a7.celli 1 rfl rfl, a7.celli 2 rfl rfl, a7.celli 3 rfl rfl, a7.celli 4 rfl rfl, a7.celli 5 rfl rfl, a7.celli 6 rfl rfl, a7.celli 7 rfl rfl, trivial⟩, ?_⟩
          refine h.mono fun k8 ai h => ?_
          obtain ⟨a3, a6, ac, aq, b2, aj, ar, au, av, b7, es, he, hk, h⟩ := h
          refine ⟨a3, a6, ac, aq, b2, aj, ar, au, av, b7, es, he, ?_⟩
          have a0 := hk.blk a0 (by simp)
          refine thenW_in fun ah i4 => ?_
          have a4 := Blk.of_new i4
          have b8 := ((Ext.refl no ai)).size
          have an := Nat.ne_of_lt a0.lt
          have a0 := a0.x_alloc i4
          have jl := (Ext.refl no ai).x_alloc i4
          refine ⟨a4.cani 0 rfl rfl, thenW_in fun fb cy => ?_⟩
          have d0 := jl.x_set (q := ai.heap.size) (i := 0) rfl (.inr b8) cy
          have a0 := a0.oth (q := ai.heap.size) (i := 0) rfl an cy
          have a4 : Blk fb ai.heap.size 47 [.int .i64 a3, .int .i64 0, .int .u64 0, .int .i64 0, .int .i64 0, .int .i64 0, .slice none 0 0, .int .u64 0] := a4.seti 0 rfl cy
          refine ⟨a4.cani 1 rfl rfl, thenW_in fun ep d5 => ?_⟩
          have cu := d0.x_set (q := ai.heap.size) (i := 1) rfl (.inr b8) d5
          have a0 := a0.oth (q := ai.heap.size) (i := 1) rfl an d5
          have a4 : Blk ep ai.heap.size 47 [.int .i64 a3, .int .i64 a6, .int .u64 0, .int .i64 0, .int .i64 0, .int .i64 0, .slice none 0 0, .int .u64 0] := a4.seti 1 rfl d5
          refine ⟨a4.cani 2 rfl rfl, thenW_in fun eg cq => ?_⟩
          have d1 := cu.x_set (q := ai.heap.size) (i := 2) rfl (.inr b8) cq
          have a0 := a0.oth (q := ai.heap.size) (i := 2) rfl an cq
          have a4 : Blk eg ai.heap.size 47 [.int .i64 a3, .int .i64 a6, .int .u64 ac, .int .i64 0, .int .i64 0, .int .i64 0, .slice none 0 0, .int .u64 0] := a4.seti 2 rfl cq
          refine ⟨a4.cani 3 rfl rfl, thenW_in fun e3 eq => ?_⟩
          have em := d1.x_set (q := ai.heap.size) (i := 3) rfl (.inr b8) eq
          have a0 := a0.oth (q := ai.heap.size) (i := 3) rfl an eq
          have a4 : Blk e3 ai.heap.size 47 [.int .i64 a3, .int .i64 a6, .int .u64 ac, .int .i64 aq, .int .i64 0, .int .i64 0, .slice none 0 0, .int .u64 0] := a4.seti 3 rfl eq
          refine ⟨a4.cani 4 rfl rfl, thenW_in fun ev e7 => ?_⟩
          have f0 := em.x_set (q := ai.heap.size) (i := 4) rfl (.inr b8) e7
          have a0 := a0.oth (q := ai.heap.size) (i := 4) rfl an e7
          have a4 : Blk ev ai.heap.size 47 [.int .i64 a3, .int .i64 a6, .int .u64 ac, .int .i64 aq, .int .i64 b2, .int .i64 0, .slice none 0 0, .int .u64 0] := a4.seti 4 rfl e7
          refine ⟨a4.cani 5 rfl rfl, thenW_in fun eo dg => ?_⟩
          have dc := f0.x_set (q := ai.heap.size) (i := 5) rfl (.inr b8) dg
          have a0 := a0.oth (q := ai.heap.size) (i := 5) rfl an dg
          have a4 : Blk eo ai.heap.size 47 [.int .i64 a3, .int .i64 a6, .int .u64 ac, .int .i64 aq, .int .i64 b2, .int .i64 aj, .slice none 0 0, .int .u64 0] := a4.seti 5 rfl dg
          refine ⟨a4.cani 6 rfl rfl, thenW_in fun ez d6 => ?_⟩
          have f4 := dc.x_set (q := ai.heap.size) (i := 6) rfl (.inr b8) d6
          have a0 := a0.oth (q := ai.heap.size) (i := 6) rfl an d6
          have a4 : Blk ez ai.heap.size 47 [.int .i64 a3, .int .i64 a6, .int .u64 ac, .int .i64 aq, .int .i64 b2, .int .i64 aj, .slice ar au av, .int .u64 0] := a4.seti 6 rfl d6
          refine ⟨a4.cani 7 rfl rfl, thenW_in fun ce e2 => ?_⟩
          have cg := f4.x_set (q := ai.heap.size) (i := 7) rfl (.inr b8) e2
          have a0 := a0.oth (q := ai.heap.size) (i := 7) rfl an e2
          have a4 : Blk ce ai.heap.size 47 [.int .i64 a3, .int .i64 a6, .int .u64 ac, .int .i64 aq, .int .i64 b2, .int .i64 aj, .slice ar au av, .int .u64 b7] := a4.seti 7 rfl e2
          refine bif_of (fun ih => ?_) (fun ih => ?_)
          · have h := h.1 (bne_t ih)
            have i8 : Ext (fun b => b = a1.heap.size) ai ce := (cg).none
            refine ⟨a0.cani 0 rfl rfl, thenW_in fun j6 jr => ?_⟩
            have jn := i8.x_set (q := a1.heap.size) (i := 0) rfl (.inl rfl) jr
            have a0 : Blk j6 a1.heap.size 47 [.int .i64 0, .int .i64 0, .int .u64 0, .int .i64 0, .int .i64 0, .int .i64 0, .slice none 0 0, .int .u64 0] := a0.seti 0 rfl jr
            refine ⟨a0.cani 1 rfl rfl, thenW_in fun dr fs => ?_⟩
            have e1 := jn.x_set (q := a1.heap.size) (i := 1) rfl (.inl rfl) fs
            have a0 : Blk dr a1.heap.size 47 [.int .i64 0, .int .i64 0, .int .u64 0, .int .i64 0, .int .i64 0, .int .i64 0, .slice none 0 0, .int .u64 0] := a0.seti 1 rfl fs
            refine ⟨a0.cani 2 rfl rfl, thenW_in fun d3 gg => ?_⟩
            have e6 := e1.x_set (q := a1.heap.size) (i := 2) rfl (.inl rfl) gg
            have a0 : Blk d3 a1.heap.size 47 [.int .i64 0, .int .i64 0, .int .u64 0, .int .i64 0, .int .i64 0, .int .i64 0, .slice none 0 0, .int .u64 0] := a0.seti 2 rfl gg
            refine ⟨a0.cani 3 rfl rfl, thenW_in fun f5 gn => ?_⟩
            have eh := e6.x_set (q := a1.heap.size) (i := 3) rfl (.inl rfl) gn
            have a0 : Blk f5 a1.heap.size 47 [.int .i64 0, .int .i64 0, .int .u64 0, .int .i64 0, .int .i64 0, .int .i64 0, .slice none 0 0, .int .u64 0] := a0.seti 3 rfl gn
            refine ⟨a0.cani 4 rfl rfl, thenW_in fun du ge => ?_⟩
            have df := eh.x_set (q := a1.heap.size) (i := 4) rfl (.inl rfl) ge
            have a0 : Blk du a1.heap.size 47 [.int .i64 0, .int .i64 0, .int .u64 0, .int .i64 0, .int .i64 0, .int .i64 0, .slice none 0 0, .int .u64 0] := a0.seti 4 rfl ge
            refine ⟨a0.cani 5 rfl rfl, thenW_in fun e0 gt => ?_⟩
            have ed := df.x_set (q := a1.heap.size) (i := 5) rfl (.inl rfl) gt
            have a0 : Blk e0 a1.heap.size 47 [.int .i64 0, .int .i64 0, .int .u64 0, .int .i64 0, .int .i64 0, .int .i64 0, .slice none 0 0, .int .u64 0] := a0.seti 5 rfl gt
            refine ⟨a0.cani 6 rfl rfl, thenW_in fun dq gc => ?_⟩
            have ex := ed.x_set (q := a1.heap.size) (i := 6) rfl (.inl rfl) gc
            have a0 : Blk dq a1.heap.size 47 [.int .i64 0, .int .i64 0, .int .u64 0, .int .i64 0, .int .i64 0, .int .i64 0, .slice none 0 0, .int .u64 0] := a0.seti 6 rfl gc
            refine ⟨a0.cani 7 rfl rfl, thenW_in fun cd ft => ?_⟩
            have dt := ex.x_set (q := a1.heap.size) (i := 7) rfl (.inl rfl) ft
            have a0 : Blk cd a1.heap.size 47 [.int .i64 0, .int .i64 0, .int .u64 0, .int .i64 0, .int .i64 0, .int .i64 0, .slice none 0 0, .int .u64 0] := a0.seti 7 rfl ft
            refine ⟨0, 0, 0, 0, 0, 0, none, 0, 0, 0, ⟨a0.celli 0 rfl rfl, a0.celli 1 rfl rfl, a0.celli 2 rfl rfl, a0.celli 3 rfl rfl, a0.celli 4 rfl rfl, a0.celli 5 rfl rfl, a0.celli 6 rfl rfl, a0.celli 7 rfl rfl, trivial⟩, ?_⟩
            have h := h cd dt
            exact h
          · have h := h.2 (bne_f ih)
            refine thenW_in fun g6 cx => ?_
            have bf := cg.x_drew cx
            have a0 := a0.x_drew cx
            have a4 := a4.x_drew cx
            refine elim_some bb ?_
            obtain ⟨gu, f7, g0, g9, h⟩ := h
            refine ⟨gu, f7, g0, (bf).cell g9 id, ?_⟩
            refine ⟨a3, a6, ac, aq, b2, aj, ar, au, av, b7, ⟨a4.celli 0 rfl rfl, a4.celli 1 rfl rfl, a4.celli 2 rfl rfl, a4.celli 3 rfl rfl, a4.celli 4 rfl rfl, a4.celli 5 rfl rfl, a4.celli 6 rfl rfl, a4.celli 7 rfl rfl, trivial⟩, ?_⟩
            refine thenW_in fun fp c6 => ?_
            have ii := a4.lt
            have a0 := a0.x_alloc c6
            have a4 := a4.x_alloc c6
            have h := h fp g6.heap.size (ai.heap.size) (bf.x_alloc c6) (Blk.of_new c6) (bf).size (size_lt_alloc c6) (Privq.cons b8 ii Privq.nil)
            obtain ⟨g7, h⟩ := h
            refine ⟨g7, ?_⟩
            obtain ⟨gd, fa, gj, gl, hr, hk, h⟩ := h
            refine ⟨gd, fa, gj, gl, hr, ?_⟩
            have a0 := hk.blk a0 (by simp)
            have a4 := hk.blk a4 (by simp)
            refine elim_some bb ?_
            obtain ⟨hcs, hof, h⟩ := h
            refine ⟨hcs, thenW_in fun b9 ew => ?_⟩
            replace h := thenW_out h ew
            have a0 := a0.off (by rw [block_add]; exact hof _ (by simp)) ew
            have a4 := a4.off (by rw [block_add]; exact hof _ (by simp)) ew
            refine ⟨a3, a6, ac, aq, b2, aj, ar, au, av, b7, ⟨a4.celli 0 rfl rfl, a4.celli 1 rfl rfl, a4.celli 2 rfl rfl, a4.celli 3 rfl rfl, a4.celli 4 rfl rfl, a4.celli 5 rfl rfl, a4.celli 6 rfl rfl, a4.celli 7 rfl rfl, trivial⟩, ?_⟩
            have gm : Ext (fun b => b = a1.heap.size) b9 b9 := ((Ext.refl no b9)).none
            refine ⟨a0.cani 0 rfl rfl, thenW_in fun ba be => ?_⟩
            have fk := gm.x_set (q := a1.heap.size) (i := 0) rfl (.inl rfl) be
            have a0 : Blk ba a1.heap.size 47 [.int .i64 a3, .int .i64 0, .int .u64 0, .int .i64 0, .int .i64 0, .int .i64 0, .slice none 0 0, .int .u64 0] := a0.seti 0 rfl be
            refine ⟨a0.cani 1 rfl rfl, thenW_in fun bi bj => ?_⟩
            have bw := fk.x_set (q := a1.heap.size) (i := 1) rfl (.inl rfl) bj
            have a0 : Blk bi a1.heap.size 47 [.int .i64 a3, .int .i64 a6, .int .u64 0, .int .i64 0, .int .i64 0, .int .i64 0, .slice none 0 0, .int .u64 0] := a0.seti 1 rfl bj
            refine ⟨a0.cani 2 rfl rfl, thenW_in fun bn c1 => ?_⟩
            have c2 := bw.x_set (q := a1.heap.size) (i := 2) rfl (.inl rfl) c1
            have a0 : Blk bn a1.heap.size 47 [.int .i64 a3, .int .i64 a6, .int .u64 ac, .int .i64 0, .int .i64 0, .int .i64 0, .slice none 0 0, .int .u64 0] := a0.seti 2 rfl c1
            refine ⟨a0.cani 3 rfl rfl, thenW_in fun bv bz => ?_⟩
            have c4 := c2.x_set (q := a1.heap.size) (i := 3) rfl (.inl rfl) bz
            have a0 : Blk bv a1.heap.size 47 [.int .i64 a3, .int .i64 a6, .int .u64 ac, .int .i64 aq, .int .i64 0, .int .i64 0, .slice none 0 0, .int .u64 0] := a0.seti 3 rfl bz
            refine ⟨a0.cani 4 rfl rfl, thenW_in fun bh bl => ?_⟩
            have c7 := c4.x_set (q := a1.heap.size) (i := 4) rfl (.inl rfl) bl
            have a0 : Blk bh a1.heap.size 47 [.int .i64 a3, .int .i64 a6, .int .u64 ac, .int .i64 aq, .int .i64 b2, .int .i64 0, .slice none 0 0, .int .u64 0] := a0.seti 4 rfl bl
            refine ⟨a0.cani 5 rfl rfl, thenW_in fun bg br => ?_⟩
            have bu := c7.x_set (q := a1.heap.size) (i := 5) rfl (.inl rfl) br
            have a0 : Blk bg a1.heap.size 47 [.int .i64 a3, .int .i64 a6, .int .u64 ac, .int .i64 aq, .int .i64 b2, .int .i64 aj, .slice none 0 0, .int .u64 0] := a0.seti 5 rfl br
            refine ⟨a0.cani 6 rfl rfl, thenW_in fun bp bx => ?_⟩
            have bm := bu.x_set (q := a1.heap.size) (i := 6) rfl (.inl rfl) bx
            have a0 : Blk bp a1.heap.size 47 [.int .i64 a3, .int .i64 a6, .int .u64 ac, .int .i64 aq, .int .i64 b2, .int .i64 aj, .slice ar au av, .int .u64 0] := a0.seti 6 rfl bx
            refine ⟨a0.cani 7 rfl rfl, thenW_in fun bd c5 => ?_⟩
            have c3 := bm.x_set (q := a1.heap.size) (i := 7) rfl (.inl rfl) c5
            have a0 : Blk bd a1.heap.size 47 [.int .i64 a3, .int .i64 a6, .int .u64 ac, .int .i64 aq, .int .i64 b2, .int .i64 aj, .slice ar au av, .int .u64 b7] := a0.seti 7 rfl c5
            refine ⟨a3, a6, ac, aq, b2, aj, ar, au, av, b7, ⟨a0.celli 0 rfl rfl, a0.celli 1 rfl rfl, a0.celli 2 rfl rfl, a0.celli 3 rfl rfl, a0.celli 4 rfl rfl, a0.celli 5 rfl rfl, a0.celli 6 rfl rfl, a0.celli 7 rfl rfl, trivial⟩, ?_⟩
            have h := h bd c3
            exact h

theorem cachetteref07_Log_Issue.go (l1 : Option Addr) (o2 : Option Addr) (a0 : Int) (a5 : Int) (a6 : Int) (a3 : Int) (a4 : Option Addr) (a2 : Nat) (a1 : Nat) {R : Value → World → Prop} {w : World} (h : cachetteref07_Log_Issue.N l1 o2 a0 a5 a6 a3 a4 a2 a1 R w) : Calls Try.prog 16 #[.pointer l1, .pointer o2, .int .u64 a0, .agg #[.int .i64 a5, .int .i64 a6], .int .i64 a3, .slice a4 a2 a1] w fun e w' => ∃ v, e = .returned v ∧ R v w' := cachetteref07_Log_Issue.ok l1 o2 a0 a5 a6 a3 a4 a2 a1 (cachetteref07_Log_Issue.up l1 o2 a0 a5 a6 a3 a4 a2 a1 h)
/-- cachetteref07.Whole -/
def cachetteref07_Whole.M (o1 : Option Addr) (ab : Int) (aj : Option Addr) (ag : Nat) (am : Nat) (R : Value → World → Prop) (w : World) : Prop :=
 bif (ag : Int) == 0 then (
 R (.tuple #[.int .i64 0, .int .i64 0]) w) else (
 aj.elim False fun a4 =>
 0 ≤ (0 : Int) ∧ (0 : Int) < (ag : Int) ∧
 ∃ (a9 : Int), w.cell? ((a4.add (Int.toNat 0 * 8)).add 0) = some (.int .i64 a9) ∧
 thenW (w.alloc (.cells #[.int .i64 a9, .int .u64 ab, .slice none 0 0] 42)) fun ak =>
 ∃ (I0 : Nat → List Value → World → Prop) (m8 : Nat), I0 m8 [.int .i64 0] ak ∧ ∀ (m9 : Nat) (ae : World) (i7 : Int), I0 m9 [.int .i64 i7] ae →
 bif decide (i7 < (ag : Int)) then (
 aj.elim False fun al =>
 0 ≤ (i7 : Int) ∧ (i7 : Int) < (ag : Int) ∧
 ∃ (a1 : Int) (a6 : Int) (a8 : Int) (ad : Int) (aa : Int) (a2 : Int) (a3 : Option Addr) (a5 : Nat) (a7 : Nat) (ac : Int), cellsAt ae (al.add (Int.toNat i7 * 8)) [.int .i64 a1, .int .i64 a6, .int .u64 a8, .int .i64 ad, .int .i64 aa, .int .i64 a2, .slice a3 a5 a7, .int .u64 ac] 0 ∧
 Calls Try.prog 22 #[.pointer (some (blk w.heap.size)), .pointer o1, .agg #[.int .i64 a1, .int .i64 a6, .int .u64 a8, .int .i64 ad, .int .i64 aa, .int .i64 a2, .slice a3 a5 a7, .int .u64 ac]] ae fun ah af => ∃ (a0 : Int), ah = .returned (.int .i64 a0) ∧
 bif a0 != 0 then (
 R (.tuple #[.int .i64 i7, .int .i64 a0]) af) else (
 ∃ ai, ai < m9 ∧ I0 ai [.int .i64 (IntKind.i64.wrap (i7 + 1))] af)) else (
 R (.tuple #[.int .i64 (ag : Int), .int .i64 0]) ae))

theorem cachetteref07_Whole.eq (o1 : Option Addr) (publicv2 : Int) (l3a : Option Addr) (l3n : Nat) (l3c : Nat) (R : Value → World → Prop) (w : World) : mfunc Try.prog [(0, [0, 2, 8], [(9, (.one (.int .i64)))])] 24 [.pointer o1, .int .u64 publicv2, .slice l3a l3n l3c] R w = cachetteref07_Whole.M o1 publicv2 l3a l3n l3c R w := by kernel_rfl
theorem cachetteref07_Whole.ok (o1 : Option Addr) (a0 : Int) (a3 : Option Addr) (a1 : Nat) (a2 : Nat) {R : Value → World → Prop} {w : World} (h : cachetteref07_Whole.M o1 a0 a3 a1 a2 R w) : Calls Try.prog 24 #[.pointer o1, .int .u64 a0, .slice a3 a1 a2] w fun e w' => ∃ v, e = .returned v ∧ R v w' :=
  mfunc_ok follows (H := [(0, [0, 2, 8], [(9, (.one (.int .i64)))])]) (args := [.pointer o1, .int .u64 a0, .slice a3 a1 a2]) (by rw [cachetteref07_Whole.eq]; exact h)

def cachetteref07_Whole.N (o1 : Option Addr) (ac : Int) (an : Option Addr) (ag : Nat) (ao : Nat) (R : Value → World → Prop) (w : World) : Prop :=
 ((ag : Int) = 0 →
 R (.tuple #[.int .i64 0, .int .i64 0]) w) ∧
 ((ag : Int) ≠ 0 →
 ∃ a5 : Addr, an = some a5 ∧
 (0 : Int) < (ag : Int) ∧
 ∃ (a8 : Int), w.cell? ((a5.add (Int.toNat 0 * 8)).add 0) = some (.int .i64 a8) ∧
 ∀ (ai : World) (q9 : Nat), Ext no w ai → Blk ai q9 42 [.int .i64 a8, .int .u64 ac, .slice none 0 0] → w.heap.size ≤ q9 → q9 < ai.heap.size →
 ∃ (I0 : Nat → List Value → World → Prop) (am : Nat), I0 am [.int .i64 0] ai ∧ ∀ (al : Nat) (af : World) (ae : Int), I0 al [.int .i64 ae] af →
 (ae < (ag : Int) →
 0 ≤ (ae : Int) ∧ (ae : Int) < (ag : Int) ∧
 ∃ (a1 : Int) (a7 : Int) (a9 : Int) (aa : Int) (ad : Int) (a6 : Int) (a4 : Option Addr) (a2 : Nat) (a3 : Nat) (ab : Int), cellsAt af (a5.add (Int.toNat ae * 8)) [.int .i64 a1, .int .i64 a7, .int .u64 a9, .int .i64 aa, .int .i64 ad, .int .i64 a6, .slice a4 a2 a3, .int .u64 ab] 0 ∧
 Calls Try.prog 22 #[.pointer (some (blk q9)), .pointer o1, .agg #[.int .i64 a1, .int .i64 a7, .int .u64 a9, .int .i64 aa, .int .i64 ad, .int .i64 a6, .slice a4 a2 a3, .int .u64 ab]] af fun aj ah => ∃ (a0 : Int), aj = .returned (.int .i64 a0) ∧
 (a0 ≠ 0 →
 R (.tuple #[.int .i64 ae, .int .i64 a0]) ah) ∧
 (a0 = 0 →
 (-9223372036854775808 : Int) ≤ (ae + 1) ∧ (ae + 1) < 9223372036854775808 ∧
 ∃ ak, ak < al ∧ I0 ak [.int .i64 (ae + 1)] ah)) ∧
 ((ag : Int) ≤ ae →
 R (.tuple #[.int .i64 (ag : Int), .int .i64 0]) af))

theorem cachetteref07_Whole.up (o1 : Option Addr) (a0 : Int) (ak : Option Addr) (al : Nat) (aj : Nat) {R : Value → World → Prop} {w : World} (h : cachetteref07_Whole.N o1 a0 ak al aj R w) : cachetteref07_Whole.M o1 a0 ak al aj R w := by
  unfold cachetteref07_Whole.M
  unfold cachetteref07_Whole.N at h
  refine bif_of (fun c4 => ?_) (fun c4 => ?_)
  · have h := h.1 (beq_t c4)
    exact h
  · have h := h.2 (beq_f c4)
    obtain ⟨a5, am, h⟩ := h
    refine elim_some am ?_
    obtain ⟨af, h⟩ := h
    refine ⟨by decide, af, ?_⟩
    obtain ⟨a9, ax, h⟩ := h
    refine ⟨a9, ax, ?_⟩
    refine thenW_in fun az e8 => ?_
    have h := h az w.heap.size ((Ext.refl no w).x_alloc e8) (Blk.of_new e8) ((Ext.refl no w)).size (size_lt_alloc e8)
    obtain ⟨I0, an, h0, h⟩ := h
    refine ⟨I0, an, h0, fun aw ag ay hI => ?_⟩
    have h := h aw ag ay hI
    refine bif_of (fun ah => ?_) (fun ah => ?_)
    · have h := h.1 (of_decide_eq_true ah)
      refine elim_some am ?_
      obtain ⟨ap, af, h⟩ := h
      refine ⟨ap, af, ?_⟩
      obtain ⟨a1, a6, aa, ab, ad, a4, a8, a2, a3, ac, ai, h⟩ := h
      refine ⟨a1, a6, aa, ab, ad, a4, a8, a2, a3, ac, ai, ?_⟩
      refine h.mono fun ao au h => ?_
      obtain ⟨a7, he, h⟩ := h
      refine ⟨a7, he, ?_⟩
      refine bif_of (fun ae => ?_) (fun ae => ?_)
      · have h := h.1 (bne_t ae)
        exact h
      · have h := h.2 (bne_f ae)
        obtain ⟨av, ar, h⟩ := h
        try rw [w64 av ar]
        obtain ⟨aq, hk, h⟩ := h
        exact ⟨aq, hk, h⟩
    · have h := h.2 (Int.not_lt.1 (of_decide_eq_false ah))
      exact h

theorem cachetteref07_Whole.go (o1 : Option Addr) (a0 : Int) (a3 : Option Addr) (a1 : Nat) (a2 : Nat) {R : Value → World → Prop} {w : World} (h : cachetteref07_Whole.N o1 a0 a3 a1 a2 R w) : Calls Try.prog 24 #[.pointer o1, .int .u64 a0, .slice a3 a1 a2] w fun e w' => ∃ v, e = .returned v ∧ R v w' := cachetteref07_Whole.ok o1 a0 a3 a1 a2 (cachetteref07_Whole.up o1 a0 a3 a1 a2 h)
theorem cachetteref07_Whole.run (o1 : Option Addr) (a0 : Int) (a3 : Option Addr) (a1 : Nat) (a2 : Nat) {V : Value} {Q : World → Prop} {w : World} (h : cachetteref07_Whole.N o1 a0 a3 a1 a2 (fun v w' => v = V ∧ Q w') w) : Calls Try.prog 24 #[.pointer o1, .int .u64 a0, .slice a3 a1 a2] w (Ret V Q) := (cachetteref07_Whole.go o1 a0 a3 a1 a2 h).mono fun e w' ⟨v, he, hv, hq⟩ => ⟨by rw [he, hv], hq⟩

/-- cachettelaw07.turned -/
def cachettelaw07_turned.M (dz : Int) (ed : Int) (ff : Int) (g1 : Int) (gc : Int) (ee : Int) (eh : Option Addr) (ef : Nat) (eg : Nat) (g7 : Int) (a6 : Int) (R : Value → World → Prop) (w : World) : Prop :=
 thenW (w.alloc (.cells #[.int .i64 dz, .int .i64 ed, .int .u64 ff, .int .i64 g1, .int .i64 gc, .int .i64 ee, .slice eh ef eg, .int .u64 g7] 47)) fun a0 =>
 thenW (a0.alloc (.cells #[.int .i64 0, .int .i64 0, .int .u64 0, .int .i64 0, .int .i64 0, .int .i64 0, .slice none 0 0, .int .u64 0] 47)) fun a1 =>
 bif a6 == 0 then (
 ∃ (fb : Int), a1.cell? ((blk w.heap.size).add 7) = some (.int .u64 fb) ∧
 canStore a1 (((blk w.heap.size).add 7).add 0) ∧
 thenW (a1.setCell (((blk w.heap.size).add 7).add 0) (.int .u64 (IntKind.u64.wrap ((BitVec.ofInt (IntKind.bits .u64) fb ^^^ BitVec.ofInt (IntKind.bits .u64) 1).toNat)))) fun fi =>
 ∃ (bq : Int) (cz : Int) (dq : Int) (eb : Int) (e0 : Int) (cu : Int) (db : Option Addr) (d4 : Nat) (cv : Nat) (e6 : Int), cellsAt fi (blk w.heap.size) [.int .i64 bq, .int .i64 cz, .int .u64 dq, .int .i64 eb, .int .i64 e0, .int .i64 cu, .slice db d4 cv, .int .u64 e6] 0 ∧
 canStore fi ((blk a0.heap.size).add 0) ∧
 thenW (fi.setCell ((blk a0.heap.size).add 0) (.int .i64 bq)) fun gb =>
 canStore gb ((blk a0.heap.size).add 1) ∧
 thenW (gb.setCell ((blk a0.heap.size).add 1) (.int .i64 cz)) fun fz =>
 canStore fz ((blk a0.heap.size).add 2) ∧
 thenW (fz.setCell ((blk a0.heap.size).add 2) (.int .u64 dq)) fun g2 =>
 canStore g2 ((blk a0.heap.size).add 3) ∧
 thenW (g2.setCell ((blk a0.heap.size).add 3) (.int .i64 eb)) fun gd =>
 canStore gd ((blk a0.heap.size).add 4) ∧
 thenW (gd.setCell ((blk a0.heap.size).add 4) (.int .i64 e0)) fun fv =>
 canStore fv ((blk a0.heap.size).add 5) ∧
 thenW (fv.setCell ((blk a0.heap.size).add 5) (.int .i64 cu)) fun ga =>
 canStore ga ((blk a0.heap.size).add 6) ∧
 thenW (ga.setCell ((blk a0.heap.size).add 6) (.slice db d4 cv)) fun fx =>
 canStore fx ((blk a0.heap.size).add 7) ∧
 thenW (fx.setCell ((blk a0.heap.size).add 7) (.int .u64 e6)) fun g0 =>
 ∃ (ac : Int) (b7 : Int) (bi : Int) (cp : Int) (da : Int) (bh : Int) (b1 : Option Addr) (bc : Nat) (b8 : Nat) (dc : Int), cellsAt g0 (blk a0.heap.size) [.int .i64 ac, .int .i64 b7, .int .u64 bi, .int .i64 cp, .int .i64 da, .int .i64 bh, .slice b1 bc b8, .int .u64 dc] 0 ∧
 R (.agg #[.int .i64 ac, .int .i64 b7, .int .u64 bi, .int .i64 cp, .int .i64 da, .int .i64 bh, .slice b1 bc b8, .int .u64 dc]) g0) else (
 bif a6 == 1 then (
 thenW (a1.alloc (.cells #[.int .u8 7] 5)) fun fs =>
 ∃ (dk : Option Addr) (dv : Nat) (dt : Nat), fs.cell? ((blk w.heap.size).add 6) = some (.slice dk dv dt) ∧
 ∃ (gg : Option Addr) (g5 : Nat) (fo : Nat) (fk : World), (Builtin.append_ #[43, 43] 43 #[.slice (some (blk a1.heap.size)) 1 1, .slice dk dv dt]).run Try.prog fs = .ok (.slice gg g5 fo) fk ∧
 canStore fk (((blk w.heap.size).add 6).add 0) ∧
 thenW (fk.setCell (((blk w.heap.size).add 6).add 0) (.slice gg g5 fo)) fun fg =>
 ∃ (bp : Int) (d7 : Int) (dx : Int) (e2 : Int) (dy : Int) (cy : Int) (d1 : Option Addr) (d3 : Nat) (de : Nat) (e8 : Int), cellsAt fg (blk w.heap.size) [.int .i64 bp, .int .i64 d7, .int .u64 dx, .int .i64 e2, .int .i64 dy, .int .i64 cy, .slice d1 d3 de, .int .u64 e8] 0 ∧
 canStore fg ((blk a0.heap.size).add 0) ∧
 thenW (fg.setCell ((blk a0.heap.size).add 0) (.int .i64 bp)) fun g8 =>
 canStore g8 ((blk a0.heap.size).add 1) ∧
 thenW (g8.setCell ((blk a0.heap.size).add 1) (.int .i64 d7)) fun fq =>
 canStore fq ((blk a0.heap.size).add 2) ∧
 thenW (fq.setCell ((blk a0.heap.size).add 2) (.int .u64 dx)) fun ft =>
 canStore ft ((blk a0.heap.size).add 3) ∧
 thenW (ft.setCell ((blk a0.heap.size).add 3) (.int .i64 e2)) fun fy =>
 canStore fy ((blk a0.heap.size).add 4) ∧
 thenW (fy.setCell ((blk a0.heap.size).add 4) (.int .i64 dy)) fun fr =>
 canStore fr ((blk a0.heap.size).add 5) ∧
 thenW (fr.setCell ((blk a0.heap.size).add 5) (.int .i64 cy)) fun fm =>
 canStore fm ((blk a0.heap.size).add 6) ∧
 thenW (fm.setCell ((blk a0.heap.size).add 6) (.slice d1 d3 de)) fun fw =>
 canStore fw ((blk a0.heap.size).add 7) ∧
 thenW (fw.setCell ((blk a0.heap.size).add 7) (.int .u64 e8)) fun g3 =>
 ∃ (ae : Int) (az : Int) (cg : Int) (cn : Int) (cr : Int) (b5 : Int) (b2 : Option Addr) (ax : Nat) (bg : Nat) (d6 : Int), cellsAt g3 (blk a0.heap.size) [.int .i64 ae, .int .i64 az, .int .u64 cg, .int .i64 cn, .int .i64 cr, .int .i64 b5, .slice b2 ax bg, .int .u64 d6] 0 ∧
 R (.agg #[.int .i64 ae, .int .i64 az, .int .u64 cg, .int .i64 cn, .int .i64 cr, .int .i64 b5, .slice b2 ax bg, .int .u64 d6]) g3) else (
 bif a6 == 2 then (
 ∃ (ec : Int), a1.cell? ((blk w.heap.size).add 2) = some (.int .u64 ec) ∧
 canStore a1 (((blk w.heap.size).add 2).add 0) ∧
 thenW (a1.setCell (((blk w.heap.size).add 2).add 0) (.int .u64 (IntKind.u64.wrap ((BitVec.ofInt (IntKind.bits .u64) ec ^^^ BitVec.ofInt (IntKind.bits .u64) 1).toNat)))) fun fh =>
 ∃ (cd : Int) (ct : Int) (dl : Int) (ea : Int) (e7 : Int) (d0 : Int) (d5 : Option Addr) (cm : Nat) (cx : Nat) (e9 : Int), cellsAt fh (blk w.heap.size) [.int .i64 cd, .int .i64 ct, .int .u64 dl, .int .i64 ea, .int .i64 e7, .int .i64 d0, .slice d5 cm cx, .int .u64 e9] 0 ∧
 canStore fh ((blk a0.heap.size).add 0) ∧
 thenW (fh.setCell ((blk a0.heap.size).add 0) (.int .i64 cd)) fun fu =>
 canStore fu ((blk a0.heap.size).add 1) ∧
 thenW (fu.setCell ((blk a0.heap.size).add 1) (.int .i64 ct)) fun g6 =>
 canStore g6 ((blk a0.heap.size).add 2) ∧
 thenW (g6.setCell ((blk a0.heap.size).add 2) (.int .u64 dl)) fun fp =>
 canStore fp ((blk a0.heap.size).add 3) ∧
 thenW (fp.setCell ((blk a0.heap.size).add 3) (.int .i64 ea)) fun gf =>
 canStore gf ((blk a0.heap.size).add 4) ∧
 thenW (gf.setCell ((blk a0.heap.size).add 4) (.int .i64 e7)) fun ge =>
 canStore ge ((blk a0.heap.size).add 5) ∧
 thenW (ge.setCell ((blk a0.heap.size).add 5) (.int .i64 d0)) fun g4 =>
 canStore g4 ((blk a0.heap.size).add 6) ∧
 thenW (g4.setCell ((blk a0.heap.size).add 6) (.slice d5 cm cx)) fun fl =>
 canStore fl ((blk a0.heap.size).add 7) ∧
 thenW (fl.setCell ((blk a0.heap.size).add 7) (.int .u64 e9)) fun g9 =>
 ∃ (aj : Int) (b6 : Int) (bz : Int) (dd : Int) (d9 : Int) (bf : Int) (bd : Option Addr) (b3 : Nat) (ba : Nat) (cq : Int), cellsAt g9 (blk a0.heap.size) [.int .i64 aj, .int .i64 b6, .int .u64 bz, .int .i64 dd, .int .i64 d9, .int .i64 bf, .slice bd b3 ba, .int .u64 cq] 0 ∧
 R (.agg #[.int .i64 aj, .int .i64 b6, .int .u64 bz, .int .i64 dd, .int .i64 d9, .int .i64 bf, .slice bd b3 ba, .int .u64 cq]) g9) else (
 bif a6 == 3 then (
 ∃ (df : Int), a1.cell? ((blk w.heap.size).add 1) = some (.int .i64 df) ∧
 canStore a1 (((blk w.heap.size).add 1).add 0) ∧
 thenW (a1.setCell (((blk w.heap.size).add 1).add 0) (.int .i64 (IntKind.i64.wrap ((BitVec.ofInt (IntKind.bits .i64) df ^^^ BitVec.ofInt (IntKind.bits .i64) 1).toNat)))) fun fj =>
 ∃ (c0 : Int) (d8 : Int) (dp : Int) (e3 : Int) (e5 : Int) (br : Int) (c9 : Option Addr) (bw : Nat) (bt : Nat) (ds : Int), cellsAt fj (blk w.heap.size) [.int .i64 c0, .int .i64 d8, .int .u64 dp, .int .i64 e3, .int .i64 e5, .int .i64 br, .slice c9 bw bt, .int .u64 ds] 0 ∧
 canStore fj ((blk a0.heap.size).add 0) ∧
 thenW (fj.setCell ((blk a0.heap.size).add 0) (.int .i64 c0)) fun f2 =>
 canStore f2 ((blk a0.heap.size).add 1) ∧
 thenW (f2.setCell ((blk a0.heap.size).add 1) (.int .i64 d8)) fun f4 =>
 canStore f4 ((blk a0.heap.size).add 2) ∧
 thenW (f4.setCell ((blk a0.heap.size).add 2) (.int .u64 dp)) fun f1 =>
 canStore f1 ((blk a0.heap.size).add 3) ∧
 thenW (f1.setCell ((blk a0.heap.size).add 3) (.int .i64 e3)) fun f5 =>
 canStore f5 ((blk a0.heap.size).add 4) ∧
 thenW (f5.setCell ((blk a0.heap.size).add 4) (.int .i64 e5)) fun eo =>
 canStore eo ((blk a0.heap.size).add 5) ∧
 thenW (eo.setCell ((blk a0.heap.size).add 5) (.int .i64 br)) fun en =>
 canStore en ((blk a0.heap.size).add 6) ∧
 thenW (en.setCell ((blk a0.heap.size).add 6) (.slice c9 bw bt)) fun f3 =>
 canStore f3 ((blk a0.heap.size).add 7) ∧
 thenW (f3.setCell ((blk a0.heap.size).add 7) (.int .u64 ds)) fun ei =>
 ∃ (a3 : Int) (ai : Int) (bb : Int) (c4 : Int) (ce : Int) (af : Int) (a7 : Option Addr) (au : Nat) (av : Nat) (bu : Int), cellsAt ei (blk a0.heap.size) [.int .i64 a3, .int .i64 ai, .int .u64 bb, .int .i64 c4, .int .i64 ce, .int .i64 af, .slice a7 au av, .int .u64 bu] 0 ∧
 R (.agg #[.int .i64 a3, .int .i64 ai, .int .u64 bb, .int .i64 c4, .int .i64 ce, .int .i64 af, .slice a7 au av, .int .u64 bu]) ei) else (
 bif a6 == 4 then (
 ∃ (ci : Int), a1.cell? ((blk w.heap.size).add 0) = some (.int .i64 ci) ∧
 canStore a1 (((blk w.heap.size).add 0).add 0) ∧
 thenW (a1.setCell (((blk w.heap.size).add 0).add 0) (.int .i64 (IntKind.i64.wrap ((BitVec.ofInt (IntKind.bits .i64) ci ^^^ BitVec.ofInt (IntKind.bits .i64) 1).toNat)))) fun e1 =>
 ∃ (aw : Int) (c2 : Int) (cs : Int) (dg : Int) (du : Int) (bx : Int) (ck : Option Addr) (bj : Nat) (cf : Nat) (dr : Int), cellsAt e1 (blk w.heap.size) [.int .i64 aw, .int .i64 c2, .int .u64 cs, .int .i64 dg, .int .i64 du, .int .i64 bx, .slice ck bj cf, .int .u64 dr] 0 ∧
 canStore e1 ((blk a0.heap.size).add 0) ∧
 thenW (e1.setCell ((blk a0.heap.size).add 0) (.int .i64 aw)) fun ew =>
 canStore ew ((blk a0.heap.size).add 1) ∧
 thenW (ew.setCell ((blk a0.heap.size).add 1) (.int .i64 c2)) fun fc =>
 canStore fc ((blk a0.heap.size).add 2) ∧
 thenW (fc.setCell ((blk a0.heap.size).add 2) (.int .u64 cs)) fun er =>
 canStore er ((blk a0.heap.size).add 3) ∧
 thenW (er.setCell ((blk a0.heap.size).add 3) (.int .i64 dg)) fun ex =>
 canStore ex ((blk a0.heap.size).add 4) ∧
 thenW (ex.setCell ((blk a0.heap.size).add 4) (.int .i64 du)) fun es =>
 canStore es ((blk a0.heap.size).add 5) ∧
 thenW (es.setCell ((blk a0.heap.size).add 5) (.int .i64 bx)) fun ey =>
 canStore ey ((blk a0.heap.size).add 6) ∧
 thenW (ey.setCell ((blk a0.heap.size).add 6) (.slice ck bj cf)) fun fe =>
 canStore fe ((blk a0.heap.size).add 7) ∧
 thenW (fe.setCell ((blk a0.heap.size).add 7) (.int .u64 dr)) fun el =>
 ∃ (a4 : Int) (al : Int) (b9 : Int) (bo : Int) (bs : Int) (ab : Int) (a9 : Option Addr) (ar : Nat) (ao : Nat) (cl : Int), cellsAt el (blk a0.heap.size) [.int .i64 a4, .int .i64 al, .int .u64 b9, .int .i64 bo, .int .i64 bs, .int .i64 ab, .slice a9 ar ao, .int .u64 cl] 0 ∧
 R (.agg #[.int .i64 a4, .int .i64 al, .int .u64 b9, .int .i64 bo, .int .i64 bs, .int .i64 ab, .slice a9 ar ao, .int .u64 cl]) el) else (
 bif a6 == 5 then (
 ∃ (d2 : Int), a1.cell? ((blk w.heap.size).add 5) = some (.int .i64 d2) ∧
 canStore a1 (((blk w.heap.size).add 5).add 0) ∧
 thenW (a1.setCell (((blk w.heap.size).add 5).add 0) (.int .i64 (IntKind.i64.wrap ((BitVec.ofInt (IntKind.bits .i64) d2 ^^^ BitVec.ofInt (IntKind.bits .i64) 1).toNat)))) fun e4 =>
 ∃ (b0 : Int) (c3 : Int) (cw : Int) (di : Int) (dn : Int) (bl : Int) (cj : Option Addr) (c1 : Nat) (c6 : Nat) (dw : Int), cellsAt e4 (blk w.heap.size) [.int .i64 b0, .int .i64 c3, .int .u64 cw, .int .i64 di, .int .i64 dn, .int .i64 bl, .slice cj c1 c6, .int .u64 dw] 0 ∧
 canStore e4 ((blk a0.heap.size).add 0) ∧
 thenW (e4.setCell ((blk a0.heap.size).add 0) (.int .i64 b0)) fun ev =>
 canStore ev ((blk a0.heap.size).add 1) ∧
 thenW (ev.setCell ((blk a0.heap.size).add 1) (.int .i64 c3)) fun ez =>
 canStore ez ((blk a0.heap.size).add 2) ∧
 thenW (ez.setCell ((blk a0.heap.size).add 2) (.int .u64 cw)) fun ek =>
 canStore ek ((blk a0.heap.size).add 3) ∧
 thenW (ek.setCell ((blk a0.heap.size).add 3) (.int .i64 di)) fun em =>
 canStore em ((blk a0.heap.size).add 4) ∧
 thenW (em.setCell ((blk a0.heap.size).add 4) (.int .i64 dn)) fun eu =>
 canStore eu ((blk a0.heap.size).add 5) ∧
 thenW (eu.setCell ((blk a0.heap.size).add 5) (.int .i64 bl)) fun f9 =>
 canStore f9 ((blk a0.heap.size).add 6) ∧
 thenW (f9.setCell ((blk a0.heap.size).add 6) (.slice cj c1 c6)) fun f0 =>
 canStore f0 ((blk a0.heap.size).add 7) ∧
 thenW (f0.setCell ((blk a0.heap.size).add 7) (.int .u64 dw)) fun ep =>
 ∃ (a2 : Int) (ah : Int) (b4 : Int) (c5 : Int) (bk : Int) (aq : Int) (am : Option Addr) (a8 : Nat) (ap : Nat) (bv : Int), cellsAt ep (blk a0.heap.size) [.int .i64 a2, .int .i64 ah, .int .u64 b4, .int .i64 c5, .int .i64 bk, .int .i64 aq, .slice am a8 ap, .int .u64 bv] 0 ∧
 R (.agg #[.int .i64 a2, .int .i64 ah, .int .u64 b4, .int .i64 c5, .int .i64 bk, .int .i64 aq, .slice am a8 ap, .int .u64 bv]) ep) else (
 ∃ (ay : Int) (ca : Int) (co : Int) (dj : Int) (dm : Int) (cc : Int) (bm : Option Addr) (c8 : Nat) (ch : Nat) (dh : Int), cellsAt a1 (blk w.heap.size) [.int .i64 ay, .int .i64 ca, .int .u64 co, .int .i64 dj, .int .i64 dm, .int .i64 cc, .slice bm c8 ch, .int .u64 dh] 0 ∧
 canStore a1 ((blk a0.heap.size).add 0) ∧
 thenW (a1.setCell ((blk a0.heap.size).add 0) (.int .i64 ay)) fun ej =>
 canStore ej ((blk a0.heap.size).add 1) ∧
 thenW (ej.setCell ((blk a0.heap.size).add 1) (.int .i64 ca)) fun fd =>
 canStore fd ((blk a0.heap.size).add 2) ∧
 thenW (fd.setCell ((blk a0.heap.size).add 2) (.int .u64 co)) fun f6 =>
 canStore f6 ((blk a0.heap.size).add 3) ∧
 thenW (f6.setCell ((blk a0.heap.size).add 3) (.int .i64 dj)) fun eq =>
 canStore eq ((blk a0.heap.size).add 4) ∧
 thenW (eq.setCell ((blk a0.heap.size).add 4) (.int .i64 dm)) fun et =>
 canStore et ((blk a0.heap.size).add 5) ∧
 thenW (et.setCell ((blk a0.heap.size).add 5) (.int .i64 cc)) fun fa =>
 canStore fa ((blk a0.heap.size).add 6) ∧
 thenW (fa.setCell ((blk a0.heap.size).add 6) (.slice bm c8 ch)) fun f7 =>
 canStore f7 ((blk a0.heap.size).add 7) ∧
 thenW (f7.setCell ((blk a0.heap.size).add 7) (.int .u64 dh)) fun f8 =>
 ∃ (a5 : Int) (ad : Int) (be : Int) (bn : Int) (c7 : Int) (ak : Int) (an : Option Addr) (aa : Nat) (ag : Nat) (cb : Int), cellsAt f8 (blk a0.heap.size) [.int .i64 a5, .int .i64 ad, .int .u64 be, .int .i64 bn, .int .i64 c7, .int .i64 ak, .slice an aa ag, .int .u64 cb] 0 ∧
 R (.agg #[.int .i64 a5, .int .i64 ad, .int .u64 be, .int .i64 bn, .int .i64 c7, .int .i64 ak, .slice an aa ag, .int .u64 cb]) f8))))))

theorem cachettelaw07_turned.eq (eWriter1 : Int) (eIndex2 : Int) (ePrev3 : Int) (eAtT4 : Int) (eAtW5 : Int) (eEpoch6 : Int) (eBody7a : Option Addr) (eBody7n : Nat) (eBody7c : Nat) (eSig8 : Int) (field9 : Int) (R : Value → World → Prop) (w : World) : mfunc Try.prog [] 18 [.agg #[.int .i64 eWriter1, .int .i64 eIndex2, .int .u64 ePrev3, .int .i64 eAtT4, .int .i64 eAtW5, .int .i64 eEpoch6, .slice eBody7a eBody7n eBody7c, .int .u64 eSig8], .int .i64 field9] R w = cachettelaw07_turned.M eWriter1 eIndex2 ePrev3 eAtT4 eAtW5 eEpoch6 eBody7a eBody7n eBody7c eSig8 field9 R w := by kernel_rfl
theorem cachettelaw07_turned.ok (a0 : Int) (a2 : Int) (a6 : Int) (a8 : Int) (aa : Int) (a3 : Int) (a1 : Option Addr) (a4 : Nat) (a5 : Nat) (a9 : Int) (a7 : Int) {R : Value → World → Prop} {w : World} (h : cachettelaw07_turned.M a0 a2 a6 a8 aa a3 a1 a4 a5 a9 a7 R w) : Calls Try.prog 18 #[.agg #[.int .i64 a0, .int .i64 a2, .int .u64 a6, .int .i64 a8, .int .i64 aa, .int .i64 a3, .slice a1 a4 a5, .int .u64 a9], .int .i64 a7] w fun e w' => ∃ v, e = .returned v ∧ R v w' :=
  mfunc_ok follows (H := []) (args := [.agg #[.int .i64 a0, .int .i64 a2, .int .u64 a6, .int .i64 a8, .int .i64 aa, .int .i64 a3, .slice a1 a4 a5, .int .u64 a9], .int .i64 a7]) (by rw [cachettelaw07_turned.eq]; exact h)

def cachettelaw07_turned.N (a1 : Int) (a4 : Int) (a7 : Int) (aa : Int) (a8 : Int) (a2 : Int) (a6 : Option Addr) (a3 : Nat) (a5 : Nat) (a9 : Int) (a0 : Int) (R : Value → World → Prop) (w : World) : Prop :=
 (a0 = 0 →
 ∀ (aj : World), Ext no w aj →
 R (.agg #[.int .i64 a1, .int .i64 a4, .int .u64 a7, .int .i64 aa, .int .i64 a8, .int .i64 a2, .slice a6 a3 a5, .int .u64 (IntKind.u64.wrap ((BitVec.ofInt (IntKind.bits .u64) a9 ^^^ BitVec.ofInt (IntKind.bits .u64) 1).toNat))]) aj) ∧
 (a0 ≠ 0 →
 (a0 = 1 →
 ∀ (ab : World) (ah : Nat) (ao : Nat) (ap : Nat), Ext no w ab → Blk ab ah 5 [.int .u8 7] → w.heap.size ≤ ah → ah < ab.heap.size → Privq w ah [ao, ap] →
 ∃ (al : Option Addr) (am : Nat) (ai : Nat) (ac : World), (Builtin.append_ #[43, 43] 43 #[.slice (some (blk ah)) 1 1, .slice a6 a3 a5]).run Try.prog ab = .ok (.slice al am ai) ac ∧
 Keep [ao, ap] ab ac ∧
 ∀ (an : World), Ext (fun b => b = ap ∨ b = ao) ac an →
 R (.agg #[.int .i64 a1, .int .i64 a4, .int .u64 a7, .int .i64 aa, .int .i64 a8, .int .i64 a2, .slice al am ai, .int .u64 a9]) an) ∧
 (a0 ≠ 1 →
 (a0 = 2 →
 ∀ (ae : World), Ext no w ae →
 R (.agg #[.int .i64 a1, .int .i64 a4, .int .u64 (IntKind.u64.wrap ((BitVec.ofInt (IntKind.bits .u64) a7 ^^^ BitVec.ofInt (IntKind.bits .u64) 1).toNat)), .int .i64 aa, .int .i64 a8, .int .i64 a2, .slice a6 a3 a5, .int .u64 a9]) ae) ∧
 (a0 ≠ 2 →
 (a0 = 3 →
 ∀ (ag : World), Ext no w ag →
 R (.agg #[.int .i64 a1, .int .i64 (IntKind.i64.wrap ((BitVec.ofInt (IntKind.bits .i64) a4 ^^^ BitVec.ofInt (IntKind.bits .i64) 1).toNat)), .int .u64 a7, .int .i64 aa, .int .i64 a8, .int .i64 a2, .slice a6 a3 a5, .int .u64 a9]) ag) ∧
 (a0 ≠ 3 →
 (a0 = 4 →
 ∀ (ak : World), Ext no w ak →
 R (.agg #[.int .i64 (IntKind.i64.wrap ((BitVec.ofInt (IntKind.bits .i64) a1 ^^^ BitVec.ofInt (IntKind.bits .i64) 1).toNat)), .int .i64 a4, .int .u64 a7, .int .i64 aa, .int .i64 a8, .int .i64 a2, .slice a6 a3 a5, .int .u64 a9]) ak) ∧
 (a0 ≠ 4 →
 (a0 = 5 →
 ∀ (af : World), Ext no w af →
 R (.agg #[.int .i64 a1, .int .i64 a4, .int .u64 a7, .int .i64 aa, .int .i64 a8, .int .i64 (IntKind.i64.wrap ((BitVec.ofInt (IntKind.bits .i64) a2 ^^^ BitVec.ofInt (IntKind.bits .i64) 1).toNat)), .slice a6 a3 a5, .int .u64 a9]) af) ∧
 (a0 ≠ 5 →
 ∀ (ad : World), Ext no w ad →
 R (.agg #[.int .i64 a1, .int .i64 a4, .int .u64 a7, .int .i64 aa, .int .i64 a8, .int .i64 a2, .slice a6 a3 a5, .int .u64 a9]) ad))))))

theorem cachettelaw07_turned.up (a0 : Int) (a1 : Int) (a2 : Int) (a6 : Int) (aa : Int) (a5 : Int) (a9 : Option Addr) (a7 : Nat) (a8 : Nat) (ab : Int) (aj : Int) {R : Value → World → Prop} {w : World} (h : cachettelaw07_turned.N a0 a1 a2 a6 aa a5 a9 a7 a8 ab aj R w) : cachettelaw07_turned.M a0 a1 a2 a6 aa a5 a9 a7 a8 ab aj R w := by
  unfold cachettelaw07_turned.M
  unfold cachettelaw07_turned.N at h
  refine thenW_in fun a4 ey => ?_
  have ac := Blk.of_new ey
  have al := ((Ext.refl no w)).size
  have an := (Ext.refl no w).x_alloc ey
  refine thenW_in fun bb co => ?_
  have a3 := Blk.of_new co
  have ad := (an).size
  have ae := Nat.ne_of_lt ac.lt
  have ac := ac.x_alloc co
  have af := an.x_alloc co
  refine bif_of (fun d0 => ?_) (fun d0 => ?_)
  · have h := h.1 (beq_t d0)
    refine ⟨ab, ac.celli 7 rfl rfl, ?_⟩
    refine ⟨ac.cani 7 rfl rfl, thenW_in fun e8 d4 => ?_⟩
    have eb := af.x_set (q := w.heap.size) (i := 7) rfl (.inr al) d4
    have ac : Blk e8 w.heap.size 47 [.int .i64 a0, .int .i64 a1, .int .u64 a2, .int .i64 a6, .int .i64 aa, .int .i64 a5, .slice a9 a7 a8, .int .u64 (IntKind.u64.wrap ((BitVec.ofInt (IntKind.bits .u64) ab ^^^ BitVec.ofInt (IntKind.bits .u64) 1).toNat))] := ac.seti 7 rfl d4
    have a3 := a3.oth (q := w.heap.size) (i := 7) rfl (Ne.symm ae) d4
    refine ⟨a0, a1, a2, a6, aa, a5, a9, a7, a8, (IntKind.u64.wrap ((BitVec.ofInt (IntKind.bits .u64) ab ^^^ BitVec.ofInt (IntKind.bits .u64) 1).toNat)), ⟨ac.celli 0 rfl rfl, ac.celli 1 rfl rfl, ac.celli 2 rfl rfl, ac.celli 3 rfl rfl, ac.celli 4 rfl rfl, ac.celli 5 rfl rfl, ac.celli 6 rfl rfl, ac.celli 7 rfl rfl, trivial⟩, ?_⟩
    refine ⟨a3.cani 0 rfl rfl, thenW_in fun b0 fl => ?_⟩
    have cp := eb.x_set (q := a4.heap.size) (i := 0) rfl (.inr ad) fl
    have a3 : Blk b0 a4.heap.size 47 [.int .i64 a0, .int .i64 0, .int .u64 0, .int .i64 0, .int .i64 0, .int .i64 0, .slice none 0 0, .int .u64 0] := a3.seti 0 rfl fl
    refine ⟨a3.cani 1 rfl rfl, thenW_in fun cf fq => ?_⟩
    have cl := cp.x_set (q := a4.heap.size) (i := 1) rfl (.inr ad) fq
    have a3 : Blk cf a4.heap.size 47 [.int .i64 a0, .int .i64 a1, .int .u64 0, .int .i64 0, .int .i64 0, .int .i64 0, .slice none 0 0, .int .u64 0] := a3.seti 1 rfl fq
    refine ⟨a3.cani 2 rfl rfl, thenW_in fun d6 es => ?_⟩
    have dn := cl.x_set (q := a4.heap.size) (i := 2) rfl (.inr ad) es
    have a3 : Blk d6 a4.heap.size 47 [.int .i64 a0, .int .i64 a1, .int .u64 a2, .int .i64 0, .int .i64 0, .int .i64 0, .slice none 0 0, .int .u64 0] := a3.seti 2 rfl es
    refine ⟨a3.cani 3 rfl rfl, thenW_in fun dq g8 => ?_⟩
    have ec := dn.x_set (q := a4.heap.size) (i := 3) rfl (.inr ad) g8
    have a3 : Blk dq a4.heap.size 47 [.int .i64 a0, .int .i64 a1, .int .u64 a2, .int .i64 a6, .int .i64 0, .int .i64 0, .slice none 0 0, .int .u64 0] := a3.seti 3 rfl g8
    refine ⟨a3.cani 4 rfl rfl, thenW_in fun b5 et => ?_⟩
    have bk := ec.x_set (q := a4.heap.size) (i := 4) rfl (.inr ad) et
    have a3 : Blk b5 a4.heap.size 47 [.int .i64 a0, .int .i64 a1, .int .u64 a2, .int .i64 a6, .int .i64 aa, .int .i64 0, .slice none 0 0, .int .u64 0] := a3.seti 4 rfl et
    refine ⟨a3.cani 5 rfl rfl, thenW_in fun c6 fh => ?_⟩
    have ci := bk.x_set (q := a4.heap.size) (i := 5) rfl (.inr ad) fh
    have a3 : Blk c6 a4.heap.size 47 [.int .i64 a0, .int .i64 a1, .int .u64 a2, .int .i64 a6, .int .i64 aa, .int .i64 a5, .slice none 0 0, .int .u64 0] := a3.seti 5 rfl fh
    refine ⟨a3.cani 6 rfl rfl, thenW_in fun b7 f8 => ?_⟩
    have c8 := ci.x_set (q := a4.heap.size) (i := 6) rfl (.inr ad) f8
    have a3 : Blk b7 a4.heap.size 47 [.int .i64 a0, .int .i64 a1, .int .u64 a2, .int .i64 a6, .int .i64 aa, .int .i64 a5, .slice a9 a7 a8, .int .u64 0] := a3.seti 6 rfl f8
    refine ⟨a3.cani 7 rfl rfl, thenW_in fun ar fz => ?_⟩
    have d5 := c8.x_set (q := a4.heap.size) (i := 7) rfl (.inr ad) fz
    have a3 : Blk ar a4.heap.size 47 [.int .i64 a0, .int .i64 a1, .int .u64 a2, .int .i64 a6, .int .i64 aa, .int .i64 a5, .slice a9 a7 a8, .int .u64 (IntKind.u64.wrap ((BitVec.ofInt (IntKind.bits .u64) ab ^^^ BitVec.ofInt (IntKind.bits .u64) 1).toNat))] := a3.seti 7 rfl fz
    refine ⟨a0, a1, a2, a6, aa, a5, a9, a7, a8, (IntKind.u64.wrap ((BitVec.ofInt (IntKind.bits .u64) ab ^^^ BitVec.ofInt (IntKind.bits .u64) 1).toNat)), ⟨a3.celli 0 rfl rfl, a3.celli 1 rfl rfl, a3.celli 2 rfl rfl, a3.celli 3 rfl rfl, a3.celli 4 rfl rfl, a3.celli 5 rfl rfl, a3.celli 6 rfl rfl, a3.celli 7 rfl rfl, trivial⟩, ?_⟩
    have h := h ar d5
    exact h
  · have h := h.2 (beq_f d0)
    refine bif_of (fun bc => ?_) (fun bc => ?_)
    · have h := h.1 (beq_t bc)
      refine thenW_in fun e9 ax => ?_
      have gc := ac.lt
      have gb := a3.lt
      have ac := ac.x_alloc ax
      have a3 := a3.x_alloc ax
      have h := h e9 bb.heap.size (w.heap.size) (a4.heap.size) (af.x_alloc ax) (Blk.of_new ax) (af).size (size_lt_alloc ax) (Privq.cons al gc (Privq.cons ad gb Privq.nil))
      refine ⟨a9, a7, a8, ac.celli 6 rfl rfl, ?_⟩
      obtain ⟨ah, ai, ag, ak, hr, hk, h⟩ := h
      refine ⟨ah, ai, ag, ak, hr, ?_⟩
      have ac := hk.blk ac (by simp)
      have a3 := hk.blk a3 (by simp)
      have dr : Ext (fun b => b = w.heap.size) ak ak := ((Ext.refl no ak)).none
      refine ⟨ac.cani 6 rfl rfl, thenW_in fun ao b8 => ?_⟩
      have dx := dr.x_set (q := w.heap.size) (i := 6) rfl (.inl rfl) b8
      have ac : Blk ao w.heap.size 47 [.int .i64 a0, .int .i64 a1, .int .u64 a2, .int .i64 a6, .int .i64 aa, .int .i64 a5, .slice ah ai ag, .int .u64 ab] := ac.seti 6 rfl b8
      have a3 := a3.oth (q := w.heap.size) (i := 6) rfl (Ne.symm ae) b8
      refine ⟨a0, a1, a2, a6, aa, a5, ah, ai, ag, ab, ⟨ac.celli 0 rfl rfl, ac.celli 1 rfl rfl, ac.celli 2 rfl rfl, ac.celli 3 rfl rfl, ac.celli 4 rfl rfl, ac.celli 5 rfl rfl, ac.celli 6 rfl rfl, ac.celli 7 rfl rfl, trivial⟩, ?_⟩
      have bv : Ext (fun b => b = a4.heap.size ∨ b = w.heap.size) ak ao := (dx).mono fun _ h _ => .inr h
      refine ⟨a3.cani 0 rfl rfl, thenW_in fun ds eu => ?_⟩
      have cc := bv.x_set (q := a4.heap.size) (i := 0) rfl (.inl (.inl rfl)) eu
      have a3 : Blk ds a4.heap.size 47 [.int .i64 a0, .int .i64 0, .int .u64 0, .int .i64 0, .int .i64 0, .int .i64 0, .slice none 0 0, .int .u64 0] := a3.seti 0 rfl eu
      refine ⟨a3.cani 1 rfl rfl, thenW_in fun bg fb => ?_⟩
      have b9 := cc.x_set (q := a4.heap.size) (i := 1) rfl (.inl (.inl rfl)) fb
      have a3 : Blk bg a4.heap.size 47 [.int .i64 a0, .int .i64 a1, .int .u64 0, .int .i64 0, .int .i64 0, .int .i64 0, .slice none 0 0, .int .u64 0] := a3.seti 1 rfl fb
      refine ⟨a3.cani 2 rfl rfl, thenW_in fun d2 fj => ?_⟩
      have bj := b9.x_set (q := a4.heap.size) (i := 2) rfl (.inl (.inl rfl)) fj
      have a3 : Blk d2 a4.heap.size 47 [.int .i64 a0, .int .i64 a1, .int .u64 a2, .int .i64 0, .int .i64 0, .int .i64 0, .slice none 0 0, .int .u64 0] := a3.seti 2 rfl fj
      refine ⟨a3.cani 3 rfl rfl, thenW_in fun bs ff => ?_⟩
      have b1 := bj.x_set (q := a4.heap.size) (i := 3) rfl (.inl (.inl rfl)) ff
      have a3 : Blk bs a4.heap.size 47 [.int .i64 a0, .int .i64 a1, .int .u64 a2, .int .i64 a6, .int .i64 0, .int .i64 0, .slice none 0 0, .int .u64 0] := a3.seti 3 rfl ff
      refine ⟨a3.cani 4 rfl rfl, thenW_in fun dl ep => ?_⟩
      have ch := b1.x_set (q := a4.heap.size) (i := 4) rfl (.inl (.inl rfl)) ep
      have a3 : Blk dl a4.heap.size 47 [.int .i64 a0, .int .i64 a1, .int .u64 a2, .int .i64 a6, .int .i64 aa, .int .i64 0, .slice none 0 0, .int .u64 0] := a3.seti 4 rfl ep
      refine ⟨a3.cani 5 rfl rfl, thenW_in fun bo g6 => ?_⟩
      have d3 := ch.x_set (q := a4.heap.size) (i := 5) rfl (.inl (.inl rfl)) g6
      have a3 : Blk bo a4.heap.size 47 [.int .i64 a0, .int .i64 a1, .int .u64 a2, .int .i64 a6, .int .i64 aa, .int .i64 a5, .slice none 0 0, .int .u64 0] := a3.seti 5 rfl g6
      refine ⟨a3.cani 6 rfl rfl, thenW_in fun c1 eq => ?_⟩
      have c3 := d3.x_set (q := a4.heap.size) (i := 6) rfl (.inl (.inl rfl)) eq
      have a3 : Blk c1 a4.heap.size 47 [.int .i64 a0, .int .i64 a1, .int .u64 a2, .int .i64 a6, .int .i64 aa, .int .i64 a5, .slice ah ai ag, .int .u64 0] := a3.seti 6 rfl eq
      refine ⟨a3.cani 7 rfl rfl, thenW_in fun av f3 => ?_⟩
      have cu := c3.x_set (q := a4.heap.size) (i := 7) rfl (.inl (.inl rfl)) f3
      have a3 : Blk av a4.heap.size 47 [.int .i64 a0, .int .i64 a1, .int .u64 a2, .int .i64 a6, .int .i64 aa, .int .i64 a5, .slice ah ai ag, .int .u64 ab] := a3.seti 7 rfl f3
      refine ⟨a0, a1, a2, a6, aa, a5, ah, ai, ag, ab, ⟨a3.celli 0 rfl rfl, a3.celli 1 rfl rfl, a3.celli 2 rfl rfl, a3.celli 3 rfl rfl, a3.celli 4 rfl rfl, a3.celli 5 rfl rfl, a3.celli 6 rfl rfl, a3.celli 7 rfl rfl, trivial⟩, ?_⟩
      have h := h av cu
      exact h
    · have h := h.2 (beq_f bc)
      refine bif_of (fun d1 => ?_) (fun d1 => ?_)
      · have h := h.1 (beq_t d1)
        refine ⟨a2, ac.celli 2 rfl rfl, ?_⟩
        refine ⟨ac.cani 2 rfl rfl, thenW_in fun eo d8 => ?_⟩
        have cj := af.x_set (q := w.heap.size) (i := 2) rfl (.inr al) d8
        have ac : Blk eo w.heap.size 47 [.int .i64 a0, .int .i64 a1, .int .u64 (IntKind.u64.wrap ((BitVec.ofInt (IntKind.bits .u64) a2 ^^^ BitVec.ofInt (IntKind.bits .u64) 1).toNat)), .int .i64 a6, .int .i64 aa, .int .i64 a5, .slice a9 a7 a8, .int .u64 ab] := ac.seti 2 rfl d8
        have a3 := a3.oth (q := w.heap.size) (i := 2) rfl (Ne.symm ae) d8
        refine ⟨a0, a1, (IntKind.u64.wrap ((BitVec.ofInt (IntKind.bits .u64) a2 ^^^ BitVec.ofInt (IntKind.bits .u64) 1).toNat)), a6, aa, a5, a9, a7, a8, ab, ⟨ac.celli 0 rfl rfl, ac.celli 1 rfl rfl, ac.celli 2 rfl rfl, ac.celli 3 rfl rfl, ac.celli 4 rfl rfl, ac.celli 5 rfl rfl, ac.celli 6 rfl rfl, ac.celli 7 rfl rfl, trivial⟩, ?_⟩
        refine ⟨a3.cani 0 rfl rfl, thenW_in fun bi ft => ?_⟩
        have dp := cj.x_set (q := a4.heap.size) (i := 0) rfl (.inr ad) ft
        have a3 : Blk bi a4.heap.size 47 [.int .i64 a0, .int .i64 0, .int .u64 0, .int .i64 0, .int .i64 0, .int .i64 0, .slice none 0 0, .int .u64 0] := a3.seti 0 rfl ft
        refine ⟨a3.cani 1 rfl rfl, thenW_in fun cb g7 => ?_⟩
        have b3 := dp.x_set (q := a4.heap.size) (i := 1) rfl (.inr ad) g7
        have a3 : Blk cb a4.heap.size 47 [.int .i64 a0, .int .i64 a1, .int .u64 0, .int .i64 0, .int .i64 0, .int .i64 0, .slice none 0 0, .int .u64 0] := a3.seti 1 rfl g7
        refine ⟨a3.cani 2 rfl rfl, thenW_in fun cy g5 => ?_⟩
        have ba := b3.x_set (q := a4.heap.size) (i := 2) rfl (.inr ad) g5
        have a3 : Blk cy a4.heap.size 47 [.int .i64 a0, .int .i64 a1, .int .u64 (IntKind.u64.wrap ((BitVec.ofInt (IntKind.bits .u64) a2 ^^^ BitVec.ofInt (IntKind.bits .u64) 1).toNat)), .int .i64 0, .int .i64 0, .int .i64 0, .slice none 0 0, .int .u64 0] := a3.seti 2 rfl g5
        refine ⟨a3.cani 3 rfl rfl, thenW_in fun eg g3 => ?_⟩
        have ct := ba.x_set (q := a4.heap.size) (i := 3) rfl (.inr ad) g3
        have a3 : Blk eg a4.heap.size 47 [.int .i64 a0, .int .i64 a1, .int .u64 (IntKind.u64.wrap ((BitVec.ofInt (IntKind.bits .u64) a2 ^^^ BitVec.ofInt (IntKind.bits .u64) 1).toNat)), .int .i64 a6, .int .i64 0, .int .i64 0, .slice none 0 0, .int .u64 0] := a3.seti 3 rfl g3
        refine ⟨a3.cani 4 rfl rfl, thenW_in fun bl fp => ?_⟩
        have eh := ct.x_set (q := a4.heap.size) (i := 4) rfl (.inr ad) fp
        have a3 : Blk bl a4.heap.size 47 [.int .i64 a0, .int .i64 a1, .int .u64 (IntKind.u64.wrap ((BitVec.ofInt (IntKind.bits .u64) a2 ^^^ BitVec.ofInt (IntKind.bits .u64) 1).toNat)), .int .i64 a6, .int .i64 aa, .int .i64 0, .slice none 0 0, .int .u64 0] := a3.seti 4 rfl fp
        refine ⟨a3.cani 5 rfl rfl, thenW_in fun bm fg => ?_⟩
        have cs := eh.x_set (q := a4.heap.size) (i := 5) rfl (.inr ad) fg
        have a3 : Blk bm a4.heap.size 47 [.int .i64 a0, .int .i64 a1, .int .u64 (IntKind.u64.wrap ((BitVec.ofInt (IntKind.bits .u64) a2 ^^^ BitVec.ofInt (IntKind.bits .u64) 1).toNat)), .int .i64 a6, .int .i64 aa, .int .i64 a5, .slice none 0 0, .int .u64 0] := a3.seti 5 rfl fg
        refine ⟨a3.cani 6 rfl rfl, thenW_in fun cx f2 => ?_⟩
        have dt := cs.x_set (q := a4.heap.size) (i := 6) rfl (.inr ad) f2
        have a3 : Blk cx a4.heap.size 47 [.int .i64 a0, .int .i64 a1, .int .u64 (IntKind.u64.wrap ((BitVec.ofInt (IntKind.bits .u64) a2 ^^^ BitVec.ofInt (IntKind.bits .u64) 1).toNat)), .int .i64 a6, .int .i64 aa, .int .i64 a5, .slice a9 a7 a8, .int .u64 0] := a3.seti 6 rfl f2
        refine ⟨a3.cani 7 rfl rfl, thenW_in fun ap f4 => ?_⟩
        have dm := dt.x_set (q := a4.heap.size) (i := 7) rfl (.inr ad) f4
        have a3 : Blk ap a4.heap.size 47 [.int .i64 a0, .int .i64 a1, .int .u64 (IntKind.u64.wrap ((BitVec.ofInt (IntKind.bits .u64) a2 ^^^ BitVec.ofInt (IntKind.bits .u64) 1).toNat)), .int .i64 a6, .int .i64 aa, .int .i64 a5, .slice a9 a7 a8, .int .u64 ab] := a3.seti 7 rfl f4
        refine ⟨a0, a1, (IntKind.u64.wrap ((BitVec.ofInt (IntKind.bits .u64) a2 ^^^ BitVec.ofInt (IntKind.bits .u64) 1).toNat)), a6, aa, a5, a9, a7, a8, ab, ⟨a3.celli 0 rfl rfl, a3.celli 1 rfl rfl, a3.celli 2 rfl rfl, a3.celli 3 rfl rfl, a3.celli 4 rfl rfl, a3.celli 5 rfl rfl, a3.celli 6 rfl rfl, a3.celli 7 rfl rfl, trivial⟩, ?_⟩
        have h := h ap dm
        exact h
      · have h := h.2 (beq_f d1)
        refine bif_of (fun bx => ?_) (fun bx => ?_)
        · have h := h.1 (beq_t bx)
          refine ⟨a1, ac.celli 1 rfl rfl, ?_⟩
          refine ⟨ac.cani 1 rfl rfl, thenW_in fun c7 bf => ?_⟩
          have df := af.x_set (q := w.heap.size) (i := 1) rfl (.inr al) bf
          have ac : Blk c7 w.heap.size 47 [.int .i64 a0, .int .i64 (IntKind.i64.wrap ((BitVec.ofInt (IntKind.bits .i64) a1 ^^^ BitVec.ofInt (IntKind.bits .i64) 1).toNat)), .int .u64 a2, .int .i64 a6, .int .i64 aa, .int .i64 a5, .slice a9 a7 a8, .int .u64 ab] := ac.seti 1 rfl bf
          have a3 := a3.oth (q := w.heap.size) (i := 1) rfl (Ne.symm ae) bf
          refine ⟨a0, (IntKind.i64.wrap ((BitVec.ofInt (IntKind.bits .i64) a1 ^^^ BitVec.ofInt (IntKind.bits .i64) 1).toNat)), a2, a6, aa, a5, a9, a7, a8, ab, ⟨ac.celli 0 rfl rfl, ac.celli 1 rfl rfl, ac.celli 2 rfl rfl, ac.celli 3 rfl rfl, ac.celli 4 rfl rfl, ac.celli 5 rfl rfl, ac.celli 6 rfl rfl, ac.celli 7 rfl rfl, trivial⟩, ?_⟩
          refine ⟨a3.cani 0 rfl rfl, thenW_in fun cg fo => ?_⟩
          have e3 := df.x_set (q := a4.heap.size) (i := 0) rfl (.inr ad) fo
          have a3 : Blk cg a4.heap.size 47 [.int .i64 a0, .int .i64 0, .int .u64 0, .int .i64 0, .int .i64 0, .int .i64 0, .slice none 0 0, .int .u64 0] := a3.seti 0 rfl fo
          refine ⟨a3.cani 1 rfl rfl, thenW_in fun bp g0 => ?_⟩
          have ay := e3.x_set (q := a4.heap.size) (i := 1) rfl (.inr ad) g0
          have a3 : Blk bp a4.heap.size 47 [.int .i64 a0, .int .i64 (IntKind.i64.wrap ((BitVec.ofInt (IntKind.bits .i64) a1 ^^^ BitVec.ofInt (IntKind.bits .i64) 1).toNat)), .int .u64 0, .int .i64 0, .int .i64 0, .int .i64 0, .slice none 0 0, .int .u64 0] := a3.seti 1 rfl g0
          refine ⟨a3.cani 2 rfl rfl, thenW_in fun b6 ev => ?_⟩
          have da := ay.x_set (q := a4.heap.size) (i := 2) rfl (.inr ad) ev
          have a3 : Blk b6 a4.heap.size 47 [.int .i64 a0, .int .i64 (IntKind.i64.wrap ((BitVec.ofInt (IntKind.bits .i64) a1 ^^^ BitVec.ofInt (IntKind.bits .i64) 1).toNat)), .int .u64 a2, .int .i64 0, .int .i64 0, .int .i64 0, .slice none 0 0, .int .u64 0] := a3.seti 2 rfl ev
          refine ⟨a3.cani 3 rfl rfl, thenW_in fun cd fa => ?_⟩
          have cr := da.x_set (q := a4.heap.size) (i := 3) rfl (.inr ad) fa
          have a3 : Blk cd a4.heap.size 47 [.int .i64 a0, .int .i64 (IntKind.i64.wrap ((BitVec.ofInt (IntKind.bits .i64) a1 ^^^ BitVec.ofInt (IntKind.bits .i64) 1).toNat)), .int .u64 a2, .int .i64 a6, .int .i64 0, .int .i64 0, .slice none 0 0, .int .u64 0] := a3.seti 3 rfl fa
          refine ⟨a3.cani 4 rfl rfl, thenW_in fun cv ga => ?_⟩
          have cn := cr.x_set (q := a4.heap.size) (i := 4) rfl (.inr ad) ga
          have a3 : Blk cv a4.heap.size 47 [.int .i64 a0, .int .i64 (IntKind.i64.wrap ((BitVec.ofInt (IntKind.bits .i64) a1 ^^^ BitVec.ofInt (IntKind.bits .i64) 1).toNat)), .int .u64 a2, .int .i64 a6, .int .i64 aa, .int .i64 0, .slice none 0 0, .int .u64 0] := a3.seti 4 rfl ga
          refine ⟨a3.cani 5 rfl rfl, thenW_in fun du g9 => ?_⟩
          have ea := cn.x_set (q := a4.heap.size) (i := 5) rfl (.inr ad) g9
          have a3 : Blk du a4.heap.size 47 [.int .i64 a0, .int .i64 (IntKind.i64.wrap ((BitVec.ofInt (IntKind.bits .i64) a1 ^^^ BitVec.ofInt (IntKind.bits .i64) 1).toNat)), .int .u64 a2, .int .i64 a6, .int .i64 aa, .int .i64 a5, .slice none 0 0, .int .u64 0] := a3.seti 5 rfl g9
          refine ⟨a3.cani 6 rfl rfl, thenW_in fun cq ez => ?_⟩
          have bw := ea.x_set (q := a4.heap.size) (i := 6) rfl (.inr ad) ez
          have a3 : Blk cq a4.heap.size 47 [.int .i64 a0, .int .i64 (IntKind.i64.wrap ((BitVec.ofInt (IntKind.bits .i64) a1 ^^^ BitVec.ofInt (IntKind.bits .i64) 1).toNat)), .int .u64 a2, .int .i64 a6, .int .i64 aa, .int .i64 a5, .slice a9 a7 a8, .int .u64 0] := a3.seti 6 rfl ez
          refine ⟨a3.cani 7 rfl rfl, thenW_in fun aw ew => ?_⟩
          have c2 := bw.x_set (q := a4.heap.size) (i := 7) rfl (.inr ad) ew
          have a3 : Blk aw a4.heap.size 47 [.int .i64 a0, .int .i64 (IntKind.i64.wrap ((BitVec.ofInt (IntKind.bits .i64) a1 ^^^ BitVec.ofInt (IntKind.bits .i64) 1).toNat)), .int .u64 a2, .int .i64 a6, .int .i64 aa, .int .i64 a5, .slice a9 a7 a8, .int .u64 ab] := a3.seti 7 rfl ew
          refine ⟨a0, (IntKind.i64.wrap ((BitVec.ofInt (IntKind.bits .i64) a1 ^^^ BitVec.ofInt (IntKind.bits .i64) 1).toNat)), a2, a6, aa, a5, a9, a7, a8, ab, ⟨a3.celli 0 rfl rfl, a3.celli 1 rfl rfl, a3.celli 2 rfl rfl, a3.celli 3 rfl rfl, a3.celli 4 rfl rfl, a3.celli 5 rfl rfl, a3.celli 6 rfl rfl, a3.celli 7 rfl rfl, trivial⟩, ?_⟩
          have h := h aw c2
          exact h
        · have h := h.2 (beq_f bx)
          refine bif_of (fun dv => ?_) (fun dv => ?_)
          · have h := h.1 (beq_t dv)
            refine ⟨a0, ac.celli 0 rfl rfl, ?_⟩
            refine ⟨ac.cani 0 rfl rfl, thenW_in fun dy e7 => ?_⟩
            have c5 := af.x_set (q := w.heap.size) (i := 0) rfl (.inr al) e7
            have ac : Blk dy w.heap.size 47 [.int .i64 (IntKind.i64.wrap ((BitVec.ofInt (IntKind.bits .i64) a0 ^^^ BitVec.ofInt (IntKind.bits .i64) 1).toNat)), .int .i64 a1, .int .u64 a2, .int .i64 a6, .int .i64 aa, .int .i64 a5, .slice a9 a7 a8, .int .u64 ab] := ac.seti 0 rfl e7
            have a3 := a3.oth (q := w.heap.size) (i := 0) rfl (Ne.symm ae) e7
            refine ⟨(IntKind.i64.wrap ((BitVec.ofInt (IntKind.bits .i64) a0 ^^^ BitVec.ofInt (IntKind.bits .i64) 1).toNat)), a1, a2, a6, aa, a5, a9, a7, a8, ab, ⟨ac.celli 0 rfl rfl, ac.celli 1 rfl rfl, ac.celli 2 rfl rfl, ac.celli 3 rfl rfl, ac.celli 4 rfl rfl, ac.celli 5 rfl rfl, ac.celli 6 rfl rfl, ac.celli 7 rfl rfl, trivial⟩, ?_⟩
            refine ⟨a3.cani 0 rfl rfl, thenW_in fun bn fc => ?_⟩
            have em := c5.x_set (q := a4.heap.size) (i := 0) rfl (.inr ad) fc
            have a3 : Blk bn a4.heap.size 47 [.int .i64 (IntKind.i64.wrap ((BitVec.ofInt (IntKind.bits .i64) a0 ^^^ BitVec.ofInt (IntKind.bits .i64) 1).toNat)), .int .i64 0, .int .u64 0, .int .i64 0, .int .i64 0, .int .i64 0, .slice none 0 0, .int .u64 0] := a3.seti 0 rfl fc
            refine ⟨a3.cani 1 rfl rfl, thenW_in fun ee fr => ?_⟩
            have cw := em.x_set (q := a4.heap.size) (i := 1) rfl (.inr ad) fr
            have a3 : Blk ee a4.heap.size 47 [.int .i64 (IntKind.i64.wrap ((BitVec.ofInt (IntKind.bits .i64) a0 ^^^ BitVec.ofInt (IntKind.bits .i64) 1).toNat)), .int .i64 a1, .int .u64 0, .int .i64 0, .int .i64 0, .int .i64 0, .slice none 0 0, .int .u64 0] := a3.seti 1 rfl fr
            refine ⟨a3.cani 2 rfl rfl, thenW_in fun dh f0 => ?_⟩
            have dz := cw.x_set (q := a4.heap.size) (i := 2) rfl (.inr ad) f0
            have a3 : Blk dh a4.heap.size 47 [.int .i64 (IntKind.i64.wrap ((BitVec.ofInt (IntKind.bits .i64) a0 ^^^ BitVec.ofInt (IntKind.bits .i64) 1).toNat)), .int .i64 a1, .int .u64 a2, .int .i64 0, .int .i64 0, .int .i64 0, .slice none 0 0, .int .u64 0] := a3.seti 2 rfl f0
            refine ⟨a3.cani 3 rfl rfl, thenW_in fun e2 fd => ?_⟩
            have c9 := dz.x_set (q := a4.heap.size) (i := 3) rfl (.inr ad) fd
            have a3 : Blk e2 a4.heap.size 47 [.int .i64 (IntKind.i64.wrap ((BitVec.ofInt (IntKind.bits .i64) a0 ^^^ BitVec.ofInt (IntKind.bits .i64) 1).toNat)), .int .i64 a1, .int .u64 a2, .int .i64 a6, .int .i64 0, .int .i64 0, .slice none 0 0, .int .u64 0] := a3.seti 3 rfl fd
            refine ⟨a3.cani 4 rfl rfl, thenW_in fun db fs => ?_⟩
            have en := c9.x_set (q := a4.heap.size) (i := 4) rfl (.inr ad) fs
            have a3 : Blk db a4.heap.size 47 [.int .i64 (IntKind.i64.wrap ((BitVec.ofInt (IntKind.bits .i64) a0 ^^^ BitVec.ofInt (IntKind.bits .i64) 1).toNat)), .int .i64 a1, .int .u64 a2, .int .i64 a6, .int .i64 aa, .int .i64 0, .slice none 0 0, .int .u64 0] := a3.seti 4 rfl fs
            refine ⟨a3.cani 5 rfl rfl, thenW_in fun az f6 => ?_⟩
            have e0 := en.x_set (q := a4.heap.size) (i := 5) rfl (.inr ad) f6
            have a3 : Blk az a4.heap.size 47 [.int .i64 (IntKind.i64.wrap ((BitVec.ofInt (IntKind.bits .i64) a0 ^^^ BitVec.ofInt (IntKind.bits .i64) 1).toNat)), .int .i64 a1, .int .u64 a2, .int .i64 a6, .int .i64 aa, .int .i64 a5, .slice none 0 0, .int .u64 0] := a3.seti 5 rfl f6
            refine ⟨a3.cani 6 rfl rfl, thenW_in fun b2 fv => ?_⟩
            have bt := e0.x_set (q := a4.heap.size) (i := 6) rfl (.inr ad) fv
            have a3 : Blk b2 a4.heap.size 47 [.int .i64 (IntKind.i64.wrap ((BitVec.ofInt (IntKind.bits .i64) a0 ^^^ BitVec.ofInt (IntKind.bits .i64) 1).toNat)), .int .i64 a1, .int .u64 a2, .int .i64 a6, .int .i64 aa, .int .i64 a5, .slice a9 a7 a8, .int .u64 0] := a3.seti 6 rfl fv
            refine ⟨a3.cani 7 rfl rfl, thenW_in fun au g4 => ?_⟩
            have ei := bt.x_set (q := a4.heap.size) (i := 7) rfl (.inr ad) g4
            have a3 : Blk au a4.heap.size 47 [.int .i64 (IntKind.i64.wrap ((BitVec.ofInt (IntKind.bits .i64) a0 ^^^ BitVec.ofInt (IntKind.bits .i64) 1).toNat)), .int .i64 a1, .int .u64 a2, .int .i64 a6, .int .i64 aa, .int .i64 a5, .slice a9 a7 a8, .int .u64 ab] := a3.seti 7 rfl g4
            refine ⟨(IntKind.i64.wrap ((BitVec.ofInt (IntKind.bits .i64) a0 ^^^ BitVec.ofInt (IntKind.bits .i64) 1).toNat)), a1, a2, a6, aa, a5, a9, a7, a8, ab, ⟨a3.celli 0 rfl rfl, a3.celli 1 rfl rfl, a3.celli 2 rfl rfl, a3.celli 3 rfl rfl, a3.celli 4 rfl rfl, a3.celli 5 rfl rfl, a3.celli 6 rfl rfl, a3.celli 7 rfl rfl, trivial⟩, ?_⟩
            have h := h au ei
            exact h
          · have h := h.2 (beq_f dv)
            refine bif_of (fun br => ?_) (fun br => ?_)
            · have h := h.1 (beq_t br)
              refine ⟨a5, ac.celli 5 rfl rfl, ?_⟩
              refine ⟨ac.cani 5 rfl rfl, thenW_in fun ca bu => ?_⟩
              have ce := af.x_set (q := w.heap.size) (i := 5) rfl (.inr al) bu
              have ac : Blk ca w.heap.size 47 [.int .i64 a0, .int .i64 a1, .int .u64 a2, .int .i64 a6, .int .i64 aa, .int .i64 (IntKind.i64.wrap ((BitVec.ofInt (IntKind.bits .i64) a5 ^^^ BitVec.ofInt (IntKind.bits .i64) 1).toNat)), .slice a9 a7 a8, .int .u64 ab] := ac.seti 5 rfl bu
              have a3 := a3.oth (q := w.heap.size) (i := 5) rfl (Ne.symm ae) bu
              refine ⟨a0, a1, a2, a6, aa, (IntKind.i64.wrap ((BitVec.ofInt (IntKind.bits .i64) a5 ^^^ BitVec.ofInt (IntKind.bits .i64) 1).toNat)), a9, a7, a8, ab, ⟨ac.celli 0 rfl rfl, ac.celli 1 rfl rfl, ac.celli 2 rfl rfl, ac.celli 3 rfl rfl, ac.celli 4 rfl rfl, ac.celli 5 rfl rfl, ac.celli 6 rfl rfl, ac.celli 7 rfl rfl, trivial⟩, ?_⟩
              refine ⟨a3.cani 0 rfl rfl, thenW_in fun d9 fe => ?_⟩
              have ek := ce.x_set (q := a4.heap.size) (i := 0) rfl (.inr ad) fe
              have a3 : Blk d9 a4.heap.size 47 [.int .i64 a0, .int .i64 0, .int .u64 0, .int .i64 0, .int .i64 0, .int .i64 0, .slice none 0 0, .int .u64 0] := a3.seti 0 rfl fe
              refine ⟨a3.cani 1 rfl rfl, thenW_in fun bd fm => ?_⟩
              have bq := ek.x_set (q := a4.heap.size) (i := 1) rfl (.inr ad) fm
              have a3 : Blk bd a4.heap.size 47 [.int .i64 a0, .int .i64 a1, .int .u64 0, .int .i64 0, .int .i64 0, .int .i64 0, .slice none 0 0, .int .u64 0] := a3.seti 1 rfl fm
              refine ⟨a3.cani 2 rfl rfl, thenW_in fun el f5 => ?_⟩
              have di := bq.x_set (q := a4.heap.size) (i := 2) rfl (.inr ad) f5
              have a3 : Blk el a4.heap.size 47 [.int .i64 a0, .int .i64 a1, .int .u64 a2, .int .i64 0, .int .i64 0, .int .i64 0, .slice none 0 0, .int .u64 0] := a3.seti 2 rfl f5
              refine ⟨a3.cani 3 rfl rfl, thenW_in fun ed f1 => ?_⟩
              have dg := di.x_set (q := a4.heap.size) (i := 3) rfl (.inr ad) f1
              have a3 : Blk ed a4.heap.size 47 [.int .i64 a0, .int .i64 a1, .int .u64 a2, .int .i64 a6, .int .i64 0, .int .i64 0, .slice none 0 0, .int .u64 0] := a3.seti 3 rfl f1
              refine ⟨a3.cani 4 rfl rfl, thenW_in fun cz fk => ?_⟩
              have dc := dg.x_set (q := a4.heap.size) (i := 4) rfl (.inr ad) fk
              have a3 : Blk cz a4.heap.size 47 [.int .i64 a0, .int .i64 a1, .int .u64 a2, .int .i64 a6, .int .i64 aa, .int .i64 0, .slice none 0 0, .int .u64 0] := a3.seti 4 rfl fk
              refine ⟨a3.cani 5 rfl rfl, thenW_in fun b4 fu => ?_⟩
              have bz := dc.x_set (q := a4.heap.size) (i := 5) rfl (.inr ad) fu
              have a3 : Blk b4 a4.heap.size 47 [.int .i64 a0, .int .i64 a1, .int .u64 a2, .int .i64 a6, .int .i64 aa, .int .i64 (IntKind.i64.wrap ((BitVec.ofInt (IntKind.bits .i64) a5 ^^^ BitVec.ofInt (IntKind.bits .i64) 1).toNat)), .slice none 0 0, .int .u64 0] := a3.seti 5 rfl fu
              refine ⟨a3.cani 6 rfl rfl, thenW_in fun dj er => ?_⟩
              have de := bz.x_set (q := a4.heap.size) (i := 6) rfl (.inr ad) er
              have a3 : Blk dj a4.heap.size 47 [.int .i64 a0, .int .i64 a1, .int .u64 a2, .int .i64 a6, .int .i64 aa, .int .i64 (IntKind.i64.wrap ((BitVec.ofInt (IntKind.bits .i64) a5 ^^^ BitVec.ofInt (IntKind.bits .i64) 1).toNat)), .slice a9 a7 a8, .int .u64 0] := a3.seti 6 rfl er
              refine ⟨a3.cani 7 rfl rfl, thenW_in fun aq ex => ?_⟩
              have ej := de.x_set (q := a4.heap.size) (i := 7) rfl (.inr ad) ex
              have a3 : Blk aq a4.heap.size 47 [.int .i64 a0, .int .i64 a1, .int .u64 a2, .int .i64 a6, .int .i64 aa, .int .i64 (IntKind.i64.wrap ((BitVec.ofInt (IntKind.bits .i64) a5 ^^^ BitVec.ofInt (IntKind.bits .i64) 1).toNat)), .slice a9 a7 a8, .int .u64 ab] := a3.seti 7 rfl ex
              refine ⟨a0, a1, a2, a6, aa, (IntKind.i64.wrap ((BitVec.ofInt (IntKind.bits .i64) a5 ^^^ BitVec.ofInt (IntKind.bits .i64) 1).toNat)), a9, a7, a8, ab, ⟨a3.celli 0 rfl rfl, a3.celli 1 rfl rfl, a3.celli 2 rfl rfl, a3.celli 3 rfl rfl, a3.celli 4 rfl rfl, a3.celli 5 rfl rfl, a3.celli 6 rfl rfl, a3.celli 7 rfl rfl, trivial⟩, ?_⟩
              have h := h aq ej
              exact h
            · have h := h.2 (beq_f br)
              refine ⟨a0, a1, a2, a6, aa, a5, a9, a7, a8, ab, ⟨ac.celli 0 rfl rfl, ac.celli 1 rfl rfl, ac.celli 2 rfl rfl, ac.celli 3 rfl rfl, ac.celli 4 rfl rfl, ac.celli 5 rfl rfl, ac.celli 6 rfl rfl, ac.celli 7 rfl rfl, trivial⟩, ?_⟩
              refine ⟨a3.cani 0 rfl rfl, thenW_in fun d7 fx => ?_⟩
              have e4 := af.x_set (q := a4.heap.size) (i := 0) rfl (.inr ad) fx
              have a3 : Blk d7 a4.heap.size 47 [.int .i64 a0, .int .i64 0, .int .u64 0, .int .i64 0, .int .i64 0, .int .i64 0, .slice none 0 0, .int .u64 0] := a3.seti 0 rfl fx
              refine ⟨a3.cani 1 rfl rfl, thenW_in fun e1 f7 => ?_⟩
              have ck := e4.x_set (q := a4.heap.size) (i := 1) rfl (.inr ad) f7
              have a3 : Blk e1 a4.heap.size 47 [.int .i64 a0, .int .i64 a1, .int .u64 0, .int .i64 0, .int .i64 0, .int .i64 0, .slice none 0 0, .int .u64 0] := a3.seti 1 rfl f7
              refine ⟨a3.cani 2 rfl rfl, thenW_in fun be g2 => ?_⟩
              have c4 := ck.x_set (q := a4.heap.size) (i := 2) rfl (.inr ad) g2
              have a3 : Blk be a4.heap.size 47 [.int .i64 a0, .int .i64 a1, .int .u64 a2, .int .i64 0, .int .i64 0, .int .i64 0, .slice none 0 0, .int .u64 0] := a3.seti 2 rfl g2
              refine ⟨a3.cani 3 rfl rfl, thenW_in fun dd fi => ?_⟩
              have e5 := c4.x_set (q := a4.heap.size) (i := 3) rfl (.inr ad) fi
              have a3 : Blk dd a4.heap.size 47 [.int .i64 a0, .int .i64 a1, .int .u64 a2, .int .i64 a6, .int .i64 0, .int .i64 0, .slice none 0 0, .int .u64 0] := a3.seti 3 rfl fi
              refine ⟨a3.cani 4 rfl rfl, thenW_in fun e6 fw => ?_⟩
              have c0 := e5.x_set (q := a4.heap.size) (i := 4) rfl (.inr ad) fw
              have a3 : Blk e6 a4.heap.size 47 [.int .i64 a0, .int .i64 a1, .int .u64 a2, .int .i64 a6, .int .i64 aa, .int .i64 0, .slice none 0 0, .int .u64 0] := a3.seti 4 rfl fw
              refine ⟨a3.cani 5 rfl rfl, thenW_in fun dw g1 => ?_⟩
              have cm := c0.x_set (q := a4.heap.size) (i := 5) rfl (.inr ad) g1
              have a3 : Blk dw a4.heap.size 47 [.int .i64 a0, .int .i64 a1, .int .u64 a2, .int .i64 a6, .int .i64 aa, .int .i64 a5, .slice none 0 0, .int .u64 0] := a3.seti 5 rfl g1
              refine ⟨a3.cani 6 rfl rfl, thenW_in fun ef f9 => ?_⟩
              have dk := cm.x_set (q := a4.heap.size) (i := 6) rfl (.inr ad) f9
              have a3 : Blk ef a4.heap.size 47 [.int .i64 a0, .int .i64 a1, .int .u64 a2, .int .i64 a6, .int .i64 aa, .int .i64 a5, .slice a9 a7 a8, .int .u64 0] := a3.seti 6 rfl f9
              refine ⟨a3.cani 7 rfl rfl, thenW_in fun am fy => ?_⟩
              have bh := dk.x_set (q := a4.heap.size) (i := 7) rfl (.inr ad) fy
              have a3 : Blk am a4.heap.size 47 [.int .i64 a0, .int .i64 a1, .int .u64 a2, .int .i64 a6, .int .i64 aa, .int .i64 a5, .slice a9 a7 a8, .int .u64 ab] := a3.seti 7 rfl fy
              refine ⟨a0, a1, a2, a6, aa, a5, a9, a7, a8, ab, ⟨a3.celli 0 rfl rfl, a3.celli 1 rfl rfl, a3.celli 2 rfl rfl, a3.celli 3 rfl rfl, a3.celli 4 rfl rfl, a3.celli 5 rfl rfl, a3.celli 6 rfl rfl, a3.celli 7 rfl rfl, trivial⟩, ?_⟩
              have h := h am bh
              exact h

theorem cachettelaw07_turned.go (a0 : Int) (a2 : Int) (a6 : Int) (a8 : Int) (aa : Int) (a3 : Int) (a1 : Option Addr) (a4 : Nat) (a5 : Nat) (a9 : Int) (a7 : Int) {R : Value → World → Prop} {w : World} (h : cachettelaw07_turned.N a0 a2 a6 a8 aa a3 a1 a4 a5 a9 a7 R w) : Calls Try.prog 18 #[.agg #[.int .i64 a0, .int .i64 a2, .int .u64 a6, .int .i64 a8, .int .i64 aa, .int .i64 a3, .slice a1 a4 a5, .int .u64 a9], .int .i64 a7] w fun e w' => ∃ v, e = .returned v ∧ R v w' := cachettelaw07_turned.ok a0 a2 a6 a8 aa a3 a1 a4 a5 a9 a7 (cachettelaw07_turned.up a0 a2 a6 a8 aa a3 a1 a4 a5 a9 a7 h)
end Go.Proofs.Ytdelmfpchbpafaa

/- The reference's log. -/
set_option linter.unusedVariables false
set_option linter.unusedSimpArgs false
set_option maxRecDepth 20000
set_option maxHeartbeats 2000000
namespace Go.Proofs.Ytdelmfpchbpafaa
open Go Go.Mx Go.Proofs
open W (OwnB GivesW numR countR doneR zig unzig intR)
/-- the reference's oracle, in step with a state. -/
structure RSt (w : World) (o : Own) (j : Nat) (S : OS) (n : Nat) : Prop where
  ex : ∃ d R, ROrc w o j d R ∧ Sim S d R ∧ RFine n d R
  ok : Tags w o
  inv : OInv S
structure RLog (w : World) (o : Own) (q : Nat) (wr pb : Int) (es : List Ent) : Prop where
  own : o q = some q
  few : es.length ≤ 200
  st : ∃ la lc, ∃ l : List PE, l.map PE.e = es ∧ Blk w q 42 [.int .i64 wr, .int .u64 pb, .slice la l.length lc] ∧
    GrowsF 47 8 w o q la l.length lc (PE.Cs l) ∧ (∀ ad, la = some ad → ad.block ≠ q) ∧ ∀ x ∈ l, x.ok w o
def headS (S : OS) (es : List Ent) : Int × OS := match es.getLast? with | none => (0, S) | some e => ((sumE S e).1.1, (sumE S e).2)
def lateS (es : List Ent) (t tw : Int) : Bool := match es.getLast? with | none => false | some x => !(lessS x.t x.tw t tw)
section
variable {w w' w1 : World} {o o' o1 : Own} {q j k n : Nat} {K : Nat → Prop} {S S1 S2 : OS} {wr pb : Int} {es : List Ent} {e : Ent} {a : Option Addr} {c : Nat}
theorem RSt.step (h : RSt w o j S n) (s : Step K w o w' o') (hj : ¬ K j) : RSt w' o' j S n := by
  obtain ⟨d, R, h1, h2, h3⟩ := h.ex
  exact ⟨⟨d, R, h1.step s hj, h2, h3⟩, s.ok, h.inv⟩
theorem RSt.mono (h : RSt w o j S n) {m : Nat} (hm : n ≤ m) : RSt w o j S m := by
  obtain ⟨d, R, h1, h2, h3⟩ := h.ex
  exact ⟨⟨d, R, h1, h2, h3.draws, Nat.le_trans h3.short hm, h3.bytes⟩, h.ok, h.inv⟩
theorem RSt.lt (h : RSt w o j S n) : j < w.heap.size := by obtain ⟨d, R, h1, _⟩ := h.ex; exact h1.lt
theorem RSt.own (h : RSt w o j S n) : o j = some j := by obtain ⟨d, R, h1, _⟩ := h.ex; exact h1.own
theorem RSt.len (h : RSt w o j S n) : S.used.length ≤ n := by obtain ⟨d, R, h1, h2, h3⟩ := h.ex; rw [h2.us, List.length_map]; exact h3.short
theorem RLog.lt (h : RLog w o q wr pb es) : q < w.heap.size := by obtain ⟨_, _, _, _, hb, _⟩ := h.st; exact hb.lt
theorem RLog.step (h : RLog w o q wr pb es) (s : Step K w o w' o') (hq : ¬ K q) : RLog w' o' q wr pb es := by
  have hlt := h.lt
  obtain ⟨la, lc, l, h0, h1, h2, h3, h4⟩ := h.st
  exact ⟨(s.own hlt).trans h.own, h.few, la, lc, l, h0, s.blk h1 h.own hq, h2.step s hq, h3, fun x hx => (h4 x hx).step s⟩
theorem RLog.new {w w' : World} {o : Own} {q : Nat} {wr pb : Int} (X : Ext no w w') (hb : Blk w' q 42 [.int .i64 wr, .int .u64 pb, .slice none 0 0]) (h1 : w.heap.size ≤ q) (h2 : q < w'.heap.size) (ok : Tags w o) :
    ∃ o', Step no w o w' o' ∧ RLog w' o' q wr pb [] :=
  ⟨_, (Step.of_no X ok).tag h1 h2, tag_self, Nat.zero_le _, none, 0, [], rfl, hb, .inl (Grows.nil _ _ _ _ _), fun ad h => (by cases h), fun x h => (by cases h)⟩
theorem RSt.sum (h : RSt w o j S n) (hn : n + 1 < 1000000) (hf : entRight e = true → e.fit) {ba : Option Addr} {bc : Nat} (hb : RowAt w ba (bytesV e.body)) :
    Calls Try.prog 49 #[.pointer (some (blk j)), entV e ba bc] w (Gs (fun i => i = j) w o (.tuple #[u64V (sumE S e).1.1, .int .i64 (sumE S e).1.2]) fun w' o' => RSt w' o' j (sumE S e).2 (n + 1)) := by
  obtain ⟨d, R, h1, h2, h3⟩ := h.ex
  obtain ⟨e1, e2⟩ := sum_sim h2 e
  refine (rSum_spec h1 (h3.rok h.ok (by omega)) hf hb).mono fun x w' ⟨o', he, s, r⟩ => ⟨o', by rw [he, e1], s, ⟨_, _, r, e2, h3.sum e⟩, s.ok, sum_inv h.inv e⟩
theorem RSt.holds (h : RSt w o j S n) (hn : n < 1000000) (p : Int) (hf : entRight e = true → e.fit) {ba : Option Addr} {bc : Nat} (hb : RowAt w ba (bytesV e.body)) :
    Calls Try.prog 44 #[.pointer (some (blk j)), .int .u64 p, entV e ba bc] w (Ret (.bool (holdsE S p e)) fun w' => Ext no w w') := by
  obtain ⟨d, R, h1, h2, h3⟩ := h.ex
  refine (rHolds_spec h1 (h3.rok h.ok hn) p hf hb).mono fun x w' ⟨he, X⟩ => ⟨by rw [he, holds_sim h2], X⟩
theorem RSt.sign (h : RSt w o j S n) (hn : n + 1 < 1000000) (s : Int) (hf : entRight e = true → e.fit) {ba : Option Addr} {bc : Nat} (hb : Row w o ba (bytesV e.body)) (hbc : e.body.length ≤ bc) :
    Calls Try.prog 40 #[.pointer (some (blk j)), .int .u64 s, entV e ba bc] w (fun x w' => ∃ o' a' c', x = .returned (.tuple #[entV (signE S s e).1.1 a' c', .int .i64 (signE S s e).1.2]) ∧ Step (fun i => i = j) w o w' o' ∧ RSt w' o' j (signE S s e).2 (n + 1) ∧ Row w' o' a' (bytesV (signE S s e).1.1.body) ∧ (signE S s e).1.1.body.length ≤ c') := by
  obtain ⟨d, R, h1, h2, h3⟩ := h.ex
  obtain ⟨e1, e2⟩ := esign_sim h2 s e
  refine (rESign_spec h1 (h3.rok h.ok (by omega)) s hf hb hbc).mono fun x w' ⟨o', a', c', he, st, r, r1, r2⟩ => ⟨o', a', c', by rw [he, e1], st, ⟨⟨_, _, r, e2, h3.esign s e⟩, st.ok, esign_inv h.inv s e⟩, by rw [← e1]; exact r1, by rw [← e1]; exact r2⟩
theorem rHead_spec (P : RLog w o q wr pb es) (h : RSt w o j S n) (hn : n + 1 < 1000000) :
    Calls Try.prog 32 #[.pointer (some (blk q)), .pointer (some (blk j))] w (Gs (fun i => i = j) w o (.agg #[.int .i64 wr, .int .i64 es.length, .int .u64 (headS S es).1]) fun w' o' => RSt w' o' j (headS S es).2 (n + 1)) := by
  refine (cachetteref07_Log_Head.go _ _ (R := fun v w' => ∃ o', v = .agg #[.int .i64 wr, .int .i64 es.length, .int .u64 (headS S es).1] ∧ Step (fun i => i = j) w o w' o' ∧ RSt w' o' j (headS S es).2 (n + 1)) ?_).mono fun x w' ⟨v, he, o', hv, hw⟩ => ⟨o', by rw [he, hv], hw⟩
  unfold cachetteref07_Log_Head.N
  obtain ⟨la, lc, l, g0, b1, b2, b3, b4⟩ := P.st
  have hl := len_map_e g0
  have hfew := P.few
  have hjl := h.lt
  refine ⟨_, rfl, _, b1.cella (i := 0) rfl, la, l.length, lc, b1.cella (i := 2) rfl, la, l.length, lc, b1.cella (i := 2) rfl, fun hp => ?_, fun hp w44 X44 => ?_⟩
  · have hi : l.length - 1 < l.length := by omega
    have hgx : l[l.length - 1]? = some l[l.length - 1] := List.getElem?_eq_getElem hi
    have hpk := b4 _ (List.getElem_mem hi)
    generalize l[l.length - 1] = x at *
    obtain ⟨ad, rfl⟩ := b2.row.faddr PE.len (by decide) hi
    have hlast : es.getLast? = some x.e := by rw [List.getLast?_eq_getElem?, getElem_map_e g0, ← hl, hgx]; rfl
    have e1 : ((l.length : Int) - 1).toNat = l.length - 1 := by omega
    have hH : headS S es = ((sumE S x.e).1.1, (sumE S x.e).2) := by unfold headS; rw [hlast]
    refine ⟨some ad, l.length, lc, b1.cella (i := 2) rfl, some ad, l.length, lc, b1.cella (i := 2) rfl, by omega, by omega, ad, rfl, by omega, by omega, x.e.w, x.e.i, x.e.pv, x.e.t, x.e.tw, x.e.ep, x.a, x.e.body.length, x.c, x.e.sg, by rw [e1]; exact PE.loads b2.row rfl hgx, fun w17 p32 p33 X17 hp17 => ?_⟩
    obtain ⟨s17, M17⟩ := Step.priv X17 hp17 h.ok
    have g32 := hp17 p32 (by simp)
    have g33 := hp17 p33 (by simp)
    refine ((h.step s17 id).sum hn (fun _ => hpk.2.2) ((hpk.1.step s17).1)).mono fun z w37 ⟨o37, he, s37', r37⟩ => ⟨_, _, he, M17.keep s37' (by simp; omega), fun w41 X41 => ?_⟩
    have s37 := s17.none.trans s37'
    have s41' := Step.stores X41 s37.ok (M17.step s37') (by simp [or_comm])
    rw [hH]
    exact ⟨_, by rw [hl], s37.trans' s41' fun i hi => .inr (by simp at hi; omega), r37.step s41' (by simp; omega)⟩
  · have : es = [] := List.eq_nil_of_length_eq_zero (by omega)
    subst this
    have s := Step.of_no X44 h.ok
    exact ⟨_, by rw [hl]; rfl, s.none, (h.step s id).mono (by omega)⟩
theorem rLate_spec (P : RLog w o q wr pb es) (t tw : Int) :
    Calls Try.prog 39 #[.pointer (some (blk q)), .agg #[.int .i64 t, .int .i64 tw]] w (Ret (.bool (lateS es t tw)) fun w' => Ext no w w') := by
  refine cachetteref07_Log_late.run _ _ _ ?_
  unfold cachetteref07_Log_late.N
  obtain ⟨la, lc, l, g0, b1, b2, b3, b4⟩ := P.st
  have hl := len_map_e g0
  have hfew := P.few
  refine ⟨_, rfl, la, l.length, lc, b1.cella (i := 2) rfl, fun hp => ?_, fun hp w8 X => ⟨?_, X⟩⟩
  · have hi : l.length - 1 < l.length := by omega
    have hgx : l[l.length - 1]? = some l[l.length - 1] := List.getElem?_eq_getElem hi
    generalize l[l.length - 1] = x at *
    obtain ⟨ad, rfl⟩ := b2.row.faddr PE.len (by decide) hi
    have hlast : es.getLast? = some x.e := by rw [List.getLast?_eq_getElem?, getElem_map_e g0, ← hl, hgx]; rfl
    have e1 : ((l.length : Int) - 1).toNat = l.length - 1 := by omega
    have c3 := PE.cell b2.row rfl hgx (j := 3) (v := .int .i64 x.e.t) rfl
    have c4 := PE.cell b2.row rfl hgx (j := 4) (v := .int .i64 x.e.tw) rfl
    refine ⟨some ad, l.length, lc, b1.cella (i := 2) rfl, by omega, by omega, ad, rfl, by omega, by omega, x.e.t, x.e.tw, ⟨by rw [e1, add_add]; exact c3, by rw [e1, add_add]; exact c4, trivial⟩, fun w16 X16 => ⟨?_, X16⟩⟩
    unfold lateS; rw [hlast, refLess_F]
  · have : es = [] := List.eq_nil_of_length_eq_zero (by omega)
    subst this; rfl
end
end Go.Proofs.Ytdelmfpchbpafaa

/- The reference's log: Check, Accept. -/
set_option linter.unusedVariables false
set_option linter.unusedSimpArgs false
set_option maxRecDepth 20000
set_option maxHeartbeats 2000000
namespace Go.Proofs.Ytdelmfpchbpafaa
open Go Go.Mx Go.Proofs
open W (OwnB GivesW numR countR doneR zig unzig intR)
section
variable {w w' w1 : World} {o o' o1 : Own} {q j k n : Nat} {K : Nat → Prop} {S S1 S2 : OS} {L : CL} {wr pb : Int} {es : List Ent} {e : Ent} {a : Option Addr} {c : Nat}
theorem behind_as (L : CL) (e : Ent) : behindC L e = if e.pv = L.sum then (if lateS L.es e.t e.tw = true then 2 else 0) else 5 := by
  unfold behindC lateS
  split
  · cases L.es.getLast? with
    | none => rfl
    | some x =>
      by_cases h : lessS x.t x.tw e.t e.tw = true
      · simp only [h]; rfl
      · have h' : lessS x.t x.tw e.t e.tw = false := by simpa using h
        simp only [h']; rfl
  · rfl
theorem chk1 {r : Int} (h : rightC S L e = r) (hr : r ≠ 0) : checkC S L e = r := by unfold checkC; rw [if_pos (by rw [h]; exact hr), h]
theorem chk2 {r : Int} (h0 : rightC S L e = 0) (h : placeC L e = r) (hr : r ≠ 0) : checkC S L e = r := by unfold checkC; rw [if_neg (not_not_intro h0), if_pos (by rw [h]; exact hr), h]
theorem chk3 (h0 : rightC S L e = 0) (h : placeC L e = 0) : checkC S L e = behindC L e := by unfold checkC; rw [if_neg (not_not_intro h0), if_neg (not_not_intro h)]
theorem rCheck_spec (P : RLog w o q wr pb es) (h : RSt w o j S n) (hqj : q ≠ j) (hn : n + 1 < 1000000) (hf : entRight e = true → e.fit) (hb : Row w o a (bytesV e.body)) (hbl : ∀ x ∈ es, x.body.length < 1000000) :
    Calls Try.prog 20 #[.pointer (some (blk q)), .pointer (some (blk j)), entV e a c] w (fun x w' => ∃ o' S', x = .returned (.int .i64 (checkC S ⟨wr, pb, es, (headS S es).1⟩ e)) ∧ Step (fun i => i = j) w o w' o' ∧ RSt w' o' j S' (n + 1) ∧
      (S' = (headS S es).2 ∨ S' = S ∧ checkC S ⟨wr, pb, es, (headS S es).1⟩ e ≠ 0)) := by
  refine (cachetteref07_Log_Check.go (some (blk q)) (some (blk j)) e.w e.i e.pv e.t e.tw e.ep a e.body.length c e.sg (R := fun v w' => ∃ o' S', v = .int .i64 (checkC S ⟨wr, pb, es, (headS S es).1⟩ e) ∧ Step (fun i => i = j) w o w' o' ∧ RSt w' o' j S' (n + 1) ∧
      (S' = (headS S es).2 ∨ S' = S ∧ checkC S ⟨wr, pb, es, (headS S es).1⟩ e ≠ 0)) ?_).mono fun x w' ⟨v, he, o', S', hv, hw⟩ => ⟨o', S', by rw [he, hv], hw⟩
  unfold cachetteref07_Log_Check.N
  rw [refRight_F]
  obtain ⟨la, lc, l, g0, b1, b2, b3, b4⟩ := P.st
  have hl := len_map_e g0
  have hjl := h.lt
  have fin : ∀ (r : Int) (w2 : World) (o2 : Own), checkC S ⟨wr, pb, es, (headS S es).1⟩ e = r → r ≠ 0 → Step no w o w2 o2 → ∃ o' S', Value.int .i64 r = .int .i64 (checkC S ⟨wr, pb, es, (headS S es).1⟩ e) ∧ Step (fun i => i = j) w o w2 o' ∧ RSt w2 o' j S' (n + 1) ∧
      (S' = (headS S es).2 ∨ S' = S ∧ checkC S ⟨wr, pb, es, (headS S es).1⟩ e ≠ 0) :=
    fun r w2 o2 e1 e2 s => ⟨o2, S, by rw [e1], s.none, (h.step s id).mono (by omega), .inr ⟨rfl, by rw [e1]; exact e2⟩⟩
  refine ⟨fun hr w12 X => ?_, fun hr => ⟨_, rfl, _, b1.cella (i := 0) rfl, fun hw w15 X => ?_, fun hw => ⟨_, b1.cella (i := 1) rfl, fun w21 p24 X21 hp => ?_⟩⟩⟩
  · exact fin 1 _ _ (chk1 (by unfold rightC; exact if_neg (by rw [hr]; decide)) (by decide)) (by decide) (Step.of_no X h.ok)
  · exact fin 20 _ _ (chk1 (by unfold rightC; rw [if_pos hr]; exact if_neg hw) (by decide)) (by decide) (Step.of_no X h.ok)
  obtain ⟨s21, M21⟩ := Step.priv X21 hp h.ok
  have g24 := hp p24 (by simp)
  refine ((h.step s21 id).holds (by omega) pb hf (hb.step s21).1).mono fun z w27 ⟨he, X27⟩ => ⟨_, he, X27.kept, fun hh => ?_, fun hh => ?_⟩
  all_goals have s27' := Step.of_no X27 s21.ok
  all_goals have s27 := s21.trans s27'
  · exact fin 6 _ _ (chk1 (by unfold rightC; rw [if_pos hr]; exact (if_pos hw).trans (if_neg (by rw [show holdsE S (CL.mk wr pb es (headS S es).1).pb e = false from hh]; decide))) (by decide)) (by decide) s27
  have hr0 : rightC S ⟨wr, pb, es, (headS S es).1⟩ e = 0 := by unfold rightC; rw [if_pos hr]; exact (if_pos hw).trans (if_pos hh)
  have b27 := s27.blk b1 P.own id
  have b2' := b2.step s27 id
  have M27 := M21.step s27'
  have h0 := ((entRight_iff _).1 hr).2.2.1
  refine ⟨la, l.length, lc, b27.cella (i := 2) rfl, fun hlt => ?_, fun hge => ⟨la, l.length, lc, b27.cella (i := 2) rfl, fun hgt w50 X50 => ?_, fun hle w54 X54 => ?_⟩⟩
  · have hi : e.i.toNat < l.length := by omega
    have hgx : l[e.i.toNat]? = some l[e.i.toNat] := List.getElem?_eq_getElem hi
    have hpk := b4 _ (List.getElem_mem hi)
    have hbx := hbl _ (by rw [← g0]; exact List.mem_map_of_mem (List.getElem_mem hi))
    generalize l[e.i.toNat] = x at *
    obtain ⟨ad, rfl⟩ := b2.row.faddr PE.len (by decide) hi
    refine ⟨some ad, l.length, lc, b27.cella (i := 2) rfl, ad, rfl, h0, by omega, x.e.w, x.e.i, x.e.pv, x.e.t, x.e.tw, x.e.ep, x.a, x.e.body.length, x.c, x.e.sg, PE.loads b2'.row rfl hgx, fun w33 X33 => ?_⟩
    refine (rESame_spec (e := x.e) (f := e) (((hpk.1.step s27).1).no X33) (((hb.step s27).1).no X33) hbx).mono fun z w48 ⟨he, X48⟩ => ⟨_, he, fun hs => ?_, fun hs => ?_⟩
    all_goals have s48 := s27.trans (Step.of_no (X33.trans X48) s27.ok)
    · refine fin 8 _ _ (chk2 hr0 ?_ (by decide)) (by decide) s48
      unfold placeC
      rw [if_neg (show ¬ e.i > (es.length : Int) by omega), if_neg (show ¬ e.i = (es.length : Int) by omega)]
      exact if_pos (show es[e.i.toNat]? = some e by rw [getElem_map_e g0, hgx, Option.map_some, of_decide_eq_true hs])
    · refine fin 9 _ _ (chk2 hr0 ?_ (by decide)) (by decide) s48
      unfold placeC
      rw [if_neg (show ¬ e.i > (es.length : Int) by omega), if_neg (show ¬ e.i = (es.length : Int) by omega)]
      exact if_neg (show ¬ es[e.i.toNat]? = some e by rw [getElem_map_e g0, hgx, Option.map_some]; intro h; injection h with h; exact of_decide_eq_false hs h)
  · refine fin 7 _ _ (chk2 hr0 ?_ (by decide)) (by decide) (s27.trans (Step.of_no X50 s27.ok))
    unfold placeC
    exact if_pos (show e.i > (es.length : Int) by omega)
  · have s54' := Step.of_no X54 s27.ok
    have s54 := s27.trans s54'
    have hp0 : placeC ⟨wr, pb, es, (headS S es).1⟩ e = 0 := by
      unfold placeC
      rw [if_neg (show ¬ e.i > (es.length : Int) by omega)]
      exact if_pos (show e.i = (es.length : Int) by omega)
    have M54 := M27.step s54'
    refine (rHead_spec (P.step s54 id) (h.step s54 id) hn).mono fun z w59 ⟨o59, he, s59, r59⟩ => ⟨_, _, _, he, M54.keep s59 (by simp; omega), fun hpv => ?_, fun hpv => ?_⟩
    · exact ⟨o59, _, by rw [chk3 hr0 hp0, behind_as]; exact congrArg (Value.int .i64) (if_neg hpv).symm, s54.none.trans s59, r59, .inl rfl⟩
    · refine (rLate_spec ((P.step s54 id).step s59 hqj) e.t e.tw).mono fun z w63 ⟨he, X63⟩ => ⟨_, he, fun hl => ?_, fun hl => ?_⟩
      all_goals have s63' := Step.of_no X63 s59.ok
      all_goals refine ⟨_, _, ?_, (s54.none.trans s59).trans s63'.none, r59.step s63' id, .inl rfl⟩
      all_goals rw [chk3 hr0 hp0, behind_as]
      · exact congrArg (Value.int .i64) ((if_pos hpv).trans (if_pos hl)).symm
      · exact congrArg (Value.int .i64) ((if_pos hpv).trans (if_neg (by rw [show lateS (CL.mk wr pb es (headS S es).1).es e.t e.tw = false from hl]; decide))).symm
theorem rAccept_spec (P : RLog w o q wr pb es) (h : RSt w o j S n) (hqj : q ≠ j) (hn : n + 1 < 1000000) (hf : entRight e = true → e.fit) (hb : Row w o a (bytesV e.body)) (hbc : e.body.length ≤ c) (hbl : ∀ x ∈ es, x.body.length < 1000000) :
    Calls Try.prog 22 #[.pointer (some (blk q)), .pointer (some (blk j)), entV e a c] w (fun x w' => ∃ o' S', x = .returned (.int .i64 (checkC S ⟨wr, pb, es, (headS S es).1⟩ e)) ∧ Step (fun i => i = q ∨ i = j) w o w' o' ∧
      RLog w' o' q wr pb (if checkC S ⟨wr, pb, es, (headS S es).1⟩ e = 0 then es ++ [e] else es) ∧ RSt w' o' j S' (n + 1) ∧ (S' = (headS S es).2 ∨ S' = S ∧ checkC S ⟨wr, pb, es, (headS S es).1⟩ e ≠ 0)) := by
  refine (cachetteref07_Log_Accept.go (some (blk q)) (some (blk j)) e.w e.i e.pv e.t e.tw e.ep a e.body.length c e.sg (R := fun v w' => ∃ o' S', v = .int .i64 (checkC S ⟨wr, pb, es, (headS S es).1⟩ e) ∧ Step (fun i => i = q ∨ i = j) w o w' o' ∧
      RLog w' o' q wr pb (if checkC S ⟨wr, pb, es, (headS S es).1⟩ e = 0 then es ++ [e] else es) ∧ RSt w' o' j S' (n + 1) ∧ (S' = (headS S es).2 ∨ S' = S ∧ checkC S ⟨wr, pb, es, (headS S es).1⟩ e ≠ 0)) ?_).mono fun x w' ⟨v, he, o', S', hv, hw⟩ => ⟨o', S', by rw [he, hv], hw⟩
  unfold cachetteref07_Log_Accept.N
  intro w11 p12 X11 hp
  obtain ⟨s11, M11⟩ := Step.priv X11 hp h.ok
  have g12 := hp p12 (by simp)
  have hjl := h.lt
  have hlt := P.lt
  refine (rCheck_spec (P.step s11 id) (h.step s11 id) hqj hn hf (hb.step s11) hbl).mono fun x w15 ⟨o15, S', he, s15', r15, hS⟩ => ⟨_, he, M11.keep s15' (by simp; omega), fun h0 => ?_, fun h0 => ?_⟩
  · have s15 := s11.none.trans s15'
    have P15 := (P.step s11 id).step s15' hqj
    obtain ⟨q1, q2, _⟩ := accept_out (L := ⟨wr, pb, es, (headS S es).1⟩) P.few h0
    obtain ⟨la, lc, l, g0, b1, b2, b3, b4⟩ := P15.st
    have hl := len_map_e g0
    have q1' : es.length < 200 := q1
    refine ⟨_, rfl, la, l.length, lc, b1.cella (i := 2) rfl, fun w21 q22 X21 hb22 hq22 hq22' => ?_⟩
    have s21' := Step.of_no X21 s15.ok
    have b21 := s21'.blk b1 P15.own id
    obtain ⟨i, hi, hz, hsz, hby⟩ := info_of inf47
    have hnews : RowAt w21 (some (blk q22)) (PE.C ⟨e, a, c⟩) := RowAt.of_blk hb22
    have l21 := s21'.size
    have l15 := s15.size
    obtain ⟨a', c', w25, o25, hr, s25', g25, hkeep, hblk⟩ := (b2.step s21' id).push (ty := 40) Try.underlying40 hi hz hsz hby rfl (by decide) s21'.ok (by omega) (xa := some (blk q22)) (m := 1) (xc := 1) (news := PE.C ⟨e, a, c⟩) rfl hnews (PE.one _) (by decide) (by omega) (by omega)
    have oq21 : grow w15 o15 q = some q := (s21'.own (by omega)).trans P15.own
    have b25 : Blk w25 q 42 [.int .i64 wr, .int .u64 pb, .slice la l.length lc] := by
      unfold Blk at b21 ⊢
      rw [hkeep q (by omega) fun ad hd e => b3 ad hd e.symm]; exact b21
    refine ⟨b21.cella (i := 2) rfl, a', _, c', w25, hr, b25.cana (i := 2) rfl, thenW_in fun w26 e26 => ?_⟩
    have tq25 : o25 q = some q := (s25'.own (by omega)).trans oq21
    have hne : ∀ ad, a' = some ad → ad.block ≠ q := fun ad hd e => by
      rcases hblk ad hd with ⟨b, hb1, hb2⟩ | hq
      · exact b3 b hb1 (by omega)
      · omega
    have X26 : Ext (fun b => b = q) w25 w26 := (Ext.refl (fun b => b = q) w25).x_set (q := q) (i := 2) rfl (.inl rfl) e26
    obtain ⟨o26, s26'⟩ := Step.store1 X26 s25'.ok tq25
    have b26 := b25.seti 2 rfl e26
    have st : Step (fun i => i = q) w15 o15 w26 o26 := (s21'.none.trans s25').trans s26'
    refine ⟨o26, S', by rw [h0], (s15.mono fun _ h _ => .inr h).trans (st.mono fun _ h _ => .inl h), ?_, r15.step st (fun e => hqj e.symm), hS⟩
    rw [if_pos h0]
    refine ⟨(s26'.own (by have := s25'.size; omega)).trans tq25, by rw [List.length_append]; show es.length + 1 ≤ 200; omega, a', c', l ++ [⟨e, a, c⟩], by rw [List.map_append, g0]; rfl, by rw [List.length_append]; exact b26, ?_, hne, fun x hx => ?_⟩
    · rw [List.length_append]
      have : PE.Cs (l ++ [⟨e, a, c⟩]) = PE.Cs l ++ PE.C ⟨e, a, c⟩ := by simp [PE.Cs]
      rw [this]
      exact g25.keep X26 (fun ad hd => hne ad hd) fun b hb => s26'.own hb
    · rcases List.mem_append.1 hx with hx | hx
      · exact (b4 x hx).step st
      · simp at hx; subst hx
        exact ⟨(hb.step s15).step st, hbc, hf q2⟩
  · have s15 := s11.none.trans s15'
    refine ⟨o15, S', rfl, s15.mono fun _ h _ => .inr h, ?_, r15, hS⟩
    rw [if_neg h0]
    exact (P.step s11 id).step s15' hqj
end
end Go.Proofs.Ytdelmfpchbpafaa
