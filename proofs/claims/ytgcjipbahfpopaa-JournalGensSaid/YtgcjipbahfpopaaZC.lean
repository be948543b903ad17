/- Journal: predicates of a journal on a disk. -/
import Derived.Test.YtgcjipbahfpopaaZB
set_option linter.unusedVariables false
set_option linter.unusedSimpArgs false
set_option maxRecDepth 20000
set_option maxHeartbeats 4000000
namespace Go.Proofs.Ytgcjipbahfpopaa
open Go Go.Mx Go.Proofs
/-- journal.stretch -/
def journal_stretch.M (d1 : Option Addr) (a1 : Int) (a2 : Int) (aj : Int) (R : Value → World → Prop) (w : World) : Prop :=
 Calls Try.prog 53 #[.pointer d1] w fun co a3 => ∃ (a0 : Int), co = .returned (.int .i64 a0) ∧
 bif Option.isNone d1 then (
 bif aj != 0 then (
 bif decide (a1 ≥ 0) then (
 bif decide (a2 ≥ 1) then (
 R (.tuple #[.slice none 0 0, .int .i64 23]) a3) else (
 bif aj == 0 then (
 R (.tuple #[.slice none 0 0, .int .i64 1]) a3) else (
 bif decide (a1 < 0) then (
 R (.tuple #[.slice none 0 0, .int .i64 1]) a3) else (
 bif decide (a2 < 1) then (
 R (.tuple #[.slice none 0 0, .int .i64 1]) a3) else (
 bif decide (a1 > a0) then (
 R (.tuple #[.slice none 0 0, .int .i64 1]) a3) else (
 bif decide (a2 > (IntKind.i64.wrap (a0 - a1))) then (
 R (.tuple #[.slice none 0 0, .int .i64 1]) a3) else (
 Calls Try.prog 24 #[.pointer d1] a3 fun cm bt => ∃ (ak : Bool), cm = .returned (.bool ak) ∧
 bif ak then (
 R (.tuple #[.slice none 0 0, .int .i64 19]) bt) else (
 ∃ (I1 : Nat → List Value → World → Prop) (cn : Nat), I1 cn [.slice none 0 0, .int .i64 0] bt ∧ ∀ (cb : Nat) (b1 : World) (aq : Option Addr) (az : Nat) (av : Nat) (bv : Int), I1 cb [.slice aq az av, .int .i64 bv] b1 →
 bif decide (bv < a2) then (
 Calls Try.prog 50 #[.pointer d1, .int .i64 (IntKind.i64.wrap (a1 + bv))] b1 fun c4 bk => ∃ (a6 : Option Addr) (a7 : Nat) (aa : Nat) (al : Int), c4 = .returned (.tuple #[.slice a6 a7 aa, .int .i64 al]) ∧
 thenW (bk.alloc (.cells #[.slice a6 a7 aa] 23)) fun c5 =>
 ∃ (bb : Option Addr) (bg : Nat) (bf : Nat) (b8 : World), (Builtin.append_ #[25, 25] 25 #[.slice aq az av, .slice (some (blk bk.heap.size)) 1 1]).run Try.prog c5 = .ok (.slice bb bg bf) b8 ∧
 ∃ cf, cf < cb ∧ I1 cf [.slice bb bg bf, .int .i64 (IntKind.i64.wrap (bv + 1))] b8) else (
 R (.tuple #[.slice aq az av, .int .i64 0]) b1))))))))) else (
 bif aj == 0 then (
 R (.tuple #[.slice none 0 0, .int .i64 1]) a3) else (
 bif decide (a1 < 0) then (
 R (.tuple #[.slice none 0 0, .int .i64 1]) a3) else (
 bif decide (a2 < 1) then (
 R (.tuple #[.slice none 0 0, .int .i64 1]) a3) else (
 bif decide (a1 > a0) then (
 R (.tuple #[.slice none 0 0, .int .i64 1]) a3) else (
 bif decide (a2 > (IntKind.i64.wrap (a0 - a1))) then (
 R (.tuple #[.slice none 0 0, .int .i64 1]) a3) else (
 Calls Try.prog 24 #[.pointer d1] a3 fun c1 bh => ∃ (ag : Bool), c1 = .returned (.bool ag) ∧
 bif ag then (
 R (.tuple #[.slice none 0 0, .int .i64 19]) bh) else (
 ∃ (I1 : Nat → List Value → World → Prop) (cl : Nat), I1 cl [.slice none 0 0, .int .i64 0] bh ∧ ∀ (ci : Nat) (am : World) (an : Option Addr) (b5 : Nat) (b2 : Nat) (bz : Int), I1 ci [.slice an b5 b2, .int .i64 bz] am →
 bif decide (bz < a2) then (
 Calls Try.prog 50 #[.pointer d1, .int .i64 (IntKind.i64.wrap (a1 + bz))] am fun c2 br => ∃ (ab : Option Addr) (ae : Nat) (af : Nat) (b0 : Int), c2 = .returned (.tuple #[.slice ab ae af, .int .i64 b0]) ∧
 thenW (br.alloc (.cells #[.slice ab ae af] 23)) fun c6 =>
 ∃ (bu : Option Addr) (bp : Nat) (bm : Nat) (b9 : World), (Builtin.append_ #[25, 25] 25 #[.slice an b5 b2, .slice (some (blk br.heap.size)) 1 1]).run Try.prog c6 = .ok (.slice bu bp bm) b9 ∧
 ∃ cd, cd < ci ∧ I1 cd [.slice bu bp bm, .int .i64 (IntKind.i64.wrap (bz + 1))] b9) else (
 R (.tuple #[.slice an b5 b2, .int .i64 0]) am))))))))) else (
 bif aj == 0 then (
 R (.tuple #[.slice none 0 0, .int .i64 1]) a3) else (
 bif decide (a1 < 0) then (
 R (.tuple #[.slice none 0 0, .int .i64 1]) a3) else (
 bif decide (a2 < 1) then (
 R (.tuple #[.slice none 0 0, .int .i64 1]) a3) else (
 bif decide (a1 > a0) then (
 R (.tuple #[.slice none 0 0, .int .i64 1]) a3) else (
 bif decide (a2 > (IntKind.i64.wrap (a0 - a1))) then (
 R (.tuple #[.slice none 0 0, .int .i64 1]) a3) else (
 Calls Try.prog 24 #[.pointer d1] a3 fun c0 b7 => ∃ (ai : Bool), c0 = .returned (.bool ai) ∧
 bif ai then (
 R (.tuple #[.slice none 0 0, .int .i64 19]) b7) else (
 ∃ (I1 : Nat → List Value → World → Prop) (cj : Nat), I1 cj [.slice none 0 0, .int .i64 0] b7 ∧ ∀ (cg : Nat) (ar : World) (ay : Option Addr) (b6 : Nat) (b4 : Nat) (bx : Int), I1 cg [.slice ay b6 b4, .int .i64 bx] ar →
 bif decide (bx < a2) then (
 Calls Try.prog 50 #[.pointer d1, .int .i64 (IntKind.i64.wrap (a1 + bx))] ar fun c7 bl => ∃ (a4 : Option Addr) (a5 : Nat) (a9 : Nat) (ap : Int), c7 = .returned (.tuple #[.slice a4 a5 a9, .int .i64 ap]) ∧
 thenW (bl.alloc (.cells #[.slice a4 a5 a9] 23)) fun c3 =>
 ∃ (bj : Option Addr) (bo : Nat) (bq : Nat) (bd : World), (Builtin.append_ #[25, 25] 25 #[.slice ay b6 b4, .slice (some (blk bl.heap.size)) 1 1]).run Try.prog c3 = .ok (.slice bj bo bq) bd ∧
 ∃ ch, ch < cg ∧ I1 ch [.slice bj bo bq, .int .i64 (IntKind.i64.wrap (bx + 1))] bd) else (
 R (.tuple #[.slice ay b6 b4, .int .i64 0]) ar))))))))) else (
 bif aj == 0 then (
 R (.tuple #[.slice none 0 0, .int .i64 1]) a3) else (
 bif decide (a1 < 0) then (
 R (.tuple #[.slice none 0 0, .int .i64 1]) a3) else (
 bif decide (a2 < 1) then (
 R (.tuple #[.slice none 0 0, .int .i64 1]) a3) else (
 bif decide (a1 > a0) then (
 R (.tuple #[.slice none 0 0, .int .i64 1]) a3) else (
 bif decide (a2 > (IntKind.i64.wrap (a0 - a1))) then (
 R (.tuple #[.slice none 0 0, .int .i64 1]) a3) else (
 Calls Try.prog 24 #[.pointer d1] a3 fun ca bc => ∃ (ah : Bool), ca = .returned (.bool ah) ∧
 bif ah then (
 R (.tuple #[.slice none 0 0, .int .i64 19]) bc) else (
 ∃ (I1 : Nat → List Value → World → Prop) (ck : Nat), I1 ck [.slice none 0 0, .int .i64 0] bc ∧ ∀ (cc : Nat) (aw : World) (ax : Option Addr) (au : Nat) (b3 : Nat) (bw : Int), I1 cc [.slice ax au b3, .int .i64 bw] aw →
 bif decide (bw < a2) then (
 Calls Try.prog 50 #[.pointer d1, .int .i64 (IntKind.i64.wrap (a1 + bw))] aw fun c9 ba => ∃ (a8 : Option Addr) (ad : Nat) (ac : Nat) (ao : Int), c9 = .returned (.tuple #[.slice a8 ad ac, .int .i64 ao]) ∧
 thenW (ba.alloc (.cells #[.slice a8 ad ac] 23)) fun c8 =>
 ∃ (be : Option Addr) (bi : Nat) (bn : Nat) (bs : World), (Builtin.append_ #[25, 25] 25 #[.slice ax au b3, .slice (some (blk ba.heap.size)) 1 1]).run Try.prog c8 = .ok (.slice be bi bn) bs ∧
 ∃ ce, ce < cc ∧ I1 ce [.slice be bi bn, .int .i64 (IntKind.i64.wrap (bw + 1))] bs) else (
 R (.tuple #[.slice ax au b3, .int .i64 0]) aw))))))))

theorem journal_stretch.eq (d1 : Option Addr) (base2 : Int) (size3 : Int) (gen4 : Int) (R : Value → World → Prop) (w : World) : mfunc Try.prog [(1, [0, 1, 57], [(8, (.one .slice)), (58, (.one (.int .i64)))])] 42 [.pointer d1, .int .i64 base2, .int .i64 size3, .int .u32 gen4] R w = journal_stretch.M d1 base2 size3 gen4 R w := by kernel_rfl
theorem journal_stretch.ok (d1 : Option Addr) (a0 : Int) (a1 : Int) (a2 : Int) {R : Value → World → Prop} {w : World} (h : journal_stretch.M d1 a0 a1 a2 R w) : Calls Try.prog 42 #[.pointer d1, .int .i64 a0, .int .i64 a1, .int .u32 a2] w fun e w' => ∃ v, e = .returned v ∧ R v w' :=
  mfunc_ok follows (H := [(1, [0, 1, 57], [(8, (.one .slice)), (58, (.one (.int .i64)))])]) (args := [.pointer d1, .int .i64 a0, .int .i64 a1, .int .u32 a2]) (by rw [journal_stretch.eq]; exact h)

def journal_stretch.N (d1 : Option Addr) (a1 : Int) (a2 : Int) (a4 : Int) (R : Value → World → Prop) (w : World) : Prop :=
 Calls Try.prog 53 #[.pointer d1] w fun c3 a3 => ∃ (a0 : Int), c3 = .returned (.int .i64 a0) ∧
 (d1 = none →
 (a4 ≠ 0 →
 (a1 ≥ 0 →
 (a2 ≥ 1 →
 R (.tuple #[.slice none 0 0, .int .i64 23]) a3) ∧
 (a2 < 1 →
 (a4 = 0 →
 R (.tuple #[.slice none 0 0, .int .i64 1]) a3) ∧
 (a4 ≠ 0 →
 (a1 < 0 →
 R (.tuple #[.slice none 0 0, .int .i64 1]) a3) ∧
 ((0 : Int) ≤ a1 →
 (a2 < 1 →
 R (.tuple #[.slice none 0 0, .int .i64 1]) a3) ∧
 ((1 : Int) ≤ a2 →
 (a1 > a0 →
 R (.tuple #[.slice none 0 0, .int .i64 1]) a3) ∧
 (a1 ≤ a0 →
 (-9223372036854775808 : Int) ≤ (a0 - a1) ∧ (a0 - a1) < 9223372036854775808 ∧
 (a2 > (a0 - a1) →
 R (.tuple #[.slice none 0 0, .int .i64 1]) a3) ∧
 (a2 ≤ (a0 - a1) →
 Calls Try.prog 24 #[.pointer d1] a3 fun bs bi => ∃ (a5 : Bool), bs = .returned (.bool a5) ∧
 (a5 = true →
 R (.tuple #[.slice none 0 0, .int .i64 19]) bi) ∧
 (a5 = false →
 ∃ (I1 : Nat → List Value → World → Prop) (c4 : Nat), I1 c4 [.slice none 0 0, .int .i64 0] bi ∧ ∀ (bv : Nat) (az : World) (b1 : Option Addr) (ao : Nat) (b0 : Nat) (am : Int), I1 bv [.slice b1 ao b0, .int .i64 am] az →
 (am < a2 →
 (-9223372036854775808 : Int) ≤ (a1 + am) ∧ (a1 + am) < 9223372036854775808 ∧
 Calls Try.prog 50 #[.pointer d1, .int .i64 (a1 + am)] az fun bq bd => ∃ (ag : Option Addr) (a9 : Nat) (ab : Nat) (au : Int), bq = .returned (.tuple #[.slice ag a9 ab, .int .i64 au]) ∧
 ∀ (aj : World) (bm : Nat), Ext no bd aj → Blk aj bm 23 [.slice ag a9 ab] → bd.heap.size ≤ bm → bm < aj.heap.size →
 ∃ (be : Option Addr) (b6 : Nat) (bl : Nat) (b9 : World), (Builtin.append_ #[25, 25] 25 #[.slice b1 ao b0, .slice (some (blk bm)) 1 1]).run Try.prog aj = .ok (.slice be b6 bl) b9 ∧
 (-9223372036854775808 : Int) ≤ (am + 1) ∧ (am + 1) < 9223372036854775808 ∧
 ∃ bw, bw < bv ∧ I1 bw [.slice be b6 bl, .int .i64 (am + 1)] b9) ∧
 (a2 ≤ am →
 R (.tuple #[.slice b1 ao b0, .int .i64 0]) az))))))))) ∧
 (a1 < 0 →
 (a4 = 0 →
 R (.tuple #[.slice none 0 0, .int .i64 1]) a3) ∧
 (a4 ≠ 0 →
 (a1 < 0 →
 R (.tuple #[.slice none 0 0, .int .i64 1]) a3) ∧
 ((0 : Int) ≤ a1 →
 (a2 < 1 →
 R (.tuple #[.slice none 0 0, .int .i64 1]) a3) ∧
 ((1 : Int) ≤ a2 →
 (a1 > a0 →
 R (.tuple #[.slice none 0 0, .int .i64 1]) a3) ∧
 (a1 ≤ a0 →
 (-9223372036854775808 : Int) ≤ (a0 - a1) ∧ (a0 - a1) < 9223372036854775808 ∧
 (a2 > (a0 - a1) →
 R (.tuple #[.slice none 0 0, .int .i64 1]) a3) ∧
 (a2 ≤ (a0 - a1) →
 Calls Try.prog 24 #[.pointer d1] a3 fun bp b8 => ∃ (a6 : Bool), bp = .returned (.bool a6) ∧
 (a6 = true →
 R (.tuple #[.slice none 0 0, .int .i64 19]) b8) ∧
 (a6 = false →
 ∃ (I1 : Nat → List Value → World → Prop) (c5 : Nat), I1 c5 [.slice none 0 0, .int .i64 0] b8 ∧ ∀ (c0 : Nat) (ax : World) (aq : Option Addr) (b3 : Nat) (b2 : Nat) (ak : Int), I1 c0 [.slice aq b3 b2, .int .i64 ak] ax →
 (ak < a2 →
 (-9223372036854775808 : Int) ≤ (a1 + ak) ∧ (a1 + ak) < 9223372036854775808 ∧
 Calls Try.prog 50 #[.pointer d1, .int .i64 (a1 + ak)] ax fun bt bg => ∃ (aa : Option Addr) (af : Nat) (ac : Nat) (ap : Int), bt = .returned (.tuple #[.slice aa af ac, .int .i64 ap]) ∧
 ∀ (al : World) (bo : Nat), Ext no bg al → Blk al bo 23 [.slice aa af ac] → bg.heap.size ≤ bo → bo < al.heap.size →
 ∃ (b4 : Option Addr) (bh : Nat) (bk : Nat) (ba : World), (Builtin.append_ #[25, 25] 25 #[.slice aq b3 b2, .slice (some (blk bo)) 1 1]).run Try.prog al = .ok (.slice b4 bh bk) ba ∧
 (-9223372036854775808 : Int) ≤ (ak + 1) ∧ (ak + 1) < 9223372036854775808 ∧
 ∃ bx, bx < c0 ∧ I1 bx [.slice b4 bh bk, .int .i64 (ak + 1)] ba) ∧
 (a2 ≤ ak →
 R (.tuple #[.slice aq b3 b2, .int .i64 0]) ax))))))))) ∧
 (a4 = 0 →
 R (.tuple #[.slice none 0 0, .int .i64 1]) a3)) ∧
 (d1 ≠ none →
 (a4 = 0 →
 R (.tuple #[.slice none 0 0, .int .i64 1]) a3) ∧
 (a4 ≠ 0 →
 (a1 < 0 →
 R (.tuple #[.slice none 0 0, .int .i64 1]) a3) ∧
 ((0 : Int) ≤ a1 →
 (a2 < 1 →
 R (.tuple #[.slice none 0 0, .int .i64 1]) a3) ∧
 ((1 : Int) ≤ a2 →
 (a1 > a0 →
 R (.tuple #[.slice none 0 0, .int .i64 1]) a3) ∧
 (a1 ≤ a0 →
 (-9223372036854775808 : Int) ≤ (a0 - a1) ∧ (a0 - a1) < 9223372036854775808 ∧
 (a2 > (a0 - a1) →
 R (.tuple #[.slice none 0 0, .int .i64 1]) a3) ∧
 (a2 ≤ (a0 - a1) →
 Calls Try.prog 24 #[.pointer d1] a3 fun br bj => ∃ (a7 : Bool), br = .returned (.bool a7) ∧
 (a7 = true →
 R (.tuple #[.slice none 0 0, .int .i64 19]) bj) ∧
 (a7 = false →
 ∃ (I1 : Nat → List Value → World → Prop) (c2 : Nat), I1 c2 [.slice none 0 0, .int .i64 0] bj ∧ ∀ (c1 : Nat) (ar : World) (an : Option Addr) (aw : Nat) (av : Nat) (ah : Int), I1 c1 [.slice an aw av, .int .i64 ah] ar →
 (ah < a2 →
 (-9223372036854775808 : Int) ≤ (a1 + ah) ∧ (a1 + ah) < 9223372036854775808 ∧
 Calls Try.prog 50 #[.pointer d1, .int .i64 (a1 + ah)] ar fun bu bf => ∃ (ae : Option Addr) (a8 : Nat) (ad : Nat) (ay : Int), bu = .returned (.tuple #[.slice ae a8 ad, .int .i64 ay]) ∧
 ∀ (ai : World) (bn : Nat), Ext no bf ai → Blk ai bn 23 [.slice ae a8 ad] → bf.heap.size ≤ bn → bn < ai.heap.size →
 ∃ (bb : Option Addr) (b7 : Nat) (bc : Nat) (b5 : World), (Builtin.append_ #[25, 25] 25 #[.slice an aw av, .slice (some (blk bn)) 1 1]).run Try.prog ai = .ok (.slice bb b7 bc) b5 ∧
 (-9223372036854775808 : Int) ≤ (ah + 1) ∧ (ah + 1) < 9223372036854775808 ∧
 ∃ bz, bz < c1 ∧ I1 bz [.slice bb b7 bc, .int .i64 (ah + 1)] b5) ∧
 (a2 ≤ ah →
 R (.tuple #[.slice an aw av, .int .i64 0]) ar))))))))

theorem journal_stretch.up (d1 : Option Addr) (ad : Int) (ac : Int) (an : Int) {R : Value → World → Prop} {w : World} (h : journal_stretch.N d1 ad ac an R w) : journal_stretch.M d1 ad ac an R w := by
  unfold journal_stretch.M
  unfold journal_stretch.N at h
  refine h.mono fun cw cv h => ?_
  obtain ⟨a2, he, h⟩ := h
  refine ⟨a2, he, ?_⟩
  refine bif_of (fun c8 => ?_) (fun c8 => ?_)
  · have h := h.1 (isNone_t c8)
    refine bif_of (fun c9 => ?_) (fun c9 => ?_)
    · have h := h.1 (bne_t c9)
      refine bif_of (fun bw => ?_) (fun bw => ?_)
      · have h := h.1 (of_decide_eq_true bw)
        refine bif_of (fun aw => ?_) (fun aw => ?_)
        · have h := h.1 (of_decide_eq_true aw)
          exact h
        · have h := h.2 (Int.not_le.1 (of_decide_eq_false aw))
          refine bif_of (fun c0 => ?_) (fun c0 => ?_)
          · have h := h.1 (beq_t c0)
            exact h
          · have h := h.2 (beq_f c0)
            refine bif_of (fun b7 => ?_) (fun b7 => ?_)
            · have h := h.1 (of_decide_eq_true b7)
              exact h
            · have h := h.2 (Int.not_lt.1 (of_decide_eq_false b7))
              refine bif_of (fun b0 => ?_) (fun b0 => ?_)
              · have h := h.1 (of_decide_eq_true b0)
                exact h
              · have h := h.2 (Int.not_lt.1 (of_decide_eq_false b0))
                refine bif_of (fun bx => ?_) (fun bx => ?_)
                · have h := h.1 (of_decide_eq_true bx)
                  exact h
                · have h := h.2 (Int.not_lt.1 (of_decide_eq_false bx))
                  obtain ⟨a0, a1, h⟩ := h
                  try rw [w64 a0 a1]
                  refine bif_of (fun bq => ?_) (fun bq => ?_)
                  · have h := h.1 (of_decide_eq_true bq)
                    exact h
                  · have h := h.2 (Int.not_lt.1 (of_decide_eq_false bq))
                    refine h.mono fun ck co h => ?_
                    obtain ⟨ae, he, h⟩ := h
                    refine ⟨ae, he, ?_⟩
                    refine bif_of (fun bz => ?_) (fun bz => ?_)
                    · have h := h.1 bz
                      exact h
                    · have h := h.2 bz
                      obtain ⟨I1, cl, h0, h⟩ := h
                      refine ⟨I1, cl, h0, fun ci c5 bs bk bd cu hI => ?_⟩
                      have h := h ci c5 bs bk bd cu hI
                      refine bif_of (fun bi => ?_) (fun bi => ?_)
                      · have h := h.1 (of_decide_eq_true bi)
                        obtain ⟨a0, a1, h⟩ := h
                        try rw [w64 a0 a1]
                        refine h.mono fun ca ai h => ?_
                        obtain ⟨a4, a5, a6, ak, he, h⟩ := h
                        refine ⟨a4, a5, a6, ak, he, ?_⟩
                        refine thenW_in fun aq bm => ?_
                        have h := h aq ai.heap.size ((Ext.refl no ai).x_alloc bm) (Blk.of_new bm) ((Ext.refl no ai)).size (size_lt_alloc bm)
                        obtain ⟨b8, ba, be, bn, hr, h⟩ := h
                        refine ⟨b8, ba, be, bn, hr, ?_⟩
                        obtain ⟨a0, a1, h⟩ := h
                        try rw [w64 a0 a1]
                        obtain ⟨cc, hk, h⟩ := h
                        exact ⟨cc, hk, h⟩
                      · have h := h.2 (Int.not_lt.1 (of_decide_eq_false bi))
                        exact h
      · have h := h.2 (Int.not_le.1 (of_decide_eq_false bw))
        refine bif_of (fun c6 => ?_) (fun c6 => ?_)
        · have h := h.1 (beq_t c6)
          exact h
        · have h := h.2 (beq_f c6)
          refine bif_of (fun b2 => ?_) (fun b2 => ?_)
          · have h := h.1 (of_decide_eq_true b2)
            exact h
          · have h := h.2 (Int.not_lt.1 (of_decide_eq_false b2))
            refine bif_of (fun bg => ?_) (fun bg => ?_)
            · have h := h.1 (of_decide_eq_true bg)
              exact h
            · have h := h.2 (Int.not_lt.1 (of_decide_eq_false bg))
              refine bif_of (fun bh => ?_) (fun bh => ?_)
              · have h := h.1 (of_decide_eq_true bh)
                exact h
              · have h := h.2 (Int.not_lt.1 (of_decide_eq_false bh))
                obtain ⟨a0, a1, h⟩ := h
                try rw [w64 a0 a1]
                refine bif_of (fun b9 => ?_) (fun b9 => ?_)
                · have h := h.1 (of_decide_eq_true b9)
                  exact h
                · have h := h.2 (Int.not_lt.1 (of_decide_eq_false b9))
                  refine h.mono fun cn cb h => ?_
                  obtain ⟨am, he, h⟩ := h
                  refine ⟨am, he, ?_⟩
                  refine bif_of (fun bu => ?_) (fun bu => ?_)
                  · have h := h.1 bu
                    exact h
                  · have h := h.2 bu
                    obtain ⟨I1, ch, h0, h⟩ := h
                    refine ⟨I1, ch, h0, fun ct az av bt b1 cs hI => ?_⟩
                    have h := h ct az av bt b1 cs hI
                    refine bif_of (fun c1 => ?_) (fun c1 => ?_)
                    · have h := h.1 (of_decide_eq_true c1)
                      obtain ⟨a0, a1, h⟩ := h
                      try rw [w64 a0 a1]
                      refine h.mono fun cd ah h => ?_
                      obtain ⟨aa, ab, a7, aj, he, h⟩ := h
                      refine ⟨aa, ab, a7, aj, he, ?_⟩
                      refine thenW_in fun bb b6 => ?_
                      have h := h bb ah.heap.size ((Ext.refl no ah).x_alloc b6) (Blk.of_new b6) ((Ext.refl no ah)).size (size_lt_alloc b6)
                      obtain ⟨bf, br, bc, b5, hr, h⟩ := h
                      refine ⟨bf, br, bc, b5, hr, ?_⟩
                      obtain ⟨a0, a1, h⟩ := h
                      try rw [w64 a0 a1]
                      obtain ⟨ce, hk, h⟩ := h
                      exact ⟨ce, hk, h⟩
                    · have h := h.2 (Int.not_lt.1 (of_decide_eq_false c1))
                      exact h
    · have h := h.2 (bne_f c9)
      refine bif_tt (cong1 (r := true) (fun z => z == 0) (bne_f c9) (by decide)) ?_
      exact h
  · have h := h.2 (isNone_f c8)
    refine bif_of (fun bj => ?_) (fun bj => ?_)
    · have h := h.1 (beq_t bj)
      exact h
    · have h := h.2 (beq_f bj)
      refine bif_of (fun ax => ?_) (fun ax => ?_)
      · have h := h.1 (of_decide_eq_true ax)
        exact h
      · have h := h.2 (Int.not_lt.1 (of_decide_eq_false ax))
        refine bif_of (fun b4 => ?_) (fun b4 => ?_)
        · have h := h.1 (of_decide_eq_true b4)
          exact h
        · have h := h.2 (Int.not_lt.1 (of_decide_eq_false b4))
          refine bif_of (fun c7 => ?_) (fun c7 => ?_)
          · have h := h.1 (of_decide_eq_true c7)
            exact h
          · have h := h.2 (Int.not_lt.1 (of_decide_eq_false c7))
            obtain ⟨a0, a1, h⟩ := h
            try rw [w64 a0 a1]
            refine bif_of (fun c3 => ?_) (fun c3 => ?_)
            · have h := h.1 (of_decide_eq_true c3)
              exact h
            · have h := h.2 (Int.not_lt.1 (of_decide_eq_false c3))
              refine h.mono fun cr cf h => ?_
              obtain ⟨ag, he, h⟩ := h
              refine ⟨ag, he, ?_⟩
              refine bif_of (fun c2 => ?_) (fun c2 => ?_)
              · have h := h.1 c2
                exact h
              · have h := h.2 c2
                obtain ⟨I1, cj, h0, h⟩ := h
                refine ⟨I1, cj, h0, fun cg bo b3 ay bp cq hI => ?_⟩
                have h := h cg bo b3 ay bp cq hI
                refine bif_of (fun c4 => ?_) (fun c4 => ?_)
                · have h := h.1 (of_decide_eq_true c4)
                  obtain ⟨a0, a1, h⟩ := h
                  try rw [w64 a0 a1]
                  refine h.mono fun cp al h => ?_
                  obtain ⟨a8, a9, a3, af, he, h⟩ := h
                  refine ⟨a8, a9, a3, af, he, ?_⟩
                  refine thenW_in fun bl ap => ?_
                  have h := h bl al.heap.size ((Ext.refl no al).x_alloc ap) (Blk.of_new ap) ((Ext.refl no al)).size (size_lt_alloc ap)
                  obtain ⟨ar, bv, au, ao, hr, h⟩ := h
                  refine ⟨ar, bv, au, ao, hr, ?_⟩
                  obtain ⟨a0, a1, h⟩ := h
                  try rw [w64 a0 a1]
                  obtain ⟨cm, hk, h⟩ := h
                  exact ⟨cm, hk, h⟩
                · have h := h.2 (Int.not_lt.1 (of_decide_eq_false c4))
                  exact h

theorem journal_stretch.go (d1 : Option Addr) (a0 : Int) (a1 : Int) (a2 : Int) {R : Value → World → Prop} {w : World} (h : journal_stretch.N d1 a0 a1 a2 R w) : Calls Try.prog 42 #[.pointer d1, .int .i64 a0, .int .i64 a1, .int .u32 a2] w fun e w' => ∃ v, e = .returned v ∧ R v w' := journal_stretch.ok d1 a0 a1 a2 (journal_stretch.up d1 a0 a1 a2 h)
/-- journal.Open -/
def journal_Open.M (d1 : Option Addr) (a9 : Int) (aa : Int) (ab : Int) (R : Value → World → Prop) (w : World) : Prop :=
 Calls Try.prog 42 #[.pointer d1, .int .i64 a9, .int .i64 aa, .int .u32 ab] w fun ag af => ∃ (a3 : Option Addr) (a2 : Nat) (a1 : Nat) (a0 : Int), ag = .returned (.tuple #[.slice a3 a2 a1, .int .i64 a0]) ∧
 bif a0 != 0 then (
 R (.tuple #[.pointer none, .slice none 0 0, .int .i64 a0]) af) else (
 Calls Try.prog 16 #[.slice a3 a2 a1, .int .u32 ab] af fun ae ac => ∃ (a6 : Option Addr) (a4 : Nat) (a7 : Nat) (a8 : Int) (a5 : Int), ae = .returned (.tuple #[.slice a6 a4 a7, .int .i64 a8, .int .u32 a5]) ∧
 bif (IntKind.u32.wrap (a5 + 1)) == 0 then (
 R (.tuple #[.pointer none, .slice none 0 0, .int .i64 2]) ac) else (
 thenW (ac.alloc (.cells #[.pointer d1, .int .i64 a9, .int .i64 aa, .int .u32 ab, .int .u32 (IntKind.u32.wrap (a5 + 1)), .int .i64 a8, .int .i64 (a4 : Int), .bool false] 82)) fun ad =>
 R (.tuple #[.pointer (some (blk ac.heap.size)), .slice a6 a4 a7, .int .i64 0]) ad))

theorem journal_Open.eq (d1 : Option Addr) (base2 : Int) (size3 : Int) (gen4 : Int) (R : Value → World → Prop) (w : World) : mfunc Try.prog [] 20 [.pointer d1, .int .i64 base2, .int .i64 size3, .int .u32 gen4] R w = journal_Open.M d1 base2 size3 gen4 R w := by kernel_rfl
theorem journal_Open.ok (d1 : Option Addr) (a0 : Int) (a1 : Int) (a2 : Int) {R : Value → World → Prop} {w : World} (h : journal_Open.M d1 a0 a1 a2 R w) : Calls Try.prog 20 #[.pointer d1, .int .i64 a0, .int .i64 a1, .int .u32 a2] w fun e w' => ∃ v, e = .returned v ∧ R v w' :=
  mfunc_ok follows (H := []) (args := [.pointer d1, .int .i64 a0, .int .i64 a1, .int .u32 a2]) (by rw [journal_Open.eq]; exact h)

def journal_Open.N (d1 : Option Addr) (aa : Int) (ab : Int) (ac : Int) (R : Value → World → Prop) (w : World) : Prop :=
 Calls Try.prog 42 #[.pointer d1, .int .i64 aa, .int .i64 ab, .int .u32 ac] w fun ah ag => ∃ (a3 : Option Addr) (a2 : Nat) (a1 : Nat) (a0 : Int), ah = .returned (.tuple #[.slice a3 a2 a1, .int .i64 a0]) ∧
 (a0 ≠ 0 →
 R (.tuple #[.pointer none, .slice none 0 0, .int .i64 a0]) ag) ∧
 (a0 = 0 →
 Calls Try.prog 16 #[.slice a3 a2 a1, .int .u32 ac] ag fun af ad => ∃ (a6 : Option Addr) (a5 : Nat) (a7 : Nat) (a8 : Int) (a4 : Int), af = .returned (.tuple #[.slice a6 a5 a7, .int .i64 a8, .int .u32 a4]) ∧
 ((IntKind.u32.wrap (a4 + 1)) = 0 →
 R (.tuple #[.pointer none, .slice none 0 0, .int .i64 2]) ad) ∧
 ((IntKind.u32.wrap (a4 + 1)) ≠ 0 →
 ∀ (a9 : World) (ae : Nat), Ext no ad a9 → Blk a9 ae 82 [.pointer d1, .int .i64 aa, .int .i64 ab, .int .u32 ac, .int .u32 (IntKind.u32.wrap (a4 + 1)), .int .i64 a8, .int .i64 (a5 : Int), .bool false] → ad.heap.size ≤ ae → ae < a9.heap.size →
 R (.tuple #[.pointer (some (blk ae)), .slice a6 a5 a7, .int .i64 0]) a9))

theorem journal_Open.up (d1 : Option Addr) (a8 : Int) (a7 : Int) (ac : Int) {R : Value → World → Prop} {w : World} (h : journal_Open.N d1 a8 a7 ac R w) : journal_Open.M d1 a8 a7 ac R w := by
  unfold journal_Open.M
  unfold journal_Open.N at h
  refine h.mono fun ai ah h => ?_
  obtain ⟨a1, a0, a2, a3, he, h⟩ := h
  refine ⟨a1, a0, a2, a3, he, ?_⟩
  refine bif_of (fun c9 => ?_) (fun c9 => ?_)
  · have h := h.1 (bne_t c9)
    exact h
  · have h := h.2 (bne_f c9)
    refine h.mono fun ag a9 h => ?_
    obtain ⟨a5, a6, a4, ab, aa, he, h⟩ := h
    refine ⟨a5, a6, a4, ab, aa, he, ?_⟩
    refine bif_of (fun af => ?_) (fun af => ?_)
    · have h := h.1 (beq_t af)
      exact h
    · have h := h.2 (beq_f af)
      refine thenW_in fun ae ad => ?_
      have h := h ae a9.heap.size ((Ext.refl no a9).x_alloc ad) (Blk.of_new ad) ((Ext.refl no a9)).size (size_lt_alloc ad)
      exact h

theorem journal_Open.go (d1 : Option Addr) (a0 : Int) (a1 : Int) (a2 : Int) {R : Value → World → Prop} {w : World} (h : journal_Open.N d1 a0 a1 a2 R w) : Calls Try.prog 20 #[.pointer d1, .int .i64 a0, .int .i64 a1, .int .u32 a2] w fun e w' => ∃ v, e = .returned v ∧ R v w' := journal_Open.ok d1 a0 a1 a2 (journal_Open.up d1 a0 a1 a2 h)
/-- journal.Create -/
def journal_Create.M (d1 : Option Addr) (a6 : Int) (a7 : Int) (a8 : Int) (R : Value → World → Prop) (w : World) : Prop :=
 Calls Try.prog 20 #[.pointer d1, .int .i64 a6, .int .i64 a7, .int .u32 a8] w fun ad a9 => ∃ (a0 : Option Addr) (a4 : Option Addr) (a2 : Nat) (a3 : Nat) (a1 : Int), ad = .returned (.tuple #[.pointer a0, .slice a4 a2 a3, .int .i64 a1]) ∧
 bif a1 == 0 then (
 a0.elim False fun ac =>
 canStore a9 ((ac.add 5).add 0) ∧
 thenW (a9.setCell ((ac.add 5).add 0) (.int .i64 0)) fun a5 =>
 a0.elim False fun ab =>
 canStore a5 ((ab.add 6).add 0) ∧
 thenW (a5.setCell ((ab.add 6).add 0) (.int .i64 0)) fun aa =>
 R (.tuple #[.pointer a0, .int .i64 a1]) aa) else (
 R (.tuple #[.pointer a0, .int .i64 a1]) a9)

theorem journal_Create.eq (d1 : Option Addr) (base2 : Int) (size3 : Int) (gen4 : Int) (R : Value → World → Prop) (w : World) : mfunc Try.prog [] 26 [.pointer d1, .int .i64 base2, .int .i64 size3, .int .u32 gen4] R w = journal_Create.M d1 base2 size3 gen4 R w := by kernel_rfl
theorem journal_Create.ok (d1 : Option Addr) (a0 : Int) (a1 : Int) (a2 : Int) {R : Value → World → Prop} {w : World} (h : journal_Create.M d1 a0 a1 a2 R w) : Calls Try.prog 26 #[.pointer d1, .int .i64 a0, .int .i64 a1, .int .u32 a2] w fun e w' => ∃ v, e = .returned v ∧ R v w' :=
  mfunc_ok follows (H := []) (args := [.pointer d1, .int .i64 a0, .int .i64 a1, .int .u32 a2]) (by rw [journal_Create.eq]; exact h)

def journal_Create.N (d1 : Option Addr) (a7 : Int) (a8 : Int) (a9 : Int) (R : Value → World → Prop) (w : World) : Prop :=
 Calls Try.prog 20 #[.pointer d1, .int .i64 a7, .int .i64 a8, .int .u32 a9] w fun ac aa => ∃ (a1 : Option Addr) (a4 : Option Addr) (a2 : Nat) (a3 : Nat) (a0 : Int), ac = .returned (.tuple #[.pointer a1, .slice a4 a2 a3, .int .i64 a0]) ∧
 (a0 = 0 →
 ∃ a6 : Addr, a1 = some a6 ∧
 canStore aa ((a6.add 5).add 0) ∧
 thenW (aa.setCell ((a6.add 5).add 0) (.int .i64 0)) fun a5 =>
 canStore a5 ((a6.add 6).add 0) ∧
 thenW (a5.setCell ((a6.add 6).add 0) (.int .i64 0)) fun ab =>
 R (.tuple #[.pointer a1, .int .i64 a0]) ab) ∧
 (a0 ≠ 0 →
 R (.tuple #[.pointer a1, .int .i64 a0]) aa)

theorem journal_Create.up (d1 : Option Addr) (a3 : Int) (a4 : Int) (a8 : Int) {R : Value → World → Prop} {w : World} (h : journal_Create.N d1 a3 a4 a8 R w) : journal_Create.M d1 a3 a4 a8 R w := by
  unfold journal_Create.M
  unfold journal_Create.N at h
  refine h.mono fun af ag h => ?_
  obtain ⟨a5, a2, a0, a1, a6, he, h⟩ := h
  refine ⟨a5, a2, a0, a1, a6, he, ?_⟩
  refine bif_of (fun a9 => ?_) (fun a9 => ?_)
  · have h := h.1 (beq_t a9)
    obtain ⟨ae, a7, h⟩ := h
    refine elim_some a7 ?_
    obtain ⟨hcs, h⟩ := h
    refine ⟨hcs, thenW_in fun aa ac => ?_⟩
    replace h := thenW_out h ac
    refine elim_some a7 ?_
    obtain ⟨hcs, h⟩ := h
    refine ⟨hcs, thenW_in fun ab ad => ?_⟩
    replace h := thenW_out h ad
    exact h
  · have h := h.2 (beq_f a9)
    exact h

theorem journal_Create.go (d1 : Option Addr) (a0 : Int) (a1 : Int) (a2 : Int) {R : Value → World → Prop} {w : World} (h : journal_Create.N d1 a0 a1 a2 R w) : Calls Try.prog 26 #[.pointer d1, .int .i64 a0, .int .i64 a1, .int .u32 a2] w fun e w' => ∃ v, e = .returned v ∧ R v w' := journal_Create.ok d1 a0 a1 a2 (journal_Create.up d1 a0 a1 a2 h)
/-- (*journal.Journal).Append -/
def journal_Journal_Append.M (j1 : Option Addr) (bq : Option Addr) (bb : Nat) (bm : Nat) (R : Value → World → Prop) (w : World) : Prop :=
 Calls Try.prog 12 #[.int .i64 (bb : Int)] w fun bk au => ∃ (a2 : Int), bk = .returned (.int .i64 a2) ∧
 bif Option.isNone j1 then (
 R (.int .i64 23) au) else (
 bif a2 == 0 then (
 R (.int .i64 3) au) else (
 j1.elim False fun a6 =>
 ∃ (am : Bool), au.cell? (a6.add 7) = some (.bool am) ∧
 bif am then (
 R (.int .i64 19) au) else (
 thenW (au.drew) fun aw =>
 j1.elim False fun a9 =>
 ∃ (af : Int), aw.cell? (a9.add 2) = some (.int .i64 af) ∧
 j1.elim False fun bi =>
 ∃ (ab : Int), aw.cell? (bi.add 5) = some (.int .i64 ab) ∧
 bif decide (a2 > (IntKind.i64.wrap (af - ab))) then (
 R (.int .i64 18) aw) else (
 thenW (aw.drew) fun ah =>
 j1.elim False fun bh =>
 ∃ (ak : Int), ah.cell? (bh.add 3) = some (.int .u32 ak) ∧
 j1.elim False fun bl =>
 ∃ (a5 : Int), ah.cell? (bl.add 4) = some (.int .u32 a5) ∧
 j1.elim False fun bd =>
 ∃ (aj : Int), ah.cell? (bd.add 6) = some (.int .i64 aj) ∧
 Calls Try.prog 9 #[.int .u32 ak, .int .u32 a5, .int .u32 (IntKind.u32.wrap aj), .slice bq bb bm] ah fun az b3 => ∃ (a3 : Option Addr) (a0 : Nat) (a7 : Nat) (ag : Int), az = .returned (.tuple #[.slice a3 a0 a7, .int .i64 ag]) ∧
 ∃ (I1 : Nat → List Value → World → Prop) (bg : Nat), I1 bg [.int .i64 0] b3 ∧ ∀ (bc : Nat) (ad : World) (ao : Int), I1 bc [.int .i64 ao] ad →
 bif decide (ao < (a0 : Int)) then (
 a3.elim False fun bp =>
 0 ≤ (ao : Int) ∧ (ao : Int) < (a0 : Int) ∧
 ∃ (ar : Option Addr) (av : Nat) (aq : Nat), ad.cell? (bp.add (Int.toNat ao * 1)) = some (.slice ar av aq) ∧
 thenW (ad.drew) fun ai =>
 j1.elim False fun br =>
 ∃ (b7 : Option Addr), ai.cell? (br.add 0) = some (.pointer b7) ∧
 j1.elim False fun bj =>
 ∃ (ac : Int), ai.cell? (bj.add 1) = some (.int .i64 ac) ∧
 j1.elim False fun bf =>
 ∃ (aa : Int), ai.cell? (bf.add 5) = some (.int .i64 aa) ∧
 Calls Try.prog 28 #[.pointer b7, .int .i64 (IntKind.i64.wrap ((IntKind.i64.wrap (ac + aa)) + ao)), .slice ar av aq] ai fun ax ap => ∃ (a1 : Int), ax = .returned (.int .i64 a1) ∧
 bif a1 != 0 then (
 j1.elim False fun b9 =>
 canStore ap ((b9.add 7).add 0) ∧
 thenW (ap.setCell ((b9.add 7).add 0) (.bool true)) fun ay =>
 R (.int .i64 a1) ay) else (
 ∃ b4, b4 < bc ∧ I1 b4 [.int .i64 (IntKind.i64.wrap (ao + 1))] ap)) else (
 j1.elim False fun be =>
 ∃ (b5 : Option Addr), ad.cell? (be.add 0) = some (.pointer b5) ∧
 Calls Try.prog 29 #[.pointer b5] ad fun b2 a8 => ∃ (a4 : Int), b2 = .returned (.int .i64 a4) ∧
 bif a4 != 0 then (
 j1.elim False fun b6 =>
 canStore a8 ((b6.add 7).add 0) ∧
 thenW (a8.setCell ((b6.add 7).add 0) (.bool true)) fun b1 =>
 R (.int .i64 a4) b1) else (
 j1.elim False fun bo =>
 ∃ (ae : Int), a8.cell? (bo.add 5) = some (.int .i64 ae) ∧
 j1.elim False fun b8 =>
 canStore a8 ((b8.add 5).add 0) ∧
 thenW (a8.setCell ((b8.add 5).add 0) (.int .i64 (IntKind.i64.wrap (ae + a2)))) fun an =>
 j1.elim False fun bn =>
 ∃ (al : Int), an.cell? (bn.add 6) = some (.int .i64 al) ∧
 j1.elim False fun ba =>
 canStore an ((ba.add 6).add 0) ∧
 thenW (an.setCell ((ba.add 6).add 0) (.int .i64 (IntKind.i64.wrap (al + 1)))) fun b0 =>
 R (.int .i64 0) b0))))))

theorem journal_Journal_Append.eq (j1 : Option Addr) (b2a : Option Addr) (b2n : Nat) (b2c : Nat) (R : Value → World → Prop) (w : World) : mfunc Try.prog [(1, [0, 5, 56, 57], [(58, (.one (.int .i64)))])] 23 [.pointer j1, .slice b2a b2n b2c] R w = journal_Journal_Append.M j1 b2a b2n b2c R w := by kernel_rfl
theorem journal_Journal_Append.ok (j1 : Option Addr) (a1 : Option Addr) (a2 : Nat) (a0 : Nat) {R : Value → World → Prop} {w : World} (h : journal_Journal_Append.M j1 a1 a2 a0 R w) : Calls Try.prog 23 #[.pointer j1, .slice a1 a2 a0] w fun e w' => ∃ v, e = .returned v ∧ R v w' :=
  mfunc_ok follows (H := [(1, [0, 5, 56, 57], [(58, (.one (.int .i64)))])]) (args := [.pointer j1, .slice a1 a2 a0]) (by rw [journal_Journal_Append.eq]; exact h)

def journal_Journal_Append.N (j1 : Option Addr) (ba : Option Addr) (aj : Nat) (b9 : Nat) (R : Value → World → Prop) (w : World) : Prop :=
 (j1 = none →
 ∀ (ai : World), Ext no w ai →
 R (.int .i64 23) ai) ∧
 (j1 ≠ none →
 ((journal_Parts.F (aj : Int)) = 0 →
 ∀ (ai : World), Ext no w ai →
 R (.int .i64 3) ai) ∧
 ((journal_Parts.F (aj : Int)) ≠ 0 →
 ∃ a6 : Addr, j1 = some a6 ∧
 ∃ (af : Bool), w.cell? (a6.add 7) = some (.bool af) ∧
 (af = true →
 ∀ (ai : World), Ext no w ai →
 R (.int .i64 19) ai) ∧
 (af = false →
 ∃ (a4 : Int), w.cell? (a6.add 2) = some (.int .i64 a4) ∧
 ∃ (a5 : Int), w.cell? (a6.add 5) = some (.int .i64 a5) ∧
 (-9223372036854775808 : Int) ≤ (a4 - a5) ∧ (a4 - a5) < 9223372036854775808 ∧
 ((journal_Parts.F (aj : Int)) > (a4 - a5) →
 ∀ (ar : World), Ext no w ar →
 R (.int .i64 18) ar) ∧
 ((journal_Parts.F (aj : Int)) ≤ (a4 - a5) →
 ∃ (ak : Int), w.cell? (a6.add 3) = some (.int .u32 ak) ∧
 ∃ (ac : Int), w.cell? (a6.add 4) = some (.int .u32 ac) ∧
 ∃ (al : Int), w.cell? (a6.add 6) = some (.int .i64 al) ∧
 ∀ (ao : World), Ext no w ao →
 Calls Try.prog 9 #[.int .u32 ak, .int .u32 ac, .int .u32 (IntKind.u32.wrap al), .slice ba aj b9] ao fun az ay => ∃ (aa : Option Addr) (a0 : Nat) (ae : Nat) (ah : Int), az = .returned (.tuple #[.slice aa a0 ae, .int .i64 ah]) ∧
 ∃ (I1 : Nat → List Value → World → Prop) (b8 : Nat), I1 b8 [.int .i64 0] ay ∧ ∀ (b4 : Nat) (a9 : World) (ad : Int), I1 b4 [.int .i64 ad] a9 →
 (ad < (a0 : Int) →
 ∃ b6 : Addr, aa = some b6 ∧
 0 ≤ (ad : Int) ∧ (ad : Int) < (a0 : Int) ∧
 ∃ (av : Option Addr) (au : Nat) (ap : Nat), a9.cell? (b6.add (Int.toNat ad * 1)) = some (.slice av au ap) ∧
 ∃ (b3 : Option Addr), a9.cell? (a6.add 0) = some (.pointer b3) ∧
 ∃ (a1 : Int), a9.cell? (a6.add 1) = some (.int .i64 a1) ∧
 ∃ (a2 : Int), a9.cell? (a6.add 5) = some (.int .i64 a2) ∧
 (-9223372036854775808 : Int) ≤ (a1 + a2) ∧ (a1 + a2) < 9223372036854775808 ∧
 (-9223372036854775808 : Int) ≤ ((a1 + a2) + ad) ∧ ((a1 + a2) + ad) < 9223372036854775808 ∧
 ∀ (aq : World), Ext no a9 aq →
 Calls Try.prog 28 #[.pointer b3, .int .i64 ((a1 + a2) + ad), .slice av au ap] aq fun ax an => ∃ (a3 : Int), ax = .returned (.int .i64 a3) ∧
 (a3 ≠ 0 →
 canStore an ((a6.add 7).add 0) ∧
 thenW (an.setCell ((a6.add 7).add 0) (.bool true)) fun b2 =>
 R (.int .i64 a3) b2) ∧
 (a3 = 0 →
 (-9223372036854775808 : Int) ≤ (ad + 1) ∧ (ad + 1) < 9223372036854775808 ∧
 ∃ b7, b7 < b4 ∧ I1 b7 [.int .i64 (ad + 1)] an)) ∧
 ((a0 : Int) ≤ ad →
 ∃ (b5 : Option Addr), a9.cell? (a6.add 0) = some (.pointer b5) ∧
 Calls Try.prog 29 #[.pointer b5] a9 fun b0 ag => ∃ (a7 : Int), b0 = .returned (.int .i64 a7) ∧
 (a7 ≠ 0 →
 canStore ag ((a6.add 7).add 0) ∧
 thenW (ag.setCell ((a6.add 7).add 0) (.bool true)) fun b1 =>
 R (.int .i64 a7) b1) ∧
 (a7 = 0 →
 ∃ (a8 : Int), ag.cell? (a6.add 5) = some (.int .i64 a8) ∧
 (-9223372036854775808 : Int) ≤ (a8 + (journal_Parts.F (aj : Int))) ∧ (a8 + (journal_Parts.F (aj : Int))) < 9223372036854775808 ∧
 canStore ag ((a6.add 5).add 0) ∧
 thenW (ag.setCell ((a6.add 5).add 0) (.int .i64 (a8 + (journal_Parts.F (aj : Int))))) fun am =>
 ∃ (ab : Int), am.cell? (a6.add 6) = some (.int .i64 ab) ∧
 (-9223372036854775808 : Int) ≤ (ab + 1) ∧ (ab + 1) < 9223372036854775808 ∧
 canStore am ((a6.add 6).add 0) ∧
 thenW (am.setCell ((a6.add 6).add 0) (.int .i64 (ab + 1))) fun aw =>
 R (.int .i64 0) aw))))))

theorem journal_Journal_Append.up (j1 : Option Addr) (bf : Option Addr) (ap : Nat) (bg : Nat) {R : Value → World → Prop} {w : World} (h : journal_Journal_Append.N j1 bf ap bg R w) : journal_Journal_Append.M j1 bf ap bg R w := by
  unfold journal_Journal_Append.M
  unfold journal_Journal_Append.N at h
  refine (journal_Parts.pure (ap : Int)).mono fun ee ww3 ⟨he, hxx⟩ => ⟨(journal_Parts.F (ap : Int)), he, ?_⟩
  have am := (Ext.refl no w).trans hxx
  refine bif_of (fun c4 => ?_) (fun c4 => ?_)
  · have h := h.1 (isNone_t c4)
    have h := h ww3 am
    exact h
  · have h := h.2 (isNone_f c4)
    refine bif_of (fun c5 => ?_) (fun c5 => ?_)
    · have h := h.1 (beq_t c5)
      have h := h ww3 am
      exact h
    · have h := h.2 (beq_f c5)
      obtain ⟨a6, a0, h⟩ := h
      refine elim_some a0 ?_
      obtain ⟨ao, bo, h⟩ := h
      refine ⟨ao, (am).cell bo id, ?_⟩
      refine bif_of (fun c9 => ?_) (fun c9 => ?_)
      · have h := h.1 c9
        have h := h ww3 am
        exact h
      · have h := h.2 c9
        refine thenW_in fun bb bu => ?_
        have aa := am.x_drew bu
        refine elim_some a0 ?_
        obtain ⟨ah, b1, h⟩ := h
        refine ⟨ah, (aa).cell b1 id, ?_⟩
        refine elim_some a0 ?_
        obtain ⟨ai, ax, h⟩ := h
        refine ⟨ai, (aa).cell ax id, ?_⟩
        obtain ⟨a2, a5, h⟩ := h
        try rw [w64 a2 a5]
        refine bif_of (fun b7 => ?_) (fun b7 => ?_)
        · have h := h.1 (of_decide_eq_true b7)
          have h := h bb aa
          exact h
        · have h := h.2 (Int.not_lt.1 (of_decide_eq_false b7))
          refine thenW_in fun au c2 => ?_
          have ac := aa.x_drew c2
          refine elim_some a0 ?_
          obtain ⟨ak, b9, h⟩ := h
          refine ⟨ak, (ac).cell b9 id, ?_⟩
          refine elim_some a0 ?_
          obtain ⟨a8, b4, h⟩ := h
          refine ⟨a8, (ac).cell b4 id, ?_⟩
          refine elim_some a0 ?_
          obtain ⟨al, bd, h⟩ := h
          refine ⟨al, (ac).cell bd id, ?_⟩
          have h := h au ac
          refine h.mono fun bj bw h => ?_
          obtain ⟨a1, a4, a3, ab, he, h⟩ := h
          refine ⟨a1, a4, a3, ab, he, ?_⟩
          obtain ⟨I1, bx, h0, h⟩ := h
          refine ⟨I1, bx, h0, fun bq an c6 hI => ?_⟩
          have h := h bq an c6 hI
          refine bif_of (fun ba => ?_) (fun ba => ?_)
          · have h := h.1 (of_decide_eq_true ba)
            obtain ⟨cb, ay, h⟩ := h
            refine elim_some ay ?_
            obtain ⟨c8, bt, h⟩ := h
            refine ⟨c8, bt, ?_⟩
            obtain ⟨be, aw, az, b3, h⟩ := h
            refine ⟨be, aw, az, b3, ?_⟩
            refine thenW_in fun b8 bz => ?_
            have a9 := (Ext.refl no an).x_drew bz
            refine elim_some a0 ?_
            obtain ⟨bp, bc, h⟩ := h
            refine ⟨bp, (a9).cell bc id, ?_⟩
            refine elim_some a0 ?_
            obtain ⟨ad, av, h⟩ := h
            refine ⟨ad, (a9).cell av id, ?_⟩
            refine elim_some a0 ?_
            obtain ⟨af, b0, h⟩ := h
            refine ⟨af, (a9).cell b0 id, ?_⟩
            obtain ⟨a2, a5, h⟩ := h
            try rw [w64 a2 a5]
            obtain ⟨a2, a5, h⟩ := h
            try rw [w64 a2 a5]
            have h := h b8 a9
            refine h.mono fun bv bs h => ?_
            obtain ⟨a7, he, h⟩ := h
            refine ⟨a7, he, ?_⟩
            refine bif_of (fun b6 => ?_) (fun b6 => ?_)
            · have h := h.1 (bne_t b6)
              refine elim_some a0 ?_
              obtain ⟨hcs, h⟩ := h
              refine ⟨hcs, thenW_in fun c1 bl => ?_⟩
              replace h := thenW_out h bl
              exact h
            · have h := h.2 (bne_f b6)
              obtain ⟨a2, a5, h⟩ := h
              try rw [w64 a2 a5]
              obtain ⟨bm, hk, h⟩ := h
              exact ⟨bm, hk, h⟩
          · have h := h.2 (Int.not_lt.1 (of_decide_eq_false ba))
            refine elim_some a0 ?_
            obtain ⟨c0, b5, h⟩ := h
            refine ⟨c0, b5, ?_⟩
            refine h.mono fun c7 bn h => ?_
            obtain ⟨ag, he, h⟩ := h
            refine ⟨ag, he, ?_⟩
            refine bif_of (fun b2 => ?_) (fun b2 => ?_)
            · have h := h.1 (bne_t b2)
              refine elim_some a0 ?_
              obtain ⟨hcs, h⟩ := h
              refine ⟨hcs, thenW_in fun br bi => ?_⟩
              replace h := thenW_out h bi
              exact h
            · have h := h.2 (bne_f b2)
              refine elim_some a0 ?_
              obtain ⟨ae, aq, h⟩ := h
              refine ⟨ae, aq, ?_⟩
              obtain ⟨a2, a5, h⟩ := h
              try rw [w64 a2 a5]
              refine elim_some a0 ?_
              obtain ⟨hcs, h⟩ := h
              refine ⟨hcs, thenW_in fun bk ca => ?_⟩
              replace h := thenW_out h ca
              refine elim_some a0 ?_
              obtain ⟨aj, ar, h⟩ := h
              refine ⟨aj, ar, ?_⟩
              obtain ⟨a2, a5, h⟩ := h
              try rw [w64 a2 a5]
              refine elim_some a0 ?_
              obtain ⟨hcs, h⟩ := h
              refine ⟨hcs, thenW_in fun bh c3 => ?_⟩
              replace h := thenW_out h c3
              exact h

theorem journal_Journal_Append.go (j1 : Option Addr) (a1 : Option Addr) (a2 : Nat) (a0 : Nat) {R : Value → World → Prop} {w : World} (h : journal_Journal_Append.N j1 a1 a2 a0 R w) : Calls Try.prog 23 #[.pointer j1, .slice a1 a2 a0] w fun e w' => ∃ v, e = .returned v ∧ R v w' := journal_Journal_Append.ok j1 a1 a2 a0 (journal_Journal_Append.up j1 a1 a2 a0 h)
theorem journal_Journal_Append.run (j1 : Option Addr) (a1 : Option Addr) (a2 : Nat) (a0 : Nat) {V : Value} {Q : World → Prop} {w : World} (h : journal_Journal_Append.N j1 a1 a2 a0 (fun v w' => v = V ∧ Q w') w) : Calls Try.prog 23 #[.pointer j1, .slice a1 a2 a0] w (Ret V Q) := (journal_Journal_Append.go j1 a1 a2 a0 h).mono fun e w' ⟨v, he, hv, hq⟩ => ⟨by rw [he, hv], hq⟩

/-- cachettelaw10.alive -/
def cachettelaw10_alive.M  (R : Value → World → Prop) (w : World) : Prop :=
 thenW (w.alloc (.cells #[.int .u8 97, .int .u8 98] 5)) fun bq =>
 ∃ (bd : Option Addr) (be : Nat) (bg : Nat) (bb : World), (convert 23 23 (.slice (some (blk w.heap.size)) 2 2)).run Try.prog bq = .ok (.slice bd be bg) bb ∧
 Calls Try.prog 9 #[.int .u32 1, .int .u32 1, .int .u32 0, .slice bd be bg] bb fun bl bn => ∃ (a2 : Option Addr) (a1 : Nat) (af : Nat) (a9 : Int), bl = .returned (.tuple #[.slice a2 a1 af, .int .i64 a9]) ∧
 Calls Try.prog 19 #[.int .i64 4] bn fun b6 b8 => ∃ (ag : Option Addr) (ba : Int), b6 = .returned (.tuple #[.pointer ag, .int .i64 ba]) ∧
 Calls Try.prog 20 #[.pointer ag, .int .i64 0, .int .i64 4, .int .u32 1] b8 fun b9 am => ∃ (a6 : Option Addr) (ad : Option Addr) (ab : Nat) (ac : Nat) (a8 : Int), b9 = .returned (.tuple #[.pointer a6, .slice ad ab ac, .int .i64 a8]) ∧
 thenW (am.alloc (.cells #[.int .u8 97, .int .u8 98] 5)) fun b2 =>
 ∃ (al : Option Addr) (ai : Nat) (ah : Nat) (ar : World), (convert 23 23 (.slice (some (blk am.heap.size)) 2 2)).run Try.prog b2 = .ok (.slice al ai ah) ar ∧
 Calls Try.prog 23 #[.pointer a6, .slice al ai ah] ar fun b5 b3 => ∃ (a4 : Int), b5 = .returned (.int .i64 a4) ∧
 Calls Try.prog 20 #[.pointer ag, .int .i64 0, .int .i64 4, .int .u32 1] b3 fun b4 a0 => ∃ (ae : Option Addr) (a5 : Option Addr) (a3 : Nat) (aa : Nat) (a7 : Int), b4 = .returned (.tuple #[.pointer ae, .slice a5 a3 aa, .int .i64 a7]) ∧
 bif a9 == 0 then (
 bif (a1 : Int) == 1 then (
 a2.elim False fun bs =>
 0 ≤ (0 : Int) ∧ (0 : Int) < (a1 : Int) ∧
 ∃ (b1 : Option Addr) (av : Nat) (az : Nat), a0.cell? (bs.add (Int.toNat 0 * 1)) = some (.slice b1 av az) ∧
 bif (av : Int) == 64 then (
 a2.elim False fun bk =>
 0 ≤ (0 : Int) ∧ (0 : Int) < (a1 : Int) ∧
 ∃ (ap : Option Addr) (ak : Nat) (b7 : Nat), a0.cell? (bk.add (Int.toNat 0 * 1)) = some (.slice ap ak b7) ∧
 ap.elim False fun bp =>
 0 ≤ (0 : Int) ∧ (0 : Int) < (ak : Int) ∧
 ∃ (bh : Int), a0.cell? (bp.add (Int.toNat 0 * 1)) = some (.int .u8 bh) ∧
 bif bh == 197 then (
 a2.elim False fun bo =>
 0 ≤ (0 : Int) ∧ (0 : Int) < (a1 : Int) ∧
 ∃ (au : Option Addr) (aj : Nat) (b0 : Nat), a0.cell? (bo.add (Int.toNat 0 * 1)) = some (.slice au aj b0) ∧
 au.elim False fun bt =>
 0 ≤ (15 : Int) ∧ (15 : Int) < (aj : Int) ∧
 ∃ (bf : Int), a0.cell? (bt.add (Int.toNat 15 * 1)) = some (.int .u8 bf) ∧
 bif bf == 2 then (
 a2.elim False fun bm =>
 0 ≤ (0 : Int) ∧ (0 : Int) < (a1 : Int) ∧
 ∃ (aq : Option Addr) (an : Nat) (ay : Nat), a0.cell? (bm.add (Int.toNat 0 * 1)) = some (.slice aq an ay) ∧
 aq.elim False fun br =>
 0 ≤ (17 : Int) ∧ (17 : Int) < (an : Int) ∧
 ∃ (bi : Int), a0.cell? (br.add (Int.toNat 17 * 1)) = some (.int .u8 bi) ∧
 bif bi == 98 then (
 bif a8 == 0 then (
 bif a4 == 0 then (
 bif a7 == 0 then (
 bif (a3 : Int) == 1 then (
 a5.elim False fun bj =>
 0 ≤ (0 : Int) ∧ (0 : Int) < (a3 : Int) ∧
 ∃ (ao : Option Addr) (aw : Nat) (ax : Nat), a0.cell? (bj.add (Int.toNat 0 * 1)) = some (.slice ao aw ax) ∧
 ∃ (bc : ByteArray), (convert 23 9 (.slice ao aw ax)).run Try.prog a0 = .ok (.string bc) a0 ∧
 R (.bool (bc.toList == (ByteArray.mk #[97, 98]).toList)) a0) else (
 R (.bool false) a0)) else (
 R (.bool false) a0)) else (
 R (.bool false) a0)) else (
 R (.bool false) a0)) else (
 R (.bool false) a0)) else (
 R (.bool false) a0)) else (
 R (.bool false) a0)) else (
 R (.bool false) a0)) else (
 R (.bool false) a0)) else (
 R (.bool false) a0)

theorem cachettelaw10_alive.eq  (R : Value → World → Prop) (w : World) : mfunc Try.prog [] 8 [] R w = cachettelaw10_alive.M  R w := by kernel_rfl
theorem cachettelaw10_alive.ok  {R : Value → World → Prop} {w : World} (h : cachettelaw10_alive.M  R w) : Calls Try.prog 8 #[] w fun e w' => ∃ v, e = .returned v ∧ R v w' :=
  mfunc_ok follows (H := []) (args := []) (by rw [cachettelaw10_alive.eq]; exact h)

def cachettelaw10_alive.N  (R : Value → World → Prop) (w : World) : Prop :=
 ∀ (b2 : World) (q2 : Nat), Ext no w b2 → Blk b2 q2 5 [.int .u8 97, .int .u8 98] → w.heap.size ≤ q2 → q2 < b2.heap.size →
 ∃ (bh : Option Addr) (bm : Nat) (bk : Nat) (bj : World), (convert 23 23 (.slice (some (blk q2)) 2 2)).run Try.prog b2 = .ok (.slice bh bm bk) bj ∧
 Calls Try.prog 9 #[.int .u32 1, .int .u32 1, .int .u32 0, .slice bh bm bk] bj fun br bq => ∃ (a9 : Option Addr) (a1 : Nat) (af : Nat) (a7 : Int), br = .returned (.tuple #[.slice a9 a1 af, .int .i64 a7]) ∧
 Calls Try.prog 19 #[.int .i64 4] bq fun b7 be => ∃ (ai : Option Addr) (am : Int), b7 = .returned (.tuple #[.pointer ai, .int .i64 am]) ∧
 Calls Try.prog 20 #[.pointer ai, .int .i64 0, .int .i64 4, .int .u32 1] be fun b8 aq => ∃ (a8 : Option Addr) (ab : Option Addr) (aa : Nat) (ad : Nat) (a5 : Int), b8 = .returned (.tuple #[.pointer a8, .slice ab aa ad, .int .i64 a5]) ∧
 ∀ (ae : World) (b1 : Nat), Ext no aq ae → Blk ae b1 5 [.int .u8 97, .int .u8 98] → aq.heap.size ≤ b1 → b1 < ae.heap.size →
 ∃ (av : Option Addr) (b0 : Nat) (ak : Nat) (al : World), (convert 23 23 (.slice (some (blk b1)) 2 2)).run Try.prog ae = .ok (.slice av b0 ak) al ∧
 Calls Try.prog 23 #[.pointer a8, .slice av b0 ak] al fun b5 b3 => ∃ (a3 : Int), b5 = .returned (.int .i64 a3) ∧
 Calls Try.prog 20 #[.pointer ai, .int .i64 0, .int .i64 4, .int .u32 1] b3 fun bd a0 => ∃ (ag : Option Addr) (a6 : Option Addr) (a2 : Nat) (ac : Nat) (a4 : Int), bd = .returned (.tuple #[.pointer ag, .slice a6 a2 ac, .int .i64 a4]) ∧
 (a7 = 0 →
 ((a1 : Int) = 1 →
 ∃ ar : Addr, a9 = some ar ∧
 (0 : Int) < (a1 : Int) ∧
 ∃ (bg : Option Addr) (ah : Nat) (b4 : Nat), a0.cell? (ar.add (Int.toNat 0 * 1)) = some (.slice bg ah b4) ∧
 ((ah : Int) = 64 →
 (0 : Int) < (a1 : Int) ∧
 ∃ (an : Option Addr) (aj : Nat) (bc : Nat), a0.cell? (ar.add (Int.toNat 0 * 1)) = some (.slice an aj bc) ∧
 ∃ bl : Addr, an = some bl ∧
 (0 : Int) < (aj : Int) ∧
 ∃ (b9 : Int), a0.cell? (bl.add (Int.toNat 0 * 1)) = some (.int .u8 b9) ∧
 (b9 = 197 →
 (0 : Int) < (a1 : Int) ∧
 ∃ (ao : Option Addr) (ay : Nat) (bf : Nat), a0.cell? (ar.add (Int.toNat 0 * 1)) = some (.slice ao ay bf) ∧
 ∃ bn : Addr, ao = some bn ∧
 (15 : Int) < (ay : Int) ∧
 ∃ (b6 : Int), a0.cell? (bn.add (Int.toNat 15 * 1)) = some (.int .u8 b6) ∧
 (b6 = 2 →
 (0 : Int) < (a1 : Int) ∧
 ∃ (aw : Option Addr) (au : Nat) (bb : Nat), a0.cell? (ar.add (Int.toNat 0 * 1)) = some (.slice aw au bb) ∧
 ∃ bp : Addr, aw = some bp ∧
 (17 : Int) < (au : Int) ∧
 ∃ (ba : Int), a0.cell? (bp.add (Int.toNat 17 * 1)) = some (.int .u8 ba) ∧
 (ba = 98 →
 (a5 = 0 →
 (a3 = 0 →
 (a4 = 0 →
 ((a2 : Int) = 1 →
 ∃ bi : Addr, a6 = some bi ∧
 (0 : Int) < (a2 : Int) ∧
 ∃ (ap : Option Addr) (az : Nat) (ax : Nat), a0.cell? (bi.add (Int.toNat 0 * 1)) = some (.slice ap az ax) ∧
 ∃ (bo : ByteArray), (convert 23 9 (.slice ap az ax)).run Try.prog a0 = .ok (.string bo) a0 ∧
 R (.bool (bo.toList == (ByteArray.mk #[97, 98]).toList)) a0) ∧
 ((a2 : Int) ≠ 1 →
 R (.bool false) a0)) ∧
 (a4 ≠ 0 →
 R (.bool false) a0)) ∧
 (a3 ≠ 0 →
 R (.bool false) a0)) ∧
 (a5 ≠ 0 →
 R (.bool false) a0)) ∧
 (ba ≠ 98 →
 R (.bool false) a0)) ∧
 (b6 ≠ 2 →
 R (.bool false) a0)) ∧
 (b9 ≠ 197 →
 R (.bool false) a0)) ∧
 ((ah : Int) ≠ 64 →
 R (.bool false) a0)) ∧
 ((a1 : Int) ≠ 1 →
 R (.bool false) a0)) ∧
 (a7 ≠ 0 →
 R (.bool false) a0)

theorem cachettelaw10_alive.up  {R : Value → World → Prop} {w : World} (h : cachettelaw10_alive.N  R w) : cachettelaw10_alive.M  R w := by
  unfold cachettelaw10_alive.M
  unfold cachettelaw10_alive.N at h
  refine thenW_in fun bv e1 => ?_
  have h := h bv w.heap.size ((Ext.refl no w).x_alloc e1) (Blk.of_new e1) ((Ext.refl no w)).size (size_lt_alloc e1)
  obtain ⟨bw, bz, c4, c8, hr, h⟩ := h
  refine ⟨bw, bz, c4, c8, hr, ?_⟩
  refine h.mono fun cg ce h => ?_
  obtain ⟨ae, a9, af, ah, he, h⟩ := h
  refine ⟨ae, a9, af, ah, he, ?_⟩
  refine h.mono fun c7 ca h => ?_
  obtain ⟨b4, ai, he, h⟩ := h
  refine ⟨b4, ai, he, ?_⟩
  refine h.mono fun c1 ag h => ?_
  obtain ⟨ac, a1, a5, a7, ab, he, h⟩ := h
  refine ⟨ac, a1, a5, a7, ab, he, ?_⟩
  refine thenW_in fun b6 b5 => ?_
  have h := h b6 ag.heap.size ((Ext.refl no ag).x_alloc b5) (Blk.of_new b5) ((Ext.refl no ag)).size (size_lt_alloc b5)
  obtain ⟨am, ao, bh, ar, hr, h⟩ := h
  refine ⟨am, ao, bh, ar, hr, ?_⟩
  refine h.mono fun c6 bu h => ?_
  obtain ⟨a2, he, h⟩ := h
  refine ⟨a2, he, ?_⟩
  refine h.mono fun c5 c2 h => ?_
  obtain ⟨ad, a3, a6, a4, a8, he, h⟩ := h
  refine ⟨ad, a3, a6, a4, a8, he, ?_⟩
  refine bif_of (fun b8 => ?_) (fun b8 => ?_)
  · have h := h.1 (beq_t b8)
    refine bif_of (fun bl => ?_) (fun bl => ?_)
    · have h := h.1 (beq_t bl)
      obtain ⟨ch, aa, h⟩ := h
      refine elim_some aa ?_
      obtain ⟨a0, h⟩ := h
      refine ⟨by decide, a0, ?_⟩
      obtain ⟨bs, an, av, b3, h⟩ := h
      refine ⟨bs, an, av, b3, ?_⟩
      refine bif_of (fun ap => ?_) (fun ap => ?_)
      · have h := h.1 (beq_t ap)
        refine elim_some aa ?_
        obtain ⟨a0, h⟩ := h
        refine ⟨by decide, a0, ?_⟩
        obtain ⟨bt, aq, bb, bn, h⟩ := h
        refine ⟨bt, aq, bb, bn, ?_⟩
        obtain ⟨cb, aw, h⟩ := h
        refine elim_some aw ?_
        obtain ⟨a0, h⟩ := h
        refine ⟨by decide, a0, ?_⟩
        obtain ⟨c3, bj, h⟩ := h
        refine ⟨c3, bj, ?_⟩
        refine bif_of (fun ba => ?_) (fun ba => ?_)
        · have h := h.1 (beq_t ba)
          refine elim_some aa ?_
          obtain ⟨a0, h⟩ := h
          refine ⟨by decide, a0, ?_⟩
          obtain ⟨ak, b1, br, b9, h⟩ := h
          refine ⟨ak, b1, br, b9, ?_⟩
          obtain ⟨cc, aj, h⟩ := h
          refine elim_some aj ?_
          obtain ⟨a0, h⟩ := h
          refine ⟨by decide, a0, ?_⟩
          obtain ⟨bx, b7, h⟩ := h
          refine ⟨bx, b7, ?_⟩
          refine bif_of (fun bp => ?_) (fun bp => ?_)
          · have h := h.1 (beq_t bp)
            refine elim_some aa ?_
            obtain ⟨a0, h⟩ := h
            refine ⟨by decide, a0, ?_⟩
            obtain ⟨bf, bo, bk, bd, h⟩ := h
            refine ⟨bf, bo, bk, bd, ?_⟩
            obtain ⟨cd, az, h⟩ := h
            refine elim_some az ?_
            obtain ⟨a0, h⟩ := h
            refine ⟨by decide, a0, ?_⟩
            obtain ⟨c9, bm, h⟩ := h
            refine ⟨c9, bm, ?_⟩
            refine bif_of (fun ax => ?_) (fun ax => ?_)
            · have h := h.1 (beq_t ax)
              refine bif_of (fun bi => ?_) (fun bi => ?_)
              · have h := h.1 (beq_t bi)
                refine bif_of (fun bc => ?_) (fun bc => ?_)
                · have h := h.1 (beq_t bc)
                  refine bif_of (fun bq => ?_) (fun bq => ?_)
                  · have h := h.1 (beq_t bq)
                    refine bif_of (fun au => ?_) (fun au => ?_)
                    · have h := h.1 (beq_t au)
                      obtain ⟨cf, bg, h⟩ := h
                      refine elim_some bg ?_
                      obtain ⟨a0, h⟩ := h
                      refine ⟨by decide, a0, ?_⟩
                      obtain ⟨al, b2, b0, ay, h⟩ := h
                      refine ⟨al, b2, b0, ay, ?_⟩
                      obtain ⟨c0, be, h⟩ := h
                      refine ⟨c0, be, ?_⟩
                      exact h
                    · have h := h.2 (beq_f au)
                      exact h
                  · have h := h.2 (beq_f bq)
                    exact h
                · have h := h.2 (beq_f bc)
                  exact h
              · have h := h.2 (beq_f bi)
                exact h
            · have h := h.2 (beq_f ax)
              exact h
          · have h := h.2 (beq_f bp)
            exact h
        · have h := h.2 (beq_f ba)
          exact h
      · have h := h.2 (beq_f ap)
        exact h
    · have h := h.2 (beq_f bl)
      exact h
  · have h := h.2 (beq_f b8)
    exact h

theorem cachettelaw10_alive.go  {R : Value → World → Prop} {w : World} (h : cachettelaw10_alive.N  R w) : Calls Try.prog 8 #[] w fun e w' => ∃ v, e = .returned v ∧ R v w' := cachettelaw10_alive.ok  (cachettelaw10_alive.up  h)
theorem cachettelaw10_alive.run  {V : Value} {Q : World → Prop} {w : World} (h : cachettelaw10_alive.N  (fun v w' => v = V ∧ Q w') w) : Calls Try.prog 8 #[] w (Ret V Q) := (cachettelaw10_alive.go  h).mono fun e w' ⟨v, he, hv, hq⟩ => ⟨by rw [he, hv], hq⟩

end Go.Proofs.Ytgcjipbahfpopaa

/- Disk: the statements' small functions: Sector, light, what is given, the chapter's example. -/
set_option linter.unusedVariables false
set_option linter.unusedSimpArgs false
set_option maxRecDepth 20000
set_option maxHeartbeats 4000000
namespace Go.Proofs.Ytgcjipbahfpopaa
open Go Go.Mx Go.Proofs
open W (OwnB)
section
variable {K : Nat → Prop} {w w' w1 : World} {o o' o1 : Own} {g g2 m : Nat} {d : DS} {i : Int} {a : Option Addr} {c : Nat}
def BoolsQ (W : World) (cs : List Value) : Prop := ∃ (a : Option Addr) (c : Nat) (l : List Bool), cs = [.slice a l.length c] ∧ l.length ≤ c ∧ c ≤ maxLen ∧ RowAt W a (boolsV l)
theorem flat_bools (l : List Bool) : (l.flatMap fun b => [Value.bool b]) = boolsV l := by
  unfold boolsV
  induction l with
  | nil => rfl
  | cons x r ih => rw [List.flatMap_cons, ih]; rfl
theorem opens_bools : Opens Try.prog 33 BoolsQ := (opens_rows (size := 1) (f := fun b => [Value.bool b]) (G := fun _ _ => True) Try.underlying33 (by kernel_rfl) ((opens_bool Try.underlying4).mono fun W cs ⟨b, h⟩ => ⟨b, h, trivial⟩)).mono
  fun W cs ⟨a, c, l, h1, h2, h3, h4, _⟩ => ⟨a, c, l, h1, h2, h3, by rw [← flat_bools]; exact h4⟩
end
end Go.Proofs.Ytgcjipbahfpopaa

/- Disk: the chapter's example; DiskArms. -/
set_option linter.unusedVariables false
set_option linter.unusedSimpArgs false
set_option maxRecDepth 20000
set_option maxHeartbeats 4000000
namespace Go.Proofs.Ytgcjipbahfpopaa
open Go Go.Mx Go.Proofs
open W (OwnB)
section
variable {K : Nat → Prop} {w w' w1 : World} {o o' o1 : Own} {g g2 m : Nat} {d : DS} {i : Int} {a : Option Addr} {c : Nat}
theorem DS.ok.up {n : Nat} (h : d.ok m) (hm : m ≤ n) : d.ok n := ⟨h.n1, h.n2, h.at_, by have := h.pl; omega, by have := h.cl; omega, h.left⟩
theorem newDS_ok {n : Nat} (h1 : 1 ≤ n) (h2 : n ≤ 400) : (newDS n).ok 0 := by
  have hn : (newDS n).good.length = n := by unfold newDS; simp
  exact ⟨by omega, by omega, fun x hx => (by cases hx), Nat.le_refl _, ⟨Int.le_refl _, Int.le_refl _⟩, by show (0 : Int) ≤ 0; decide, by show (0 : Int) < _; decide⟩
theorem armD_ok (h : d.ok m) {n : Int} (hn : n < 9223372036854775808) : (armD d n).1.ok m := by
  unfold armD
  split
  · exact h
  · split
    · exact h
    · exact ⟨h.n1, h.n2, h.at_, h.pl, h.cl, by show 0 ≤ n; omega, hn⟩
theorem syncD_ok (h : d.ok m) : (syncD d).1.ok m := by
  unfold syncD
  split
  · exact h
  · exact settleD_ok h _
theorem restartD_ok (h : d.ok m) (l : List Bool) : (restartD d l).ok m := by
  have k := settleD_ok h (keepF l)
  exact ⟨k.n1, k.n2, k.at_, k.pl, k.cl, k.left⟩
theorem writeD_ok (h : d.ok m) (i : Int) (b : List UInt8) : (writeD d i b).1.ok (m + 1) := by
  have hpl := h.pl
  have hcl := h.cl
  have hl := h.left
  have hu := h.up (Nat.le_succ m)
  have key : ∀ (s : Sec), hasD d i = 0 → ∀ x ∈ d.pend ++ [⟨i, s⟩], 0 ≤ x.i ∧ x.i < (d.good.length : Int) := fun s h0 x hx => by
    rcases List.mem_append.1 hx with hx | hx
    · exact h.at_ x hx
    · simp at hx; subst hx; exact (hasD_0 h0).2
  unfold writeD
  split
  · rename_i h0
    split
    · split
      · split
        · exact ⟨h.n1, h.n2, key _ h0, by show (d.pend ++ [_]).length ≤ _; rw [List.length_append]; show d.pend.length + 1 ≤ m + 1; omega, by show 0 ≤ d.count ∧ d.count ≤ ((m + 1 : Nat) : Int); omega, hl⟩
        · exact ⟨h.n1, h.n2, key _ h0, by show (d.pend ++ [_]).length ≤ _; rw [List.length_append]; show d.pend.length + 1 ≤ m + 1; omega, by show 0 ≤ d.count + 1 ∧ d.count + 1 ≤ ((m + 1 : Nat) : Int); omega, by show 0 ≤ d.left - 1 ∧ d.left - 1 < 9223372036854775808; omega⟩
      · exact ⟨h.n1, h.n2, key _ h0, by show (d.pend ++ [_]).length ≤ _; rw [List.length_append]; show d.pend.length + 1 ≤ m + 1; omega, by show 0 ≤ d.count + 1 ∧ d.count + 1 ≤ ((m + 1 : Nat) : Int); omega, hl⟩
    · exact hu
  · exact hu
end
end Go.Proofs.Ytgcjipbahfpopaa

/- Journal: a journal on a disk. -/
set_option linter.unusedVariables false
set_option linter.unusedSimpArgs false
set_option maxRecDepth 20000
set_option maxHeartbeats 2000000
namespace Go.Proofs.Ytgcjipbahfpopaa
open Go Go.Mx Go.Proofs
open W (OwnB GivesW)
def readsD (d : DS) (base size : Nat) : List (List UInt8) := (List.range size).map fun i : Nat => (readD d ((base : Int) + (i : Int))).1
def stretchK (d : DS) (base size : Int) (gen : Nat) : List (List UInt8) × Int :=
  if gen = 0 ∨ base < 0 ∨ size < 1 ∨ base > d.good.length ∨ size > (d.good.length : Int) - base then ([], 1) else if d.down then ([], 19) else (readsD d base.toNat size.toNat, 0)
structure JS where
  base : Int
  size : Int
  gen : Nat
  round : Nat
  tail : Int
  seq : Int
  dead : Bool
def openK (d : DS) (base size : Int) (gen : Nat) : Option JS × List (List UInt8) × Int :=
  if (stretchK d base size gen).2 ≠ 0 then (none, [], (stretchK d base size gen).2)
  else if (scanK (stretchK d base size gen).1 gen).2 = 4294967295 then (none, [], 2)
  else (some ⟨base, size, gen, (scanK (stretchK d base size gen).1 gen).2 + 1, (scanK (stretchK d base size gen).1 gen).1.2, (scanK (stretchK d base size gen).1 gen).1.1.length, false⟩, (scanK (stretchK d base size gen).1 gen).1.1, 0)
def JS.V (J : JS) (g : Nat) : List Value := [.pointer (some (blk g)), .int .i64 J.base, .int .i64 J.size, .int .u32 J.gen, .int .u32 J.round, .int .i64 J.tail, .int .i64 J.seq, .bool J.dead]
structure JG (w : World) (o : Own) (q g : Nat) (J : JS) : Prop where
  mem : Blk w q 82 (J.V g)
  tg : o q = some q
def writesD : DS → Int → List (List UInt8) → DS × Int
  | d, _, [] => (d, 0)
  | d, i, x :: r => if (writeD d i x).2 ≠ 0 then writeD d i x else writesD (writeD d i x).1 (i + 1) r
def appendF (J : JS) (b : List UInt8) : List (List UInt8) := (frameK J.gen J.round J.seq.toNat b).1
def appendJ (d : DS) (J : JS) (b : List UInt8) : (DS × JS) × Int :=
  if partsN b.length = 0 then ((d, J), 3)
  else if J.dead then ((d, J), 19)
  else if (partsN b.length : Int) > J.size - J.tail then ((d, J), 18)
  else if (writesD d (J.base + J.tail) (appendF J b)).2 ≠ 0 then (((writesD d (J.base + J.tail) (appendF J b)).1, { J with dead := true }), (writesD d (J.base + J.tail) (appendF J b)).2)
  else if (syncD (writesD d (J.base + J.tail) (appendF J b)).1).2 ≠ 0 then (((syncD (writesD d (J.base + J.tail) (appendF J b)).1).1, { J with dead := true }), (syncD (writesD d (J.base + J.tail) (appendF J b)).1).2)
  else (((syncD (writesD d (J.base + J.tail) (appendF J b)).1).1, { J with tail := J.tail + partsN b.length, seq := J.seq + 1 }), 0)
structure JS.ok (J : JS) : Prop where
  base : 0 ≤ J.base ∧ J.base ≤ 1000000
  size : 0 ≤ J.size ∧ J.size ≤ 1000000
  gen : J.gen < 4294967296
  round : J.round < 4294967296
  tail : 0 ≤ J.tail ∧ J.tail ≤ 1000000
  seq : 0 ≤ J.seq ∧ J.seq ≤ 1000000
section
variable {w w' w1 : World} {o o' o1 : Own} {q g n N m : Nat} {K : Nat → Prop} {b s : List UInt8} {a : Option Addr} {c : Nat} {l : List BS} {d : DS} {J : JS}
theorem JG.step (h : JG w o q g J) (s : Step K w o w' o') (hk : ¬ K q) : JG w' o' q g J := ⟨s.blk h.mem h.tg hk, by rw [s.own h.mem.lt]; exact h.tg⟩
theorem readsD_len (d : DS) (base size : Nat) : (readsD d base size).length = size := by unfold readsD; simp
theorem stretch_loop (h : DG w o g d) (ok : Tags w o) (hd : d.ok m) (hm : m < 100000) {base size : Int} (hb0 : 0 ≤ base) (hb1 : base ≤ 1000000) (hs0 : 0 ≤ size) (hs1 : size ≤ 100000) {End : Value → World → Prop}
    (hE : ∀ w2 o2 la lc (l : List BS), Step no w o w2 o2 → l.map BS.bs = readsD d base.toNat size.toNat → BsRow w2 o2 la lc l → End (.slice la l.length lc) w2) :
    ∃ (I1 : Nat → List Value → World → Prop) (m71 : Nat), I1 m71 [.slice none 0 0, .int .i64 0] w ∧ ∀ (m72 : Nat) (ww73 : World) (la : Option Addr) (ln : Nat) (lc : Nat) (t : Int), I1 m72 [.slice la ln lc, .int .i64 t] ww73 →
      (t < size →
        (-9223372036854775808 : Int) ≤ (base + t) ∧ (base + t) < 9223372036854775808 ∧
        Calls Try.prog 50 #[.pointer (some (blk g)), .int .i64 (base + t)] ww73 fun ee ww78 => ∃ (ra : Option Addr) (rn : Nat) (rc : Nat) (rk : Int), ee = .returned (.tuple #[.slice ra rn rc, .int .i64 rk]) ∧
        ∀ (ww79 : World) (q80 : Nat), Ext no ww78 ww79 → Blk ww79 q80 23 [.slice ra rn rc] → ww78.heap.size ≤ q80 → q80 < ww79.heap.size →
        ∃ (a81a : Option Addr) (a81n : Nat) (a81c : Nat) (ww82 : World), (Builtin.append_ #[25, 25] 25 #[.slice la ln lc, .slice (some (blk q80)) 1 1]).run Try.prog ww79 = .ok (.slice a81a a81n a81c) ww82 ∧
        (-9223372036854775808 : Int) ≤ (t + 1) ∧ (t + 1) < 9223372036854775808 ∧
        ∃ m83, m83 < m72 ∧ I1 m83 [.slice a81a a81n a81c, .int .i64 (t + 1)] ww82) ∧
      (size ≤ t → End (.slice la ln lc) ww73) := by
  refine ⟨fun m vs w1 => ∃ (t : Nat) (o1 : Own) (la : Option Addr) (lc : Nat) (l : List BS), vs = [.slice la l.length lc, .int .i64 t] ∧ m + t = size.toNat ∧ Step no w o w1 o1 ∧ BsL w.heap.size w1 o1 la lc l ∧ l.map BS.bs = readsD d base.toNat t, size.toNat, ⟨0, o, none, 0, [], rfl, rfl, Step.refl _ ok, BsL.nil _ _ _, rfl⟩, ?_⟩
  rintro k w7 la ln lc i ⟨t, o7, la', lc', l, hi, hk, s7, L7, hmap⟩
  simp only [List.cons.injEq, Value.slice.injEq, Value.int.injEq, true_and, and_true] at hi
  obtain ⟨⟨rfl, rfl, rfl⟩, rfl⟩ := hi
  have hll : l.length = t := by have := congrArg List.length hmap; rwa [List.length_map, readsD_len] at this
  refine ⟨fun ht => ⟨by omega, by omega, ?_⟩, fun ht => ?_⟩
  · refine (dRead_spec (h.step s7 id) s7.ok (base + t) (by have := hd.pl; omega)).mono fun u w11 ⟨ra, rn, rc, o11, he, hn, hnc, s11, hR1, hR0⟩ => ⟨ra, rn, rc, _, he, fun w12 q12 X12 hb hq hq' => ?_⟩
    have X11 : Ext no w7 w11 := s11.ext.mono fun b ⟨_, _, h⟩ _ => h
    have t11 := Step.of_no X11 s7.ok
    have okx : BSok w11 (grow w7 o7) ⟨ra, rc, (readD d (base + t)).1⟩ := by
      by_cases hz : (readD d (base + t)).2 = 0
      · obtain ⟨q, tt, e, hbk, hl, hq, _⟩ := hR0 hz
        subst e
        refine ⟨Row.fresh ?_ fun ad ha => by cases ha; exact hq, by rw [← hn]; exact hnc⟩
        have := (RowAt.of_blk hbk).take (bytesV (readD d (base + t)).1).length
        rwa [List.take_left] at this
      · obtain ⟨e1, e2⟩ := hR1 hz
        rw [e2]
        exact ⟨Row.nil _ _ _, Nat.zero_le _⟩
    have l7 := s7.size
    subst hn
    obtain ⟨a', c', w39, o39, hr, s39, L39⟩ := (L7.step t11 fun _ h => h.elim).push t11.ok (by omega) okx X12 hb hq hq' (by have := X11.size; omega)
    refine ⟨a', _, c', w39, hr, by omega, by omega, k - 1, by omega, t + 1, o39, a', c', _, rfl, by omega, (s7.trans t11).trans' s39 fun i hi => .inr hi, L39, ?_⟩
    rw [List.map_append, hmap]
    unfold readsD
    rw [List.range_succ, List.map_append]
    simp only [List.map_cons, List.map_nil]
    congr 3
    rw [show ((base.toNat : Nat) : Int) = base by omega]
  · have htt : t = size.toNat := by omega
    exact hE w7 _ la lc l (Step.of_no (s7.ext.mono fun b ⟨_, _, h⟩ _ => h) ok) (by rw [← htt]; exact hmap) (L7.give s7 (Nat.le_refl _))
theorem stretch_spec (h : DG w o g d) (ok : Tags w o) (hd : d.ok m) (hm : m < 100000) (base size : Int) (gen : Nat) :
    Calls Try.prog 42 #[.pointer (some (blk g)), .int .i64 base, .int .i64 size, .int .u32 gen] w (fun z w' => ∃ o' la lc, ∃ l : List BS, z = .returned (.tuple #[.slice la l.length lc, .int .i64 (stretchK d base size gen).2]) ∧ Step no w o w' o' ∧ l.map BS.bs = (stretchK d base size gen).1 ∧ BsRow w' o' la lc l) := by
  refine (journal_stretch.go _ _ _ _ (R := fun z w' => ∃ o' la lc, ∃ l : List BS, z = (.tuple #[.slice la l.length lc, .int .i64 (stretchK d base size gen).2]) ∧ Step no w o w' o' ∧ l.map BS.bs = (stretchK d base size gen).1 ∧ BsRow w' o' la lc l) ?_).mono fun z w' ⟨u, he, o', la, lc, l, hu, hw⟩ => ⟨o', la, lc, l, by rw [he, hu], hw⟩
  unfold journal_stretch.N
  refine (Sectors_spec h).mono fun u w7 ⟨he, hw⟩ => ⟨_, he, fun h => (by cases h), fun _ => ?_⟩
  subst hw
  have n2 := hd.n2
  have leaf : ∀ (k : Int), stretchK d base size gen = ([], k) → ∃ o' la lc, ∃ l : List BS, Value.tuple #[.slice none 0 0, .int .i64 k] = (.tuple #[.slice la l.length lc, .int .i64 (stretchK d base size gen).2]) ∧ Step no w7 o w7 o' ∧ l.map BS.bs = (stretchK d base size gen).1 ∧ BsRow w7 o' la lc l := fun k hk => ⟨o, none, 0, [], by rw [hk]; rfl, Step.refl _ ok, by rw [hk]; rfl, BsRow.nil _ _⟩
  have bad : (gen = 0 ∨ base < 0 ∨ size < 1 ∨ base > d.good.length ∨ size > (d.good.length : Int) - base) → _ := fun hb => leaf 1 (by unfold stretchK; rw [if_pos hb])
  refine ⟨fun h1 => bad (by omega), fun h1 => ⟨fun h2 => bad (by omega), fun h2 => ⟨fun h3 => bad (by omega), fun h3 => ⟨fun h4 => bad (by omega), fun h4 => ⟨by omega, by omega, fun h5 => bad (by omega), fun h5 => ?_⟩⟩⟩⟩⟩
  have hgood : ¬ (gen = 0 ∨ base < 0 ∨ size < 1 ∨ base > d.good.length ∨ size > (d.good.length : Int) - base) := by omega
  refine (Down_spec h).mono fun u w67 ⟨he, hw⟩ => ⟨_, he, fun hdn => ?_, fun hdn => ?_⟩
  · subst hw
    exact leaf 19 (by unfold stretchK; rw [if_neg hgood, if_pos hdn])
  subst hw
  have hK : stretchK d base size gen = (readsD d base.toNat size.toNat, 0) := by unfold stretchK; rw [if_neg hgood, if_neg (by rw [hdn]; decide)]
  exact stretch_loop (End := fun v w2 => ∃ o' la lc, ∃ l : List BS, Value.tuple #[v, .int .i64 0] = (.tuple #[.slice la l.length lc, .int .i64 (stretchK d base size gen).2]) ∧ Step no w67 o w2 o' ∧ l.map BS.bs = (stretchK d base size gen).1 ∧ BsRow w2 o' la lc l) h ok hd hm (by omega) (by omega) (by omega) (by omega) fun w2 o2 la lc l s2 hmap hr => ⟨o2, la, lc, l, by rw [hK], s2, by rw [hK]; exact hmap, hr⟩
theorem stretchK_len (d : DS) (base size : Int) (gen : Nat) (h : d.good.length ≤ 400) : (stretchK d base size gen).1.length ≤ 400 := by
  unfold stretchK
  split
  · exact Nat.zero_le _
  · split
    · exact Nat.zero_le _
    · rw [readsD_len]; omega
theorem Open_spec (h : DG w o g d) (ok : Tags w o) (hd : d.ok m) (hm : m < 100000) (base size : Int) (gen : Nat) :
    Calls Try.prog 20 #[.pointer (some (blk g)), .int .i64 base, .int .i64 size, .int .u32 gen] w (fun z w' => ∃ o' jp la lc, ∃ l : List BS, z = .returned (.tuple #[.pointer jp, .slice la l.length lc, .int .i64 (openK d base size gen).2.2]) ∧ Step no w o w' o' ∧ l.map BS.bs = (openK d base size gen).2.1 ∧ BsRow w' o' la lc l ∧
      ((openK d base size gen).1 = none → jp = none) ∧ (∀ J, (openK d base size gen).1 = some J → ∃ q, jp = some (blk q) ∧ w.heap.size ≤ q ∧ JG w' o' q g J)) := by
  refine (journal_Open.go _ _ _ _ (R := fun z w' => ∃ o' jp la lc, ∃ l : List BS, z = (.tuple #[.pointer jp, .slice la l.length lc, .int .i64 (openK d base size gen).2.2]) ∧ Step no w o w' o' ∧ l.map BS.bs = (openK d base size gen).2.1 ∧ BsRow w' o' la lc l ∧
      ((openK d base size gen).1 = none → jp = none) ∧ (∀ J, (openK d base size gen).1 = some J → ∃ q, jp = some (blk q) ∧ w.heap.size ≤ q ∧ JG w' o' q g J)) ?_).mono fun z w' ⟨u, he, o', jp, la, lc, l, hu, hw⟩ => ⟨o', jp, la, lc, l, by rw [he, hu], hw⟩
  unfold journal_Open.N
  have hlen := stretchK_len d base size gen hd.n2
  refine (stretch_spec h ok hd hm base size gen).mono fun u w8 ⟨o8, la, lc, l, he, s8, hmap, hr⟩ => ⟨_, _, _, _, he, fun hne => ?_, fun heq => ?_⟩
  · have hK : openK d base size gen = (none, [], (stretchK d base size gen).2) := by unfold openK; rw [if_pos hne]
    rw [hK]
    exact ⟨o8, none, none, 0, [], rfl, s8, rfl, BsRow.nil _ _, fun _ => rfl, fun J h => by cases h⟩
  · have hll : l.length ≤ 400 := by have := congrArg List.length hmap; rw [List.length_map] at this; omega
    refine (scan_spec s8.ok hr.at (by omega) gen).mono fun u w14 ⟨o14, ra, rc, r, he, s14, hrm, hrr⟩ => ⟨_, _, _, _, _, he, ?_⟩
    rw [hmap] at hrm ⊢
    have hrl := roundOf_lt gen (stretchK d base size gen).1
    have hrr2 : (scanK (stretchK d base size gen).1 gen).2 = roundOf gen (stretchK d base size gen).1 := rfl
    have hwrap : ¬ (scanK (stretchK d base size gen).1 gen).2 = 4294967295 → IntKind.u32.wrap (((scanK (stretchK d base size gen).1 gen).2 : Int) + 1) = (((scanK (stretchK d base size gen).1 gen).2 + 1 : Nat) : Int) := fun hn => by rw [IntKind.wrap_u32]; omega
    have hwrap0 : (scanK (stretchK d base size gen).1 gen).2 = 4294967295 → IntKind.u32.wrap (((scanK (stretchK d base size gen).1 gen).2 : Int) + 1) = 0 := fun hn => by rw [hn]; rfl
    have s814 := s8.trans s14
    refine ⟨fun hz => ?_, fun hz w16 q17 X16 hb hq hq' => ?_⟩
    · by_cases h0 : (scanK (stretchK d base size gen).1 gen).2 = 4294967295
      · have hK : openK d base size gen = (none, [], 2) := by unfold openK; rw [if_neg (not_not_intro heq), if_pos h0]
        rw [hK]
        exact ⟨o14, none, none, 0, [], rfl, s814, rfl, BsRow.nil _ _, fun _ => rfl, fun J h => by cases h⟩
      · rw [hwrap h0] at hz; omega
    · have h0 : ¬ (scanK (stretchK d base size gen).1 gen).2 = 4294967295 := fun h0 => hz (hwrap0 h0)
      rw [hwrap h0] at hb
      have hK : openK d base size gen = (some ⟨base, size, gen, (scanK (stretchK d base size gen).1 gen).2 + 1, (scanK (stretchK d base size gen).1 gen).1.2, (scanK (stretchK d base size gen).1 gen).1.1.length, false⟩, (scanK (stretchK d base size gen).1 gen).1.1, 0) := by unfold openK; rw [if_neg (not_not_intro heq), if_neg h0]
      rw [hK]
      have s16 := (Step.of_no X16 s14.ok).tag hq hq'
      have l8 := s814.size
      have hrlen : r.length = (scanK (stretchK d base size gen).1 gen).1.1.length := by rw [← hrm, List.length_map]
      rw [hrlen] at hb
      refine ⟨_, some (blk q17), ra, rc, r, rfl, s814.trans s16, hrm, hrr.step s16, fun h => (by cases h), fun J hJ => ?_⟩
      cases hJ
      exact ⟨q17, rfl, by omega, hb, tag_self⟩
end
end Go.Proofs.Ytgcjipbahfpopaa

/- Journal: Append, and the small ones; the chapter's example. -/
set_option linter.unusedVariables false
set_option linter.unusedSimpArgs false
set_option maxRecDepth 20000
set_option maxHeartbeats 2000000
namespace Go.Proofs.Ytgcjipbahfpopaa
open Go Go.Mx Go.Proofs
open W (OwnB GivesW)
section
variable {w w' w1 : World} {o o' o1 : Own} {q g n N m : Nat} {K : Nat → Prop} {b s : List UInt8} {a : Option Addr} {c : Nat} {l : List BS} {d : DS} {J : JS}
theorem writesD_ok : ∀ {f : List (List UInt8)} {d : DS} {m : Nat} {i : Int}, d.ok m → (writesD d i f).1.ok (m + f.length)
  | [], d, m, i, h => h
  | x :: r, d, m, i, h => by
    have hw := writeD_ok h i x
    unfold writesD
    split
    · exact hw.up (by rw [List.length_cons]; omega)
    · have := writesD_ok (f := r) (i := i + 1) hw
      rw [List.length_cons]
      exact this.up (by omega)
theorem appendF_len (J : JS) (b : List UInt8) : (appendF J b).length ≤ 84 := by
  unfold appendF frameK
  split
  · exact Nat.zero_le _
  · split
    · exact Nat.zero_le _
    · show (frameL _ _ _ _).length ≤ 84
      unfold frameL
      rw [List.length_map, List.length_range]
      exact partsN_le _
theorem appendJ_ok (h : d.ok m) (J : JS) (b : List UInt8) : (appendJ d J b).1.1.ok (m + 84) := by
  have hu := h.up (Nat.le_add_right m 84)
  have hf := appendF_len J b
  have hw : (writesD d (J.base + J.tail) (appendF J b)).1.ok (m + 84) := (writesD_ok h).up (by omega)
  unfold appendJ
  repeat' split
  all_goals first | exact hu | exact hw | exact syncD_ok hw
theorem kill_spec (h : JG w o q g J) (hd : DG w o g d) (ok : Tags w o) (hqg : q ≠ g) {Φ : World → Prop}
    (hΦ : ∀ w2 o2, Step (fun i => i = q) w o w2 o2 → JG w2 o2 q g { J with dead := true } → DG w2 o2 g d → Φ w2) :
    canStore w (((blk q).add 7).add 0) ∧ thenW (w.setCell (((blk q).add 7).add 0) (.bool true)) fun w2 => Φ w2 := by
  have hadd : ((blk q).add 7).add 0 = (blk q).add 7 := by rw [add_add]
  rw [hadd]
  refine ⟨h.mem.cana (i := 7) rfl, thenW_in fun w2 e2 => ?_⟩
  have X : Ext (fun b => b = q) w w2 := (Ext.refl (fun b => b = q) w).x_set (q := q) (i := 7) rfl (.inl rfl) e2
  obtain ⟨o2, s2⟩ := Step.store1 X ok h.tg
  exact hΦ w2 o2 s2 ⟨h.mem.seti 7 rfl e2, by rw [s2.own h.mem.lt]; exact h.tg⟩ (hd.step s2 (fun e => hqg e.symm))
theorem Append_spec (h : JG w o q g J) (hD : DG w o g d) (ok : Tags w o) (hqg : q ≠ g) (hd : d.ok m) (hm : m + 100 < 100000) (hJ : J.ok) (hb : RowAt w a (bytesV b)) (hc : b.length ≤ c) (hbl : b.length < 1000000) :
    Calls Try.prog 23 #[.pointer (some (blk q)), .slice a b.length c] w (Ret (.int .i64 (appendJ d J b).2) fun w' => ∃ o', Step (fun i => i = q ∨ i = g) w o w' o' ∧ JG w' o' q g (appendJ d J b).1.2 ∧ DG w' o' g (appendJ d J b).1.1) := by
  refine journal_Journal_Append.run _ _ _ _ ?_
  unfold journal_Journal_Append.N
  rw [parts_F, partsI_nat]
  obtain ⟨⟨hb0, hb1⟩, ⟨hs0, hs1⟩, hgen, hrd, ⟨ht0, ht1⟩, ⟨hq0, hq1⟩⟩ := hJ
  have h84 := partsN_le b.length
  have leaf : ∀ (k : Int), appendJ d J b = ((d, J), k) → ∀ w2, Ext no w w2 → Value.int .i64 k = .int .i64 (appendJ d J b).2 ∧ ∃ o', Step (fun i => i = q ∨ i = g) w o w2 o' ∧ JG w2 o' q g (appendJ d J b).1.2 ∧ DG w2 o' g (appendJ d J b).1.1 := fun k hk w2 X => by
    have s := Step.of_no X ok
    rw [hk]; exact ⟨rfl, _, s.none, h.step s id, hD.step s id⟩
  refine ⟨fun e => (by cases e), fun _ => ⟨fun h0 w3 X => leaf 3 (by unfold appendJ; rw [if_pos (by omega)]) w3 X, fun h0 => ?_⟩⟩
  have hp0 : ¬ partsN b.length = 0 := by omega
  refine ⟨_, rfl, J.dead, h.mem.cella (i := 7) rfl, fun hdd w3 X => leaf 19 (by unfold appendJ; rw [if_neg hp0, if_pos hdd]) w3 X, fun hdd => ?_⟩
  have hdd' : ¬ J.dead = true := by rw [hdd]; decide
  refine ⟨_, h.mem.cella (i := 2) rfl, _, h.mem.cella (i := 5) rfl, by omega, by omega, fun hf w10 X => leaf 18 (by unfold appendJ; rw [if_neg hp0, if_neg hdd', if_pos hf]) w10 X, fun hf => ?_⟩
  have hf' : ¬ (partsN b.length : Int) > J.size - J.tail := by omega
  have hK : appendJ d J b = if (writesD d (J.base + J.tail) (appendF J b)).2 ≠ 0 then (((writesD d (J.base + J.tail) (appendF J b)).1, { J with dead := true }), (writesD d (J.base + J.tail) (appendF J b)).2)
      else if (syncD (writesD d (J.base + J.tail) (appendF J b)).1).2 ≠ 0 then (((syncD (writesD d (J.base + J.tail) (appendF J b)).1).1, { J with dead := true }), (syncD (writesD d (J.base + J.tail) (appendF J b)).1).2)
      else (((syncD (writesD d (J.base + J.tail) (appendF J b)).1).1, { J with tail := J.tail + partsN b.length, seq := J.seq + 1 }), 0) := by
    unfold appendJ; rw [if_neg hp0, if_neg hdd', if_neg hf']
  rw [hK]
  refine ⟨_, h.mem.cella (i := 3) rfl, _, h.mem.cella (i := 4) rfl, _, h.mem.cella (i := 6) rfl, fun w16 X16 => ?_⟩
  have s16 := Step.of_no X16 ok
  have hwq : IntKind.u32.wrap J.seq = ((J.seq.toNat : Nat) : Int) := by rw [IntKind.wrap_u32]; omega
  rw [hwq]
  refine (fFrame_spec s16.ok (hb.no X16) hc hbl J.gen J.round J.seq.toNat).mono fun u w26 ⟨o26, fa, fc, f, he, s26', hfm, hfr⟩ => ⟨_, _, _, _, he, ?_⟩
  have s26 := s16.trans s26'
  have hfm' : f.map BS.bs = appendF J b := hfm
  have hfl : f.length = (appendF J b).length := by rw [← hfm', List.length_map]
  have h84f := appendF_len J b
  obtain ⟨W, hW⟩ : ∃ W, writesD d (J.base + J.tail) (appendF J b) = W := ⟨_, rfl⟩
  rw [hW]
  have hWok : W.1.ok (m + 84) := by rw [← hW]; exact (writesD_ok hd).up (by omega)
  refine ⟨fun k vs w1 => ∃ (t : Nat) (o1 : Own) (d1 : DS), vs = [.int .i64 t] ∧ k + t = f.length ∧ Step (fun i => i = g) w o w1 o1 ∧ JG w1 o1 q g J ∧ DG w1 o1 g d1 ∧ BsRow w1 o1 fa fc f ∧ d1.ok (m + t) ∧ writesD d1 (J.base + J.tail + t) ((appendF J b).drop t) = W, f.length, ⟨0, o26, d, rfl, rfl, s26.none, h.step s26 id, hD.step s26 id, hfr, hd, by rw [List.drop_zero, ← hW]; simp⟩, ?_⟩
  rintro k w30 i ⟨t, o30, d1, hi, hk, s30, J30, D30, F30, k30, hWt⟩
  simp only [List.cons.injEq, Value.int.injEq, true_and, and_true] at hi
  subst hi
  have hgq : ¬ q = g := hqg
  refine ⟨fun ht => ?_, fun ht => ?_⟩
  · have htl : t < f.length := by omega
    have gt : f[t]? = some f[t] := List.getElem?_eq_getElem htl
    have hmt := List.getElem_mem htl
    have gF : (appendF J b)[t]? = some (f[t]).bs := by rw [← hfm']; exact get_map_bs gt
    generalize f[t] = x at *
    obtain ⟨fd, hfd, cx⟩ := F30.at.cell gt
    obtain ⟨rx, ex⟩ := F30.oks x hmt
    have hdrop : (appendF J b).drop t = x.bs :: (appendF J b).drop (t + 1) := by
      have h1 : t < (appendF J b).length := by omega
      rw [List.drop_eq_getElem_cons h1]
      rw [List.getElem?_eq_getElem h1] at gF
      injection gF with gF
      rw [gF]
    rw [hdrop] at hWt
    unfold writesD at hWt
    refine ⟨fd, hfd, by omega, by omega, x.a, x.bs.length, x.c, by rw [Int.toNat_natCast]; exact cx, _, J30.mem.cella (i := 0) rfl, _, J30.mem.cella (i := 1) rfl, _, J30.mem.cella (i := 5) rfl, by omega, by omega, by omega, by omega, fun w35 X35 => ?_⟩
    have s35' := Step.of_no X35 s30.ok
    refine (dWrite_spec (D30.step s35' id) s35'.ok k30 (by omega) (J.base + J.tail + t) (rx.step s35').1).mono fun u w44 ⟨he, o44, s44', D44⟩ => ⟨_, he, fun hne => ?_, fun heq => ?_⟩
    all_goals have s44 := s35'.none.trans s44'
    all_goals have J44 := J30.step s44 hgq
    · rw [if_pos hne] at hWt
      have e1 : W.2 = (writeD d1 (J.base + J.tail + t) x.bs).2 := by rw [← hWt]
      have e2 : W.1 = (writeD d1 (J.base + J.tail + t) x.bs).1 := by rw [← hWt]
      rw [if_pos (by rw [e1]; exact hne)]
      refine kill_spec J44 D44 s44.ok hqg fun w2 o2 s2 J2 D2 => ?_
      exact ⟨by rw [e1], o2, ((s30.trans s44).mono fun _ h _ => .inr h).trans (s2.mono fun _ h _ => .inl h), J2, by rw [e2]; exact D2⟩
    · rw [if_neg (not_not_intro heq)] at hWt
      exact ⟨by omega, by omega, k - 1, by omega, t + 1, o44, _, rfl, by omega, s30.trans s44, J44, D44, F30.step s44, writeD_ok k30 _ _, by rw [← hWt]; congr 1; omega⟩
  · have htt : t = f.length := by omega
    rw [List.drop_of_length_le (by omega)] at hWt
    have hW1 : W = (d1, 0) := by rw [← hWt]; rfl
    refine ⟨_, J30.mem.cella (i := 0) rfl, ?_⟩
    refine (dSync_spec D30 s30.ok k30 (by omega)).mono fun u w52 ⟨he, o52, s52, D52⟩ => ⟨_, he, fun hne => ?_, fun heq => ?_⟩
    all_goals have J52 := J30.step s52 hgq
    all_goals have st := s30.trans s52
    all_goals rw [hW1, if_neg (show ¬ ((d1, (0 : Int)).2 ≠ 0) from not_not_intro rfl)]
    · rw [if_pos hne]
      refine kill_spec J52 D52 s52.ok hqg fun w2 o2 s2 J2 D2 => ?_
      exact ⟨rfl, o2, (st.mono fun _ h _ => .inr h).trans (s2.mono fun _ h _ => .inl h), J2, D2⟩
    · rw [if_neg (not_not_intro heq)]
      have ha5 : ((blk q).add 5).add 0 = (blk q).add 5 := by rw [add_add]
      have ha6 : ((blk q).add 6).add 0 = (blk q).add 6 := by rw [add_add]
      rw [ha5]
      refine ⟨_, J52.mem.cella (i := 5) rfl, by omega, by omega, J52.mem.cana (i := 5) rfl, thenW_in fun w57 e57 => ?_⟩
      have b57 := J52.mem.seti 5 rfl e57
      rw [ha6]
      refine ⟨_, b57.cella (i := 6) rfl, by omega, by omega, b57.cana (i := 6) rfl, thenW_in fun w60 e60 => ?_⟩
      have X60 : Ext (fun b => b = q) w52 w60 := ((Ext.refl (fun b => b = q) w52).x_set (q := q) (i := 5) rfl (.inl rfl) e57).x_set (q := q) (i := 6) rfl (.inl rfl) e60
      obtain ⟨o60, s60⟩ := Step.store1 X60 s52.ok J52.tg
      have b60 := b57.seti 6 rfl e60
      exact ⟨rfl, o60, (st.mono fun _ h _ => .inr h).trans (s60.mono fun _ h _ => .inl h), ⟨b60, by rw [s60.own J52.mem.lt]; exact J52.tg⟩, D52.step s60 (fun e => hqg e.symm)⟩
end
end Go.Proofs.Ytgcjipbahfpopaa

/- Journal: the chapter's example. -/
set_option linter.unusedVariables false
set_option linter.unusedSimpArgs false
set_option maxRecDepth 100000
set_option maxHeartbeats 4000000
namespace Go.Proofs.Ytgcjipbahfpopaa
open Go Go.Mx Go.Proofs
open W (OwnB GivesW)
def exJ : JS := ⟨0, 4, 1, 1, 0, 0, false⟩
def exD : DS := (appendJ (newDS 4) exJ [97, 98]).1.1
theorem ex_frame : frameK 1 1 0 [97, 98] = ([secL 1 1 0 0 1 [97, 98]], 0) := by kernel_rfl
theorem ex_open : openK (newDS 4) 0 4 1 = (some exJ, [], 0) := by kernel_rfl
theorem ex_append : (appendJ (newDS 4) exJ [97, 98]).2 = 0 := by kernel_rfl
theorem ex_open2 : (openK exD 0 4 1).2 = ([[97, 98]], 0) := by kernel_rfl
theorem litJ {w w1 : World} (bs : List UInt8) {q : Nat} (X : Ext no w w1) (hb : Blk w1 q 5 (bytesV bs)) (hq : w.heap.size ≤ q) :
    ∃ w2, (convert 23 23 (.slice (some (blk q)) bs.length bs.length)).run Try.prog w1 = .ok (.slice (some (blk q)) bs.length bs.length) w2 ∧ RowAt w2 (some (blk q)) (bytesV bs) ∧ Ext no w w2 :=
  ⟨_, conv_mark Try.underlying23 Try.underlying5 hb, (RowAt.of_blk hb).freeze _ _, X.freeze (.inr hq) _⟩
theorem alive10_spec (w : World) : Calls Try.prog 8 #[] w (Ret (.bool true) fun w' => Ext no w w') := by
  refine cachettelaw10_alive.run ?_
  unfold cachettelaw10_alive.N
  intro w1 q2 X1 hb2 hq2 hq2'
  obtain ⟨w4, hc4, r4, X4⟩ := litJ [97, 98] X1 hb2 hq2
  refine ⟨_, _, _, w4, hc4, ?_⟩
  have ok4 : Tags w4 (fun _ => none) := fun b j _ h => by cases h
  refine (fFrame_spec (c := 2) ok4 r4 (by decide) (by decide) 1 1 0).mono fun u w8 ⟨o8, fa, fc, f, he, s8, hfm, hf⟩ => ⟨_, _, _, _, he, ?_⟩
  rw [ex_frame] at hfm
  refine (dNew_spec (n := 4) s8.ok (by decide) (by decide)).mono fun u w12 ⟨g, o12, he, hg, s12, D12⟩ => ⟨_, _, he, ?_⟩
  have kD := newDS_ok (n := 4) (by decide) (by decide)
  refine (Open_spec D12 s12.ok kD (by decide) 0 4 1).mono fun u w17 ⟨o17, jp, la, lc, l, he, s17, _, _, _, hJ⟩ => ⟨_, _, _, _, _, he, fun w18 q19 X18 hb19 hq19 hq19' => ?_⟩
  obtain ⟨q, rfl, hq, J17⟩ := hJ exJ (by rw [ex_open])
  have hgl := D12.lt
  obtain ⟨w21, hc21, r21, X21⟩ := litJ [97, 98] X18 hb19 hq19
  refine ⟨_, _, _, w21, hc21, ?_⟩
  have s21 := Step.of_no X21 s17.ok
  refine (Append_spec (c := 2) (b := [97, 98]) (J17.step s21 id) ((D12.step s17 id).step s21 id) s21.ok (by omega) kD (by decide) ⟨by decide, by decide, by decide, by decide, by decide, by decide⟩ r21 (by decide) (by decide)).mono fun u w24 ⟨he, o24, s24, J24, D24⟩ => ⟨_, he, ?_⟩
  have kD2 : exD.ok 84 := appendJ_ok kD exJ [97, 98]
  have D24' : DG w24 o24 g exD := D24
  refine (Open_spec D24' s24.ok kD2 (by decide) 0 4 1).mono fun u w29 ⟨o29, jp2, ra, rc, r, he, s29, hrm, hr, _, _⟩ => ⟨_, _, _, _, _, he, ?_⟩
  have hl8 := D12.lt
  have l12 := s12.size
  have l17 := s17.size
  have l18 := X18.size
  have sAll : Step no w8 o8 w29 o29 := ((s12.trans s17).trans s21.none).trans' (s24.trans s29.none) fun i hi => .inr (by omega)
  have fin : Ext no w w29 := (X4.trans (s8.ext.mono fun b ⟨_, _, h⟩ _ => h)).trans (sAll.ext.mono fun b ⟨_, _, h⟩ _ => h)
  have hfl : f.length = 1 := by have := congrArg List.length hfm; simpa using this
  have hrl : r.length = 1 := by have := congrArg List.length hrm; rw [ex_open2] at this; simpa using this
  have hf29 := (hf.step sAll).at
  have g0 : f[0]? = some f[0] := List.getElem?_eq_getElem (by omega)
  have hm0 := List.getElem_mem (show 0 < f.length by omega)
  have hx : (f[0]).bs = secL 1 1 0 0 1 [97, 98] := by
    have := get_map_bs g0
    rw [hfm] at this
    simp at this
    exact this.symm
  generalize f[0] = x at *
  obtain ⟨fd, rfl, c0⟩ := hf29.cell g0
  obtain ⟨rx, ex⟩ := hf29.oks x hm0
  have hxl : x.bs.length = 64 := by rw [hx]; rfl
  have e2 : (appendJ (newDS 4) exJ [97, 98]).2 = 0 := ex_append
  have e3 : (openK exD 0 4 1).2.2 = 0 := by rw [ex_open2]
  have e4 : (openK (newDS 4) 0 4 1).2.2 = 0 := by rw [ex_open]
  refine ⟨fun _ => ⟨fun _ => ?_, fun h => absurd (by rw [hfl]; rfl) h⟩, fun h => absurd (by rw [ex_frame]) h⟩
  refine ⟨fd, rfl, by omega, x.a, x.bs.length, x.c, c0, fun _ => ?_, fun h => absurd (by rw [hxl]; rfl) h⟩
  obtain ⟨xd, hxd, k0⟩ := byte_cell rx (i := 0) (by omega)
  obtain ⟨_, e, k15⟩ := byte_cell rx (i := 15) (by omega)
  rw [hxd] at e; cases e
  obtain ⟨_, e, k17⟩ := byte_cell rx (i := 17) (by omega)
  rw [hxd] at e; cases e
  rw [hx] at k0 k15 k17
  refine ⟨by omega, x.a, x.bs.length, x.c, c0, xd, hxd, by omega, _, k0, fun _ => ?_, fun h => absurd rfl h⟩
  refine ⟨by omega, x.a, x.bs.length, x.c, c0, xd, hxd, by omega, _, k15, fun _ => ?_, fun h => absurd rfl h⟩
  refine ⟨by omega, x.a, x.bs.length, x.c, c0, xd, hxd, by omega, _, k17, fun _ => ⟨fun _ => ⟨fun _ => ⟨fun _ => ⟨fun _ => ?_, fun h => absurd (by rw [hrl]; rfl) h⟩, fun h => absurd e3 h⟩, fun h => absurd e2 h⟩, fun h => absurd e4 h⟩, fun h => absurd rfl h⟩
  have hr29 := hr.at
  have h0 : r[0]? = some r[0] := List.getElem?_eq_getElem (by omega)
  have hmr := List.getElem_mem (show 0 < r.length by omega)
  have hy : (r[0]).bs = [97, 98] := by
    have := get_map_bs h0
    rw [hrm, ex_open2] at this
    simp at this
    exact this.symm
  generalize r[0] = y at *
  obtain ⟨rd, rfl, d0⟩ := hr29.cell h0
  obtain ⟨ry, _⟩ := hr29.oks y hmr
  refine ⟨rd, rfl, by omega, y.a, y.bs.length, y.c, d0, _, conv_str Try.underlying23 Try.underlying5 Try.underlying9 ry, ?_, fin⟩
  rw [hy]; simp
end Go.Proofs.Ytgcjipbahfpopaa

/- JournalFrames, JournalScans. -/
set_option linter.unusedVariables false
set_option linter.unusedSimpArgs false
set_option maxRecDepth 20000
set_option maxHeartbeats 2000000
namespace Go.Proofs.Ytgcjipbahfpopaa
open Go Go.Mx Go.Proofs
open W (OwnB GivesW)
section
variable {w w' w1 : World} {o o' o1 : Own} {q g n N : Nat} {K : Nat → Prop} {b s : List UInt8} {a : Option Addr} {c : Nat} {l : List BS}
end
end Go.Proofs.Ytgcjipbahfpopaa

/- Journal: plainly: a record that was written stands; what stands ahead stays. -/
set_option linter.unusedVariables false
set_option linter.unusedSimpArgs false
set_option maxRecDepth 20000
set_option maxHeartbeats 2000000
namespace Go.Proofs.Ytgcjipbahfpopaa
open Go Go.Mx Go.Proofs
theorem frameL_len (gen round seq : Nat) (b : List UInt8) : (frameL gen round seq b).length = partsN b.length := by unfold frameL; simp
theorem partsN_pos {n : Nat} (h : n ≤ 4000) : 1 ≤ partsN n := by
  unfold partsN
  rw [if_neg (by omega)]
  split <;> omega
theorem partsN_cover {n : Nat} (h : n ≤ 4000) : n ≤ 48 * partsN n := by
  unfold partsN
  rw [if_neg (by omega)]
  split <;> omega
theorem parts_join (b : List UInt8) : ∀ k : Nat, (List.range k).flatMap (partL b) = b.take (48 * k)
  | 0 => by simp
  | k + 1 => by
    rw [List.range_succ, List.flatMap_append, parts_join b k]
    simp only [List.flatMap_cons, List.flatMap_nil, List.append_nil]
    unfold partL
    rw [show 48 * (k + 1) = 48 * k + 48 by omega, List.take_add]
theorem body_sec (gen round seq i n : Nat) {x : List UInt8} (h : x.length ≤ 48) : bodyS (secL gen round seq i n x) = x := by
  have e15 : byteN (secL gen round seq i n x) 15 = x.length := by
    show (UInt8.ofNat x.length).toNat = _
    rw [UInt8.toNat_ofNat']; omega
  unfold bodyS
  rw [e15]
  unfold secL
  rw [List.append_assoc, List.drop_append_of_le_length (by rw [headL_len]; exact Nat.le_refl _), List.drop_of_length_le (by rw [headL_len]; exact Nat.le_refl _), List.nil_append, List.take_left]
theorem sec_round (gen round seq i n : Nat) (x : List UInt8) (h : round < 4294967296) : numB (secL gen round seq i n x) 5 = round := by
  show (UInt8.ofNat (round / 16777216)).toNat * 16777216 + (UInt8.ofNat (round / 65536)).toNat * 65536 + (UInt8.ofNat (round / 256)).toNat * 256 + (UInt8.ofNat round).toNat = round
  simp only [UInt8.toNat_ofNat']
  omega
theorem sec_gen (gen round seq i n : Nat) (x : List UInt8) (h : gen < 4294967296) : numB (secL gen round seq i n x) 1 = gen := by
  show (UInt8.ofNat (gen / 16777216)).toNat * 16777216 + (UInt8.ofNat (gen / 65536)).toNat * 65536 + (UInt8.ofNat (gen / 256)).toNat * 256 + (UInt8.ofNat gen).toNat = gen
  simp only [UInt8.toNat_ofNat']
  omega
theorem sec_seq (gen round seq i n : Nat) (x : List UInt8) (h : seq < 4294967296) : numB (secL gen round seq i n x) 9 = seq := by
  show (UInt8.ofNat (seq / 16777216)).toNat * 16777216 + (UInt8.ofNat (seq / 65536)).toNat * 65536 + (UInt8.ofNat (seq / 256)).toNat * 256 + (UInt8.ofNat seq).toNat = seq
  simp only [UInt8.toNat_ofNat']
  omega
/-- a frame at the beginning is a record. -/
theorem frame_stands {gen round seq : Nat} {b : List UInt8} (hg : gen ≠ 0) (hr : round ≠ 0) (hr2 : round < 4294967296) (hb : b.length ≤ 4000) (rest : List (List UInt8)) :
    standK (frameL gen round seq b ++ rest) gen seq = (b, partsN b.length) := by
  have hp := partsN_pos hb
  have h84 := partsN_le b.length
  have hlen := frameL_len gen round seq b
  have hhead : (frameL gen round seq b ++ rest).headD [] = secL gen round seq 0 (partsN b.length) (partL b 0) := by
    unfold frameL
    obtain ⟨k, hk⟩ := Nat.exists_eq_add_of_le' hp
    rw [hk, List.range_succ_eq_map]
    rfl
  have hcnt : cntK (frameL gen round seq b ++ rest) = partsN b.length := by
    unfold cntK
    rw [hhead]
    show (UInt8.ofNat (partsN b.length)).toNat = _
    rw [UInt8.toNat_ofNat']; omega
  have htake : (frameL gen round seq b ++ rest).take (partsN b.length) = frameL gen round seq b := by rw [← hlen, List.take_left]
  have hbody : bodyK (frameL gen round seq b ++ rest) = b := by
    unfold bodyK
    rw [hcnt, htake]
    unfold frameL
    rw [List.flatMap_map]
    have : (fun i => bodyS (secL gen round seq i (partsN b.length) (partL b i))) = partL b := funext fun i => body_sec _ _ _ _ _ (partL_le _ _)
    rw [this, parts_join, List.take_of_length_le (partsN_cover hb)]
  have hK : frameK gen round seq b = (frameL gen round seq b, 0) := by
    unfold frameK
    rw [if_neg (by omega), if_neg (by omega)]
  have hOK : OKS (frameL gen round seq b ++ rest) gen seq := by
    refine ⟨fun e => ?_, ?_, ?_, ?_, ?_⟩
    · have := congrArg List.length e
      rw [List.length_append, hlen] at this
      simp at this; omega
    · rw [hhead]; exact secL_len _ _ _ _ _ (partL_le _ _)
    · rw [hcnt, List.length_append, hlen]; omega
    · rw [hcnt, htake]
      intro s hs
      unfold frameL at hs
      obtain ⟨i, _, rfl⟩ := List.mem_map.1 hs
      refine ⟨secL_len _ _ _ _ _ (partL_le _ _), ?_⟩
      show (UInt8.ofNat (partL b i).length).toNat ≤ 48
      have := partL_le b i
      rw [UInt8.toNat_ofNat']; omega
    · rw [hcnt, htake, hhead, hbody, sec_round _ _ _ _ _ _ hr2]
      exact hK
  rw [standK_yes hOK, hbody, hcnt]
/-- a record needs its own sectors only. -/
theorem stand_more {L : List (List UInt8)} {gen seq : Nat} (h : OKS L gen seq) (X : List (List UInt8)) : standK (L.take (cntK L) ++ X) gen seq = standK L gen seq := by
  have hc := h.cnt
  have hle := h.2.2.1
  have hhead : (L.take (cntK L) ++ X).headD [] = L.headD [] := by
    have h0 := h.1
    generalize cntK L = c at *
    cases L with
    | nil => exact absurd rfl h0
    | cons x r =>
      obtain ⟨k, rfl⟩ := Nat.exists_eq_succ_of_ne_zero hc
      rfl
  have hcnt : cntK (L.take (cntK L) ++ X) = cntK L := by
    show byteN ((L.take (cntK L) ++ X).headD []) 14 = _
    rw [hhead]; rfl
  have htake : (L.take (cntK L) ++ X).take (cntK L) = L.take (cntK L) := by
    have e : (L.take (cntK L)).length = cntK L := by rw [List.length_take]; omega
    conv => lhs; rw [← e]
    rw [e, List.take_append_of_le_length (by omega), List.take_of_length_le (by omega)]
  have hbody : bodyK (L.take (cntK L) ++ X) = bodyK L := by
    unfold bodyK
    rw [hcnt, htake]
  have hOK : OKS (L.take (cntK L) ++ X) gen seq := by
    obtain ⟨h1, h2, h3, h4, h5⟩ := h
    refine ⟨fun e => ?_, by rw [hhead]; exact h2, ?_, ?_, ?_⟩
    · have h9 := congrArg List.length e
      rw [List.length_append, List.length_take, Nat.min_eq_left hle] at h9
      have h8 : cntK L + X.length = 0 := h9
      omega
    · rw [hcnt, List.length_append, List.length_take, Nat.min_eq_left hle]; omega
    · rw [hcnt, htake]; exact h4
    · rw [hcnt, htake, hhead, hbody]; exact h5
  rw [standK_yes hOK, standK_yes h, hcnt, hbody]
/-- a scan of what stands ahead, and something else behind. -/
theorem scan_more (gen : Nat) : ∀ (k : Nat) (L : List (List UInt8)) (s : Nat) (k2 : Nat) (X : List (List UInt8)),
    scanG gen ((scanG gen k L s).1.length + k2) (L.take (scanG gen k L s).2 ++ X) s = ((scanG gen k L s).1 ++ (scanG gen k2 X (s + (scanG gen k L s).1.length)).1, (scanG gen k L s).2 + (scanG gen k2 X (s + (scanG gen k L s).1.length)).2)
  | 0, L, s, k2, X => by simp [scanG]
  | k + 1, L, s, k2, X => by
    by_cases h : (standK L gen s).2 = 0
    · have e : scanG gen (k + 1) L s = ([], 0) := by simp only [scanG, h, if_true]
      rw [e]; simp
    · have hO : OKS L gen s := by
        by_cases hO : OKS L gen s
        · exact hO
        · rw [standK_no hO] at h; exact absurd rfl h
      have hn : (standK L gen s).2 = cntK L := by rw [standK_yes hO]
      have hle := standK_le L gen s
      obtain ⟨R, hR⟩ : ∃ R, scanG gen k (L.drop (standK L gen s).2) (s + 1) = R := ⟨_, rfl⟩
      have ih := scan_more gen k (L.drop (standK L gen s).2) (s + 1) k2 X
      rw [hR] at ih
      have e : scanG gen (k + 1) L s = ((standK L gen s).1 :: R.1, (standK L gen s).2 + R.2) := by simp only [scanG, if_neg h, hR]
      rw [e]
      have hcut : L.take ((standK L gen s).2 + R.2) ++ X = L.take (cntK L) ++ ((L.drop (cntK L)).take R.2 ++ X) := by
        rw [hn, List.take_add, List.append_assoc]
      have hS : standK (L.take ((standK L gen s).2 + R.2) ++ X) gen s = standK L gen s := by rw [hcut, stand_more hO]
      have hd : (L.take ((standK L gen s).2 + R.2) ++ X).drop (standK L gen s).2 = (L.drop (standK L gen s).2).take R.2 ++ X := by
        rw [hcut, hn]
        have e9 : (L.take (cntK L)).length = cntK L := by rw [List.length_take]; omega
        conv => lhs; rw [← e9]
        rw [e9, List.drop_append_of_le_length (by omega), List.drop_of_length_le (by omega), List.nil_append]
      show scanG gen (R.1.length + 1 + k2) _ s = _
      rw [show R.1.length + 1 + k2 = (R.1.length + k2) + 1 by omega]
      simp only [scanG, hS, hd, if_neg h, ih, List.length_cons, List.cons_append, Prod.mk.injEq, List.cons.injEq, true_and]
      rw [show s + (R.1.length + 1) = s + 1 + R.1.length by omega]
      exact ⟨rfl, by omega⟩
/-- more fuel than sectors changes nothing. -/
theorem scan_fuel (gen : Nat) : ∀ (k : Nat) (L : List (List UInt8)) (s : Nat) (k2 : Nat), L.length < k → L.length < k2 → scanG gen k L s = scanG gen k2 L s
  | 0, L, s, k2, h, _ => by omega
  | k + 1, L, s, 0, _, h => by omega
  | k + 1, L, s, k2 + 1, h, h2 => by
    by_cases hz : (standK L gen s).2 = 0
    · simp only [scanG, hz, if_true]
    · have hle := standK_le L gen s
      have := scan_fuel gen k (L.drop (standK L gen s).2) (s + 1) k2 (by rw [List.length_drop]; omega) (by rw [List.length_drop]; omega)
      simp only [scanG, if_neg hz, this]
end Go.Proofs.Ytgcjipbahfpopaa

/- Journal: plainly: what a disk that is not armed has behind writes. -/
set_option linter.unusedVariables false
set_option linter.unusedSimpArgs false
set_option maxRecDepth 20000
set_option maxHeartbeats 2000000
namespace Go.Proofs.Ytgcjipbahfpopaa
open Go Go.Mx Go.Proofs
def Up (d : DS) : Prop := d.down = false ∧ d.armed = false
theorem hasD_up {d : DS} (h : d.down = false) {i : Int} (h0 : 0 ≤ i) (h1 : i < d.good.length) : hasD d i = 0 := by
  unfold hasD
  rw [h]
  rw [if_neg (by decide), if_neg (by omega)]
theorem write_up {d : DS} (h : Up d) {i : Int} (h0 : 0 ≤ i) (h1 : i < d.good.length) {b : List UInt8} (hb : b.length = 64) :
    writeD d i b = ({ d with pend := d.pend ++ [⟨i, ⟨b, false, hb⟩⟩], count := d.count + 1 }, 0) := by
  unfold writeD
  rw [if_pos (hasD_up h.1 h0 h1), dif_pos hb, h.2]
  rfl
theorem read_write {d : DS} (h : Up d) {i : Int} (h0 : 0 ≤ i) (h1 : i < d.good.length) {b : List UInt8} (hb : b.length = 64) (j : Int) :
    readD (writeD d i b).1 j = if j = i then (b, 0) else readD d j := by
  rw [write_up h h0 h1 hb]
  have hs : readS { d with pend := d.pend ++ [⟨i, ⟨b, false, hb⟩⟩], count := d.count + 1 } j = if i = j then ⟨b, false, hb⟩ else readS d j := lastP_snoc j _ _ _
  have hh : hasD { d with pend := d.pend ++ [⟨i, ⟨b, false, hb⟩⟩], count := d.count + 1 } j = hasD d j := rfl
  unfold readD
  rw [hs, hh]
  by_cases e : j = i
  · subst e
    rw [if_pos (hasD_up h.1 h0 h1), if_pos rfl, if_pos rfl]; rfl
  · rw [if_neg (show ¬ i = j from fun e2 => e e2.symm), if_neg e]
theorem settle_all {j : Nat} : ∀ (l : List Wt) (t : Nat) (gl : List Sec), j < gl.length → (∀ x ∈ l, 0 ≤ x.i) → (settleL (fun _ => true) t gl l)[j]?.getD Sec.z = lastP j (gl[j]?.getD Sec.z) l
  | [], _, _, _, _ => rfl
  | x :: r, t, gl, hj, hx => by
    have hx0 := hx x (by simp)
    rw [settleL, if_pos rfl, settle_all r _ _ (by rw [List.length_set]; exact hj) fun y hy => hx y (by simp [hy])]
    show _ = lastP (j : Int) (if x.i = (j : Int) then x.s else gl[j]?.getD Sec.z) r
    congr 1
    by_cases e : x.i = (j : Int)
    · rw [if_pos e, show x.i.toNat = j by omega, List.getElem?_set_self hj]; rfl
    · rw [if_neg e, List.getElem?_set_ne (by omega)]
theorem sync_up {d : DS} (h : Up d) : (syncD d).2 = 0 ∧ Up (syncD d).1 ∧ (syncD d).1.pend = [] ∧ (syncD d).1.good.length = d.good.length := by
  unfold syncD
  rw [h.1]
  exact ⟨rfl, h, rfl, settleL_len _ _ _ _⟩
theorem read_sync {m : Nat} {d : DS} (h : Up d) (ok : d.ok m) (j : Int) : readD (syncD d).1 j = readD d j := by
  have hh : hasD (syncD d).1 j = hasD d j := by
    unfold hasD
    rw [(sync_up h).2.1.1, h.1, (sync_up h).2.2.2]
  unfold readD
  rw [hh]
  by_cases e : hasD d j = 0
  · rw [if_pos e, if_pos e]
    have hr : 0 ≤ j ∧ j < d.good.length := by
      unfold hasD at e
      rw [h.1] at e
      rw [if_neg (by decide)] at e
      split at e
      · cases e
      · omega
    obtain ⟨k, rfl⟩ := Int.eq_ofNat_of_zero_le hr.1
    have hs : readS (syncD d).1 k = readS d k := by
      unfold syncD
      rw [h.1]
      show (settleL (fun _ => true) 0 d.good d.pend)[k]?.getD Sec.z = lastP k (d.good[k]?.getD Sec.z) d.pend
      exact settle_all _ _ _ (by omega) fun x hx => (ok.at_ x hx).1
    rw [hs]
  · rw [if_neg e, if_neg e]
theorem writes_up : ∀ (f : List (List UInt8)) (d : DS) (m : Nat) (i : Int), Up d → d.ok m → 0 ≤ i → i + f.length ≤ d.good.length → (∀ s ∈ f, s.length = 64) →
    (writesD d i f).2 = 0 ∧ Up (writesD d i f).1 ∧ (writesD d i f).1.good.length = d.good.length ∧ ∀ j : Int, readD (writesD d i f).1 j = if i ≤ j ∧ j < i + f.length then (f[(j - i).toNat]?.getD [], 0) else readD d j
  | [], d, m, i, h, ok, h0, h1, hs => ⟨rfl, h, rfl, fun j => by
    rw [if_neg (by simp only [List.length_nil]; omega)]; rfl⟩
  | x :: r, d, m, i, h, ok, h0, h1, hs => by
    rw [List.length_cons] at h1
    have hx : x.length = 64 := hs x (by simp)
    have hw := write_up h h0 (by omega) hx
    have hw2 : (writeD d i x).2 = 0 := by rw [hw]
    have hwu : Up (writeD d i x).1 := by rw [hw]; exact h
    have hwl : (writeD d i x).1.good.length = d.good.length := by rw [hw]
    have ih := writes_up r (writeD d i x).1 (m + 1) (i + 1) hwu (writeD_ok ok i x) (by omega) (by rw [hwl]; omega) fun s hs' => hs s (by simp [hs'])
    have hd : writesD d i (x :: r) = writesD (writeD d i x).1 (i + 1) r := by
      rw [writesD, if_neg (not_not_intro hw2)]
    rw [hd]
    refine ⟨ih.1, ih.2.1, ih.2.2.1.trans hwl, fun j => ?_⟩
    rw [ih.2.2.2 j, read_write h h0 (by omega) hx, List.length_cons]
    by_cases e : j = i
    · subst e
      rw [if_neg (by omega), if_pos rfl, if_pos (by omega), show (j - j).toNat = 0 by omega]; rfl
    · by_cases e2 : i + 1 ≤ j ∧ j < i + 1 + r.length
      · rw [if_pos e2, if_pos (by omega), show (j - i).toNat = (j - (i + 1)).toNat + 1 by omega, List.getElem?_cons_succ]
      · rw [if_neg e2, if_neg e, if_neg (by omega)]
theorem reads_get (d : DS) (base size i : Nat) : (readsD d base size)[i]? = if i < size then some (readD d ((base : Int) + (i : Int))).1 else none := by
  unfold readsD
  rw [List.getElem?_map]
  by_cases h : i < size
  · rw [List.getElem?_range h, if_pos h]; rfl
  · rw [if_neg h, List.getElem?_eq_none (by rw [List.length_range]; omega)]; rfl
/-- what an append that has room does to the sectors of its stretch. -/
theorem reads_cut {d d2 : DS} {base size T : Nat} {f : List (List UInt8)} (hT : T + f.length ≤ size)
    (hr : ∀ j : Int, (readD d2 j).1 = if (base : Int) + T ≤ j ∧ j < (base : Int) + T + f.length then f[(j - ((base : Int) + T)).toNat]?.getD [] else (readD d j).1) :
    readsD d2 base size = (readsD d base size).take T ++ (f ++ (readsD d base size).drop (T + f.length)) := by
  have hl := readsD_len d base size
  apply List.ext_getElem?
  intro i
  rw [reads_get, List.getElem?_append, List.length_take, hl, Nat.min_eq_left (by omega), List.getElem?_append]
  by_cases h0 : i < T
  · rw [if_pos h0, if_pos (by omega), List.getElem?_take_of_lt h0, reads_get, if_pos (by omega), hr, if_neg (by omega)]
  · rw [if_neg h0]
    by_cases h1 : i - T < f.length
    · rw [if_pos h1, if_pos (by omega), hr, if_pos (by omega), show ((base : Int) + (i : Int) - ((base : Int) + T)).toNat = i - T by omega, List.getElem?_eq_getElem h1]; rfl
    · rw [if_neg h1, List.getElem?_drop, reads_get, show T + f.length + (i - T - f.length) = i by omega]
      by_cases h2 : i < size
      · rw [if_pos h2, if_pos h2, hr, if_neg (by omega)]
      · rw [if_neg h2, if_neg h2]
theorem append_up {d : DS} {m : Nat} {J : JS} {b : List UInt8} (h : Up d) (ok : d.ok m) (hJ : J.ok) (hgen : J.gen ≠ 0) (hro : J.round ≠ 0) (hd : J.dead = false) (hb : b.length ≤ 4000)
    (hfit : J.tail + partsN b.length ≤ J.size) (hdisk : J.base + J.size ≤ d.good.length) :
    (appendJ d J b).2 = 0 ∧ Up (appendJ d J b).1.1 ∧ (appendJ d J b).1.1.good.length = d.good.length ∧ ∀ size : Nat, (size : Int) = J.size → ∃ T : Nat, (T : Int) = J.tail ∧
      readsD (appendJ d J b).1.1 J.base.toNat size = (readsD d J.base.toNat size).take T ++ (frameL J.gen J.round J.seq.toNat b ++ (readsD d J.base.toNat size).drop (T + partsN b.length)) := by
  have hp := partsN_pos hb
  obtain ⟨⟨hb0, hb1⟩, ⟨hs0, hs1⟩, hgen2, hrd, ⟨ht0, ht1⟩, ⟨hq0, hq1⟩⟩ := hJ
  have hF : appendF J b = frameL J.gen J.round J.seq.toNat b := by
    unfold appendF frameK
    rw [if_neg (by omega), if_neg (by omega)]
  have hFl : (appendF J b).length = partsN b.length := by rw [hF, frameL_len]
  have hF64 : ∀ s ∈ appendF J b, s.length = 64 := fun s hs => by rw [hF] at hs; exact (sec_mark hs).2
  obtain ⟨w0, wu, wl, wr⟩ := writes_up (appendF J b) d m (J.base + J.tail) h ok (by omega) (by rw [hFl]; omega) hF64
  have wok := writesD_ok (f := appendF J b) (i := J.base + J.tail) ok
  obtain ⟨s0, su, sp, sl⟩ := sync_up wu
  have hA : appendJ d J b = (((syncD (writesD d (J.base + J.tail) (appendF J b)).1).1, { J with tail := J.tail + partsN b.length, seq := J.seq + 1 }), 0) := by
    unfold appendJ
    rw [if_neg (by omega), if_neg (by rw [hd]; decide), if_neg (by omega), if_neg (not_not_intro w0), if_neg (not_not_intro s0)]
  rw [hA]
  refine ⟨rfl, su, sl.trans wl, fun size hsz => ⟨J.tail.toNat, by omega, ?_⟩⟩
  rw [← hF, ← hFl]
  refine reads_cut (by rw [hFl]; omega) fun j => ?_
  show (readD (syncD (writesD d (J.base + J.tail) (appendF J b)).1).1 j).1 = _
  rw [read_sync wu wok, wr, show ((J.base.toNat : Int)) = J.base by omega, show ((J.tail.toNat : Int)) = J.tail by omega]
  split <;> rfl
/-- what an append to an open journal on a disk that is up answers, by whether there is room. -/
theorem appendJ_ans {d : DS} {m : Nat} {J : JS} {b : List UInt8} (h : Up d) (ok : d.ok m) (hJ : J.ok) (hgen : J.gen ≠ 0) (hro : J.round ≠ 0) (hd : J.dead = false) (hdisk : J.base + J.size ≤ d.good.length) :
    (appendJ d J b).2 = if partsN b.length = 0 then 3 else if (partsN b.length : Int) ≤ J.size - J.tail then 0 else 18 := by
  by_cases h0 : partsN b.length = 0
  · rw [if_pos h0]; unfold appendJ; rw [if_pos h0]
  · rw [if_neg h0]
    by_cases h1 : (partsN b.length : Int) ≤ J.size - J.tail
    · rw [if_pos h1]
      have hb : b.length ≤ 4000 := by
        by_cases hb : b.length ≤ 4000
        · exact hb
        · unfold partsN at h0; rw [if_pos (by omega)] at h0; exact absurd rfl h0
      exact (append_up h ok hJ hgen hro hd hb (by omega) hdisk).1
    · rw [if_neg h1]
      unfold appendJ
      rw [if_neg h0, hd, if_neg (by decide), if_pos (by omega)]
end Go.Proofs.Ytgcjipbahfpopaa

/- Journal: Create, the small ones, and the sectors of a stretch. -/
set_option linter.unusedVariables false
set_option linter.unusedSimpArgs false
set_option maxRecDepth 20000
set_option maxHeartbeats 2000000
namespace Go.Proofs.Ytgcjipbahfpopaa
open Go Go.Mx Go.Proofs
open W (OwnB GivesW)
def JS.anew (J : JS) : JS := { J with tail := 0, seq := 0 }
theorem openK_kind (d : DS) (base size : Int) (gen : Nat) : ((openK d base size gen).2.2 = 0 → ∃ J, (openK d base size gen).1 = some J) ∧ ((openK d base size gen).2.2 ≠ 0 → (openK d base size gen).1 = none ∧ (openK d base size gen).2.1 = []) := by
  unfold openK
  split
  · rename_i h
    exact ⟨fun e => absurd e h, fun _ => ⟨rfl, rfl⟩⟩
  · split
    · exact ⟨fun e => (by cases e), fun _ => ⟨rfl, rfl⟩⟩
    · exact ⟨fun _ => ⟨_, rfl⟩, fun h => absurd rfl h⟩
section
variable {w w' w1 : World} {o o' o1 : Own} {q g n N m : Nat} {K : Nat → Prop} {b s : List UInt8} {a : Option Addr} {c : Nat} {l : List BS} {d : DS} {J : JS}
theorem Create_spec (h : DG w o g d) (ok : Tags w o) (hd : d.ok m) (hm : m < 100000) (base size : Int) (gen : Nat) :
    Calls Try.prog 26 #[.pointer (some (blk g)), .int .i64 base, .int .i64 size, .int .u32 gen] w (fun z w' => ∃ o' jp, z = .returned (.tuple #[.pointer jp, .int .i64 (openK d base size gen).2.2]) ∧ Step no w o w' o' ∧
      (∀ J, (openK d base size gen).1 = some J → ∃ q, jp = some (blk q) ∧ w.heap.size ≤ q ∧ JG w' o' q g J.anew)) := by
  refine (journal_Create.go _ _ _ _ (R := fun z w' => ∃ o' jp, z = (.tuple #[.pointer jp, .int .i64 (openK d base size gen).2.2]) ∧ Step no w o w' o' ∧
      (∀ J, (openK d base size gen).1 = some J → ∃ q, jp = some (blk q) ∧ w.heap.size ≤ q ∧ JG w' o' q g J.anew)) ?_).mono fun z w' ⟨u, he, o', jp, hu, hw⟩ => ⟨o', jp, by rw [he, hu], hw⟩
  unfold journal_Create.N
  obtain ⟨k0, k1⟩ := openK_kind d base size gen
  refine (Open_spec h ok hd hm base size gen).mono fun u w8 ⟨o8, jp, la, lc, l, he, s8, hmap, hr, hn, hj⟩ => ⟨_, _, _, _, _, he, fun h0 => ?_, fun h0 => ?_⟩
  · obtain ⟨J, hJ⟩ := k0 h0
    obtain ⟨q, rfl, hq, jg⟩ := hj J hJ
    have ha5 : ((blk q).add 5).add 0 = (blk q).add 5 := by rw [add_add]
    have ha6 : ((blk q).add 6).add 0 = (blk q).add 6 := by rw [add_add]
    refine ⟨_, rfl, ?_⟩
    rw [ha5, ha6]
    refine ⟨jg.mem.cana (i := 5) rfl, thenW_in fun w57 e57 => ?_⟩
    have b57 := jg.mem.seti 5 rfl e57
    refine ⟨b57.cana (i := 6) rfl, thenW_in fun w60 e60 => ?_⟩
    have X60 : Ext (fun b => b = q) w8 w60 := ((Ext.refl (fun b => b = q) w8).x_set (q := q) (i := 5) rfl (.inl rfl) e57).x_set (q := q) (i := 6) rfl (.inl rfl) e60
    obtain ⟨o60, s60⟩ := Step.store1 X60 s8.ok jg.tg
    refine ⟨o60, _, rfl, s8.trans' s60 fun i hi => .inr (by subst hi; exact hq), fun J2 hJ2 => ⟨q, rfl, hq, ?_⟩⟩
    rw [hJ] at hJ2
    cases hJ2
    exact ⟨b57.seti 6 rfl e60, by rw [s60.own jg.mem.lt]; exact jg.tg⟩
  · exact ⟨o8, _, rfl, s8, fun J hJ => by rw [(k1 h0).1] at hJ; cases hJ⟩
end
end Go.Proofs.Ytgcjipbahfpopaa

/- Journal: the predicates of what asks journals on disks. -/
set_option maxRecDepth 100000
set_option maxHeartbeats 4000000
namespace Go.Proofs.Ytgcjipbahfpopaa
open Go Go.Mx Go.Proofs
/-- cachettelaw10.JournalGens -/
def cachettelaw10_JournalGens.M (pv : Option Addr) (ef : Nat) (qe : Nat) (bl : Option Addr) (bb : Nat) (qd : Nat) (bj : Int) (a7 : Option Addr) (a5 : Nat) (a6 : Nat) (b6 : Bool) (R : Value → World → Prop) (w : World) : Prop :=
 bif decide ((ef : Int) > 12) then (
 Calls Try.prog 8 #[] w fun qa q9 => ∃ (fb : Bool), qa = .returned (.bool fb) ∧
 R (.bool fb) q9) else (
 bif decide ((bb : Int) > 12) then (
 Calls Try.prog 8 #[] w fun ps pf => ∃ (f2 : Bool), ps = .returned (.bool f2) ∧
 R (.bool f2) pf) else (
 bif decide ((a5 : Int) > 60) then (
 Calls Try.prog 8 #[] w fun p0 o3 => ∃ (dv : Bool), p0 = .returned (.bool dv) ∧
 R (.bool dv) o3) else (
 ∃ (I0 : Nat → List Value → World → Prop) (q7 : Nat), I0 q7 [.int .i64 0] w ∧ ∀ (mc : Nat) (b9 : World) (bk : Int), I0 mc [.int .i64 bk] b9 →
 bif decide (bk < (IntKind.i64.wrap ((ef : Int) + (bb : Int)))) then (
 bif decide (bk < (ef : Int)) then (
 pv.elim False fun qb =>
 0 ≤ (bk : Int) ∧ (bk : Int) < (ef : Int) ∧
 ∃ (pp : Option Addr) (lh : Nat) (og : Nat), b9.cell? (qb.add (Int.toNat bk * 1)) = some (.slice pp lh og) ∧
 bif decide ((lh : Int) > 200) then (
 Calls Try.prog 8 #[] b9 fun pj oc => ∃ (dp : Bool), pj = .returned (.bool dp) ∧
 R (.bool dp) oc) else (
 bif decide (bk ≥ (ef : Int)) then (
 bl.elim False fun q8 =>
 0 ≤ ((IntKind.i64.wrap (bk - (ef : Int))) : Int) ∧ ((IntKind.i64.wrap (bk - (ef : Int))) : Int) < (bb : Int) ∧
 ∃ (p3 : Option Addr) (kz : Nat) (pm : Nat), b9.cell? (q8.add (Int.toNat (IntKind.i64.wrap (bk - (ef : Int))) * 1)) = some (.slice p3 kz pm) ∧
 bif decide ((kz : Int) > 200) then (
 Calls Try.prog 8 #[] b9 fun o8 pl => ∃ (ee : Bool), o8 = .returned (.bool ee) ∧
 R (.bool ee) pl) else (
 ∃ q1, q1 < mc ∧ I0 q1 [.int .i64 (IntKind.i64.wrap (bk + 1))] b9)) else (
 ∃ q0, q0 < mc ∧ I0 q0 [.int .i64 (IntKind.i64.wrap (bk + 1))] b9))) else (
 bif decide (bk ≥ (ef : Int)) then (
 bl.elim False fun q4 =>
 0 ≤ ((IntKind.i64.wrap (bk - (ef : Int))) : Int) ∧ ((IntKind.i64.wrap (bk - (ef : Int))) : Int) < (bb : Int) ∧
 ∃ (ov : Option Addr) (l3 : Nat) (p1 : Nat), b9.cell? (q4.add (Int.toNat (IntKind.i64.wrap (bk - (ef : Int))) * 1)) = some (.slice ov l3 p1) ∧
 bif decide ((l3 : Int) > 200) then (
 Calls Try.prog 8 #[] b9 fun op pk => ∃ (e4 : Bool), op = .returned (.bool e4) ∧
 R (.bool e4) pk) else (
 ∃ pt, pt < mc ∧ I0 pt [.int .i64 (IntKind.i64.wrap (bk + 1))] b9)) else (
 ∃ pz, pz < mc ∧ I0 pz [.int .i64 (IntKind.i64.wrap (bk + 1))] b9))) else (
 Calls Try.prog 19 #[.int .i64 60] b9 fun pd ou => ∃ (a4 : Option Addr) (m8 : Int), pd = .returned (.tuple #[.pointer a4, .int .i64 m8]) ∧
 Calls Try.prog 20 #[.pointer a4, .int .i64 0, .int .i64 60, .int .u32 7] ou fun oe kg => ∃ (ds : Option Addr) (fj : Option Addr) (ev : Nat) (f5 : Nat) (ec : Int), oe = .returned (.tuple #[.pointer ds, .slice fj ev f5, .int .i64 ec]) ∧
 bif ec != 0 then (
 R (.bool false) kg) else (
 ∃ (I2 : Nat → List Value → World → Prop) (q6 : Nat), I2 q6 [.int .i64 0] kg ∧ ∀ (pw : Nat) (fa : World) (jm : Int), I2 pw [.int .i64 jm] fa →
 bif decide (jm < (ef : Int)) then (
 pv.elim False fun qc =>
 0 ≤ (jm : Int) ∧ (jm : Int) < (ef : Int) ∧
 ∃ (lx : Option Addr) (mh : Nat) (k9 : Nat), fa.cell? (qc.add (Int.toNat jm * 1)) = some (.slice lx mh k9) ∧
 Calls Try.prog 23 #[.pointer ds, .slice lx mh k9] fa fun p6 ob => ∃ (ew : Int), p6 = .returned (.int .i64 ew) ∧
 ∃ py, py < pw ∧ I2 py [.int .i64 (IntKind.i64.wrap (jm + 1))] ob) else (
 bif b6 then (
 Calls Try.prog 20 #[.pointer a4, .int .i64 0, .int .i64 60, .int .u32 8] fa fun ow nm => ∃ (fl : Option Addr) (f9 : Option Addr) (c8 : Nat) (f1 : Nat) (fp : Int), ow = .returned (.tuple #[.pointer fl, .slice f9 c8 f1, .int .i64 fp]) ∧
 bif (c8 : Int) != 0 then (
 R (.bool false) nm) else (
 Calls Try.prog 26 #[.pointer a4, .int .i64 0, .int .i64 60, .int .u32 7] nm fun pb jk => ∃ (bd : Option Addr) (ci : Int), pb = .returned (.tuple #[.pointer bd, .int .i64 ci]) ∧
 bif ci != 0 then (
 R (.bool false) jk) else (
 bif decide (bj ≥ 0) then (
 Calls Try.prog 21 #[.pointer a4, .int .i64 bj] jk fun o6 ol => ∃ (ld : Int), o6 = .returned (.int .i64 ld) ∧
 ∃ (I4 : Nat → List Value → World → Prop) (q3 : Nat), I4 q3 [.slice none 0 0, .int .i64 0] ol ∧ ∀ (px : Nat) (fo : World) (ba : Option Addr) (a3 : Nat) (bc : Nat) (dl : Int), I4 px [.slice ba a3 bc, .int .i64 dl] fo →
 bif decide (dl < (bb : Int)) then (
 bl.elim False fun q5 =>
 0 ≤ (dl : Int) ∧ (dl : Int) < (bb : Int) ∧
 ∃ (k4 : Option Addr) (l6 : Nat) (kx : Nat), fo.cell? (q5.add (Int.toNat dl * 1)) = some (.slice k4 l6 kx) ∧
 Calls Try.prog 23 #[.pointer bd, .slice k4 l6 kx] fo fun pq fm => ∃ (cq : Int), pq = .returned (.int .i64 cq) ∧
 bif cq == 0 then (
 bl.elim False fun q2 =>
 0 ≤ (dl : Int) ∧ (dl : Int) < (bb : Int) ∧
 ∃ (ma : Option Addr) (nc : Nat) (m5 : Nat), fm.cell? (q2.add (Int.toNat dl * 1)) = some (.slice ma nc m5) ∧
 thenW (fm.alloc (.cells #[.slice ma nc m5] 23)) fun pi =>
 ∃ (kq : Option Addr) (o1 : Nat) (mk : Nat) (lz : World), (Builtin.append_ #[25, 25] 25 #[.slice ba a3 bc, .slice (some (blk fm.heap.size)) 1 1]).run Try.prog pi = .ok (.slice kq o1 mk) lz ∧
 ∃ pu, pu < px ∧ I4 pu [.slice kq o1 mk, .int .i64 (IntKind.i64.wrap (dl + 1))] lz) else (
 Calls Try.prog 24 #[.pointer a4] fm fun pr jl => ∃ (fd : Bool), pr = .returned (.bool fd) ∧
 bif !fd then (
 Calls Try.prog 8 #[] jl fun o5 ot => ∃ (dq : Bool), o5 = .returned (.bool dq) ∧
 R (.bool dq) ot) else (
 bif (a3 : Int) == 0 then (
 Calls Try.prog 8 #[] jl fun pn p2 => ∃ (ea : Bool), pn = .returned (.bool ea) ∧
 R (.bool ea) p2) else (
 Calls Try.prog 25 #[.pointer a4, .slice a7 a5 a6] jl fun p5 p8 => ∃ (ej : Int), p5 = .returned (.int .i64 ej) ∧
 Calls Try.prog 20 #[.pointer a4, .int .i64 0, .int .i64 60, .int .u32 7] p8 fun n7 em => ∃ (fq : Option Addr) (b3 : Option Addr) (b0 : Nat) (b5 : Nat) (ed : Int), n7 = .returned (.tuple #[.pointer fq, .slice b3 b0 b5, .int .i64 ed]) ∧
 bif ed != 0 then (
 R (.bool false) em) else (
 bif decide ((b0 : Int) < (a3 : Int)) then (
 R (.bool false) em) else (
 (0 : Int) ≤ ((a3 : Int) : Int) ∧ ((a3 : Int) : Int) ≤ (b5 : Int) ∧
 Calls Try.prog 11 #[.slice (if b5 = 0 then b3 else Option.map (fun z : Addr => z.add (0 * 1)) b3) ((Int.toNat (a3 : Int)) - 0) (b5 - 0), .slice ba a3 bc] em fun lc ig => ∃ (c7 : Bool), lc = .returned (.bool c7) ∧
 bif !c7 then (
 R (.bool false) ig) else (
 thenW (ig.drew) fun c6 =>
 bif (b0 : Int) == (a3 : Int) then (
 Calls Try.prog 8 #[] c6 fun mj li => ∃ (ct : Bool), mj = .returned (.bool ct) ∧
 R (.bool ct) li) else (
 bif b6 then (
 Calls Try.prog 8 #[] c6 fun ko kr => ∃ (c4 : Bool), ko = .returned (.bool c4) ∧
 R (.bool c4) kr) else (
 b3.elim False fun od =>
 0 ≤ ((a3 : Int) : Int) ∧ ((a3 : Int) : Int) < (b0 : Int) ∧
 ∃ (g0 : Option Addr) (iu : Nat) (i1 : Nat), c6.cell? (od.add (Int.toNat (a3 : Int) * 1)) = some (.slice g0 iu i1) ∧
 bl.elim False fun ox =>
 0 ≤ (dl : Int) ∧ (dl : Int) < (bb : Int) ∧
 ∃ (j0 : Option Addr) (gi : Nat) (ip : Nat), c6.cell? (ox.add (Int.toNat dl * 1)) = some (.slice j0 gi ip) ∧
 Calls Try.prog 27 #[.slice g0 iu i1, .slice j0 gi ip] c6 fun m6 fr => ∃ (e6 : Bool), m6 = .returned (.bool e6) ∧
 bif e6 then (
 Calls Try.prog 8 #[] fr fun mv ne => ∃ (c1 : Bool), mv = .returned (.bool c1) ∧
 R (.bool c1) ne) else (
 R (.bool false) fr)))))))))) else (
 Calls Try.prog 24 #[.pointer a4] fo fun mo ex => ∃ (e1 : Bool), mo = .returned (.bool e1) ∧
 bif !e1 then (
 Calls Try.prog 8 #[] ex fun js kb => ∃ (cd : Bool), js = .returned (.bool cd) ∧
 R (.bool cd) kb) else (
 bif (a3 : Int) == 0 then (
 Calls Try.prog 8 #[] ex fun n8 ki => ∃ (bv : Bool), n8 = .returned (.bool bv) ∧
 R (.bool bv) ki) else (
 Calls Try.prog 25 #[.pointer a4, .slice a7 a5 a6] ex fun nv ng => ∃ (di : Int), nv = .returned (.int .i64 di) ∧
 Calls Try.prog 20 #[.pointer a4, .int .i64 0, .int .i64 60, .int .u32 7] ng fun l0 eq => ∃ (ep : Option Addr) (an : Option Addr) (ad : Nat) (ar : Nat) (cx : Int), l0 = .returned (.tuple #[.pointer ep, .slice an ad ar, .int .i64 cx]) ∧
 bif cx != 0 then (
 R (.bool false) eq) else (
 bif decide ((ad : Int) < (a3 : Int)) then (
 R (.bool false) eq) else (
 (0 : Int) ≤ ((a3 : Int) : Int) ∧ ((a3 : Int) : Int) ≤ (ar : Int) ∧
 Calls Try.prog 11 #[.slice (if ar = 0 then an else Option.map (fun z : Addr => z.add (0 * 1)) an) ((Int.toNat (a3 : Int)) - 0) (ar - 0), .slice ba a3 bc] eq fun l2 i2 => ∃ (d8 : Bool), l2 = .returned (.bool d8) ∧
 bif !d8 then (
 R (.bool false) i2) else (
 thenW (i2.drew) fun cl =>
 bif (ad : Int) == (a3 : Int) then (
 Calls Try.prog 8 #[] cl fun ks na => ∃ (d5 : Bool), ks = .returned (.bool d5) ∧
 R (.bool d5) na) else (
 bif b6 then (
 Calls Try.prog 8 #[] cl fun nn ln => ∃ (bp : Bool), nn = .returned (.bool bp) ∧
 R (.bool bp) ln) else (
 an.elim False fun ph =>
 0 ≤ ((a3 : Int) : Int) ∧ ((a3 : Int) : Int) < (ad : Int) ∧
 ∃ (g9 : Option Addr) (ix : Nat) (g4 : Nat), cl.cell? (ph.add (Int.toNat (a3 : Int) * 1)) = some (.slice g9 ix g4) ∧
 bl.elim False fun pc =>
 0 ≤ (dl : Int) ∧ (dl : Int) < (bb : Int) ∧
 ∃ (gy : Option Addr) (j9 : Nat) (j1 : Nat), cl.cell? (pc.add (Int.toNat dl * 1)) = some (.slice gy j9 j1) ∧
 Calls Try.prog 27 #[.slice g9 ix g4, .slice gy j9 j1] cl fun k7 i3 => ∃ (e7 : Bool), k7 = .returned (.bool e7) ∧
 bif e7 then (
 Calls Try.prog 8 #[] i3 fun l1 o0 => ∃ (bm : Bool), l1 = .returned (.bool bm) ∧
 R (.bool bm) o0) else (
 R (.bool false) i3)))))))))) else (
 ∃ (I4 : Nat → List Value → World → Prop) (pg : Nat), I4 pg [.slice none 0 0, .int .i64 0] jk ∧ ∀ (mn : Nat) (ei : World) (b2 : Option Addr) (a2 : Nat) (b7 : Nat) (av : Int), I4 mn [.slice b2 a2 b7, .int .i64 av] ei →
 bif decide (av < (bb : Int)) then (
 bl.elim False fun oo =>
 0 ≤ (av : Int) ∧ (av : Int) < (bb : Int) ∧
 ∃ (ii : Option Addr) (gs : Nat) (j5 : Nat), ei.cell? (oo.add (Int.toNat av * 1)) = some (.slice ii gs j5) ∧
 Calls Try.prog 23 #[.pointer bd, .slice ii gs j5] ei fun ly eh => ∃ (bf : Int), ly = .returned (.int .i64 bf) ∧
 bif bf == 0 then (
 bl.elim False fun oi =>
 0 ≤ (av : Int) ∧ (av : Int) < (bb : Int) ∧
 ∃ (gm : Option Addr) (ic : Nat) (ik : Nat), eh.cell? (oi.add (Int.toNat av * 1)) = some (.slice gm ic ik) ∧
 thenW (eh.alloc (.cells #[.slice gm ic ik] 23)) fun lq =>
 ∃ (jh : Option Addr) (i4 : Nat) (i9 : Nat) (gp : World), (Builtin.append_ #[25, 25] 25 #[.slice b2 a2 b7, .slice (some (blk eh.heap.size)) 1 1]).run Try.prog lq = .ok (.slice jh i4 i9) gp ∧
 ∃ k1, k1 < mn ∧ I4 k1 [.slice jh i4 i9, .int .i64 (IntKind.i64.wrap (av + 1))] gp) else (
 Calls Try.prog 24 #[.pointer a4] eh fun kk f0 => ∃ (e3 : Bool), kk = .returned (.bool e3) ∧
 bif !e3 then (
 Calls Try.prog 8 #[] f0 fun ni l5 => ∃ (bn : Bool), ni = .returned (.bool bn) ∧
 R (.bool bn) l5) else (
 bif (a2 : Int) == 0 then (
 Calls Try.prog 8 #[] f0 fun mz kl => ∃ (d7 : Bool), mz = .returned (.bool d7) ∧
 R (.bool d7) kl) else (
 Calls Try.prog 25 #[.pointer a4, .slice a7 a5 a6] f0 fun n2 n0 => ∃ (dj : Int), n2 = .returned (.int .i64 dj) ∧
 Calls Try.prog 20 #[.pointer a4, .int .i64 0, .int .i64 60, .int .u32 7] n0 fun nk fc => ∃ (eu : Option Addr) (ag : Option Addr) (ae : Nat) (aj : Nat) (c3 : Int), nk = .returned (.tuple #[.pointer eu, .slice ag ae aj, .int .i64 c3]) ∧
 bif c3 != 0 then (
 R (.bool false) fc) else (
 bif decide ((ae : Int) < (a2 : Int)) then (
 R (.bool false) fc) else (
 (0 : Int) ≤ ((a2 : Int) : Int) ∧ ((a2 : Int) : Int) ≤ (aj : Int) ∧
 Calls Try.prog 11 #[.slice (if aj = 0 then ag else Option.map (fun z : Addr => z.add (0 * 1)) ag) ((Int.toNat (a2 : Int)) - 0) (aj - 0), .slice b2 a2 b7] fc fun l8 g8 => ∃ (bw : Bool), l8 = .returned (.bool bw) ∧
 bif !bw then (
 R (.bool false) g8) else (
 thenW (g8.drew) fun d3 =>
 bif (ae : Int) == (a2 : Int) then (
 Calls Try.prog 8 #[] d3 fun ka ju => ∃ (d1 : Bool), ka = .returned (.bool d1) ∧
 R (.bool d1) ju) else (
 bif b6 then (
 Calls Try.prog 8 #[] d3 fun nf n4 => ∃ (cf : Bool), nf = .returned (.bool cf) ∧
 R (.bool cf) n4) else (
 ag.elim False fun o2 =>
 0 ≤ ((a2 : Int) : Int) ∧ ((a2 : Int) : Int) < (ae : Int) ∧
 ∃ (g7 : Option Addr) (gt : Nat) (fw : Nat), d3.cell? (o2.add (Int.toNat (a2 : Int) * 1)) = some (.slice g7 gt fw) ∧
 bl.elim False fun oj =>
 0 ≤ (av : Int) ∧ (av : Int) < (bb : Int) ∧
 ∃ (ji : Option Addr) (gv : Nat) (ia : Nat), d3.cell? (oj.add (Int.toNat av * 1)) = some (.slice ji gv ia) ∧
 Calls Try.prog 27 #[.slice g7 gt fw, .slice ji gv ia] d3 fun jx gn => ∃ (e0 : Bool), jx = .returned (.bool e0) ∧
 bif e0 then (
 Calls Try.prog 8 #[] gn fun kd nu => ∃ (d2 : Bool), kd = .returned (.bool d2) ∧
 R (.bool d2) nu) else (
 R (.bool false) gn)))))))))) else (
 Calls Try.prog 24 #[.pointer a4] ei fun k6 er => ∃ (eb : Bool), k6 = .returned (.bool eb) ∧
 bif !eb then (
 Calls Try.prog 8 #[] er fun mx lm => ∃ (bt : Bool), mx = .returned (.bool bt) ∧
 R (.bool bt) lm) else (
 bif (a2 : Int) == 0 then (
 Calls Try.prog 8 #[] er fun ms k3 => ∃ (cs : Bool), ms = .returned (.bool cs) ∧
 R (.bool cs) k3) else (
 Calls Try.prog 25 #[.pointer a4, .slice a7 a5 a6] er fun le n3 => ∃ (dg : Int), le = .returned (.int .i64 dg) ∧
 Calls Try.prog 20 #[.pointer a4, .int .i64 0, .int .i64 60, .int .u32 7] n3 fun lf ff => ∃ (f4 : Option Addr) (ap : Option Addr) (a9 : Nat) (a8 : Nat) (d0 : Int), lf = .returned (.tuple #[.pointer f4, .slice ap a9 a8, .int .i64 d0]) ∧
 bif d0 != 0 then (
 R (.bool false) ff) else (
 bif decide ((a9 : Int) < (a2 : Int)) then (
 R (.bool false) ff) else (
 (0 : Int) ≤ ((a2 : Int) : Int) ∧ ((a2 : Int) : Int) ≤ (a8 : Int) ∧
 Calls Try.prog 11 #[.slice (if a8 = 0 then ap else Option.map (fun z : Addr => z.add (0 * 1)) ap) ((Int.toNat (a2 : Int)) - 0) (a8 - 0), .slice b2 a2 b7] ff fun k2 fv => ∃ (cm : Bool), k2 = .returned (.bool cm) ∧
 bif !cm then (
 R (.bool false) fv) else (
 thenW (fv.drew) fun db =>
 bif (a9 : Int) == (a2 : Int) then (
 Calls Try.prog 8 #[] db fun m7 ke => ∃ (ce : Bool), m7 = .returned (.bool ce) ∧
 R (.bool ce) ke) else (
 bif b6 then (
 Calls Try.prog 8 #[] db fun lt jw => ∃ (ca : Bool), lt = .returned (.bool ca) ∧
 R (.bool ca) jw) else (
 ap.elim False fun oq =>
 0 ≤ ((a2 : Int) : Int) ∧ ((a2 : Int) : Int) < (a9 : Int) ∧
 ∃ (fu : Option Addr) (im : Nat) (fy : Nat), db.cell? (oq.add (Int.toNat (a2 : Int) * 1)) = some (.slice fu im fy) ∧
 bl.elim False fun p9 =>
 0 ≤ (av : Int) ∧ (av : Int) < (bb : Int) ∧
 ∃ (gu : Option Addr) (iw : Nat) (ft : Nat), db.cell? (p9.add (Int.toNat av * 1)) = some (.slice gu iw ft) ∧
 Calls Try.prog 27 #[.slice fu im fy, .slice gu iw ft] db fun lv it => ∃ (e5 : Bool), lv = .returned (.bool e5) ∧
 bif e5 then (
 Calls Try.prog 8 #[] it fun np lb => ∃ (d6 : Bool), np = .returned (.bool d6) ∧
 R (.bool d6) lb) else (
 R (.bool false) it))))))))))))) else (
 Calls Try.prog 20 #[.pointer a4, .int .i64 0, .int .i64 60, .int .u32 8] fa fun nz jf => ∃ (fg : Option Addr) (ek : Option Addr) (bh : Nat) (el : Nat) (fk : Int), nz = .returned (.tuple #[.pointer fg, .slice ek bh el, .int .i64 fk]) ∧
 bif (bh : Int) != 0 then (
 R (.bool false) jf) else (
 Calls Try.prog 26 #[.pointer a4, .int .i64 0, .int .i64 60, .int .u32 8] jf fun l9 es => ∃ (b8 : Option Addr) (bi : Int), l9 = .returned (.tuple #[.pointer b8, .int .i64 bi]) ∧
 bif bi != 0 then (
 R (.bool false) es) else (
 bif decide (bj ≥ 0) then (
 Calls Try.prog 21 #[.pointer a4, .int .i64 bj] es fun nj mg => ∃ (jj : Int), nj = .returned (.int .i64 jj) ∧
 ∃ (I4 : Nat → List Value → World → Prop) (po : Nat), I4 po [.slice none 0 0, .int .i64 0] mg ∧ ∀ (n6 : Nat) (eg : World) (b4 : Option Addr) (a0 : Nat) (b1 : Nat) (ax : Int), I4 n6 [.slice b4 a0 b1, .int .i64 ax] eg →
 bif decide (ax < (bb : Int)) then (
 bl.elim False fun o9 =>
 0 ≤ (ax : Int) ∧ (ax : Int) < (bb : Int) ∧
 ∃ (ij : Option Addr) (jd : Nat) (i5 : Nat), eg.cell? (o9.add (Int.toNat ax * 1)) = some (.slice ij jd i5) ∧
 Calls Try.prog 23 #[.pointer b8, .slice ij jd i5] eg fun kf e8 => ∃ (be : Int), kf = .returned (.int .i64 be) ∧
 bif be == 0 then (
 bl.elim False fun os =>
 0 ≤ (ax : Int) ∧ (ax : Int) < (bb : Int) ∧
 ∃ (g1 : Option Addr) (gj : Nat) (gd : Nat), e8.cell? (os.add (Int.toNat ax * 1)) = some (.slice g1 gj gd) ∧
 thenW (e8.alloc (.cells #[.slice g1 gj gd] 23)) fun nr =>
 ∃ (ib : Option Addr) (jg : Nat) (ge : Nat) (j4 : World), (Builtin.append_ #[25, 25] 25 #[.slice b4 a0 b1, .slice (some (blk e8.heap.size)) 1 1]).run Try.prog nr = .ok (.slice ib jg ge) j4 ∧
 ∃ lk, lk < n6 ∧ I4 lk [.slice ib jg ge, .int .i64 (IntKind.i64.wrap (ax + 1))] j4) else (
 Calls Try.prog 24 #[.pointer a4] e8 fun kv fi => ∃ (dn : Bool), kv = .returned (.bool dn) ∧
 bif !dn then (
 Calls Try.prog 8 #[] fi fun mw kw => ∃ (cg : Bool), mw = .returned (.bool cg) ∧
 R (.bool cg) kw) else (
 bif (a0 : Int) == 0 then (
 Calls Try.prog 8 #[] fi fun kj k8 => ∃ (cb : Bool), kj = .returned (.bool cb) ∧
 R (.bool cb) k8) else (
 Calls Try.prog 25 #[.pointer a4, .slice a7 a5 a6] fi fun lp kn => ∃ (df : Int), lp = .returned (.int .i64 df) ∧
 Calls Try.prog 20 #[.pointer a4, .int .i64 0, .int .i64 60, .int .u32 8] kn fun ny en => ∃ (f3 : Option Addr) (af : Option Addr) (au : Nat) (aq : Nat) (d9 : Int), ny = .returned (.tuple #[.pointer f3, .slice af au aq, .int .i64 d9]) ∧
 bif d9 != 0 then (
 R (.bool false) en) else (
 bif decide ((au : Int) < (a0 : Int)) then (
 R (.bool false) en) else (
 (0 : Int) ≤ ((a0 : Int) : Int) ∧ ((a0 : Int) : Int) ≤ (aq : Int) ∧
 Calls Try.prog 11 #[.slice (if aq = 0 then af else Option.map (fun z : Addr => z.add (0 * 1)) af) ((Int.toNat (a0 : Int)) - 0) (aq - 0), .slice b4 a0 b1] en fun jr iz => ∃ (cj : Bool), jr = .returned (.bool cj) ∧
 bif !cj then (
 R (.bool false) iz) else (
 thenW (iz.drew) fun dc =>
 bif (au : Int) == (a0 : Int) then (
 Calls Try.prog 8 #[] dc fun mu kt => ∃ (de : Bool), mu = .returned (.bool de) ∧
 R (.bool de) kt) else (
 bif b6 then (
 Calls Try.prog 8 #[] dc fun kp l7 => ∃ (ck : Bool), kp = .returned (.bool ck) ∧
 R (.bool ck) l7) else (
 af.elim False fun pe =>
 0 ≤ ((a0 : Int) : Int) ∧ ((a0 : Int) : Int) < (au : Int) ∧
 ∃ (fx : Option Addr) (gc : Nat) (je : Nat), dc.cell? (pe.add (Int.toNat (a0 : Int) * 1)) = some (.slice fx gc je) ∧
 bl.elim False fun o7 =>
 0 ≤ (ax : Int) ∧ (ax : Int) < (bb : Int) ∧
 ∃ (g3 : Option Addr) (fz : Nat) (gr : Nat), dc.cell? (o7.add (Int.toNat ax * 1)) = some (.slice g3 fz gr) ∧
 Calls Try.prog 27 #[.slice fx gc je, .slice g3 fz gr] dc fun jo j8 => ∃ (dy : Bool), jo = .returned (.bool dy) ∧
 bif dy then (
 Calls Try.prog 8 #[] j8 fun mt k0 => ∃ (cp : Bool), mt = .returned (.bool cp) ∧
 R (.bool cp) k0) else (
 R (.bool false) j8)))))))))) else (
 Calls Try.prog 24 #[.pointer a4] eg fun n5 f8 => ∃ (e9 : Bool), n5 = .returned (.bool e9) ∧
 bif !e9 then (
 Calls Try.prog 8 #[] f8 fun ky jv => ∃ (bz : Bool), ky = .returned (.bool bz) ∧
 R (.bool bz) jv) else (
 bif (a0 : Int) == 0 then (
 Calls Try.prog 8 #[] f8 fun l4 m0 => ∃ (cr : Bool), l4 = .returned (.bool cr) ∧
 R (.bool cr) m0) else (
 Calls Try.prog 25 #[.pointer a4, .slice a7 a5 a6] f8 fun nt lr => ∃ (dm : Int), nt = .returned (.int .i64 dm) ∧
 Calls Try.prog 20 #[.pointer a4, .int .i64 0, .int .i64 60, .int .u32 8] lr fun mp ez => ∃ (fh : Option Addr) (am : Option Addr) (ai : Nat) (ah : Nat) (cc : Int), mp = .returned (.tuple #[.pointer fh, .slice am ai ah, .int .i64 cc]) ∧
 bif cc != 0 then (
 R (.bool false) ez) else (
 bif decide ((ai : Int) < (a0 : Int)) then (
 R (.bool false) ez) else (
 (0 : Int) ≤ ((a0 : Int) : Int) ∧ ((a0 : Int) : Int) ≤ (ah : Int) ∧
 Calls Try.prog 11 #[.slice (if ah = 0 then am else Option.map (fun z : Addr => z.add (0 * 1)) am) ((Int.toNat (a0 : Int)) - 0) (ah - 0), .slice b4 a0 b1] ez fun me gf => ∃ (bo : Bool), me = .returned (.bool bo) ∧
 bif !bo then (
 R (.bool false) gf) else (
 thenW (gf.drew) fun bu =>
 bif (ai : Int) == (a0 : Int) then (
 Calls Try.prog 8 #[] bu fun ku m3 => ∃ (cy : Bool), ku = .returned (.bool cy) ∧
 R (.bool cy) m3) else (
 bif b6 then (
 Calls Try.prog 8 #[] bu fun jt nd => ∃ (cw : Bool), jt = .returned (.bool cw) ∧
 R (.bool cw) nd) else (
 am.elim False fun oz =>
 0 ≤ ((a0 : Int) : Int) ∧ ((a0 : Int) : Int) < (ai : Int) ∧
 ∃ (gb : Option Addr) (ie : Nat) (g6 : Nat), bu.cell? (oz.add (Int.toNat (a0 : Int) * 1)) = some (.slice gb ie g6) ∧
 bl.elim False fun o4 =>
 0 ≤ (ax : Int) ∧ (ax : Int) < (bb : Int) ∧
 ∃ (i0 : Option Addr) (io : Nat) (il : Nat), bu.cell? (o4.add (Int.toNat ax * 1)) = some (.slice i0 io il) ∧
 Calls Try.prog 27 #[.slice gb ie g6, .slice i0 io il] bu fun mf ir => ∃ (dt : Bool), mf = .returned (.bool dt) ∧
 bif dt then (
 Calls Try.prog 8 #[] ir fun my mb => ∃ (da : Bool), my = .returned (.bool da) ∧
 R (.bool da) mb) else (
 R (.bool false) ir)))))))))) else (
 ∃ (I4 : Nat → List Value → World → Prop) (pa : Nat), I4 pa [.slice none 0 0, .int .i64 0] es ∧ ∀ (jq : Nat) (du : World) (az : Option Addr) (a1 : Nat) (ay : Nat) (aw : Int), I4 jq [.slice az a1 ay, .int .i64 aw] du →
 bif decide (aw < (bb : Int)) then (
 bl.elim False fun oa =>
 0 ≤ (aw : Int) ∧ (aw : Int) < (bb : Int) ∧
 ∃ (gl : Option Addr) (jc : Nat) (ga : Nat), du.cell? (oa.add (Int.toNat aw * 1)) = some (.slice gl jc ga) ∧
 Calls Try.prog 23 #[.pointer b8, .slice gl jc ga] du fun mm dz => ∃ (bg : Int), mm = .returned (.int .i64 bg) ∧
 bif bg == 0 then (
 bl.elim False fun p4 =>
 0 ≤ (aw : Int) ∧ (aw : Int) < (bb : Int) ∧
 ∃ (j7 : Option Addr) (g2 : Nat) (gz : Nat), dz.cell? (p4.add (Int.toNat aw * 1)) = some (.slice j7 g2 gz) ∧
 thenW (dz.alloc (.cells #[.slice j7 g2 gz] 23)) fun n1 =>
 ∃ (i6 : Option Addr) (gk : Nat) (iq : Nat) (gx : World), (Builtin.append_ #[25, 25] 25 #[.slice az a1 ay, .slice (some (blk dz.heap.size)) 1 1]).run Try.prog n1 = .ok (.slice i6 gk iq) gx ∧
 ∃ nb, nb < jq ∧ I4 nb [.slice i6 gk iq, .int .i64 (IntKind.i64.wrap (aw + 1))] gx) else (
 Calls Try.prog 24 #[.pointer a4] dz fun m4 ey => ∃ (dx : Bool), m4 = .returned (.bool dx) ∧
 bif !dx then (
 Calls Try.prog 8 #[] ey fun kh jy => ∃ (cv : Bool), kh = .returned (.bool cv) ∧
 R (.bool cv) jy) else (
 bif (a1 : Int) == 0 then (
 Calls Try.prog 8 #[] ey fun lw jp => ∃ (c2 : Bool), lw = .returned (.bool c2) ∧
 R (.bool c2) jp) else (
 Calls Try.prog 25 #[.pointer a4, .slice a7 a5 a6] ey fun la km => ∃ (dk : Int), la = .returned (.int .i64 dk) ∧
 Calls Try.prog 20 #[.pointer a4, .int .i64 0, .int .i64 60, .int .u32 8] km fun lj eo => ∃ (et : Option Addr) (ac : Option Addr) (al : Nat) (aa : Nat) (cn : Int), lj = .returned (.tuple #[.pointer et, .slice ac al aa, .int .i64 cn]) ∧
 bif cn != 0 then (
 R (.bool false) eo) else (
 bif decide ((al : Int) < (a1 : Int)) then (
 R (.bool false) eo) else (
 (0 : Int) ≤ ((a1 : Int) : Int) ∧ ((a1 : Int) : Int) ≤ (aa : Int) ∧
 Calls Try.prog 11 #[.slice (if aa = 0 then ac else Option.map (fun z : Addr => z.add (0 * 1)) ac) ((Int.toNat (a1 : Int)) - 0) (aa - 0), .slice az a1 ay] eo fun n9 iy => ∃ (bs : Bool), n9 = .returned (.bool bs) ∧
 bif !bs then (
 R (.bool false) iy) else (
 thenW (iy.drew) fun dd =>
 bif (al : Int) == (a1 : Int) then (
 Calls Try.prog 8 #[] dd fun mr nh => ∃ (cu : Bool), mr = .returned (.bool cu) ∧
 R (.bool cu) nh) else (
 bif b6 then (
 Calls Try.prog 8 #[] dd fun lg kc => ∃ (c0 : Bool), lg = .returned (.bool c0) ∧
 R (.bool c0) kc) else (
 ac.elim False fun om =>
 0 ≤ ((a1 : Int) : Int) ∧ ((a1 : Int) : Int) < (al : Int) ∧
 ∃ (ih : Option Addr) (ja : Nat) (gq : Nat), dd.cell? (om.add (Int.toNat (a1 : Int) * 1)) = some (.slice ih ja gq) ∧
 bl.elim False fun p7 =>
 0 ≤ (aw : Int) ∧ (aw : Int) < (bb : Int) ∧
 ∃ (gg : Option Addr) (g5 : Nat) (i8 : Nat), dd.cell? (p7.add (Int.toNat aw * 1)) = some (.slice gg g5 i8) ∧
 Calls Try.prog 27 #[.slice ih ja gq, .slice gg g5 i8] dd fun ls jb => ∃ (e2 : Bool), ls = .returned (.bool e2) ∧
 bif e2 then (
 Calls Try.prog 8 #[] jb fun nl jz => ∃ (br : Bool), nl = .returned (.bool br) ∧
 R (.bool br) jz) else (
 R (.bool false) jb)))))))))) else (
 Calls Try.prog 24 #[.pointer a4] du fun lo f6 => ∃ (dw : Bool), lo = .returned (.bool dw) ∧
 bif !dw then (
 Calls Try.prog 8 #[] f6 fun ns nq => ∃ (ch : Bool), ns = .returned (.bool ch) ∧
 R (.bool ch) nq) else (
 bif (a1 : Int) == 0 then (
 Calls Try.prog 8 #[] f6 fun m9 m1 => ∃ (c9 : Bool), m9 = .returned (.bool c9) ∧
 R (.bool c9) m1) else (
 Calls Try.prog 25 #[.pointer a4, .slice a7 a5 a6] f6 fun nw m2 => ∃ (dh : Int), nw = .returned (.int .i64 dh) ∧
 Calls Try.prog 20 #[.pointer a4, .int .i64 0, .int .i64 60, .int .u32 8] m2 fun mi fe => ∃ (f7 : Option Addr) (ak : Option Addr) (ao : Nat) (ab : Nat) (d4 : Int), mi = .returned (.tuple #[.pointer f7, .slice ak ao ab, .int .i64 d4]) ∧
 bif d4 != 0 then (
 R (.bool false) fe) else (
 bif decide ((ao : Int) < (a1 : Int)) then (
 R (.bool false) fe) else (
 (0 : Int) ≤ ((a1 : Int) : Int) ∧ ((a1 : Int) : Int) ≤ (ab : Int) ∧
 Calls Try.prog 11 #[.slice (if ab = 0 then ak else Option.map (fun z : Addr => z.add (0 * 1)) ak) ((Int.toNat (a1 : Int)) - 0) (ab - 0), .slice az a1 ay] fe fun k5 i7 => ∃ (bx : Bool), k5 = .returned (.bool bx) ∧
 bif !bx then (
 R (.bool false) i7) else (
 thenW (i7.drew) fun bq =>
 bif (ao : Int) == (a1 : Int) then (
 Calls Try.prog 8 #[] bq fun ml mq => ∃ (co : Bool), ml = .returned (.bool co) ∧
 R (.bool co) mq) else (
 bif b6 then (
 Calls Try.prog 8 #[] bq fun lu jn => ∃ (cz : Bool), lu = .returned (.bool cz) ∧
 R (.bool cz) jn) else (
 ak.elim False fun oy =>
 0 ≤ ((a1 : Int) : Int) ∧ ((a1 : Int) : Int) < (ao : Int) ∧
 ∃ (j3 : Option Addr) (iv : Nat) (gh : Nat), bq.cell? (oy.add (Int.toNat (a1 : Int) * 1)) = some (.slice j3 iv gh) ∧
 bl.elim False fun oh =>
 0 ≤ (aw : Int) ∧ (aw : Int) < (bb : Int) ∧
 ∃ (j6 : Option Addr) (j2 : Nat) (gw : Nat), bq.cell? (oh.add (Int.toNat aw * 1)) = some (.slice j6 j2 gw) ∧
 Calls Try.prog 27 #[.slice j3 iv gh, .slice j6 j2 gw] bq fun ll fs => ∃ (dr : Bool), ll = .returned (.bool dr) ∧
 bif dr then (
 Calls Try.prog 8 #[] fs fun md nx => ∃ (c5 : Bool), md = .returned (.bool c5) ∧
 R (.bool c5) nx) else (
 R (.bool false) fs)))))))))))))))))))

theorem cachettelaw10_JournalGens.eq (a1a : Option Addr) (a1n : Nat) (a1c : Nat) (b2a : Option Addr) (b2n : Nat) (b2c : Nat) (armed3 : Int) (keep4a : Option Addr) (keep4n : Nat) (keep4c : Nat) (same5 : Bool) (R : Value → World → Prop) (w : World) : mfunc Try.prog [(0, [0, 1, 2, 3, 4], [(11, (.one (.int .i64)))]), (2, [0, 1, 2, 3, 4, 12, 14], [(17, (.one (.int .i64)))]), (4, [1, 3, 4, 12, 18, 22], [(23, (.one .slice)), (24, (.one (.int .i64)))])] 6 [.slice a1a a1n a1c, .slice b2a b2n b2c, .int .i64 armed3, .slice keep4a keep4n keep4c, .bool same5] R w = cachettelaw10_JournalGens.M a1a a1n a1c b2a b2n b2c armed3 keep4a keep4n keep4c same5 R w := by kernel_rfl
theorem cachettelaw10_JournalGens.ok (aa : Option Addr) (a6 : Nat) (a5 : Nat) (a8 : Option Addr) (a7 : Nat) (a9 : Nat) (a0 : Int) (a1 : Option Addr) (a2 : Nat) (a3 : Nat) (a4 : Bool) {R : Value → World → Prop} {w : World} (h : cachettelaw10_JournalGens.M aa a6 a5 a8 a7 a9 a0 a1 a2 a3 a4 R w) : Calls Try.prog 6 #[.slice aa a6 a5, .slice a8 a7 a9, .int .i64 a0, .slice a1 a2 a3, .bool a4] w fun e w' => ∃ v, e = .returned v ∧ R v w' :=
  mfunc_ok follows (H := [(0, [0, 1, 2, 3, 4], [(11, (.one (.int .i64)))]), (2, [0, 1, 2, 3, 4, 12, 14], [(17, (.one (.int .i64)))]), (4, [1, 3, 4, 12, 18, 22], [(23, (.one .slice)), (24, (.one (.int .i64)))])]) (args := [.slice aa a6 a5, .slice a8 a7 a9, .int .i64 a0, .slice a1 a2 a3, .bool a4]) (by rw [cachettelaw10_JournalGens.eq]; exact h)

def cachettelaw10_JournalGens.N (nz : Option Addr) (bb : Nat) (oc : Nat) (i6 : Option Addr) (ap : Nat) (ob : Nat) (av : Int) (ah : Option Addr) (a9 : Nat) (ag : Nat) (il : Bool) (R : Value → World → Prop) (w : World) : Prop :=
 ((bb : Int) > 12 →
 Calls Try.prog 8 #[] w fun o7 o8 => ∃ (ex : Bool), o7 = .returned (.bool ex) ∧
 R (.bool ex) o8) ∧
 ((bb : Int) ≤ 12 →
 ((ap : Int) > 12 →
 Calls Try.prog 8 #[] w fun ni ng => ∃ (e6 : Bool), ni = .returned (.bool e6) ∧
 R (.bool e6) ng) ∧
 ((ap : Int) ≤ 12 →
 ((a9 : Int) > 60 →
 Calls Try.prog 8 #[] w fun n3 na => ∃ (ef : Bool), n3 = .returned (.bool ef) ∧
 R (.bool ef) na) ∧
 ((a9 : Int) ≤ 60 →
 ∃ (I0 : Nat → List Value → World → Prop) (oa : Nat), I0 oa [.int .i64 0] w ∧ ∀ (mc : Nat) (bc : World) (ai : Int), I0 mc [.int .i64 ai] bc →
 (-9223372036854775808 : Int) ≤ ((bb : Int) + (ap : Int)) ∧ ((bb : Int) + (ap : Int)) < 9223372036854775808 ∧
 (ai < ((bb : Int) + (ap : Int)) →
 (ai < (bb : Int) →
 ∃ o4 : Addr, nz = some o4 ∧
 0 ≤ (ai : Int) ∧ (ai : Int) < (bb : Int) ∧
 ∃ (n6 : Option Addr) (j0 : Nat) (nj : Nat), bc.cell? (o4.add (Int.toNat ai * 1)) = some (.slice n6 j0 nj) ∧
 ((j0 : Int) > 200 →
 Calls Try.prog 8 #[] bc fun nl n4 => ∃ (eb : Bool), nl = .returned (.bool eb) ∧
 R (.bool eb) n4) ∧
 ((j0 : Int) ≤ 200 →
 (ai ≥ (bb : Int) →
 (-9223372036854775808 : Int) ≤ (ai - (bb : Int)) ∧ (ai - (bb : Int)) < 9223372036854775808 ∧
 ∃ nv : Addr, i6 = some nv ∧
 0 ≤ ((ai - (bb : Int)) : Int) ∧ ((ai - (bb : Int)) : Int) < (ap : Int) ∧
 ∃ (ns : Option Addr) (iz : Nat) (n9 : Nat), bc.cell? (nv.add (Int.toNat (ai - (bb : Int)) * 1)) = some (.slice ns iz n9) ∧
 ((iz : Int) > 200 →
 Calls Try.prog 8 #[] bc fun ne nh => ∃ (e5 : Bool), ne = .returned (.bool e5) ∧
 R (.bool e5) nh) ∧
 ((iz : Int) ≤ 200 →
 (-9223372036854775808 : Int) ≤ (ai + 1) ∧ (ai + 1) < 9223372036854775808 ∧
 ∃ ny, ny < mc ∧ I0 ny [.int .i64 (ai + 1)] bc)) ∧
 (ai < (bb : Int) →
 (-9223372036854775808 : Int) ≤ (ai + 1) ∧ (ai + 1) < 9223372036854775808 ∧
 ∃ nu, nu < mc ∧ I0 nu [.int .i64 (ai + 1)] bc))) ∧
 ((bb : Int) ≤ ai →
 (ai ≥ (bb : Int) →
 (-9223372036854775808 : Int) ≤ (ai - (bb : Int)) ∧ (ai - (bb : Int)) < 9223372036854775808 ∧
 ∃ o5 : Addr, i6 = some o5 ∧
 0 ≤ ((ai - (bb : Int)) : Int) ∧ ((ai - (bb : Int)) : Int) < (ap : Int) ∧
 ∃ (n5 : Option Addr) (iy : Nat) (nt : Nat), bc.cell? (o5.add (Int.toNat (ai - (bb : Int)) * 1)) = some (.slice n5 iy nt) ∧
 ((iy : Int) > 200 →
 Calls Try.prog 8 #[] bc fun n0 nd => ∃ (ea : Bool), n0 = .returned (.bool ea) ∧
 R (.bool ea) nd) ∧
 ((iy : Int) ≤ 200 →
 (-9223372036854775808 : Int) ≤ (ai + 1) ∧ (ai + 1) < 9223372036854775808 ∧
 ∃ o0, o0 < mc ∧ I0 o0 [.int .i64 (ai + 1)] bc)) ∧
 (ai < (bb : Int) →
 (-9223372036854775808 : Int) ≤ (ai + 1) ∧ (ai + 1) < 9223372036854775808 ∧
 ∃ nx, nx < mc ∧ I0 nx [.int .i64 (ai + 1)] bc))) ∧
 (((bb : Int) + (ap : Int)) ≤ ai →
 Calls Try.prog 19 #[.int .i64 60] bc fun nm nb => ∃ (a4 : Option Addr) (mh : Int), nm = .returned (.tuple #[.pointer a4, .int .i64 mh]) ∧
 Calls Try.prog 20 #[.pointer a4, .int .i64 0, .int .i64 60, .int .u32 7] nb fun nf lk => ∃ (dz : Option Addr) (f0 : Option Addr) (fj : Nat) (fi : Nat) (c8 : Int), nf = .returned (.tuple #[.pointer dz, .slice f0 fj fi, .int .i64 c8]) ∧
 (c8 ≠ 0 →
 R (.bool false) lk) ∧
 (c8 = 0 →
 ∃ (I2 : Nat → List Value → World → Prop) (o6 : Nat), I2 o6 [.int .i64 0] lk ∧ ∀ (o1 : Nat) (fa : World) (fp : Int), I2 o1 [.int .i64 fp] fa →
 (fp < (bb : Int) →
 ∃ nw : Addr, nz = some nw ∧
 0 ≤ (fp : Int) ∧ (fp : Int) < (bb : Int) ∧
 ∃ (kj : Option Addr) (lo : Nat) (m7 : Nat), fa.cell? (nw.add (Int.toNat fp * 1)) = some (.slice kj lo m7) ∧
 Calls Try.prog 23 #[.pointer dz, .slice kj lo m7] fa fun nq n1 => ∃ (ej : Int), nq = .returned (.int .i64 ej) ∧
 (-9223372036854775808 : Int) ≤ (fp + 1) ∧ (fp + 1) < 9223372036854775808 ∧
 ∃ o2, o2 < o1 ∧ I2 o2 [.int .i64 (fp + 1)] n1) ∧
 ((bb : Int) ≤ fp →
 (il = true →
 Calls Try.prog 20 #[.pointer a4, .int .i64 0, .int .i64 60, .int .u32 8] fa fun nr m5 => ∃ (fq : Option Addr) (f1 : Option Addr) (bj : Nat) (f5 : Nat) (fs : Int), nr = .returned (.tuple #[.pointer fq, .slice f1 bj f5, .int .i64 fs]) ∧
 ((bj : Int) ≠ 0 →
 R (.bool false) m5) ∧
 ((bj : Int) = 0 →
 Calls Try.prog 26 #[.pointer a4, .int .i64 0, .int .i64 60, .int .u32 7] m5 fun n2 j1 => ∃ (bk : Option Addr) (bp : Int), n2 = .returned (.tuple #[.pointer bk, .int .i64 bp]) ∧
 (bp ≠ 0 →
 R (.bool false) j1) ∧
 (bp = 0 →
 (av ≥ 0 →
 Calls Try.prog 21 #[.pointer a4, .int .i64 av] j1 fun mz nc => ∃ (l3 : Int), mz = .returned (.int .i64 l3) ∧
 ∃ (I4 : Nat → List Value → World → Prop) (o9 : Nat), I4 o9 [.slice none 0 0, .int .i64 0] nc ∧ ∀ (o3 : Nat) (fr : World) (be : Option Addr) (a3 : Nat) (bf : Nat) (ei : Int), I4 o3 [.slice be a3 bf, .int .i64 ei] fr →
 (ei < (ap : Int) →
 ∃ np : Addr, i6 = some np ∧
 0 ≤ (ei : Int) ∧ (ei : Int) < (ap : Int) ∧
 ∃ (l0 : Option Addr) (mx : Nat) (ks : Nat), fr.cell? (np.add (Int.toNat ei * 1)) = some (.slice l0 mx ks) ∧
 Calls Try.prog 23 #[.pointer bk, .slice l0 mx ks] fr fun nk e4 => ∃ (bw : Int), nk = .returned (.int .i64 bw) ∧
 (bw = 0 →
 0 ≤ (ei : Int) ∧ (ei : Int) < (ap : Int) ∧
 ∃ (gn : Option Addr) (gl : Nat) (gh : Nat), e4.cell? (np.add (Int.toNat ei * 1)) = some (.slice gn gl gh) ∧
 ∀ (e9 : World) (fo : Nat), Ext no e4 e9 → Blk e9 fo 23 [.slice gn gl gh] → e4.heap.size ≤ fo → fo < e9.heap.size →
 ∃ (g3 : Option Addr) (gx : Nat) (iw : Nat) (gf : World), (Builtin.append_ #[25, 25] 25 #[.slice be a3 bf, .slice (some (blk fo)) 1 1]).run Try.prog e9 = .ok (.slice g3 gx iw) gf ∧
 (-9223372036854775808 : Int) ≤ (ei + 1) ∧ (ei + 1) < 9223372036854775808 ∧
 ∃ lx, lx < o3 ∧ I4 lx [.slice g3 gx iw, .int .i64 (ei + 1)] gf) ∧
 (bw ≠ 0 →
 Calls Try.prog 24 #[.pointer a4] e4 fun k4 es => ∃ (cd : Bool), k4 = .returned (.bool cd) ∧
 (cd = false →
 Calls Try.prog 8 #[] es fun k1 jt => ∃ (d3 : Bool), k1 = .returned (.bool d3) ∧
 R (.bool d3) jt) ∧
 (cd = true →
 ((a3 : Int) = 0 →
 Calls Try.prog 8 #[] es fun m9 jg => ∃ (cw : Bool), m9 = .returned (.bool cw) ∧
 R (.bool cw) jg) ∧
 ((a3 : Int) ≠ 0 →
 Calls Try.prog 25 #[.pointer a4, .slice ah a9 ag] es fun mo kb => ∃ (dw : Int), mo = .returned (.int .i64 dw) ∧
 Calls Try.prog 20 #[.pointer a4, .int .i64 0, .int .i64 60, .int .u32 7] kb fun j9 eq => ∃ (fk : Option Addr) (c4 : Option Addr) (ac : Nat) (az : Nat) (bg : Int), j9 = .returned (.tuple #[.pointer fk, .slice c4 ac az, .int .i64 bg]) ∧
 (bg ≠ 0 →
 R (.bool false) eq) ∧
 (bg = 0 →
 ((ac : Int) < (a3 : Int) →
 R (.bool false) eq) ∧
 ((a3 : Int) ≤ (ac : Int) →
 (0 : Int) ≤ ((a3 : Int) : Int) ∧ ((a3 : Int) : Int) ≤ (az : Int) ∧ 
 Calls Try.prog 11 #[.slice c4 (Int.toNat (a3 : Int)) az, .slice be a3 bf] eq fun m1 fd => ∃ (bl : Bool), m1 = .returned (.bool bl) ∧
 (bl = false →
 R (.bool false) fd) ∧
 (bl = true →
 ((ac : Int) = (a3 : Int) →
 ∀ (dc : World), Ext no fd dc →
 Calls Try.prog 8 #[] dc fun ka je => ∃ (dh : Bool), ka = .returned (.bool dh) ∧
 R (.bool dh) je) ∧
 ((ac : Int) ≠ (a3 : Int) →
 ∀ (dc : World), Ext no fd dc →
 Calls Try.prog 8 #[] dc fun kf lc => ∃ (da : Bool), kf = .returned (.bool da) ∧
 R (.bool da) lc)))))))) ∧
 ((ap : Int) ≤ ei →
 Calls Try.prog 24 #[.pointer a4] fr fun js ez => ∃ (cf : Bool), js = .returned (.bool cf) ∧
 (cf = false →
 Calls Try.prog 8 #[] ez fun ms ky => ∃ (cm : Bool), ms = .returned (.bool cm) ∧
 R (.bool cm) ky) ∧
 (cf = true →
 ((a3 : Int) = 0 →
 Calls Try.prog 8 #[] ez fun lz kp => ∃ (d0 : Bool), lz = .returned (.bool d0) ∧
 R (.bool d0) kp) ∧
 ((a3 : Int) ≠ 0 →
 Calls Try.prog 25 #[.pointer a4, .slice ah a9 ag] ez fun jn li => ∃ (dv : Int), jn = .returned (.int .i64 dv) ∧
 Calls Try.prog 20 #[.pointer a4, .int .i64 0, .int .i64 60, .int .u32 7] li fun ml ek => ∃ (f3 : Option Addr) (c1 : Option Addr) (ad : Nat) (aq : Nat) (bi : Int), ml = .returned (.tuple #[.pointer f3, .slice c1 ad aq, .int .i64 bi]) ∧
 (bi ≠ 0 →
 R (.bool false) ek) ∧
 (bi = 0 →
 ((ad : Int) < (a3 : Int) →
 R (.bool false) ek) ∧
 ((a3 : Int) ≤ (ad : Int) →
 (0 : Int) ≤ ((a3 : Int) : Int) ∧ ((a3 : Int) : Int) ≤ (aq : Int) ∧ 
 Calls Try.prog 11 #[.slice c1 (Int.toNat (a3 : Int)) aq, .slice be a3 bf] ek fun jz ep => ∃ (c0 : Bool), jz = .returned (.bool c0) ∧
 (c0 = false →
 R (.bool false) ep) ∧
 (c0 = true →
 ((ad : Int) = (a3 : Int) →
 ∀ (d2 : World), Ext no ep d2 →
 Calls Try.prog 8 #[] d2 fun m8 l5 => ∃ (cv : Bool), m8 = .returned (.bool cv) ∧
 R (.bool cv) l5) ∧
 ((ad : Int) ≠ (a3 : Int) →
 ∀ (d2 : World), Ext no ep d2 →
 Calls Try.prog 8 #[] d2 fun lp jq => ∃ (ct : Bool), lp = .returned (.bool ct) ∧
 R (.bool ct) jq)))))))) ∧
 (av < 0 →
 ∃ (I4 : Nat → List Value → World → Prop) (nn : Nat), I4 nn [.slice none 0 0, .int .i64 0] j1 ∧ ∀ (kx : Nat) (e3 : World) (al : Option Addr) (a2 : Nat) (am : Nat) (bd : Int), I4 kx [.slice al a2 am, .int .i64 bd] e3 →
 (bd < (ap : Int) →
 ∃ j3 : Addr, i6 = some j3 ∧
 0 ≤ (bd : Int) ∧ (bd : Int) < (ap : Int) ∧
 ∃ (i4 : Option Addr) (i3 : Nat) (gw : Nat), e3.cell? (j3.add (Int.toNat bd * 1)) = some (.slice i4 i3 gw) ∧
 Calls Try.prog 23 #[.pointer bk, .slice i4 i3 gw] e3 fun mb ed => ∃ (b8 : Int), mb = .returned (.int .i64 b8) ∧
 (b8 = 0 →
 0 ≤ (bd : Int) ∧ (bd : Int) < (ap : Int) ∧
 ∃ (fz : Option Addr) (ii : Nat) (ie : Nat), ed.cell? (j3.add (Int.toNat bd * 1)) = some (.slice fz ii ie) ∧
 ∀ (ee : World) (fu : Nat), Ext no ed ee → Blk ee fu 23 [.slice fz ii ie] → ed.heap.size ≤ fu → fu < ee.heap.size →
 ∃ (iv : Option Addr) (i5 : Nat) (g7 : Nat) (gd : World), (Builtin.append_ #[25, 25] 25 #[.slice al a2 am, .slice (some (blk fu)) 1 1]).run Try.prog ee = .ok (.slice iv i5 g7) gd ∧
 (-9223372036854775808 : Int) ≤ (bd + 1) ∧ (bd + 1) < 9223372036854775808 ∧
 ∃ jr, jr < kx ∧ I4 jr [.slice iv i5 g7, .int .i64 (bd + 1)] gd) ∧
 (b8 ≠ 0 →
 Calls Try.prog 24 #[.pointer a4] ed fun l1 fl => ∃ (ca : Bool), l1 = .returned (.bool ca) ∧
 (ca = false →
 Calls Try.prog 8 #[] fl fun mj md => ∃ (d4 : Bool), mj = .returned (.bool d4) ∧
 R (.bool d4) md) ∧
 (ca = true →
 ((a2 : Int) = 0 →
 Calls Try.prog 8 #[] fl fun jl jj => ∃ (d6 : Bool), jl = .returned (.bool d6) ∧
 R (.bool d6) jj) ∧
 ((a2 : Int) ≠ 0 →
 Calls Try.prog 25 #[.pointer a4, .slice ah a9 ag] fl fun jh kd => ∃ (dr : Int), jh = .returned (.int .i64 dr) ∧
 Calls Try.prog 20 #[.pointer a4, .int .i64 0, .int .i64 60, .int .u32 7] kd fun k6 et => ∃ (f6 : Option Addr) (c3 : Option Addr) (aa : Nat) (b6 : Nat) (bx : Int), k6 = .returned (.tuple #[.pointer f6, .slice c3 aa b6, .int .i64 bx]) ∧
 (bx ≠ 0 →
 R (.bool false) et) ∧
 (bx = 0 →
 ((aa : Int) < (a2 : Int) →
 R (.bool false) et) ∧
 ((a2 : Int) ≤ (aa : Int) →
 (0 : Int) ≤ ((a2 : Int) : Int) ∧ ((a2 : Int) : Int) ≤ (b6 : Int) ∧ 
 Calls Try.prog 11 #[.slice c3 (Int.toNat (a2 : Int)) b6, .slice al a2 am] et fun jo fh => ∃ (bm : Bool), jo = .returned (.bool bm) ∧
 (bm = false →
 R (.bool false) fh) ∧
 (bm = true →
 ((aa : Int) = (a2 : Int) →
 ∀ (cu : World), Ext no fh cu →
 Calls Try.prog 8 #[] cu fun jy mt => ∃ (d8 : Bool), jy = .returned (.bool d8) ∧
 R (.bool d8) mt) ∧
 ((aa : Int) ≠ (a2 : Int) →
 ∀ (cu : World), Ext no fh cu →
 Calls Try.prog 8 #[] cu fun lv ko => ∃ (cy : Bool), lv = .returned (.bool cy) ∧
 R (.bool cy) ko)))))))) ∧
 ((ap : Int) ≤ bd →
 Calls Try.prog 24 #[.pointer a4] e3 fun mf f4 => ∃ (cb : Bool), mf = .returned (.bool cb) ∧
 (cb = false →
 Calls Try.prog 8 #[] f4 fun mi k8 => ∃ (dl : Bool), mi = .returned (.bool dl) ∧
 R (.bool dl) k8) ∧
 (cb = true →
 ((a2 : Int) = 0 →
 Calls Try.prog 8 #[] f4 fun l8 jd => ∃ (d1 : Bool), l8 = .returned (.bool d1) ∧
 R (.bool d1) jd) ∧
 ((a2 : Int) ≠ 0 →
 Calls Try.prog 25 #[.pointer a4, .slice ah a9 ag] f4 fun me mv => ∃ (du : Int), me = .returned (.int .i64 du) ∧
 Calls Try.prog 20 #[.pointer a4, .int .i64 0, .int .i64 60, .int .u32 7] mv fun kv ey => ∃ (el : Option Addr) (c2 : Option Addr) (ab : Nat) (b1 : Nat) (bh : Int), kv = .returned (.tuple #[.pointer el, .slice c2 ab b1, .int .i64 bh]) ∧
 (bh ≠ 0 →
 R (.bool false) ey) ∧
 (bh = 0 →
 ((ab : Int) < (a2 : Int) →
 R (.bool false) ey) ∧
 ((a2 : Int) ≤ (ab : Int) →
 (0 : Int) ≤ ((a2 : Int) : Int) ∧ ((a2 : Int) : Int) ≤ (b1 : Int) ∧ 
 Calls Try.prog 11 #[.slice c2 (Int.toNat (a2 : Int)) b1, .slice al a2 am] ey fun kq f9 => ∃ (bv : Bool), kq = .returned (.bool bv) ∧
 (bv = false →
 R (.bool false) f9) ∧
 (bv = true →
 ((ab : Int) = (a2 : Int) →
 ∀ (dq : World), Ext no f9 dq →
 Calls Try.prog 8 #[] dq fun kk jp => ∃ (dp : Bool), kk = .returned (.bool dp) ∧
 R (.bool dp) jp) ∧
 ((ab : Int) ≠ (a2 : Int) →
 ∀ (dq : World), Ext no f9 dq →
 Calls Try.prog 8 #[] dq fun mm lr => ∃ (ck : Bool), mm = .returned (.bool ck) ∧
 R (.bool ck) lr))))))))))) ∧
 (il = false →
 Calls Try.prog 20 #[.pointer a4, .int .i64 0, .int .i64 60, .int .u32 8] fa fun mg ib => ∃ (f8 : Option Addr) (eh : Option Addr) (b2 : Nat) (eg : Nat) (fe : Int), mg = .returned (.tuple #[.pointer f8, .slice eh b2 eg, .int .i64 fe]) ∧
 ((b2 : Int) ≠ 0 →
 R (.bool false) ib) ∧
 ((b2 : Int) = 0 →
 Calls Try.prog 26 #[.pointer a4, .int .i64 0, .int .i64 60, .int .u32 8] ib fun ju f2 => ∃ (b3 : Option Addr) (ar : Int), ju = .returned (.tuple #[.pointer b3, .int .i64 ar]) ∧
 (ar ≠ 0 →
 R (.bool false) f2) ∧
 (ar = 0 →
 (av ≥ 0 →
 Calls Try.prog 21 #[.pointer a4, .int .i64 av] f2 fun my mn => ∃ (j2 : Int), my = .returned (.int .i64 j2) ∧
 ∃ (I4 : Nat → List Value → World → Prop) (n8 : Nat), I4 n8 [.slice none 0 0, .int .i64 0] mn ∧ ∀ (kr : Nat) (e1 : World) (an : Option Addr) (a0 : Nat) (ao : Nat) (af : Int), I4 kr [.slice an a0 ao, .int .i64 af] e1 →
 (af < (ap : Int) →
 ∃ ft : Addr, i6 = some ft ∧
 0 ≤ (af : Int) ∧ (af : Int) < (ap : Int) ∧
 ∃ (gc : Option Addr) (g4 : Nat) (gk : Nat), e1.cell? (ft.add (Int.toNat af * 1)) = some (.slice gc g4 gk) ∧
 Calls Try.prog 23 #[.pointer b3, .slice gc g4 gk] e1 fun ja e0 => ∃ (ba : Int), ja = .returned (.int .i64 ba) ∧
 (ba = 0 →
 0 ≤ (af : Int) ∧ (af : Int) < (ap : Int) ∧
 ∃ (g1 : Option Addr) (ip : Nat) (g6 : Nat), e0.cell? (ft.add (Int.toNat af * 1)) = some (.slice g1 ip g6) ∧
 ∀ (e7 : World) (fm : Nat), Ext no e0 e7 → Blk e7 fm 23 [.slice g1 ip g6] → e0.heap.size ≤ fm → fm < e7.heap.size →
 ∃ (ig : Option Addr) (g5 : Nat) (i9 : Nat) (fx : World), (Builtin.append_ #[25, 25] 25 #[.slice an a0 ao, .slice (some (blk fm)) 1 1]).run Try.prog e7 = .ok (.slice ig g5 i9) fx ∧
 (-9223372036854775808 : Int) ≤ (af + 1) ∧ (af + 1) < 9223372036854775808 ∧
 ∃ j6, j6 < kr ∧ I4 j6 [.slice ig g5 i9, .int .i64 (af + 1)] fx) ∧
 (ba ≠ 0 →
 Calls Try.prog 24 #[.pointer a4] e0 fun j7 er => ∃ (c6 : Bool), j7 = .returned (.bool c6) ∧
 (c6 = false →
 Calls Try.prog 8 #[] er fun lf kl => ∃ (dn : Bool), lf = .returned (.bool dn) ∧
 R (.bool dn) kl) ∧
 (c6 = true →
 ((a0 : Int) = 0 →
 Calls Try.prog 8 #[] er fun kh jw => ∃ (dj : Bool), kh = .returned (.bool dj) ∧
 R (.bool dj) jw) ∧
 ((a0 : Int) ≠ 0 →
 Calls Try.prog 25 #[.pointer a4, .slice ah a9 ag] er fun lj l4 => ∃ (dt : Int), lj = .returned (.int .i64 dt) ∧
 Calls Try.prog 20 #[.pointer a4, .int .i64 0, .int .i64 60, .int .u32 8] l4 fun kg fc => ∃ (en : Option Addr) (b5 : Option Addr) (a6 : Nat) (b9 : Nat) (bo : Int), kg = .returned (.tuple #[.pointer en, .slice b5 a6 b9, .int .i64 bo]) ∧
 (bo ≠ 0 →
 R (.bool false) fc) ∧
 (bo = 0 →
 ((a6 : Int) < (a0 : Int) →
 R (.bool false) fc) ∧
 ((a0 : Int) ≤ (a6 : Int) →
 (0 : Int) ≤ ((a0 : Int) : Int) ∧ ((a0 : Int) : Int) ≤ (b9 : Int) ∧ 
 Calls Try.prog 11 #[.slice b5 (Int.toNat (a0 : Int)) b9, .slice an a0 ao] fc fun k9 co => ∃ (bs : Bool), k9 = .returned (.bool bs) ∧
 (bs = false →
 R (.bool false) co) ∧
 (bs = true →
 ((a6 : Int) = (a0 : Int) →
 ∀ (cl : World), Ext no co cl →
 Calls Try.prog 8 #[] cl fun mu l7 => ∃ (cs : Bool), mu = .returned (.bool cs) ∧
 R (.bool cs) l7) ∧
 ((a6 : Int) ≠ (a0 : Int) →
 ∃ lh : Addr, b5 = some lh ∧
 0 ≤ ((a0 : Int) : Int) ∧ ((a0 : Int) : Int) < (a6 : Int) ∧
 ∃ (gi : Option Addr) (gb : Nat) (iu : Nat), co.cell? (lh.add (Int.toNat (a0 : Int) * 1)) = some (.slice gi gb iu) ∧
 0 ≤ (af : Int) ∧ (af : Int) < (ap : Int) ∧
 ∃ (ix : Option Addr) (gy : Nat) (i7 : Nat), co.cell? (ft.add (Int.toNat af * 1)) = some (.slice ix gy i7) ∧
 ∀ (cl : World), Ext no co cl →
 Calls Try.prog 27 #[.slice gi gb iu, .slice ix gy i7] cl fun lq ge => ∃ (ch : Bool), lq = .returned (.bool ch) ∧
 (ch = true →
 Calls Try.prog 8 #[] ge fun k7 lm => ∃ (dd : Bool), k7 = .returned (.bool dd) ∧
 R (.bool dd) lm) ∧
 (ch = false →
 R (.bool false) ge))))))))) ∧
 ((ap : Int) ≤ af →
 Calls Try.prog 24 #[.pointer a4] e1 fun jb ff => ∃ (c5 : Bool), jb = .returned (.bool c5) ∧
 (c5 = false →
 Calls Try.prog 8 #[] ff fun kt kc => ∃ (cz : Bool), kt = .returned (.bool cz) ∧
 R (.bool cz) kc) ∧
 (c5 = true →
 ((a0 : Int) = 0 →
 Calls Try.prog 8 #[] ff fun l6 k0 => ∃ (dk : Bool), l6 = .returned (.bool dk) ∧
 R (.bool dk) k0) ∧
 ((a0 : Int) ≠ 0 →
 Calls Try.prog 25 #[.pointer a4, .slice ah a9 ag] ff fun ma m0 => ∃ (ds : Int), ma = .returned (.int .i64 ds) ∧
 Calls Try.prog 20 #[.pointer a4, .int .i64 0, .int .i64 60, .int .u32 8] m0 fun j8 ew => ∃ (f7 : Option Addr) (b4 : Option Addr) (a7 : Nat) (b7 : Nat) (bz : Int), j8 = .returned (.tuple #[.pointer f7, .slice b4 a7 b7, .int .i64 bz]) ∧
 (bz ≠ 0 →
 R (.bool false) ew) ∧
 (bz = 0 →
 ((a7 : Int) < (a0 : Int) →
 R (.bool false) ew) ∧
 ((a0 : Int) ≤ (a7 : Int) →
 (0 : Int) ≤ ((a0 : Int) : Int) ∧ ((a0 : Int) : Int) ≤ (b7 : Int) ∧ 
 Calls Try.prog 11 #[.slice b4 (Int.toNat (a0 : Int)) b7, .slice an a0 ao] ew fun k3 dm => ∃ (bq : Bool), k3 = .returned (.bool bq) ∧
 (bq = false →
 R (.bool false) dm) ∧
 (bq = true →
 ((a7 : Int) = (a0 : Int) →
 ∀ (df : World), Ext no dm df →
 Calls Try.prog 8 #[] df fun ln mr => ∃ (cx : Bool), ln = .returned (.bool cx) ∧
 R (.bool cx) mr) ∧
 ((a7 : Int) ≠ (a0 : Int) →
 ∃ m4 : Addr, b4 = some m4 ∧
 0 ≤ ((a0 : Int) : Int) ∧ ((a0 : Int) : Int) < (a7 : Int) ∧
 ∃ (ga : Option Addr) (ij : Nat) (ic : Nat), dm.cell? (m4.add (Int.toNat (a0 : Int) * 1)) = some (.slice ga ij ic) ∧
 ∃ mk : Addr, i6 = some mk ∧
 0 ≤ (af : Int) ∧ (af : Int) < (ap : Int) ∧
 ∃ (gv : Option Addr) (g9 : Nat) (i2 : Nat), dm.cell? (mk.add (Int.toNat af * 1)) = some (.slice gv g9 i2) ∧
 ∀ (df : World), Ext no dm df →
 Calls Try.prog 27 #[.slice ga ij ic, .slice gv g9 i2] df fun kz g8 => ∃ (ce : Bool), kz = .returned (.bool ce) ∧
 (ce = true →
 Calls Try.prog 8 #[] g8 fun l9 k2 => ∃ (db : Bool), l9 = .returned (.bool db) ∧
 R (.bool db) k2) ∧
 (ce = false →
 R (.bool false) g8))))))))) ∧
 (av < 0 →
 ∃ (I4 : Nat → List Value → World → Prop) (n7 : Nat), I4 n7 [.slice none 0 0, .int .i64 0] f2 ∧ ∀ (m6 : Nat) (ec : World) (ak : Option Addr) (a1 : Nat) (aj : Nat) (ae : Int), I4 m6 [.slice ak a1 aj, .int .i64 ae] ec →
 (ae < (ap : Int) →
 ∃ fw : Addr, i6 = some fw ∧
 0 ≤ (ae : Int) ∧ (ae : Int) < (ap : Int) ∧
 ∃ (fy : Option Addr) (gp : Nat) (ia : Nat), ec.cell? (fw.add (Int.toNat ae * 1)) = some (.slice fy gp ia) ∧
 Calls Try.prog 23 #[.pointer b3, .slice fy gp ia] ec fun lu e2 => ∃ (aw : Int), lu = .returned (.int .i64 aw) ∧
 (aw = 0 →
 0 ≤ (ae : Int) ∧ (ae : Int) < (ap : Int) ∧
 ∃ (i1 : Option Addr) (iq : Nat) (gj : Nat), e2.cell? (fw.add (Int.toNat ae * 1)) = some (.slice i1 iq gj) ∧
 ∀ (e8 : World) (fv : Nat), Ext no e2 e8 → Blk e8 fv 23 [.slice i1 iq gj] → e2.heap.size ≤ fv → fv < e8.heap.size →
 ∃ (gt : Option Addr) (gm : Nat) (gu : Nat) (gg : World), (Builtin.append_ #[25, 25] 25 #[.slice ak a1 aj, .slice (some (blk fv)) 1 1]).run Try.prog e8 = .ok (.slice gt gm gu) gg ∧
 (-9223372036854775808 : Int) ≤ (ae + 1) ∧ (ae + 1) < 9223372036854775808 ∧
 ∃ m2, m2 < m6 ∧ I4 m2 [.slice gt gm gu, .int .i64 (ae + 1)] gg) ∧
 (aw ≠ 0 →
 Calls Try.prog 24 #[.pointer a4] e2 fun mq em => ∃ (cg : Bool), mq = .returned (.bool cg) ∧
 (cg = false →
 Calls Try.prog 8 #[] em fun mw ku => ∃ (cp : Bool), mw = .returned (.bool cp) ∧
 R (.bool cp) ku) ∧
 (cg = true →
 ((a1 : Int) = 0 →
 Calls Try.prog 8 #[] em fun lg km => ∃ (de : Bool), lg = .returned (.bool de) ∧
 R (.bool de) km) ∧
 ((a1 : Int) ≠ 0 →
 Calls Try.prog 25 #[.pointer a4, .slice ah a9 ag] em fun jf ji => ∃ (dx : Int), jf = .returned (.int .i64 dx) ∧
 Calls Try.prog 20 #[.pointer a4, .int .i64 0, .int .i64 60, .int .u32 8] ji fun kn ev => ∃ (eo : Option Addr) (au : Option Addr) (a5 : Nat) (b0 : Nat) (bu : Int), kn = .returned (.tuple #[.pointer eo, .slice au a5 b0, .int .i64 bu]) ∧
 (bu ≠ 0 →
 R (.bool false) ev) ∧
 (bu = 0 →
 ((a5 : Int) < (a1 : Int) →
 R (.bool false) ev) ∧
 ((a1 : Int) ≤ (a5 : Int) →
 (0 : Int) ≤ ((a1 : Int) : Int) ∧ ((a1 : Int) : Int) ≤ (b0 : Int) ∧ 
 Calls Try.prog 11 #[.slice au (Int.toNat (a1 : Int)) b0, .slice ak a1 aj] ev fun lb cq => ∃ (br : Bool), lb = .returned (.bool br) ∧
 (br = false →
 R (.bool false) cq) ∧
 (br = true →
 ((a5 : Int) = (a1 : Int) →
 ∀ (d5 : World), Ext no cq d5 →
 Calls Try.prog 8 #[] d5 fun la j4 => ∃ (dg : Bool), la = .returned (.bool dg) ∧
 R (.bool dg) j4) ∧
 ((a5 : Int) ≠ (a1 : Int) →
 ∃ kw : Addr, au = some kw ∧
 0 ≤ ((a1 : Int) : Int) ∧ ((a1 : Int) : Int) < (a5 : Int) ∧
 ∃ (it : Option Addr) (i0 : Nat) (ik : Nat), cq.cell? (kw.add (Int.toNat (a1 : Int) * 1)) = some (.slice it i0 ik) ∧
 0 ≤ (ae : Int) ∧ (ae : Int) < (ap : Int) ∧
 ∃ (io : Option Addr) (ih : Nat) (gr : Nat), cq.cell? (fw.add (Int.toNat ae * 1)) = some (.slice io ih gr) ∧
 ∀ (d5 : World), Ext no cq d5 →
 Calls Try.prog 27 #[.slice it i0 ik, .slice io ih gr] d5 fun lw gz => ∃ (c9 : Bool), lw = .returned (.bool c9) ∧
 (c9 = true →
 Calls Try.prog 8 #[] gz fun jm le => ∃ (d9 : Bool), jm = .returned (.bool d9) ∧
 R (.bool d9) le) ∧
 (c9 = false →
 R (.bool false) gz))))))))) ∧
 ((ap : Int) ≤ ae →
 Calls Try.prog 24 #[.pointer a4] ec fun m3 fb => ∃ (c7 : Bool), m3 = .returned (.bool c7) ∧
 (c7 = false →
 Calls Try.prog 8 #[] fb fun mp ki => ∃ (cr : Bool), mp = .returned (.bool cr) ∧
 R (.bool cr) ki) ∧
 (c7 = true →
 ((a1 : Int) = 0 →
 Calls Try.prog 8 #[] fb fun jx jc => ∃ (d7 : Bool), jx = .returned (.bool d7) ∧
 R (.bool d7) jc) ∧
 ((a1 : Int) ≠ 0 →
 Calls Try.prog 25 #[.pointer a4, .slice ah a9 ag] fb fun jv lt => ∃ (dy : Int), jv = .returned (.int .i64 dy) ∧
 Calls Try.prog 20 #[.pointer a4, .int .i64 0, .int .i64 60, .int .u32 8] lt fun k5 eu => ∃ (fg : Option Addr) (ax : Option Addr) (a8 : Nat) (ay : Nat) (bt : Int), k5 = .returned (.tuple #[.pointer fg, .slice ax a8 ay, .int .i64 bt]) ∧
 (bt ≠ 0 →
 R (.bool false) eu) ∧
 (bt = 0 →
 ((a8 : Int) < (a1 : Int) →
 R (.bool false) eu) ∧
 ((a1 : Int) ≤ (a8 : Int) →
 (0 : Int) ≤ ((a1 : Int) : Int) ∧ ((a1 : Int) : Int) ≤ (ay : Int) ∧ 
 Calls Try.prog 11 #[.slice ax (Int.toNat (a1 : Int)) ay, .slice ak a1 aj] eu fun jk di => ∃ (bn : Bool), jk = .returned (.bool bn) ∧
 (bn = false →
 R (.bool false) di) ∧
 (bn = true →
 ((a8 : Int) = (a1 : Int) →
 ∀ (cn : World), Ext no di cn →
 Calls Try.prog 8 #[] cn fun l2 ld => ∃ (cj : Bool), l2 = .returned (.bool cj) ∧
 R (.bool cj) ld) ∧
 ((a8 : Int) ≠ (a1 : Int) →
 ∃ ke : Addr, ax = some ke ∧
 0 ≤ ((a1 : Int) : Int) ∧ ((a1 : Int) : Int) < (a8 : Int) ∧
 ∃ (g2 : Option Addr) (g0 : Nat) (im : Nat), di.cell? (ke.add (Int.toNat (a1 : Int) * 1)) = some (.slice g2 g0 im) ∧
 ∃ ll : Addr, i6 = some ll ∧
 0 ≤ (ae : Int) ∧ (ae : Int) < (ap : Int) ∧
 ∃ (gq : Option Addr) (gs : Nat) (ir : Nat), di.cell? (ll.add (Int.toNat ae * 1)) = some (.slice gq gs ir) ∧
 ∀ (cn : World), Ext no di cn →
 Calls Try.prog 27 #[.slice g2 g0 im, .slice gq gs ir] cn fun ls i8 => ∃ (cc : Bool), ls = .returned (.bool cc) ∧
 (cc = true →
 Calls Try.prog 8 #[] i8 fun j5 ly => ∃ (ci : Bool), j5 = .returned (.bool ci) ∧
 R (.bool ci) ly) ∧
 (cc = false →
 R (.bool false) i8))))))))))))))))))

theorem cachettelaw10_JournalGens.up (oe : Option Addr) (q0 : Nat) (pw : Nat) (pr : Option Addr) (pc : Nat) (p8 : Nat) (bx : Int) (dh : Option Addr) (cu : Nat) (c0 : Nat) (ey : Bool) {R : Value → World → Prop} {w : World} (h : cachettelaw10_JournalGens.N oe q0 pw pr pc p8 bx dh cu c0 ey R w) : cachettelaw10_JournalGens.M oe q0 pw pr pc p8 bx dh cu c0 ey R w := by
  unfold cachettelaw10_JournalGens.M
  unfold cachettelaw10_JournalGens.N at h
  refine bif_of (fun c6 => ?_) (fun c6 => ?_)
  · have h := h.1 (of_decide_eq_true c6)
    refine h.mono fun t2 t3 h => ?_
    obtain ⟨ft, he, h⟩ := h
    refine ⟨ft, he, ?_⟩
    exact h
  · have h := h.2 (Int.not_lt.1 (of_decide_eq_false c6))
    refine bif_of (fun lb => ?_) (fun lb => ?_)
    · have h := h.1 (of_decide_eq_true lb)
      refine h.mono fun sl sc h => ?_
      obtain ⟨e6, he, h⟩ := h
      refine ⟨e6, he, ?_⟩
      exact h
    · have h := h.2 (Int.not_lt.1 (of_decide_eq_false lb))
      refine bif_of (fun l0 => ?_) (fun l0 => ?_)
      · have h := h.1 (of_decide_eq_true l0)
        refine h.mono fun qw s2 h => ?_
        obtain ⟨ek, he, h⟩ := h
        refine ⟨ek, he, ?_⟩
        exact h
      · have h := h.2 (Int.not_lt.1 (of_decide_eq_false l0))
        obtain ⟨I0, sz, h0, h⟩ := h
        refine ⟨I0, sz, h0, fun sr lf qs hI => ?_⟩
        have h := h sr lf qs hI
        obtain ⟨a2, a3, h⟩ := h
        try rw [w64 a2 a3]
        refine bif_of (fun l9 => ?_) (fun l9 => ?_)
        · have h := h.1 (of_decide_eq_true l9)
          refine bif_of (fun lj => ?_) (fun lj => ?_)
          · have h := h.1 (of_decide_eq_true lj)
            obtain ⟨t4, me, h⟩ := h
            refine elim_some me ?_
            obtain ⟨a0, a1, h⟩ := h
            refine ⟨a0, a1, ?_⟩
            obtain ⟨l7, ll, lz, lt, h⟩ := h
            refine ⟨l7, ll, lz, lt, ?_⟩
            refine bif_of (fun lx => ?_) (fun lx => ?_)
            · have h := h.1 (of_decide_eq_true lx)
              refine h.mono fun ss qy h => ?_
              obtain ⟨ee, he, h⟩ := h
              refine ⟨ee, he, ?_⟩
              exact h
            · have h := h.2 (Int.not_lt.1 (of_decide_eq_false lx))
              refine bif_of (fun mj => ?_) (fun mj => ?_)
              · have h := h.1 (of_decide_eq_true mj)
                obtain ⟨a2, a3, h⟩ := h
                try rw [w64 a2 a3]
                obtain ⟨t0, mc, h⟩ := h
                refine elim_some mc ?_
                obtain ⟨a0, a1, h⟩ := h
                refine ⟨a0, a1, ?_⟩
                obtain ⟨ml, ld, lh, l3, h⟩ := h
                refine ⟨ml, ld, lh, l3, ?_⟩
                refine bif_of (fun le => ?_) (fun le => ?_)
                · have h := h.1 (of_decide_eq_true le)
                  refine h.mono fun s8 sh h => ?_
                  obtain ⟨e4, he, h⟩ := h
                  refine ⟨e4, he, ?_⟩
                  exact h
                · have h := h.2 (Int.not_lt.1 (of_decide_eq_false le))
                  obtain ⟨a2, a3, h⟩ := h
                  try rw [w64 a2 a3]
                  obtain ⟨s3, hk, h⟩ := h
                  exact ⟨s3, hk, h⟩
              · have h := h.2 (Int.not_le.1 (of_decide_eq_false mj))
                obtain ⟨a2, a3, h⟩ := h
                try rw [w64 a2 a3]
                obtain ⟨qq, hk, h⟩ := h
                exact ⟨qq, hk, h⟩
          · have h := h.2 (Int.not_lt.1 (of_decide_eq_false lj))
            refine bif_of (fun m0 => ?_) (fun m0 => ?_)
            · have h := h.1 (of_decide_eq_true m0)
              obtain ⟨a2, a3, h⟩ := h
              try rw [w64 a2 a3]
              obtain ⟨t5, m5, h⟩ := h
              refine elim_some m5 ?_
              obtain ⟨a0, a1, h⟩ := h
              refine ⟨a0, a1, ?_⟩
              obtain ⟨l6, l2, mk, lv, h⟩ := h
              refine ⟨l6, l2, mk, lv, ?_⟩
              refine bif_of (fun m2 => ?_) (fun m2 => ?_)
              · have h := h.1 (of_decide_eq_true m2)
                refine h.mono fun qr s6 h => ?_
                obtain ⟨eb, he, h⟩ := h
                refine ⟨eb, he, ?_⟩
                exact h
              · have h := h.2 (Int.not_lt.1 (of_decide_eq_false m2))
                obtain ⟨a2, a3, h⟩ := h
                try rw [w64 a2 a3]
                obtain ⟨s9, hk, h⟩ := h
                exact ⟨s9, hk, h⟩
            · have h := h.2 (Int.not_le.1 (of_decide_eq_false m0))
              obtain ⟨a2, a3, h⟩ := h
              try rw [w64 a2 a3]
              obtain ⟨s1, hk, h⟩ := h
              exact ⟨s1, hk, h⟩
        · have h := h.2 (Int.not_lt.1 (of_decide_eq_false l9))
          refine h.mono fun st s4 h => ?_
          obtain ⟨im, kb, he, h⟩ := h
          refine ⟨im, kb, he, ?_⟩
          refine h.mono fun sa sf h => ?_
          obtain ⟨dz, cl, dp, dn, e2, he, h⟩ := h
          refine ⟨dz, cl, dp, dn, e2, he, ?_⟩
          refine bif_of (fun lm => ?_) (fun lm => ?_)
          · have h := h.1 (bne_t lm)
            exact h
          · have h := h.2 (bne_f lm)
            obtain ⟨I2, qt, h0, h⟩ := h
            refine ⟨I2, qt, h0, fun se m8 qz hI => ?_⟩
            have h := h se m8 qz hI
            refine bif_of (fun mf => ?_) (fun mf => ?_)
            · have h := h.1 (of_decide_eq_true mf)
              obtain ⟨t1, kz, h⟩ := h
              refine elim_some kz ?_
              obtain ⟨a0, a1, h⟩ := h
              refine ⟨a0, a1, ?_⟩
              obtain ⟨lk, ly, m7, lu, h⟩ := h
              refine ⟨lk, ly, m7, lu, ?_⟩
              refine h.mono fun sx qu h => ?_
              obtain ⟨bf, he, h⟩ := h
              refine ⟨bf, he, ?_⟩
              obtain ⟨a2, a3, h⟩ := h
              try rw [w64 a2 a3]
              obtain ⟨sj, hk, h⟩ := h
              exact ⟨sj, hk, h⟩
            · have h := h.2 (Int.not_lt.1 (of_decide_eq_false mf))
              refine bif_of (fun br => ?_) (fun br => ?_)
              · have h := h.1 br
                refine h.mono fun sy sp h => ?_
                obtain ⟨e7, cn, c1, ct, e9, he, h⟩ := h
                refine ⟨e7, cn, c1, ct, e9, he, ?_⟩
                refine bif_of (fun mh => ?_) (fun mh => ?_)
                · have h := h.1 (bne_t mh)
                  exact h
                · have h := h.2 (bne_f mh)
                  refine h.mono fun qv sd h => ?_
                  obtain ⟨c2, cg, he, h⟩ := h
                  refine ⟨c2, cg, he, ?_⟩
                  refine bif_of (fun kv => ?_) (fun kv => ?_)
                  · have h := h.1 (bne_t kv)
                    exact h
                  · have h := h.2 (bne_f kv)
                    refine bif_of (fun kx => ?_) (fun kx => ?_)
                    · have h := h.1 (of_decide_eq_true kx)
                      refine h.mono fun qp s5 h => ?_
                      obtain ⟨ja, he, h⟩ := h
                      refine ⟨ja, he, ?_⟩
                      obtain ⟨I4, sq, h0, h⟩ := h
                      refine ⟨I4, sq, h0, fun sk ls ef ej el qx hI => ?_⟩
                      have h := h sk ls ef ej el qx hI
                      refine bif_of (fun l1 => ?_) (fun l1 => ?_)
                      · have h := h.1 (of_decide_eq_true l1)
                        obtain ⟨t6, iw, h⟩ := h
                        refine elim_some iw ?_
                        obtain ⟨a0, a1, h⟩ := h
                        refine ⟨a0, a1, ?_⟩
                        obtain ⟨lr, mi, lo, m3, h⟩ := h
                        refine ⟨lr, mi, lo, m3, ?_⟩
                        refine h.mono fun sm ce h => ?_
                        obtain ⟨dt, he, h⟩ := h
                        refine ⟨dt, he, ?_⟩
                        refine bif_of (fun f5 => ?_) (fun f5 => ?_)
                        · have h := h.1 (beq_t f5)
                          refine elim_some iw ?_
                          obtain ⟨a0, a1, h⟩ := h
                          refine ⟨a0, a1, ?_⟩
                          obtain ⟨j7, j5, iy, j2, h⟩ := h
                          refine ⟨j7, j5, iy, j2, ?_⟩
                          refine thenW_in fun jp fv => ?_
                          have h := h jp ce.heap.size ((Ext.refl no ce).x_alloc fv) (Blk.of_new fv) ((Ext.refl no ce)).size (size_lt_alloc fv)
                          obtain ⟨i8, ji, kt, iu, hr, h⟩ := h
                          refine ⟨i8, ji, kt, iu, hr, ?_⟩
                          obtain ⟨a2, a3, h⟩ := h
                          try rw [w64 a2 a3]
                          obtain ⟨m1, hk, h⟩ := h
                          exact ⟨m1, hk, h⟩
                        · have h := h.2 (beq_f f5)
                          refine h.mono fun nr ns h => ?_
                          obtain ⟨ec, he, h⟩ := h
                          refine ⟨ec, he, ?_⟩
                          refine bif_of (fun fg => ?_) (fun fg => ?_)
                          · have h := h.1 (not_t fg)
                            refine h.mono fun nn nd h => ?_
                            obtain ⟨ch, he, h⟩ := h
                            refine ⟨ch, he, ?_⟩
                            exact h
                          · have h := h.2 (not_f fg)
                            refine bif_of (fun fk => ?_) (fun fk => ?_)
                            · have h := h.1 (beq_t fk)
                              refine h.mono fun px my h => ?_
                              obtain ⟨c5, he, h⟩ := h
                              refine ⟨c5, he, ?_⟩
                              exact h
                            · have h := h.2 (beq_f fk)
                              refine h.mono fun qe o0 h => ?_
                              obtain ⟨aa, he, h⟩ := h
                              refine ⟨aa, he, ?_⟩
                              refine h.mono fun mq nb h => ?_
                              obtain ⟨dr, b9, bb, av, bi, he, h⟩ := h
                              refine ⟨dr, b9, bb, av, bi, he, ?_⟩
                              refine bif_of (fun fw => ?_) (fun fw => ?_)
                              · have h := h.1 (bne_t fw)
                                exact h
                              · have h := h.2 (bne_f fw)
                                refine bif_of (fun f7 => ?_) (fun f7 => ?_)
                                · have h := h.1 (of_decide_eq_true f7)
                                  exact h
                                · have h := h.2 (Int.not_lt.1 (of_decide_eq_false f7))
                                  obtain ⟨a6, a0, h⟩ := h
                                  refine ⟨a6, a0, ?_⟩
                                  try rw [cut_zero]
                                  refine h.mono fun ps k6 h => ?_
                                  obtain ⟨c3, he, h⟩ := h
                                  refine ⟨c3, he, ?_⟩
                                  refine bif_of (fun fx => ?_) (fun fx => ?_)
                                  · have h := h.1 (not_t fx)
                                    exact h
                                  · have h := h.2 (not_f fx)
                                    refine thenW_in fun ev mb => ?_
                                    have es := (Ext.refl no k6).x_drew mb
                                    refine bif_of (fun fe => ?_) (fun fe => ?_)
                                    · have h := h.1 (beq_t fe)
                                      have h := h ev es
                                      refine h.mono fun nz mw h => ?_
                                      obtain ⟨dd, he, h⟩ := h
                                      refine ⟨dd, he, ?_⟩
                                      exact h
                                    · have h := h.2 (beq_f fe)
                                      refine bif_tt br ?_
                                      have h := h ev es
                                      refine h.mono fun o3 p1 h => ?_
                                      obtain ⟨d4, he, h⟩ := h
                                      refine ⟨d4, he, ?_⟩
                                      exact h
                      · have h := h.2 (Int.not_lt.1 (of_decide_eq_false l1))
                        refine h.mono fun nc p4 h => ?_
                        obtain ⟨eg, he, h⟩ := h
                        refine ⟨eg, he, ?_⟩
                        refine bif_of (fun gq => ?_) (fun gq => ?_)
                        · have h := h.1 (not_t gq)
                          refine h.mono fun qi om h => ?_
                          obtain ⟨bk, he, h⟩ := h
                          refine ⟨bk, he, ?_⟩
                          exact h
                        · have h := h.2 (not_f gq)
                          refine bif_of (fun fo => ?_) (fun fo => ?_)
                          · have h := h.1 (beq_t fo)
                            refine h.mono fun pp oh h => ?_
                            obtain ⟨cb, he, h⟩ := h
                            refine ⟨cb, he, ?_⟩
                            exact h
                          · have h := h.2 (beq_f fo)
                            refine h.mono fun n6 p7 h => ?_
                            obtain ⟨a9, he, h⟩ := h
                            refine ⟨a9, he, ?_⟩
                            refine h.mono fun qb mr h => ?_
                            obtain ⟨cs, al, bc, ah, bo, he, h⟩ := h
                            refine ⟨cs, al, bc, ah, bo, he, ?_⟩
                            refine bif_of (fun gi => ?_) (fun gi => ?_)
                            · have h := h.1 (bne_t gi)
                              exact h
                            · have h := h.2 (bne_f gi)
                              refine bif_of (fun ff => ?_) (fun ff => ?_)
                              · have h := h.1 (of_decide_eq_true ff)
                                exact h
                              · have h := h.2 (Int.not_lt.1 (of_decide_eq_false ff))
                                obtain ⟨a6, a0, h⟩ := h
                                refine ⟨a6, a0, ?_⟩
                                try rw [cut_zero]
                                refine h.mono fun nl ij h => ?_
                                obtain ⟨dx, he, h⟩ := h
                                refine ⟨dx, he, ?_⟩
                                refine bif_of (fun f3 => ?_) (fun f3 => ?_)
                                · have h := h.1 (not_t f3)
                                  exact h
                                · have h := h.2 (not_f f3)
                                  refine thenW_in fun eq lc => ?_
                                  have er := (Ext.refl no ij).x_drew lc
                                  refine bif_of (fun g1 => ?_) (fun g1 => ?_)
                                  · have h := h.1 (beq_t g1)
                                    have h := h eq er
                                    refine h.mono fun pu ot h => ?_
                                    obtain ⟨bz, he, h⟩ := h
                                    refine ⟨bz, he, ?_⟩
                                    exact h
                                  · have h := h.2 (beq_f g1)
                                    refine bif_tt br ?_
                                    have h := h eq er
                                    refine h.mono fun pg na h => ?_
                                    obtain ⟨bt, he, h⟩ := h
                                    refine ⟨bt, he, ?_⟩
                                    exact h
                    · have h := h.2 (Int.not_le.1 (of_decide_eq_false kx))
                      obtain ⟨I4, mg, h0, h⟩ := h
                      refine ⟨I4, mg, h0, fun lq j4 d3 cq d5 lp hI => ?_⟩
                      have h := h lq j4 d3 cq d5 lp hI
                      refine bif_of (fun f2 => ?_) (fun f2 => ?_)
                      · have h := h.1 (of_decide_eq_true f2)
                        obtain ⟨sv, ex, h⟩ := h
                        refine elim_some ex ?_
                        obtain ⟨a0, a1, h⟩ := h
                        refine ⟨a0, a1, ?_⟩
                        obtain ⟨jv, ju, jh, ii, h⟩ := h
                        refine ⟨jv, ju, jh, ii, ?_⟩
                        refine h.mono fun pz db h => ?_
                        obtain ⟨b8, he, h⟩ := h
                        refine ⟨b8, he, ?_⟩
                        refine bif_of (fun g4 => ?_) (fun g4 => ?_)
                        · have h := h.1 (beq_t g4)
                          refine elim_some ex ?_
                          obtain ⟨a0, a1, h⟩ := h
                          refine ⟨a0, a1, ?_⟩
                          obtain ⟨i2, kc, k8, jm, h⟩ := h
                          refine ⟨i2, kc, k8, jm, ?_⟩
                          refine thenW_in fun kh fc => ?_
                          have h := h kh db.heap.size ((Ext.refl no db).x_alloc fc) (Blk.of_new fc) ((Ext.refl no db)).size (size_lt_alloc fc)
                          obtain ⟨ks, jw, il, it, hr, h⟩ := h
                          refine ⟨ks, jw, il, it, hr, ?_⟩
                          obtain ⟨a2, a3, h⟩ := h
                          try rw [w64 a2 a3]
                          obtain ⟨l5, hk, h⟩ := h
                          exact ⟨l5, hk, h⟩
                        · have h := h.2 (beq_f g4)
                          refine h.mono fun op qn h => ?_
                          obtain ⟨e5, he, h⟩ := h
                          refine ⟨e5, he, ?_⟩
                          refine bif_of (fun ga => ?_) (fun ga => ?_)
                          · have h := h.1 (not_t ga)
                            refine h.mono fun qa q2 h => ?_
                            obtain ⟨ci, he, h⟩ := h
                            refine ⟨ci, he, ?_⟩
                            exact h
                          · have h := h.2 (not_f ga)
                            refine bif_of (fun f8 => ?_) (fun f8 => ?_)
                            · have h := h.1 (beq_t f8)
                              refine h.mono fun n4 n2 h => ?_
                              obtain ⟨cr, he, h⟩ := h
                              refine ⟨cr, he, ?_⟩
                              exact h
                            · have h := h.2 (beq_f f8)
                              refine h.mono fun mz o2 h => ?_
                              obtain ⟨a4, he, h⟩ := h
                              refine ⟨a4, he, ?_⟩
                              refine h.mono fun nu nx h => ?_
                              obtain ⟨cx, b2, am, b5, du, he, h⟩ := h
                              refine ⟨cx, b2, am, b5, du, he, ?_⟩
                              refine bif_of (fun gu => ?_) (fun gu => ?_)
                              · have h := h.1 (bne_t gu)
                                exact h
                              · have h := h.2 (bne_f gu)
                                refine bif_of (fun gh => ?_) (fun gh => ?_)
                                · have h := h.1 (of_decide_eq_true gh)
                                  exact h
                                · have h := h.2 (Int.not_lt.1 (of_decide_eq_false gh))
                                  obtain ⟨a6, a0, h⟩ := h
                                  refine ⟨a6, a0, ?_⟩
                                  try rw [cut_zero]
                                  refine h.mono fun n7 kg h => ?_
                                  obtain ⟨c4, he, h⟩ := h
                                  refine ⟨c4, he, ?_⟩
                                  refine bif_of (fun g9 => ?_) (fun g9 => ?_)
                                  · have h := h.1 (not_t g9)
                                    exact h
                                  · have h := h.2 (not_f g9)
                                    refine thenW_in fun eo ky => ?_
                                    have ep := (Ext.refl no kg).x_drew ky
                                    refine bif_of (fun fi => ?_) (fun fi => ?_)
                                    · have h := h.1 (beq_t fi)
                                      have h := h eo ep
                                      refine h.mono fun nk qj h => ?_
                                      obtain ⟨cz, he, h⟩ := h
                                      refine ⟨cz, he, ?_⟩
                                      exact h
                                    · have h := h.2 (beq_f fi)
                                      refine bif_tt br ?_
                                      have h := h eo ep
                                      refine h.mono fun pm od h => ?_
                                      obtain ⟨c8, he, h⟩ := h
                                      refine ⟨c8, he, ?_⟩
                                      exact h
                      · have h := h.2 (Int.not_lt.1 (of_decide_eq_false f2))
                        refine h.mono fun q6 pe h => ?_
                        obtain ⟨e8, he, h⟩ := h
                        refine ⟨e8, he, ?_⟩
                        refine bif_of (fun g7 => ?_) (fun g7 => ?_)
                        · have h := h.1 (not_t g7)
                          refine h.mono fun q9 nw h => ?_
                          obtain ⟨dl, he, h⟩ := h
                          refine ⟨dl, he, ?_⟩
                          exact h
                        · have h := h.2 (not_f g7)
                          refine bif_of (fun fq => ?_) (fun fq => ?_)
                          · have h := h.1 (beq_t fq)
                            refine h.mono fun ox mv h => ?_
                            obtain ⟨cd, he, h⟩ := h
                            refine ⟨cd, he, ?_⟩
                            exact h
                          · have h := h.2 (beq_f fq)
                            refine h.mono fun q3 ql h => ?_
                            obtain ⟨a8, he, h⟩ := h
                            refine ⟨a8, he, ?_⟩
                            refine h.mono fun ol ov h => ?_
                            obtain ⟨bm, aw, ao, ay, bl, he, h⟩ := h
                            refine ⟨bm, aw, ao, ay, bl, he, ?_⟩
                            refine bif_of (fun gt => ?_) (fun gt => ?_)
                            · have h := h.1 (bne_t gt)
                              exact h
                            · have h := h.2 (bne_f gt)
                              refine bif_of (fun fl => ?_) (fun fl => ?_)
                              · have h := h.1 (of_decide_eq_true fl)
                                exact h
                              · have h := h.2 (Int.not_lt.1 (of_decide_eq_false fl))
                                obtain ⟨a6, a0, h⟩ := h
                                refine ⟨a6, a0, ?_⟩
                                try rw [cut_zero]
                                refine h.mono fun oi jy h => ?_
                                obtain ⟨dm, he, h⟩ := h
                                refine ⟨dm, he, ?_⟩
                                refine bif_of (fun gd => ?_) (fun gd => ?_)
                                · have h := h.1 (not_t gd)
                                  exact h
                                · have h := h.2 (not_f gd)
                                  refine thenW_in fun ez lw => ?_
                                  have eu := (Ext.refl no jy).x_drew lw
                                  refine bif_of (fun fy => ?_) (fun fy => ?_)
                                  · have h := h.1 (beq_t fy)
                                    have h := h ez eu
                                    refine h.mono fun o9 n8 h => ?_
                                    obtain ⟨dw, he, h⟩ := h
                                    refine ⟨dw, he, ?_⟩
                                    exact h
                                  · have h := h.2 (beq_f fy)
                                    refine bif_tt br ?_
                                    have h := h ez eu
                                    refine h.mono fun qc pi h => ?_
                                    obtain ⟨bj, he, h⟩ := h
                                    refine ⟨bj, he, ?_⟩
                                    exact h
              · have h := h.2 br
                refine h.mono fun q7 q5 h => ?_
                obtain ⟨d1, ba, b0, b7, df, he, h⟩ := h
                refine ⟨d1, ba, b0, b7, df, he, ?_⟩
                refine bif_of (fun fh => ?_) (fun fh => ?_)
                · have h := h.1 (bne_t fh)
                  exact h
                · have h := h.2 (bne_f fh)
                  refine h.mono fun ne pa h => ?_
                  obtain ⟨b1, ai, he, h⟩ := h
                  refine ⟨b1, ai, he, ?_⟩
                  refine bif_of (fun ge => ?_) (fun ge => ?_)
                  · have h := h.1 (bne_t ge)
                    exact h
                  · have h := h.2 (bne_f ge)
                    refine bif_of (fun fr => ?_) (fun fr => ?_)
                    · have h := h.1 (of_decide_eq_true fr)
                      refine h.mono fun qo qd h => ?_
                      obtain ⟨gf, he, h⟩ := h
                      refine ⟨gf, he, ?_⟩
                      obtain ⟨I4, la, h0, h⟩ := h
                      refine ⟨I4, la, h0, fun ln ih d8 cj dj m9 hI => ?_⟩
                      have h := h ln ih d8 cj dj m9 hI
                      refine bif_of (fun g8 => ?_) (fun g8 => ?_)
                      · have h := h.1 (of_decide_eq_true g8)
                        obtain ⟨si, dq, h⟩ := h
                        refine elim_some dq ?_
                        obtain ⟨a0, a1, h⟩ := h
                        refine ⟨a0, a1, ?_⟩
                        obtain ⟨ir, ic, j3, gz, h⟩ := h
                        refine ⟨ir, ic, j3, gz, ?_⟩
                        refine h.mono fun ms bu h => ?_
                        obtain ⟨be, he, h⟩ := h
                        refine ⟨be, he, ?_⟩
                        refine bif_of (fun f6 => ?_) (fun f6 => ?_)
                        · have h := h.1 (beq_t f6)
                          refine elim_some dq ?_
                          obtain ⟨a0, a1, h⟩ := h
                          refine ⟨a0, a1, ?_⟩
                          obtain ⟨i6, kn, ik, k1, h⟩ := h
                          refine ⟨i6, kn, ik, k1, ?_⟩
                          refine thenW_in fun jg gn => ?_
                          have h := h jg bu.heap.size ((Ext.refl no bu).x_alloc gn) (Blk.of_new gn) ((Ext.refl no bu)).size (size_lt_alloc gn)
                          obtain ⟨k9, ig, k3, gy, hr, h⟩ := h
                          refine ⟨k9, ig, k3, gy, hr, ?_⟩
                          obtain ⟨a2, a3, h⟩ := h
                          try rw [w64 a2 a3]
                          obtain ⟨kw, hk, h⟩ := h
                          exact ⟨kw, hk, h⟩
                        · have h := h.2 (beq_f f6)
                          refine h.mono fun mo ng h => ?_
                          obtain ⟨e0, he, h⟩ := h
                          refine ⟨e0, he, ?_⟩
                          refine bif_of (fun gr => ?_) (fun gr => ?_)
                          · have h := h.1 (not_t gr)
                            refine h.mono fun p5 oa h => ?_
                            obtain ⟨ds, he, h⟩ := h
                            refine ⟨ds, he, ?_⟩
                            exact h
                          · have h := h.2 (not_f gr)
                            refine bif_of (fun gg => ?_) (fun gg => ?_)
                            · have h := h.1 (beq_t gg)
                              refine h.mono fun o6 nh h => ?_
                              obtain ⟨de, he, h⟩ := h
                              refine ⟨de, he, ?_⟩
                              exact h
                            · have h := h.2 (beq_f gg)
                              refine h.mono fun p9 os h => ?_
                              obtain ⟨a7, he, h⟩ := h
                              refine ⟨a7, he, ?_⟩
                              refine h.mono fun o5 q4 h => ?_
                              obtain ⟨bv, b4, ap, bd, cf, he, h⟩ := h
                              refine ⟨bv, b4, ap, bd, cf, he, ?_⟩
                              refine bif_of (fun gp => ?_) (fun gp => ?_)
                              · have h := h.1 (bne_t gp)
                                exact h
                              · have h := h.2 (bne_f gp)
                                refine bif_of (fun gc => ?_) (fun gc => ?_)
                                · have h := h.1 (of_decide_eq_true gc)
                                  exact h
                                · have h := h.2 (Int.not_lt.1 (of_decide_eq_false gc))
                                  obtain ⟨a6, a0, h⟩ := h
                                  refine ⟨a6, a0, ?_⟩
                                  try rw [cut_zero]
                                  refine h.mono fun ny i5 h => ?_
                                  obtain ⟨co, he, h⟩ := h
                                  refine ⟨co, he, ?_⟩
                                  refine bif_of (fun fm => ?_) (fun fm => ?_)
                                  · have h := h.1 (not_t fm)
                                    exact h
                                  · have h := h.2 (not_f fm)
                                    refine thenW_in fun em l4 => ?_
                                    have ae := (Ext.refl no i5).x_drew l4
                                    refine bif_of (fun fp => ?_) (fun fp => ?_)
                                    · have h := h.1 (beq_t fp)
                                      have h := h em ae
                                      refine h.mono fun qk ow h => ?_
                                      obtain ⟨bs, he, h⟩ := h
                                      refine ⟨bs, he, ?_⟩
                                      exact h
                                    · have h := h.2 (beq_f fp)
                                      refine bif_ff br ?_
                                      obtain ⟨sb, jo, h⟩ := h
                                      refine elim_some jo ?_
                                      obtain ⟨a0, a1, h⟩ := h
                                      refine ⟨a0, a1, ?_⟩
                                      obtain ⟨iz, iq, kr, ib, h⟩ := h
                                      refine ⟨iz, iq, kr, (ae).cell ib id, ?_⟩
                                      refine elim_some dq ?_
                                      obtain ⟨a0, a1, h⟩ := h
                                      refine ⟨a0, a1, ?_⟩
                                      obtain ⟨ku, jj, jx, k0, h⟩ := h
                                      refine ⟨ku, jj, jx, (ae).cell k0 id, ?_⟩
                                      have h := h em ae
                                      refine h.mono fun ph ni h => ?_
                                      obtain ⟨ei, he, h⟩ := h
                                      refine ⟨ei, he, ?_⟩
                                      refine bif_of (fun gj => ?_) (fun gj => ?_)
                                      · have h := h.1 gj
                                        refine h.mono fun nv pb h => ?_
                                        obtain ⟨d9, he, h⟩ := h
                                        refine ⟨d9, he, ?_⟩
                                        exact h
                                      · have h := h.2 gj
                                        exact h
                      · have h := h.2 (Int.not_lt.1 (of_decide_eq_false g8))
                        refine h.mono fun mt q8 h => ?_
                        obtain ⟨dy, he, h⟩ := h
                        refine ⟨dy, he, ?_⟩
                        refine bif_of (fun gl => ?_) (fun gl => ?_)
                        · have h := h.1 (not_t gl)
                          refine h.mono fun oj o1 h => ?_
                          obtain ⟨c9, he, h⟩ := h
                          refine ⟨c9, he, ?_⟩
                          exact h
                        · have h := h.2 (not_f gl)
                          refine bif_of (fun g6 => ?_) (fun g6 => ?_)
                          · have h := h.1 (beq_t g6)
                            refine h.mono fun ou nm h => ?_
                            obtain ⟨dk, he, h⟩ := h
                            refine ⟨dk, he, ?_⟩
                            exact h
                          · have h := h.2 (beq_f g6)
                            refine h.mono fun py pq h => ?_
                            obtain ⟨a5, he, h⟩ := h
                            refine ⟨a5, he, ?_⟩
                            refine h.mono fun mp og h => ?_
                            obtain ⟨d0, b3, aq, b6, dv, he, h⟩ := h
                            refine ⟨d0, b3, aq, b6, dv, he, ?_⟩
                            refine bif_of (fun g2 => ?_) (fun g2 => ?_)
                            · have h := h.1 (bne_t g2)
                              exact h
                            · have h := h.2 (bne_f g2)
                              refine bif_of (fun fa => ?_) (fun fa => ?_)
                              · have h := h.1 (of_decide_eq_true fa)
                                exact h
                              · have h := h.2 (Int.not_lt.1 (of_decide_eq_false fa))
                                obtain ⟨a6, a0, h⟩ := h
                                refine ⟨a6, a0, ?_⟩
                                try rw [cut_zero]
                                refine h.mono fun nq kl h => ?_
                                obtain ⟨ck, he, h⟩ := h
                                refine ⟨ck, he, ?_⟩
                                refine bif_of (fun fu => ?_) (fun fu => ?_)
                                · have h := h.1 (not_t fu)
                                  exact h
                                · have h := h.2 (not_f fu)
                                  refine thenW_in fun ew ma => ?_
                                  have ad := (Ext.refl no kl).x_drew ma
                                  refine bif_of (fun fz => ?_) (fun fz => ?_)
                                  · have h := h.1 (beq_t fz)
                                    have h := h ew ad
                                    refine h.mono fun pd qh h => ?_
                                    obtain ⟨c7, he, h⟩ := h
                                    refine ⟨c7, he, ?_⟩
                                    exact h
                                  · have h := h.2 (beq_f fz)
                                    refine bif_ff br ?_
                                    obtain ⟨sn, iv, h⟩ := h
                                    refine elim_some iv ?_
                                    obtain ⟨a0, a1, h⟩ := h
                                    refine ⟨a0, a1, ?_⟩
                                    obtain ⟨ip, kd, k7, i1, h⟩ := h
                                    refine ⟨ip, kd, k7, (ad).cell i1 id, ?_⟩
                                    obtain ⟨sw, jk, h⟩ := h
                                    refine elim_some jk ?_
                                    obtain ⟨a0, a1, h⟩ := h
                                    refine ⟨a0, a1, ?_⟩
                                    obtain ⟨jf, io, js, j0, h⟩ := h
                                    refine ⟨jf, io, js, (ad).cell j0 id, ?_⟩
                                    have h := h ew ad
                                    refine h.mono fun oo n9 h => ?_
                                    obtain ⟨ed, he, h⟩ := h
                                    refine ⟨ed, he, ?_⟩
                                    refine bif_of (fun g3 => ?_) (fun g3 => ?_)
                                    · have h := h.1 g3
                                      refine h.mono fun oy np h => ?_
                                      obtain ⟨d7, he, h⟩ := h
                                      refine ⟨d7, he, ?_⟩
                                      exact h
                                    · have h := h.2 g3
                                      exact h
                    · have h := h.2 (Int.not_le.1 (of_decide_eq_false fr))
                      obtain ⟨I4, l8, h0, h⟩ := h
                      refine ⟨I4, l8, h0, fun m6 jz cp d6 bp lg hI => ?_⟩
                      have h := h m6 jz cp d6 bp lg hI
                      refine bif_of (fun f1 => ?_) (fun f1 => ?_)
                      · have h := h.1 (of_decide_eq_true f1)
                        obtain ⟨su, di, h⟩ := h
                        refine elim_some di ?_
                        obtain ⟨a0, a1, h⟩ := h
                        refine ⟨a0, a1, ?_⟩
                        obtain ⟨i0, j8, k5, ie, h⟩ := h
                        refine ⟨i0, j8, k5, ie, ?_⟩
                        refine h.mono fun pl ca h => ?_
                        obtain ⟨ak, he, h⟩ := h
                        refine ⟨ak, he, ?_⟩
                        refine bif_of (fun gm => ?_) (fun gm => ?_)
                        · have h := h.1 (beq_t gm)
                          refine elim_some di ?_
                          obtain ⟨a0, a1, h⟩ := h
                          refine ⟨a0, a1, ?_⟩
                          obtain ⟨jr, ko, j1, jq, h⟩ := h
                          refine ⟨jr, ko, j1, jq, ?_⟩
                          refine thenW_in fun jl g0 => ?_
                          have h := h jl ca.heap.size ((Ext.refl no ca).x_alloc g0) (Blk.of_new g0) ((Ext.refl no ca)).size (size_lt_alloc g0)
                          obtain ⟨jd, j6, je, ix, hr, h⟩ := h
                          refine ⟨jd, j6, je, ix, hr, ?_⟩
                          obtain ⟨a2, a3, h⟩ := h
                          try rw [w64 a2 a3]
                          obtain ⟨m4, hk, h⟩ := h
                          exact ⟨m4, hk, h⟩
                        · have h := h.2 (beq_f gm)
                          refine h.mono fun qg n1 h => ?_
                          obtain ⟨eh, he, h⟩ := h
                          refine ⟨eh, he, ?_⟩
                          refine bif_of (fun fd => ?_) (fun fd => ?_)
                          · have h := h.1 (not_t fd)
                            refine h.mono fun qm ok h => ?_
                            obtain ⟨bn, he, h⟩ := h
                            refine ⟨bn, he, ?_⟩
                            exact h
                          · have h := h.2 (not_f fd)
                            refine bif_of (fun gw => ?_) (fun gw => ?_)
                            · have h := h.1 (beq_t gw)
                              refine h.mono fun p6 ob h => ?_
                              obtain ⟨da, he, h⟩ := h
                              refine ⟨da, he, ?_⟩
                              exact h
                            · have h := h.2 (beq_f gw)
                              refine h.mono fun mx n0 h => ?_
                              obtain ⟨ab, he, h⟩ := h
                              refine ⟨ab, he, ?_⟩
                              refine h.mono fun oc o7 h => ?_
                              obtain ⟨bw, aj, an, ax, cy, he, h⟩ := h
                              refine ⟨bw, aj, an, ax, cy, he, ?_⟩
                              refine bif_of (fun gx => ?_) (fun gx => ?_)
                              · have h := h.1 (bne_t gx)
                                exact h
                              · have h := h.2 (bne_f gx)
                                refine bif_of (fun fb => ?_) (fun fb => ?_)
                                · have h := h.1 (of_decide_eq_true fb)
                                  exact h
                                · have h := h.2 (Int.not_lt.1 (of_decide_eq_false fb))
                                  obtain ⟨a6, a0, h⟩ := h
                                  refine ⟨a6, a0, ?_⟩
                                  try rw [cut_zero]
                                  refine h.mono fun p0 ia h => ?_
                                  obtain ⟨cm, he, h⟩ := h
                                  refine ⟨cm, he, ?_⟩
                                  refine bif_of (fun f4 => ?_) (fun f4 => ?_)
                                  · have h := h.1 (not_t f4)
                                    exact h
                                  · have h := h.2 (not_f f4)
                                    refine thenW_in fun et md => ?_
                                    have af := (Ext.refl no ia).x_drew md
                                    refine bif_of (fun f0 => ?_) (fun f0 => ?_)
                                    · have h := h.1 (beq_t f0)
                                      have h := h et af
                                      refine h.mono fun oz mm h => ?_
                                      obtain ⟨dc, he, h⟩ := h
                                      refine ⟨dc, he, ?_⟩
                                      exact h
                                    · have h := h.2 (beq_f f0)
                                      refine bif_ff br ?_
                                      obtain ⟨s7, i3, h⟩ := h
                                      refine elim_some i3 ?_
                                      obtain ⟨a0, a1, h⟩ := h
                                      refine ⟨a0, a1, ?_⟩
                                      obtain ⟨kq, jn, ke, k2, h⟩ := h
                                      refine ⟨kq, jn, ke, (af).cell k2 id, ?_⟩
                                      refine elim_some di ?_
                                      obtain ⟨a0, a1, h⟩ := h
                                      refine ⟨a0, a1, ?_⟩
                                      obtain ⟨km, ka, jb, i9, h⟩ := h
                                      refine ⟨km, ka, jb, (af).cell i9 id, ?_⟩
                                      have h := h et af
                                      refine h.mono fun pn pf h => ?_
                                      obtain ⟨e3, he, h⟩ := h
                                      refine ⟨e3, he, ?_⟩
                                      refine bif_of (fun gs => ?_) (fun gs => ?_)
                                      · have h := h.1 gs
                                        refine h.mono fun n5 p3 h => ?_
                                        obtain ⟨d2, he, h⟩ := h
                                        refine ⟨d2, he, ?_⟩
                                        exact h
                                      · have h := h.2 gs
                                        exact h
                      · have h := h.2 (Int.not_lt.1 (of_decide_eq_false f1))
                        refine h.mono fun pt q1 h => ?_
                        obtain ⟨e1, he, h⟩ := h
                        refine ⟨e1, he, ?_⟩
                        refine bif_of (fun gb => ?_) (fun gb => ?_)
                        · have h := h.1 (not_t gb)
                          refine h.mono fun qf o8 h => ?_
                          obtain ⟨bq, he, h⟩ := h
                          refine ⟨bq, he, ?_⟩
                          exact h
                        · have h := h.2 (not_f gb)
                          refine bif_of (fun f9 => ?_) (fun f9 => ?_)
                          · have h := h.1 (beq_t f9)
                            refine h.mono fun nj mu h => ?_
                            obtain ⟨cw, he, h⟩ := h
                            refine ⟨cw, he, ?_⟩
                            exact h
                          · have h := h.2 (beq_f f9)
                            refine h.mono fun nf pk h => ?_
                            obtain ⟨ac, he, h⟩ := h
                            refine ⟨ac, he, ?_⟩
                            refine h.mono fun nt o4 h => ?_
                            obtain ⟨dg, ar, az, au, cv, he, h⟩ := h
                            refine ⟨dg, ar, az, au, cv, he, ?_⟩
                            refine bif_of (fun fj => ?_) (fun fj => ?_)
                            · have h := h.1 (bne_t fj)
                              exact h
                            · have h := h.2 (bne_f fj)
                              refine bif_of (fun gk => ?_) (fun gk => ?_)
                              · have h := h.1 (of_decide_eq_true gk)
                                exact h
                              · have h := h.2 (Int.not_lt.1 (of_decide_eq_false gk))
                                obtain ⟨a6, a0, h⟩ := h
                                refine ⟨a6, a0, ?_⟩
                                try rw [cut_zero]
                                refine h.mono fun n3 k4 h => ?_
                                obtain ⟨cc, he, h⟩ := h
                                refine ⟨cc, he, ?_⟩
                                refine bif_of (fun g5 => ?_) (fun g5 => ?_)
                                · have h := h.1 (not_t g5)
                                  exact h
                                · have h := h.2 (not_f g5)
                                  refine thenW_in fun en li => ?_
                                  have ag := (Ext.refl no k4).x_drew li
                                  refine bif_of (fun gv => ?_) (fun gv => ?_)
                                  · have h := h.1 (beq_t gv)
                                    have h := h en ag
                                    refine h.mono fun oq p2 h => ?_
                                    obtain ⟨bh, he, h⟩ := h
                                    refine ⟨bh, he, ?_⟩
                                    exact h
                                  · have h := h.2 (beq_f gv)
                                    refine bif_ff br ?_
                                    obtain ⟨s0, kf, h⟩ := h
                                    refine elim_some kf ?_
                                    obtain ⟨a0, a1, h⟩ := h
                                    refine ⟨a0, a1, ?_⟩
                                    obtain ⟨i7, i4, kj, kk, h⟩ := h
                                    refine ⟨i7, i4, kj, (ag).cell kk id, ?_⟩
                                    obtain ⟨sg, jt, h⟩ := h
                                    refine elim_some jt ?_
                                    obtain ⟨a0, a1, h⟩ := h
                                    refine ⟨a0, a1, ?_⟩
                                    obtain ⟨j9, jc, kp, ki, h⟩ := h
                                    refine ⟨j9, jc, kp, (ag).cell ki id, ?_⟩
                                    have h := h en ag
                                    refine h.mono fun pj pv h => ?_
                                    obtain ⟨ea, he, h⟩ := h
                                    refine ⟨ea, he, ?_⟩
                                    refine bif_of (fun fs => ?_) (fun fs => ?_)
                                    · have h := h.1 fs
                                      refine h.mono fun mn po h => ?_
                                      obtain ⟨bg, he, h⟩ := h
                                      refine ⟨bg, he, ?_⟩
                                      exact h
                                    · have h := h.2 fs
                                      exact h

theorem cachettelaw10_JournalGens.go (aa : Option Addr) (a6 : Nat) (a5 : Nat) (a8 : Option Addr) (a7 : Nat) (a9 : Nat) (a0 : Int) (a1 : Option Addr) (a2 : Nat) (a3 : Nat) (a4 : Bool) {R : Value → World → Prop} {w : World} (h : cachettelaw10_JournalGens.N aa a6 a5 a8 a7 a9 a0 a1 a2 a3 a4 R w) : Calls Try.prog 6 #[.slice aa a6 a5, .slice a8 a7 a9, .int .i64 a0, .slice a1 a2 a3, .bool a4] w fun e w' => ∃ v, e = .returned v ∧ R v w' := cachettelaw10_JournalGens.ok aa a6 a5 a8 a7 a9 a0 a1 a2 a3 a4 (cachettelaw10_JournalGens.up aa a6 a5 a8 a7 a9 a0 a1 a2 a3 a4 h)
theorem cachettelaw10_JournalGens.run (aa : Option Addr) (a6 : Nat) (a5 : Nat) (a8 : Option Addr) (a7 : Nat) (a9 : Nat) (a0 : Int) (a1 : Option Addr) (a2 : Nat) (a3 : Nat) (a4 : Bool) {V : Value} {Q : World → Prop} {w : World} (h : cachettelaw10_JournalGens.N aa a6 a5 a8 a7 a9 a0 a1 a2 a3 a4 (fun v w' => v = V ∧ Q w') w) : Calls Try.prog 6 #[.slice aa a6 a5, .slice a8 a7 a9, .int .i64 a0, .slice a1 a2 a3, .bool a4] w (Ret V Q) := (cachettelaw10_JournalGens.go aa a6 a5 a8 a7 a9 a0 a1 a2 a3 a4 h).mono fun e w' ⟨v, he, hv, hq⟩ => ⟨by rw [he, hv], hq⟩

end Go.Proofs.Ytgcjipbahfpopaa

/- JournalOpens. -/
set_option linter.unusedVariables false
set_option linter.unusedSimpArgs false
set_option maxRecDepth 20000
set_option maxHeartbeats 4000000
namespace Go.Proofs.Ytgcjipbahfpopaa
open Go Go.Mx Go.Proofs
open W (OwnB GivesW)
section
variable {w w' w1 : World} {o o' o1 : Own} {q g n N m : Nat} {K : Nat → Prop} {b s : List UInt8} {a : Option Addr} {c : Nat} {l : List BS} {d : DS} {J : JS}
end
end Go.Proofs.Ytgcjipbahfpopaa

/- Journal: plainly: what stands behind a crash in an append's midst. -/
set_option linter.unusedVariables false
set_option linter.unusedSimpArgs false
set_option maxRecDepth 20000
set_option maxHeartbeats 2000000
namespace Go.Proofs.Ytgcjipbahfpopaa
open Go Go.Mx Go.Proofs
def mg (gen : Nat) (s : List UInt8) : Prop := s.length = 64 ∧ byteN s 0 = 197 ∧ numB s 1 = gen
theorem roundStep_ge (gen r : Nat) (s : List UInt8) : r ≤ roundStep gen r s := by
  unfold roundStep; split <;> omega
theorem roundOf_ge {gen : Nat} : ∀ (L : List (List UInt8)) (r : Nat), r ≤ L.foldl (roundStep gen) r ∧ ∀ s ∈ L, mg gen s → numB s 5 ≤ L.foldl (roundStep gen) r
  | [], r => ⟨Nat.le_refl _, fun s h => by cases h⟩
  | x :: l, r => by
    have ih := roundOf_ge (gen := gen) l (roundStep gen r x)
    have h1 := roundStep_ge gen r x
    refine ⟨Nat.le_trans h1 ih.1, fun s hs hm => ?_⟩
    rcases List.mem_cons.1 hs with rfl | hs
    · refine Nat.le_trans ?_ ih.1
      unfold roundStep
      rw [if_pos (show s.length = 64 ∧ byteN s 0 = 197 ∧ numB s 1 = gen from hm)]; omega
    · exact ih.2 s hs hm
theorem roundOf_le {gen B : Nat} : ∀ (L : List (List UInt8)) (r : Nat), r ≤ B → (∀ s ∈ L, mg gen s → numB s 5 ≤ B) → L.foldl (roundStep gen) r ≤ B
  | [], r, h, _ => h
  | x :: l, r, h, hs => by
    refine roundOf_le l (roundStep gen r x) ?_ fun s h => hs s (by simp [h])
    unfold roundStep
    split
    · rename_i hm
      have := hs x (by simp) hm
      omega
    · exact h
theorem frame_get {gen R seq t : Nat} {b : List UInt8} (h : t < (frameL gen R seq b).length) : (frameL gen R seq b)[t]? = some (secL gen R seq t (partsN b.length) (partL b t)) := by
  rw [frameL_len] at h
  unfold frameL
  rw [List.getElem?_map, List.getElem?_range h]; rfl
theorem sec_mg {gen R seq i n : Nat} {x : List UInt8} (hg : gen < 4294967296) (hx : x.length ≤ 48) : mg gen (secL gen R seq i n x) := ⟨secL_len _ _ _ _ _ hx, rfl, sec_gen _ _ _ _ _ _ hg⟩
section
variable {L L' : List (List UInt8)} {gen seq R T : Nat} {want : List (List UInt8)} {b : List UInt8}
theorem oks_mem (h : OKS L gen seq) (hg : gen < 4294967296) (hs : seq < 4294967296) : ∀ s ∈ L.take (cntK L), mg gen s ∧ numB s 9 = seq ∧ numB s 5 = numB (L.headD []) 5 := fun s hm => by
  obtain ⟨h1, h2, h3, h4, h5⟩ := h
  have hf := (frameK_zero h5).2.2.2.1
  rw [hf] at hm
  unfold frameL at hm
  obtain ⟨i, _, rfl⟩ := List.mem_map.1 hm
  exact ⟨sec_mg hg (partL_le _ _), sec_seq _ _ _ _ _ _ hs, sec_round _ _ _ _ _ _ (numB_lt _ _)⟩
theorem scan_none (k : Nat) (h : ¬ OKS L gen seq) : scanG gen k L seq = ([], 0) := by
  cases k with
  | zero => rfl
  | succ k => simp only [scanG, standK_no h, if_true]
theorem scan_stop (gen : Nat) : ∀ (k : Nat) (L : List (List UInt8)) (s : Nat), L.length < k → ¬ OKS (L.drop (scanG gen k L s).2) gen (s + (scanG gen k L s).1.length)
  | 0, L, s, h => by omega
  | k + 1, L, s, h => by
    by_cases hO : OKS L gen s
    · have hn : ¬ (standK L gen s).2 = 0 := by rw [standK_yes hO]; exact hO.cnt
      have hle := standK_le L gen s
      have ih := scan_stop gen k (L.drop (standK L gen s).2) (s + 1) (by rw [List.length_drop]; omega)
      simp only [scanG, if_neg hn, List.length_cons]
      rw [List.drop_drop] at ih
      rw [show s + ((scanG gen k (L.drop (standK L gen s).2) (s + 1)).1.length + 1) = s + 1 + (scanG gen k (L.drop (standK L gen s).2) (s + 1)).1.length by omega]
      exact ih
    · rw [scan_none _ hO]; exact hO
/-- a journal's sectors: what stands, and what is behind it. -/
structure JI (L : List (List UInt8)) (gen R : Nat) (want : List (List UInt8)) (T : Nat) : Prop where
  scan : (scanK L gen).1 = (want, T)
  seq : ∀ s ∈ L.drop T, mg gen s → numB s 9 ≤ want.length
  rnd : ∀ s ∈ L.drop T, mg gen s → numB s 5 < R
  all : ∀ s ∈ L, mg gen s → numB s 5 ≤ R
theorem JI.re (h : JI L gen R want T) : JI L gen (roundOf gen L + 1) want T :=
  ⟨h.scan, h.seq, fun s hs hm => Nat.lt_succ_of_le ((roundOf_ge L 0).2 s (List.mem_of_mem_drop hs) hm), fun s hs hm => Nat.le_succ_of_le ((roundOf_ge L 0).2 s hs hm)⟩
theorem JI.le (h : JI L gen R want T) : roundOf gen L ≤ R := roundOf_le L 0 (Nat.zero_le _) h.all
theorem JI.len (h : JI L gen R want T) : T ≤ L.length ∧ want.length ≤ T := by
  have h1 := scanG_le gen (L.length + 1) L 0
  have h2 : scanG gen (L.length + 1) L 0 = (want, T) := h.scan
  rw [h2] at h1
  exact h1
theorem JI.scanTo (h : JI L gen R want T) (hT : L'.take T = L.take T) (hl : L'.length = L.length) : (scanK L' gen).1 = (want ++ (scanG gen (L'.length + 1) (L'.drop T) want.length).1, T + (scanG gen (L'.length + 1) (L'.drop T) want.length).2) := by
  have h2 : scanG gen (L.length + 1) L 0 = (want, T) := h.scan
  have hm := scan_more gen (L.length + 1) L 0 (L'.length + 1) (L'.drop T)
  rw [h2, Nat.zero_add] at hm
  have e : L.take (want, T).2 ++ L'.drop T = L' := by
    show L.take T ++ L'.drop T = L'
    rw [← hT, List.take_append_drop]
  rw [e] at hm
  show scanG gen (L'.length + 1) L' 0 = _
  rw [scan_fuel gen (L'.length + 1) L' 0 ((want, T).1.length + (L'.length + 1)) (by omega) (by omega)]
  exact hm
theorem JI.app (h : JI L gen R want T) (hg : gen ≠ 0) (hg2 : gen < 4294967296) (hR : R ≠ 0) (hR2 : R < 4294967296) (hb : b.length ≤ 4000) (hw : want.length + 1 < 4294967296) (hfit : T + partsN b.length ≤ L.length)
    (hL : L' = L.take T ++ (frameL gen R want.length b ++ L.drop (T + partsN b.length))) : JI L' gen R (want ++ [b]) (T + partsN b.length) := by
  have hp := partsN_pos hb
  have hFl := frameL_len gen R want.length b
  have hl : L'.length = L.length := by
    rw [hL, List.length_append, List.length_append, List.length_take, List.length_drop, hFl]; omega
  have hTl : (L.take T).length = T := by rw [List.length_take]; omega
  have hT : L'.take T = L.take T := by
    rw [hL, List.take_append_of_le_length (by omega), List.take_of_length_le (by omega)]
  have hD : L'.drop T = frameL gen R want.length b ++ L.drop (T + partsN b.length) := by
    rw [hL, List.drop_append_of_le_length (by omega), List.drop_of_length_le (by omega), List.nil_append]
  have hD2 : L'.drop (T + partsN b.length) = L.drop (T + partsN b.length) := by
    rw [← List.drop_drop, hD, List.drop_append_of_le_length (by omega), List.drop_of_length_le (by omega), List.nil_append]
  have hin : ∀ s ∈ L.drop (T + partsN b.length), s ∈ L.drop T := fun s hs => by
    rw [← List.drop_drop] at hs
    exact List.mem_of_mem_drop hs
  have hno : ¬ OKS (L.drop (T + partsN b.length)) gen (want.length + 1) := fun hO => by
    obtain ⟨k1, k2, _⟩ := oks_mem hO hg2 hw _ hO.head
    have := h.seq _ (hin _ (List.mem_of_mem_take hO.head)) k1
    omega
  have hst := frame_stands (seq := want.length) hg hR hR2 hb (L.drop (T + partsN b.length))
  refine ⟨?_, ?_, ?_, ?_⟩
  · rw [h.scanTo hT hl, hD]
    simp only [scanG, hst, if_neg (show ¬ partsN b.length = 0 by omega)]
    rw [show (frameL gen R want.length b ++ L.drop (T + partsN b.length)).drop (partsN b.length) = L.drop (T + partsN b.length) from (by rw [List.drop_append_of_le_length (by omega), List.drop_of_length_le (by omega), List.nil_append]), scan_none _ hno]
    rfl
  · rw [hD2]
    intro s hs hm
    have := h.seq s (hin s hs) hm
    rw [List.length_append]; omega
  · rw [hD2]
    exact fun s hs hm => h.rnd s (hin s hs) hm
  · rw [hL]
    intro s hs hm
    rcases List.mem_append.1 hs with hs | hs
    · exact h.all s (List.mem_of_mem_take hs) hm
    · rcases List.mem_append.1 hs with hs | hs
      · unfold frameL at hs
        obtain ⟨i, _, rfl⟩ := List.mem_map.1 hs
        rw [sec_round _ _ _ _ _ _ hR2]; exact Nat.le_refl _
      · exact h.all s (List.mem_of_mem_drop hs) hm
/-- some of an append's sectors, others as they were, others unreadable. -/
def Mix (L L' : List (List UInt8)) (T : Nat) (F : List (List UInt8)) : Prop :=
  L'.length = L.length ∧ ∀ i : Nat, L'[i]? = L[i]? ∨ ∃ t, i = T + t ∧ t < F.length ∧ (L'[i]? = F[t]? ∨ L'[i]? = some [])
theorem nil_mg (gen : Nat) : ¬ mg gen [] := fun h => by cases h.1
theorem JI.crash (h : JI L gen R want T) (hg : gen ≠ 0) (hg2 : gen < 4294967296) (hR : R ≠ 0) (hR2 : R < 4294967296) (hb : b.length ≤ 4000) (hw : want.length + 1 < 4294967296) (hfit : T + partsN b.length ≤ L.length)
    (hM : Mix L L' T (frameL gen R want.length b)) : ∃ want2 T2, (want2 = want ∨ want2 = want ++ [b]) ∧ JI L' gen (roundOf gen L' + 1) want2 T2 ∧ roundOf gen L' ≤ R := by
  obtain ⟨hl, hM⟩ := hM
  have hp := partsN_pos hb
  have hFl := frameL_len gen R want.length b
  have hT : L'.take T = L.take T := by
    apply List.ext_getElem?
    intro i
    by_cases hi : i < T
    · rw [List.getElem?_take_of_lt hi, List.getElem?_take_of_lt hi]
      rcases hM i with e | ⟨t, ht, _⟩
      · exact e
      · omega
    · rw [List.getElem?_eq_none (by rw [List.length_take]; omega), List.getElem?_eq_none (by rw [List.length_take]; omega)]
  have hscan := h.scanTo hT hl
  have inD : ∀ {M : List (List UInt8)} {i : Nat} {s : List UInt8}, M[T + i]? = some s → s ∈ M.drop T := fun {M i s} e => List.mem_of_getElem? (i := i) (by rw [List.getElem?_drop]; exact e)
  by_cases hO : OKS (L'.drop T) gen want.length
  · have hmem := oks_mem hO hg2 (by omega)
    have hc := hO.cnt
    have hcl := hO.2.2.1
    -- each of its sectors
    have hat : ∀ i, i < cntK (L'.drop T) → ∃ s, L'[T + i]? = some s ∧ mg gen s ∧ numB s 9 = want.length ∧ numB s 5 = numB ((L'.drop T).headD []) 5 := fun i hi => by
      have h1 : (L'.drop T)[i]? = some ((L'.drop T)[i]'(by omega)) := List.getElem?_eq_getElem (by omega)
      obtain ⟨k1, k2, k3⟩ := hmem _ (mem_take_of hi h1)
      exact ⟨_, by rw [← List.getElem?_drop]; exact h1, k1, k2, k3⟩
    have hhead : L'[T]? = some ((L'.drop T).headD []) := by
      have h0 := hO.1
      have e : (L'.drop T)[0]? = L'[T]? := by rw [List.getElem?_drop, Nat.add_zero]
      rw [← e]
      cases hd : L'.drop T with
      | nil => exact absurd hd h0
      | cons x r => rfl
    obtain ⟨hm0, _, _⟩ := hmem _ hO.head
    -- an old one?
    have old : L'[T]? = L[T]? → False := fun e => by
      have hr := h.rnd _ (inD (i := 0) (by rw [Nat.add_zero, ← e]; exact hhead)) hm0
      have heq : (L'.drop T).take (cntK (L'.drop T)) = (L.drop T).take (cntK (L'.drop T)) := by
        apply List.ext_getElem?
        intro i
        by_cases hi : i < cntK (L'.drop T)
        · rw [List.getElem?_take_of_lt hi, List.getElem?_take_of_lt hi, List.getElem?_drop, List.getElem?_drop]
          obtain ⟨s, k0, k1, k2, k3⟩ := hat i hi
          rcases hM (T + i) with e | ⟨t, ht, htl, e | e⟩
          · exact e
          · rw [k0, frame_get htl] at e
            rw [Option.some.inj e, sec_round _ _ _ _ _ _ hR2] at k3
            omega
          · rw [k0] at e
            rw [Option.some.inj e] at k1
            exact absurd k1 (nil_mg gen)
        · rw [List.getElem?_eq_none (by rw [List.length_take]; omega), List.getElem?_eq_none (by rw [List.length_take]; omega)]
      have hst := stand_more hO ((L.drop T).drop (cntK (L'.drop T)))
      rw [heq, List.take_append_drop] at hst
      have hstop := scan_stop gen (L.length + 1) L 0 (by omega)
      have h2 : scanG gen (L.length + 1) L 0 = (want, T) := h.scan
      rw [h2, Nat.zero_add] at hstop
      rw [standK_no hstop, standK_yes hO] at hst
      exact hc (congrArg Prod.snd hst).symm
    rcases hM T with e | ⟨t, ht, htl, e | e⟩
    · exact (old e).elim
    · have ht0 : t = 0 := by omega
      subst ht0
      rw [hhead, frame_get htl] at e
      have e := Option.some.inj e
      have hn : cntK (L'.drop T) = partsN b.length := by
        unfold cntK
        rw [e]
        show (UInt8.ofNat (partsN b.length)).toNat = _
        have := partsN_le b.length
        rw [UInt8.toNat_ofNat']; omega
      have hrd : numB ((L'.drop T).headD []) 5 = R := by rw [e, sec_round _ _ _ _ _ _ hR2]
      have hL : L' = L.take T ++ (frameL gen R want.length b ++ L.drop (T + partsN b.length)) := by
        apply List.ext_getElem?
        intro i
        have hTl : (L.take T).length = T := by rw [List.length_take]; omega
        rw [List.getElem?_append, hTl, List.getElem?_append, hFl]
        by_cases h0 : i < T
        · rw [if_pos h0, ← hT, List.getElem?_take_of_lt h0]
        · rw [if_neg h0]
          by_cases h1 : i - T < partsN b.length
          · rw [if_pos h1]
            obtain ⟨s, k0, k1, k2, k3⟩ := hat (i - T) (by omega)
            rw [show T + (i - T) = i by omega] at k0
            rcases hM i with e | ⟨t, ht, htl, e | e⟩
            · have := h.rnd s (inD (i := i - T) (by rw [show T + (i - T) = i by omega, ← e]; exact k0)) k1
              omega
            · rw [e]; congr 1; omega
            · rw [k0] at e
              rw [Option.some.inj e] at k1
              exact absurd k1 (nil_mg gen)
          · rw [if_neg h1, List.getElem?_drop, show T + partsN b.length + (i - T - partsN b.length) = i by omega]
            rcases hM i with e | ⟨t, ht, htl, _⟩
            · exact e
            · omega
      have hA := h.app hg hg2 hR hR2 hb hw hfit hL
      exact ⟨_, _, .inr rfl, hA.re, hA.le⟩
    · rw [hhead] at e
      rw [Option.some.inj e] at hm0
      exact absurd hm0 (nil_mg gen)
  · have hall : ∀ {i : Nat} {s : List UInt8}, L'[i]? = some s → mg gen s → s ∈ L ∧ L[i]? = some s ∨ (numB s 9 = want.length ∧ numB s 5 = R) := fun {i s} e hm => by
      rcases hM i with e2 | ⟨t, ht, htl, e2 | e2⟩
      · rw [e] at e2
        exact .inl ⟨List.mem_of_getElem? e2.symm, e2.symm⟩
      · rw [e, frame_get htl] at e2
        rw [Option.some.inj e2]
        exact .inr ⟨sec_seq _ _ _ _ _ _ (by omega), sec_round _ _ _ _ _ _ hR2⟩
      · rw [e] at e2
        rw [Option.some.inj e2] at hm
        exact absurd hm (nil_mg gen)
    have hdrop : ∀ s ∈ L'.drop T, ∃ i : Nat, L'[T + i]? = some s := fun s hs => by
      obtain ⟨i, hi⟩ := List.mem_iff_getElem?.1 hs
      exact ⟨i, by rw [← List.getElem?_drop]; exact hi⟩
    have hJ : JI L' gen (R + 1) want T := by
      refine ⟨by rw [hscan, scan_none _ hO, List.append_nil]; rfl, fun s hs hm => ?_, fun s hs hm => ?_, fun s hs hm => ?_⟩
      · obtain ⟨i, hi⟩ := hdrop s hs
        rcases hall hi hm with ⟨_, e⟩ | ⟨e, _⟩
        · exact h.seq s (inD e) hm
        · omega
      · obtain ⟨i, hi⟩ := hdrop s hs
        rcases hall hi hm with ⟨k, _⟩ | ⟨_, e⟩
        · have := h.all s k hm; omega
        · omega
      · obtain ⟨i, hi⟩ := List.mem_iff_getElem?.1 hs
        rcases hall hi hm with ⟨k, _⟩ | ⟨_, e⟩
        · have := h.all s k hm; omega
        · omega
    have hle : roundOf gen L' ≤ R := roundOf_le L' 0 (Nat.zero_le _) fun s hs hm => by
      obtain ⟨i, hi⟩ := List.mem_iff_getElem?.1 hs
      rcases hall hi hm with ⟨k, _⟩ | ⟨_, e⟩
      · exact h.all s k hm
      · omega
    exact ⟨want, T, .inl rfl, hJ.re, hle⟩
end
end Go.Proofs.Ytgcjipbahfpopaa

/- Journal: plainly: an append on a disk that may go down in its midst. -/
set_option linter.unusedVariables false
set_option linter.unusedSimpArgs false
set_option maxRecDepth 20000
set_option maxHeartbeats 2000000
namespace Go.Proofs.Ytgcjipbahfpopaa
open Go Go.Mx Go.Proofs
theorem write_any {d : DS} (h : d.down = false) {i : Int} (h0 : 0 ≤ i) (h1 : i < d.good.length) {b : List UInt8} (hb : b.length = 64) :
    ((writeD d i b).2 = 0 ∧ (writeD d i b).1.down = false ∧ (writeD d i b).1.good = d.good ∧ (writeD d i b).1.pend = d.pend ++ [⟨i, ⟨b, false, hb⟩⟩]) ∨
    ((writeD d i b).2 = 19 ∧ (writeD d i b).1.down = true ∧ (writeD d i b).1.good = d.good ∧ (writeD d i b).1.pend = d.pend ++ [⟨i, ⟨b, true, hb⟩⟩]) := by
  unfold writeD
  rw [if_pos (hasD_up h h0 h1), dif_pos hb]
  split
  · split
    · exact .inr ⟨rfl, rfl, rfl, rfl⟩
    · exact .inl ⟨rfl, h, rfl, rfl⟩
  · exact .inl ⟨rfl, h, rfl, rfl⟩
theorem read_put {d d2 : DS} (h : d.down = false) (h2 : d2.down = false) {i : Int} (h0 : 0 ≤ i) (h1 : i < d.good.length) {b : List UInt8} (hb : b.length = 64) (hg : d2.good = d.good) (hp : d2.pend = d.pend ++ [⟨i, ⟨b, false, hb⟩⟩]) (j : Int) :
    readD d2 j = if j = i then (b, 0) else readD d j := by
  have hs : readS d2 j = if i = j then ⟨b, false, hb⟩ else readS d j := by
    unfold readS
    rw [hg, hp]
    exact lastP_snoc j _ _ _
  have hh : hasD d2 j = hasD d j := by unfold hasD; rw [h, h2, hg]
  unfold readD
  rw [hs, hh]
  by_cases e : j = i
  · subst e
    rw [if_pos (hasD_up h h0 h1), if_pos rfl, if_pos rfl]; rfl
  · rw [if_neg (show ¬ i = j from fun e2 => e e2.symm), if_neg e]
theorem sync_any {d : DS} (h : d.down = false) : (syncD d).2 = 0 ∧ (syncD d).1.down = false ∧ (syncD d).1.pend = [] ∧ (syncD d).1.good.length = d.good.length := by
  unfold syncD
  rw [h]
  exact ⟨rfl, h, rfl, settleL_len _ _ _ _⟩
theorem read_sync2 {m : Nat} {d : DS} (h : d.down = false) (ok : d.ok m) (j : Int) : readD (syncD d).1 j = readD d j := by
  have hh : hasD (syncD d).1 j = hasD d j := by
    unfold hasD
    rw [(sync_any h).2.1, h, (sync_any h).2.2.2]
  unfold readD
  rw [hh]
  by_cases e : hasD d j = 0
  · rw [if_pos e, if_pos e]
    have hr : 0 ≤ j ∧ j < d.good.length := by
      unfold hasD at e
      rw [h] at e
      rw [if_neg (by decide)] at e
      split at e
      · cases e
      · omega
    obtain ⟨k, rfl⟩ := Int.eq_ofNat_of_zero_le hr.1
    have hs : readS (syncD d).1 k = readS d k := by
      unfold syncD
      rw [h]
      show (settleL (fun _ => true) 0 d.good d.pend)[k]?.getD Sec.z = lastP k (d.good[k]?.getD Sec.z) d.pend
      exact settle_all _ _ _ (by omega) fun x hx => (ok.at_ x hx).1
    rw [hs]
  · rw [if_neg e, if_neg e]
theorem writes_any : ∀ (f : List (List UInt8)) (d : DS) (m : Nat) (i : Int), d.down = false → d.ok m → 0 ≤ i → i + f.length ≤ d.good.length → (∀ s ∈ f, s.length = 64) →
    (writesD d i f).1.good = d.good ∧ (((writesD d i f).2 = 0 ∧ (writesD d i f).1.down = false ∧ ∀ j : Int, readD (writesD d i f).1 j = if i ≤ j ∧ j < i + f.length then (f[(j - i).toNat]?.getD [], 0) else readD d j) ∨
      ((writesD d i f).2 = 19 ∧ (writesD d i f).1.down = true ∧ ∀ x ∈ (writesD d i f).1.pend, x ∈ d.pend ∨ ∃ t : Nat, t < f.length ∧ x.i = i + t ∧ f[t]? = some x.s.b))
  | [], d, m, i, h, ok, h0, h1, hs => ⟨rfl, .inl ⟨rfl, h, fun j => by
    rw [if_neg (by simp only [List.length_nil]; omega)]; rfl⟩⟩
  | x :: r, d, m, i, h, ok, h0, h1, hs => by
    rw [List.length_cons] at h1
    have hx : x.length = 64 := hs x (by simp)
    rcases write_any h h0 (by omega) hx with ⟨a1, a2, a3, a4⟩ | ⟨a1, a2, a3, a4⟩
    · have hd : writesD d i (x :: r) = writesD (writeD d i x).1 (i + 1) r := by
        rw [writesD, if_neg (not_not_intro a1)]
      rw [hd]
      obtain ⟨g, ih⟩ := writes_any r (writeD d i x).1 (m + 1) (i + 1) a2 (writeD_ok ok i x) (by omega) (by rw [a3]; omega) fun s hs' => hs s (by simp [hs'])
      refine ⟨g.trans a3, ?_⟩
      rcases ih with ⟨b1, b2, b3⟩ | ⟨b1, b2, b3⟩
      · refine .inl ⟨b1, b2, fun j => ?_⟩
        rw [b3 j, read_put h a2 h0 (by omega) hx a3 a4, List.length_cons]
        by_cases e : j = i
        · subst e
          rw [if_neg (by omega), if_pos rfl, if_pos (by omega), show (j - j).toNat = 0 by omega]; rfl
        · by_cases e2 : i + 1 ≤ j ∧ j < i + 1 + r.length
          · rw [if_pos e2, if_pos (by omega), show (j - i).toNat = (j - (i + 1)).toNat + 1 by omega, List.getElem?_cons_succ]
          · rw [if_neg e2, if_neg e, if_neg (by omega)]
      · refine .inr ⟨b1, b2, fun y hy => ?_⟩
        rcases b3 y hy with hy | ⟨t, t1, t2, t3⟩
        · rw [a4] at hy
          rcases List.mem_append.1 hy with hy | hy
          · exact .inl hy
          · rw [List.mem_singleton.1 hy]
            exact .inr ⟨0, by simp, by show i = i + ((0 : Nat) : Int); omega, rfl⟩
        · exact .inr ⟨t + 1, by rw [List.length_cons]; omega, by omega, t3⟩
    · have hd : writesD d i (x :: r) = writeD d i x := by
        rw [writesD, if_pos (by rw [a1]; decide)]
      rw [hd]
      refine ⟨a3, .inr ⟨a1, a2, fun y hy => ?_⟩⟩
      rw [a4] at hy
      rcases List.mem_append.1 hy with hy | hy
      · exact .inl hy
      · rw [List.mem_singleton.1 hy]
        exact .inr ⟨0, by simp, by show i = i + ((0 : Nat) : Int); omega, rfl⟩
theorem settle_some (k : Nat → Bool) {j : Nat} : ∀ (l : List Wt) (t : Nat) (gl : List Sec), (settleL k t gl l)[j]? = gl[j]? ∨ ∃ x ∈ l, x.i.toNat = j ∧ (settleL k t gl l)[j]? = some x.s
  | [], _, _ => .inl rfl
  | x :: r, t, gl => by
    rw [settleL]
    rcases settle_some k r (t + 1) (if k t then gl.set x.i.toNat x.s else gl) with e | ⟨y, hy, h1, h2⟩
    · rw [e]
      split
      · by_cases hx : x.i.toNat = j
        · by_cases hj : j < gl.length
          · exact .inr ⟨x, by simp, hx, by rw [hx]; exact List.getElem?_set_self hj⟩
          · left
            rw [List.getElem?_eq_none (by rw [List.length_set]; omega), List.getElem?_eq_none (by omega)]
        · exact .inl (List.getElem?_set_ne hx)
      · exact .inl rfl
    · exact .inr ⟨y, by simp [hy], h1, h2⟩
/-- an append: as a whole, or in its midst the disk went down. -/
theorem append_any {d : DS} {m : Nat} {J : JS} {b : List UInt8} (h : d.down = false) (hp0 : d.pend = []) (ok : d.ok m) (hJ : J.ok) (hgen : J.gen ≠ 0) (hro : J.round ≠ 0) (hd : J.dead = false) (hb : b.length ≤ 4000)
    (hfit : J.tail + partsN b.length ≤ J.size) (hdisk : J.base + J.size ≤ d.good.length) {size T : Nat} (hsz : (size : Int) = J.size) (hT : (T : Int) = J.tail) :
    (appendJ d J b).1.1.good.length = d.good.length ∧
    (((appendJ d J b).2 = 0 ∧ (appendJ d J b).1.1.down = false ∧ (appendJ d J b).1.1.pend = [] ∧ (appendJ d J b).1.2 = { J with tail := J.tail + partsN b.length, seq := J.seq + 1 } ∧
      readsD (appendJ d J b).1.1 J.base.toNat size = (readsD d J.base.toNat size).take T ++ (frameL J.gen J.round J.seq.toNat b ++ (readsD d J.base.toNat size).drop (T + partsN b.length))) ∨
    ((appendJ d J b).2 = 19 ∧ (appendJ d J b).1.1.down = true ∧ (appendJ d J b).1.2 = { J with dead := true } ∧ ∀ keep, Mix (readsD d J.base.toNat size) (readsD (restartD (appendJ d J b).1.1 keep) J.base.toNat size) T (frameL J.gen J.round J.seq.toNat b))) := by
  have hp := partsN_pos hb
  obtain ⟨⟨hb0, hb1⟩, ⟨hs0, hs1⟩, hgen2, hrd, ⟨ht0, ht1⟩, ⟨hq0, hq1⟩⟩ := hJ
  have hF : appendF J b = frameL J.gen J.round J.seq.toNat b := by
    unfold appendF frameK
    rw [if_neg (by omega), if_neg (by omega)]
  have hFl : (appendF J b).length = partsN b.length := by rw [hF, frameL_len]
  have hF64 : ∀ s ∈ appendF J b, s.length = 64 := fun s hs => by rw [hF] at hs; exact (sec_mark hs).2
  obtain ⟨wg, hcase⟩ := writes_any (appendF J b) d m (J.base + J.tail) h ok (by omega) (by rw [hFl]; omega) hF64
  have wok := writesD_ok (f := appendF J b) (i := J.base + J.tail) ok
  rcases hcase with ⟨w0, wd, wr⟩ | ⟨w0, wd, wp⟩
  · obtain ⟨s0, sd, sp, sl⟩ := sync_any wd
    have hA : appendJ d J b = (((syncD (writesD d (J.base + J.tail) (appendF J b)).1).1, { J with tail := J.tail + partsN b.length, seq := J.seq + 1 }), 0) := by
      unfold appendJ
      rw [if_neg (by omega), if_neg (by rw [hd]; decide), if_neg (by omega), if_neg (not_not_intro w0), if_neg (not_not_intro s0)]
    rw [hA]
    refine ⟨sl.trans (by rw [wg]), .inl ⟨rfl, sd, sp, rfl, ?_⟩⟩
    rw [← hF, ← hFl]
    refine reads_cut (by rw [hFl]; omega) fun j => ?_
    show (readD (syncD (writesD d (J.base + J.tail) (appendF J b)).1).1 j).1 = _
    rw [read_sync2 wd wok, wr, show ((J.base.toNat : Int)) = J.base by omega, hT]
    split <;> rfl
  · have hA : appendJ d J b = (((writesD d (J.base + J.tail) (appendF J b)).1, { J with dead := true }), 19) := by
      unfold appendJ
      rw [if_neg (by omega), if_neg (by rw [hd]; decide), if_neg (by omega), if_pos (by rw [w0]; decide), w0]
    rw [hA]
    refine ⟨by show (writesD d (J.base + J.tail) (appendF J b)).1.good.length = _; rw [wg], .inr ⟨rfl, wd, rfl, fun keep => ⟨by rw [readsD_len, readsD_len], fun i => ?_⟩⟩⟩
    rw [reads_get, reads_get]
    by_cases hi : i < size
    · rw [if_pos hi, if_pos hi, show ((J.base.toNat : Int)) = J.base by omega]
      obtain ⟨D, hD⟩ : ∃ D, restartD (writesD d (J.base + J.tail) (appendF J b)).1 keep = D := ⟨_, rfl⟩
      have hDg : D.good = settleL (keepF keep) 0 d.good (writesD d (J.base + J.tail) (appendF J b)).1.pend := by rw [← hD, ← wg]; rfl
      have hDp : D.pend = [] := by rw [← hD]; rfl
      have hDd : D.down = false := by rw [← hD]; rfl
      rw [hD]
      have hDl : D.good.length = d.good.length := by rw [hDg]; exact settleL_len _ _ _ _
      have hh : hasD D (J.base + i) = 0 := hasD_up hDd (by omega) (by omega)
      have hh2 : hasD d (J.base + i) = 0 := hasD_up h (by omega) (by omega)
      have hS : readS D (J.base + i) = D.good[(J.base + (i : Int)).toNat]?.getD Sec.z := by unfold readS; rw [hDp]; rfl
      have hS2 : readS d (J.base + i) = d.good[(J.base + (i : Int)).toNat]?.getD Sec.z := by unfold readS; rw [hp0]; rfl
      unfold readD
      rw [if_pos hh, if_pos hh2, hS, hS2, hDg]
      rcases settle_some (keepF keep) (j := (J.base + (i : Int)).toNat) (writesD d (J.base + J.tail) (appendF J b)).1.pend 0 d.good with e | ⟨x, hx, x1, x2⟩
      · rw [e]; exact .inl rfl
      · rcases wp x hx with hx | ⟨t, t1, t2, t3⟩
        · rw [hp0] at hx; cases hx
        · rw [x2]
          refine .inr ⟨t, by omega, by rw [← hF]; exact t1, ?_⟩
          show (some (if x.s.torn = true then ([], (5 : Int)) else (x.s.b, 0)).1 = _) ∨ (some (if x.s.torn = true then ([], (5 : Int)) else (x.s.b, 0)).1 = _)
          rw [← hF, t3]
          cases x.s.torn
          · exact .inl rfl
          · exact .inr rfl
    · rw [if_neg hi, if_neg hi]; exact .inl rfl
end Go.Proofs.Ytgcjipbahfpopaa

/- JournalCrash, plainly: a journal through appends and crashes. -/
set_option linter.unusedVariables false
set_option linter.unusedSimpArgs false
set_option maxRecDepth 20000
set_option maxHeartbeats 2000000
namespace Go.Proofs.Ytgcjipbahfpopaa
open Go Go.Mx Go.Proofs
theorem JI.blank {L : List (List UInt8)} {gen R : Nat} (hg : gen < 4294967296) (h : ∀ s ∈ L, ¬ mg gen s) : JI L gen R [] 0 := by
  refine ⟨?_, fun s hs hm => absurd hm (h s (List.mem_of_mem_drop hs)), fun s hs hm => absurd hm (h s (List.mem_of_mem_drop hs)), fun s hs hm => absurd hm (h s hs)⟩
  refine scan_none (L.length + 1) fun hO => ?_
  exact h _ (List.mem_of_mem_take hO.head) (oks_mem hO hg (by decide) _ hO.head).1
/-- a journal on a disk that is up, behind t acts. -/
structure CS (d : DS) (J : JS) (want : List (List UInt8)) (gen size T t : Nat) : Prop where
  down : d.down = false
  pend : d.pend = []
  ok : d.ok (100 * t)
  good : d.good.length = 60
  base : J.base = 0
  jsize : J.size = size
  jgen : J.gen = gen
  round : 1 ≤ J.round ∧ J.round ≤ t + 1
  tail : J.tail = T
  seq : J.seq = want.length
  dead : J.dead = false
  ji : JI (readsD d 0 size) gen J.round want T
  len : want.length ≤ t
section
variable {d : DS} {J : JS} {want : List (List UInt8)} {gen size T t : Nat} {b : List UInt8}
theorem CS.up (h : CS d J want gen size T t) : CS d J want gen size T (t + 1) :=
  ⟨h.down, h.pend, h.ok.up (by omega), h.good, h.base, h.jsize, h.jgen, ⟨h.round.1, Nat.le_succ_of_le h.round.2⟩, h.tail, h.seq, h.dead, h.ji, Nat.le_succ_of_le h.len⟩
theorem CS.tl (h : CS d J want gen size T t) : T ≤ size ∧ want.length ≤ T := by
  have := h.ji.len
  rw [readsD_len] at this
  exact this
theorem CS.jok (h : CS d J want gen size T t) (hg : gen < 4294967296) (hs : size ≤ 60) (ht : t ≤ 100) : J.ok := by
  have h1 := h.tl
  have h2 := h.round
  have h3 := h.base
  have h4 := h.jsize
  have h5 := h.jgen
  have h6 := h.tail
  have h7 := h.seq
  exact ⟨by omega, by omega, by omega, by omega, by omega, by omega⟩
theorem CS.arm (h : CS d J want gen size T t) {n : Int} (hn : 0 ≤ n) (hn2 : n < 9223372036854775808) : CS (armD d n).1 J want gen size T t ∧ (armD d n).2 = 0 := by
  have e : armD d n = ({ d with left := n, armed := true }, 0) := by
    unfold armD
    rw [h.down, if_neg (by decide), if_neg (by omega)]
  have ok := armD_ok (d := d) h.ok hn2
  rw [e] at ok ⊢
  exact ⟨⟨h.down, h.pend, ok, h.good, h.base, h.jsize, h.jgen, h.round, h.tail, h.seq, h.dead, h.ji, h.len⟩, rfl⟩
theorem open_up {d : DS} (hd : d.down = false) (hg : d.good.length = 60) (h1 : 1 ≤ size) (h2 : size ≤ 60) (h0 : gen ≠ 0) {R : Nat} (h : JI (readsD d 0 size) gen R want T) (hR : R < 4294967295) :
    openK d 0 size gen = (some ⟨0, size, gen, roundOf gen (readsD d 0 size) + 1, T, want.length, false⟩, want, 0) := by
  have hst : stretchK d 0 size gen = (readsD d 0 size, 0) := by
    unfold stretchK
    rw [if_neg (by omega), hd]; rfl
  have hr := h.le
  have hsc := h.scan
  have hrr : (scanK (readsD d 0 size) gen).2 = roundOf gen (readsD d 0 size) := rfl
  unfold openK
  rw [hst]
  rw [if_neg (show ¬ ((readsD d 0 size, (0 : Int)).2 ≠ 0) from not_not_intro rfl)]
  rw [if_neg (show ¬ (scanK (readsD d 0 size, (0 : Int)).1 gen).2 = 4294967295 from (by show ¬ roundOf gen (readsD d 0 size) = 4294967295; omega))]
  show (some (JS.mk 0 size gen (roundOf gen (readsD d 0 size) + 1) (((scanK (readsD d 0 size) gen).1.2 : Nat) : Int) (((scanK (readsD d 0 size) gen).1.1.length : Nat) : Int) false), (scanK (readsD d 0 size) gen).1.1, (0 : Int)) = _
  rw [hsc]
/-- an act. -/
theorem CS.act (h : CS d J want gen size T t) (h1 : 1 ≤ size) (h2 : size ≤ 60) (h0 : gen ≠ 0) (hg : gen < 4294967296) (ht : t ≤ 100) (hb : b.length ≤ 500) :
    ((appendJ d J b).2 = 0 ∧ CS (appendJ d J b).1.1 (appendJ d J b).1.2 (want ++ [b]) gen size (T + partsN b.length) (t + 1)) ∨
    ((appendJ d J b).2 = 18 ∧ (appendJ d J b).1 = (d, J) ∧ (size : Int) - T < partsN b.length) ∨
    ((appendJ d J b).2 = 19 ∧ (appendJ d J b).1.1.down = true ∧ (appendJ d J b).1.2.dead = true ∧ (appendJ d J b).1.2.ok ∧ (appendJ d J b).1.1.ok (100 * (t + 1)) ∧ ∀ keep, ∃ want2 T2 J2, (want2 = want ∨ want2 = want ++ [b]) ∧ openK (restartD (appendJ d J b).1.1 keep) 0 size gen = (some J2, want2, 0) ∧
      CS (restartD (appendJ d J b).1.1 keep) J2 want2 gen size T2 (t + 1)) := by
  have hj := h.jok hg h2 ht
  have hp := partsN_pos (n := b.length) (by omega)
  have htl := h.tl
  have hrd := h.round
  have hbs := h.base
  have hsz := h.jsize
  have hgn := h.jgen
  have hta := h.tail
  have hsq := h.seq
  have hgo := h.good
  have hln := h.len
  have kA := (appendJ_ok h.ok J b).up (n := 100 * (t + 1)) (by omega)
  by_cases hf : (partsN b.length : Int) ≤ (size : Int) - T
  · have hjb : J.base.toNat = 0 := by omega
    have hjq : J.seq.toNat = want.length := by omega
    obtain ⟨gl, hc⟩ := append_any h.down h.pend h.ok hj (by omega) (by omega) h.dead (b := b) (by omega) (by omega) (by omega) (size := size) (T := T) (by omega) (by omega)
    rw [hjb, hjq, hgn] at hc
    rcases hc with ⟨c1, c2, c3, c4, c5⟩ | ⟨c1, c2, c3, c4⟩
    · refine .inl ⟨c1, c2, c3, kA, gl.trans hgo, ?_, ?_, ?_, ?_, ?_, ?_, ?_, ?_, ?_⟩
      · rw [c4]; exact hbs
      · rw [c4]; exact hsz
      · rw [c4]
      · rw [c4]; exact ⟨hrd.1, by show J.round ≤ _; omega⟩
      · rw [c4]; show J.tail + (partsN b.length : Int) = ((T + partsN b.length : Nat) : Int); omega
      · rw [c4]; show J.seq + 1 = (((want ++ [b]).length : Nat) : Int); rw [List.length_append]; show J.seq + 1 = ((want.length + 1 : Nat) : Int); omega
      · rw [c4]; exact h.dead
      · rw [c4]
        exact h.ji.app h0 hg (by omega) (by omega) (by omega) (by omega) (by rw [readsD_len]; omega) c5
      · rw [List.length_append]; show want.length + 1 ≤ _; omega
    · refine .inr (.inr ⟨c1, c2, by rw [c3], by rw [c3, ← hgn]; exact ⟨hj.base, hj.size, hj.gen, hj.round, hj.tail, hj.seq⟩, kA, fun keep => ?_⟩)
      obtain ⟨w2, T2, hw, hji, hle⟩ := h.ji.crash h0 hg (by omega) (by omega) (by omega) (by omega) (by rw [readsD_len]; omega) (c4 keep)
      have rok := restartD_ok kA keep
      have hgl : (restartD (appendJ d J b).1.1 keep).good.length = 60 := by
        show (settleL _ 0 _ _).length = 60
        rw [settleL_len]; exact gl.trans hgo
      have hO := open_up (d := restartD (appendJ d J b).1.1 keep) rfl hgl h1 h2 h0 hji (by omega)
      refine ⟨w2, T2, _, hw, hO, ⟨rfl, rfl, rok, hgl, rfl, rfl, rfl, ⟨by show 1 ≤ roundOf _ _ + 1; omega, by show roundOf _ _ + 1 ≤ _; omega⟩, rfl, rfl, rfl, hji, ?_⟩⟩
      rcases hw with rfl | rfl
      · omega
      · rw [List.length_append]; show want.length + 1 ≤ _; omega
  · have e : appendJ d J b = ((d, J), 18) := by
      unfold appendJ
      rw [if_neg (by omega), h.dead, if_neg (by decide), if_pos (by omega)]
    rw [e]
    exact .inr (.inl ⟨rfl, rfl, by omega⟩)
end
theorem new_read (n : Nat) (i : Int) : (readD (newDS n) i).1 = List.replicate 64 0 ∨ (readD (newDS n) i).1 = [] := by
  have hs : readS (newDS n) i = Sec.z := by
    unfold readS newDS
    show ((List.replicate n Sec.z)[i.toNat]?).getD Sec.z = Sec.z
    rw [List.getElem?_replicate]
    split <;> rfl
  unfold readD
  rw [hs]
  split
  · exact .inl rfl
  · exact .inr rfl
theorem new_blank {size gen : Nat} : ∀ s ∈ readsD (newDS 60) 0 size, ¬ mg gen s := fun s hs hm => by
  unfold readsD at hs
  obtain ⟨i, _, rfl⟩ := List.mem_map.1 hs
  rcases new_read 60 (((0 : Nat) : Int) + (i : Int)) with e | e
  · rw [e] at hm
    have : (0 : Nat) = 197 := hm.2.1
    omega
  · rw [e] at hm
    exact nil_mg gen hm
theorem CS.new {size gen : Nat} (h1 : 1 ≤ size) (h2 : size ≤ 60) (h0 : gen ≠ 0) (hg : gen < 4294967296) : ∃ J, openK (newDS 60) 0 size gen = (some J, [], 0) ∧ CS (newDS 60) J [] gen size 0 0 := by
  have hji : JI (readsD (newDS 60) 0 size) gen 0 [] 0 := JI.blank hg new_blank
  have hgl : (newDS 60).good.length = 60 := by simp [newDS]
  refine ⟨_, open_up (d := newDS 60) rfl hgl h1 h2 h0 hji (by decide), ⟨rfl, rfl, newDS_ok (by decide) (by decide), hgl, rfl, rfl, rfl, ⟨?_, ?_⟩, rfl, rfl, rfl, hji.re, Nat.le_refl _⟩⟩
  · show 1 ≤ roundOf _ _ + 1; omega
  · show roundOf _ _ + 1 ≤ 0 + 1; have := hji.le; omega
end Go.Proofs.Ytgcjipbahfpopaa
