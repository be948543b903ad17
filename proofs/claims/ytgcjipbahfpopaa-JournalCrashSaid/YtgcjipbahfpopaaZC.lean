/- Journal: predicates of a journal on a disk. -/
import Derived.Test.YtgcjipbahfpopaaZB
set_option linter.unusedVariables false
set_option linter.unusedSimpArgs false
set_option maxRecDepth 20000
set_option maxHeartbeats 4000000
namespace Go.Proofs.Ytgcjipbahfpopaa
open Go Go.Mx Go.Proofs
/-- journal.stretch -/
def journal_stretch.M (d1 : Option Addr) (a1 : Int) (a2 : Int) (ag : Int) (R : Value → World → Prop) (w : World) : Prop :=
 Calls Try.prog 53 #[.pointer d1] w fun co a3 => ∃ (a0 : Int), co = .returned (.int .i64 a0) ∧
 bif Option.isNone d1 then (
 bif ag != 0 then (
 bif decide (a1 ≥ 0) then (
 bif decide (a2 ≥ 1) then (
 R (.tuple #[.slice none 0 0, .int .i64 23]) a3) else (
 bif ag == 0 then (
 R (.tuple #[.slice none 0 0, .int .i64 1]) a3) else (
 bif decide (a1 < 0) then (
 R (.tuple #[.slice none 0 0, .int .i64 1]) a3) else (
 bif decide (a2 < 1) then (
 R (.tuple #[.slice none 0 0, .int .i64 1]) a3) else (
 bif decide (a1 > a0) then (
 R (.tuple #[.slice none 0 0, .int .i64 1]) a3) else (
 bif decide (a2 > (IntKind.i64.wrap (a0 - a1))) then (
 R (.tuple #[.slice none 0 0, .int .i64 1]) a3) else (
 Calls Try.prog 24 #[.pointer d1] a3 fun cn bl => ∃ (ak : Bool), cn = .returned (.bool ak) ∧
 bif ak then (
 R (.tuple #[.slice none 0 0, .int .i64 19]) bl) else (
 ∃ (I1 : Nat → List Value → World → Prop) (cm : Nat), I1 cm [.slice none 0 0, .int .i64 0] bl ∧ ∀ (ch : Nat) (b2 : World) (ap : Option Addr) (aw : Nat) (b3 : Nat) (bz : Int), I1 ch [.slice ap aw b3, .int .i64 bz] b2 →
 bif decide (bz < a2) then (
 Calls Try.prog 50 #[.pointer d1, .int .i64 (IntKind.i64.wrap (a1 + bz))] b2 fun c5 bp => ∃ (ae : Option Addr) (a9 : Nat) (a5 : Nat) (ao : Int), c5 = .returned (.tuple #[.slice ae a9 a5, .int .i64 ao]) ∧
 thenW (bp.alloc (.cells #[.slice ae a9 a5] 23)) fun c9 =>
 ∃ (ba : Option Addr) (bo : Nat) (bb : Nat) (bq : World), (Builtin.append_ #[25, 25] 25 #[.slice ap aw b3, .slice (some (blk bp.heap.size)) 1 1]).run Try.prog c9 = .ok (.slice ba bo bb) bq ∧
 ∃ cd, cd < ch ∧ I1 cd [.slice ba bo bb, .int .i64 (IntKind.i64.wrap (bz + 1))] bq) else (
 R (.tuple #[.slice ap aw b3, .int .i64 0]) b2))))))))) else (
 bif ag == 0 then (
 R (.tuple #[.slice none 0 0, .int .i64 1]) a3) else (
 bif decide (a1 < 0) then (
 R (.tuple #[.slice none 0 0, .int .i64 1]) a3) else (
 bif decide (a2 < 1) then (
 R (.tuple #[.slice none 0 0, .int .i64 1]) a3) else (
 bif decide (a1 > a0) then (
 R (.tuple #[.slice none 0 0, .int .i64 1]) a3) else (
 bif decide (a2 > (IntKind.i64.wrap (a0 - a1))) then (
 R (.tuple #[.slice none 0 0, .int .i64 1]) a3) else (
 Calls Try.prog 24 #[.pointer d1] a3 fun c6 be => ∃ (aj : Bool), c6 = .returned (.bool aj) ∧
 bif aj then (
 R (.tuple #[.slice none 0 0, .int .i64 19]) be) else (
 ∃ (I1 : Nat → List Value → World → Prop) (cl : Nat), I1 cl [.slice none 0 0, .int .i64 0] be ∧ ∀ (ce : Nat) (au : World) (av : Option Addr) (b6 : Nat) (b4 : Nat) (bv : Int), I1 ce [.slice av b6 b4, .int .i64 bv] au →
 bif decide (bv < a2) then (
 Calls Try.prog 50 #[.pointer d1, .int .i64 (IntKind.i64.wrap (a1 + bv))] au fun ca bt => ∃ (a7 : Option Addr) (ac : Nat) (a4 : Nat) (b1 : Int), ca = .returned (.tuple #[.slice a7 ac a4, .int .i64 b1]) ∧
 thenW (bt.alloc (.cells #[.slice a7 ac a4] 23)) fun c8 =>
 ∃ (bd : Option Addr) (bj : Nat) (bs : Nat) (bn : World), (Builtin.append_ #[25, 25] 25 #[.slice av b6 b4, .slice (some (blk bt.heap.size)) 1 1]).run Try.prog c8 = .ok (.slice bd bj bs) bn ∧
 ∃ cf, cf < ce ∧ I1 cf [.slice bd bj bs, .int .i64 (IntKind.i64.wrap (bv + 1))] bn) else (
 R (.tuple #[.slice av b6 b4, .int .i64 0]) au))))))))) else (
 bif ag == 0 then (
 R (.tuple #[.slice none 0 0, .int .i64 1]) a3) else (
 bif decide (a1 < 0) then (
 R (.tuple #[.slice none 0 0, .int .i64 1]) a3) else (
 bif decide (a2 < 1) then (
 R (.tuple #[.slice none 0 0, .int .i64 1]) a3) else (
 bif decide (a1 > a0) then (
 R (.tuple #[.slice none 0 0, .int .i64 1]) a3) else (
 bif decide (a2 > (IntKind.i64.wrap (a0 - a1))) then (
 R (.tuple #[.slice none 0 0, .int .i64 1]) a3) else (
 Calls Try.prog 24 #[.pointer d1] a3 fun c2 bh => ∃ (ai : Bool), c2 = .returned (.bool ai) ∧
 bif ai then (
 R (.tuple #[.slice none 0 0, .int .i64 19]) bh) else (
 ∃ (I1 : Nat → List Value → World → Prop) (cj : Nat), I1 cj [.slice none 0 0, .int .i64 0] bh ∧ ∀ (cb : Nat) (b0 : World) (al : Option Addr) (am : Nat) (b5 : Nat) (bw : Int), I1 cb [.slice al am b5, .int .i64 bw] b0 →
 bif decide (bw < a2) then (
 Calls Try.prog 50 #[.pointer d1, .int .i64 (IntKind.i64.wrap (a1 + bw))] b0 fun c1 bu => ∃ (af : Option Addr) (ad : Nat) (ab : Nat) (an : Int), c1 = .returned (.tuple #[.slice af ad ab, .int .i64 an]) ∧
 thenW (bu.alloc (.cells #[.slice af ad ab] 23)) fun c0 =>
 ∃ (b8 : Option Addr) (bk : Nat) (br : Nat) (bm : World), (Builtin.append_ #[25, 25] 25 #[.slice al am b5, .slice (some (blk bu.heap.size)) 1 1]).run Try.prog c0 = .ok (.slice b8 bk br) bm ∧
 ∃ cg, cg < cb ∧ I1 cg [.slice b8 bk br, .int .i64 (IntKind.i64.wrap (bw + 1))] bm) else (
 R (.tuple #[.slice al am b5, .int .i64 0]) b0))))))))) else (
 bif ag == 0 then (
 R (.tuple #[.slice none 0 0, .int .i64 1]) a3) else (
 bif decide (a1 < 0) then (
 R (.tuple #[.slice none 0 0, .int .i64 1]) a3) else (
 bif decide (a2 < 1) then (
 R (.tuple #[.slice none 0 0, .int .i64 1]) a3) else (
 bif decide (a1 > a0) then (
 R (.tuple #[.slice none 0 0, .int .i64 1]) a3) else (
 bif decide (a2 > (IntKind.i64.wrap (a0 - a1))) then (
 R (.tuple #[.slice none 0 0, .int .i64 1]) a3) else (
 Calls Try.prog 24 #[.pointer d1] a3 fun c3 bc => ∃ (ah : Bool), c3 = .returned (.bool ah) ∧
 bif ah then (
 R (.tuple #[.slice none 0 0, .int .i64 19]) bc) else (
 ∃ (I1 : Nat → List Value → World → Prop) (ck : Nat), I1 ck [.slice none 0 0, .int .i64 0] bc ∧ ∀ (cc : Nat) (ay : World) (ar : Option Addr) (az : Nat) (aq : Nat) (bx : Int), I1 cc [.slice ar az aq, .int .i64 bx] ay →
 bif decide (bx < a2) then (
 Calls Try.prog 50 #[.pointer d1, .int .i64 (IntKind.i64.wrap (a1 + bx))] ay fun c7 bg => ∃ (aa : Option Addr) (a8 : Nat) (a6 : Nat) (ax : Int), c7 = .returned (.tuple #[.slice aa a8 a6, .int .i64 ax]) ∧
 thenW (bg.alloc (.cells #[.slice aa a8 a6] 23)) fun c4 =>
 ∃ (b7 : Option Addr) (bf : Nat) (b9 : Nat) (bi : World), (Builtin.append_ #[25, 25] 25 #[.slice ar az aq, .slice (some (blk bg.heap.size)) 1 1]).run Try.prog c4 = .ok (.slice b7 bf b9) bi ∧
 ∃ ci, ci < cc ∧ I1 ci [.slice b7 bf b9, .int .i64 (IntKind.i64.wrap (bx + 1))] bi) else (
 R (.tuple #[.slice ar az aq, .int .i64 0]) ay))))))))

theorem journal_stretch.eq (d1 : Option Addr) (base2 : Int) (size3 : Int) (gen4 : Int) (R : Value → World → Prop) (w : World) : mfunc Try.prog [(1, [0, 1, 57], [(8, (.one .slice)), (58, (.one (.int .i64)))])] 42 [.pointer d1, .int .i64 base2, .int .i64 size3, .int .u32 gen4] R w = journal_stretch.M d1 base2 size3 gen4 R w := by kernel_rfl
theorem journal_stretch.ok (d1 : Option Addr) (a0 : Int) (a1 : Int) (a2 : Int) {R : Value → World → Prop} {w : World} (h : journal_stretch.M d1 a0 a1 a2 R w) : Calls Try.prog 42 #[.pointer d1, .int .i64 a0, .int .i64 a1, .int .u32 a2] w fun e w' => ∃ v, e = .returned v ∧ R v w' :=
  mfunc_ok follows (H := [(1, [0, 1, 57], [(8, (.one .slice)), (58, (.one (.int .i64)))])]) (args := [.pointer d1, .int .i64 a0, .int .i64 a1, .int .u32 a2]) (by rw [journal_stretch.eq]; exact h)

def journal_stretch.N (d1 : Option Addr) (a1 : Int) (a2 : Int) (a4 : Int) (R : Value → World → Prop) (w : World) : Prop :=
 Calls Try.prog 53 #[.pointer d1] w fun c4 a3 => ∃ (a0 : Int), c4 = .returned (.int .i64 a0) ∧
 (d1 = none →
 (a4 ≠ 0 →
 (a1 ≥ 0 →
 (a2 ≥ 1 →
 R (.tuple #[.slice none 0 0, .int .i64 23]) a3) ∧
 (a2 < 1 →
 (a4 = 0 →
 R (.tuple #[.slice none 0 0, .int .i64 1]) a3) ∧
 (a4 ≠ 0 →
 (a1 < 0 →
 R (.tuple #[.slice none 0 0, .int .i64 1]) a3) ∧
 ((0 : Int) ≤ a1 →
 (a2 < 1 →
 R (.tuple #[.slice none 0 0, .int .i64 1]) a3) ∧
 ((1 : Int) ≤ a2 →
 (a1 > a0 →
 R (.tuple #[.slice none 0 0, .int .i64 1]) a3) ∧
 (a1 ≤ a0 →
 (-9223372036854775808 : Int) ≤ (a0 - a1) ∧ (a0 - a1) < 9223372036854775808 ∧
 (a2 > (a0 - a1) →
 R (.tuple #[.slice none 0 0, .int .i64 1]) a3) ∧
 (a2 ≤ (a0 - a1) →
 Calls Try.prog 24 #[.pointer d1] a3 fun bs ba => ∃ (a5 : Bool), bs = .returned (.bool a5) ∧
 (a5 = true →
 R (.tuple #[.slice none 0 0, .int .i64 19]) ba) ∧
 (a5 = false →
 ∃ (I1 : Nat → List Value → World → Prop) (c3 : Nat), I1 c3 [.slice none 0 0, .int .i64 0] ba ∧ ∀ (bv : Nat) (ao : World) (b1 : Option Addr) (ax : Nat) (az : Nat) (ak : Int), I1 bv [.slice b1 ax az, .int .i64 ak] ao →
 (ak < a2 →
 (-9223372036854775808 : Int) ≤ (a1 + ak) ∧ (a1 + ak) < 9223372036854775808 ∧
 Calls Try.prog 50 #[.pointer d1, .int .i64 (a1 + ak)] ao fun bp b5 => ∃ (a9 : Option Addr) (ab : Nat) (aa : Nat) (b3 : Int), bp = .returned (.tuple #[.slice a9 ab aa, .int .i64 b3]) ∧
 ∀ (al : World) (bo : Nat), Ext no b5 al → Blk al bo 23 [.slice a9 ab aa] → b5.heap.size ≤ bo → bo < al.heap.size →
 ∃ (b6 : Option Addr) (be : Nat) (b9 : Nat) (bj : World), (Builtin.append_ #[25, 25] 25 #[.slice b1 ax az, .slice (some (blk bo)) 1 1]).run Try.prog al = .ok (.slice b6 be b9) bj ∧
 (-9223372036854775808 : Int) ≤ (ak + 1) ∧ (ak + 1) < 9223372036854775808 ∧
 ∃ c1, c1 < bv ∧ I1 c1 [.slice b6 be b9, .int .i64 (ak + 1)] bj) ∧
 (a2 ≤ ak →
 R (.tuple #[.slice b1 ax az, .int .i64 0]) ao))))))))) ∧
 (a1 < 0 →
 (a4 = 0 →
 R (.tuple #[.slice none 0 0, .int .i64 1]) a3) ∧
 (a4 ≠ 0 →
 (a1 < 0 →
 R (.tuple #[.slice none 0 0, .int .i64 1]) a3) ∧
 ((0 : Int) ≤ a1 →
 (a2 < 1 →
 R (.tuple #[.slice none 0 0, .int .i64 1]) a3) ∧
 ((1 : Int) ≤ a2 →
 (a1 > a0 →
 R (.tuple #[.slice none 0 0, .int .i64 1]) a3) ∧
 (a1 ≤ a0 →
 (-9223372036854775808 : Int) ≤ (a0 - a1) ∧ (a0 - a1) < 9223372036854775808 ∧
 (a2 > (a0 - a1) →
 R (.tuple #[.slice none 0 0, .int .i64 1]) a3) ∧
 (a2 ≤ (a0 - a1) →
 Calls Try.prog 24 #[.pointer d1] a3 fun bq bc => ∃ (a7 : Bool), bq = .returned (.bool a7) ∧
 (a7 = true →
 R (.tuple #[.slice none 0 0, .int .i64 19]) bc) ∧
 (a7 = false →
 ∃ (I1 : Nat → List Value → World → Prop) (c2 : Nat), I1 c2 [.slice none 0 0, .int .i64 0] bc ∧ ∀ (bw : Nat) (ap : World) (ar : Option Addr) (b0 : Nat) (av : Nat) (am : Int), I1 bw [.slice ar b0 av, .int .i64 am] ap →
 (am < a2 →
 (-9223372036854775808 : Int) ≤ (a1 + am) ∧ (a1 + am) < 9223372036854775808 ∧
 Calls Try.prog 50 #[.pointer d1, .int .i64 (a1 + am)] ap fun br bg => ∃ (a8 : Option Addr) (ac : Nat) (ad : Nat) (b2 : Int), br = .returned (.tuple #[.slice a8 ac ad, .int .i64 b2]) ∧
 ∀ (ah : World) (bm : Nat), Ext no bg ah → Blk ah bm 23 [.slice a8 ac ad] → bg.heap.size ≤ bm → bm < ah.heap.size →
 ∃ (bl : Option Addr) (bb : Nat) (b4 : Nat) (bk : World), (Builtin.append_ #[25, 25] 25 #[.slice ar b0 av, .slice (some (blk bm)) 1 1]).run Try.prog ah = .ok (.slice bl bb b4) bk ∧
 (-9223372036854775808 : Int) ≤ (am + 1) ∧ (am + 1) < 9223372036854775808 ∧
 ∃ c0, c0 < bw ∧ I1 c0 [.slice bl bb b4, .int .i64 (am + 1)] bk) ∧
 (a2 ≤ am →
 R (.tuple #[.slice ar b0 av, .int .i64 0]) ap))))))))) ∧
 (a4 = 0 →
 R (.tuple #[.slice none 0 0, .int .i64 1]) a3)) ∧
 (d1 ≠ none →
 (a4 = 0 →
 R (.tuple #[.slice none 0 0, .int .i64 1]) a3) ∧
 (a4 ≠ 0 →
 (a1 < 0 →
 R (.tuple #[.slice none 0 0, .int .i64 1]) a3) ∧
 ((0 : Int) ≤ a1 →
 (a2 < 1 →
 R (.tuple #[.slice none 0 0, .int .i64 1]) a3) ∧
 ((1 : Int) ≤ a2 →
 (a1 > a0 →
 R (.tuple #[.slice none 0 0, .int .i64 1]) a3) ∧
 (a1 ≤ a0 →
 (-9223372036854775808 : Int) ≤ (a0 - a1) ∧ (a0 - a1) < 9223372036854775808 ∧
 (a2 > (a0 - a1) →
 R (.tuple #[.slice none 0 0, .int .i64 1]) a3) ∧
 (a2 ≤ (a0 - a1) →
 Calls Try.prog 24 #[.pointer d1] a3 fun bt bd => ∃ (a6 : Bool), bt = .returned (.bool a6) ∧
 (a6 = true →
 R (.tuple #[.slice none 0 0, .int .i64 19]) bd) ∧
 (a6 = false →
 ∃ (I1 : Nat → List Value → World → Prop) (c5 : Nat), I1 c5 [.slice none 0 0, .int .i64 0] bd ∧ ∀ (bz : Nat) (an : World) (aw : Option Addr) (ay : Nat) (au : Nat) (ai : Int), I1 bz [.slice aw ay au, .int .i64 ai] an →
 (ai < a2 →
 (-9223372036854775808 : Int) ≤ (a1 + ai) ∧ (a1 + ai) < 9223372036854775808 ∧
 Calls Try.prog 50 #[.pointer d1, .int .i64 (a1 + ai)] an fun bu bi => ∃ (ae : Option Addr) (ag : Nat) (af : Nat) (aq : Int), bu = .returned (.tuple #[.slice ae ag af, .int .i64 aq]) ∧
 ∀ (aj : World) (bn : Nat), Ext no bi aj → Blk aj bn 23 [.slice ae ag af] → bi.heap.size ≤ bn → bn < aj.heap.size →
 ∃ (b8 : Option Addr) (bh : Nat) (b7 : Nat) (bf : World), (Builtin.append_ #[25, 25] 25 #[.slice aw ay au, .slice (some (blk bn)) 1 1]).run Try.prog aj = .ok (.slice b8 bh b7) bf ∧
 (-9223372036854775808 : Int) ≤ (ai + 1) ∧ (ai + 1) < 9223372036854775808 ∧
 ∃ bx, bx < bz ∧ I1 bx [.slice b8 bh b7, .int .i64 (ai + 1)] bf) ∧
 (a2 ≤ ai →
 R (.tuple #[.slice aw ay au, .int .i64 0]) an))))))))

theorem journal_stretch.up (d1 : Option Addr) (ac : Int) (ad : Int) (an : Int) {R : Value → World → Prop} {w : World} (h : journal_stretch.N d1 ac ad an R w) : journal_stretch.M d1 ac ad an R w := by
  unfold journal_stretch.M
  unfold journal_stretch.N at h
  refine h.mono fun cw cv h => ?_
  obtain ⟨a2, he, h⟩ := h
  refine ⟨a2, he, ?_⟩
  refine bif_of (fun c8 => ?_) (fun c8 => ?_)
  · have h := h.1 (isNone_t c8)
    refine bif_of (fun c9 => ?_) (fun c9 => ?_)
    · have h := h.1 (bne_t c9)
      refine bif_of (fun bp => ?_) (fun bp => ?_)
      · have h := h.1 (of_decide_eq_true bp)
        refine bif_of (fun aq => ?_) (fun aq => ?_)
        · have h := h.1 (of_decide_eq_true aq)
          exact h
        · have h := h.2 (Int.not_le.1 (of_decide_eq_false aq))
          refine bif_of (fun c7 => ?_) (fun c7 => ?_)
          · have h := h.1 (beq_t c7)
            exact h
          · have h := h.2 (beq_f c7)
            refine bif_of (fun bm => ?_) (fun bm => ?_)
            · have h := h.1 (of_decide_eq_true bm)
              exact h
            · have h := h.2 (Int.not_lt.1 (of_decide_eq_false bm))
              refine bif_of (fun bx => ?_) (fun bx => ?_)
              · have h := h.1 (of_decide_eq_true bx)
                exact h
              · have h := h.2 (Int.not_lt.1 (of_decide_eq_false bx))
                refine bif_of (fun b2 => ?_) (fun b2 => ?_)
                · have h := h.1 (of_decide_eq_true b2)
                  exact h
                · have h := h.2 (Int.not_lt.1 (of_decide_eq_false b2))
                  obtain ⟨a1, a0, h⟩ := h
                  try rw [w64 a1 a0]
                  refine bif_of (fun bf => ?_) (fun bf => ?_)
                  · have h := h.1 (of_decide_eq_true bf)
                    exact h
                  · have h := h.2 (Int.not_lt.1 (of_decide_eq_false bf))
                    refine h.mono fun cl ct h => ?_
                    obtain ⟨aj, he, h⟩ := h
                    refine ⟨aj, he, ?_⟩
                    refine bif_of (fun bb => ?_) (fun bb => ?_)
                    · have h := h.1 bb
                      exact h
                    · have h := h.2 bb
                      obtain ⟨I1, ch, h0, h⟩ := h
                      refine ⟨I1, ch, h0, fun ca bu bc c4 b8 cm hI => ?_⟩
                      have h := h ca bu bc c4 b8 cm hI
                      refine bif_of (fun be => ?_) (fun be => ?_)
                      · have h := h.1 (of_decide_eq_true be)
                        obtain ⟨a1, a0, h⟩ := h
                        try rw [w64 a1 a0]
                        refine h.mono fun cb ai h => ?_
                        obtain ⟨a7, a8, a5, ae, he, h⟩ := h
                        refine ⟨a7, a8, a5, ae, he, ?_⟩
                        refine thenW_in fun b6 c6 => ?_
                        have h := h b6 ai.heap.size ((Ext.refl no ai).x_alloc c6) (Blk.of_new c6) ((Ext.refl no ai)).size (size_lt_alloc c6)
                        obtain ⟨bt, aw, c1, br, hr, h⟩ := h
                        refine ⟨bt, aw, c1, br, hr, ?_⟩
                        obtain ⟨a1, a0, h⟩ := h
                        try rw [w64 a1 a0]
                        obtain ⟨cq, hk, h⟩ := h
                        exact ⟨cq, hk, h⟩
                      · have h := h.2 (Int.not_lt.1 (of_decide_eq_false be))
                        exact h
      · have h := h.2 (Int.not_le.1 (of_decide_eq_false bp))
        refine bif_of (fun av => ?_) (fun av => ?_)
        · have h := h.1 (beq_t av)
          exact h
        · have h := h.2 (beq_f av)
          refine bif_of (fun b7 => ?_) (fun b7 => ?_)
          · have h := h.1 (of_decide_eq_true b7)
            exact h
          · have h := h.2 (Int.not_lt.1 (of_decide_eq_false b7))
            refine bif_of (fun b0 => ?_) (fun b0 => ?_)
            · have h := h.1 (of_decide_eq_true b0)
              exact h
            · have h := h.2 (Int.not_lt.1 (of_decide_eq_false b0))
              refine bif_of (fun bi => ?_) (fun bi => ?_)
              · have h := h.1 (of_decide_eq_true bi)
                exact h
              · have h := h.2 (Int.not_lt.1 (of_decide_eq_false bi))
                obtain ⟨a1, a0, h⟩ := h
                try rw [w64 a1 a0]
                refine bif_of (fun bh => ?_) (fun bh => ?_)
                · have h := h.1 (of_decide_eq_true bh)
                  exact h
                · have h := h.2 (Int.not_lt.1 (of_decide_eq_false bh))
                  refine h.mono fun cc cd h => ?_
                  obtain ⟨ag, he, h⟩ := h
                  refine ⟨ag, he, ?_⟩
                  refine bif_of (fun ba => ?_) (fun ba => ?_)
                  · have h := h.1 ba
                    exact h
                  · have h := h.2 ba
                    obtain ⟨I1, cg, h0, h⟩ := h
                    refine ⟨I1, cg, h0, fun ck bw bk bn b5 cp hI => ?_⟩
                    have h := h ck bw bk bn b5 cp hI
                    refine bif_of (fun ap => ?_) (fun ap => ?_)
                    · have h := h.1 (of_decide_eq_true ap)
                      obtain ⟨a1, a0, h⟩ := h
                      try rw [w64 a1 a0]
                      refine h.mono fun cf ah h => ?_
                      obtain ⟨a6, a9, a3, am, he, h⟩ := h
                      refine ⟨a6, a9, a3, am, he, ?_⟩
                      refine thenW_in fun az b9 => ?_
                      have h := h az ah.heap.size ((Ext.refl no ah).x_alloc b9) (Blk.of_new b9) ((Ext.refl no ah)).size (size_lt_alloc b9)
                      obtain ⟨bs, c3, ao, ax, hr, h⟩ := h
                      refine ⟨bs, c3, ao, ax, hr, ?_⟩
                      obtain ⟨a1, a0, h⟩ := h
                      try rw [w64 a1 a0]
                      obtain ⟨cn, hk, h⟩ := h
                      exact ⟨cn, hk, h⟩
                    · have h := h.2 (Int.not_lt.1 (of_decide_eq_false ap))
                      exact h
    · have h := h.2 (bne_f c9)
      refine bif_tt (cong1 (r := true) (fun z => z == 0) (bne_f c9) (by decide)) ?_
      exact h
  · have h := h.2 (isNone_f c8)
    refine bif_of (fun bv => ?_) (fun bv => ?_)
    · have h := h.1 (beq_t bv)
      exact h
    · have h := h.2 (beq_f bv)
      refine bif_of (fun bq => ?_) (fun bq => ?_)
      · have h := h.1 (of_decide_eq_true bq)
        exact h
      · have h := h.2 (Int.not_lt.1 (of_decide_eq_false bq))
        refine bif_of (fun bj => ?_) (fun bj => ?_)
        · have h := h.1 (of_decide_eq_true bj)
          exact h
        · have h := h.2 (Int.not_lt.1 (of_decide_eq_false bj))
          refine bif_of (fun ar => ?_) (fun ar => ?_)
          · have h := h.1 (of_decide_eq_true ar)
            exact h
          · have h := h.2 (Int.not_lt.1 (of_decide_eq_false ar))
            obtain ⟨a1, a0, h⟩ := h
            try rw [w64 a1 a0]
            refine bif_of (fun c0 => ?_) (fun c0 => ?_)
            · have h := h.1 (of_decide_eq_true c0)
              exact h
            · have h := h.2 (Int.not_lt.1 (of_decide_eq_false c0))
              refine h.mono fun co ci h => ?_
              obtain ⟨ak, he, h⟩ := h
              refine ⟨ak, he, ?_⟩
              refine bif_of (fun c5 => ?_) (fun c5 => ?_)
              · have h := h.1 c5
                exact h
              · have h := h.2 c5
                obtain ⟨I1, cu, h0, h⟩ := h
                refine ⟨I1, cu, h0, fun cj ay c2 bl au cr hI => ?_⟩
                have h := h cj ay c2 bl au cr hI
                refine bif_of (fun bg => ?_) (fun bg => ?_)
                · have h := h.1 (of_decide_eq_true bg)
                  obtain ⟨a1, a0, h⟩ := h
                  try rw [w64 a1 a0]
                  refine h.mono fun ce af h => ?_
                  obtain ⟨ab, a4, aa, al, he, h⟩ := h
                  refine ⟨ab, a4, aa, al, he, ?_⟩
                  refine thenW_in fun bz b1 => ?_
                  have h := h bz af.heap.size ((Ext.refl no af).x_alloc b1) (Blk.of_new b1) ((Ext.refl no af)).size (size_lt_alloc b1)
                  obtain ⟨b4, bd, b3, bo, hr, h⟩ := h
                  refine ⟨b4, bd, b3, bo, hr, ?_⟩
                  obtain ⟨a1, a0, h⟩ := h
                  try rw [w64 a1 a0]
                  obtain ⟨cs, hk, h⟩ := h
                  exact ⟨cs, hk, h⟩
                · have h := h.2 (Int.not_lt.1 (of_decide_eq_false bg))
                  exact h

theorem journal_stretch.go (d1 : Option Addr) (a0 : Int) (a1 : Int) (a2 : Int) {R : Value → World → Prop} {w : World} (h : journal_stretch.N d1 a0 a1 a2 R w) : Calls Try.prog 42 #[.pointer d1, .int .i64 a0, .int .i64 a1, .int .u32 a2] w fun e w' => ∃ v, e = .returned v ∧ R v w' := journal_stretch.ok d1 a0 a1 a2 (journal_stretch.up d1 a0 a1 a2 h)
/-- journal.Open -/
def journal_Open.M (d1 : Option Addr) (a9 : Int) (aa : Int) (ab : Int) (R : Value → World → Prop) (w : World) : Prop :=
 Calls Try.prog 42 #[.pointer d1, .int .i64 a9, .int .i64 aa, .int .u32 ab] w fun ag af => ∃ (a1 : Option Addr) (a2 : Nat) (a3 : Nat) (a0 : Int), ag = .returned (.tuple #[.slice a1 a2 a3, .int .i64 a0]) ∧
 bif a0 != 0 then (
 R (.tuple #[.pointer none, .slice none 0 0, .int .i64 a0]) af) else (
 Calls Try.prog 16 #[.slice a1 a2 a3, .int .u32 ab] af fun ad ac => ∃ (a7 : Option Addr) (a5 : Nat) (a6 : Nat) (a8 : Int) (a4 : Int), ad = .returned (.tuple #[.slice a7 a5 a6, .int .i64 a8, .int .u32 a4]) ∧
 bif (IntKind.u32.wrap (a4 + 1)) == 0 then (
 R (.tuple #[.pointer none, .slice none 0 0, .int .i64 2]) ac) else (
 thenW (ac.alloc (.cells #[.pointer d1, .int .i64 a9, .int .i64 aa, .int .u32 ab, .int .u32 (IntKind.u32.wrap (a4 + 1)), .int .i64 a8, .int .i64 (a5 : Int), .bool false] 82)) fun ae =>
 R (.tuple #[.pointer (some (blk ac.heap.size)), .slice a7 a5 a6, .int .i64 0]) ae))

theorem journal_Open.eq (d1 : Option Addr) (base2 : Int) (size3 : Int) (gen4 : Int) (R : Value → World → Prop) (w : World) : mfunc Try.prog [] 20 [.pointer d1, .int .i64 base2, .int .i64 size3, .int .u32 gen4] R w = journal_Open.M d1 base2 size3 gen4 R w := by kernel_rfl
theorem journal_Open.ok (d1 : Option Addr) (a0 : Int) (a1 : Int) (a2 : Int) {R : Value → World → Prop} {w : World} (h : journal_Open.M d1 a0 a1 a2 R w) : Calls Try.prog 20 #[.pointer d1, .int .i64 a0, .int .i64 a1, .int .u32 a2] w fun e w' => ∃ v, e = .returned v ∧ R v w' :=
  mfunc_ok follows (H := []) (args := [.pointer d1, .int .i64 a0, .int .i64 a1, .int .u32 a2]) (by rw [journal_Open.eq]; exact h)

def journal_Open.N (d1 : Option Addr) (aa : Int) (ab : Int) (ac : Int) (R : Value → World → Prop) (w : World) : Prop :=
 Calls Try.prog 42 #[.pointer d1, .int .i64 aa, .int .i64 ab, .int .u32 ac] w fun ah ag => ∃ (a1 : Option Addr) (a2 : Nat) (a3 : Nat) (a0 : Int), ah = .returned (.tuple #[.slice a1 a2 a3, .int .i64 a0]) ∧
 (a0 ≠ 0 →
 R (.tuple #[.pointer none, .slice none 0 0, .int .i64 a0]) ag) ∧
 (a0 = 0 →
 Calls Try.prog 16 #[.slice a1 a2 a3, .int .u32 ac] ag fun af ad => ∃ (a7 : Option Addr) (a4 : Nat) (a6 : Nat) (a8 : Int) (a5 : Int), af = .returned (.tuple #[.slice a7 a4 a6, .int .i64 a8, .int .u32 a5]) ∧
 ((IntKind.u32.wrap (a5 + 1)) = 0 →
 R (.tuple #[.pointer none, .slice none 0 0, .int .i64 2]) ad) ∧
 ((IntKind.u32.wrap (a5 + 1)) ≠ 0 →
 ∀ (a9 : World) (ae : Nat), Ext no ad a9 → Blk a9 ae 82 [.pointer d1, .int .i64 aa, .int .i64 ab, .int .u32 ac, .int .u32 (IntKind.u32.wrap (a5 + 1)), .int .i64 a8, .int .i64 (a4 : Int), .bool false] → ad.heap.size ≤ ae → ae < a9.heap.size →
 R (.tuple #[.pointer (some (blk ae)), .slice a7 a4 a6, .int .i64 0]) a9))

theorem journal_Open.up (d1 : Option Addr) (a7 : Int) (a8 : Int) (ac : Int) {R : Value → World → Prop} {w : World} (h : journal_Open.N d1 a7 a8 ac R w) : journal_Open.M d1 a7 a8 ac R w := by
  unfold journal_Open.M
  unfold journal_Open.N at h
  refine h.mono fun ah ai h => ?_
  obtain ⟨a1, a2, a0, a3, he, h⟩ := h
  refine ⟨a1, a2, a0, a3, he, ?_⟩
  refine bif_of (fun c9 => ?_) (fun c9 => ?_)
  · have h := h.1 (bne_t c9)
    exact h
  · have h := h.2 (bne_f c9)
    refine h.mono fun ag a9 h => ?_
    obtain ⟨a5, a6, a4, aa, ab, he, h⟩ := h
    refine ⟨a5, a6, a4, aa, ab, he, ?_⟩
    refine bif_of (fun ad => ?_) (fun ad => ?_)
    · have h := h.1 (beq_t ad)
      exact h
    · have h := h.2 (beq_f ad)
      refine thenW_in fun ae af => ?_
      have h := h ae a9.heap.size ((Ext.refl no a9).x_alloc af) (Blk.of_new af) ((Ext.refl no a9)).size (size_lt_alloc af)
      exact h

theorem journal_Open.go (d1 : Option Addr) (a0 : Int) (a1 : Int) (a2 : Int) {R : Value → World → Prop} {w : World} (h : journal_Open.N d1 a0 a1 a2 R w) : Calls Try.prog 20 #[.pointer d1, .int .i64 a0, .int .i64 a1, .int .u32 a2] w fun e w' => ∃ v, e = .returned v ∧ R v w' := journal_Open.ok d1 a0 a1 a2 (journal_Open.up d1 a0 a1 a2 h)
/-- (*journal.Journal).Append -/
def journal_Journal_Append.M (j1 : Option Addr) (bp : Option Addr) (b9 : Nat) (bn : Nat) (R : Value → World → Prop) (w : World) : Prop :=
 Calls Try.prog 12 #[.int .i64 (b9 : Int)] w fun bo au => ∃ (a2 : Int), bo = .returned (.int .i64 a2) ∧
 bif Option.isNone j1 then (
 R (.int .i64 23) au) else (
 bif a2 == 0 then (
 R (.int .i64 3) au) else (
 j1.elim False fun a6 =>
 ∃ (aj : Bool), au.cell? (a6.add 7) = some (.bool aj) ∧
 bif aj then (
 R (.int .i64 19) au) else (
 thenW (au.drew) fun aw =>
 j1.elim False fun a9 =>
 ∃ (ae : Int), aw.cell? (a9.add 2) = some (.int .i64 ae) ∧
 j1.elim False fun br =>
 ∃ (aa : Int), aw.cell? (br.add 5) = some (.int .i64 aa) ∧
 bif decide (a2 > (IntKind.i64.wrap (ae - aa))) then (
 R (.int .i64 18) aw) else (
 thenW (aw.drew) fun ai =>
 j1.elim False fun bh =>
 ∃ (ak : Int), ai.cell? (bh.add 3) = some (.int .u32 ak) ∧
 j1.elim False fun bj =>
 ∃ (a5 : Int), ai.cell? (bj.add 4) = some (.int .u32 a5) ∧
 j1.elim False fun bq =>
 ∃ (al : Int), ai.cell? (bq.add 6) = some (.int .i64 al) ∧
 Calls Try.prog 9 #[.int .u32 ak, .int .u32 a5, .int .u32 (IntKind.u32.wrap al), .slice bp b9 bn] ai fun b3 b1 => ∃ (a3 : Option Addr) (a0 : Nat) (af : Nat) (ah : Int), b3 = .returned (.tuple #[.slice a3 a0 af, .int .i64 ah]) ∧
 ∃ (I1 : Nat → List Value → World → Prop) (bm : Nat), I1 bm [.int .i64 0] b1 ∧ ∀ (b4 : Nat) (ac : World) (ap : Int), I1 b4 [.int .i64 ap] ac →
 bif decide (ap < (a0 : Int)) then (
 a3.elim False fun be =>
 0 ≤ (ap : Int) ∧ (ap : Int) < (a0 : Int) ∧
 ∃ (aq : Option Addr) (av : Nat) (ar : Nat), ac.cell? (be.add (Int.toNat ap * 1)) = some (.slice aq av ar) ∧
 thenW (ac.drew) fun ag =>
 j1.elim False fun bg =>
 ∃ (b6 : Option Addr), ag.cell? (bg.add 0) = some (.pointer b6) ∧
 j1.elim False fun bi =>
 ∃ (a8 : Int), ag.cell? (bi.add 1) = some (.int .i64 a8) ∧
 j1.elim False fun bd =>
 ∃ (ad : Int), ag.cell? (bd.add 5) = some (.int .i64 ad) ∧
 Calls Try.prog 28 #[.pointer b6, .int .i64 (IntKind.i64.wrap ((IntKind.i64.wrap (a8 + ad)) + ap)), .slice aq av ar] ag fun b2 ao => ∃ (a1 : Int), b2 = .returned (.int .i64 a1) ∧
 bif a1 != 0 then (
 j1.elim False fun ba =>
 canStore ao ((ba.add 7).add 0) ∧
 thenW (ao.setCell ((ba.add 7).add 0) (.bool true)) fun ax =>
 R (.int .i64 a1) ax) else (
 ∃ bc, bc < b4 ∧ I1 bc [.int .i64 (IntKind.i64.wrap (ap + 1))] ao)) else (
 j1.elim False fun bk =>
 ∃ (b8 : Option Addr), ac.cell? (bk.add 0) = some (.pointer b8) ∧
 Calls Try.prog 29 #[.pointer b8] ac fun b0 ab => ∃ (a4 : Int), b0 = .returned (.int .i64 a4) ∧
 bif a4 != 0 then (
 j1.elim False fun b5 =>
 canStore ab ((b5.add 7).add 0) ∧
 thenW (ab.setCell ((b5.add 7).add 0) (.bool true)) fun ay =>
 R (.int .i64 a4) ay) else (
 j1.elim False fun bl =>
 ∃ (a7 : Int), ab.cell? (bl.add 5) = some (.int .i64 a7) ∧
 j1.elim False fun b7 =>
 canStore ab ((b7.add 5).add 0) ∧
 thenW (ab.setCell ((b7.add 5).add 0) (.int .i64 (IntKind.i64.wrap (a7 + a2)))) fun an =>
 j1.elim False fun bf =>
 ∃ (am : Int), an.cell? (bf.add 6) = some (.int .i64 am) ∧
 j1.elim False fun bb =>
 canStore an ((bb.add 6).add 0) ∧
 thenW (an.setCell ((bb.add 6).add 0) (.int .i64 (IntKind.i64.wrap (am + 1)))) fun az =>
 R (.int .i64 0) az))))))

theorem journal_Journal_Append.eq (j1 : Option Addr) (b2a : Option Addr) (b2n : Nat) (b2c : Nat) (R : Value → World → Prop) (w : World) : mfunc Try.prog [(1, [0, 5, 56, 57], [(58, (.one (.int .i64)))])] 23 [.pointer j1, .slice b2a b2n b2c] R w = journal_Journal_Append.M j1 b2a b2n b2c R w := by kernel_rfl
theorem journal_Journal_Append.ok (j1 : Option Addr) (a2 : Option Addr) (a1 : Nat) (a0 : Nat) {R : Value → World → Prop} {w : World} (h : journal_Journal_Append.M j1 a2 a1 a0 R w) : Calls Try.prog 23 #[.pointer j1, .slice a2 a1 a0] w fun e w' => ∃ v, e = .returned v ∧ R v w' :=
  mfunc_ok follows (H := [(1, [0, 5, 56, 57], [(58, (.one (.int .i64)))])]) (args := [.pointer j1, .slice a2 a1 a0]) (by rw [journal_Journal_Append.eq]; exact h)

def journal_Journal_Append.N (j1 : Option Addr) (ba : Option Addr) (ak : Nat) (b8 : Nat) (R : Value → World → Prop) (w : World) : Prop :=
 (j1 = none →
 ∀ (ai : World), Ext no w ai →
 R (.int .i64 23) ai) ∧
 (j1 ≠ none →
 ((journal_Parts.F (ak : Int)) = 0 →
 ∀ (ai : World), Ext no w ai →
 R (.int .i64 3) ai) ∧
 ((journal_Parts.F (ak : Int)) ≠ 0 →
 ∃ a6 : Addr, j1 = some a6 ∧
 ∃ (ae : Bool), w.cell? (a6.add 7) = some (.bool ae) ∧
 (ae = true →
 ∀ (ai : World), Ext no w ai →
 R (.int .i64 19) ai) ∧
 (ae = false →
 ∃ (a4 : Int), w.cell? (a6.add 2) = some (.int .i64 a4) ∧
 ∃ (a5 : Int), w.cell? (a6.add 5) = some (.int .i64 a5) ∧
 (-9223372036854775808 : Int) ≤ (a4 - a5) ∧ (a4 - a5) < 9223372036854775808 ∧
 ((journal_Parts.F (ak : Int)) > (a4 - a5) →
 ∀ (au : World), Ext no w au →
 R (.int .i64 18) au) ∧
 ((journal_Parts.F (ak : Int)) ≤ (a4 - a5) →
 ∃ (al : Int), w.cell? (a6.add 3) = some (.int .u32 al) ∧
 ∃ (ac : Int), w.cell? (a6.add 4) = some (.int .u32 ac) ∧
 ∃ (aj : Int), w.cell? (a6.add 6) = some (.int .i64 aj) ∧
 ∀ (aq : World), Ext no w aq →
 Calls Try.prog 9 #[.int .u32 al, .int .u32 ac, .int .u32 (IntKind.u32.wrap aj), .slice ba ak b8] aq fun b0 ax => ∃ (aa : Option Addr) (a0 : Nat) (ag : Nat) (ah : Int), b0 = .returned (.tuple #[.slice aa a0 ag, .int .i64 ah]) ∧
 ∃ (I1 : Nat → List Value → World → Prop) (b9 : Nat), I1 b9 [.int .i64 0] ax ∧ ∀ (b6 : Nat) (a9 : World) (ad : Int), I1 b6 [.int .i64 ad] a9 →
 (ad < (a0 : Int) →
 ∃ b4 : Addr, aa = some b4 ∧
 0 ≤ (ad : Int) ∧ (ad : Int) < (a0 : Int) ∧
 ∃ (ap : Option Addr) (ao : Nat) (ar : Nat), a9.cell? (b4.add (Int.toNat ad * 1)) = some (.slice ap ao ar) ∧
 ∃ (b3 : Option Addr), a9.cell? (a6.add 0) = some (.pointer b3) ∧
 ∃ (a1 : Int), a9.cell? (a6.add 1) = some (.int .i64 a1) ∧
 ∃ (a2 : Int), a9.cell? (a6.add 5) = some (.int .i64 a2) ∧
 (-9223372036854775808 : Int) ≤ (a1 + a2) ∧ (a1 + a2) < 9223372036854775808 ∧
 (-9223372036854775808 : Int) ≤ ((a1 + a2) + ad) ∧ ((a1 + a2) + ad) < 9223372036854775808 ∧
 ∀ (av : World), Ext no a9 av →
 Calls Try.prog 28 #[.pointer b3, .int .i64 ((a1 + a2) + ad), .slice ap ao ar] av fun aw an => ∃ (a3 : Int), aw = .returned (.int .i64 a3) ∧
 (a3 ≠ 0 →
 canStore an ((a6.add 7).add 0) ∧
 thenW (an.setCell ((a6.add 7).add 0) (.bool true)) fun az =>
 R (.int .i64 a3) az) ∧
 (a3 = 0 →
 (-9223372036854775808 : Int) ≤ (ad + 1) ∧ (ad + 1) < 9223372036854775808 ∧
 ∃ b5, b5 < b6 ∧ I1 b5 [.int .i64 (ad + 1)] an)) ∧
 ((a0 : Int) ≤ ad →
 ∃ (b7 : Option Addr), a9.cell? (a6.add 0) = some (.pointer b7) ∧
 Calls Try.prog 29 #[.pointer b7] a9 fun b2 af => ∃ (a7 : Int), b2 = .returned (.int .i64 a7) ∧
 (a7 ≠ 0 →
 canStore af ((a6.add 7).add 0) ∧
 thenW (af.setCell ((a6.add 7).add 0) (.bool true)) fun b1 =>
 R (.int .i64 a7) b1) ∧
 (a7 = 0 →
 ∃ (a8 : Int), af.cell? (a6.add 5) = some (.int .i64 a8) ∧
 (-9223372036854775808 : Int) ≤ (a8 + (journal_Parts.F (ak : Int))) ∧ (a8 + (journal_Parts.F (ak : Int))) < 9223372036854775808 ∧
 canStore af ((a6.add 5).add 0) ∧
 thenW (af.setCell ((a6.add 5).add 0) (.int .i64 (a8 + (journal_Parts.F (ak : Int))))) fun am =>
 ∃ (ab : Int), am.cell? (a6.add 6) = some (.int .i64 ab) ∧
 (-9223372036854775808 : Int) ≤ (ab + 1) ∧ (ab + 1) < 9223372036854775808 ∧
 canStore am ((a6.add 6).add 0) ∧
 thenW (am.setCell ((a6.add 6).add 0) (.int .i64 (ab + 1))) fun ay =>
 R (.int .i64 0) ay))))))

theorem journal_Journal_Append.up (j1 : Option Addr) (bg : Option Addr) (ap : Nat) (bf : Nat) {R : Value → World → Prop} {w : World} (h : journal_Journal_Append.N j1 bg ap bf R w) : journal_Journal_Append.M j1 bg ap bf R w := by
  unfold journal_Journal_Append.M
  unfold journal_Journal_Append.N at h
  refine (journal_Parts.pure (ap : Int)).mono fun ee ww3 ⟨he, hxx⟩ => ⟨(journal_Parts.F (ap : Int)), he, ?_⟩
  have ao := (Ext.refl no w).trans hxx
  refine bif_of (fun c4 => ?_) (fun c4 => ?_)
  · have h := h.1 (isNone_t c4)
    have h := h ww3 ao
    exact h
  · have h := h.2 (isNone_f c4)
    refine bif_of (fun c5 => ?_) (fun c5 => ?_)
    · have h := h.1 (beq_t c5)
      have h := h ww3 ao
      exact h
    · have h := h.2 (beq_f c5)
      obtain ⟨a6, a0, h⟩ := h
      refine elim_some a0 ?_
      obtain ⟨ak, bt, h⟩ := h
      refine ⟨ak, (ao).cell bt id, ?_⟩
      refine bif_of (fun c9 => ?_) (fun c9 => ?_)
      · have h := h.1 c9
        have h := h ww3 ao
        exact h
      · have h := h.2 c9
        refine thenW_in fun b5 bm => ?_
        have aa := ao.x_drew bm
        refine elim_some a0 ?_
        obtain ⟨ai, ba, h⟩ := h
        refine ⟨ai, (aa).cell ba id, ?_⟩
        refine elim_some a0 ?_
        obtain ⟨ag, bd, h⟩ := h
        refine ⟨ag, (aa).cell bd id, ?_⟩
        obtain ⟨a5, a4, h⟩ := h
        try rw [w64 a5 a4]
        refine bif_of (fun aw => ?_) (fun aw => ?_)
        · have h := h.1 (of_decide_eq_true aw)
          have h := h b5 aa
          exact h
        · have h := h.2 (Int.not_lt.1 (of_decide_eq_false aw))
          refine thenW_in fun ay bu => ?_
          have a8 := aa.x_drew bu
          refine elim_some a0 ?_
          obtain ⟨al, b9, h⟩ := h
          refine ⟨al, (a8).cell b9 id, ?_⟩
          refine elim_some a0 ?_
          obtain ⟨a9, b6, h⟩ := h
          refine ⟨a9, (a8).cell b6 id, ?_⟩
          refine elim_some a0 ?_
          obtain ⟨an, av, h⟩ := h
          refine ⟨an, (a8).cell av id, ?_⟩
          have h := h ay a8
          refine h.mono fun bz br h => ?_
          obtain ⟨a1, a2, a3, ab, he, h⟩ := h
          refine ⟨a1, a2, a3, ab, he, ?_⟩
          obtain ⟨I1, ca, h0, h⟩ := h
          refine ⟨I1, ca, h0, fun bv am bi hI => ?_⟩
          have h := h bv am bi hI
          refine bif_of (fun b3 => ?_) (fun b3 => ?_)
          · have h := h.1 (of_decide_eq_true b3)
            obtain ⟨cb, b1, h⟩ := h
            refine elim_some b1 ?_
            obtain ⟨c1, bx, h⟩ := h
            refine ⟨c1, bx, ?_⟩
            obtain ⟨aq, b2, az, b7, h⟩ := h
            refine ⟨aq, b2, az, b7, ?_⟩
            refine thenW_in fun bc bp => ?_
            have a7 := (Ext.refl no am).x_drew bp
            refine elim_some a0 ?_
            obtain ⟨bw, ar, h⟩ := h
            refine ⟨bw, (a7).cell ar id, ?_⟩
            refine elim_some a0 ?_
            obtain ⟨ad, au, h⟩ := h
            refine ⟨ad, (a7).cell au id, ?_⟩
            refine elim_some a0 ?_
            obtain ⟨af, ax, h⟩ := h
            refine ⟨af, (a7).cell ax id, ?_⟩
            obtain ⟨a5, a4, h⟩ := h
            try rw [w64 a5 a4]
            obtain ⟨a5, a4, h⟩ := h
            try rw [w64 a5 a4]
            have h := h bc a7
            refine h.mono fun c7 bn h => ?_
            obtain ⟨ac, he, h⟩ := h
            refine ⟨ac, he, ?_⟩
            refine bif_of (fun b4 => ?_) (fun b4 => ?_)
            · have h := h.1 (bne_t b4)
              refine elim_some a0 ?_
              obtain ⟨hcs, h⟩ := h
              refine ⟨hcs, thenW_in fun bl c0 => ?_⟩
              replace h := thenW_out h c0
              exact h
            · have h := h.2 (bne_f b4)
              obtain ⟨a5, a4, h⟩ := h
              try rw [w64 a5 a4]
              obtain ⟨bs, hk, h⟩ := h
              exact ⟨bs, hk, h⟩
          · have h := h.2 (Int.not_lt.1 (of_decide_eq_false b3))
            refine elim_some a0 ?_
            obtain ⟨c3, b8, h⟩ := h
            refine ⟨c3, b8, ?_⟩
            refine h.mono fun bo bh h => ?_
            obtain ⟨ah, he, h⟩ := h
            refine ⟨ah, he, ?_⟩
            refine bif_of (fun b0 => ?_) (fun b0 => ?_)
            · have h := h.1 (bne_t b0)
              refine elim_some a0 ?_
              obtain ⟨hcs, h⟩ := h
              refine ⟨hcs, thenW_in fun c2 c6 => ?_⟩
              replace h := thenW_out h c6
              exact h
            · have h := h.2 (bne_f b0)
              refine elim_some a0 ?_
              obtain ⟨ae, bb, h⟩ := h
              refine ⟨ae, bb, ?_⟩
              obtain ⟨a5, a4, h⟩ := h
              try rw [w64 a5 a4]
              refine elim_some a0 ?_
              obtain ⟨hcs, h⟩ := h
              refine ⟨hcs, thenW_in fun bj bq => ?_⟩
              replace h := thenW_out h bq
              refine elim_some a0 ?_
              obtain ⟨aj, be, h⟩ := h
              refine ⟨aj, be, ?_⟩
              obtain ⟨a5, a4, h⟩ := h
              try rw [w64 a5 a4]
              refine elim_some a0 ?_
              obtain ⟨hcs, h⟩ := h
              refine ⟨hcs, thenW_in fun c8 bk => ?_⟩
              replace h := thenW_out h bk
              exact h

theorem journal_Journal_Append.go (j1 : Option Addr) (a2 : Option Addr) (a1 : Nat) (a0 : Nat) {R : Value → World → Prop} {w : World} (h : journal_Journal_Append.N j1 a2 a1 a0 R w) : Calls Try.prog 23 #[.pointer j1, .slice a2 a1 a0] w fun e w' => ∃ v, e = .returned v ∧ R v w' := journal_Journal_Append.ok j1 a2 a1 a0 (journal_Journal_Append.up j1 a2 a1 a0 h)
theorem journal_Journal_Append.run (j1 : Option Addr) (a2 : Option Addr) (a1 : Nat) (a0 : Nat) {V : Value} {Q : World → Prop} {w : World} (h : journal_Journal_Append.N j1 a2 a1 a0 (fun v w' => v = V ∧ Q w') w) : Calls Try.prog 23 #[.pointer j1, .slice a2 a1 a0] w (Ret V Q) := (journal_Journal_Append.go j1 a2 a1 a0 h).mono fun e w' ⟨v, he, hv, hq⟩ => ⟨by rw [he, hv], hq⟩

/-- (*journal.Journal).Room -/
def journal_Journal_Room.M (j1 : Option Addr) (R : Value → World → Prop) (w : World) : Prop :=
 bif Option.isNone j1 then (
 R (.int .i64 0) w) else (
 thenW (w.drew) fun a2 =>
 j1.elim False fun a3 =>
 ∃ (a0 : Int), a2.cell? (a3.add 2) = some (.int .i64 a0) ∧
 j1.elim False fun a5 =>
 ∃ (a1 : Int), a2.cell? (a5.add 5) = some (.int .i64 a1) ∧
 R (.int .i64 (IntKind.i64.wrap (a0 - a1))) a2)

theorem journal_Journal_Room.eq (j1 : Option Addr) (R : Value → World → Prop) (w : World) : mfunc Try.prog [] 22 [.pointer j1] R w = journal_Journal_Room.M j1 R w := by kernel_rfl
theorem journal_Journal_Room.ok (j1 : Option Addr) {R : Value → World → Prop} {w : World} (h : journal_Journal_Room.M j1 R w) : Calls Try.prog 22 #[.pointer j1] w fun e w' => ∃ v, e = .returned v ∧ R v w' :=
  mfunc_ok follows (H := []) (args := [.pointer j1]) (by rw [journal_Journal_Room.eq]; exact h)

def journal_Journal_Room.N (j1 : Option Addr) (R : Value → World → Prop) (w : World) : Prop :=
 (j1 = none →
 R (.int .i64 0) w) ∧
 (j1 ≠ none →
 ∃ a4 : Addr, j1 = some a4 ∧
 ∃ (a0 : Int), w.cell? (a4.add 2) = some (.int .i64 a0) ∧
 ∃ (a1 : Int), w.cell? (a4.add 5) = some (.int .i64 a1) ∧
 (-9223372036854775808 : Int) ≤ (a0 - a1) ∧ (a0 - a1) < 9223372036854775808 ∧
 ∀ (a2 : World), Ext no w a2 →
 R (.int .i64 (a0 - a1)) a2)

theorem journal_Journal_Room.up (j1 : Option Addr) {R : Value → World → Prop} {w : World} (h : journal_Journal_Room.N j1 R w) : journal_Journal_Room.M j1 R w := by
  unfold journal_Journal_Room.M
  unfold journal_Journal_Room.N at h
  refine bif_of (fun c2 => ?_) (fun c2 => ?_)
  · have h := h.1 (isNone_t c2)
    exact h
  · have h := h.2 (isNone_f c2)
    refine thenW_in fun a6 e3 => ?_
    have a2 := (Ext.refl no w).x_drew e3
    obtain ⟨a4, a3, h⟩ := h
    refine elim_some a3 ?_
    obtain ⟨a0, a8, h⟩ := h
    refine ⟨a0, (a2).cell a8 id, ?_⟩
    refine elim_some a3 ?_
    obtain ⟨a1, a5, h⟩ := h
    refine ⟨a1, (a2).cell a5 id, ?_⟩
    obtain ⟨a9, a7, h⟩ := h
    try rw [w64 a9 a7]
    have h := h a6 a2
    exact h

theorem journal_Journal_Room.go (j1 : Option Addr) {R : Value → World → Prop} {w : World} (h : journal_Journal_Room.N j1 R w) : Calls Try.prog 22 #[.pointer j1] w fun e w' => ∃ v, e = .returned v ∧ R v w' := journal_Journal_Room.ok j1 (journal_Journal_Room.up j1 h)
theorem journal_Journal_Room.run (j1 : Option Addr) {V : Value} {Q : World → Prop} {w : World} (h : journal_Journal_Room.N j1 (fun v w' => v = V ∧ Q w') w) : Calls Try.prog 22 #[.pointer j1] w (Ret V Q) := (journal_Journal_Room.go j1 h).mono fun e w' ⟨v, he, hv, hq⟩ => ⟨by rw [he, hv], hq⟩

/-- cachettelaw10.alive -/
def cachettelaw10_alive.M  (R : Value → World → Prop) (w : World) : Prop :=
 thenW (w.alloc (.cells #[.int .u8 97, .int .u8 98] 5)) fun bn =>
 ∃ (be : Option Addr) (bc : Nat) (bf : Nat) (bb : World), (convert 23 23 (.slice (some (blk w.heap.size)) 2 2)).run Try.prog bn = .ok (.slice be bc bf) bb ∧
 Calls Try.prog 9 #[.int .u32 1, .int .u32 1, .int .u32 0, .slice be bc bf] bb fun bo bk => ∃ (a2 : Option Addr) (a1 : Nat) (ae : Nat) (aa : Int), bo = .returned (.tuple #[.slice a2 a1 ae, .int .i64 aa]) ∧
 Calls Try.prog 19 #[.int .i64 4] bk fun b8 b1 => ∃ (ag : Option Addr) (b7 : Int), b8 = .returned (.tuple #[.pointer ag, .int .i64 b7]) ∧
 Calls Try.prog 20 #[.pointer ag, .int .i64 0, .int .i64 4, .int .u32 1] b1 fun ba ar => ∃ (a7 : Option Addr) (a9 : Option Addr) (ab : Nat) (ac : Nat) (a8 : Int), ba = .returned (.tuple #[.pointer a7, .slice a9 ab ac, .int .i64 a8]) ∧
 thenW (ar.alloc (.cells #[.int .u8 97, .int .u8 98] 5)) fun b3 =>
 ∃ (ao : Option Addr) (aw : Nat) (aj : Nat) (al : World), (convert 23 23 (.slice (some (blk ar.heap.size)) 2 2)).run Try.prog b3 = .ok (.slice ao aw aj) al ∧
 Calls Try.prog 23 #[.pointer a7, .slice ao aw aj] al fun b4 b5 => ∃ (a5 : Int), b4 = .returned (.int .i64 a5) ∧
 Calls Try.prog 20 #[.pointer ag, .int .i64 0, .int .i64 4, .int .u32 1] b5 fun ay a0 => ∃ (af : Option Addr) (a4 : Option Addr) (a3 : Nat) (ad : Nat) (a6 : Int), ay = .returned (.tuple #[.pointer af, .slice a4 a3 ad, .int .i64 a6]) ∧
 bif aa == 0 then (
 bif (a1 : Int) == 1 then (
 a2.elim False fun bj =>
 0 ≤ (0 : Int) ∧ (0 : Int) < (a1 : Int) ∧
 ∃ (az : Option Addr) (ax : Nat) (b0 : Nat), a0.cell? (bj.add (Int.toNat 0 * 1)) = some (.slice az ax b0) ∧
 bif (ax : Int) == 64 then (
 a2.elim False fun br =>
 0 ≤ (0 : Int) ∧ (0 : Int) < (a1 : Int) ∧
 ∃ (ai : Option Addr) (an : Nat) (b2 : Nat), a0.cell? (br.add (Int.toNat 0 * 1)) = some (.slice ai an b2) ∧
 ai.elim False fun bm =>
 0 ≤ (0 : Int) ∧ (0 : Int) < (an : Int) ∧
 ∃ (bh : Int), a0.cell? (bm.add (Int.toNat 0 * 1)) = some (.int .u8 bh) ∧
 bif bh == 197 then (
 a2.elim False fun bp =>
 0 ≤ (0 : Int) ∧ (0 : Int) < (a1 : Int) ∧
 ∃ (ak : Option Addr) (ah : Nat) (b6 : Nat), a0.cell? (bp.add (Int.toNat 0 * 1)) = some (.slice ak ah b6) ∧
 ak.elim False fun bs =>
 0 ≤ (15 : Int) ∧ (15 : Int) < (ah : Int) ∧
 ∃ (bg : Int), a0.cell? (bs.add (Int.toNat 15 * 1)) = some (.int .u8 bg) ∧
 bif bg == 2 then (
 a2.elim False fun bl =>
 0 ≤ (0 : Int) ∧ (0 : Int) < (a1 : Int) ∧
 ∃ (ap : Option Addr) (aq : Nat) (b9 : Nat), a0.cell? (bl.add (Int.toNat 0 * 1)) = some (.slice ap aq b9) ∧
 ap.elim False fun bq =>
 0 ≤ (17 : Int) ∧ (17 : Int) < (aq : Int) ∧
 ∃ (bd : Int), a0.cell? (bq.add (Int.toNat 17 * 1)) = some (.int .u8 bd) ∧
 bif bd == 98 then (
 bif a8 == 0 then (
 bif a5 == 0 then (
 bif a6 == 0 then (
 bif (a3 : Int) == 1 then (
 a4.elim False fun bt =>
 0 ≤ (0 : Int) ∧ (0 : Int) < (a3 : Int) ∧
 ∃ (au : Option Addr) (am : Nat) (av : Nat), a0.cell? (bt.add (Int.toNat 0 * 1)) = some (.slice au am av) ∧
 ∃ (bi : ByteArray), (convert 23 9 (.slice au am av)).run Try.prog a0 = .ok (.string bi) a0 ∧
 R (.bool (bi.toList == (ByteArray.mk #[97, 98]).toList)) a0) else (
 R (.bool false) a0)) else (
 R (.bool false) a0)) else (
 R (.bool false) a0)) else (
 R (.bool false) a0)) else (
 R (.bool false) a0)) else (
 R (.bool false) a0)) else (
 R (.bool false) a0)) else (
 R (.bool false) a0)) else (
 R (.bool false) a0)) else (
 R (.bool false) a0)

theorem cachettelaw10_alive.eq  (R : Value → World → Prop) (w : World) : mfunc Try.prog [] 8 [] R w = cachettelaw10_alive.M  R w := by kernel_rfl
theorem cachettelaw10_alive.ok  {R : Value → World → Prop} {w : World} (h : cachettelaw10_alive.M  R w) : Calls Try.prog 8 #[] w fun e w' => ∃ v, e = .returned v ∧ R v w' :=
  mfunc_ok follows (H := []) (args := []) (by rw [cachettelaw10_alive.eq]; exact h)

def cachettelaw10_alive.N  (R : Value → World → Prop) (w : World) : Prop :=
 ∀ (b2 : World) (q2 : Nat), Ext no w b2 → Blk b2 q2 5 [.int .u8 97, .int .u8 98] → w.heap.size ≤ q2 → q2 < b2.heap.size →
 ∃ (bi : Option Addr) (bh : Nat) (bn : Nat) (bj : World), (convert 23 23 (.slice (some (blk q2)) 2 2)).run Try.prog b2 = .ok (.slice bi bh bn) bj ∧
 Calls Try.prog 9 #[.int .u32 1, .int .u32 1, .int .u32 0, .slice bi bh bn] bj fun bq br => ∃ (a8 : Option Addr) (a1 : Nat) (ag : Nat) (a7 : Int), bq = .returned (.tuple #[.slice a8 a1 ag, .int .i64 a7]) ∧
 Calls Try.prog 19 #[.int .i64 4] br fun bf b4 => ∃ (ai : Option Addr) (aw : Int), bf = .returned (.tuple #[.pointer ai, .int .i64 aw]) ∧
 Calls Try.prog 20 #[.pointer ai, .int .i64 0, .int .i64 4, .int .u32 1] b4 fun b6 ao => ∃ (a9 : Option Addr) (ad : Option Addr) (ac : Nat) (aa : Nat) (a4 : Int), b6 = .returned (.tuple #[.pointer a9, .slice ad ac aa, .int .i64 a4]) ∧
 ∀ (af : World) (b1 : Nat), Ext no ao af → Blk af b1 5 [.int .u8 97, .int .u8 98] → ao.heap.size ≤ b1 → b1 < af.heap.size →
 ∃ (ay : Option Addr) (av : Nat) (am : Nat) (aj : World), (convert 23 23 (.slice (some (blk b1)) 2 2)).run Try.prog af = .ok (.slice ay av am) aj ∧
 Calls Try.prog 23 #[.pointer a9, .slice ay av am] aj fun b7 b8 => ∃ (a3 : Int), b7 = .returned (.int .i64 a3) ∧
 Calls Try.prog 20 #[.pointer ai, .int .i64 0, .int .i64 4, .int .u32 1] b8 fun ba a0 => ∃ (ae : Option Addr) (a6 : Option Addr) (a2 : Nat) (ab : Nat) (a5 : Int), ba = .returned (.tuple #[.pointer ae, .slice a6 a2 ab, .int .i64 a5]) ∧
 (a7 = 0 →
 ((a1 : Int) = 1 →
 ∃ an : Addr, a8 = some an ∧
 (0 : Int) < (a1 : Int) ∧
 ∃ (b5 : Option Addr) (ah : Nat) (bb : Nat), a0.cell? (an.add (Int.toNat 0 * 1)) = some (.slice b5 ah bb) ∧
 ((ah : Int) = 64 →
 (0 : Int) < (a1 : Int) ∧
 ∃ (b0 : Option Addr) (ak : Nat) (b9 : Nat), a0.cell? (an.add (Int.toNat 0 * 1)) = some (.slice b0 ak b9) ∧
 ∃ bl : Addr, b0 = some bl ∧
 (0 : Int) < (ak : Int) ∧
 ∃ (bc : Int), a0.cell? (bl.add (Int.toNat 0 * 1)) = some (.int .u8 bc) ∧
 (bc = 197 →
 (0 : Int) < (a1 : Int) ∧
 ∃ (ax : Option Addr) (ap : Nat) (be : Nat), a0.cell? (an.add (Int.toNat 0 * 1)) = some (.slice ax ap be) ∧
 ∃ bp : Addr, ax = some bp ∧
 (15 : Int) < (ap : Int) ∧
 ∃ (b3 : Int), a0.cell? (bp.add (Int.toNat 15 * 1)) = some (.int .u8 b3) ∧
 (b3 = 2 →
 (0 : Int) < (a1 : Int) ∧
 ∃ (au : Option Addr) (ar : Nat) (bd : Nat), a0.cell? (an.add (Int.toNat 0 * 1)) = some (.slice au ar bd) ∧
 ∃ bm : Addr, au = some bm ∧
 (17 : Int) < (ar : Int) ∧
 ∃ (bg : Int), a0.cell? (bm.add (Int.toNat 17 * 1)) = some (.int .u8 bg) ∧
 (bg = 98 →
 (a4 = 0 →
 (a3 = 0 →
 (a5 = 0 →
 ((a2 : Int) = 1 →
 ∃ bo : Addr, a6 = some bo ∧
 (0 : Int) < (a2 : Int) ∧
 ∃ (aq : Option Addr) (az : Nat) (al : Nat), a0.cell? (bo.add (Int.toNat 0 * 1)) = some (.slice aq az al) ∧
 ∃ (bk : ByteArray), (convert 23 9 (.slice aq az al)).run Try.prog a0 = .ok (.string bk) a0 ∧
 R (.bool (bk.toList == (ByteArray.mk #[97, 98]).toList)) a0) ∧
 ((a2 : Int) ≠ 1 →
 R (.bool false) a0)) ∧
 (a5 ≠ 0 →
 R (.bool false) a0)) ∧
 (a3 ≠ 0 →
 R (.bool false) a0)) ∧
 (a4 ≠ 0 →
 R (.bool false) a0)) ∧
 (bg ≠ 98 →
 R (.bool false) a0)) ∧
 (b3 ≠ 2 →
 R (.bool false) a0)) ∧
 (bc ≠ 197 →
 R (.bool false) a0)) ∧
 ((ah : Int) ≠ 64 →
 R (.bool false) a0)) ∧
 ((a1 : Int) ≠ 1 →
 R (.bool false) a0)) ∧
 (a7 ≠ 0 →
 R (.bool false) a0)

theorem cachettelaw10_alive.up  {R : Value → World → Prop} {w : World} (h : cachettelaw10_alive.N  R w) : cachettelaw10_alive.M  R w := by
  unfold cachettelaw10_alive.M
  unfold cachettelaw10_alive.N at h
  refine thenW_in fun c8 e1 => ?_
  have h := h c8 w.heap.size ((Ext.refl no w).x_alloc e1) (Blk.of_new e1) ((Ext.refl no w)).size (size_lt_alloc e1)
  obtain ⟨c5, c4, bz, c6, hr, h⟩ := h
  refine ⟨c5, c4, bz, c6, hr, ?_⟩
  refine h.mono fun cc ce h => ?_
  obtain ⟨ae, ad, ab, ah, he, h⟩ := h
  refine ⟨ae, ad, ab, ah, he, ?_⟩
  refine h.mono fun c1 c2 h => ?_
  obtain ⟨bs, ai, he, h⟩ := h
  refine ⟨bs, ai, he, ?_⟩
  refine h.mono fun c7 ag h => ?_
  obtain ⟨aa, a2, a4, a1, a9, he, h⟩ := h
  refine ⟨aa, a2, a4, a1, a9, he, ?_⟩
  refine thenW_in fun bq aw => ?_
  have h := h bq ag.heap.size ((Ext.refl no ag).x_alloc aw) (Blk.of_new aw) ((Ext.refl no ag)).size (size_lt_alloc aw)
  obtain ⟨av, ar, am, ay, hr, h⟩ := h
  refine ⟨av, ar, am, ay, hr, ?_⟩
  refine h.mono fun bv bw h => ?_
  obtain ⟨a7, he, h⟩ := h
  refine ⟨a7, he, ?_⟩
  refine h.mono fun c9 ca h => ?_
  obtain ⟨a8, a5, a3, a6, af, he, h⟩ := h
  refine ⟨a8, a5, a3, a6, af, he, ?_⟩
  refine bif_of (fun bt => ?_) (fun bt => ?_)
  · have h := h.1 (beq_t bt)
    refine bif_of (fun bc => ?_) (fun bc => ?_)
    · have h := h.1 (beq_t bc)
      obtain ⟨cb, ac, h⟩ := h
      refine elim_some ac ?_
      obtain ⟨a0, h⟩ := h
      refine ⟨by decide, a0, ?_⟩
      obtain ⟨an, bb, b6, bl, h⟩ := h
      refine ⟨an, bb, b6, bl, ?_⟩
      refine bif_of (fun bp => ?_) (fun bp => ?_)
      · have h := h.1 (beq_t bp)
        refine elim_some ac ?_
        obtain ⟨a0, h⟩ := h
        refine ⟨by decide, a0, ?_⟩
        obtain ⟨bk, bm, be, ao, h⟩ := h
        refine ⟨bk, bm, be, ao, ?_⟩
        obtain ⟨cf, bh, h⟩ := h
        refine elim_some bh ?_
        obtain ⟨a0, h⟩ := h
        refine ⟨by decide, a0, ?_⟩
        obtain ⟨bx, al, h⟩ := h
        refine ⟨bx, al, ?_⟩
        refine bif_of (fun bd => ?_) (fun bd => ?_)
        · have h := h.1 (beq_t bd)
          refine elim_some ac ?_
          obtain ⟨a0, h⟩ := h
          refine ⟨by decide, a0, ?_⟩
          obtain ⟨b7, b2, bj, ap, h⟩ := h
          refine ⟨b7, b2, bj, ap, ?_⟩
          obtain ⟨ch, az, h⟩ := h
          refine elim_some az ?_
          obtain ⟨a0, h⟩ := h
          refine ⟨by decide, a0, ?_⟩
          obtain ⟨c3, bg, h⟩ := h
          refine ⟨c3, bg, ?_⟩
          refine bif_of (fun bi => ?_) (fun bi => ?_)
          · have h := h.1 (beq_t bi)
            refine elim_some ac ?_
            obtain ⟨a0, h⟩ := h
            refine ⟨by decide, a0, ?_⟩
            obtain ⟨aq, bf, au, bn, h⟩ := h
            refine ⟨aq, bf, au, bn, ?_⟩
            obtain ⟨cd, b4, h⟩ := h
            refine elim_some b4 ?_
            obtain ⟨a0, h⟩ := h
            refine ⟨by decide, a0, ?_⟩
            obtain ⟨c0, bo, h⟩ := h
            refine ⟨c0, bo, ?_⟩
            refine bif_of (fun b8 => ?_) (fun b8 => ?_)
            · have h := h.1 (beq_t b8)
              refine bif_of (fun br => ?_) (fun br => ?_)
              · have h := h.1 (beq_t br)
                refine bif_of (fun ak => ?_) (fun ak => ?_)
                · have h := h.1 (beq_t ak)
                  refine bif_of (fun ax => ?_) (fun ax => ?_)
                  · have h := h.1 (beq_t ax)
                    refine bif_of (fun b9 => ?_) (fun b9 => ?_)
                    · have h := h.1 (beq_t b9)
                      obtain ⟨cg, b5, h⟩ := h
                      refine elim_some b5 ?_
                      obtain ⟨a0, h⟩ := h
                      refine ⟨by decide, a0, ?_⟩
                      obtain ⟨b3, ba, b0, aj, h⟩ := h
                      refine ⟨b3, ba, b0, aj, ?_⟩
                      obtain ⟨bu, b1, h⟩ := h
                      refine ⟨bu, b1, ?_⟩
                      exact h
                    · have h := h.2 (beq_f b9)
                      exact h
                  · have h := h.2 (beq_f ax)
                    exact h
                · have h := h.2 (beq_f ak)
                  exact h
              · have h := h.2 (beq_f br)
                exact h
            · have h := h.2 (beq_f b8)
              exact h
          · have h := h.2 (beq_f bi)
            exact h
        · have h := h.2 (beq_f bd)
          exact h
      · have h := h.2 (beq_f bp)
        exact h
    · have h := h.2 (beq_f bc)
      exact h
  · have h := h.2 (beq_f bt)
    exact h

theorem cachettelaw10_alive.go  {R : Value → World → Prop} {w : World} (h : cachettelaw10_alive.N  R w) : Calls Try.prog 8 #[] w fun e w' => ∃ v, e = .returned v ∧ R v w' := cachettelaw10_alive.ok  (cachettelaw10_alive.up  h)
theorem cachettelaw10_alive.run  {V : Value} {Q : World → Prop} {w : World} (h : cachettelaw10_alive.N  (fun v w' => v = V ∧ Q w') w) : Calls Try.prog 8 #[] w (Ret V Q) := (cachettelaw10_alive.go  h).mono fun e w' ⟨v, he, hv, hq⟩ => ⟨by rw [he, hv], hq⟩

end Go.Proofs.Ytgcjipbahfpopaa

/- Disk: the statements' small functions: Sector, light, what is given, the chapter's example. -/
set_option linter.unusedVariables false
set_option linter.unusedSimpArgs false
set_option maxRecDepth 20000
set_option maxHeartbeats 4000000
namespace Go.Proofs.Ytgcjipbahfpopaa
open Go Go.Mx Go.Proofs
open W (OwnB)
section
variable {K : Nat → Prop} {w w' w1 : World} {o o' o1 : Own} {g g2 m : Nat} {d : DS} {i : Int} {a : Option Addr} {c : Nat}
def BoolsQ (W : World) (cs : List Value) : Prop := ∃ (a : Option Addr) (c : Nat) (l : List Bool), cs = [.slice a l.length c] ∧ l.length ≤ c ∧ c ≤ maxLen ∧ RowAt W a (boolsV l)
theorem flat_bools (l : List Bool) : (l.flatMap fun b => [Value.bool b]) = boolsV l := by
  unfold boolsV
  induction l with
  | nil => rfl
  | cons x r ih => rw [List.flatMap_cons, ih]; rfl
theorem opens_bools : Opens Try.prog 33 BoolsQ := (opens_rows (size := 1) (f := fun b => [Value.bool b]) (G := fun _ _ => True) Try.underlying33 (by kernel_rfl) ((opens_bool Try.underlying4).mono fun W cs ⟨b, h⟩ => ⟨b, h, trivial⟩)).mono
  fun W cs ⟨a, c, l, h1, h2, h3, h4, _⟩ => ⟨a, c, l, h1, h2, h3, by rw [← flat_bools]; exact h4⟩
end
end Go.Proofs.Ytgcjipbahfpopaa

/- Disk: the chapter's example; DiskArms. -/
set_option linter.unusedVariables false
set_option linter.unusedSimpArgs false
set_option maxRecDepth 20000
set_option maxHeartbeats 4000000
namespace Go.Proofs.Ytgcjipbahfpopaa
open Go Go.Mx Go.Proofs
open W (OwnB)
section
variable {K : Nat → Prop} {w w' w1 : World} {o o' o1 : Own} {g g2 m : Nat} {d : DS} {i : Int} {a : Option Addr} {c : Nat}
theorem DS.ok.up {n : Nat} (h : d.ok m) (hm : m ≤ n) : d.ok n := ⟨h.n1, h.n2, h.at_, by have := h.pl; omega, by have := h.cl; omega, h.left⟩
theorem newDS_ok {n : Nat} (h1 : 1 ≤ n) (h2 : n ≤ 400) : (newDS n).ok 0 := by
  have hn : (newDS n).good.length = n := by unfold newDS; simp
  exact ⟨by omega, by omega, fun x hx => (by cases hx), Nat.le_refl _, ⟨Int.le_refl _, Int.le_refl _⟩, by show (0 : Int) ≤ 0; decide, by show (0 : Int) < _; decide⟩
theorem armD_ok (h : d.ok m) {n : Int} (hn : n < 9223372036854775808) : (armD d n).1.ok m := by
  unfold armD
  split
  · exact h
  · split
    · exact h
    · exact ⟨h.n1, h.n2, h.at_, h.pl, h.cl, by show 0 ≤ n; omega, hn⟩
theorem syncD_ok (h : d.ok m) : (syncD d).1.ok m := by
  unfold syncD
  split
  · exact h
  · exact settleD_ok h _
theorem restartD_ok (h : d.ok m) (l : List Bool) : (restartD d l).ok m := by
  have k := settleD_ok h (keepF l)
  exact ⟨k.n1, k.n2, k.at_, k.pl, k.cl, k.left⟩
theorem writeD_ok (h : d.ok m) (i : Int) (b : List UInt8) : (writeD d i b).1.ok (m + 1) := by
  have hpl := h.pl
  have hcl := h.cl
  have hl := h.left
  have hu := h.up (Nat.le_succ m)
  have key : ∀ (s : Sec), hasD d i = 0 → ∀ x ∈ d.pend ++ [⟨i, s⟩], 0 ≤ x.i ∧ x.i < (d.good.length : Int) := fun s h0 x hx => by
    rcases List.mem_append.1 hx with hx | hx
    · exact h.at_ x hx
    · simp at hx; subst hx; exact (hasD_0 h0).2
  unfold writeD
  split
  · rename_i h0
    split
    · split
      · split
        · exact ⟨h.n1, h.n2, key _ h0, by show (d.pend ++ [_]).length ≤ _; rw [List.length_append]; show d.pend.length + 1 ≤ m + 1; omega, by show 0 ≤ d.count ∧ d.count ≤ ((m + 1 : Nat) : Int); omega, hl⟩
        · exact ⟨h.n1, h.n2, key _ h0, by show (d.pend ++ [_]).length ≤ _; rw [List.length_append]; show d.pend.length + 1 ≤ m + 1; omega, by show 0 ≤ d.count + 1 ∧ d.count + 1 ≤ ((m + 1 : Nat) : Int); omega, by show 0 ≤ d.left - 1 ∧ d.left - 1 < 9223372036854775808; omega⟩
      · exact ⟨h.n1, h.n2, key _ h0, by show (d.pend ++ [_]).length ≤ _; rw [List.length_append]; show d.pend.length + 1 ≤ m + 1; omega, by show 0 ≤ d.count + 1 ∧ d.count + 1 ≤ ((m + 1 : Nat) : Int); omega, hl⟩
    · exact hu
  · exact hu
end
end Go.Proofs.Ytgcjipbahfpopaa

/- Journal: a journal on a disk. -/
set_option linter.unusedVariables false
set_option linter.unusedSimpArgs false
set_option maxRecDepth 20000
set_option maxHeartbeats 2000000
namespace Go.Proofs.Ytgcjipbahfpopaa
open Go Go.Mx Go.Proofs
open W (OwnB GivesW)
def readsD (d : DS) (base size : Nat) : List (List UInt8) := (List.range size).map fun i : Nat => (readD d ((base : Int) + (i : Int))).1
def stretchK (d : DS) (base size : Int) (gen : Nat) : List (List UInt8) × Int :=
  if gen = 0 ∨ base < 0 ∨ size < 1 ∨ base > d.good.length ∨ size > (d.good.length : Int) - base then ([], 1) else if d.down then ([], 19) else (readsD d base.toNat size.toNat, 0)
structure JS where
  base : Int
  size : Int
  gen : Nat
  round : Nat
  tail : Int
  seq : Int
  dead : Bool
def openK (d : DS) (base size : Int) (gen : Nat) : Option JS × List (List UInt8) × Int :=
  if (stretchK d base size gen).2 ≠ 0 then (none, [], (stretchK d base size gen).2)
  else if (scanK (stretchK d base size gen).1 gen).2 = 4294967295 then (none, [], 2)
  else (some ⟨base, size, gen, (scanK (stretchK d base size gen).1 gen).2 + 1, (scanK (stretchK d base size gen).1 gen).1.2, (scanK (stretchK d base size gen).1 gen).1.1.length, false⟩, (scanK (stretchK d base size gen).1 gen).1.1, 0)
def JS.V (J : JS) (g : Nat) : List Value := [.pointer (some (blk g)), .int .i64 J.base, .int .i64 J.size, .int .u32 J.gen, .int .u32 J.round, .int .i64 J.tail, .int .i64 J.seq, .bool J.dead]
structure JG (w : World) (o : Own) (q g : Nat) (J : JS) : Prop where
  mem : Blk w q 82 (J.V g)
  tg : o q = some q
def writesD : DS → Int → List (List UInt8) → DS × Int
  | d, _, [] => (d, 0)
  | d, i, x :: r => if (writeD d i x).2 ≠ 0 then writeD d i x else writesD (writeD d i x).1 (i + 1) r
def appendF (J : JS) (b : List UInt8) : List (List UInt8) := (frameK J.gen J.round J.seq.toNat b).1
def appendJ (d : DS) (J : JS) (b : List UInt8) : (DS × JS) × Int :=
  if partsN b.length = 0 then ((d, J), 3)
  else if J.dead then ((d, J), 19)
  else if (partsN b.length : Int) > J.size - J.tail then ((d, J), 18)
  else if (writesD d (J.base + J.tail) (appendF J b)).2 ≠ 0 then (((writesD d (J.base + J.tail) (appendF J b)).1, { J with dead := true }), (writesD d (J.base + J.tail) (appendF J b)).2)
  else if (syncD (writesD d (J.base + J.tail) (appendF J b)).1).2 ≠ 0 then (((syncD (writesD d (J.base + J.tail) (appendF J b)).1).1, { J with dead := true }), (syncD (writesD d (J.base + J.tail) (appendF J b)).1).2)
  else (((syncD (writesD d (J.base + J.tail) (appendF J b)).1).1, { J with tail := J.tail + partsN b.length, seq := J.seq + 1 }), 0)
structure JS.ok (J : JS) : Prop where
  base : 0 ≤ J.base ∧ J.base ≤ 1000000
  size : 0 ≤ J.size ∧ J.size ≤ 1000000
  gen : J.gen < 4294967296
  round : J.round < 4294967296
  tail : 0 ≤ J.tail ∧ J.tail ≤ 1000000
  seq : 0 ≤ J.seq ∧ J.seq ≤ 1000000
section
variable {w w' w1 : World} {o o' o1 : Own} {q g n N m : Nat} {K : Nat → Prop} {b s : List UInt8} {a : Option Addr} {c : Nat} {l : List BS} {d : DS} {J : JS}
theorem JG.step (h : JG w o q g J) (s : Step K w o w' o') (hk : ¬ K q) : JG w' o' q g J := ⟨s.blk h.mem h.tg hk, by rw [s.own h.mem.lt]; exact h.tg⟩
theorem readsD_len (d : DS) (base size : Nat) : (readsD d base size).length = size := by unfold readsD; simp
theorem stretch_loop (h : DG w o g d) (ok : Tags w o) (hd : d.ok m) (hm : m < 100000) {base size : Int} (hb0 : 0 ≤ base) (hb1 : base ≤ 1000000) (hs0 : 0 ≤ size) (hs1 : size ≤ 100000) {End : Value → World → Prop}
    (hE : ∀ w2 o2 la lc (l : List BS), Step no w o w2 o2 → l.map BS.bs = readsD d base.toNat size.toNat → BsRow w2 o2 la lc l → End (.slice la l.length lc) w2) :
    ∃ (I1 : Nat → List Value → World → Prop) (m71 : Nat), I1 m71 [.slice none 0 0, .int .i64 0] w ∧ ∀ (m72 : Nat) (ww73 : World) (la : Option Addr) (ln : Nat) (lc : Nat) (t : Int), I1 m72 [.slice la ln lc, .int .i64 t] ww73 →
      (t < size →
        (-9223372036854775808 : Int) ≤ (base + t) ∧ (base + t) < 9223372036854775808 ∧
        Calls Try.prog 50 #[.pointer (some (blk g)), .int .i64 (base + t)] ww73 fun ee ww78 => ∃ (ra : Option Addr) (rn : Nat) (rc : Nat) (rk : Int), ee = .returned (.tuple #[.slice ra rn rc, .int .i64 rk]) ∧
        ∀ (ww79 : World) (q80 : Nat), Ext no ww78 ww79 → Blk ww79 q80 23 [.slice ra rn rc] → ww78.heap.size ≤ q80 → q80 < ww79.heap.size →
        ∃ (a81a : Option Addr) (a81n : Nat) (a81c : Nat) (ww82 : World), (Builtin.append_ #[25, 25] 25 #[.slice la ln lc, .slice (some (blk q80)) 1 1]).run Try.prog ww79 = .ok (.slice a81a a81n a81c) ww82 ∧
        (-9223372036854775808 : Int) ≤ (t + 1) ∧ (t + 1) < 9223372036854775808 ∧
        ∃ m83, m83 < m72 ∧ I1 m83 [.slice a81a a81n a81c, .int .i64 (t + 1)] ww82) ∧
      (size ≤ t → End (.slice la ln lc) ww73) := by
  refine ⟨fun m vs w1 => ∃ (t : Nat) (o1 : Own) (la : Option Addr) (lc : Nat) (l : List BS), vs = [.slice la l.length lc, .int .i64 t] ∧ m + t = size.toNat ∧ Step no w o w1 o1 ∧ BsL w.heap.size w1 o1 la lc l ∧ l.map BS.bs = readsD d base.toNat t, size.toNat, ⟨0, o, none, 0, [], rfl, rfl, Step.refl _ ok, BsL.nil _ _ _, rfl⟩, ?_⟩
  rintro k w7 la ln lc i ⟨t, o7, la', lc', l, hi, hk, s7, L7, hmap⟩
  simp only [List.cons.injEq, Value.slice.injEq, Value.int.injEq, true_and, and_true] at hi
  obtain ⟨⟨rfl, rfl, rfl⟩, rfl⟩ := hi
  have hll : l.length = t := by have := congrArg List.length hmap; rwa [List.length_map, readsD_len] at this
  refine ⟨fun ht => ⟨by omega, by omega, ?_⟩, fun ht => ?_⟩
  · refine (dRead_spec (h.step s7 id) s7.ok (base + t) (by have := hd.pl; omega)).mono fun u w11 ⟨ra, rn, rc, o11, he, hn, hnc, s11, hR1, hR0⟩ => ⟨ra, rn, rc, _, he, fun w12 q12 X12 hb hq hq' => ?_⟩
    have X11 : Ext no w7 w11 := s11.ext.mono fun b ⟨_, _, h⟩ _ => h
    have t11 := Step.of_no X11 s7.ok
    have okx : BSok w11 (grow w7 o7) ⟨ra, rc, (readD d (base + t)).1⟩ := by
      by_cases hz : (readD d (base + t)).2 = 0
      · obtain ⟨q, tt, e, hbk, hl, hq, _⟩ := hR0 hz
        subst e
        refine ⟨Row.fresh ?_ fun ad ha => by cases ha; exact hq, by rw [← hn]; exact hnc⟩
        have := (RowAt.of_blk hbk).take (bytesV (readD d (base + t)).1).length
        rwa [List.take_left] at this
      · obtain ⟨e1, e2⟩ := hR1 hz
        rw [e2]
        exact ⟨Row.nil _ _ _, Nat.zero_le _⟩
    have l7 := s7.size
    subst hn
    obtain ⟨a', c', w39, o39, hr, s39, L39⟩ := (L7.step t11 fun _ h => h.elim).push t11.ok (by omega) okx X12 hb hq hq' (by have := X11.size; omega)
    refine ⟨a', _, c', w39, hr, by omega, by omega, k - 1, by omega, t + 1, o39, a', c', _, rfl, by omega, (s7.trans t11).trans' s39 fun i hi => .inr hi, L39, ?_⟩
    rw [List.map_append, hmap]
    unfold readsD
    rw [List.range_succ, List.map_append]
    simp only [List.map_cons, List.map_nil]
    congr 3
    rw [show ((base.toNat : Nat) : Int) = base by omega]
  · have htt : t = size.toNat := by omega
    exact hE w7 _ la lc l (Step.of_no (s7.ext.mono fun b ⟨_, _, h⟩ _ => h) ok) (by rw [← htt]; exact hmap) (L7.give s7 (Nat.le_refl _))
theorem stretch_spec (h : DG w o g d) (ok : Tags w o) (hd : d.ok m) (hm : m < 100000) (base size : Int) (gen : Nat) :
    Calls Try.prog 42 #[.pointer (some (blk g)), .int .i64 base, .int .i64 size, .int .u32 gen] w (fun z w' => ∃ o' la lc, ∃ l : List BS, z = .returned (.tuple #[.slice la l.length lc, .int .i64 (stretchK d base size gen).2]) ∧ Step no w o w' o' ∧ l.map BS.bs = (stretchK d base size gen).1 ∧ BsRow w' o' la lc l) := by
  refine (journal_stretch.go _ _ _ _ (R := fun z w' => ∃ o' la lc, ∃ l : List BS, z = (.tuple #[.slice la l.length lc, .int .i64 (stretchK d base size gen).2]) ∧ Step no w o w' o' ∧ l.map BS.bs = (stretchK d base size gen).1 ∧ BsRow w' o' la lc l) ?_).mono fun z w' ⟨u, he, o', la, lc, l, hu, hw⟩ => ⟨o', la, lc, l, by rw [he, hu], hw⟩
  unfold journal_stretch.N
  refine (Sectors_spec h).mono fun u w7 ⟨he, hw⟩ => ⟨_, he, fun h => (by cases h), fun _ => ?_⟩
  subst hw
  have n2 := hd.n2
  have leaf : ∀ (k : Int), stretchK d base size gen = ([], k) → ∃ o' la lc, ∃ l : List BS, Value.tuple #[.slice none 0 0, .int .i64 k] = (.tuple #[.slice la l.length lc, .int .i64 (stretchK d base size gen).2]) ∧ Step no w7 o w7 o' ∧ l.map BS.bs = (stretchK d base size gen).1 ∧ BsRow w7 o' la lc l := fun k hk => ⟨o, none, 0, [], by rw [hk]; rfl, Step.refl _ ok, by rw [hk]; rfl, BsRow.nil _ _⟩
  have bad : (gen = 0 ∨ base < 0 ∨ size < 1 ∨ base > d.good.length ∨ size > (d.good.length : Int) - base) → _ := fun hb => leaf 1 (by unfold stretchK; rw [if_pos hb])
  refine ⟨fun h1 => bad (by omega), fun h1 => ⟨fun h2 => bad (by omega), fun h2 => ⟨fun h3 => bad (by omega), fun h3 => ⟨fun h4 => bad (by omega), fun h4 => ⟨by omega, by omega, fun h5 => bad (by omega), fun h5 => ?_⟩⟩⟩⟩⟩
  have hgood : ¬ (gen = 0 ∨ base < 0 ∨ size < 1 ∨ base > d.good.length ∨ size > (d.good.length : Int) - base) := by omega
  refine (Down_spec h).mono fun u w67 ⟨he, hw⟩ => ⟨_, he, fun hdn => ?_, fun hdn => ?_⟩
  · subst hw
    exact leaf 19 (by unfold stretchK; rw [if_neg hgood, if_pos hdn])
  subst hw
  have hK : stretchK d base size gen = (readsD d base.toNat size.toNat, 0) := by unfold stretchK; rw [if_neg hgood, if_neg (by rw [hdn]; decide)]
  exact stretch_loop (End := fun v w2 => ∃ o' la lc, ∃ l : List BS, Value.tuple #[v, .int .i64 0] = (.tuple #[.slice la l.length lc, .int .i64 (stretchK d base size gen).2]) ∧ Step no w67 o w2 o' ∧ l.map BS.bs = (stretchK d base size gen).1 ∧ BsRow w2 o' la lc l) h ok hd hm (by omega) (by omega) (by omega) (by omega) fun w2 o2 la lc l s2 hmap hr => ⟨o2, la, lc, l, by rw [hK], s2, by rw [hK]; exact hmap, hr⟩
theorem stretchK_len (d : DS) (base size : Int) (gen : Nat) (h : d.good.length ≤ 400) : (stretchK d base size gen).1.length ≤ 400 := by
  unfold stretchK
  split
  · exact Nat.zero_le _
  · split
    · exact Nat.zero_le _
    · rw [readsD_len]; omega
theorem Open_spec (h : DG w o g d) (ok : Tags w o) (hd : d.ok m) (hm : m < 100000) (base size : Int) (gen : Nat) :
    Calls Try.prog 20 #[.pointer (some (blk g)), .int .i64 base, .int .i64 size, .int .u32 gen] w (fun z w' => ∃ o' jp la lc, ∃ l : List BS, z = .returned (.tuple #[.pointer jp, .slice la l.length lc, .int .i64 (openK d base size gen).2.2]) ∧ Step no w o w' o' ∧ l.map BS.bs = (openK d base size gen).2.1 ∧ BsRow w' o' la lc l ∧
      ((openK d base size gen).1 = none → jp = none) ∧ (∀ J, (openK d base size gen).1 = some J → ∃ q, jp = some (blk q) ∧ w.heap.size ≤ q ∧ JG w' o' q g J)) := by
  refine (journal_Open.go _ _ _ _ (R := fun z w' => ∃ o' jp la lc, ∃ l : List BS, z = (.tuple #[.pointer jp, .slice la l.length lc, .int .i64 (openK d base size gen).2.2]) ∧ Step no w o w' o' ∧ l.map BS.bs = (openK d base size gen).2.1 ∧ BsRow w' o' la lc l ∧
      ((openK d base size gen).1 = none → jp = none) ∧ (∀ J, (openK d base size gen).1 = some J → ∃ q, jp = some (blk q) ∧ w.heap.size ≤ q ∧ JG w' o' q g J)) ?_).mono fun z w' ⟨u, he, o', jp, la, lc, l, hu, hw⟩ => ⟨o', jp, la, lc, l, by rw [he, hu], hw⟩
  unfold journal_Open.N
  have hlen := stretchK_len d base size gen hd.n2
  refine (stretch_spec h ok hd hm base size gen).mono fun u w8 ⟨o8, la, lc, l, he, s8, hmap, hr⟩ => ⟨_, _, _, _, he, fun hne => ?_, fun heq => ?_⟩
  · have hK : openK d base size gen = (none, [], (stretchK d base size gen).2) := by unfold openK; rw [if_pos hne]
    rw [hK]
    exact ⟨o8, none, none, 0, [], rfl, s8, rfl, BsRow.nil _ _, fun _ => rfl, fun J h => by cases h⟩
  · have hll : l.length ≤ 400 := by have := congrArg List.length hmap; rw [List.length_map] at this; omega
    refine (scan_spec s8.ok hr.at (by omega) gen).mono fun u w14 ⟨o14, ra, rc, r, he, s14, hrm, hrr⟩ => ⟨_, _, _, _, _, he, ?_⟩
    rw [hmap] at hrm ⊢
    have hrl := roundOf_lt gen (stretchK d base size gen).1
    have hrr2 : (scanK (stretchK d base size gen).1 gen).2 = roundOf gen (stretchK d base size gen).1 := rfl
    have hwrap : ¬ (scanK (stretchK d base size gen).1 gen).2 = 4294967295 → IntKind.u32.wrap (((scanK (stretchK d base size gen).1 gen).2 : Int) + 1) = (((scanK (stretchK d base size gen).1 gen).2 + 1 : Nat) : Int) := fun hn => by rw [IntKind.wrap_u32]; omega
    have hwrap0 : (scanK (stretchK d base size gen).1 gen).2 = 4294967295 → IntKind.u32.wrap (((scanK (stretchK d base size gen).1 gen).2 : Int) + 1) = 0 := fun hn => by rw [hn]; rfl
    have s814 := s8.trans s14
    refine ⟨fun hz => ?_, fun hz w16 q17 X16 hb hq hq' => ?_⟩
    · by_cases h0 : (scanK (stretchK d base size gen).1 gen).2 = 4294967295
      · have hK : openK d base size gen = (none, [], 2) := by unfold openK; rw [if_neg (not_not_intro heq), if_pos h0]
        rw [hK]
        exact ⟨o14, none, none, 0, [], rfl, s814, rfl, BsRow.nil _ _, fun _ => rfl, fun J h => by cases h⟩
      · rw [hwrap h0] at hz; omega
    · have h0 : ¬ (scanK (stretchK d base size gen).1 gen).2 = 4294967295 := fun h0 => hz (hwrap0 h0)
      rw [hwrap h0] at hb
      have hK : openK d base size gen = (some ⟨base, size, gen, (scanK (stretchK d base size gen).1 gen).2 + 1, (scanK (stretchK d base size gen).1 gen).1.2, (scanK (stretchK d base size gen).1 gen).1.1.length, false⟩, (scanK (stretchK d base size gen).1 gen).1.1, 0) := by unfold openK; rw [if_neg (not_not_intro heq), if_neg h0]
      rw [hK]
      have s16 := (Step.of_no X16 s14.ok).tag hq hq'
      have l8 := s814.size
      have hrlen : r.length = (scanK (stretchK d base size gen).1 gen).1.1.length := by rw [← hrm, List.length_map]
      rw [hrlen] at hb
      refine ⟨_, some (blk q17), ra, rc, r, rfl, s814.trans s16, hrm, hrr.step s16, fun h => (by cases h), fun J hJ => ?_⟩
      cases hJ
      exact ⟨q17, rfl, by omega, hb, tag_self⟩
end
end Go.Proofs.Ytgcjipbahfpopaa

/- Journal: Append, and the small ones; the chapter's example. -/
set_option linter.unusedVariables false
set_option linter.unusedSimpArgs false
set_option maxRecDepth 20000
set_option maxHeartbeats 2000000
namespace Go.Proofs.Ytgcjipbahfpopaa
open Go Go.Mx Go.Proofs
open W (OwnB GivesW)
section
variable {w w' w1 : World} {o o' o1 : Own} {q g n N m : Nat} {K : Nat → Prop} {b s : List UInt8} {a : Option Addr} {c : Nat} {l : List BS} {d : DS} {J : JS}
theorem writesD_ok : ∀ {f : List (List UInt8)} {d : DS} {m : Nat} {i : Int}, d.ok m → (writesD d i f).1.ok (m + f.length)
  | [], d, m, i, h => h
  | x :: r, d, m, i, h => by
    have hw := writeD_ok h i x
    unfold writesD
    split
    · exact hw.up (by rw [List.length_cons]; omega)
    · have := writesD_ok (f := r) (i := i + 1) hw
      rw [List.length_cons]
      exact this.up (by omega)
theorem appendF_len (J : JS) (b : List UInt8) : (appendF J b).length ≤ 84 := by
  unfold appendF frameK
  split
  · exact Nat.zero_le _
  · split
    · exact Nat.zero_le _
    · show (frameL _ _ _ _).length ≤ 84
      unfold frameL
      rw [List.length_map, List.length_range]
      exact partsN_le _
theorem appendJ_ok (h : d.ok m) (J : JS) (b : List UInt8) : (appendJ d J b).1.1.ok (m + 84) := by
  have hu := h.up (Nat.le_add_right m 84)
  have hf := appendF_len J b
  have hw : (writesD d (J.base + J.tail) (appendF J b)).1.ok (m + 84) := (writesD_ok h).up (by omega)
  unfold appendJ
  repeat' split
  all_goals first | exact hu | exact hw | exact syncD_ok hw
theorem kill_spec (h : JG w o q g J) (hd : DG w o g d) (ok : Tags w o) (hqg : q ≠ g) {Φ : World → Prop}
    (hΦ : ∀ w2 o2, Step (fun i => i = q) w o w2 o2 → JG w2 o2 q g { J with dead := true } → DG w2 o2 g d → Φ w2) :
    canStore w (((blk q).add 7).add 0) ∧ thenW (w.setCell (((blk q).add 7).add 0) (.bool true)) fun w2 => Φ w2 := by
  have hadd : ((blk q).add 7).add 0 = (blk q).add 7 := by rw [add_add]
  rw [hadd]
  refine ⟨h.mem.cana (i := 7) rfl, thenW_in fun w2 e2 => ?_⟩
  have X : Ext (fun b => b = q) w w2 := (Ext.refl (fun b => b = q) w).x_set (q := q) (i := 7) rfl (.inl rfl) e2
  obtain ⟨o2, s2⟩ := Step.store1 X ok h.tg
  exact hΦ w2 o2 s2 ⟨h.mem.seti 7 rfl e2, by rw [s2.own h.mem.lt]; exact h.tg⟩ (hd.step s2 (fun e => hqg e.symm))
theorem Append_spec (h : JG w o q g J) (hD : DG w o g d) (ok : Tags w o) (hqg : q ≠ g) (hd : d.ok m) (hm : m + 100 < 100000) (hJ : J.ok) (hb : RowAt w a (bytesV b)) (hc : b.length ≤ c) (hbl : b.length < 1000000) :
    Calls Try.prog 23 #[.pointer (some (blk q)), .slice a b.length c] w (Ret (.int .i64 (appendJ d J b).2) fun w' => ∃ o', Step (fun i => i = q ∨ i = g) w o w' o' ∧ JG w' o' q g (appendJ d J b).1.2 ∧ DG w' o' g (appendJ d J b).1.1) := by
  refine journal_Journal_Append.run _ _ _ _ ?_
  unfold journal_Journal_Append.N
  rw [parts_F, partsI_nat]
  obtain ⟨⟨hb0, hb1⟩, ⟨hs0, hs1⟩, hgen, hrd, ⟨ht0, ht1⟩, ⟨hq0, hq1⟩⟩ := hJ
  have h84 := partsN_le b.length
  have leaf : ∀ (k : Int), appendJ d J b = ((d, J), k) → ∀ w2, Ext no w w2 → Value.int .i64 k = .int .i64 (appendJ d J b).2 ∧ ∃ o', Step (fun i => i = q ∨ i = g) w o w2 o' ∧ JG w2 o' q g (appendJ d J b).1.2 ∧ DG w2 o' g (appendJ d J b).1.1 := fun k hk w2 X => by
    have s := Step.of_no X ok
    rw [hk]; exact ⟨rfl, _, s.none, h.step s id, hD.step s id⟩
  refine ⟨fun e => (by cases e), fun _ => ⟨fun h0 w3 X => leaf 3 (by unfold appendJ; rw [if_pos (by omega)]) w3 X, fun h0 => ?_⟩⟩
  have hp0 : ¬ partsN b.length = 0 := by omega
  refine ⟨_, rfl, J.dead, h.mem.cella (i := 7) rfl, fun hdd w3 X => leaf 19 (by unfold appendJ; rw [if_neg hp0, if_pos hdd]) w3 X, fun hdd => ?_⟩
  have hdd' : ¬ J.dead = true := by rw [hdd]; decide
  refine ⟨_, h.mem.cella (i := 2) rfl, _, h.mem.cella (i := 5) rfl, by omega, by omega, fun hf w10 X => leaf 18 (by unfold appendJ; rw [if_neg hp0, if_neg hdd', if_pos hf]) w10 X, fun hf => ?_⟩
  have hf' : ¬ (partsN b.length : Int) > J.size - J.tail := by omega
  have hK : appendJ d J b = if (writesD d (J.base + J.tail) (appendF J b)).2 ≠ 0 then (((writesD d (J.base + J.tail) (appendF J b)).1, { J with dead := true }), (writesD d (J.base + J.tail) (appendF J b)).2)
      else if (syncD (writesD d (J.base + J.tail) (appendF J b)).1).2 ≠ 0 then (((syncD (writesD d (J.base + J.tail) (appendF J b)).1).1, { J with dead := true }), (syncD (writesD d (J.base + J.tail) (appendF J b)).1).2)
      else (((syncD (writesD d (J.base + J.tail) (appendF J b)).1).1, { J with tail := J.tail + partsN b.length, seq := J.seq + 1 }), 0) := by
    unfold appendJ; rw [if_neg hp0, if_neg hdd', if_neg hf']
  rw [hK]
  refine ⟨_, h.mem.cella (i := 3) rfl, _, h.mem.cella (i := 4) rfl, _, h.mem.cella (i := 6) rfl, fun w16 X16 => ?_⟩
  have s16 := Step.of_no X16 ok
  have hwq : IntKind.u32.wrap J.seq = ((J.seq.toNat : Nat) : Int) := by rw [IntKind.wrap_u32]; omega
  rw [hwq]
  refine (fFrame_spec s16.ok (hb.no X16) hc hbl J.gen J.round J.seq.toNat).mono fun u w26 ⟨o26, fa, fc, f, he, s26', hfm, hfr⟩ => ⟨_, _, _, _, he, ?_⟩
  have s26 := s16.trans s26'
  have hfm' : f.map BS.bs = appendF J b := hfm
  have hfl : f.length = (appendF J b).length := by rw [← hfm', List.length_map]
  have h84f := appendF_len J b
  obtain ⟨W, hW⟩ : ∃ W, writesD d (J.base + J.tail) (appendF J b) = W := ⟨_, rfl⟩
  rw [hW]
  have hWok : W.1.ok (m + 84) := by rw [← hW]; exact (writesD_ok hd).up (by omega)
  refine ⟨fun k vs w1 => ∃ (t : Nat) (o1 : Own) (d1 : DS), vs = [.int .i64 t] ∧ k + t = f.length ∧ Step (fun i => i = g) w o w1 o1 ∧ JG w1 o1 q g J ∧ DG w1 o1 g d1 ∧ BsRow w1 o1 fa fc f ∧ d1.ok (m + t) ∧ writesD d1 (J.base + J.tail + t) ((appendF J b).drop t) = W, f.length, ⟨0, o26, d, rfl, rfl, s26.none, h.step s26 id, hD.step s26 id, hfr, hd, by rw [List.drop_zero, ← hW]; simp⟩, ?_⟩
  rintro k w30 i ⟨t, o30, d1, hi, hk, s30, J30, D30, F30, k30, hWt⟩
  simp only [List.cons.injEq, Value.int.injEq, true_and, and_true] at hi
  subst hi
  have hgq : ¬ q = g := hqg
  refine ⟨fun ht => ?_, fun ht => ?_⟩
  · have htl : t < f.length := by omega
    have gt : f[t]? = some f[t] := List.getElem?_eq_getElem htl
    have hmt := List.getElem_mem htl
    have gF : (appendF J b)[t]? = some (f[t]).bs := by rw [← hfm']; exact get_map_bs gt
    generalize f[t] = x at *
    obtain ⟨fd, hfd, cx⟩ := F30.at.cell gt
    obtain ⟨rx, ex⟩ := F30.oks x hmt
    have hdrop : (appendF J b).drop t = x.bs :: (appendF J b).drop (t + 1) := by
      have h1 : t < (appendF J b).length := by omega
      rw [List.drop_eq_getElem_cons h1]
      rw [List.getElem?_eq_getElem h1] at gF
      injection gF with gF
      rw [gF]
    rw [hdrop] at hWt
    unfold writesD at hWt
    refine ⟨fd, hfd, by omega, by omega, x.a, x.bs.length, x.c, by rw [Int.toNat_natCast]; exact cx, _, J30.mem.cella (i := 0) rfl, _, J30.mem.cella (i := 1) rfl, _, J30.mem.cella (i := 5) rfl, by omega, by omega, by omega, by omega, fun w35 X35 => ?_⟩
    have s35' := Step.of_no X35 s30.ok
    refine (dWrite_spec (D30.step s35' id) s35'.ok k30 (by omega) (J.base + J.tail + t) (rx.step s35').1).mono fun u w44 ⟨he, o44, s44', D44⟩ => ⟨_, he, fun hne => ?_, fun heq => ?_⟩
    all_goals have s44 := s35'.none.trans s44'
    all_goals have J44 := J30.step s44 hgq
    · rw [if_pos hne] at hWt
      have e1 : W.2 = (writeD d1 (J.base + J.tail + t) x.bs).2 := by rw [← hWt]
      have e2 : W.1 = (writeD d1 (J.base + J.tail + t) x.bs).1 := by rw [← hWt]
      rw [if_pos (by rw [e1]; exact hne)]
      refine kill_spec J44 D44 s44.ok hqg fun w2 o2 s2 J2 D2 => ?_
      exact ⟨by rw [e1], o2, ((s30.trans s44).mono fun _ h _ => .inr h).trans (s2.mono fun _ h _ => .inl h), J2, by rw [e2]; exact D2⟩
    · rw [if_neg (not_not_intro heq)] at hWt
      exact ⟨by omega, by omega, k - 1, by omega, t + 1, o44, _, rfl, by omega, s30.trans s44, J44, D44, F30.step s44, writeD_ok k30 _ _, by rw [← hWt]; congr 1; omega⟩
  · have htt : t = f.length := by omega
    rw [List.drop_of_length_le (by omega)] at hWt
    have hW1 : W = (d1, 0) := by rw [← hWt]; rfl
    refine ⟨_, J30.mem.cella (i := 0) rfl, ?_⟩
    refine (dSync_spec D30 s30.ok k30 (by omega)).mono fun u w52 ⟨he, o52, s52, D52⟩ => ⟨_, he, fun hne => ?_, fun heq => ?_⟩
    all_goals have J52 := J30.step s52 hgq
    all_goals have st := s30.trans s52
    all_goals rw [hW1, if_neg (show ¬ ((d1, (0 : Int)).2 ≠ 0) from not_not_intro rfl)]
    · rw [if_pos hne]
      refine kill_spec J52 D52 s52.ok hqg fun w2 o2 s2 J2 D2 => ?_
      exact ⟨rfl, o2, (st.mono fun _ h _ => .inr h).trans (s2.mono fun _ h _ => .inl h), J2, D2⟩
    · rw [if_neg (not_not_intro heq)]
      have ha5 : ((blk q).add 5).add 0 = (blk q).add 5 := by rw [add_add]
      have ha6 : ((blk q).add 6).add 0 = (blk q).add 6 := by rw [add_add]
      rw [ha5]
      refine ⟨_, J52.mem.cella (i := 5) rfl, by omega, by omega, J52.mem.cana (i := 5) rfl, thenW_in fun w57 e57 => ?_⟩
      have b57 := J52.mem.seti 5 rfl e57
      rw [ha6]
      refine ⟨_, b57.cella (i := 6) rfl, by omega, by omega, b57.cana (i := 6) rfl, thenW_in fun w60 e60 => ?_⟩
      have X60 : Ext (fun b => b = q) w52 w60 := ((Ext.refl (fun b => b = q) w52).x_set (q := q) (i := 5) rfl (.inl rfl) e57).x_set (q := q) (i := 6) rfl (.inl rfl) e60
      obtain ⟨o60, s60⟩ := Step.store1 X60 s52.ok J52.tg
      have b60 := b57.seti 6 rfl e60
      exact ⟨rfl, o60, (st.mono fun _ h _ => .inr h).trans (s60.mono fun _ h _ => .inl h), ⟨b60, by rw [s60.own J52.mem.lt]; exact J52.tg⟩, D52.step s60 (fun e => hqg e.symm)⟩
end
end Go.Proofs.Ytgcjipbahfpopaa

/- Journal: the chapter's example. -/
set_option linter.unusedVariables false
set_option linter.unusedSimpArgs false
set_option maxRecDepth 100000
set_option maxHeartbeats 4000000
namespace Go.Proofs.Ytgcjipbahfpopaa
open Go Go.Mx Go.Proofs
open W (OwnB GivesW)
def exJ : JS := ⟨0, 4, 1, 1, 0, 0, false⟩
def exD : DS := (appendJ (newDS 4) exJ [97, 98]).1.1
theorem ex_frame : frameK 1 1 0 [97, 98] = ([secL 1 1 0 0 1 [97, 98]], 0) := by kernel_rfl
theorem ex_open : openK (newDS 4) 0 4 1 = (some exJ, [], 0) := by kernel_rfl
theorem ex_append : (appendJ (newDS 4) exJ [97, 98]).2 = 0 := by kernel_rfl
theorem ex_open2 : (openK exD 0 4 1).2 = ([[97, 98]], 0) := by kernel_rfl
theorem litJ {w w1 : World} (bs : List UInt8) {q : Nat} (X : Ext no w w1) (hb : Blk w1 q 5 (bytesV bs)) (hq : w.heap.size ≤ q) :
    ∃ w2, (convert 23 23 (.slice (some (blk q)) bs.length bs.length)).run Try.prog w1 = .ok (.slice (some (blk q)) bs.length bs.length) w2 ∧ RowAt w2 (some (blk q)) (bytesV bs) ∧ Ext no w w2 :=
  ⟨_, conv_mark Try.underlying23 Try.underlying5 hb, (RowAt.of_blk hb).freeze _ _, X.freeze (.inr hq) _⟩
theorem alive10_spec (w : World) : Calls Try.prog 8 #[] w (Ret (.bool true) fun w' => Ext no w w') := by
  refine cachettelaw10_alive.run ?_
  unfold cachettelaw10_alive.N
  intro w1 q2 X1 hb2 hq2 hq2'
  obtain ⟨w4, hc4, r4, X4⟩ := litJ [97, 98] X1 hb2 hq2
  refine ⟨_, _, _, w4, hc4, ?_⟩
  have ok4 : Tags w4 (fun _ => none) := fun b j _ h => by cases h
  refine (fFrame_spec (c := 2) ok4 r4 (by decide) (by decide) 1 1 0).mono fun u w8 ⟨o8, fa, fc, f, he, s8, hfm, hf⟩ => ⟨_, _, _, _, he, ?_⟩
  rw [ex_frame] at hfm
  refine (dNew_spec (n := 4) s8.ok (by decide) (by decide)).mono fun u w12 ⟨g, o12, he, hg, s12, D12⟩ => ⟨_, _, he, ?_⟩
  have kD := newDS_ok (n := 4) (by decide) (by decide)
  refine (Open_spec D12 s12.ok kD (by decide) 0 4 1).mono fun u w17 ⟨o17, jp, la, lc, l, he, s17, _, _, _, hJ⟩ => ⟨_, _, _, _, _, he, fun w18 q19 X18 hb19 hq19 hq19' => ?_⟩
  obtain ⟨q, rfl, hq, J17⟩ := hJ exJ (by rw [ex_open])
  have hgl := D12.lt
  obtain ⟨w21, hc21, r21, X21⟩ := litJ [97, 98] X18 hb19 hq19
  refine ⟨_, _, _, w21, hc21, ?_⟩
  have s21 := Step.of_no X21 s17.ok
  refine (Append_spec (c := 2) (b := [97, 98]) (J17.step s21 id) ((D12.step s17 id).step s21 id) s21.ok (by omega) kD (by decide) ⟨by decide, by decide, by decide, by decide, by decide, by decide⟩ r21 (by decide) (by decide)).mono fun u w24 ⟨he, o24, s24, J24, D24⟩ => ⟨_, he, ?_⟩
  have kD2 : exD.ok 84 := appendJ_ok kD exJ [97, 98]
  have D24' : DG w24 o24 g exD := D24
  refine (Open_spec D24' s24.ok kD2 (by decide) 0 4 1).mono fun u w29 ⟨o29, jp2, ra, rc, r, he, s29, hrm, hr, _, _⟩ => ⟨_, _, _, _, _, he, ?_⟩
  have hl8 := D12.lt
  have l12 := s12.size
  have l17 := s17.size
  have l18 := X18.size
  have sAll : Step no w8 o8 w29 o29 := ((s12.trans s17).trans s21.none).trans' (s24.trans s29.none) fun i hi => .inr (by omega)
  have fin : Ext no w w29 := (X4.trans (s8.ext.mono fun b ⟨_, _, h⟩ _ => h)).trans (sAll.ext.mono fun b ⟨_, _, h⟩ _ => h)
  have hfl : f.length = 1 := by have := congrArg List.length hfm; simpa using this
  have hrl : r.length = 1 := by have := congrArg List.length hrm; rw [ex_open2] at this; simpa using this
  have hf29 := (hf.step sAll).at
  have g0 : f[0]? = some f[0] := List.getElem?_eq_getElem (by omega)
  have hm0 := List.getElem_mem (show 0 < f.length by omega)
  have hx : (f[0]).bs = secL 1 1 0 0 1 [97, 98] := by
    have := get_map_bs g0
    rw [hfm] at this
    simp at this
    exact this.symm
  generalize f[0] = x at *
  obtain ⟨fd, rfl, c0⟩ := hf29.cell g0
  obtain ⟨rx, ex⟩ := hf29.oks x hm0
  have hxl : x.bs.length = 64 := by rw [hx]; rfl
  have e2 : (appendJ (newDS 4) exJ [97, 98]).2 = 0 := ex_append
  have e3 : (openK exD 0 4 1).2.2 = 0 := by rw [ex_open2]
  have e4 : (openK (newDS 4) 0 4 1).2.2 = 0 := by rw [ex_open]
  refine ⟨fun _ => ⟨fun _ => ?_, fun h => absurd (by rw [hfl]; rfl) h⟩, fun h => absurd (by rw [ex_frame]) h⟩
  refine ⟨fd, rfl, by omega, x.a, x.bs.length, x.c, c0, fun _ => ?_, fun h => absurd (by rw [hxl]; rfl) h⟩
  obtain ⟨xd, hxd, k0⟩ := byte_cell rx (i := 0) (by omega)
  obtain ⟨_, e, k15⟩ := byte_cell rx (i := 15) (by omega)
  rw [hxd] at e; cases e
  obtain ⟨_, e, k17⟩ := byte_cell rx (i := 17) (by omega)
  rw [hxd] at e; cases e
  rw [hx] at k0 k15 k17
  refine ⟨by omega, x.a, x.bs.length, x.c, c0, xd, hxd, by omega, _, k0, fun _ => ?_, fun h => absurd rfl h⟩
  refine ⟨by omega, x.a, x.bs.length, x.c, c0, xd, hxd, by omega, _, k15, fun _ => ?_, fun h => absurd rfl h⟩
  refine ⟨by omega, x.a, x.bs.length, x.c, c0, xd, hxd, by omega, _, k17, fun _ => ⟨fun _ => ⟨fun _ => ⟨fun _ => ⟨fun _ => ?_, fun h => absurd (by rw [hrl]; rfl) h⟩, fun h => absurd e3 h⟩, fun h => absurd e2 h⟩, fun h => absurd e4 h⟩, fun h => absurd rfl h⟩
  have hr29 := hr.at
  have h0 : r[0]? = some r[0] := List.getElem?_eq_getElem (by omega)
  have hmr := List.getElem_mem (show 0 < r.length by omega)
  have hy : (r[0]).bs = [97, 98] := by
    have := get_map_bs h0
    rw [hrm, ex_open2] at this
    simp at this
    exact this.symm
  generalize r[0] = y at *
  obtain ⟨rd, rfl, d0⟩ := hr29.cell h0
  obtain ⟨ry, _⟩ := hr29.oks y hmr
  refine ⟨rd, rfl, by omega, y.a, y.bs.length, y.c, d0, _, conv_str Try.underlying23 Try.underlying5 Try.underlying9 ry, ?_, fin⟩
  rw [hy]; simp
end Go.Proofs.Ytgcjipbahfpopaa

/- JournalFrames, JournalScans. -/
set_option linter.unusedVariables false
set_option linter.unusedSimpArgs false
set_option maxRecDepth 20000
set_option maxHeartbeats 2000000
namespace Go.Proofs.Ytgcjipbahfpopaa
open Go Go.Mx Go.Proofs
open W (OwnB GivesW)
section
variable {w w' w1 : World} {o o' o1 : Own} {q g n N : Nat} {K : Nat → Prop} {b s : List UInt8} {a : Option Addr} {c : Nat} {l : List BS}
end
end Go.Proofs.Ytgcjipbahfpopaa

/- Journal: plainly: a record that was written stands; what stands ahead stays. -/
set_option linter.unusedVariables false
set_option linter.unusedSimpArgs false
set_option maxRecDepth 20000
set_option maxHeartbeats 2000000
namespace Go.Proofs.Ytgcjipbahfpopaa
open Go Go.Mx Go.Proofs
theorem frameL_len (gen round seq : Nat) (b : List UInt8) : (frameL gen round seq b).length = partsN b.length := by unfold frameL; simp
theorem partsN_pos {n : Nat} (h : n ≤ 4000) : 1 ≤ partsN n := by
  unfold partsN
  rw [if_neg (by omega)]
  split <;> omega
theorem partsN_cover {n : Nat} (h : n ≤ 4000) : n ≤ 48 * partsN n := by
  unfold partsN
  rw [if_neg (by omega)]
  split <;> omega
theorem parts_join (b : List UInt8) : ∀ k : Nat, (List.range k).flatMap (partL b) = b.take (48 * k)
  | 0 => by simp
  | k + 1 => by
    rw [List.range_succ, List.flatMap_append, parts_join b k]
    simp only [List.flatMap_cons, List.flatMap_nil, List.append_nil]
    unfold partL
    rw [show 48 * (k + 1) = 48 * k + 48 by omega, List.take_add]
theorem body_sec (gen round seq i n : Nat) {x : List UInt8} (h : x.length ≤ 48) : bodyS (secL gen round seq i n x) = x := by
  have e15 : byteN (secL gen round seq i n x) 15 = x.length := by
    show (UInt8.ofNat x.length).toNat = _
    rw [UInt8.toNat_ofNat']; omega
  unfold bodyS
  rw [e15]
  unfold secL
  rw [List.append_assoc, List.drop_append_of_le_length (by rw [headL_len]; exact Nat.le_refl _), List.drop_of_length_le (by rw [headL_len]; exact Nat.le_refl _), List.nil_append, List.take_left]
theorem sec_round (gen round seq i n : Nat) (x : List UInt8) (h : round < 4294967296) : numB (secL gen round seq i n x) 5 = round := by
  show (UInt8.ofNat (round / 16777216)).toNat * 16777216 + (UInt8.ofNat (round / 65536)).toNat * 65536 + (UInt8.ofNat (round / 256)).toNat * 256 + (UInt8.ofNat round).toNat = round
  simp only [UInt8.toNat_ofNat']
  omega
theorem sec_gen (gen round seq i n : Nat) (x : List UInt8) (h : gen < 4294967296) : numB (secL gen round seq i n x) 1 = gen := by
  show (UInt8.ofNat (gen / 16777216)).toNat * 16777216 + (UInt8.ofNat (gen / 65536)).toNat * 65536 + (UInt8.ofNat (gen / 256)).toNat * 256 + (UInt8.ofNat gen).toNat = gen
  simp only [UInt8.toNat_ofNat']
  omega
theorem sec_seq (gen round seq i n : Nat) (x : List UInt8) (h : seq < 4294967296) : numB (secL gen round seq i n x) 9 = seq := by
  show (UInt8.ofNat (seq / 16777216)).toNat * 16777216 + (UInt8.ofNat (seq / 65536)).toNat * 65536 + (UInt8.ofNat (seq / 256)).toNat * 256 + (UInt8.ofNat seq).toNat = seq
  simp only [UInt8.toNat_ofNat']
  omega
/-- a frame at the beginning is a record. -/
theorem frame_stands {gen round seq : Nat} {b : List UInt8} (hg : gen ≠ 0) (hr : round ≠ 0) (hr2 : round < 4294967296) (hb : b.length ≤ 4000) (rest : List (List UInt8)) :
    standK (frameL gen round seq b ++ rest) gen seq = (b, partsN b.length) := by
  have hp := partsN_pos hb
  have h84 := partsN_le b.length
  have hlen := frameL_len gen round seq b
  have hhead : (frameL gen round seq b ++ rest).headD [] = secL gen round seq 0 (partsN b.length) (partL b 0) := by
    unfold frameL
    obtain ⟨k, hk⟩ := Nat.exists_eq_add_of_le' hp
    rw [hk, List.range_succ_eq_map]
    rfl
  have hcnt : cntK (frameL gen round seq b ++ rest) = partsN b.length := by
    unfold cntK
    rw [hhead]
    show (UInt8.ofNat (partsN b.length)).toNat = _
    rw [UInt8.toNat_ofNat']; omega
  have htake : (frameL gen round seq b ++ rest).take (partsN b.length) = frameL gen round seq b := by rw [← hlen, List.take_left]
  have hbody : bodyK (frameL gen round seq b ++ rest) = b := by
    unfold bodyK
    rw [hcnt, htake]
    unfold frameL
    rw [List.flatMap_map]
    have : (fun i => bodyS (secL gen round seq i (partsN b.length) (partL b i))) = partL b := funext fun i => body_sec _ _ _ _ _ (partL_le _ _)
    rw [this, parts_join, List.take_of_length_le (partsN_cover hb)]
  have hK : frameK gen round seq b = (frameL gen round seq b, 0) := by
    unfold frameK
    rw [if_neg (by omega), if_neg (by omega)]
  have hOK : OKS (frameL gen round seq b ++ rest) gen seq := by
    refine ⟨fun e => ?_, ?_, ?_, ?_, ?_⟩
    · have := congrArg List.length e
      rw [List.length_append, hlen] at this
      simp at this; omega
    · rw [hhead]; exact secL_len _ _ _ _ _ (partL_le _ _)
    · rw [hcnt, List.length_append, hlen]; omega
    · rw [hcnt, htake]
      intro s hs
      unfold frameL at hs
      obtain ⟨i, _, rfl⟩ := List.mem_map.1 hs
      refine ⟨secL_len _ _ _ _ _ (partL_le _ _), ?_⟩
      show (UInt8.ofNat (partL b i).length).toNat ≤ 48
      have := partL_le b i
      rw [UInt8.toNat_ofNat']; omega
    · rw [hcnt, htake, hhead, hbody, sec_round _ _ _ _ _ _ hr2]
      exact hK
  rw [standK_yes hOK, hbody, hcnt]
/-- a record needs its own sectors only. -/
theorem stand_more {L : List (List UInt8)} {gen seq : Nat} (h : OKS L gen seq) (X : List (List UInt8)) : standK (L.take (cntK L) ++ X) gen seq = standK L gen seq := by
  have hc := h.cnt
  have hle := h.2.2.1
  have hhead : (L.take (cntK L) ++ X).headD [] = L.headD [] := by
    have h0 := h.1
    generalize cntK L = c at *
    cases L with
    | nil => exact absurd rfl h0
    | cons x r =>
      obtain ⟨k, rfl⟩ := Nat.exists_eq_succ_of_ne_zero hc
      rfl
  have hcnt : cntK (L.take (cntK L) ++ X) = cntK L := by
    show byteN ((L.take (cntK L) ++ X).headD []) 14 = _
    rw [hhead]; rfl
  have htake : (L.take (cntK L) ++ X).take (cntK L) = L.take (cntK L) := by
    have e : (L.take (cntK L)).length = cntK L := by rw [List.length_take]; omega
    conv => lhs; rw [← e]
    rw [e, List.take_append_of_le_length (by omega), List.take_of_length_le (by omega)]
  have hbody : bodyK (L.take (cntK L) ++ X) = bodyK L := by
    unfold bodyK
    rw [hcnt, htake]
  have hOK : OKS (L.take (cntK L) ++ X) gen seq := by
    obtain ⟨h1, h2, h3, h4, h5⟩ := h
    refine ⟨fun e => ?_, by rw [hhead]; exact h2, ?_, ?_, ?_⟩
    · have h9 := congrArg List.length e
      rw [List.length_append, List.length_take, Nat.min_eq_left hle] at h9
      have h8 : cntK L + X.length = 0 := h9
      omega
    · rw [hcnt, List.length_append, List.length_take, Nat.min_eq_left hle]; omega
    · rw [hcnt, htake]; exact h4
    · rw [hcnt, htake, hhead, hbody]; exact h5
  rw [standK_yes hOK, standK_yes h, hcnt, hbody]
/-- a scan of what stands ahead, and something else behind. -/
theorem scan_more (gen : Nat) : ∀ (k : Nat) (L : List (List UInt8)) (s : Nat) (k2 : Nat) (X : List (List UInt8)),
    scanG gen ((scanG gen k L s).1.length + k2) (L.take (scanG gen k L s).2 ++ X) s = ((scanG gen k L s).1 ++ (scanG gen k2 X (s + (scanG gen k L s).1.length)).1, (scanG gen k L s).2 + (scanG gen k2 X (s + (scanG gen k L s).1.length)).2)
  | 0, L, s, k2, X => by simp [scanG]
  | k + 1, L, s, k2, X => by
    by_cases h : (standK L gen s).2 = 0
    · have e : scanG gen (k + 1) L s = ([], 0) := by simp only [scanG, h, if_true]
      rw [e]; simp
    · have hO : OKS L gen s := by
        by_cases hO : OKS L gen s
        · exact hO
        · rw [standK_no hO] at h; exact absurd rfl h
      have hn : (standK L gen s).2 = cntK L := by rw [standK_yes hO]
      have hle := standK_le L gen s
      obtain ⟨R, hR⟩ : ∃ R, scanG gen k (L.drop (standK L gen s).2) (s + 1) = R := ⟨_, rfl⟩
      have ih := scan_more gen k (L.drop (standK L gen s).2) (s + 1) k2 X
      rw [hR] at ih
      have e : scanG gen (k + 1) L s = ((standK L gen s).1 :: R.1, (standK L gen s).2 + R.2) := by simp only [scanG, if_neg h, hR]
      rw [e]
      have hcut : L.take ((standK L gen s).2 + R.2) ++ X = L.take (cntK L) ++ ((L.drop (cntK L)).take R.2 ++ X) := by
        rw [hn, List.take_add, List.append_assoc]
      have hS : standK (L.take ((standK L gen s).2 + R.2) ++ X) gen s = standK L gen s := by rw [hcut, stand_more hO]
      have hd : (L.take ((standK L gen s).2 + R.2) ++ X).drop (standK L gen s).2 = (L.drop (standK L gen s).2).take R.2 ++ X := by
        rw [hcut, hn]
        have e9 : (L.take (cntK L)).length = cntK L := by rw [List.length_take]; omega
        conv => lhs; rw [← e9]
        rw [e9, List.drop_append_of_le_length (by omega), List.drop_of_length_le (by omega), List.nil_append]
      show scanG gen (R.1.length + 1 + k2) _ s = _
      rw [show R.1.length + 1 + k2 = (R.1.length + k2) + 1 by omega]
      simp only [scanG, hS, hd, if_neg h, ih, List.length_cons, List.cons_append, Prod.mk.injEq, List.cons.injEq, true_and]
      rw [show s + (R.1.length + 1) = s + 1 + R.1.length by omega]
      exact ⟨rfl, by omega⟩
/-- more fuel than sectors changes nothing. -/
theorem scan_fuel (gen : Nat) : ∀ (k : Nat) (L : List (List UInt8)) (s : Nat) (k2 : Nat), L.length < k → L.length < k2 → scanG gen k L s = scanG gen k2 L s
  | 0, L, s, k2, h, _ => by omega
  | k + 1, L, s, 0, _, h => by omega
  | k + 1, L, s, k2 + 1, h, h2 => by
    by_cases hz : (standK L gen s).2 = 0
    · simp only [scanG, hz, if_true]
    · have hle := standK_le L gen s
      have := scan_fuel gen k (L.drop (standK L gen s).2) (s + 1) k2 (by rw [List.length_drop]; omega) (by rw [List.length_drop]; omega)
      simp only [scanG, if_neg hz, this]
end Go.Proofs.Ytgcjipbahfpopaa

/- Journal: plainly: what a disk that is not armed has behind writes. -/
set_option linter.unusedVariables false
set_option linter.unusedSimpArgs false
set_option maxRecDepth 20000
set_option maxHeartbeats 2000000
namespace Go.Proofs.Ytgcjipbahfpopaa
open Go Go.Mx Go.Proofs
theorem hasD_up {d : DS} (h : d.down = false) {i : Int} (h0 : 0 ≤ i) (h1 : i < d.good.length) : hasD d i = 0 := by
  unfold hasD
  rw [h]
  rw [if_neg (by decide), if_neg (by omega)]
theorem settle_all {j : Nat} : ∀ (l : List Wt) (t : Nat) (gl : List Sec), j < gl.length → (∀ x ∈ l, 0 ≤ x.i) → (settleL (fun _ => true) t gl l)[j]?.getD Sec.z = lastP j (gl[j]?.getD Sec.z) l
  | [], _, _, _, _ => rfl
  | x :: r, t, gl, hj, hx => by
    have hx0 := hx x (by simp)
    rw [settleL, if_pos rfl, settle_all r _ _ (by rw [List.length_set]; exact hj) fun y hy => hx y (by simp [hy])]
    show _ = lastP (j : Int) (if x.i = (j : Int) then x.s else gl[j]?.getD Sec.z) r
    congr 1
    by_cases e : x.i = (j : Int)
    · rw [if_pos e, show x.i.toNat = j by omega, List.getElem?_set_self hj]; rfl
    · rw [if_neg e, List.getElem?_set_ne (by omega)]
theorem reads_get (d : DS) (base size i : Nat) : (readsD d base size)[i]? = if i < size then some (readD d ((base : Int) + (i : Int))).1 else none := by
  unfold readsD
  rw [List.getElem?_map]
  by_cases h : i < size
  · rw [List.getElem?_range h, if_pos h]; rfl
  · rw [if_neg h, List.getElem?_eq_none (by rw [List.length_range]; omega)]; rfl
/-- what an append that has room does to the sectors of its stretch. -/
theorem reads_cut {d d2 : DS} {base size T : Nat} {f : List (List UInt8)} (hT : T + f.length ≤ size)
    (hr : ∀ j : Int, (readD d2 j).1 = if (base : Int) + T ≤ j ∧ j < (base : Int) + T + f.length then f[(j - ((base : Int) + T)).toNat]?.getD [] else (readD d j).1) :
    readsD d2 base size = (readsD d base size).take T ++ (f ++ (readsD d base size).drop (T + f.length)) := by
  have hl := readsD_len d base size
  apply List.ext_getElem?
  intro i
  rw [reads_get, List.getElem?_append, List.length_take, hl, Nat.min_eq_left (by omega), List.getElem?_append]
  by_cases h0 : i < T
  · rw [if_pos h0, if_pos (by omega), List.getElem?_take_of_lt h0, reads_get, if_pos (by omega), hr, if_neg (by omega)]
  · rw [if_neg h0]
    by_cases h1 : i - T < f.length
    · rw [if_pos h1, if_pos (by omega), hr, if_pos (by omega), show ((base : Int) + (i : Int) - ((base : Int) + T)).toNat = i - T by omega, List.getElem?_eq_getElem h1]; rfl
    · rw [if_neg h1, List.getElem?_drop, reads_get, show T + f.length + (i - T - f.length) = i by omega]
      by_cases h2 : i < size
      · rw [if_pos h2, if_pos h2, hr, if_neg (by omega)]
      · rw [if_neg h2, if_neg h2]
end Go.Proofs.Ytgcjipbahfpopaa

/- Journal: Create, the small ones, and the sectors of a stretch. -/
set_option linter.unusedVariables false
set_option linter.unusedSimpArgs false
set_option maxRecDepth 20000
set_option maxHeartbeats 2000000
namespace Go.Proofs.Ytgcjipbahfpopaa
open Go Go.Mx Go.Proofs
open W (OwnB GivesW)
section
variable {w w' w1 : World} {o o' o1 : Own} {q g n N m : Nat} {K : Nat → Prop} {b s : List UInt8} {a : Option Addr} {c : Nat} {l : List BS} {d : DS} {J : JS}
theorem jRoom_spec (h : JG w o q g J) (h0 : 0 ≤ J.tail) (h1 : J.tail ≤ 1000000) (h2 : 0 ≤ J.size) (h3 : J.size ≤ 1000000) : Calls Try.prog 22 #[.pointer (some (blk q))] w (Ret (.int .i64 (J.size - J.tail)) fun w' => Ext no w w') := by
  refine journal_Journal_Room.run _ ?_
  unfold journal_Journal_Room.N
  exact ⟨fun h => (by cases h), fun _ => ⟨_, rfl, _, h.mem.cella (i := 2) rfl, _, h.mem.cella (i := 5) rfl, by omega, by omega, fun w3 X3 => ⟨rfl, X3⟩⟩⟩
end
end Go.Proofs.Ytgcjipbahfpopaa

/- Journal: the predicates of what asks journals on disks. -/
set_option maxRecDepth 100000
set_option maxHeartbeats 4000000
namespace Go.Proofs.Ytgcjipbahfpopaa
open Go Go.Mx Go.Proofs
/-- cachettelaw10.lightActs -/
def cachettelaw10_lightActs.M (a9 : Option Addr) (a4 : Nat) (ac : Nat) (R : Value → World → Prop) (w : World) : Prop :=
 bif decide ((a4 : Int) > 30) then (
 R (.bool false) w) else (
 ∃ (I0 : Nat → List Value → World → Prop) (m3 : Nat), I0 m3 [.int .i64 0] w ∧ ∀ (m4 : Nat) (a3 : World) (i2 : Int), I0 m4 [.int .i64 i2] a3 →
 bif decide (i2 < (a4 : Int)) then (
 a9.elim False fun a6 =>
 0 ≤ (i2 : Int) ∧ (i2 : Int) < (a4 : Int) ∧
 ∃ (ab : Option Addr) (a5 : Nat) (aa : Nat), a3.cell? ((a6.add (Int.toNat i2 * 3)).add 0) = some (.slice ab a5 aa) ∧
 bif decide ((a5 : Int) > 500) then (
 R (.bool false) a3) else (
 a9.elim False fun a8 =>
 0 ≤ (i2 : Int) ∧ (i2 : Int) < (a4 : Int) ∧
 ∃ (a1 : Option Addr) (a0 : Nat) (a2 : Nat), a3.cell? ((a8.add (Int.toNat i2 * 3)).add 2) = some (.slice a1 a0 a2) ∧
 bif decide ((a0 : Int) > 60) then (
 R (.bool false) a3) else (
 ∃ a7, a7 < m4 ∧ I0 a7 [.int .i64 (IntKind.i64.wrap (i2 + 1))] a3))) else (
 R (.bool true) a3))

theorem cachettelaw10_lightActs.eq (l1a : Option Addr) (l1n : Nat) (l1c : Nat) (R : Value → World → Prop) (w : World) : mfunc Try.prog [(0, [0], [(3, (.one (.int .i64)))])] 18 [.slice l1a l1n l1c] R w = cachettelaw10_lightActs.M l1a l1n l1c R w := by kernel_rfl
theorem cachettelaw10_lightActs.ok (a0 : Option Addr) (a1 : Nat) (a2 : Nat) {R : Value → World → Prop} {w : World} (h : cachettelaw10_lightActs.M a0 a1 a2 R w) : Calls Try.prog 18 #[.slice a0 a1 a2] w fun e w' => ∃ v, e = .returned v ∧ R v w' :=
  mfunc_ok follows (H := [(0, [0], [(3, (.one (.int .i64)))])]) (args := [.slice a0 a1 a2]) (by rw [cachettelaw10_lightActs.eq]; exact h)

def cachettelaw10_lightActs.N (aa : Option Addr) (a5 : Nat) (ab : Nat) (R : Value → World → Prop) (w : World) : Prop :=
 ((a5 : Int) > 30 →
 R (.bool false) w) ∧
 ((a5 : Int) ≤ 30 →
 ∃ (I0 : Nat → List Value → World → Prop) (m4 : Nat), I0 m4 [.int .i64 0] w ∧ ∀ (m5 : Nat) (a3 : World) (i3 : Int), I0 m5 [.int .i64 i3] a3 →
 (i3 < (a5 : Int) →
 ∃ a8 : Addr, aa = some a8 ∧
 0 ≤ (i3 : Int) ∧ (i3 : Int) < (a5 : Int) ∧
 ∃ (a6 : Option Addr) (a4 : Nat) (a7 : Nat), a3.cell? ((a8.add (Int.toNat i3 * 3)).add 0) = some (.slice a6 a4 a7) ∧
 ((a4 : Int) > 500 →
 R (.bool false) a3) ∧
 ((a4 : Int) ≤ 500 →
 0 ≤ (i3 : Int) ∧ (i3 : Int) < (a5 : Int) ∧
 ∃ (a1 : Option Addr) (a0 : Nat) (a2 : Nat), a3.cell? ((a8.add (Int.toNat i3 * 3)).add 2) = some (.slice a1 a0 a2) ∧
 ((a0 : Int) > 60 →
 R (.bool false) a3) ∧
 ((a0 : Int) ≤ 60 →
 (-9223372036854775808 : Int) ≤ (i3 + 1) ∧ (i3 + 1) < 9223372036854775808 ∧
 ∃ a9, a9 < m5 ∧ I0 a9 [.int .i64 (i3 + 1)] a3))) ∧
 ((a5 : Int) ≤ i3 →
 R (.bool true) a3))

theorem cachettelaw10_lightActs.up (ae : Option Addr) (ac : Nat) (ad : Nat) {R : Value → World → Prop} {w : World} (h : cachettelaw10_lightActs.N ae ac ad R w) : cachettelaw10_lightActs.M ae ac ad R w := by
  unfold cachettelaw10_lightActs.M
  unfold cachettelaw10_lightActs.N at h
  refine bif_of (fun c2 => ?_) (fun c2 => ?_)
  · have h := h.1 (of_decide_eq_true c2)
    exact h
  · have h := h.2 (Int.not_lt.1 (of_decide_eq_false c2))
    obtain ⟨I0, m4, h0, h⟩ := h
    refine ⟨I0, m4, h0, fun m5 ah i3 hI => ?_⟩
    have h := h m5 ah i3 hI
    refine bif_of (fun c7 => ?_) (fun c7 => ?_)
    · have h := h.1 (of_decide_eq_true c7)
      obtain ⟨a8, af, h⟩ := h
      refine elim_some af ?_
      obtain ⟨aa, a3, h⟩ := h
      refine ⟨aa, a3, ?_⟩
      obtain ⟨a7, ab, a9, aj, h⟩ := h
      refine ⟨a7, ab, a9, aj, ?_⟩
      refine bif_of (fun a5 => ?_) (fun a5 => ?_)
      · have h := h.1 (of_decide_eq_true a5)
        exact h
      · have h := h.2 (Int.not_lt.1 (of_decide_eq_false a5))
        refine elim_some af ?_
        obtain ⟨aa, a3, h⟩ := h
        refine ⟨aa, a3, ?_⟩
        obtain ⟨a2, a0, a1, a6, h⟩ := h
        refine ⟨a2, a0, a1, a6, ?_⟩
        refine bif_of (fun a4 => ?_) (fun a4 => ?_)
        · have h := h.1 (of_decide_eq_true a4)
          exact h
        · have h := h.2 (Int.not_lt.1 (of_decide_eq_false a4))
          obtain ⟨ai, ag, h⟩ := h
          try rw [w64 ai ag]
          obtain ⟨ak, hk, h⟩ := h
          exact ⟨ak, hk, h⟩
    · have h := h.2 (Int.not_lt.1 (of_decide_eq_false c7))
      exact h

theorem cachettelaw10_lightActs.go (a0 : Option Addr) (a1 : Nat) (a2 : Nat) {R : Value → World → Prop} {w : World} (h : cachettelaw10_lightActs.N a0 a1 a2 R w) : Calls Try.prog 18 #[.slice a0 a1 a2] w fun e w' => ∃ v, e = .returned v ∧ R v w' := cachettelaw10_lightActs.ok a0 a1 a2 (cachettelaw10_lightActs.up a0 a1 a2 h)
theorem cachettelaw10_lightActs.run (a0 : Option Addr) (a1 : Nat) (a2 : Nat) {V : Value} {Q : World → Prop} {w : World} (h : cachettelaw10_lightActs.N a0 a1 a2 (fun v w' => v = V ∧ Q w') w) : Calls Try.prog 18 #[.slice a0 a1 a2] w (Ret V Q) := (cachettelaw10_lightActs.go a0 a1 a2 h).mono fun e w' ⟨v, he, hv, hq⟩ => ⟨by rw [he, hv], hq⟩

/-- cachettelaw10.JournalCrash -/
def cachettelaw10_JournalCrash.M (aa : Int) (ay : Option Addr) (ax : Nat) (k2 : Nat) (R : Value → World → Prop) (w : World) : Prop :=
 bif decide (aa < 1) then (
 Calls Try.prog 8 #[] w fun k6 jw => ∃ (db : Bool), k6 = .returned (.bool db) ∧
 R (.bool db) jw) else (
 bif decide (aa > 60) then (
 Calls Try.prog 8 #[] w fun jv jz => ∃ (dk : Bool), jv = .returned (.bool dk) ∧
 R (.bool dk) jz) else (
 Calls Try.prog 18 #[.slice ay ax k2] w fun je gt => ∃ (b1 : Bool), je = .returned (.bool b1) ∧
 bif !b1 then (
 Calls Try.prog 8 #[] gt fun ip j8 => ∃ (d0 : Bool), ip = .returned (.bool d0) ∧
 R (.bool d0) j8) else (
 Calls Try.prog 19 #[.int .i64 60] gt fun it jp => ∃ (a4 : Option Addr) (gu : Int), it = .returned (.tuple #[.pointer a4, .int .i64 gu]) ∧
 Calls Try.prog 20 #[.pointer a4, .int .i64 0, .int .i64 aa, .int .u32 7] jp fun j5 f8 => ∃ (cs : Option Addr) (dp : Option Addr) (bo : Nat) (dx : Nat) (cq : Int), j5 = .returned (.tuple #[.pointer cs, .slice dp bo dx, .int .i64 cq]) ∧
 bif cq != 0 then (
 R (.bool false) f8) else (
 bif (bo : Int) != 0 then (
 R (.bool false) f8) else (
 ∃ (I0 : Nat → List Value → World → Prop) (jy : Nat), I0 jy [.pointer cs, .slice none 0 0, .int .i64 0] f8 ∧ ∀ (b8 : Nat) (d2 : World) (d3 : Option Addr) (a2 : Option Addr) (a0 : Nat) (a1 : Nat) (a3 : Int), I0 b8 [.pointer d3, .slice a2 a0 a1, .int .i64 a3] d2 →
 bif decide (a3 < (ax : Int)) then (
 ay.elim False fun k3 =>
 0 ≤ (a3 : Int) ∧ (a3 : Int) < (ax : Int) ∧
 ∃ (cz : Int), d2.cell? ((k3.add (Int.toNat a3 * 3)).add 1) = some (.int .i64 cz) ∧
 bif decide (cz ≥ 0) then (
 ay.elim False fun ju =>
 0 ≤ (a3 : Int) ∧ (a3 : Int) < (ax : Int) ∧
 ∃ (cl : Int), d2.cell? ((ju.add (Int.toNat a3 * 3)).add 1) = some (.int .i64 cl) ∧
 Calls Try.prog 21 #[.pointer a4, .int .i64 cl] d2 fun jm j2 => ∃ (gy : Int), jm = .returned (.int .i64 gy) ∧
 Calls Try.prog 22 #[.pointer d3] j2 fun jn fr => ∃ (d9 : Int), jn = .returned (.int .i64 d9) ∧
 ay.elim False fun k5 =>
 0 ≤ (a3 : Int) ∧ (a3 : Int) < (ax : Int) ∧
 ∃ (ia : Option Addr) (g2 : Nat) (fk : Nat), fr.cell? ((k5.add (Int.toNat a3 * 3)).add 0) = some (.slice ia g2 fk) ∧
 Calls Try.prog 23 #[.pointer d3, .slice ia g2 fk] fr fun j9 cb => ∃ (ac : Int), j9 = .returned (.int .i64 ac) ∧
 bif ac == 0 then (
 ay.elim False fun jx =>
 0 ≤ (a3 : Int) ∧ (a3 : Int) < (ax : Int) ∧
 ∃ (gr : Option Addr) (gp : Nat) (fs : Nat), cb.cell? ((jx.add (Int.toNat a3 * 3)).add 0) = some (.slice gr gp fs) ∧
 thenW (cb.alloc (.cells #[.slice gr gp fs] 23)) fun j7 =>
 ∃ (d8 : Option Addr) (d5 : Nat) (d6 : Nat) (gw : World), (Builtin.append_ #[25, 25] 25 #[.slice a2 a0 a1, .slice (some (blk cb.heap.size)) 1 1]).run Try.prog j7 = .ok (.slice d8 d5 d6) gw ∧
 Calls Try.prog 24 #[.pointer a4] gw fun iq f4 => ∃ (dq : Bool), iq = .returned (.bool dq) ∧
 bif !dq then (
 ∃ js, js < b8 ∧ I0 js [.pointer d3, .slice d8 d5 d6, .int .i64 (IntKind.i64.wrap (a3 + 1))] f4) else (
 ay.elim False fun k4 =>
 0 ≤ (a3 : Int) ∧ (a3 : Int) < (ax : Int) ∧
 ∃ (cn : Option Addr) (ct : Nat) (co : Nat), f4.cell? ((k4.add (Int.toNat a3 * 3)).add 2) = some (.slice cn ct co) ∧
 Calls Try.prog 25 #[.pointer a4, .slice cn ct co] f4 fun jk ir => ∃ (d4 : Int), jk = .returned (.int .i64 d4) ∧
 Calls Try.prog 20 #[.pointer a4, .int .i64 0, .int .i64 aa, .int .u32 7] ir fun iv dh => ∃ (b7 : Option Addr) (av : Option Addr) (ab : Nat) (an : Nat) (ck : Int), iv = .returned (.tuple #[.pointer b7, .slice av ab an, .int .i64 ck]) ∧
 bif ck != 0 then (
 R (.bool false) dh) else (
 bif (ab : Int) == (IntKind.i64.wrap ((d5 : Int) + 1)) then (
 ay.elim False fun k1 =>
 0 ≤ (a3 : Int) ∧ (a3 : Int) < (ax : Int) ∧
 ∃ (gj : Option Addr) (fd : Nat) (fl : Nat), dh.cell? ((k1.add (Int.toNat a3 * 3)).add 0) = some (.slice gj fd fl) ∧
 thenW (dh.alloc (.cells #[.slice gj fd fl] 23)) fun jf =>
 ∃ (f5 : Option Addr) (f9 : Nat) (fc : Nat) (fo : World), (Builtin.append_ #[25, 25] 25 #[.slice d8 d5 d6, .slice (some (blk dh.heap.size)) 1 1]).run Try.prog jf = .ok (.slice f5 f9 fc) fo ∧
 Calls Try.prog 11 #[.slice av ab an, .slice f5 f9 fc] fo fun jl fj => ∃ (cj : Bool), jl = .returned (.bool cj) ∧
 bif !cj then (
 R (.bool false) fj) else (
 ∃ jt, jt < b8 ∧ I0 jt [.pointer b7, .slice f5 f9 fc, .int .i64 (IntKind.i64.wrap (a3 + 1))] fj)) else (
 Calls Try.prog 11 #[.slice av ab an, .slice d8 d5 d6] dh fun jo gz => ∃ (cg : Bool), jo = .returned (.bool cg) ∧
 bif !cg then (
 R (.bool false) gz) else (
 ∃ jq, jq < b8 ∧ I0 jq [.pointer b7, .slice d8 d5 d6, .int .i64 (IntKind.i64.wrap (a3 + 1))] gz))))) else (
 bif ac == 18 then (
 ay.elim False fun k8 =>
 0 ≤ (a3 : Int) ∧ (a3 : Int) < (ax : Int) ∧
 ∃ (io : Option Addr) (gc : Nat) (jb : Nat), cb.cell? ((k8.add (Int.toNat a3 * 3)).add 0) = some (.slice io gc jb) ∧
 Calls Try.prog 12 #[.int .i64 (gc : Int)] cb fun jj fp => ∃ (cx : Int), jj = .returned (.int .i64 cx) ∧
 bif decide (cx ≤ d9) then (
 R (.bool false) fp) else (
 Calls Try.prog 24 #[.pointer a4] fp fun j1 fa => ∃ (de : Bool), j1 = .returned (.bool de) ∧
 bif !de then (
 ∃ jr, jr < b8 ∧ I0 jr [.pointer d3, .slice a2 a0 a1, .int .i64 (IntKind.i64.wrap (a3 + 1))] fa) else (
 ay.elim False fun k0 =>
 0 ≤ (a3 : Int) ∧ (a3 : Int) < (ax : Int) ∧
 ∃ (ci : Option Addr) (cm : Nat) (cw : Nat), fa.cell? ((k0.add (Int.toNat a3 * 3)).add 2) = some (.slice ci cm cw) ∧
 Calls Try.prog 25 #[.pointer a4, .slice ci cm cw] fa fun j0 ji => ∃ (d1 : Int), j0 = .returned (.int .i64 d1) ∧
 Calls Try.prog 20 #[.pointer a4, .int .i64 0, .int .i64 aa, .int .u32 7] ji fun jc dl => ∃ (b6 : Option Addr) (au : Option Addr) (ad : Nat) (aq : Nat) (ch : Int), jc = .returned (.tuple #[.pointer b6, .slice au ad aq, .int .i64 ch]) ∧
 bif ch != 0 then (
 R (.bool false) dl) else (
 bif (ad : Int) == (IntKind.i64.wrap ((a0 : Int) + 1)) then (
 ay.elim False fun k7 =>
 0 ≤ (a3 : Int) ∧ (a3 : Int) < (ax : Int) ∧
 ∃ (fx : Option Addr) (ib : Nat) (fh : Nat), dl.cell? ((k7.add (Int.toNat a3 * 3)).add 0) = some (.slice fx ib fh) ∧
 thenW (dl.alloc (.cells #[.slice fx ib fh] 23)) fun j3 =>
 ∃ (fb : Option Addr) (f7 : Nat) (f6 : Nat) (f3 : World), (Builtin.append_ #[25, 25] 25 #[.slice a2 a0 a1, .slice (some (blk dl.heap.size)) 1 1]).run Try.prog j3 = .ok (.slice fb f7 f6) f3 ∧
 Calls Try.prog 11 #[.slice au ad aq, .slice fb f7 f6] f3 fun fm ed => ∃ (c1 : Bool), fm = .returned (.bool c1) ∧
 bif !c1 then (
 R (.bool false) ed) else (
 ∃ g1, g1 < b8 ∧ I0 g1 [.pointer b6, .slice fb f7 f6, .int .i64 (IntKind.i64.wrap (a3 + 1))] ed)) else (
 Calls Try.prog 11 #[.slice au ad aq, .slice a2 a0 a1] dl fun gv el => ∃ (bt : Bool), gv = .returned (.bool bt) ∧
 bif !bt then (
 R (.bool false) el) else (
 ∃ ga, ga < b8 ∧ I0 ga [.pointer b6, .slice a2 a0 a1, .int .i64 (IntKind.i64.wrap (a3 + 1))] el)))))) else (
 bif ac == 19 then (
 Calls Try.prog 23 #[.pointer d3, .slice none 0 0] cb fun g7 e6 => ∃ (b4 : Int), g7 = .returned (.int .i64 b4) ∧
 bif b4 != 19 then (
 R (.bool false) e6) else (
 Calls Try.prog 24 #[.pointer a4] e6 fun i0 dm => ∃ (cy : Bool), i0 = .returned (.bool cy) ∧
 bif !cy then (
 ∃ ik, ik < b8 ∧ I0 ik [.pointer d3, .slice a2 a0 a1, .int .i64 (IntKind.i64.wrap (a3 + 1))] dm) else (
 ay.elim False fun iw =>
 0 ≤ (a3 : Int) ∧ (a3 : Int) < (ax : Int) ∧
 ∃ (bp : Option Addr) (bd : Nat) (c6 : Nat), dm.cell? ((iw.add (Int.toNat a3 * 3)).add 2) = some (.slice bp bd c6) ∧
 Calls Try.prog 25 #[.pointer a4, .slice bp bd c6] dm fun i5 g5 => ∃ (cf : Int), i5 = .returned (.int .i64 cf) ∧
 Calls Try.prog 20 #[.pointer a4, .int .i64 0, .int .i64 aa, .int .u32 7] g5 fun i1 bm => ∃ (ar : Option Addr) (ah : Option Addr) (a7 : Nat) (ae : Nat) (bz : Int), i1 = .returned (.tuple #[.pointer ar, .slice ah a7 ae, .int .i64 bz]) ∧
 bif bz != 0 then (
 R (.bool false) bm) else (
 bif (a7 : Int) == (IntKind.i64.wrap ((a0 : Int) + 1)) then (
 ay.elim False fun ja =>
 0 ≤ (a3 : Int) ∧ (a3 : Int) < (ax : Int) ∧
 ∃ (ev : Option Addr) (e3 : Nat) (et : Nat), bm.cell? ((ja.add (Int.toNat a3 * 3)).add 0) = some (.slice ev e3 et) ∧
 thenW (bm.alloc (.cells #[.slice ev e3 et] 23)) fun ie =>
 ∃ (d7 : Option Addr) (dj : Nat) (dr : Nat) (er : World), (Builtin.append_ #[25, 25] 25 #[.slice a2 a0 a1, .slice (some (blk bm.heap.size)) 1 1]).run Try.prog ie = .ok (.slice d7 dj dr) er ∧
 Calls Try.prog 11 #[.slice ah a7 ae, .slice d7 dj dr] er fun fi eb => ∃ (bh : Bool), fi = .returned (.bool bh) ∧
 bif !bh then (
 R (.bool false) eb) else (
 ∃ ig, ig < b8 ∧ I0 ig [.pointer ar, .slice d7 dj dr, .int .i64 (IntKind.i64.wrap (a3 + 1))] eb)) else (
 Calls Try.prog 11 #[.slice ah a7 ae, .slice a2 a0 a1] bm fun gs e2 => ∃ (bc : Bool), gs = .returned (.bool bc) ∧
 bif !bc then (
 R (.bool false) e2) else (
 ∃ i4, i4 < b8 ∧ I0 i4 [.pointer ar, .slice a2 a0 a1, .int .i64 (IntKind.i64.wrap (a3 + 1))] e2)))))) else (
 R (.bool false) cb)))) else (
 Calls Try.prog 22 #[.pointer d3] d2 fun ge e8 => ∃ (cr : Int), ge = .returned (.int .i64 cr) ∧
 ay.elim False fun iz =>
 0 ≤ (a3 : Int) ∧ (a3 : Int) < (ax : Int) ∧
 ∃ (ec : Option Addr) (e9 : Nat) (ek : Nat), e8.cell? ((iz.add (Int.toNat a3 * 3)).add 0) = some (.slice ec e9 ek) ∧
 Calls Try.prog 23 #[.pointer d3, .slice ec e9 ek] e8 fun g4 aw => ∃ (a6 : Int), g4 = .returned (.int .i64 a6) ∧
 bif a6 == 0 then (
 ay.elim False fun jd =>
 0 ≤ (a3 : Int) ∧ (a3 : Int) < (ax : Int) ∧
 ∃ (ee : Option Addr) (eg : Nat) (em : Nat), aw.cell? ((jd.add (Int.toNat a3 * 3)).add 0) = some (.slice ee eg em) ∧
 thenW (aw.alloc (.cells #[.slice ee eg em] 23)) fun ij =>
 ∃ (be : Option Addr) (b5 : Nat) (bw : Nat) (e0 : World), (Builtin.append_ #[25, 25] 25 #[.slice a2 a0 a1, .slice (some (blk aw.heap.size)) 1 1]).run Try.prog ij = .ok (.slice be b5 bw) e0 ∧
 Calls Try.prog 24 #[.pointer a4] e0 fun gb di => ∃ (cv : Bool), gb = .returned (.bool cv) ∧
 bif !cv then (
 ∃ gx, gx < b8 ∧ I0 gx [.pointer d3, .slice be b5 bw, .int .i64 (IntKind.i64.wrap (a3 + 1))] di) else (
 ay.elim False fun jg =>
 0 ≤ (a3 : Int) ∧ (a3 : Int) < (ax : Int) ∧
 ∃ (bx : Option Addr) (bj : Nat) (bf : Nat), di.cell? ((jg.add (Int.toNat a3 * 3)).add 2) = some (.slice bx bj bf) ∧
 Calls Try.prog 25 #[.pointer a4, .slice bx bj bf] di fun g6 gg => ∃ (ce : Int), g6 = .returned (.int .i64 ce) ∧
 Calls Try.prog 20 #[.pointer a4, .int .i64 0, .int .i64 aa, .int .u32 7] gg fun gk bb => ∃ (ap : Option Addr) (al : Option Addr) (a8 : Nat) (af : Nat) (bv : Int), gk = .returned (.tuple #[.pointer ap, .slice al a8 af, .int .i64 bv]) ∧
 bif bv != 0 then (
 R (.bool false) bb) else (
 bif (a8 : Int) == (IntKind.i64.wrap ((b5 : Int) + 1)) then (
 ay.elim False fun j6 =>
 0 ≤ (a3 : Int) ∧ (a3 : Int) < (ax : Int) ∧
 ∃ (dz : Option Addr) (en : Nat) (e4 : Nat), bb.cell? ((j6.add (Int.toNat a3 * 3)).add 0) = some (.slice dz en e4) ∧
 thenW (bb.alloc (.cells #[.slice dz en e4] 23)) fun i2 =>
 ∃ (du : Option Addr) (dc : Nat) (dn : Nat) (ea : World), (Builtin.append_ #[25, 25] 25 #[.slice be b5 bw, .slice (some (blk bb.heap.size)) 1 1]).run Try.prog i2 = .ok (.slice du dc dn) ea ∧
 Calls Try.prog 11 #[.slice al a8 af, .slice du dc dn] ea fun fg f2 => ∃ (bs : Bool), fg = .returned (.bool bs) ∧
 bif !bs then (
 R (.bool false) f2) else (
 ∃ fz, fz < b8 ∧ I0 fz [.pointer ap, .slice du dc dn, .int .i64 (IntKind.i64.wrap (a3 + 1))] f2)) else (
 Calls Try.prog 11 #[.slice al a8 af, .slice be b5 bw] bb fun gf eo => ∃ (c3 : Bool), gf = .returned (.bool c3) ∧
 bif !c3 then (
 R (.bool false) eo) else (
 ∃ g8, g8 < b8 ∧ I0 g8 [.pointer ap, .slice be b5 bw, .int .i64 (IntKind.i64.wrap (a3 + 1))] eo))))) else (
 bif a6 == 18 then (
 ay.elim False fun jh =>
 0 ≤ (a3 : Int) ∧ (a3 : Int) < (ax : Int) ∧
 ∃ (i9 : Option Addr) (ei : Nat) (ii : Nat), aw.cell? ((jh.add (Int.toNat a3 * 3)).add 0) = some (.slice i9 ei ii) ∧
 Calls Try.prog 12 #[.int .i64 (ei : Int)] aw fun gh ep => ∃ (br : Int), gh = .returned (.int .i64 br) ∧
 bif decide (br ≤ cr) then (
 R (.bool false) ep) else (
 Calls Try.prog 24 #[.pointer a4] ep fun ft dt => ∃ (cu : Bool), ft = .returned (.bool cu) ∧
 bif !cu then (
 ∃ g3, g3 < b8 ∧ I0 g3 [.pointer d3, .slice a2 a0 a1, .int .i64 (IntKind.i64.wrap (a3 + 1))] dt) else (
 ay.elim False fun iu =>
 0 ≤ (a3 : Int) ∧ (a3 : Int) < (ax : Int) ∧
 ∃ (c4 : Option Addr) (c8 : Nat) (c7 : Nat), dt.cell? ((iu.add (Int.toNat a3 * 3)).add 2) = some (.slice c4 c8 c7) ∧
 Calls Try.prog 25 #[.pointer a4, .slice c4 c8 c7] dt fun gn i7 => ∃ (cc : Int), gn = .returned (.int .i64 cc) ∧
 Calls Try.prog 20 #[.pointer a4, .int .i64 0, .int .i64 aa, .int .u32 7] i7 fun i8 c0 => ∃ (ao : Option Addr) (ai : Option Addr) (a9 : Nat) (ag : Nat) (c5 : Int), i8 = .returned (.tuple #[.pointer ao, .slice ai a9 ag, .int .i64 c5]) ∧
 bif c5 != 0 then (
 R (.bool false) c0) else (
 bif (a9 : Int) == (IntKind.i64.wrap ((a0 : Int) + 1)) then (
 ay.elim False fun ix =>
 0 ≤ (a3 : Int) ∧ (a3 : Int) < (ax : Int) ∧
 ∃ (es : Option Addr) (ew : Nat) (e7 : Nat), c0.cell? ((ix.add (Int.toNat a3 * 3)).add 0) = some (.slice es ew e7) ∧
 thenW (c0.alloc (.cells #[.slice es ew e7] 23)) fun fu =>
 ∃ (ds : Option Addr) (da : Nat) (dy : Nat) (ej : World), (Builtin.append_ #[25, 25] 25 #[.slice a2 a0 a1, .slice (some (blk c0.heap.size)) 1 1]).run Try.prog fu = .ok (.slice ds da dy) ej ∧
 Calls Try.prog 11 #[.slice ai a9 ag, .slice ds da dy] ej fun gd ex => ∃ (b9 : Bool), gd = .returned (.bool b9) ∧
 bif !b9 then (
 R (.bool false) ex) else (
 ∃ fe, fe < b8 ∧ I0 fe [.pointer ao, .slice ds da dy, .int .i64 (IntKind.i64.wrap (a3 + 1))] ex)) else (
 Calls Try.prog 11 #[.slice ai a9 ag, .slice a2 a0 a1] c0 fun il ef => ∃ (bu : Bool), il = .returned (.bool bu) ∧
 bif !bu then (
 R (.bool false) ef) else (
 ∃ ih, ih < b8 ∧ I0 ih [.pointer ao, .slice a2 a0 a1, .int .i64 (IntKind.i64.wrap (a3 + 1))] ef)))))) else (
 bif a6 == 19 then (
 Calls Try.prog 23 #[.pointer d3, .slice none 0 0] aw fun i6 f0 => ∃ (b2 : Int), i6 = .returned (.int .i64 b2) ∧
 bif b2 != 19 then (
 R (.bool false) f0) else (
 Calls Try.prog 24 #[.pointer a4] f0 fun fw dv => ∃ (cp : Bool), fw = .returned (.bool cp) ∧
 bif !cp then (
 ∃ g9, g9 < b8 ∧ I0 g9 [.pointer d3, .slice a2 a0 a1, .int .i64 (IntKind.i64.wrap (a3 + 1))] dv) else (
 ay.elim False fun iy =>
 0 ≤ (a3 : Int) ∧ (a3 : Int) < (ax : Int) ∧
 ∃ (bi : Option Addr) (ba : Nat) (bg : Nat), dv.cell? ((iy.add (Int.toNat a3 * 3)).add 2) = some (.slice bi ba bg) ∧
 Calls Try.prog 25 #[.pointer a4, .slice bi ba bg] dv fun g0 gi => ∃ (cd : Int), g0 = .returned (.int .i64 cd) ∧
 Calls Try.prog 20 #[.pointer a4, .int .i64 0, .int .i64 aa, .int .u32 7] gi fun fv c2 => ∃ (am : Option Addr) (ak : Option Addr) (a5 : Nat) (aj : Nat) (bk : Int), fv = .returned (.tuple #[.pointer am, .slice ak a5 aj, .int .i64 bk]) ∧
 bif bk != 0 then (
 R (.bool false) c2) else (
 bif (a5 : Int) == (IntKind.i64.wrap ((a0 : Int) + 1)) then (
 ay.elim False fun j4 =>
 0 ≤ (a3 : Int) ∧ (a3 : Int) < (ax : Int) ∧
 ∃ (e5 : Option Addr) (e1 : Nat) (f1 : Nat), c2.cell? ((j4.add (Int.toNat a3 * 3)).add 0) = some (.slice e5 e1 f1) ∧
 thenW (c2.alloc (.cells #[.slice e5 e1 f1] 23)) fun i3 =>
 ∃ (dg : Option Addr) (dd : Nat) (df : Nat) (ez : World), (Builtin.append_ #[25, 25] 25 #[.slice a2 a0 a1, .slice (some (blk c2.heap.size)) 1 1]).run Try.prog i3 = .ok (.slice dg dd df) ez ∧
 Calls Try.prog 11 #[.slice ak a5 aj, .slice dg dd df] ez fun gl eu => ∃ (bn : Bool), gl = .returned (.bool bn) ∧
 bif !bn then (
 R (.bool false) eu) else (
 ∃ ff, ff < b8 ∧ I0 ff [.pointer am, .slice dg dd df, .int .i64 (IntKind.i64.wrap (a3 + 1))] eu)) else (
 Calls Try.prog 11 #[.slice ak a5 aj, .slice a2 a0 a1] c2 fun gm eh => ∃ (bq : Bool), gm = .returned (.bool bq) ∧
 bif !bq then (
 R (.bool false) eh) else (
 ∃ fq, fq < b8 ∧ I0 fq [.pointer am, .slice a2 a0 a1, .int .i64 (IntKind.i64.wrap (a3 + 1))] eh)))))) else (
 R (.bool false) aw))))) else (
 Calls Try.prog 20 #[.pointer a4, .int .i64 0, .int .i64 aa, .int .u32 7] d2 fun gq eq => ∃ (dw : Option Addr) (b0 : Option Addr) (b3 : Nat) (az : Nat) (c9 : Int), gq = .returned (.tuple #[.pointer dw, .slice b0 b3 az, .int .i64 c9]) ∧
 bif c9 == 0 then (
 Calls Try.prog 11 #[.slice b0 b3 az, .slice a2 a0 a1] eq fun ic ey => ∃ (ca : Bool), ic = .returned (.bool ca) ∧
 bif ca then (
 Calls Try.prog 8 #[] ey fun im fy => ∃ (bl : Bool), im = .returned (.bool bl) ∧
 R (.bool bl) fy) else (
 R (.bool false) ey)) else (
 R (.bool false) eq)))))))

theorem cachettelaw10_JournalCrash.eq (size1 : Int) (l2a : Option Addr) (l2n : Nat) (l2c : Nat) (R : Value → World → Prop) (w : World) : mfunc Try.prog [(0, [0, 1, 5], [(7, (.one .ptr)), (10, (.one .slice)), (11, (.one (.int .i64)))])] 5 [.int .i64 size1, .slice l2a l2n l2c] R w = cachettelaw10_JournalCrash.M size1 l2a l2n l2c R w := by kernel_rfl
theorem cachettelaw10_JournalCrash.ok (a0 : Int) (a3 : Option Addr) (a2 : Nat) (a1 : Nat) {R : Value → World → Prop} {w : World} (h : cachettelaw10_JournalCrash.M a0 a3 a2 a1 R w) : Calls Try.prog 5 #[.int .i64 a0, .slice a3 a2 a1] w fun e w' => ∃ v, e = .returned v ∧ R v w' :=
  mfunc_ok follows (H := [(0, [0, 1, 5], [(7, (.one .ptr)), (10, (.one .slice)), (11, (.one (.int .i64)))])]) (args := [.int .i64 a0, .slice a3 a2 a1]) (by rw [cachettelaw10_JournalCrash.eq]; exact h)

def cachettelaw10_JournalCrash.N (ac : Int) (jo : Option Addr) (bd : Nat) (jr : Nat) (R : Value → World → Prop) (w : World) : Prop :=
 (ac < 1 →
 Calls Try.prog 8 #[] w fun jp jq => ∃ (e7 : Bool), jp = .returned (.bool e7) ∧
 R (.bool e7) jq) ∧
 ((1 : Int) ≤ ac →
 (ac > 60 →
 Calls Try.prog 8 #[] w fun js j7 => ∃ (dt : Bool), js = .returned (.bool dt) ∧
 R (.bool dt) j7) ∧
 (ac ≤ 60 →
 Calls Try.prog 18 #[.slice jo bd jr] w fun jf g7 => ∃ (ae : Bool), jf = .returned (.bool ae) ∧
 (ae = false →
 Calls Try.prog 8 #[] g7 fun jk ji => ∃ (da : Bool), jk = .returned (.bool da) ∧
 R (.bool da) ji) ∧
 (ae = true →
 Calls Try.prog 19 #[.int .i64 60] g7 fun j1 jg => ∃ (a4 : Option Addr) (ig : Int), j1 = .returned (.tuple #[.pointer a4, .int .i64 ig]) ∧
 Calls Try.prog 20 #[.pointer a4, .int .i64 0, .int .i64 ac, .int .u32 7] jg fun jc fp => ∃ (d7 : Option Addr) (dh : Option Addr) (ba : Nat) (df : Nat) (bu : Int), jc = .returned (.tuple #[.pointer d7, .slice dh ba df, .int .i64 bu]) ∧
 (bu ≠ 0 →
 R (.bool false) fp) ∧
 (bu = 0 →
 ((ba : Int) ≠ 0 →
 R (.bool false) fp) ∧
 ((ba : Int) = 0 →
 ∃ (I0 : Nat → List Value → World → Prop) (jt : Nat), I0 jt [.pointer d7, .slice none 0 0, .int .i64 0] fp ∧ ∀ (bq : Nat) (dc : World) (de : Option Addr) (a2 : Option Addr) (a0 : Nat) (a3 : Nat) (a1 : Int), I0 bq [.pointer de, .slice a2 a0 a3, .int .i64 a1] dc →
 (a1 < (bd : Int) →
 ∃ bl : Addr, jo = some bl ∧
 0 ≤ (a1 : Int) ∧ (a1 : Int) < (bd : Int) ∧
 ∃ (bt : Int), dc.cell? ((bl.add (Int.toNat a1 * 3)).add 1) = some (.int .i64 bt) ∧
 (bt ≥ 0 →
 0 ≤ (a1 : Int) ∧ (a1 : Int) < (bd : Int) ∧
 ∃ (d2 : Int), dc.cell? ((bl.add (Int.toNat a1 * 3)).add 1) = some (.int .i64 d2) ∧
 Calls Try.prog 21 #[.pointer a4, .int .i64 d2] dc fun jd j2 => ∃ (im : Int), jd = .returned (.int .i64 im) ∧
 Calls Try.prog 22 #[.pointer de] j2 fun jj gk => ∃ (cz : Int), jj = .returned (.int .i64 cz) ∧
 0 ≤ (a1 : Int) ∧ (a1 : Int) < (bd : Int) ∧
 ∃ (fv : Option Addr) (iq : Nat) (g6 : Nat), gk.cell? ((bl.add (Int.toNat a1 * 3)).add 0) = some (.slice fv iq g6) ∧
 Calls Try.prog 23 #[.pointer de, .slice fv iq g6] gk fun j3 c3 => ∃ (a6 : Int), j3 = .returned (.int .i64 a6) ∧
 (a6 = 0 →
 0 ≤ (a1 : Int) ∧ (a1 : Int) < (bd : Int) ∧
 ∃ (iv : Option Addr) (i5 : Nat) (ie : Nat), c3.cell? ((bl.add (Int.toNat a1 * 3)).add 0) = some (.slice iv i5 ie) ∧
 ∀ (eb : World) (iz : Nat), Ext no c3 eb → Blk eb iz 23 [.slice iv i5 ie] → c3.heap.size ≤ iz → iz < eb.heap.size →
 ∃ (dk : Option Addr) (bv : Nat) (dw : Nat) (fy : World), (Builtin.append_ #[25, 25] 25 #[.slice a2 a0 a3, .slice (some (blk iz)) 1 1]).run Try.prog eb = .ok (.slice dk bv dw) fy ∧
 Calls Try.prog 24 #[.pointer a4] fy fun jb fu => ∃ (cu : Bool), jb = .returned (.bool cu) ∧
 (cu = false →
 (-9223372036854775808 : Int) ≤ (a1 + 1) ∧ (a1 + 1) < 9223372036854775808 ∧
 ∃ jm, jm < bq ∧ I0 jm [.pointer de, .slice dk bv dw, .int .i64 (a1 + 1)] fu) ∧
 (cu = true →
 0 ≤ (a1 : Int) ∧ (a1 : Int) < (bd : Int) ∧
 ∃ (d6 : Option Addr) (d1 : Nat) (d8 : Nat), fu.cell? ((bl.add (Int.toNat a1 * 3)).add 2) = some (.slice d6 d1 d8) ∧
 Calls Try.prog 25 #[.pointer a4, .slice d6 d1 d8] fu fun ja je => ∃ (dd : Int), ja = .returned (.int .i64 dd) ∧
 Calls Try.prog 20 #[.pointer a4, .int .i64 0, .int .i64 ac, .int .u32 7] je fun j4 dl => ∃ (br : Option Addr) (bh : Option Addr) (ad : Nat) (b3 : Nat) (bs : Int), j4 = .returned (.tuple #[.pointer br, .slice bh ad b3, .int .i64 bs]) ∧
 (bs ≠ 0 →
 R (.bool false) dl) ∧
 (bs = 0 →
 (-9223372036854775808 : Int) ≤ ((bv : Int) + 1) ∧ ((bv : Int) + 1) < 9223372036854775808 ∧
 ((ad : Int) = ((bv : Int) + 1) →
 0 ≤ (a1 : Int) ∧ (a1 : Int) < (bd : Int) ∧
 ∃ (fx : Option Addr) (gs : Nat) (i1 : Nat), dl.cell? ((bl.add (Int.toNat a1 * 3)).add 0) = some (.slice fx gs i1) ∧
 ∀ (ee : World) (j0 : Nat), Ext no dl ee → Blk ee j0 23 [.slice fx gs i1] → dl.heap.size ≤ j0 → j0 < ee.heap.size →
 ∃ (fs : Option Addr) (fq : Nat) (ft : Nat) (g1 : World), (Builtin.append_ #[25, 25] 25 #[.slice dk bv dw, .slice (some (blk j0)) 1 1]).run Try.prog ee = .ok (.slice fs fq ft) g1 ∧
 Calls Try.prog 11 #[.slice bh ad b3, .slice fs fq ft] g1 fun jh i3 => ∃ (c0 : Bool), jh = .returned (.bool c0) ∧
 (c0 = false →
 R (.bool false) i3) ∧
 (c0 = true →
 (-9223372036854775808 : Int) ≤ (a1 + 1) ∧ (a1 + 1) < 9223372036854775808 ∧
 ∃ jn, jn < bq ∧ I0 jn [.pointer br, .slice fs fq ft, .int .i64 (a1 + 1)] i3)) ∧
 ((ad : Int) ≠ ((bv : Int) + 1) →
 Calls Try.prog 11 #[.slice bh ad b3, .slice dk bv dw] dl fun j6 i7 => ∃ (c2 : Bool), j6 = .returned (.bool c2) ∧
 (c2 = false →
 R (.bool false) i7) ∧
 (c2 = true →
 (-9223372036854775808 : Int) ≤ (a1 + 1) ∧ (a1 + 1) < 9223372036854775808 ∧
 ∃ jl, jl < bq ∧ I0 jl [.pointer br, .slice dk bv dw, .int .i64 (a1 + 1)] i7))))) ∧
 (a6 ≠ 0 →
 (a6 = 18 →
 0 ≤ (a1 : Int) ∧ (a1 : Int) < (bd : Int) ∧
 ∃ (j8 : Option Addr) (fr : Nat) (j9 : Nat), c3.cell? ((bl.add (Int.toNat a1 * 3)).add 0) = some (.slice j8 fr j9) ∧
 ((journal_Parts.F (fr : Int)) ≤ cz →
 ∀ (ds : World), Ext no c3 ds →
 R (.bool false) ds) ∧
 (cz < (journal_Parts.F (fr : Int)) →
 ∀ (ds : World), Ext no c3 ds →
 Calls Try.prog 24 #[.pointer a4] ds fun j5 e9 => ∃ (cs : Bool), j5 = .returned (.bool cs) ∧
 (cs = false →
 (-9223372036854775808 : Int) ≤ (a1 + 1) ∧ (a1 + 1) < 9223372036854775808 ∧
 ∃ gf, gf < bq ∧ I0 gf [.pointer de, .slice a2 a0 a3, .int .i64 (a1 + 1)] e9) ∧
 (cs = true →
 0 ≤ (a1 : Int) ∧ (a1 : Int) < (bd : Int) ∧
 ∃ (ce : Option Addr) (cg : Nat) (cm : Nat), e9.cell? ((bl.add (Int.toNat a1 * 3)).add 2) = some (.slice ce cg cm) ∧
 Calls Try.prog 25 #[.pointer a4, .slice ce cg cm] e9 fun i4 gz => ∃ (cx : Int), i4 = .returned (.int .i64 cx) ∧
 Calls Try.prog 20 #[.pointer a4, .int .i64 0, .int .i64 ac, .int .u32 7] gz fun iu ci => ∃ (b5 : Option Addr) (ah : Option Addr) (a9 : Nat) (ar : Nat) (ay : Int), iu = .returned (.tuple #[.pointer b5, .slice ah a9 ar, .int .i64 ay]) ∧
 (ay ≠ 0 →
 R (.bool false) ci) ∧
 (ay = 0 →
 (-9223372036854775808 : Int) ≤ ((a0 : Int) + 1) ∧ ((a0 : Int) + 1) < 9223372036854775808 ∧
 ((a9 : Int) = ((a0 : Int) + 1) →
 0 ≤ (a1 : Int) ∧ (a1 : Int) < (bd : Int) ∧
 ∃ (el : Option Addr) (fo : Nat) (f2 : Nat), ci.cell? ((bl.add (Int.toNat a1 * 3)).add 0) = some (.slice el fo f2) ∧
 ∀ (d3 : World) (ea : Nat), Ext no ci d3 → Blk d3 ea 23 [.slice el fo f2] → ci.heap.size ≤ ea → ea < d3.heap.size →
 ∃ (dr : Option Addr) (dg : Nat) (e0 : Nat) (f4 : World), (Builtin.append_ #[25, 25] 25 #[.slice a2 a0 a3, .slice (some (blk ea)) 1 1]).run Try.prog d3 = .ok (.slice dr dg e0) f4 ∧
 Calls Try.prog 11 #[.slice ah a9 ar, .slice dr dg e0] f4 fun i9 fk => ∃ (bb : Bool), i9 = .returned (.bool bb) ∧
 (bb = false →
 R (.bool false) fk) ∧
 (bb = true →
 (-9223372036854775808 : Int) ≤ (a1 + 1) ∧ (a1 + 1) < 9223372036854775808 ∧
 ∃ gb, gb < bq ∧ I0 gb [.pointer b5, .slice dr dg e0, .int .i64 (a1 + 1)] fk)) ∧
 ((a9 : Int) ≠ ((a0 : Int) + 1) →
 Calls Try.prog 11 #[.slice ah a9 ar, .slice a2 a0 a3] ci fun gq fj => ∃ (b2 : Bool), gq = .returned (.bool b2) ∧
 (b2 = false →
 R (.bool false) fj) ∧
 (b2 = true →
 (-9223372036854775808 : Int) ≤ (a1 + 1) ∧ (a1 + 1) < 9223372036854775808 ∧
 ∃ g8, g8 < bq ∧ I0 g8 [.pointer b5, .slice a2 a0 a3, .int .i64 (a1 + 1)] fj)))))) ∧
 (a6 ≠ 18 →
 (a6 = 19 →
 Calls Try.prog 23 #[.pointer de, .slice none 0 0] c3 fun gd fi => ∃ (ai : Int), gd = .returned (.int .i64 ai) ∧
 (ai ≠ 19 →
 R (.bool false) fi) ∧
 (ai = 19 →
 Calls Try.prog 24 #[.pointer a4] fi fun gg e6 => ∃ (c1 : Bool), gg = .returned (.bool c1) ∧
 (c1 = false →
 (-9223372036854775808 : Int) ≤ (a1 + 1) ∧ (a1 + 1) < 9223372036854775808 ∧
 ∃ g3, g3 < bq ∧ I0 g3 [.pointer de, .slice a2 a0 a3, .int .i64 (a1 + 1)] e6) ∧
 (c1 = true →
 0 ≤ (a1 : Int) ∧ (a1 : Int) < (bd : Int) ∧
 ∃ (cl : Option Addr) (cj : Nat) (cr : Nat), e6.cell? ((bl.add (Int.toNat a1 * 3)).add 2) = some (.slice cl cj cr) ∧
 Calls Try.prog 25 #[.pointer a4, .slice cl cj cr] e6 fun fw ga => ∃ (cw : Int), fw = .returned (.int .i64 cw) ∧
 Calls Try.prog 20 #[.pointer a4, .int .i64 0, .int .i64 ac, .int .u32 7] ga fun g5 ck => ∃ (bi : Option Addr) (aq : Option Addr) (a7 : Nat) (al : Nat) (bc : Int), g5 = .returned (.tuple #[.pointer bi, .slice aq a7 al, .int .i64 bc]) ∧
 (bc ≠ 0 →
 R (.bool false) ck) ∧
 (bc = 0 →
 (-9223372036854775808 : Int) ≤ ((a0 : Int) + 1) ∧ ((a0 : Int) + 1) < 9223372036854775808 ∧
 ((a7 : Int) = ((a0 : Int) + 1) →
 0 ≤ (a1 : Int) ∧ (a1 : Int) < (bd : Int) ∧
 ∃ (ev : Option Addr) (ew : Nat) (ej : Nat), ck.cell? ((bl.add (Int.toNat a1 * 3)).add 0) = some (.slice ev ew ej) ∧
 ∀ (db : World) (eh : Nat), Ext no ck db → Blk db eh 23 [.slice ev ew ej] → ck.heap.size ≤ eh → eh < db.heap.size →
 ∃ (dx : Option Addr) (e2 : Nat) (e8 : Nat) (eq : World), (Builtin.append_ #[25, 25] 25 #[.slice a2 a0 a3, .slice (some (blk eh)) 1 1]).run Try.prog db = .ok (.slice dx e2 e8) eq ∧
 Calls Try.prog 11 #[.slice aq a7 al, .slice dx e2 e8] eq fun gr fg => ∃ (be : Bool), gr = .returned (.bool be) ∧
 (be = false →
 R (.bool false) fg) ∧
 (be = true →
 (-9223372036854775808 : Int) ≤ (a1 + 1) ∧ (a1 + 1) < 9223372036854775808 ∧
 ∃ ip, ip < bq ∧ I0 ip [.pointer bi, .slice dx e2 e8, .int .i64 (a1 + 1)] fg)) ∧
 ((a7 : Int) ≠ ((a0 : Int) + 1) →
 Calls Try.prog 11 #[.slice aq a7 al, .slice a2 a0 a3] ck fun il et => ∃ (b1 : Bool), il = .returned (.bool b1) ∧
 (b1 = false →
 R (.bool false) et) ∧
 (b1 = true →
 (-9223372036854775808 : Int) ≤ (a1 + 1) ∧ (a1 + 1) < 9223372036854775808 ∧
 ∃ io, io < bq ∧ I0 io [.pointer bi, .slice a2 a0 a3, .int .i64 (a1 + 1)] et)))))) ∧
 (a6 ≠ 19 →
 R (.bool false) c3)))) ∧
 (bt < 0 →
 Calls Try.prog 22 #[.pointer de] dc fun gp eu => ∃ (bx : Int), gp = .returned (.int .i64 bx) ∧
 0 ≤ (a1 : Int) ∧ (a1 : Int) < (bd : Int) ∧
 ∃ (f0 : Option Addr) (fd : Nat) (fb : Nat), eu.cell? ((bl.add (Int.toNat a1 * 3)).add 0) = some (.slice f0 fd fb) ∧
 Calls Try.prog 23 #[.pointer de, .slice f0 fd fb] eu fun gv au => ∃ (a5 : Int), gv = .returned (.int .i64 a5) ∧
 (a5 = 0 →
 0 ≤ (a1 : Int) ∧ (a1 : Int) < (bd : Int) ∧
 ∃ (f6 : Option Addr) (ek : Nat) (ei : Nat), au.cell? ((bl.add (Int.toNat a1 * 3)).add 0) = some (.slice f6 ek ei) ∧
 ∀ (d9 : World) (ec : Nat), Ext no au d9 → Blk d9 ec 23 [.slice f6 ek ei] → au.heap.size ≤ ec → ec < d9.heap.size →
 ∃ (cn : Option Addr) (af : Nat) (c5 : Nat) (ff : World), (Builtin.append_ #[25, 25] 25 #[.slice a2 a0 a3, .slice (some (blk ec)) 1 1]).run Try.prog d9 = .ok (.slice cn af c5) ff ∧
 Calls Try.prog 24 #[.pointer a4] ff fun g2 e4 => ∃ (bz : Bool), g2 = .returned (.bool bz) ∧
 (bz = false →
 (-9223372036854775808 : Int) ≤ (a1 + 1) ∧ (a1 + 1) < 9223372036854775808 ∧
 ∃ gi, gi < bq ∧ I0 gi [.pointer de, .slice cn af c5, .int .i64 (a1 + 1)] e4) ∧
 (bz = true →
 0 ≤ (a1 : Int) ∧ (a1 : Int) < (bd : Int) ∧
 ∃ (c4 : Option Addr) (ca : Nat) (cd : Nat), e4.cell? ((bl.add (Int.toNat a1 * 3)).add 2) = some (.slice c4 ca cd) ∧
 Calls Try.prog 25 #[.pointer a4, .slice c4 ca cd] e4 fun gy fz => ∃ (cy : Int), gy = .returned (.int .i64 cy) ∧
 Calls Try.prog 20 #[.pointer a4, .int .i64 0, .int .i64 ac, .int .u32 7] fz fun ir cp => ∃ (b0 : Option Addr) (an : Option Addr) (a8 : Nat) (ao : Nat) (b8 : Int), ir = .returned (.tuple #[.pointer b0, .slice an a8 ao, .int .i64 b8]) ∧
 (b8 ≠ 0 →
 R (.bool false) cp) ∧
 (b8 = 0 →
 (-9223372036854775808 : Int) ≤ ((af : Int) + 1) ∧ ((af : Int) + 1) < 9223372036854775808 ∧
 ((a8 : Int) = ((af : Int) + 1) →
 0 ≤ (a1 : Int) ∧ (a1 : Int) < (bd : Int) ∧
 ∃ (f9 : Option Addr) (fm : Nat) (fe : Nat), cp.cell? ((bl.add (Int.toNat a1 * 3)).add 0) = some (.slice f9 fm fe) ∧
 ∀ (d4 : World) (ed : Nat), Ext no cp d4 → Blk d4 ed 23 [.slice f9 fm fe] → cp.heap.size ≤ ed → ed < d4.heap.size →
 ∃ (e5 : Option Addr) (di : Nat) (e1 : Nat) (ep : World), (Builtin.append_ #[25, 25] 25 #[.slice cn af c5, .slice (some (blk ed)) 1 1]).run Try.prog d4 = .ok (.slice e5 di e1) ep ∧
 Calls Try.prog 11 #[.slice an a8 ao, .slice e5 di e1] ep fun ix f7 => ∃ (bf : Bool), ix = .returned (.bool bf) ∧
 (bf = false →
 R (.bool false) f7) ∧
 (bf = true →
 (-9223372036854775808 : Int) ≤ (a1 + 1) ∧ (a1 + 1) < 9223372036854775808 ∧
 ∃ i6, i6 < bq ∧ I0 i6 [.pointer b0, .slice e5 di e1, .int .i64 (a1 + 1)] f7)) ∧
 ((a8 : Int) ≠ ((af : Int) + 1) →
 Calls Try.prog 11 #[.slice an a8 ao, .slice cn af c5] cp fun gt f1 => ∃ (b6 : Bool), gt = .returned (.bool b6) ∧
 (b6 = false →
 R (.bool false) f1) ∧
 (b6 = true →
 (-9223372036854775808 : Int) ≤ (a1 + 1) ∧ (a1 + 1) < 9223372036854775808 ∧
 ∃ ib, ib < bq ∧ I0 ib [.pointer b0, .slice cn af c5, .int .i64 (a1 + 1)] f1))))) ∧
 (a5 ≠ 0 →
 (a5 = 18 →
 0 ≤ (a1 : Int) ∧ (a1 : Int) < (bd : Int) ∧
 ∃ (gh : Option Addr) (dq : Nat) (g9 : Nat), au.cell? ((bl.add (Int.toNat a1 * 3)).add 0) = some (.slice gh dq g9) ∧
 ((journal_Parts.F (dq : Int)) ≤ bx →
 ∀ (cc : World), Ext no au cc →
 R (.bool false) cc) ∧
 (bx < (journal_Parts.F (dq : Int)) →
 ∀ (cc : World), Ext no au cc →
 Calls Try.prog 24 #[.pointer a4] cc fun gn dv => ∃ (bp : Bool), gn = .returned (.bool bp) ∧
 (bp = false →
 (-9223372036854775808 : Int) ≤ (a1 + 1) ∧ (a1 + 1) < 9223372036854775808 ∧
 ∃ ih, ih < bq ∧ I0 ih [.pointer de, .slice a2 a0 a3, .int .i64 (a1 + 1)] dv) ∧
 (bp = true →
 0 ≤ (a1 : Int) ∧ (a1 : Int) < (bd : Int) ∧
 ∃ (cf : Option Addr) (c8 : Nat) (cq : Nat), dv.cell? ((bl.add (Int.toNat a1 * 3)).add 2) = some (.slice cf c8 cq) ∧
 Calls Try.prog 25 #[.pointer a4, .slice cf c8 cq] dv fun gj gl => ∃ (cv : Int), gj = .returned (.int .i64 cv) ∧
 Calls Try.prog 20 #[.pointer a4, .int .i64 0, .int .i64 ac, .int .u32 7] gl fun gx cb => ∃ (ax : Option Addr) (ag : Option Addr) (ab : Nat) (am : Nat) (az : Int), gx = .returned (.tuple #[.pointer ax, .slice ag ab am, .int .i64 az]) ∧
 (az ≠ 0 →
 R (.bool false) cb) ∧
 (az = 0 →
 (-9223372036854775808 : Int) ≤ ((a0 : Int) + 1) ∧ ((a0 : Int) + 1) < 9223372036854775808 ∧
 ((ab : Int) = ((a0 : Int) + 1) →
 0 ≤ (a1 : Int) ∧ (a1 : Int) < (bd : Int) ∧
 ∃ (f3 : Option Addr) (fh : Nat) (em : Nat), cb.cell? ((bl.add (Int.toNat a1 * 3)).add 0) = some (.slice f3 fh em) ∧
 ∀ (d5 : World) (ef : Nat), Ext no cb d5 → Blk d5 ef 23 [.slice f3 fh em] → cb.heap.size ≤ ef → ef < d5.heap.size →
 ∃ (dn : Option Addr) (dp : Nat) (du : Nat) (ex : World), (Builtin.append_ #[25, 25] 25 #[.slice a2 a0 a3, .slice (some (blk ef)) 1 1]).run Try.prog d5 = .ok (.slice dn dp du) ex ∧
 Calls Try.prog 11 #[.slice ag ab am, .slice dn dp du] ex fun ia ez => ∃ (av : Bool), ia = .returned (.bool av) ∧
 (av = false →
 R (.bool false) ez) ∧
 (av = true →
 (-9223372036854775808 : Int) ≤ (a1 + 1) ∧ (a1 + 1) < 9223372036854775808 ∧
 ∃ ge, ge < bq ∧ I0 ge [.pointer ax, .slice dn dp du, .int .i64 (a1 + 1)] ez)) ∧
 ((ab : Int) ≠ ((a0 : Int) + 1) →
 Calls Try.prog 11 #[.slice ag ab am, .slice a2 a0 a3] cb fun it f5 => ∃ (bg : Bool), it = .returned (.bool bg) ∧
 (bg = false →
 R (.bool false) f5) ∧
 (bg = true →
 (-9223372036854775808 : Int) ≤ (a1 + 1) ∧ (a1 + 1) < 9223372036854775808 ∧
 ∃ ii, ii < bq ∧ I0 ii [.pointer ax, .slice a2 a0 a3, .int .i64 (a1 + 1)] f5)))))) ∧
 (a5 ≠ 18 →
 (a5 = 19 →
 Calls Try.prog 23 #[.pointer de, .slice none 0 0] au fun gm ey => ∃ (aj : Int), gm = .returned (.int .i64 aj) ∧
 (aj ≠ 19 →
 R (.bool false) ey) ∧
 (aj = 19 →
 Calls Try.prog 24 #[.pointer a4] ey fun ik dy => ∃ (bw : Bool), ik = .returned (.bool bw) ∧
 (bw = false →
 (-9223372036854775808 : Int) ≤ (a1 + 1) ∧ (a1 + 1) < 9223372036854775808 ∧
 ∃ i8, i8 < bq ∧ I0 i8 [.pointer de, .slice a2 a0 a3, .int .i64 (a1 + 1)] dy) ∧
 (bw = true →
 0 ≤ (a1 : Int) ∧ (a1 : Int) < (bd : Int) ∧
 ∃ (c6 : Option Addr) (co : Nat) (ch : Nat), dy.cell? ((bl.add (Int.toNat a1 * 3)).add 2) = some (.slice c6 co ch) ∧
 Calls Try.prog 25 #[.pointer a4, .slice c6 co ch] dy fun ij ic => ∃ (ct : Int), ij = .returned (.int .i64 ct) ∧
 Calls Try.prog 20 #[.pointer a4, .int .i64 0, .int .i64 ac, .int .u32 7] ic fun gc c7 => ∃ (bk : Option Addr) (ak : Option Addr) (aa : Nat) (ap : Nat) (aw : Int), gc = .returned (.tuple #[.pointer bk, .slice ak aa ap, .int .i64 aw]) ∧
 (aw ≠ 0 →
 R (.bool false) c7) ∧
 (aw = 0 →
 (-9223372036854775808 : Int) ≤ ((a0 : Int) + 1) ∧ ((a0 : Int) + 1) < 9223372036854775808 ∧
 ((aa : Int) = ((a0 : Int) + 1) →
 0 ≤ (a1 : Int) ∧ (a1 : Int) < (bd : Int) ∧
 ∃ (eo : Option Addr) (f8 : Nat) (en : Nat), c7.cell? ((bl.add (Int.toNat a1 * 3)).add 0) = some (.slice eo f8 en) ∧
 ∀ (d0 : World) (eg : Nat), Ext no c7 d0 → Blk d0 eg 23 [.slice eo f8 en] → c7.heap.size ≤ eg → eg < d0.heap.size →
 ∃ (dz : Option Addr) (dm : Nat) (dj : Nat) (fa : World), (Builtin.append_ #[25, 25] 25 #[.slice a2 a0 a3, .slice (some (blk eg)) 1 1]).run Try.prog d0 = .ok (.slice dz dm dj) fa ∧
 Calls Try.prog 11 #[.slice ak aa ap, .slice dz dm dj] fa fun i0 fc => ∃ (b4 : Bool), i0 = .returned (.bool b4) ∧
 (b4 = false →
 R (.bool false) fc) ∧
 (b4 = true →
 (-9223372036854775808 : Int) ≤ (a1 + 1) ∧ (a1 + 1) < 9223372036854775808 ∧
 ∃ g0, g0 < bq ∧ I0 g0 [.pointer bk, .slice dz dm dj, .int .i64 (a1 + 1)] fc)) ∧
 ((aa : Int) ≠ ((a0 : Int) + 1) →
 Calls Try.prog 11 #[.slice ak aa ap, .slice a2 a0 a3] c7 fun gu fl => ∃ (bj : Bool), gu = .returned (.bool bj) ∧
 (bj = false →
 R (.bool false) fl) ∧
 (bj = true →
 (-9223372036854775808 : Int) ≤ (a1 + 1) ∧ (a1 + 1) < 9223372036854775808 ∧
 ∃ gw, gw < bq ∧ I0 gw [.pointer bk, .slice a2 a0 a3, .int .i64 (a1 + 1)] fl)))))) ∧
 (a5 ≠ 19 →
 R (.bool false) au))))) ∧
 ((bd : Int) ≤ a1 →
 Calls Try.prog 20 #[.pointer a4, .int .i64 0, .int .i64 ac, .int .u32 7] dc fun iw er => ∃ (e3 : Option Addr) (bo : Option Addr) (bm : Nat) (bn : Nat) (b9 : Int), iw = .returned (.tuple #[.pointer e3, .slice bo bm bn, .int .i64 b9]) ∧
 (b9 = 0 →
 Calls Try.prog 11 #[.slice bo bm bn, .slice a2 a0 a3] er fun g4 es => ∃ (b7 : Bool), g4 = .returned (.bool b7) ∧
 (b7 = true →
 Calls Try.prog 8 #[] es fun iy i2 => ∃ (c9 : Bool), iy = .returned (.bool c9) ∧
 R (.bool c9) i2) ∧
 (b7 = false →
 R (.bool false) es)) ∧
 (b9 ≠ 0 →
 R (.bool false) er)))))))

theorem cachettelaw10_JournalCrash.up (d4 : Int) (ks : Option Addr) (k4 : Nat) (jt : Nat) {R : Value → World → Prop} {w : World} (h : cachettelaw10_JournalCrash.N d4 ks k4 jt R w) : cachettelaw10_JournalCrash.M d4 ks k4 jt R w := by
  unfold cachettelaw10_JournalCrash.M
  unfold cachettelaw10_JournalCrash.N at h
  refine bif_of (fun c3 => ?_) (fun c3 => ?_)
  · have h := h.1 (of_decide_eq_true c3)
    refine h.mono fun lt lu h => ?_
    obtain ⟨ef, he, h⟩ := h
    refine ⟨ef, he, ?_⟩
    exact h
  · have h := h.2 (Int.not_lt.1 (of_decide_eq_false c3))
    refine bif_of (fun c7 => ?_) (fun c7 => ?_)
    · have h := h.1 (of_decide_eq_true c7)
      refine h.mono fun lv l8 h => ?_
      obtain ⟨ds, he, h⟩ := h
      refine ⟨ds, he, ?_⟩
      exact h
    · have h := h.2 (Int.not_lt.1 (of_decide_eq_false c7))
      refine h.mono fun lh lb h => ?_
      obtain ⟨a8, he, h⟩ := h
      refine ⟨a8, he, ?_⟩
      refine bif_of (fun gt => ?_) (fun gt => ?_)
      · have h := h.1 (not_t gt)
        refine h.mono fun lr lo h => ?_
        obtain ⟨d2, he, h⟩ := h
        refine ⟨d2, he, ?_⟩
        exact h
      · have h := h.2 (not_f gt)
        refine h.mono fun kz lm h => ?_
        obtain ⟨ev, g9, he, h⟩ := h
        refine ⟨ev, g9, he, ?_⟩
        refine h.mono fun ld l2 h => ?_
        obtain ⟨ct, ba, bv, b0, cr, he, h⟩ := h
        refine ⟨ct, ba, bv, b0, cr, he, ?_⟩
        refine bif_of (fun ir => ?_) (fun ir => ?_)
        · have h := h.1 (bne_t ir)
          exact h
        · have h := h.2 (bne_f ir)
          refine bif_of (fun i2 => ?_) (fun i2 => ?_)
          · have h := h.1 (bne_t i2)
            exact h
          · have h := h.2 (bne_f i2)
            obtain ⟨I0, lk, h0, h⟩ := h
            refine ⟨I0, lk, h0, fun l3 ip ls co cz cv ky hI => ?_⟩
            have h := h l3 ip ls co cz cv ky hI
            refine bif_of (fun ib => ?_) (fun ib => ?_)
            · have h := h.1 (of_decide_eq_true ib)
              obtain ⟨lw, a2, h⟩ := h
              refine elim_some a2 ?_
              obtain ⟨a4, a3, h⟩ := h
              refine ⟨a4, a3, ?_⟩
              obtain ⟨cp, iy, h⟩ := h
              refine ⟨cp, iy, ?_⟩
              refine bif_of (fun gp => ?_) (fun gp => ?_)
              · have h := h.1 (of_decide_eq_true gp)
                refine elim_some a2 ?_
                obtain ⟨a4, a3, h⟩ := h
                refine ⟨a4, a3, ?_⟩
                obtain ⟨cq, j1, h⟩ := h
                refine ⟨cq, j1, ?_⟩
                refine h.mono fun le l0 h => ?_
                obtain ⟨gb, he, h⟩ := h
                refine ⟨gb, he, ?_⟩
                refine h.mono fun lp lc h => ?_
                obtain ⟨ea, he, h⟩ := h
                refine ⟨ea, he, ?_⟩
                refine elim_some a2 ?_
                obtain ⟨a4, a3, h⟩ := h
                refine ⟨a4, a3, ?_⟩
                obtain ⟨gi, j6, gy, j8, h⟩ := h
                refine ⟨gi, j6, gy, j8, ?_⟩
                refine h.mono fun l1 cj h => ?_
                obtain ⟨c5, he, h⟩ := h
                refine ⟨c5, he, ?_⟩
                refine bif_of (fun i4 => ?_) (fun i4 => ?_)
                · have h := h.1 (beq_t i4)
                  refine elim_some a2 ?_
                  obtain ⟨a4, a3, h⟩ := h
                  refine ⟨a4, a3, ?_⟩
                  obtain ⟨j7, iq, ix, j3, h⟩ := h
                  refine ⟨j7, iq, ix, j3, ?_⟩
                  refine thenW_in fun gr ie => ?_
                  have h := h gr cj.heap.size ((Ext.refl no cj).x_alloc ie) (Blk.of_new ie) ((Ext.refl no cj)).size (size_lt_alloc ie)
                  obtain ⟨gs, io, ij, gk, hr, h⟩ := h
                  refine ⟨gs, io, ij, gk, hr, ?_⟩
                  refine h.mono fun la lq h => ?_
                  obtain ⟨dm, he, h⟩ := h
                  refine ⟨dm, he, ?_⟩
                  refine bif_of (fun ii => ?_) (fun ii => ?_)
                  · have h := h.1 (not_t ii)
                    obtain ⟨a1, a0, h⟩ := h
                    try rw [w64 a1 a0]
                    obtain ⟨lg, hk, h⟩ := h
                    exact ⟨lg, hk, h⟩
                  · have h := h.2 (not_f ii)
                    refine elim_some a2 ?_
                    obtain ⟨a4, a3, h⟩ := h
                    refine ⟨a4, a3, ?_⟩
                    obtain ⟨cs, cl, cx, i9, h⟩ := h
                    refine ⟨cs, cl, cx, i9, ?_⟩
                    refine h.mono fun l9 lf h => ?_
                    obtain ⟨ap, he, h⟩ := h
                    refine ⟨ap, he, ?_⟩
                    refine h.mono fun l4 df h => ?_
                    obtain ⟨cm, c9, bc, bh, cn, he, h⟩ := h
                    refine ⟨cm, c9, bc, bh, cn, he, ?_⟩
                    refine bif_of (fun ia => ?_) (fun ia => ?_)
                    · have h := h.1 (bne_t ia)
                      exact h
                    · have h := h.2 (bne_f ia)
                      obtain ⟨a1, a0, h⟩ := h
                      try rw [w64 a1 a0]
                      refine bif_of (fun i3 => ?_) (fun i3 => ?_)
                      · have h := h.1 (beq_t i3)
                        refine elim_some a2 ?_
                        obtain ⟨a4, a3, h⟩ := h
                        refine ⟨a4, a3, ?_⟩
                        obtain ⟨gj, ig, im, gl, h⟩ := h
                        refine ⟨gj, ig, im, gl, ?_⟩
                        refine thenW_in fun ic i0 => ?_
                        have h := h ic df.heap.size ((Ext.refl no df).x_alloc i0) (Blk.of_new i0) ((Ext.refl no df)).size (size_lt_alloc i0)
                        obtain ⟨ik, gn, iz, gq, hr, h⟩ := h
                        refine ⟨ik, gn, iz, gq, hr, ?_⟩
                        refine h.mono fun ln lj h => ?_
                        obtain ⟨d0, he, h⟩ := h
                        refine ⟨d0, he, ?_⟩
                        refine bif_of (fun i8 => ?_) (fun i8 => ?_)
                        · have h := h.1 (not_t i8)
                          exact h
                        · have h := h.2 (not_f i8)
                          obtain ⟨a1, a0, h⟩ := h
                          try rw [w64 a1 a0]
                          obtain ⟨li, hk, h⟩ := h
                          exact ⟨li, hk, h⟩
                      · have h := h.2 (beq_f i3)
                        refine h.mono fun l7 ll h => ?_
                        obtain ⟨d3, he, h⟩ := h
                        refine ⟨d3, he, ?_⟩
                        refine bif_of (fun iw => ?_) (fun iw => ?_)
                        · have h := h.1 (not_t iw)
                          exact h
                        · have h := h.2 (not_f iw)
                          obtain ⟨a1, a0, h⟩ := h
                          try rw [w64 a1 a0]
                          obtain ⟨l5, hk, h⟩ := h
                          exact ⟨l5, hk, h⟩
                · have h := h.2 (beq_f i4)
                  refine bif_of (fun ih => ?_) (fun ih => ?_)
                  · have h := h.1 (beq_t ih)
                    refine elim_some a2 ?_
                    obtain ⟨a4, a3, h⟩ := h
                    refine ⟨a4, a3, ?_⟩
                    obtain ⟨gu, dj, gw, j9, h⟩ := h
                    refine ⟨gu, dj, gw, j9, ?_⟩
                    refine (journal_Parts.pure (dj : Int)).mono fun ee ww96 ⟨he, hxx⟩ => ⟨(journal_Parts.F (dj : Int)), he, ?_⟩
                    have er := (Ext.refl no cj).trans hxx
                    refine bif_of (fun gx => ?_) (fun gx => ?_)
                    · have h := h.1 (of_decide_eq_true gx)
                      have h := h ww96 er
                      exact h
                    · have h := h.2 (Int.not_le.1 (of_decide_eq_false gx))
                      have h := h ww96 er
                      refine h.mono fun l6 kt h => ?_
                      obtain ⟨db, he, h⟩ := h
                      refine ⟨db, he, ?_⟩
                      refine bif_of (fun e7 => ?_) (fun e7 => ?_)
                      · have h := h.1 (not_t e7)
                        obtain ⟨a1, a0, h⟩ := h
                        try rw [w64 a1 a0]
                        obtain ⟨i6, hk, h⟩ := h
                        exact ⟨i6, hk, h⟩
                      · have h := h.2 (not_f e7)
                        refine elim_some a2 ?_
                        obtain ⟨a4, a3, h⟩ := h
                        refine ⟨a4, a3, ?_⟩
                        obtain ⟨bq, bs, ca, fj, h⟩ := h
                        refine ⟨bq, bs, ca, fj, ?_⟩
                        refine h.mono fun kc k8 h => ?_
                        obtain ⟨a9, he, h⟩ := h
                        refine ⟨a9, he, ?_⟩
                        refine h.mono fun kq bx h => ?_
                        obtain ⟨bj, ad, ax, aw, b5, he, h⟩ := h
                        refine ⟨bj, ad, ax, aw, b5, he, ?_⟩
                        refine bif_of (fun e8 => ?_) (fun e8 => ?_)
                        · have h := h.1 (bne_t e8)
                          exact h
                        · have h := h.2 (bne_f e8)
                          obtain ⟨a1, a0, h⟩ := h
                          try rw [w64 a1 a0]
                          refine bif_of (fun ec => ?_) (fun ec => ?_)
                          · have h := h.1 (beq_t ec)
                            refine elim_some a2 ?_
                            obtain ⟨a4, a3, h⟩ := h
                            refine ⟨a4, a3, ?_⟩
                            obtain ⟨eo, gh, fd, fy, h⟩ := h
                            refine ⟨eo, gh, fd, fy, ?_⟩
                            refine thenW_in fun fi ed => ?_
                            have h := h fi bx.heap.size ((Ext.refl no bx).x_alloc ed) (Blk.of_new ed) ((Ext.refl no bx)).size (size_lt_alloc ed)
                            obtain ⟨fh, ek, g1, ff, hr, h⟩ := h
                            refine ⟨fh, ek, g1, ff, hr, ?_⟩
                            refine h.mono fun ke kr h => ?_
                            obtain ⟨bw, he, h⟩ := h
                            refine ⟨bw, he, ?_⟩
                            refine bif_of (fun e4 => ?_) (fun e4 => ?_)
                            · have h := h.1 (not_t e4)
                              exact h
                            · have h := h.2 (not_f e4)
                              obtain ⟨a1, a0, h⟩ := h
                              try rw [w64 a1 a0]
                              obtain ⟨i1, hk, h⟩ := h
                              exact ⟨i1, hk, h⟩
                          · have h := h.2 (beq_f ec)
                            refine h.mono fun jx kn h => ?_
                            obtain ⟨bg, he, h⟩ := h
                            refine ⟨bg, he, ?_⟩
                            refine bif_of (fun d8 => ?_) (fun d8 => ?_)
                            · have h := h.1 (not_t d8)
                              exact h
                            · have h := h.2 (not_f d8)
                              obtain ⟨a1, a0, h⟩ := h
                              try rw [w64 a1 a0]
                              obtain ⟨gz, hk, h⟩ := h
                              exact ⟨gz, hk, h⟩
                  · have h := h.2 (beq_f ih)
                    refine bif_of (fun ei => ?_) (fun ei => ?_)
                    · have h := h.1 (beq_t ei)
                      refine h.mono fun jo km h => ?_
                      obtain ⟨ae, he, h⟩ := h
                      refine ⟨ae, he, ?_⟩
                      refine bif_of (fun dv => ?_) (fun dv => ?_)
                      · have h := h.1 (bne_t dv)
                        exact h
                      · have h := h.2 (bne_f dv)
                        refine h.mono fun jp ki h => ?_
                        obtain ⟨d1, he, h⟩ := h
                        refine ⟨d1, he, ?_⟩
                        refine bif_of (fun d6 => ?_) (fun d6 => ?_)
                        · have h := h.1 (not_t d6)
                          obtain ⟨a1, a0, h⟩ := h
                          try rw [w64 a1 a0]
                          obtain ⟨gv, hk, h⟩ := h
                          exact ⟨gv, hk, h⟩
                        · have h := h.2 (not_f d6)
                          refine elim_some a2 ?_
                          obtain ⟨a4, a3, h⟩ := h
                          refine ⟨a4, a3, ?_⟩
                          obtain ⟨c8, c0, ci, f7, h⟩ := h
                          refine ⟨c8, c0, ci, f7, ?_⟩
                          refine h.mono fun ja jm h => ?_
                          obtain ⟨a7, he, h⟩ := h
                          refine ⟨a7, he, ?_⟩
                          refine h.mono fun jj c4 h => ?_
                          obtain ⟨ce, av, ag, al, bz, he, h⟩ := h
                          refine ⟨ce, av, ag, al, bz, he, ?_⟩
                          refine bif_of (fun dt => ?_) (fun dt => ?_)
                          · have h := h.1 (bne_t dt)
                            exact h
                          · have h := h.2 (bne_f dt)
                            obtain ⟨a1, a0, h⟩ := h
                            try rw [w64 a1 a0]
                            refine bif_of (fun e6 => ?_) (fun e6 => ?_)
                            · have h := h.1 (beq_t e6)
                              refine elim_some a2 ?_
                              obtain ⟨a4, a3, h⟩ := h
                              refine ⟨a4, a3, ?_⟩
                              obtain ⟨f3, f5, em, f9, h⟩ := h
                              refine ⟨f3, f5, em, f9, ?_⟩
                              refine thenW_in fun gf e2 => ?_
                              have h := h gf c4.heap.size ((Ext.refl no c4).x_alloc e2) (Blk.of_new e2) ((Ext.refl no c4)).size (size_lt_alloc e2)
                              obtain ⟨fp, g3, gc, ey, hr, h⟩ := h
                              refine ⟨fp, g3, gc, ey, hr, ?_⟩
                              refine h.mono fun jy kd h => ?_
                              obtain ⟨c1, he, h⟩ := h
                              refine ⟨c1, he, ?_⟩
                              refine bif_of (fun d7 => ?_) (fun d7 => ?_)
                              · have h := h.1 (not_t d7)
                                exact h
                              · have h := h.2 (not_f d7)
                                obtain ⟨a1, a0, h⟩ := h
                                try rw [w64 a1 a0]
                                obtain ⟨j5, hk, h⟩ := h
                                exact ⟨j5, hk, h⟩
                            · have h := h.2 (beq_f e6)
                              refine h.mono fun kl jf h => ?_
                              obtain ⟨bf, he, h⟩ := h
                              refine ⟨bf, he, ?_⟩
                              refine bif_of (fun dn => ?_) (fun dn => ?_)
                              · have h := h.1 (not_t dn)
                                exact h
                              · have h := h.2 (not_f dn)
                                obtain ⟨a1, a0, h⟩ := h
                                try rw [w64 a1 a0]
                                obtain ⟨j4, hk, h⟩ := h
                                exact ⟨j4, hk, h⟩
                    · have h := h.2 (beq_f ei)
                      exact h
              · have h := h.2 (Int.not_le.1 (of_decide_eq_false gp))
                refine h.mono fun jw jg h => ?_
                obtain ⟨cw, he, h⟩ := h
                refine ⟨cw, he, ?_⟩
                refine elim_some a2 ?_
                obtain ⟨a4, a3, h⟩ := h
                refine ⟨a4, a3, ?_⟩
                obtain ⟨fb, fv, ft, g0, h⟩ := h
                refine ⟨fb, fv, ft, g0, ?_⟩
                refine h.mono fun k3 ab h => ?_
                obtain ⟨af, he, h⟩ := h
                refine ⟨af, he, ?_⟩
                refine bif_of (fun dx => ?_) (fun dx => ?_)
                · have h := h.1 (beq_t dx)
                  refine elim_some a2 ?_
                  obtain ⟨a4, a3, h⟩ := h
                  refine ⟨a4, a3, ?_⟩
                  obtain ⟨fk, en, ej, ge, h⟩ := h
                  refine ⟨fk, en, ej, ge, ?_⟩
                  refine thenW_in fun g7 dz => ?_
                  have h := h g7 ab.heap.size ((Ext.refl no ab).x_alloc dz) (Blk.of_new dz) ((Ext.refl no ab)).size (size_lt_alloc dz)
                  obtain ⟨ga, g4, es, fz, hr, h⟩ := h
                  refine ⟨ga, g4, es, fz, hr, ?_⟩
                  refine h.mono fun je kg h => ?_
                  obtain ⟨cy, he, h⟩ := h
                  refine ⟨cy, he, ?_⟩
                  refine bif_of (fun dg => ?_) (fun dg => ?_)
                  · have h := h.1 (not_t dg)
                    obtain ⟨a1, a0, h⟩ := h
                    try rw [w64 a1 a0]
                    obtain ⟨i7, hk, h⟩ := h
                    exact ⟨i7, hk, h⟩
                  · have h := h.2 (not_f dg)
                    refine elim_some a2 ?_
                    obtain ⟨a4, a3, h⟩ := h
                    refine ⟨a4, a3, ?_⟩
                    obtain ⟨b2, be, bo, f1, h⟩ := h
                    refine ⟨b2, be, bo, f1, ?_⟩
                    refine h.mono fun k7 jb h => ?_
                    obtain ⟨aa, he, h⟩ := h
                    refine ⟨aa, he, ?_⟩
                    refine h.mono fun ko cd h => ?_
                    obtain ⟨b8, an, ao, aq, bp, he, h⟩ := h
                    refine ⟨b8, an, ao, aq, bp, he, ?_⟩
                    refine bif_of (fun dy => ?_) (fun dy => ?_)
                    · have h := h.1 (bne_t dy)
                      exact h
                    · have h := h.2 (bne_f dy)
                      obtain ⟨a1, a0, h⟩ := h
                      try rw [w64 a1 a0]
                      refine bif_of (fun da => ?_) (fun da => ?_)
                      · have h := h.1 (beq_t da)
                        refine elim_some a2 ?_
                        obtain ⟨a4, a3, h⟩ := h
                        refine ⟨a4, a3, ?_⟩
                        obtain ⟨fr, gg, fx, f0, h⟩ := h
                        refine ⟨fr, gg, fx, f0, ?_⟩
                        refine thenW_in fun fl dw => ?_
                        have h := h fl cd.heap.size ((Ext.refl no cd).x_alloc dw) (Blk.of_new dw) ((Ext.refl no cd)).size (size_lt_alloc dw)
                        obtain ⟨g6, ex, g2, ew, hr, h⟩ := h
                        refine ⟨g6, ex, g2, ew, hr, ?_⟩
                        refine h.mono fun kw k0 h => ?_
                        obtain ⟨c2, he, h⟩ := h
                        refine ⟨c2, he, ?_⟩
                        refine bif_of (fun dr => ?_) (fun dr => ?_)
                        · have h := h.1 (not_t dr)
                          exact h
                        · have h := h.2 (not_f dr)
                          obtain ⟨a1, a0, h⟩ := h
                          try rw [w64 a1 a0]
                          obtain ⟨it, hk, h⟩ := h
                          exact ⟨it, hk, h⟩
                      · have h := h.2 (beq_f da)
                        refine h.mono fun jz jl h => ?_
                        obtain ⟨bk, he, h⟩ := h
                        refine ⟨bk, he, ?_⟩
                        refine bif_of (fun dq => ?_) (fun dq => ?_)
                        · have h := h.1 (not_t dq)
                          exact h
                        · have h := h.2 (not_f dq)
                          obtain ⟨a1, a0, h⟩ := h
                          try rw [w64 a1 a0]
                          obtain ⟨iv, hk, h⟩ := h
                          exact ⟨iv, hk, h⟩
                · have h := h.2 (beq_f dx)
                  refine bif_of (fun eb => ?_) (fun eb => ?_)
                  · have h := h.1 (beq_t eb)
                    refine elim_some a2 ?_
                    obtain ⟨a4, a3, h⟩ := h
                    refine ⟨a4, a3, ?_⟩
                    obtain ⟨fg, bn, fc, eq, h⟩ := h
                    refine ⟨fg, bn, fc, eq, ?_⟩
                    refine (journal_Parts.pure (bn : Int)).mono fun ee ww220 ⟨he, hxx⟩ => ⟨(journal_Parts.F (bn : Int)), he, ?_⟩
                    have d5 := (Ext.refl no ab).trans hxx
                    refine bif_of (fun e3 => ?_) (fun e3 => ?_)
                    · have h := h.1 (of_decide_eq_true e3)
                      have h := h ww220 d5
                      exact h
                    · have h := h.2 (Int.not_le.1 (of_decide_eq_false e3))
                      have h := h ww220 d5
                      refine h.mono fun jv k1 h => ?_
                      obtain ⟨ck, he, h⟩ := h
                      refine ⟨ck, he, ?_⟩
                      refine bif_of (fun di => ?_) (fun di => ?_)
                      · have h := h.1 (not_t di)
                        obtain ⟨a1, a0, h⟩ := h
                        try rw [w64 a1 a0]
                        obtain ⟨j0, hk, h⟩ := h
                        exact ⟨j0, hk, h⟩
                      · have h := h.2 (not_f di)
                        refine elim_some a2 ?_
                        obtain ⟨a4, a3, h⟩ := h
                        refine ⟨a4, a3, ?_⟩
                        obtain ⟨br, bb, ch, g5, h⟩ := h
                        refine ⟨br, bb, ch, g5, ?_⟩
                        refine h.mono fun jq jr h => ?_
                        obtain ⟨a6, he, h⟩ := h
                        refine ⟨a6, he, ?_⟩
                        refine h.mono fun k6 bm h => ?_
                        obtain ⟨b4, ac, az, am, b6, he, h⟩ := h
                        refine ⟨b4, ac, az, am, b6, he, ?_⟩
                        refine bif_of (fun dc => ?_) (fun dc => ?_)
                        · have h := h.1 (bne_t dc)
                          exact h
                        · have h := h.2 (bne_f dc)
                          obtain ⟨a1, a0, h⟩ := h
                          try rw [w64 a1 a0]
                          refine bif_of (fun e5 => ?_) (fun e5 => ?_)
                          · have h := h.1 (beq_t e5)
                            refine elim_some a2 ?_
                            obtain ⟨a4, a3, h⟩ := h
                            refine ⟨a4, a3, ?_⟩
                            obtain ⟨fe, g8, ep, gd, h⟩ := h
                            refine ⟨fe, g8, ep, gd, ?_⟩
                            refine thenW_in fun fo dk => ?_
                            have h := h fo bm.heap.size ((Ext.refl no bm).x_alloc dk) (Blk.of_new dk) ((Ext.refl no bm)).size (size_lt_alloc dk)
                            obtain ⟨f6, fa, fm, f8, hr, h⟩ := h
                            refine ⟨f6, fa, fm, f8, hr, ?_⟩
                            refine h.mono fun kf jk h => ?_
                            obtain ⟨b1, he, h⟩ := h
                            refine ⟨b1, he, ?_⟩
                            refine bif_of (fun eg => ?_) (fun eg => ?_)
                            · have h := h.1 (not_t eg)
                              exact h
                            · have h := h.2 (not_f eg)
                              obtain ⟨a1, a0, h⟩ := h
                              try rw [w64 a1 a0]
                              obtain ⟨i5, hk, h⟩ := h
                              exact ⟨i5, hk, h⟩
                          · have h := h.2 (beq_f e5)
                            refine h.mono fun kp ju h => ?_
                            obtain ⟨c6, he, h⟩ := h
                            refine ⟨c6, he, ?_⟩
                            refine bif_of (fun dh => ?_) (fun dh => ?_)
                            · have h := h.1 (not_t dh)
                              exact h
                            · have h := h.2 (not_f dh)
                              obtain ⟨a1, a0, h⟩ := h
                              try rw [w64 a1 a0]
                              obtain ⟨j2, hk, h⟩ := h
                              exact ⟨j2, hk, h⟩
                  · have h := h.2 (beq_f eb)
                    refine bif_of (fun dp => ?_) (fun dp => ?_)
                    · have h := h.1 (beq_t dp)
                      refine h.mono fun js ji h => ?_
                      obtain ⟨ai, he, h⟩ := h
                      refine ⟨ai, he, ?_⟩
                      refine bif_of (fun dl => ?_) (fun dl => ?_)
                      · have h := h.1 (bne_t dl)
                        exact h
                      · have h := h.2 (bne_f dl)
                        refine h.mono fun kk ka h => ?_
                        obtain ⟨cu, he, h⟩ := h
                        refine ⟨cu, he, ?_⟩
                        refine bif_of (fun e0 => ?_) (fun e0 => ?_)
                        · have h := h.1 (not_t e0)
                          obtain ⟨a1, a0, h⟩ := h
                          try rw [w64 a1 a0]
                          obtain ⟨iu, hk, h⟩ := h
                          exact ⟨iu, hk, h⟩
                        · have h := h.2 (not_f e0)
                          refine elim_some a2 ?_
                          obtain ⟨a4, a3, h⟩ := h
                          refine ⟨a4, a3, ?_⟩
                          obtain ⟨b7, cc, bu, fu, h⟩ := h
                          refine ⟨b7, cc, bu, fu, ?_⟩
                          refine h.mono fun kj kh h => ?_
                          obtain ⟨a5, he, h⟩ := h
                          refine ⟨a5, he, ?_⟩
                          refine h.mono fun jn b9 h => ?_
                          obtain ⟨cg, ak, ay, au, b3, he, h⟩ := h
                          refine ⟨cg, ak, ay, au, b3, he, ?_⟩
                          refine bif_of (fun dd => ?_) (fun dd => ?_)
                          · have h := h.1 (bne_t dd)
                            exact h
                          · have h := h.2 (bne_f dd)
                            obtain ⟨a1, a0, h⟩ := h
                            try rw [w64 a1 a0]
                            refine bif_of (fun d9 => ?_) (fun d9 => ?_)
                            · have h := h.1 (beq_t d9)
                              refine elim_some a2 ?_
                              obtain ⟨a4, a3, h⟩ := h
                              refine ⟨a4, a3, ?_⟩
                              obtain ⟨eu, fq, et, f2, h⟩ := h
                              refine ⟨eu, fq, et, f2, ?_⟩
                              refine thenW_in fun el eh => ?_
                              have h := h el b9.heap.size ((Ext.refl no b9).x_alloc eh) (Blk.of_new eh) ((Ext.refl no b9)).size (size_lt_alloc eh)
                              obtain ⟨fw, f4, ez, fs, hr, h⟩ := h
                              refine ⟨fw, f4, ez, fs, hr, ?_⟩
                              refine h.mono fun k9 k5 h => ?_
                              obtain ⟨bi, he, h⟩ := h
                              refine ⟨bi, he, ?_⟩
                              refine bif_of (fun de => ?_) (fun de => ?_)
                              · have h := h.1 (not_t de)
                                exact h
                              · have h := h.2 (not_f de)
                                obtain ⟨a1, a0, h⟩ := h
                                try rw [w64 a1 a0]
                                obtain ⟨gm, hk, h⟩ := h
                                exact ⟨gm, hk, h⟩
                            · have h := h.2 (beq_f d9)
                              refine h.mono fun k2 ku h => ?_
                              obtain ⟨cf, he, h⟩ := h
                              refine ⟨cf, he, ?_⟩
                              refine bif_of (fun e9 => ?_) (fun e9 => ?_)
                              · have h := h.1 (not_t e9)
                                exact h
                              · have h := h.2 (not_f e9)
                                obtain ⟨a1, a0, h⟩ := h
                                try rw [w64 a1 a0]
                                obtain ⟨il, hk, h⟩ := h
                                exact ⟨il, hk, h⟩
                    · have h := h.2 (beq_f dp)
                      exact h
            · have h := h.2 (Int.not_lt.1 (of_decide_eq_false ib))
              refine h.mono fun kv jc h => ?_
              obtain ⟨cb, ar, ah, aj, bt, he, h⟩ := h
              refine ⟨cb, ar, ah, aj, bt, he, ?_⟩
              refine bif_of (fun e1 => ?_) (fun e1 => ?_)
              · have h := h.1 (beq_t e1)
                refine h.mono fun jh jd h => ?_
                obtain ⟨bl, he, h⟩ := h
                refine ⟨bl, he, ?_⟩
                refine bif_of (fun du => ?_) (fun du => ?_)
                · have h := h.1 du
                  refine h.mono fun kx kb h => ?_
                  obtain ⟨bd, he, h⟩ := h
                  refine ⟨bd, he, ?_⟩
                  exact h
                · have h := h.2 du
                  exact h
              · have h := h.2 (beq_f e1)
                exact h

theorem cachettelaw10_JournalCrash.go (a0 : Int) (a3 : Option Addr) (a2 : Nat) (a1 : Nat) {R : Value → World → Prop} {w : World} (h : cachettelaw10_JournalCrash.N a0 a3 a2 a1 R w) : Calls Try.prog 5 #[.int .i64 a0, .slice a3 a2 a1] w fun e w' => ∃ v, e = .returned v ∧ R v w' := cachettelaw10_JournalCrash.ok a0 a3 a2 a1 (cachettelaw10_JournalCrash.up a0 a3 a2 a1 h)
theorem cachettelaw10_JournalCrash.run (a0 : Int) (a3 : Option Addr) (a2 : Nat) (a1 : Nat) {V : Value} {Q : World → Prop} {w : World} (h : cachettelaw10_JournalCrash.N a0 a3 a2 a1 (fun v w' => v = V ∧ Q w') w) : Calls Try.prog 5 #[.int .i64 a0, .slice a3 a2 a1] w (Ret V Q) := (cachettelaw10_JournalCrash.go a0 a3 a2 a1 h).mono fun e w' ⟨v, he, hv, hq⟩ => ⟨by rw [he, hv], hq⟩

end Go.Proofs.Ytgcjipbahfpopaa

/- JournalOpens. -/
set_option linter.unusedVariables false
set_option linter.unusedSimpArgs false
set_option maxRecDepth 20000
set_option maxHeartbeats 4000000
namespace Go.Proofs.Ytgcjipbahfpopaa
open Go Go.Mx Go.Proofs
open W (OwnB GivesW)
theorem scan_short (gen : Nat) : ∀ (k : Nat) (L : List (List UInt8)) (q : Nat) (y : List UInt8), y ∈ (scanG gen k L q).1 → y.length ≤ 4000 := by
  intro k
  induction k with
  | zero => intro L q y hy; cases hy
  | succ k ih =>
    intro L q y hy
    unfold scanG at hy
    split at hy
    · cases hy
    · rename_i hne
      rcases List.mem_cons.1 hy with rfl | hy
      · by_cases hK : OKS L gen q
        · rw [standK_yes hK]; exact (frameK_zero hK.2.2.2.2).1
        · rw [standK_no hK] at hne; exact absurd rfl hne
      · exact ih _ _ _ hy
section
variable {w w' w1 : World} {o o' o1 : Own} {q g n N m : Nat} {K : Nat → Prop} {b s : List UInt8} {a : Option Addr} {c : Nat} {l : List BS} {d : DS} {J : JS}
end
end Go.Proofs.Ytgcjipbahfpopaa

/- Journal: plainly: what stands behind a crash in an append's midst. -/
set_option linter.unusedVariables false
set_option linter.unusedSimpArgs false
set_option maxRecDepth 20000
set_option maxHeartbeats 2000000
namespace Go.Proofs.Ytgcjipbahfpopaa
open Go Go.Mx Go.Proofs
def mg (gen : Nat) (s : List UInt8) : Prop := s.length = 64 ∧ byteN s 0 = 197 ∧ numB s 1 = gen
theorem roundStep_ge (gen r : Nat) (s : List UInt8) : r ≤ roundStep gen r s := by
  unfold roundStep; split <;> omega
theorem roundOf_ge {gen : Nat} : ∀ (L : List (List UInt8)) (r : Nat), r ≤ L.foldl (roundStep gen) r ∧ ∀ s ∈ L, mg gen s → numB s 5 ≤ L.foldl (roundStep gen) r
  | [], r => ⟨Nat.le_refl _, fun s h => by cases h⟩
  | x :: l, r => by
    have ih := roundOf_ge (gen := gen) l (roundStep gen r x)
    have h1 := roundStep_ge gen r x
    refine ⟨Nat.le_trans h1 ih.1, fun s hs hm => ?_⟩
    rcases List.mem_cons.1 hs with rfl | hs
    · refine Nat.le_trans ?_ ih.1
      unfold roundStep
      rw [if_pos (show s.length = 64 ∧ byteN s 0 = 197 ∧ numB s 1 = gen from hm)]; omega
    · exact ih.2 s hs hm
theorem roundOf_le {gen B : Nat} : ∀ (L : List (List UInt8)) (r : Nat), r ≤ B → (∀ s ∈ L, mg gen s → numB s 5 ≤ B) → L.foldl (roundStep gen) r ≤ B
  | [], r, h, _ => h
  | x :: l, r, h, hs => by
    refine roundOf_le l (roundStep gen r x) ?_ fun s h => hs s (by simp [h])
    unfold roundStep
    split
    · rename_i hm
      have := hs x (by simp) hm
      omega
    · exact h
theorem frame_get {gen R seq t : Nat} {b : List UInt8} (h : t < (frameL gen R seq b).length) : (frameL gen R seq b)[t]? = some (secL gen R seq t (partsN b.length) (partL b t)) := by
  rw [frameL_len] at h
  unfold frameL
  rw [List.getElem?_map, List.getElem?_range h]; rfl
theorem sec_mg {gen R seq i n : Nat} {x : List UInt8} (hg : gen < 4294967296) (hx : x.length ≤ 48) : mg gen (secL gen R seq i n x) := ⟨secL_len _ _ _ _ _ hx, rfl, sec_gen _ _ _ _ _ _ hg⟩
section
variable {L L' : List (List UInt8)} {gen seq R T : Nat} {want : List (List UInt8)} {b : List UInt8}
theorem oks_mem (h : OKS L gen seq) (hg : gen < 4294967296) (hs : seq < 4294967296) : ∀ s ∈ L.take (cntK L), mg gen s ∧ numB s 9 = seq ∧ numB s 5 = numB (L.headD []) 5 := fun s hm => by
  obtain ⟨h1, h2, h3, h4, h5⟩ := h
  have hf := (frameK_zero h5).2.2.2.1
  rw [hf] at hm
  unfold frameL at hm
  obtain ⟨i, _, rfl⟩ := List.mem_map.1 hm
  exact ⟨sec_mg hg (partL_le _ _), sec_seq _ _ _ _ _ _ hs, sec_round _ _ _ _ _ _ (numB_lt _ _)⟩
theorem scan_none (k : Nat) (h : ¬ OKS L gen seq) : scanG gen k L seq = ([], 0) := by
  cases k with
  | zero => rfl
  | succ k => simp only [scanG, standK_no h, if_true]
theorem scan_stop (gen : Nat) : ∀ (k : Nat) (L : List (List UInt8)) (s : Nat), L.length < k → ¬ OKS (L.drop (scanG gen k L s).2) gen (s + (scanG gen k L s).1.length)
  | 0, L, s, h => by omega
  | k + 1, L, s, h => by
    by_cases hO : OKS L gen s
    · have hn : ¬ (standK L gen s).2 = 0 := by rw [standK_yes hO]; exact hO.cnt
      have hle := standK_le L gen s
      have ih := scan_stop gen k (L.drop (standK L gen s).2) (s + 1) (by rw [List.length_drop]; omega)
      simp only [scanG, if_neg hn, List.length_cons]
      rw [List.drop_drop] at ih
      rw [show s + ((scanG gen k (L.drop (standK L gen s).2) (s + 1)).1.length + 1) = s + 1 + (scanG gen k (L.drop (standK L gen s).2) (s + 1)).1.length by omega]
      exact ih
    · rw [scan_none _ hO]; exact hO
/-- a journal's sectors: what stands, and what is behind it. -/
structure JI (L : List (List UInt8)) (gen R : Nat) (want : List (List UInt8)) (T : Nat) : Prop where
  scan : (scanK L gen).1 = (want, T)
  seq : ∀ s ∈ L.drop T, mg gen s → numB s 9 ≤ want.length
  rnd : ∀ s ∈ L.drop T, mg gen s → numB s 5 < R
  all : ∀ s ∈ L, mg gen s → numB s 5 ≤ R
theorem JI.re (h : JI L gen R want T) : JI L gen (roundOf gen L + 1) want T :=
  ⟨h.scan, h.seq, fun s hs hm => Nat.lt_succ_of_le ((roundOf_ge L 0).2 s (List.mem_of_mem_drop hs) hm), fun s hs hm => Nat.le_succ_of_le ((roundOf_ge L 0).2 s hs hm)⟩
theorem JI.le (h : JI L gen R want T) : roundOf gen L ≤ R := roundOf_le L 0 (Nat.zero_le _) h.all
theorem JI.len (h : JI L gen R want T) : T ≤ L.length ∧ want.length ≤ T := by
  have h1 := scanG_le gen (L.length + 1) L 0
  have h2 : scanG gen (L.length + 1) L 0 = (want, T) := h.scan
  rw [h2] at h1
  exact h1
theorem JI.scanTo (h : JI L gen R want T) (hT : L'.take T = L.take T) (hl : L'.length = L.length) : (scanK L' gen).1 = (want ++ (scanG gen (L'.length + 1) (L'.drop T) want.length).1, T + (scanG gen (L'.length + 1) (L'.drop T) want.length).2) := by
  have h2 : scanG gen (L.length + 1) L 0 = (want, T) := h.scan
  have hm := scan_more gen (L.length + 1) L 0 (L'.length + 1) (L'.drop T)
  rw [h2, Nat.zero_add] at hm
  have e : L.take (want, T).2 ++ L'.drop T = L' := by
    show L.take T ++ L'.drop T = L'
    rw [← hT, List.take_append_drop]
  rw [e] at hm
  show scanG gen (L'.length + 1) L' 0 = _
  rw [scan_fuel gen (L'.length + 1) L' 0 ((want, T).1.length + (L'.length + 1)) (by omega) (by omega)]
  exact hm
theorem JI.app (h : JI L gen R want T) (hg : gen ≠ 0) (hg2 : gen < 4294967296) (hR : R ≠ 0) (hR2 : R < 4294967296) (hb : b.length ≤ 4000) (hw : want.length + 1 < 4294967296) (hfit : T + partsN b.length ≤ L.length)
    (hL : L' = L.take T ++ (frameL gen R want.length b ++ L.drop (T + partsN b.length))) : JI L' gen R (want ++ [b]) (T + partsN b.length) := by
  have hp := partsN_pos hb
  have hFl := frameL_len gen R want.length b
  have hl : L'.length = L.length := by
    rw [hL, List.length_append, List.length_append, List.length_take, List.length_drop, hFl]; omega
  have hTl : (L.take T).length = T := by rw [List.length_take]; omega
  have hT : L'.take T = L.take T := by
    rw [hL, List.take_append_of_le_length (by omega), List.take_of_length_le (by omega)]
  have hD : L'.drop T = frameL gen R want.length b ++ L.drop (T + partsN b.length) := by
    rw [hL, List.drop_append_of_le_length (by omega), List.drop_of_length_le (by omega), List.nil_append]
  have hD2 : L'.drop (T + partsN b.length) = L.drop (T + partsN b.length) := by
    rw [← List.drop_drop, hD, List.drop_append_of_le_length (by omega), List.drop_of_length_le (by omega), List.nil_append]
  have hin : ∀ s ∈ L.drop (T + partsN b.length), s ∈ L.drop T := fun s hs => by
    rw [← List.drop_drop] at hs
    exact List.mem_of_mem_drop hs
  have hno : ¬ OKS (L.drop (T + partsN b.length)) gen (want.length + 1) := fun hO => by
    obtain ⟨k1, k2, _⟩ := oks_mem hO hg2 hw _ hO.head
    have := h.seq _ (hin _ (List.mem_of_mem_take hO.head)) k1
    omega
  have hst := frame_stands (seq := want.length) hg hR hR2 hb (L.drop (T + partsN b.length))
  refine ⟨?_, ?_, ?_, ?_⟩
  · rw [h.scanTo hT hl, hD]
    simp only [scanG, hst, if_neg (show ¬ partsN b.length = 0 by omega)]
    rw [show (frameL gen R want.length b ++ L.drop (T + partsN b.length)).drop (partsN b.length) = L.drop (T + partsN b.length) from (by rw [List.drop_append_of_le_length (by omega), List.drop_of_length_le (by omega), List.nil_append]), scan_none _ hno]
    rfl
  · rw [hD2]
    intro s hs hm
    have := h.seq s (hin s hs) hm
    rw [List.length_append]; omega
  · rw [hD2]
    exact fun s hs hm => h.rnd s (hin s hs) hm
  · rw [hL]
    intro s hs hm
    rcases List.mem_append.1 hs with hs | hs
    · exact h.all s (List.mem_of_mem_take hs) hm
    · rcases List.mem_append.1 hs with hs | hs
      · unfold frameL at hs
        obtain ⟨i, _, rfl⟩ := List.mem_map.1 hs
        rw [sec_round _ _ _ _ _ _ hR2]; exact Nat.le_refl _
      · exact h.all s (List.mem_of_mem_drop hs) hm
/-- some of an append's sectors, others as they were, others unreadable. -/
def Mix (L L' : List (List UInt8)) (T : Nat) (F : List (List UInt8)) : Prop :=
  L'.length = L.length ∧ ∀ i : Nat, L'[i]? = L[i]? ∨ ∃ t, i = T + t ∧ t < F.length ∧ (L'[i]? = F[t]? ∨ L'[i]? = some [])
theorem nil_mg (gen : Nat) : ¬ mg gen [] := fun h => by cases h.1
theorem JI.crash (h : JI L gen R want T) (hg : gen ≠ 0) (hg2 : gen < 4294967296) (hR : R ≠ 0) (hR2 : R < 4294967296) (hb : b.length ≤ 4000) (hw : want.length + 1 < 4294967296) (hfit : T + partsN b.length ≤ L.length)
    (hM : Mix L L' T (frameL gen R want.length b)) : ∃ want2 T2, (want2 = want ∨ want2 = want ++ [b]) ∧ JI L' gen (roundOf gen L' + 1) want2 T2 ∧ roundOf gen L' ≤ R := by
  obtain ⟨hl, hM⟩ := hM
  have hp := partsN_pos hb
  have hFl := frameL_len gen R want.length b
  have hT : L'.take T = L.take T := by
    apply List.ext_getElem?
    intro i
    by_cases hi : i < T
    · rw [List.getElem?_take_of_lt hi, List.getElem?_take_of_lt hi]
      rcases hM i with e | ⟨t, ht, _⟩
      · exact e
      · omega
    · rw [List.getElem?_eq_none (by rw [List.length_take]; omega), List.getElem?_eq_none (by rw [List.length_take]; omega)]
  have hscan := h.scanTo hT hl
  have inD : ∀ {M : List (List UInt8)} {i : Nat} {s : List UInt8}, M[T + i]? = some s → s ∈ M.drop T := fun {M i s} e => List.mem_of_getElem? (i := i) (by rw [List.getElem?_drop]; exact e)
  by_cases hO : OKS (L'.drop T) gen want.length
  · have hmem := oks_mem hO hg2 (by omega)
    have hc := hO.cnt
    have hcl := hO.2.2.1
    -- each of its sectors
    have hat : ∀ i, i < cntK (L'.drop T) → ∃ s, L'[T + i]? = some s ∧ mg gen s ∧ numB s 9 = want.length ∧ numB s 5 = numB ((L'.drop T).headD []) 5 := fun i hi => by
      have h1 : (L'.drop T)[i]? = some ((L'.drop T)[i]'(by omega)) := List.getElem?_eq_getElem (by omega)
      obtain ⟨k1, k2, k3⟩ := hmem _ (mem_take_of hi h1)
      exact ⟨_, by rw [← List.getElem?_drop]; exact h1, k1, k2, k3⟩
    have hhead : L'[T]? = some ((L'.drop T).headD []) := by
      have h0 := hO.1
      have e : (L'.drop T)[0]? = L'[T]? := by rw [List.getElem?_drop, Nat.add_zero]
      rw [← e]
      cases hd : L'.drop T with
      | nil => exact absurd hd h0
      | cons x r => rfl
    obtain ⟨hm0, _, _⟩ := hmem _ hO.head
    -- an old one?
    have old : L'[T]? = L[T]? → False := fun e => by
      have hr := h.rnd _ (inD (i := 0) (by rw [Nat.add_zero, ← e]; exact hhead)) hm0
      have heq : (L'.drop T).take (cntK (L'.drop T)) = (L.drop T).take (cntK (L'.drop T)) := by
        apply List.ext_getElem?
        intro i
        by_cases hi : i < cntK (L'.drop T)
        · rw [List.getElem?_take_of_lt hi, List.getElem?_take_of_lt hi, List.getElem?_drop, List.getElem?_drop]
          obtain ⟨s, k0, k1, k2, k3⟩ := hat i hi
          rcases hM (T + i) with e | ⟨t, ht, htl, e | e⟩
          · exact e
          · rw [k0, frame_get htl] at e
            rw [Option.some.inj e, sec_round _ _ _ _ _ _ hR2] at k3
            omega
          · rw [k0] at e
            rw [Option.some.inj e] at k1
            exact absurd k1 (nil_mg gen)
        · rw [List.getElem?_eq_none (by rw [List.length_take]; omega), List.getElem?_eq_none (by rw [List.length_take]; omega)]
      have hst := stand_more hO ((L.drop T).drop (cntK (L'.drop T)))
      rw [heq, List.take_append_drop] at hst
      have hstop := scan_stop gen (L.length + 1) L 0 (by omega)
      have h2 : scanG gen (L.length + 1) L 0 = (want, T) := h.scan
      rw [h2, Nat.zero_add] at hstop
      rw [standK_no hstop, standK_yes hO] at hst
      exact hc (congrArg Prod.snd hst).symm
    rcases hM T with e | ⟨t, ht, htl, e | e⟩
    · exact (old e).elim
    · have ht0 : t = 0 := by omega
      subst ht0
      rw [hhead, frame_get htl] at e
      have e := Option.some.inj e
      have hn : cntK (L'.drop T) = partsN b.length := by
        unfold cntK
        rw [e]
        show (UInt8.ofNat (partsN b.length)).toNat = _
        have := partsN_le b.length
        rw [UInt8.toNat_ofNat']; omega
      have hrd : numB ((L'.drop T).headD []) 5 = R := by rw [e, sec_round _ _ _ _ _ _ hR2]
      have hL : L' = L.take T ++ (frameL gen R want.length b ++ L.drop (T + partsN b.length)) := by
        apply List.ext_getElem?
        intro i
        have hTl : (L.take T).length = T := by rw [List.length_take]; omega
        rw [List.getElem?_append, hTl, List.getElem?_append, hFl]
        by_cases h0 : i < T
        · rw [if_pos h0, ← hT, List.getElem?_take_of_lt h0]
        · rw [if_neg h0]
          by_cases h1 : i - T < partsN b.length
          · rw [if_pos h1]
            obtain ⟨s, k0, k1, k2, k3⟩ := hat (i - T) (by omega)
            rw [show T + (i - T) = i by omega] at k0
            rcases hM i with e | ⟨t, ht, htl, e | e⟩
            · have := h.rnd s (inD (i := i - T) (by rw [show T + (i - T) = i by omega, ← e]; exact k0)) k1
              omega
            · rw [e]; congr 1; omega
            · rw [k0] at e
              rw [Option.some.inj e] at k1
              exact absurd k1 (nil_mg gen)
          · rw [if_neg h1, List.getElem?_drop, show T + partsN b.length + (i - T - partsN b.length) = i by omega]
            rcases hM i with e | ⟨t, ht, htl, _⟩
            · exact e
            · omega
      have hA := h.app hg hg2 hR hR2 hb hw hfit hL
      exact ⟨_, _, .inr rfl, hA.re, hA.le⟩
    · rw [hhead] at e
      rw [Option.some.inj e] at hm0
      exact absurd hm0 (nil_mg gen)
  · have hall : ∀ {i : Nat} {s : List UInt8}, L'[i]? = some s → mg gen s → s ∈ L ∧ L[i]? = some s ∨ (numB s 9 = want.length ∧ numB s 5 = R) := fun {i s} e hm => by
      rcases hM i with e2 | ⟨t, ht, htl, e2 | e2⟩
      · rw [e] at e2
        exact .inl ⟨List.mem_of_getElem? e2.symm, e2.symm⟩
      · rw [e, frame_get htl] at e2
        rw [Option.some.inj e2]
        exact .inr ⟨sec_seq _ _ _ _ _ _ (by omega), sec_round _ _ _ _ _ _ hR2⟩
      · rw [e] at e2
        rw [Option.some.inj e2] at hm
        exact absurd hm (nil_mg gen)
    have hdrop : ∀ s ∈ L'.drop T, ∃ i : Nat, L'[T + i]? = some s := fun s hs => by
      obtain ⟨i, hi⟩ := List.mem_iff_getElem?.1 hs
      exact ⟨i, by rw [← List.getElem?_drop]; exact hi⟩
    have hJ : JI L' gen (R + 1) want T := by
      refine ⟨by rw [hscan, scan_none _ hO, List.append_nil]; rfl, fun s hs hm => ?_, fun s hs hm => ?_, fun s hs hm => ?_⟩
      · obtain ⟨i, hi⟩ := hdrop s hs
        rcases hall hi hm with ⟨_, e⟩ | ⟨e, _⟩
        · exact h.seq s (inD e) hm
        · omega
      · obtain ⟨i, hi⟩ := hdrop s hs
        rcases hall hi hm with ⟨k, _⟩ | ⟨_, e⟩
        · have := h.all s k hm; omega
        · omega
      · obtain ⟨i, hi⟩ := List.mem_iff_getElem?.1 hs
        rcases hall hi hm with ⟨k, _⟩ | ⟨_, e⟩
        · have := h.all s k hm; omega
        · omega
    have hle : roundOf gen L' ≤ R := roundOf_le L' 0 (Nat.zero_le _) fun s hs hm => by
      obtain ⟨i, hi⟩ := List.mem_iff_getElem?.1 hs
      rcases hall hi hm with ⟨k, _⟩ | ⟨_, e⟩
      · exact h.all s k hm
      · omega
    exact ⟨want, T, .inl rfl, hJ.re, hle⟩
end
end Go.Proofs.Ytgcjipbahfpopaa

/- Journal: plainly: an append on a disk that may go down in its midst. -/
set_option linter.unusedVariables false
set_option linter.unusedSimpArgs false
set_option maxRecDepth 20000
set_option maxHeartbeats 2000000
namespace Go.Proofs.Ytgcjipbahfpopaa
open Go Go.Mx Go.Proofs
theorem write_any {d : DS} (h : d.down = false) {i : Int} (h0 : 0 ≤ i) (h1 : i < d.good.length) {b : List UInt8} (hb : b.length = 64) :
    ((writeD d i b).2 = 0 ∧ (writeD d i b).1.down = false ∧ (writeD d i b).1.good = d.good ∧ (writeD d i b).1.pend = d.pend ++ [⟨i, ⟨b, false, hb⟩⟩]) ∨
    ((writeD d i b).2 = 19 ∧ (writeD d i b).1.down = true ∧ (writeD d i b).1.good = d.good ∧ (writeD d i b).1.pend = d.pend ++ [⟨i, ⟨b, true, hb⟩⟩]) := by
  unfold writeD
  rw [if_pos (hasD_up h h0 h1), dif_pos hb]
  split
  · split
    · exact .inr ⟨rfl, rfl, rfl, rfl⟩
    · exact .inl ⟨rfl, h, rfl, rfl⟩
  · exact .inl ⟨rfl, h, rfl, rfl⟩
theorem read_put {d d2 : DS} (h : d.down = false) (h2 : d2.down = false) {i : Int} (h0 : 0 ≤ i) (h1 : i < d.good.length) {b : List UInt8} (hb : b.length = 64) (hg : d2.good = d.good) (hp : d2.pend = d.pend ++ [⟨i, ⟨b, false, hb⟩⟩]) (j : Int) :
    readD d2 j = if j = i then (b, 0) else readD d j := by
  have hs : readS d2 j = if i = j then ⟨b, false, hb⟩ else readS d j := by
    unfold readS
    rw [hg, hp]
    exact lastP_snoc j _ _ _
  have hh : hasD d2 j = hasD d j := by unfold hasD; rw [h, h2, hg]
  unfold readD
  rw [hs, hh]
  by_cases e : j = i
  · subst e
    rw [if_pos (hasD_up h h0 h1), if_pos rfl, if_pos rfl]; rfl
  · rw [if_neg (show ¬ i = j from fun e2 => e e2.symm), if_neg e]
theorem sync_any {d : DS} (h : d.down = false) : (syncD d).2 = 0 ∧ (syncD d).1.down = false ∧ (syncD d).1.pend = [] ∧ (syncD d).1.good.length = d.good.length := by
  unfold syncD
  rw [h]
  exact ⟨rfl, h, rfl, settleL_len _ _ _ _⟩
theorem read_sync2 {m : Nat} {d : DS} (h : d.down = false) (ok : d.ok m) (j : Int) : readD (syncD d).1 j = readD d j := by
  have hh : hasD (syncD d).1 j = hasD d j := by
    unfold hasD
    rw [(sync_any h).2.1, h, (sync_any h).2.2.2]
  unfold readD
  rw [hh]
  by_cases e : hasD d j = 0
  · rw [if_pos e, if_pos e]
    have hr : 0 ≤ j ∧ j < d.good.length := by
      unfold hasD at e
      rw [h] at e
      rw [if_neg (by decide)] at e
      split at e
      · cases e
      · omega
    obtain ⟨k, rfl⟩ := Int.eq_ofNat_of_zero_le hr.1
    have hs : readS (syncD d).1 k = readS d k := by
      unfold syncD
      rw [h]
      show (settleL (fun _ => true) 0 d.good d.pend)[k]?.getD Sec.z = lastP k (d.good[k]?.getD Sec.z) d.pend
      exact settle_all _ _ _ (by omega) fun x hx => (ok.at_ x hx).1
    rw [hs]
  · rw [if_neg e, if_neg e]
theorem writes_any : ∀ (f : List (List UInt8)) (d : DS) (m : Nat) (i : Int), d.down = false → d.ok m → 0 ≤ i → i + f.length ≤ d.good.length → (∀ s ∈ f, s.length = 64) →
    (writesD d i f).1.good = d.good ∧ (((writesD d i f).2 = 0 ∧ (writesD d i f).1.down = false ∧ ∀ j : Int, readD (writesD d i f).1 j = if i ≤ j ∧ j < i + f.length then (f[(j - i).toNat]?.getD [], 0) else readD d j) ∨
      ((writesD d i f).2 = 19 ∧ (writesD d i f).1.down = true ∧ ∀ x ∈ (writesD d i f).1.pend, x ∈ d.pend ∨ ∃ t : Nat, t < f.length ∧ x.i = i + t ∧ f[t]? = some x.s.b))
  | [], d, m, i, h, ok, h0, h1, hs => ⟨rfl, .inl ⟨rfl, h, fun j => by
    rw [if_neg (by simp only [List.length_nil]; omega)]; rfl⟩⟩
  | x :: r, d, m, i, h, ok, h0, h1, hs => by
    rw [List.length_cons] at h1
    have hx : x.length = 64 := hs x (by simp)
    rcases write_any h h0 (by omega) hx with ⟨a1, a2, a3, a4⟩ | ⟨a1, a2, a3, a4⟩
    · have hd : writesD d i (x :: r) = writesD (writeD d i x).1 (i + 1) r := by
        rw [writesD, if_neg (not_not_intro a1)]
      rw [hd]
      obtain ⟨g, ih⟩ := writes_any r (writeD d i x).1 (m + 1) (i + 1) a2 (writeD_ok ok i x) (by omega) (by rw [a3]; omega) fun s hs' => hs s (by simp [hs'])
      refine ⟨g.trans a3, ?_⟩
      rcases ih with ⟨b1, b2, b3⟩ | ⟨b1, b2, b3⟩
      · refine .inl ⟨b1, b2, fun j => ?_⟩
        rw [b3 j, read_put h a2 h0 (by omega) hx a3 a4, List.length_cons]
        by_cases e : j = i
        · subst e
          rw [if_neg (by omega), if_pos rfl, if_pos (by omega), show (j - j).toNat = 0 by omega]; rfl
        · by_cases e2 : i + 1 ≤ j ∧ j < i + 1 + r.length
          · rw [if_pos e2, if_pos (by omega), show (j - i).toNat = (j - (i + 1)).toNat + 1 by omega, List.getElem?_cons_succ]
          · rw [if_neg e2, if_neg e, if_neg (by omega)]
      · refine .inr ⟨b1, b2, fun y hy => ?_⟩
        rcases b3 y hy with hy | ⟨t, t1, t2, t3⟩
        · rw [a4] at hy
          rcases List.mem_append.1 hy with hy | hy
          · exact .inl hy
          · rw [List.mem_singleton.1 hy]
            exact .inr ⟨0, by simp, by show i = i + ((0 : Nat) : Int); omega, rfl⟩
        · exact .inr ⟨t + 1, by rw [List.length_cons]; omega, by omega, t3⟩
    · have hd : writesD d i (x :: r) = writeD d i x := by
        rw [writesD, if_pos (by rw [a1]; decide)]
      rw [hd]
      refine ⟨a3, .inr ⟨a1, a2, fun y hy => ?_⟩⟩
      rw [a4] at hy
      rcases List.mem_append.1 hy with hy | hy
      · exact .inl hy
      · rw [List.mem_singleton.1 hy]
        exact .inr ⟨0, by simp, by show i = i + ((0 : Nat) : Int); omega, rfl⟩
theorem settle_some (k : Nat → Bool) {j : Nat} : ∀ (l : List Wt) (t : Nat) (gl : List Sec), (settleL k t gl l)[j]? = gl[j]? ∨ ∃ x ∈ l, x.i.toNat = j ∧ (settleL k t gl l)[j]? = some x.s
  | [], _, _ => .inl rfl
  | x :: r, t, gl => by
    rw [settleL]
    rcases settle_some k r (t + 1) (if k t then gl.set x.i.toNat x.s else gl) with e | ⟨y, hy, h1, h2⟩
    · rw [e]
      split
      · by_cases hx : x.i.toNat = j
        · by_cases hj : j < gl.length
          · exact .inr ⟨x, by simp, hx, by rw [hx]; exact List.getElem?_set_self hj⟩
          · left
            rw [List.getElem?_eq_none (by rw [List.length_set]; omega), List.getElem?_eq_none (by omega)]
        · exact .inl (List.getElem?_set_ne hx)
      · exact .inl rfl
    · exact .inr ⟨y, by simp [hy], h1, h2⟩
/-- an append: as a whole, or in its midst the disk went down. -/
theorem append_any {d : DS} {m : Nat} {J : JS} {b : List UInt8} (h : d.down = false) (hp0 : d.pend = []) (ok : d.ok m) (hJ : J.ok) (hgen : J.gen ≠ 0) (hro : J.round ≠ 0) (hd : J.dead = false) (hb : b.length ≤ 4000)
    (hfit : J.tail + partsN b.length ≤ J.size) (hdisk : J.base + J.size ≤ d.good.length) {size T : Nat} (hsz : (size : Int) = J.size) (hT : (T : Int) = J.tail) :
    (appendJ d J b).1.1.good.length = d.good.length ∧
    (((appendJ d J b).2 = 0 ∧ (appendJ d J b).1.1.down = false ∧ (appendJ d J b).1.1.pend = [] ∧ (appendJ d J b).1.2 = { J with tail := J.tail + partsN b.length, seq := J.seq + 1 } ∧
      readsD (appendJ d J b).1.1 J.base.toNat size = (readsD d J.base.toNat size).take T ++ (frameL J.gen J.round J.seq.toNat b ++ (readsD d J.base.toNat size).drop (T + partsN b.length))) ∨
    ((appendJ d J b).2 = 19 ∧ (appendJ d J b).1.1.down = true ∧ (appendJ d J b).1.2 = { J with dead := true } ∧ ∀ keep, Mix (readsD d J.base.toNat size) (readsD (restartD (appendJ d J b).1.1 keep) J.base.toNat size) T (frameL J.gen J.round J.seq.toNat b))) := by
  have hp := partsN_pos hb
  obtain ⟨⟨hb0, hb1⟩, ⟨hs0, hs1⟩, hgen2, hrd, ⟨ht0, ht1⟩, ⟨hq0, hq1⟩⟩ := hJ
  have hF : appendF J b = frameL J.gen J.round J.seq.toNat b := by
    unfold appendF frameK
    rw [if_neg (by omega), if_neg (by omega)]
  have hFl : (appendF J b).length = partsN b.length := by rw [hF, frameL_len]
  have hF64 : ∀ s ∈ appendF J b, s.length = 64 := fun s hs => by rw [hF] at hs; exact (sec_mark hs).2
  obtain ⟨wg, hcase⟩ := writes_any (appendF J b) d m (J.base + J.tail) h ok (by omega) (by rw [hFl]; omega) hF64
  have wok := writesD_ok (f := appendF J b) (i := J.base + J.tail) ok
  rcases hcase with ⟨w0, wd, wr⟩ | ⟨w0, wd, wp⟩
  · obtain ⟨s0, sd, sp, sl⟩ := sync_any wd
    have hA : appendJ d J b = (((syncD (writesD d (J.base + J.tail) (appendF J b)).1).1, { J with tail := J.tail + partsN b.length, seq := J.seq + 1 }), 0) := by
      unfold appendJ
      rw [if_neg (by omega), if_neg (by rw [hd]; decide), if_neg (by omega), if_neg (not_not_intro w0), if_neg (not_not_intro s0)]
    rw [hA]
    refine ⟨sl.trans (by rw [wg]), .inl ⟨rfl, sd, sp, rfl, ?_⟩⟩
    rw [← hF, ← hFl]
    refine reads_cut (by rw [hFl]; omega) fun j => ?_
    show (readD (syncD (writesD d (J.base + J.tail) (appendF J b)).1).1 j).1 = _
    rw [read_sync2 wd wok, wr, show ((J.base.toNat : Int)) = J.base by omega, hT]
    split <;> rfl
  · have hA : appendJ d J b = (((writesD d (J.base + J.tail) (appendF J b)).1, { J with dead := true }), 19) := by
      unfold appendJ
      rw [if_neg (by omega), if_neg (by rw [hd]; decide), if_neg (by omega), if_pos (by rw [w0]; decide), w0]
    rw [hA]
    refine ⟨by show (writesD d (J.base + J.tail) (appendF J b)).1.good.length = _; rw [wg], .inr ⟨rfl, wd, rfl, fun keep => ⟨by rw [readsD_len, readsD_len], fun i => ?_⟩⟩⟩
    rw [reads_get, reads_get]
    by_cases hi : i < size
    · rw [if_pos hi, if_pos hi, show ((J.base.toNat : Int)) = J.base by omega]
      obtain ⟨D, hD⟩ : ∃ D, restartD (writesD d (J.base + J.tail) (appendF J b)).1 keep = D := ⟨_, rfl⟩
      have hDg : D.good = settleL (keepF keep) 0 d.good (writesD d (J.base + J.tail) (appendF J b)).1.pend := by rw [← hD, ← wg]; rfl
      have hDp : D.pend = [] := by rw [← hD]; rfl
      have hDd : D.down = false := by rw [← hD]; rfl
      rw [hD]
      have hDl : D.good.length = d.good.length := by rw [hDg]; exact settleL_len _ _ _ _
      have hh : hasD D (J.base + i) = 0 := hasD_up hDd (by omega) (by omega)
      have hh2 : hasD d (J.base + i) = 0 := hasD_up h (by omega) (by omega)
      have hS : readS D (J.base + i) = D.good[(J.base + (i : Int)).toNat]?.getD Sec.z := by unfold readS; rw [hDp]; rfl
      have hS2 : readS d (J.base + i) = d.good[(J.base + (i : Int)).toNat]?.getD Sec.z := by unfold readS; rw [hp0]; rfl
      unfold readD
      rw [if_pos hh, if_pos hh2, hS, hS2, hDg]
      rcases settle_some (keepF keep) (j := (J.base + (i : Int)).toNat) (writesD d (J.base + J.tail) (appendF J b)).1.pend 0 d.good with e | ⟨x, hx, x1, x2⟩
      · rw [e]; exact .inl rfl
      · rcases wp x hx with hx | ⟨t, t1, t2, t3⟩
        · rw [hp0] at hx; cases hx
        · rw [x2]
          refine .inr ⟨t, by omega, by rw [← hF]; exact t1, ?_⟩
          show (some (if x.s.torn = true then ([], (5 : Int)) else (x.s.b, 0)).1 = _) ∨ (some (if x.s.torn = true then ([], (5 : Int)) else (x.s.b, 0)).1 = _)
          rw [← hF, t3]
          cases x.s.torn
          · exact .inl rfl
          · exact .inr rfl
    · rw [if_neg hi, if_neg hi]; exact .inl rfl
end Go.Proofs.Ytgcjipbahfpopaa

/- JournalCrash, plainly: a journal through appends and crashes. -/
set_option linter.unusedVariables false
set_option linter.unusedSimpArgs false
set_option maxRecDepth 20000
set_option maxHeartbeats 2000000
namespace Go.Proofs.Ytgcjipbahfpopaa
open Go Go.Mx Go.Proofs
theorem JI.blank {L : List (List UInt8)} {gen R : Nat} (hg : gen < 4294967296) (h : ∀ s ∈ L, ¬ mg gen s) : JI L gen R [] 0 := by
  refine ⟨?_, fun s hs hm => absurd hm (h s (List.mem_of_mem_drop hs)), fun s hs hm => absurd hm (h s (List.mem_of_mem_drop hs)), fun s hs hm => absurd hm (h s hs)⟩
  refine scan_none (L.length + 1) fun hO => ?_
  exact h _ (List.mem_of_mem_take hO.head) (oks_mem hO hg (by decide) _ hO.head).1
/-- a journal on a disk that is up, behind t acts. -/
structure CS (d : DS) (J : JS) (want : List (List UInt8)) (gen size T t : Nat) : Prop where
  down : d.down = false
  pend : d.pend = []
  ok : d.ok (100 * t)
  good : d.good.length = 60
  base : J.base = 0
  jsize : J.size = size
  jgen : J.gen = gen
  round : 1 ≤ J.round ∧ J.round ≤ t + 1
  tail : J.tail = T
  seq : J.seq = want.length
  dead : J.dead = false
  ji : JI (readsD d 0 size) gen J.round want T
  len : want.length ≤ t
section
variable {d : DS} {J : JS} {want : List (List UInt8)} {gen size T t : Nat} {b : List UInt8}
theorem CS.up (h : CS d J want gen size T t) : CS d J want gen size T (t + 1) :=
  ⟨h.down, h.pend, h.ok.up (by omega), h.good, h.base, h.jsize, h.jgen, ⟨h.round.1, Nat.le_succ_of_le h.round.2⟩, h.tail, h.seq, h.dead, h.ji, Nat.le_succ_of_le h.len⟩
theorem CS.tl (h : CS d J want gen size T t) : T ≤ size ∧ want.length ≤ T := by
  have := h.ji.len
  rw [readsD_len] at this
  exact this
theorem CS.jok (h : CS d J want gen size T t) (hg : gen < 4294967296) (hs : size ≤ 60) (ht : t ≤ 100) : J.ok := by
  have h1 := h.tl
  have h2 := h.round
  have h3 := h.base
  have h4 := h.jsize
  have h5 := h.jgen
  have h6 := h.tail
  have h7 := h.seq
  exact ⟨by omega, by omega, by omega, by omega, by omega, by omega⟩
theorem CS.arm (h : CS d J want gen size T t) {n : Int} (hn : 0 ≤ n) (hn2 : n < 9223372036854775808) : CS (armD d n).1 J want gen size T t ∧ (armD d n).2 = 0 := by
  have e : armD d n = ({ d with left := n, armed := true }, 0) := by
    unfold armD
    rw [h.down, if_neg (by decide), if_neg (by omega)]
  have ok := armD_ok (d := d) h.ok hn2
  rw [e] at ok ⊢
  exact ⟨⟨h.down, h.pend, ok, h.good, h.base, h.jsize, h.jgen, h.round, h.tail, h.seq, h.dead, h.ji, h.len⟩, rfl⟩
theorem open_up {d : DS} (hd : d.down = false) (hg : d.good.length = 60) (h1 : 1 ≤ size) (h2 : size ≤ 60) (h0 : gen ≠ 0) {R : Nat} (h : JI (readsD d 0 size) gen R want T) (hR : R < 4294967295) :
    openK d 0 size gen = (some ⟨0, size, gen, roundOf gen (readsD d 0 size) + 1, T, want.length, false⟩, want, 0) := by
  have hst : stretchK d 0 size gen = (readsD d 0 size, 0) := by
    unfold stretchK
    rw [if_neg (by omega), hd]; rfl
  have hr := h.le
  have hsc := h.scan
  have hrr : (scanK (readsD d 0 size) gen).2 = roundOf gen (readsD d 0 size) := rfl
  unfold openK
  rw [hst]
  rw [if_neg (show ¬ ((readsD d 0 size, (0 : Int)).2 ≠ 0) from not_not_intro rfl)]
  rw [if_neg (show ¬ (scanK (readsD d 0 size, (0 : Int)).1 gen).2 = 4294967295 from (by show ¬ roundOf gen (readsD d 0 size) = 4294967295; omega))]
  show (some (JS.mk 0 size gen (roundOf gen (readsD d 0 size) + 1) (((scanK (readsD d 0 size) gen).1.2 : Nat) : Int) (((scanK (readsD d 0 size) gen).1.1.length : Nat) : Int) false), (scanK (readsD d 0 size) gen).1.1, (0 : Int)) = _
  rw [hsc]
theorem CS.reopen (h : CS d J want gen size T t) (h1 : 1 ≤ size) (h2 : size ≤ 60) (h0 : gen ≠ 0) (ht : t ≤ 100) : (openK d 0 size gen).2 = (want, 0) := by
  rw [open_up h.down h.good h1 h2 h0 h.ji (by have := h.round; omega)]
/-- an act. -/
theorem CS.act (h : CS d J want gen size T t) (h1 : 1 ≤ size) (h2 : size ≤ 60) (h0 : gen ≠ 0) (hg : gen < 4294967296) (ht : t ≤ 100) (hb : b.length ≤ 500) :
    ((appendJ d J b).2 = 0 ∧ CS (appendJ d J b).1.1 (appendJ d J b).1.2 (want ++ [b]) gen size (T + partsN b.length) (t + 1)) ∨
    ((appendJ d J b).2 = 18 ∧ (appendJ d J b).1 = (d, J) ∧ (size : Int) - T < partsN b.length) ∨
    ((appendJ d J b).2 = 19 ∧ (appendJ d J b).1.1.down = true ∧ (appendJ d J b).1.2.dead = true ∧ (appendJ d J b).1.2.ok ∧ (appendJ d J b).1.1.ok (100 * (t + 1)) ∧ ∀ keep, ∃ want2 T2 J2, (want2 = want ∨ want2 = want ++ [b]) ∧ openK (restartD (appendJ d J b).1.1 keep) 0 size gen = (some J2, want2, 0) ∧
      CS (restartD (appendJ d J b).1.1 keep) J2 want2 gen size T2 (t + 1)) := by
  have hj := h.jok hg h2 ht
  have hp := partsN_pos (n := b.length) (by omega)
  have htl := h.tl
  have hrd := h.round
  have hbs := h.base
  have hsz := h.jsize
  have hgn := h.jgen
  have hta := h.tail
  have hsq := h.seq
  have hgo := h.good
  have hln := h.len
  have kA := (appendJ_ok h.ok J b).up (n := 100 * (t + 1)) (by omega)
  by_cases hf : (partsN b.length : Int) ≤ (size : Int) - T
  · have hjb : J.base.toNat = 0 := by omega
    have hjq : J.seq.toNat = want.length := by omega
    obtain ⟨gl, hc⟩ := append_any h.down h.pend h.ok hj (by omega) (by omega) h.dead (b := b) (by omega) (by omega) (by omega) (size := size) (T := T) (by omega) (by omega)
    rw [hjb, hjq, hgn] at hc
    rcases hc with ⟨c1, c2, c3, c4, c5⟩ | ⟨c1, c2, c3, c4⟩
    · refine .inl ⟨c1, c2, c3, kA, gl.trans hgo, ?_, ?_, ?_, ?_, ?_, ?_, ?_, ?_, ?_⟩
      · rw [c4]; exact hbs
      · rw [c4]; exact hsz
      · rw [c4]
      · rw [c4]; exact ⟨hrd.1, by show J.round ≤ _; omega⟩
      · rw [c4]; show J.tail + (partsN b.length : Int) = ((T + partsN b.length : Nat) : Int); omega
      · rw [c4]; show J.seq + 1 = (((want ++ [b]).length : Nat) : Int); rw [List.length_append]; show J.seq + 1 = ((want.length + 1 : Nat) : Int); omega
      · rw [c4]; exact h.dead
      · rw [c4]
        exact h.ji.app h0 hg (by omega) (by omega) (by omega) (by omega) (by rw [readsD_len]; omega) c5
      · rw [List.length_append]; show want.length + 1 ≤ _; omega
    · refine .inr (.inr ⟨c1, c2, by rw [c3], by rw [c3, ← hgn]; exact ⟨hj.base, hj.size, hj.gen, hj.round, hj.tail, hj.seq⟩, kA, fun keep => ?_⟩)
      obtain ⟨w2, T2, hw, hji, hle⟩ := h.ji.crash h0 hg (by omega) (by omega) (by omega) (by omega) (by rw [readsD_len]; omega) (c4 keep)
      have rok := restartD_ok kA keep
      have hgl : (restartD (appendJ d J b).1.1 keep).good.length = 60 := by
        show (settleL _ 0 _ _).length = 60
        rw [settleL_len]; exact gl.trans hgo
      have hO := open_up (d := restartD (appendJ d J b).1.1 keep) rfl hgl h1 h2 h0 hji (by omega)
      refine ⟨w2, T2, _, hw, hO, ⟨rfl, rfl, rok, hgl, rfl, rfl, rfl, ⟨by show 1 ≤ roundOf _ _ + 1; omega, by show roundOf _ _ + 1 ≤ _; omega⟩, rfl, rfl, rfl, hji, ?_⟩⟩
      rcases hw with rfl | rfl
      · omega
      · rw [List.length_append]; show want.length + 1 ≤ _; omega
  · have e : appendJ d J b = ((d, J), 18) := by
      unfold appendJ
      rw [if_neg (by omega), h.dead, if_neg (by decide), if_pos (by omega)]
    rw [e]
    exact .inr (.inl ⟨rfl, rfl, by omega⟩)
end
theorem new_read (n : Nat) (i : Int) : (readD (newDS n) i).1 = List.replicate 64 0 ∨ (readD (newDS n) i).1 = [] := by
  have hs : readS (newDS n) i = Sec.z := by
    unfold readS newDS
    show ((List.replicate n Sec.z)[i.toNat]?).getD Sec.z = Sec.z
    rw [List.getElem?_replicate]
    split <;> rfl
  unfold readD
  rw [hs]
  split
  · exact .inl rfl
  · exact .inr rfl
theorem new_blank {size gen : Nat} : ∀ s ∈ readsD (newDS 60) 0 size, ¬ mg gen s := fun s hs hm => by
  unfold readsD at hs
  obtain ⟨i, _, rfl⟩ := List.mem_map.1 hs
  rcases new_read 60 (((0 : Nat) : Int) + (i : Int)) with e | e
  · rw [e] at hm
    have : (0 : Nat) = 197 := hm.2.1
    omega
  · rw [e] at hm
    exact nil_mg gen hm
theorem CS.new {size gen : Nat} (h1 : 1 ≤ size) (h2 : size ≤ 60) (h0 : gen ≠ 0) (hg : gen < 4294967296) : ∃ J, openK (newDS 60) 0 size gen = (some J, [], 0) ∧ CS (newDS 60) J [] gen size 0 0 := by
  have hji : JI (readsD (newDS 60) 0 size) gen 0 [] 0 := JI.blank hg new_blank
  have hgl : (newDS 60).good.length = 60 := by simp [newDS]
  refine ⟨_, open_up (d := newDS 60) rfl hgl h1 h2 h0 hji (by decide), ⟨rfl, rfl, newDS_ok (by decide) (by decide), hgl, rfl, rfl, rfl, ⟨?_, ?_⟩, rfl, rfl, rfl, hji.re, Nat.le_refl _⟩⟩
  · show 1 ≤ roundOf _ _ + 1; omega
  · show roundOf _ _ + 1 ≤ 0 + 1; have := hji.le; omega
end Go.Proofs.Ytgcjipbahfpopaa

/- JournalCrash: acts; a list of records that grows. -/
set_option linter.unusedVariables false
set_option linter.unusedSimpArgs false
set_option maxRecDepth 20000
set_option maxHeartbeats 4000000
namespace Go.Proofs.Ytgcjipbahfpopaa
open Go Go.Mx Go.Proofs
open W (OwnB GivesW)
structure AC where
  a : Option Addr
  c : Nat
  B : List UInt8
  armed : Int
  ka : Option Addr
  kc : Nat
  keep : List Bool
def AC.C (x : AC) : List Value := [.slice x.a x.B.length x.c, .int .i64 x.armed, .slice x.ka x.keep.length x.kc]
theorem AC.len (x : AC) : x.C.length = 3 := rfl
structure AC.good (W : World) (x : AC) : Prop where
  la : x.B.length ≤ x.c
  ra : RowAt W x.a (bytesV x.B)
  arm : x.armed < 9223372036854775808
  rk : RowAt W x.ka (boolsV x.keep)
theorem opens_act : Opens Try.prog 51 fun W cs => ∃ x : AC, cs = x.C ∧ x.good W :=
  (opens_seq (qs := [(1, _), (1, _), (1, _)]) (size := 3) Try.underlying51 (by kernel_rfl)
    ⟨⟨rfl, by kernel_rfl, opens_bytes Try.underlying23 (by kernel_rfl) Try.underlying5⟩, ⟨rfl, by kernel_rfl, opens_int Try.underlying3⟩, ⟨rfl, by kernel_rfl, opens_bools⟩, rfl⟩).mono
    fun W cs ⟨_, _, e0, _, ⟨aa, ac, A, q0, la, _, ra⟩, _, _, e1, _, ⟨n, q1, f1⟩, _, _, e2, _, ⟨ka, kc, keep, q2, lk, _, rk⟩, q3⟩ => by
      subst q0; subst q1; subst q2; subst q3; subst e2; subst e1; subst e0
      exact ⟨⟨aa, ac, A, n, ka, kc, keep⟩, rfl, la, ra, by simp [Lit.wf, IntKind.min, IntKind.max, IntKind.signed, IntKind.bits] at f1; show n < _; omega, rk⟩
def ACsQ (W : World) (cs : List Value) : Prop := ∃ (a : Option Addr) (c : Nat) (l : List AC), cs = [.slice a l.length c] ∧ l.length ≤ c ∧ c ≤ maxLen ∧ RowAt W a (l.flatMap AC.C) ∧ ∀ x ∈ l, x.good W
theorem opens_acts : Opens Try.prog 42 ACsQ := opens_rows (size := 3) Try.underlying42 (by kernel_rfl) opens_act
/-- a list of records of one owner. -/
structure WL (w : World) (o : Own) (k : Nat) (a : Option Addr) (c : Nat) (l : List BS) : Prop where
  row : Grows 23 1 w o k a l.length c (l.map BS.v)
  oks : ∀ x ∈ l, BSok w o x
theorem topX {K : Nat → Prop} {W w : World} {o : Own} (s : Step K W (fun _ => none) w o) : Ext no W w := s.ext.mono fun b ⟨_, h, _⟩ _ => by cases h
section
variable {w w' w1 : World} {o o' o1 : Own} {q g n N k : Nat} {K : Nat → Prop} {b s : List UInt8} {a : Option Addr} {c : Nat} {l : List BS}
theorem WL.nil (w : World) (o : Own) (k : Nat) : WL w o k none 0 [] := ⟨Grows.nil _ _ _ _ _, fun x h => (by cases h)⟩
theorem WL.step (h : WL w o k a c l) (s : Step K w o w' o') (hk : ¬ K k) : WL w' o' k a c l := ⟨h.row.step s hk, fun x hx => (h.oks x hx).step s⟩
theorem WL.push (h : WL w o k a c l) (ok : Tags w o) (hk : k < w.heap.size) (hl : l.length < 1000000) {x : BS} (hx : BSok w o x) {ww : World} {qq : Nat} (X : Ext no w ww) (hb : Blk ww qq 23 [x.v]) :
    ∃ a' c' w' o', (Builtin.append_ #[25, 25] 25 #[.slice a l.length c, .slice (some (blk qq)) 1 1]).run Try.prog ww = .ok (.slice a' (l ++ [x]).length c') w' ∧ Step (fun j => j = k) w o w' o' ∧ WL w' o' k a' c' (l ++ [x]) := by
  have s1 := Step.of_no X ok
  have hr := h.row.step s1 id
  obtain ⟨i, hi, hz, hsz, hby⟩ := info_of inf23
  obtain ⟨a', c', w', o', hrun, s2, hrow, _, _⟩ := hr.push (ty := 25) Try.underlying25 hi hz hsz hby rfl (by decide) s1.ok (Nat.lt_of_lt_of_le hk X.size) (xa := some (blk qq)) (m := 1) (xc := 1) (news := [x.v]) rfl (RowAt.of_blk hb) (fun u hu => by simp at hu; subst hu; rfl) (by omega) (by omega)
  refine ⟨a', c', w', o', by rw [List.length_append]; exact hrun, s1.none.trans s2, ⟨?_, fun y hy => ?_⟩⟩
  · rw [List.length_append, List.map_append]; exact hrow
  · rcases List.mem_append.1 hy with hy | hy
    · exact ((h.oks y hy).step s1).step s2
    · simp at hy; subst hy; exact (hx.step s1).step s2
def lightA (l : List AC) : Bool := decide (l.length ≤ 30) && l.all fun x => decide (x.B.length ≤ 500) && decide (x.keep.length ≤ 60)
theorem lightA_of {l : List AC} (h : lightA l = true) : l.length ≤ 30 ∧ ∀ x ∈ l, x.B.length ≤ 500 ∧ x.keep.length ≤ 60 := by
  unfold lightA at h
  simp only [Bool.and_eq_true, decide_eq_true_eq, List.all_eq_true] at h
  exact h
theorem lightActs_spec {la : Option Addr} {lc : Nat} {l : List AC} (hl : RowAt w la (l.flatMap AC.C)) : Calls Try.prog 18 #[.slice la l.length lc] w (Ret (.bool (lightA l)) fun w' => w' = w) := by
  refine cachettelaw10_lightActs.run _ _ _ ?_
  unfold cachettelaw10_lightActs.N
  refine ⟨fun h => ⟨by unfold lightA; rw [decide_eq_false (by omega)]; rfl, rfl⟩, fun h => ?_⟩
  have h40 : decide (l.length ≤ 30) = true := decide_eq_true (by omega)
  refine ⟨fun m vs w1 => ∃ t : Nat, vs = [.int .i64 t] ∧ m + t = l.length ∧ w1 = w ∧ ∀ i x, i < t → l[i]? = some x → x.B.length ≤ 500 ∧ x.keep.length ≤ 60, l.length, ⟨0, rfl, rfl, rfl, fun i x h => absurd h (by omega)⟩, ?_⟩
  rintro m w6 i ⟨t, hi, hm, rfl, hs⟩
  simp only [List.cons.injEq, Value.int.injEq, true_and, and_true] at hi
  subst hi
  refine ⟨fun ht => ?_, fun ht => ?_⟩
  · have htl : t < l.length := by omega
    have gt : l[t]? = some l[t] := List.getElem?_eq_getElem htl
    have hmt := List.getElem_mem htl
    obtain ⟨ad, rfl⟩ := hl.faddr AC.len (by decide) htl
    generalize l[t] = x at *
    have no : ¬ (x.B.length ≤ 500 ∧ x.keep.length ≤ 60) → Value.bool false = .bool (lightA l) := fun hb => by
      unfold lightA
      rw [h40, Bool.true_and]
      congr 1
      exact (List.all_eq_false.2 ⟨x, hmt, by simp only [Bool.and_eq_true, decide_eq_true_eq]; exact hb⟩).symm
    refine ⟨ad, rfl, by omega, by omega, x.a, x.B.length, x.c, by rw [Int.toNat_natCast]; exact hl.fcell AC.len gt 0 rfl, fun hb => ⟨no (by omega), rfl⟩, fun hb => ⟨by omega, by omega, x.ka, x.keep.length, x.kc, by rw [Int.toNat_natCast]; exact hl.fcell AC.len gt 2 rfl, fun hk => ⟨no (by omega), rfl⟩, fun hk => ⟨by omega, by omega, m - 1, by omega, t + 1, rfl, by omega, rfl, fun i y hi hy => ?_⟩⟩⟩
    by_cases hit : i = t
    · subst hit; rw [gt] at hy; cases hy; omega
    · exact hs i y (by omega) hy
  · refine ⟨?_, rfl⟩
    unfold lightA
    rw [h40, Bool.true_and]
    congr 1
    refine (List.all_eq_true.2 fun x hx => ?_).symm
    obtain ⟨i, hi⟩ := List.getElem?_of_mem hx
    have := hs i x (by have := (List.getElem?_eq_some_iff.1 hi).1; omega) hi
    simp only [Bool.and_eq_true, decide_eq_true_eq]; exact this
end
end Go.Proofs.Ytgcjipbahfpopaa

/- JournalCrash. -/
set_option linter.unusedVariables false
set_option linter.unusedSimpArgs false
set_option maxRecDepth 20000
set_option maxHeartbeats 8000000
namespace Go.Proofs.Ytgcjipbahfpopaa
open Go Go.Mx Go.Proofs
open W (OwnB GivesW)
theorem JI.short {L : List (List UInt8)} {gen R T : Nat} {want : List (List UInt8)} (h : JI L gen R want T) {y : List UInt8} (hy : y ∈ want) : y.length < 1000000 := by
  have hs : scanG gen (L.length + 1) L 0 = (want, T) := h.scan
  have := scan_short gen (L.length + 1) L 0 y (by rw [hs]; exact hy)
  omega
theorem dg_owner {w : World} {o : Own} {g : Nat} {d : DS} (h : DG w o g d) (hl : d.good ≠ []) : ∃ k, k ≠ g ∧ k < w.heap.size := by
  obtain ⟨⟨ga, gc, pa, pc, hb, hg, hp⟩, tg⟩ := h
  have hr := hg.row
  cases hd : d.good with
  | nil => exact absurd hd hl
  | cons x r =>
    rw [hd] at hr
    have hx : ∃ v, ((x :: r).flatMap Sec.C)[0]? = some v := by
      have : 0 < ((x :: r).flatMap Sec.C).length := by rw [List.flatMap_cons, List.length_append, x.len]; omega
      exact ⟨_, List.getElem?_eq_getElem this⟩
    obtain ⟨v, hv⟩ := hx
    obtain ⟨ad, ha, _⟩ := hr 0 v hv
    exact ⟨ad.block, hg.ne hb (by decide) ad ha, (hg.tg ad ha).2⟩
theorem dead_append {d : DS} {J : JS} (h : J.dead = true) : appendJ d J [] = ((d, J), 19) := by
  unfold appendJ
  rw [if_neg (by decide), if_pos h]
theorem JournalCrash_spec (W : World) {la : Option Addr} {lc : Nat} {l : List AC} {size : Int} (hl : RowAt W la (l.flatMap AC.C)) (hgd : ∀ x ∈ l, x.good W) :
    Calls Try.prog 5 #[.int .i64 size, .slice la l.length lc] W (Ret (.bool true) fun w' => Ext no W w') := by
  refine cachettelaw10_JournalCrash.run _ _ _ _ ?_
  unfold cachettelaw10_JournalCrash.N
  have hal : ∀ w1, Ext no W w1 → Calls Try.prog 8 #[] w1 fun ee w2 => ∃ b : Bool, ee = .returned (.bool b) ∧ Value.bool b = Value.bool true ∧ Ext no W w2 := fun w1 X =>
    (alive10_spec w1).mono fun v w2 ⟨hx, X2⟩ => ⟨_, hx, rfl, X.trans X2⟩
  refine ⟨fun _ => hal _ (Ext.refl _ _), fun hs1 => ⟨fun _ => hal _ (Ext.refl _ _), fun hs2 => ?_⟩⟩
  obtain ⟨sz, rfl⟩ := Int.eq_ofNat_of_zero_le (show 0 ≤ size by omega)
  refine (lightActs_spec hl).mono fun u w13 ⟨he, hw⟩ => ⟨_, he, fun _ => by subst hw; exact hal _ (Ext.refl _ _), fun hL => ?_⟩
  have hw' := hw.symm
  subst hw'
  obtain ⟨hL1, hL2⟩ := lightA_of hL
  have ok0 : Tags W (fun _ => none) := fun b j _ h => by cases h
  refine (dNew_spec (n := 60) ok0 (by decide) (by decide)).mono fun u w21 ⟨g, o21, he, hg21, s21, D21⟩ => ⟨_, _, he, ?_⟩
  have hg := D21.lt
  obtain ⟨k, hkg, hk⟩ := dg_owner D21 (by simp [newDS])
  obtain ⟨J0, hO, C0⟩ := CS.new (size := sz) (gen := 7) (by omega) (by omega) (by decide) (by decide)
  have O21 := Open_spec D21 s21.ok C0.ok (by omega) 0 sz 7
  rw [hO] at O21
  refine O21.mono fun u w26 ⟨o26, jp, ra, rc, r0, he, s26, hrm, _, _, hj⟩ => ⟨_, _, _, _, _, he, fun h => absurd rfl h, fun _ => ?_⟩
  obtain ⟨q0, rfl, hq0, JG0⟩ := hj J0 rfl
  have hr0 : r0.length = 0 := by have := congrArg List.length hrm; rwa [List.length_map] at this
  refine ⟨fun h => absurd (by omega) h, fun _ => ?_⟩
  have l26 := s26.size
  refine ⟨fun m vs w1 => ∃ (t : Nat) (o1 : Own) (d : DS) (J : JS) (q : Nat) (wa : Option Addr) (wc : Nat) (wl : List BS) (T : Nat), vs = [.pointer (some (blk q)), .slice wa wl.length wc, .int .i64 t] ∧ m + t = l.length ∧ Step (fun _ => True) W (fun _ => none) w1 o1 ∧ DG w1 o1 g d ∧ JG w1 o1 q g J ∧ WL w1 o1 k wa wc wl ∧ CS d J (wl.map BS.bs) 7 sz T t ∧ w21.heap.size ≤ q ∧ w21.heap.size ≤ w1.heap.size,
    l.length, ⟨0, o26, newDS 60, J0, q0, none, 0, [], 0, rfl, rfl, (s21.trans s26).mono fun _ h _ => h.elim, D21.step s26 id, JG0, WL.nil _ _ _, C0, hq0, l26⟩, ?_⟩
  rintro m w34 jv wva wvn wvc i ⟨t, oA, dA, J, q, wa, wc, wl, T, hi, hm, sA, DA, JA, LA, CA, hq, h21⟩
  simp only [List.cons.injEq, Value.slice.injEq, Value.pointer.injEq, Value.int.injEq, true_and, and_true] at hi
  obtain ⟨rfl, ⟨rfl, rfl, rfl⟩, rfl⟩ := hi
  refine ⟨fun ht => ?_, fun ht => ?_⟩
  · have htl : t < l.length := by omega
    have gt : l[t]? = some l[t] := List.getElem?_eq_getElem htl
    have hmt := List.getElem_mem htl
    obtain ⟨ad, rfl⟩ := hl.faddr AC.len (by decide) htl
    have hgx := hgd _ hmt
    obtain ⟨hB, hK⟩ := hL2 _ hmt
    generalize l[t] = x at *
    have cB : ∀ {w2 : World}, Ext no W w2 → w2.cell? ((ad.add (Int.toNat (t : Int) * 3)).add 0) = some (.slice x.a x.B.length x.c) := fun X => by rw [Int.toNat_natCast]; exact (hl.no X).fcell AC.len gt 0 rfl
    have cA : ∀ {w2 : World}, Ext no W w2 → w2.cell? ((ad.add (Int.toNat (t : Int) * 3)).add 1) = some (.int .i64 x.armed) := fun X => by rw [Int.toNat_natCast]; exact (hl.no X).fcell AC.len gt 1 rfl
    have cK : ∀ {w2 : World}, Ext no W w2 → w2.cell? ((ad.add (Int.toNat (t : Int) * 3)).add 2) = some (.slice x.ka x.keep.length x.kc) := fun X => by rw [Int.toNat_natCast]; exact (hl.no X).fcell AC.len gt 2 rfl
    have okB : ∀ {w2 : World} {o2 : Own}, Step (fun _ => True) W (fun _ => none) w2 o2 → BSok w2 o2 ⟨x.a, x.c, x.B⟩ := fun s => ⟨⟨hgx.ra.no (topX s), fun h0 ad ha => s.same _ (hgx.ra.lt h0 ha)⟩, hgx.la⟩
    have okK : ∀ {w2 : World} {o2 : Own}, Step (fun _ => True) W (fun _ => none) w2 o2 → Row w2 o2 x.ka (boolsV x.keep) := fun s => ⟨hgx.rk.no (topX s), fun h0 ad ha => s.same _ (hgx.rk.lt h0 ha)⟩
    refine ⟨ad, rfl, by omega, by omega, x.armed, cA (topX sA), fun harm => ⟨by omega, by omega, x.armed, cA (topX sA), (Arm_spec DA sA.ok x.armed).mono fun u w44 ⟨he, o44, s44, D44⟩ => ⟨_, he, ?_⟩⟩, fun harm => ?_⟩
    · have sA := sA.trans (s44.mono fun _ _ _ => trivial)
      have JA := JA.step s44 (show ¬ q = g by omega)
      have LA := LA.step s44 hkg
      have h21 := Nat.le_trans h21 s44.size
      have CA := (CA.arm harm hgx.arm).1
      have DA := D44
      generalize (armD dA x.armed).1 = dA at *
      have jok := CA.jok (by decide) (by omega) (by omega)
      have hta := CA.tail
      have hsz := CA.jsize
      have hln := CA.len
      rw [List.length_map] at hln
      refine (jRoom_spec JA jok.tail.1 jok.tail.2 jok.size.1 jok.size.2).mono fun u w47 ⟨he, X47⟩ => ⟨_, he, by omega, by omega, x.a, x.B.length, x.c, cB ((topX sA).trans X47), ?_⟩
      have s47 := Step.of_no X47 sA.ok
      have sB := sA.trans (s47.mono fun _ h _ => h.elim)
      have hA2 := Append_spec (JA.step s47 id) (DA.step s47 id) s47.ok (show q ≠ g by omega) CA.ok (by omega) jok (okB sB).1.1 hgx.la (show x.B.length < 1000000 by omega)
      have act := CA.act (b := x.B) (by omega) (by omega) (by decide) (by decide) (by omega) hB
      obtain ⟨A, hA⟩ : ∃ A, appendJ dA J x.B = A := ⟨_, rfl⟩
      rw [hA] at hA2 act
      refine hA2.mono fun u w52 ⟨he, o52, s52, J52, D52⟩ => ⟨_, he, fun h0 => ?_, fun h0 => ⟨fun h18 => ?_, fun h18 => ⟨fun h19 => ?_, fun h19 => ?_⟩⟩⟩
      all_goals have sC := sB.trans (s52.mono fun _ _ _ => trivial)
      all_goals have XC := topX sC
      all_goals have L52 := (LA.step s47 id).step s52 (show ¬ (k = q ∨ k = g) by omega)
      all_goals have l52 := Nat.le_trans (Nat.le_trans h21 s47.size) s52.size
      · rcases act with ⟨_, C2⟩ | ⟨e, _⟩ | ⟨e, _⟩
        · refine ⟨by omega, by omega, x.a, x.B.length, x.c, cB XC, fun w56 q57 X56 hb57 hq57 hq57' => ?_⟩
          obtain ⟨a', c', w59, o59, hr, s59, L59⟩ := L52.push sC.ok (by omega) (by omega) (okB sC) X56 hb57
          have D59 := D52.step s59 (show ¬ g = k from fun e => hkg e.symm)
          have J59 := J52.step s59 (show ¬ q = k by omega)
          refine ⟨a', _, c', w59, hr, (Down_spec D59).mono fun u w62 ⟨he, hw⟩ => ⟨_, he, fun hd => ?_, fun hd => absurd (hd.symm.trans C2.down) (by decide)⟩⟩
          subst hw
          exact ⟨by omega, by omega, m - 1, by omega, t + 1, o59, _, _, q, a', c', _, _, rfl, by omega, sC.trans (s59.mono fun _ _ _ => trivial), D59, J59, L59, by rw [List.map_append]; exact C2, hq, Nat.le_trans l52 s59.size⟩
        · omega
        · omega
      · rcases act with ⟨e, _⟩ | ⟨_, e, hlt⟩ | ⟨e, _⟩
        · omega
        · refine ⟨by omega, by omega, x.a, x.B.length, x.c, cB XC, ?_⟩
          rw [parts_F, partsI_nat]
          refine ⟨fun hle => absurd hle (by omega), fun _ w96 X96 => ?_⟩
          have s96 := Step.of_no X96 sC.ok
          rw [e] at D52 J52
          refine (Down_spec (D52.step s96 id)).mono fun u w62 ⟨he, hw⟩ => ⟨_, he, fun hd => ?_, fun hd => absurd (hd.symm.trans CA.down) (by decide)⟩
          subst hw
          exact ⟨by omega, by omega, m - 1, by omega, t + 1, _, _, _, q, _, _, wl, T, rfl, by omega, sC.trans (s96.mono fun _ _ _ => trivial), D52.step s96 id, J52.step s96 id, L52.step s96 id, CA.up, hq, Nat.le_trans l52 s96.size⟩
        · omega
      · rcases act with ⟨e, _⟩ | ⟨e, _⟩ | ⟨_, hdn, hdd, hjk, hok, hkeep⟩
        · omega
        · omega
        · have hN := Append_spec (a := none) (c := 0) (b := []) J52 D52 sC.ok (show q ≠ g by omega) hok (by omega) hjk (RowAt.nil _ _) (Nat.le_refl _) (by decide)
          rw [dead_append hdd] at hN
          refine hN.mono fun u w134 ⟨he, o134, s134, J134, D134⟩ => ⟨_, he, fun h => absurd rfl h, fun _ => ?_⟩
          refine (Down_spec D134).mono fun u w138 ⟨he, hw⟩ => ⟨_, he, fun hd => absurd (hd.symm.trans hdn) (by decide), fun _ => ?_⟩
          subst hw
          have sD := sC.trans (s134.mono fun _ _ _ => trivial)
          have LD := L52.step s134 (show ¬ (k = q ∨ k = g) by omega)
          refine ⟨by omega, by omega, x.ka, x.keep.length, x.kc, cK (topX sD), ?_⟩
          refine (dRestart_spec D134 sD.ok hok (by omega) (okK sD)).mono fun u w145 ⟨he, o145, s145, D145⟩ => ⟨_, he, ?_⟩
          have sE := sD.trans (s145.mono fun _ _ _ => trivial)
          have LE := LD.step s145 (show ¬ k = g from hkg)
          obtain ⟨want2, T2, J2, hw2, hO2, C2⟩ := hkeep x.keep
          have hO3 := Open_spec D145 sE.ok C2.ok (by omega) 0 sz 7
          rw [hO2] at hO3
          refine hO3.mono fun u w150 ⟨o150, jp, na, nc, nl, he, s150, hnm, hnr, _, hj⟩ => ⟨_, _, _, _, _, he, fun h => absurd rfl h, fun _ => ?_⟩
          obtain ⟨q2, rfl, hq2, JG2⟩ := hj J2 rfl
          have hnm : nl.map BS.bs = want2 := hnm
          have sF := sE.trans (s150.mono fun _ h _ => h.elim)
          have LF := LE.step s150 id
          have DF := D145.step s150 id
          have l145 := Nat.le_trans (Nat.le_trans l52 s134.size) s145.size
          have l150 := Nat.le_trans l145 s150.size
          have hnl : nl.length = want2.length := by rw [← List.length_map (f := BS.bs), hnm]
          have hsh : ∀ y ∈ nl, y.bs.length < 1000000 := fun y hy => C2.ji.short (by rw [← hnm]; exact List.mem_map_of_mem hy)
          have hnb := C2.len
          refine ⟨by omega, by omega, fun hn => ?_, fun hn => ?_⟩
          · have e2 : want2 = wl.map BS.bs ++ [x.B] := by
              rcases hw2 with e | e
              · rw [e, List.length_map] at hnl; omega
              · exact e
            refine ⟨by omega, by omega, x.a, x.B.length, x.c, cB (topX sF), fun w56 q57 X56 hb57 hq57 hq57' => ?_⟩
            obtain ⟨a', c', w59, o59, hr, s59, L59⟩ := LF.push sF.ok (by omega) (by omega) (okB sF) X56 hb57
            have hnr59 := hnr.step s59
            refine ⟨a', _, c', w59, hr, (lists_spec (ac := nc) (bc := c') hnr59.row.1 L59.row.row (fun y hy => ⟨(hnr59.oks y hy).1.1, hsh y hy⟩) (fun y hy => (L59.oks y hy).1.1) (by omega)).mono fun u w85 ⟨he, X85⟩ => ⟨_, he, fun h => absurd (by rw [hnm, e2, List.map_append]; rfl) (of_decide_eq_false h), fun _ => ?_⟩⟩
            have s85 := Step.of_no X85 s59.ok
            exact ⟨by omega, by omega, m - 1, by omega, t + 1, _, _, J2, q2, a', c', _, T2, rfl, by omega, (sF.trans (s59.mono fun _ _ _ => trivial)).trans (s85.mono fun _ _ _ => trivial), (DF.step s59 (show ¬ g = k from fun e => hkg e.symm)).step s85 id, (JG2.step s59 (show ¬ q2 = k by omega)).step s85 id, L59.step s85 id, by rw [List.map_append]; rw [e2] at C2; exact C2, by omega, Nat.le_trans (Nat.le_trans l150 s59.size) s85.size⟩
          · have e2 : want2 = wl.map BS.bs := by
              rcases hw2 with e | e
              · exact e
              · rw [e, List.length_append, List.length_map] at hnl
                exact absurd (by rw [hnl]; rfl) hn
            refine (lists_spec (ac := nc) (bc := wvc) hnr.row.1 LF.row.row (fun y hy => ⟨(hnr.oks y hy).1.1, hsh y hy⟩) (fun y hy => (LF.oks y hy).1.1) (by omega)).mono fun u w85 ⟨he, X85⟩ => ⟨_, he, fun h => absurd (by rw [hnm, e2]) (of_decide_eq_false h), fun _ => ?_⟩
            have s85 := Step.of_no X85 sF.ok
            exact ⟨by omega, by omega, m - 1, by omega, t + 1, _, _, J2, q2, wva, wvc, wl, T2, rfl, by omega, sF.trans (s85.mono fun _ _ _ => trivial), DF.step s85 id, JG2.step s85 id, LF.step s85 id, by rw [e2] at C2; exact C2, by omega, Nat.le_trans l150 s85.size⟩
      · rcases act with ⟨e, _⟩ | ⟨e, _⟩ | ⟨e, _⟩ <;> omega
    · have jok := CA.jok (by decide) (by omega) (by omega)
      have hta := CA.tail
      have hsz := CA.jsize
      have hln := CA.len
      rw [List.length_map] at hln
      refine (jRoom_spec JA jok.tail.1 jok.tail.2 jok.size.1 jok.size.2).mono fun u w47 ⟨he, X47⟩ => ⟨_, he, by omega, by omega, x.a, x.B.length, x.c, cB ((topX sA).trans X47), ?_⟩
      have s47 := Step.of_no X47 sA.ok
      have sB := sA.trans (s47.mono fun _ h _ => h.elim)
      have hA2 := Append_spec (JA.step s47 id) (DA.step s47 id) s47.ok (show q ≠ g by omega) CA.ok (by omega) jok (okB sB).1.1 hgx.la (show x.B.length < 1000000 by omega)
      have act := CA.act (b := x.B) (by omega) (by omega) (by decide) (by decide) (by omega) hB
      obtain ⟨A, hA⟩ : ∃ A, appendJ dA J x.B = A := ⟨_, rfl⟩
      rw [hA] at hA2 act
      refine hA2.mono fun u w52 ⟨he, o52, s52, J52, D52⟩ => ⟨_, he, fun h0 => ?_, fun h0 => ⟨fun h18 => ?_, fun h18 => ⟨fun h19 => ?_, fun h19 => ?_⟩⟩⟩
      all_goals have sC := sB.trans (s52.mono fun _ _ _ => trivial)
      all_goals have XC := topX sC
      all_goals have L52 := (LA.step s47 id).step s52 (show ¬ (k = q ∨ k = g) by omega)
      all_goals have l52 := Nat.le_trans (Nat.le_trans h21 s47.size) s52.size
      · rcases act with ⟨_, C2⟩ | ⟨e, _⟩ | ⟨e, _⟩
        · refine ⟨by omega, by omega, x.a, x.B.length, x.c, cB XC, fun w56 q57 X56 hb57 hq57 hq57' => ?_⟩
          obtain ⟨a', c', w59, o59, hr, s59, L59⟩ := L52.push sC.ok (by omega) (by omega) (okB sC) X56 hb57
          have D59 := D52.step s59 (show ¬ g = k from fun e => hkg e.symm)
          have J59 := J52.step s59 (show ¬ q = k by omega)
          refine ⟨a', _, c', w59, hr, (Down_spec D59).mono fun u w62 ⟨he, hw⟩ => ⟨_, he, fun hd => ?_, fun hd => absurd (hd.symm.trans C2.down) (by decide)⟩⟩
          subst hw
          exact ⟨by omega, by omega, m - 1, by omega, t + 1, o59, _, _, q, a', c', _, _, rfl, by omega, sC.trans (s59.mono fun _ _ _ => trivial), D59, J59, L59, by rw [List.map_append]; exact C2, hq, Nat.le_trans l52 s59.size⟩
        · omega
        · omega
      · rcases act with ⟨e, _⟩ | ⟨_, e, hlt⟩ | ⟨e, _⟩
        · omega
        · refine ⟨by omega, by omega, x.a, x.B.length, x.c, cB XC, ?_⟩
          rw [parts_F, partsI_nat]
          refine ⟨fun hle => absurd hle (by omega), fun _ w96 X96 => ?_⟩
          have s96 := Step.of_no X96 sC.ok
          rw [e] at D52 J52
          refine (Down_spec (D52.step s96 id)).mono fun u w62 ⟨he, hw⟩ => ⟨_, he, fun hd => ?_, fun hd => absurd (hd.symm.trans CA.down) (by decide)⟩
          subst hw
          exact ⟨by omega, by omega, m - 1, by omega, t + 1, _, _, _, q, _, _, wl, T, rfl, by omega, sC.trans (s96.mono fun _ _ _ => trivial), D52.step s96 id, J52.step s96 id, L52.step s96 id, CA.up, hq, Nat.le_trans l52 s96.size⟩
        · omega
      · rcases act with ⟨e, _⟩ | ⟨e, _⟩ | ⟨_, hdn, hdd, hjk, hok, hkeep⟩
        · omega
        · omega
        · have hN := Append_spec (a := none) (c := 0) (b := []) J52 D52 sC.ok (show q ≠ g by omega) hok (by omega) hjk (RowAt.nil _ _) (Nat.le_refl _) (by decide)
          rw [dead_append hdd] at hN
          refine hN.mono fun u w134 ⟨he, o134, s134, J134, D134⟩ => ⟨_, he, fun h => absurd rfl h, fun _ => ?_⟩
          refine (Down_spec D134).mono fun u w138 ⟨he, hw⟩ => ⟨_, he, fun hd => absurd (hd.symm.trans hdn) (by decide), fun _ => ?_⟩
          subst hw
          have sD := sC.trans (s134.mono fun _ _ _ => trivial)
          have LD := L52.step s134 (show ¬ (k = q ∨ k = g) by omega)
          refine ⟨by omega, by omega, x.ka, x.keep.length, x.kc, cK (topX sD), ?_⟩
          refine (dRestart_spec D134 sD.ok hok (by omega) (okK sD)).mono fun u w145 ⟨he, o145, s145, D145⟩ => ⟨_, he, ?_⟩
          have sE := sD.trans (s145.mono fun _ _ _ => trivial)
          have LE := LD.step s145 (show ¬ k = g from hkg)
          obtain ⟨want2, T2, J2, hw2, hO2, C2⟩ := hkeep x.keep
          have hO3 := Open_spec D145 sE.ok C2.ok (by omega) 0 sz 7
          rw [hO2] at hO3
          refine hO3.mono fun u w150 ⟨o150, jp, na, nc, nl, he, s150, hnm, hnr, _, hj⟩ => ⟨_, _, _, _, _, he, fun h => absurd rfl h, fun _ => ?_⟩
          obtain ⟨q2, rfl, hq2, JG2⟩ := hj J2 rfl
          have hnm : nl.map BS.bs = want2 := hnm
          have sF := sE.trans (s150.mono fun _ h _ => h.elim)
          have LF := LE.step s150 id
          have DF := D145.step s150 id
          have l145 := Nat.le_trans (Nat.le_trans l52 s134.size) s145.size
          have l150 := Nat.le_trans l145 s150.size
          have hnl : nl.length = want2.length := by rw [← List.length_map (f := BS.bs), hnm]
          have hsh : ∀ y ∈ nl, y.bs.length < 1000000 := fun y hy => C2.ji.short (by rw [← hnm]; exact List.mem_map_of_mem hy)
          have hnb := C2.len
          refine ⟨by omega, by omega, fun hn => ?_, fun hn => ?_⟩
          · have e2 : want2 = wl.map BS.bs ++ [x.B] := by
              rcases hw2 with e | e
              · rw [e, List.length_map] at hnl; omega
              · exact e
            refine ⟨by omega, by omega, x.a, x.B.length, x.c, cB (topX sF), fun w56 q57 X56 hb57 hq57 hq57' => ?_⟩
            obtain ⟨a', c', w59, o59, hr, s59, L59⟩ := LF.push sF.ok (by omega) (by omega) (okB sF) X56 hb57
            have hnr59 := hnr.step s59
            refine ⟨a', _, c', w59, hr, (lists_spec (ac := nc) (bc := c') hnr59.row.1 L59.row.row (fun y hy => ⟨(hnr59.oks y hy).1.1, hsh y hy⟩) (fun y hy => (L59.oks y hy).1.1) (by omega)).mono fun u w85 ⟨he, X85⟩ => ⟨_, he, fun h => absurd (by rw [hnm, e2, List.map_append]; rfl) (of_decide_eq_false h), fun _ => ?_⟩⟩
            have s85 := Step.of_no X85 s59.ok
            exact ⟨by omega, by omega, m - 1, by omega, t + 1, _, _, J2, q2, a', c', _, T2, rfl, by omega, (sF.trans (s59.mono fun _ _ _ => trivial)).trans (s85.mono fun _ _ _ => trivial), (DF.step s59 (show ¬ g = k from fun e => hkg e.symm)).step s85 id, (JG2.step s59 (show ¬ q2 = k by omega)).step s85 id, L59.step s85 id, by rw [List.map_append]; rw [e2] at C2; exact C2, by omega, Nat.le_trans (Nat.le_trans l150 s59.size) s85.size⟩
          · have e2 : want2 = wl.map BS.bs := by
              rcases hw2 with e | e
              · exact e
              · rw [e, List.length_append, List.length_map] at hnl
                exact absurd (by rw [hnl]; rfl) hn
            refine (lists_spec (ac := nc) (bc := wvc) hnr.row.1 LF.row.row (fun y hy => ⟨(hnr.oks y hy).1.1, hsh y hy⟩) (fun y hy => (LF.oks y hy).1.1) (by omega)).mono fun u w85 ⟨he, X85⟩ => ⟨_, he, fun h => absurd (by rw [hnm, e2]) (of_decide_eq_false h), fun _ => ?_⟩
            have s85 := Step.of_no X85 sF.ok
            exact ⟨by omega, by omega, m - 1, by omega, t + 1, _, _, J2, q2, wva, wvc, wl, T2, rfl, by omega, sF.trans (s85.mono fun _ _ _ => trivial), DF.step s85 id, JG2.step s85 id, LF.step s85 id, by rw [e2] at C2; exact C2, by omega, Nat.le_trans l150 s85.size⟩
      · rcases act with ⟨e, _⟩ | ⟨e, _⟩ | ⟨e, _⟩ <;> omega
  · have htt : t = l.length := by omega
    have hO3 := Open_spec DA sA.ok CA.ok (by omega) 0 sz 7
    have hre := CA.reopen (by omega) (by omega) (by decide) (by omega)
    refine hO3.mono fun u w150 ⟨o150, jp, na, nc, nl, he, s150, hnm, hnr, _, _⟩ => ?_
    rw [hre] at he hnm
    have hnm : nl.map BS.bs = wl.map BS.bs := hnm
    have LF := LA.step s150 id
    have sF := sA.trans (s150.mono fun _ h _ => h.elim)
    have hln := CA.len
    rw [List.length_map] at hln
    have hnl : nl.length = wl.length := by rw [← List.length_map (f := BS.bs), hnm, List.length_map]
    refine ⟨_, _, _, _, _, he, fun _ => ?_, fun h => absurd rfl h⟩
    have hsh : ∀ y ∈ nl, y.bs.length < 1000000 := fun y hy => by
      have hy2 : y.bs ∈ wl.map BS.bs := by rw [← hnm]; exact List.mem_map_of_mem hy
      exact CA.ji.short hy2
    have hn6 : nl.length < 1000000 := by omega
    have hls := lists_spec (ac := nc) (bc := wvc) hnr.row.1 LF.row.row (fun y hy => ⟨(hnr.oks y hy).1.1, hsh y hy⟩) (fun y hy => (LF.oks y hy).1.1) hn6
    rw [decide_eq_true (show nl.map BS.bs = wl.map BS.bs from hnm)] at hls
    refine hls.mono fun u w85 ⟨he, X85⟩ => ⟨true, he, fun _ => ?_, fun h => (by cases h)⟩
    exact hal _ ((topX sF).trans X85)
theorem JournalCrash_walk (W : World) (n0 : Int) (a1 : Option Addr) (len1 cap1 : Nat) (w0 : (Lit.int .i64 n0).wf = true) (o1 : ACsQ W [.slice a1 len1 cap1]) :
    Calls Try.prog 5 #[.int .i64 n0, .slice a1 len1 cap1] W (Ret (.bool true) fun w' => Ext no W w') := by
  obtain ⟨_, c1, l, e1, l1, _, r1, f1⟩ := o1
  cases e1
  exact JournalCrash_spec W r1 f1
end Go.Proofs.Ytgcjipbahfpopaa
