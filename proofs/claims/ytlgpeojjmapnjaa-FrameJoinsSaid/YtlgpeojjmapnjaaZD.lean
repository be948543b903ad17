/- Frames: predicates of frame.Bytes. -/
import Derived.Test.YtlgpeojjmapnjaaZC
import Derived.Laws.StructEq
import Derived.Test.YtlgpeojjmapnjaaZA
import Derived.Test.YtlgpeojjmapnjaaZB
set_option linter.unusedVariables false
set_option linter.unusedSimpArgs false
set_option maxRecDepth 100000
set_option maxHeartbeats 4000000
namespace Go.Proofs.Ytlgpeojjmapnjaa
open Go Go.Mx Go.Proofs
abbrev Q0v.J1 (bt : Addr) (R : RW) (bx : World) : Prop :=
 ∃ (bg : Int), bx.cell? (bt.add 0) = some (.int .i64 bg) ∧
 Calls Try.prog 26 #[.slice none 0 0, .int .u64 (IntKind.u64.wrap bg)] bx fun c8 ao => ∃ (a9 : Option Addr) (ab aa : Nat), c8 = .returned (.slice a9 ab aa) ∧
 ∃ (az : Int), ao.cell? (bt.add 0) = some (.int .i64 az) ∧
 bif az == 1 then (
 ∃ (ad ap b2 bn bk af : Int) (am : Option Addr) (an ar : Nat) (bc : Int), cellsAt ao (bt.add 1) [.int .i64 ad, .int .i64 ap, .int .u64 b2, .int .i64 bn, .int .i64 bk, .int .i64 af, .slice am an ar, .int .u64 bc] 0 ∧
 Calls Try.prog 27 #[.slice a9 ab aa, .agg #[.int .i64 ad, .int .i64 ap, .int .u64 b2, .int .i64 bn, .int .i64 bk, .int .i64 af, .slice am an ar, .int .u64 bc]] ao fun c9 c3 => ∃ (bh : Option Addr) (b0 b8 : Nat), c9 = .returned (.slice bh b0 b8) ∧
 bif decide ((b0 : Int) > 4000) then (
 R (.tuple #[.slice none 0 0, .int .i64 3]) c3) else (
 R (.tuple #[.slice bh b0 b8, .int .i64 0]) c3)) else (
 bif az == 4 then (
 thenW (ao.drew) fun bs =>
 ∃ (ae au b3 bb b7 aj : Int) (aq : Option Addr) (ak al : Nat) (be : Int), cellsAt bs (bt.add 1) [.int .i64 ae, .int .i64 au, .int .u64 b3, .int .i64 bb, .int .i64 b7, .int .i64 aj, .slice aq ak al, .int .u64 be] 0 ∧
 ∃ (a1 a8 ac ax aw a3 : Int) (a6 : Option Addr) (a4 a7 : Nat) (ay : Int), cellsAt bs (bt.add 9) [.int .i64 a1, .int .i64 a8, .int .u64 ac, .int .i64 ax, .int .i64 aw, .int .i64 a3, .slice a6 a4 a7, .int .u64 ay] 0 ∧
 Calls Try.prog 27 #[.slice a9 ab aa, .agg #[.int .i64 ae, .int .i64 au, .int .u64 b3, .int .i64 bb, .int .i64 b7, .int .i64 aj, .slice aq ak al, .int .u64 be]] bs fun cb c0 => ∃ (bf : Option Addr) (b5 b6 : Nat), cb = .returned (.slice bf b5 b6) ∧
 cellsAt c0 (bt.add 9) [.int .i64 a1, .int .i64 a8, .int .u64 ac, .int .i64 ax, .int .i64 aw, .int .i64 a3, .slice a6 a4 a7, .int .u64 ay] 0 ∧
 Calls Try.prog 27 #[.slice bf b5 b6, .agg #[.int .i64 a1, .int .i64 a8, .int .u64 ac, .int .i64 ax, .int .i64 aw, .int .i64 a3, .slice a6 a4 a7, .int .u64 ay]] c0 fun c6 c2 => ∃ (bm : Option Addr) (b1 bj : Nat), c6 = .returned (.slice bm b1 bj) ∧
 bif decide ((b1 : Int) > 4000) then (
 R (.tuple #[.slice none 0 0, .int .i64 3]) c2) else (
 R (.tuple #[.slice bm b1 bj, .int .i64 0]) c2)) else (
 ∃ (bu : Option Addr) (c1 bv : Nat), ao.cell? (bt.add 18) = some (.slice bu c1 bv) ∧
 Calls Try.prog 28 #[.slice bu c1 bv] ao fun c4 bw => ∃ (ah : Option Addr) (ag ai : Nat) (bp : Int), c4 = .returned (.tuple #[.slice ah ag ai, .int .i64 bp]) ∧
 ∃ (br : Int), bw.cell? (bt.add 17) = some (.int .i64 br) ∧
 Calls Try.prog 26 #[.slice a9 ab aa, .int .u64 (IntKind.u64.wrap br)] bw fun c5 c7 => ∃ (bi : Option Addr) (bl b9 : Nat), c5 = .returned (.slice bi bl b9) ∧
 Calls Try.prog 29 #[.slice bi bl b9, .slice ah ag ai] c7 fun ca b4 => ∃ (a2 : Option Addr) (a0 a5 : Nat), ca = .returned (.slice a2 a0 a5) ∧
 ∃ (bd : Int), b4.cell? (bt.add 0) = some (.int .i64 bd) ∧
 bif bd == 3 then (
 ∃ (bq : Int), b4.cell? (bt.add 19) = some (.int .u64 bq) ∧
 Calls Try.prog 26 #[.slice a2 a0 a5, .int .u64 bq] b4 fun cc bz => ∃ (ba : Option Addr) (av bo : Nat), cc = .returned (.slice ba av bo) ∧
 bif decide ((av : Int) > 4000) then (
 R (.tuple #[.slice none 0 0, .int .i64 3]) bz) else (
 R (.tuple #[.slice ba av bo, .int .i64 0]) bz)) else (
 bif decide ((a0 : Int) > 4000) then (
 R (.tuple #[.slice none 0 0, .int .i64 3]) b4) else (
 R (.tuple #[.slice a2 a0 a5, .int .i64 0]) b4))))

def Q0v.M (bd an b1 b5 bb bf b2 : Int) (aw : Option Addr) (az ax : Nat) (bc ae ap av b6 b3 aq : Int) (ar : Option Addr) (au ao : Nat) (b4 ba : Int) (bj : Option Addr) (bg bh : Nat) (be : Int) (R : RW) (w : World) : Prop :=
 thenW (w.alloc (.cells #[.int .i64 bd, .int .i64 an, .int .i64 b1, .int .u64 b5, .int .i64 bb, .int .i64 bf, .int .i64 b2, .slice aw az ax, .int .u64 bc, .int .i64 ae, .int .i64 ap, .int .u64 av, .int .i64 b6, .int .i64 b3, .int .i64 aq, .slice ar au ao, .int .u64 b4, .int .i64 ba, .slice bj bg bh, .int .u64 be] 38)) fun bk =>
 ∃ (ah a0 a9 ad aj am aa : Int) (a2 : Option Addr) (a8 a3 : Nat) (ak a1 ab ac af ai a6 : Int) (a5 : Option Addr) (a4 a7 : Nat) (ag b0 : Int) (b8 : Option Addr) (b7 b9 : Nat) (ay : Int), cellsAt bk (blk w.heap.size) [.int .i64 ah, .int .i64 a0, .int .i64 a9, .int .u64 ad, .int .i64 aj, .int .i64 am, .int .i64 aa, .slice a2 a8 a3, .int .u64 ak, .int .i64 a1, .int .i64 ab, .int .u64 ac, .int .i64 af, .int .i64 ai, .int .i64 a6, .slice a5 a4 a7, .int .u64 ag, .int .i64 b0, .slice b8 b7 b9, .int .u64 ay] 0 ∧
 Calls Try.prog 15 #[.agg #[.int .i64 ah, .int .i64 a0, .int .i64 a9, .int .u64 ad, .int .i64 aj, .int .i64 am, .int .i64 aa, .slice a2 a8 a3, .int .u64 ak, .int .i64 a1, .int .i64 ab, .int .u64 ac, .int .i64 af, .int .i64 ai, .int .i64 a6, .slice a5 a4 a7, .int .u64 ag, .int .i64 b0, .slice b8 b7 b9, .int .u64 ay]] bk fun bl bi => ∃ (al : Bool), bl = .returned (.bool al) ∧
 bif !al then (
 R (.tuple #[.slice none 0 0, .int .i64 1]) bi) else (
 Q0v.J1 (blk w.heap.size) R bi)

theorem Q0v.ok (ak a1 ab af ai am ac : Int) (a8 : Option Addr) (aa a9 : Nat) (aj a0 a3 a7 ag ad a4 : Int) (a5 : Option Addr) (a6 a2 : Nat) (ae ah : Int) (ap : Option Addr) (an ao : Nat) (al : Int) {R : RW} {w : World} (h : Q0v.M ak a1 ab af ai am ac a8 aa a9 aj a0 a3 a7 ag ad a4 a5 a6 a2 ae ah ap an ao al R w) : Calls Try.prog 9 #[.agg #[.int .i64 ak, .int .i64 a1, .int .i64 ab, .int .u64 af, .int .i64 ai, .int .i64 am, .int .i64 ac, .slice a8 aa a9, .int .u64 aj, .int .i64 a0, .int .i64 a3, .int .u64 a7, .int .i64 ag, .int .i64 ad, .int .i64 a4, .slice a5 a6 a2, .int .u64 ae, .int .i64 ah, .slice ap an ao, .int .u64 al]] w fun e w' => ∃ v, e = .returned v ∧ R v w' :=
  Q09 follows (H := []) (args := [.agg #[.int .i64 ak, .int .i64 a1, .int .i64 ab, .int .u64 af, .int .i64 ai, .int .i64 am, .int .i64 ac, .slice a8 aa a9, .int .u64 aj, .int .i64 a0, .int .i64 a3, .int .u64 a7, .int .i64 ag, .int .i64 ad, .int .i64 a4, .slice a5 a6 a2, .int .u64 ae, .int .i64 ah, .slice ap an ao, .int .u64 al]]) (cast (by kernel_rfl) h)

def Q0v.N (a0 a2 a9 am au aw aa : Int) (a5 : Option Addr) (a8 a6 : Nat) (av a4 ac aq az ax ad : Int) (ae : Option Addr) (af ab : Nat) (ay b0 : Int) (bl : Option Addr) (bj bk : Nat) (b9 : Int) (R : RW) (w : World) : Prop :=
 ∀ (bi : World) (bn : Nat), Ext no w bi → Priv w bi [bn] →
 Calls Try.prog 15 #[.agg #[.int .i64 a0, .int .i64 a2, .int .i64 a9, .int .u64 am, .int .i64 au, .int .i64 aw, .int .i64 aa, .slice a5 a8 a6, .int .u64 av, .int .i64 a4, .int .i64 ac, .int .u64 aq, .int .i64 az, .int .i64 ax, .int .i64 ad, .slice ae af ab, .int .u64 ay, .int .i64 b0, .slice bl bj bk, .int .u64 b9]] bi fun c3 bg => ∃ (ak : Bool), c3 = .returned (.bool ak) ∧
 Keep [bn] bi bg ∧
 (ak = false →
 R (.tuple #[.slice none 0 0, .int .i64 1]) bg) ∧
 (ak = true →
 Calls Try.prog 26 #[.slice none 0 0, .int .u64 (IntKind.u64.wrap a0)] bg fun bu b8 => ∃ (ah : Option Addr) (aj al : Nat), bu = .returned (.slice ah aj al) ∧
 Keep [bn] bg b8 ∧
 (a0 = 1 →
 Calls Try.prog 27 #[.slice ah aj al, .agg #[.int .i64 a2, .int .i64 a9, .int .u64 am, .int .i64 au, .int .i64 aw, .int .i64 aa, .slice a5 a8 a6, .int .u64 av]] b8 fun c0 br => ∃ (b5 : Option Addr) (an b1 : Nat), c0 = .returned (.slice b5 an b1) ∧
 ((an : Int) > 4000 →
 R (.tuple #[.slice none 0 0, .int .i64 3]) br) ∧
 ((an : Int) ≤ 4000 →
 R (.tuple #[.slice b5 an b1, .int .i64 0]) br)) ∧
 (a0 ≠ 1 →
 (a0 = 4 →
 ∀ (bm : World), Ext no b8 bm →
 Calls Try.prog 27 #[.slice ah aj al, .agg #[.int .i64 a2, .int .i64 a9, .int .u64 am, .int .i64 au, .int .i64 aw, .int .i64 aa, .slice a5 a8 a6, .int .u64 av]] bm fun bw bq => ∃ (b6 : Option Addr) (be b4 : Nat), bw = .returned (.slice b6 be b4) ∧
 Keep [bn] bm bq ∧
 Calls Try.prog 27 #[.slice b6 be b4, .agg #[.int .i64 a4, .int .i64 ac, .int .u64 aq, .int .i64 az, .int .i64 ax, .int .i64 ad, .slice ae af ab, .int .u64 ay]] bq fun bv bt => ∃ (b3 : Option Addr) (ai b2 : Nat), bv = .returned (.slice b3 ai b2) ∧
 ((ai : Int) > 4000 →
 R (.tuple #[.slice none 0 0, .int .i64 3]) bt) ∧
 ((ai : Int) ≤ 4000 →
 R (.tuple #[.slice b3 ai b2, .int .i64 0]) bt)) ∧
 (a0 ≠ 4 →
 Calls Try.prog 28 #[.slice bl bj bk] b8 fun c2 bp => ∃ (ao : Option Addr) (ar ap : Nat) (bf : Int), c2 = .returned (.tuple #[.slice ao ar ap, .int .i64 bf]) ∧
 Keep [bn] b8 bp ∧
 Calls Try.prog 26 #[.slice ah aj al, .int .u64 (IntKind.u64.wrap b0)] bp fun bz bo => ∃ (ba : Option Addr) (bc bd : Nat), bz = .returned (.slice ba bc bd) ∧
 Keep [bn] bp bo ∧
 Calls Try.prog 29 #[.slice ba bc bd, .slice ao ar ap] bo fun bx bh => ∃ (a3 : Option Addr) (a1 a7 : Nat), bx = .returned (.slice a3 a1 a7) ∧
 Keep [bn] bo bh ∧
 (a0 = 3 →
 Calls Try.prog 26 #[.slice a3 a1 a7, .int .u64 b9] bh fun c1 bs => ∃ (b7 : Option Addr) (ag bb : Nat), c1 = .returned (.slice b7 ag bb) ∧
 ((ag : Int) > 4000 →
 R (.tuple #[.slice none 0 0, .int .i64 3]) bs) ∧
 ((ag : Int) ≤ 4000 →
 R (.tuple #[.slice b7 ag bb, .int .i64 0]) bs)) ∧
 (a0 ≠ 3 →
 ((a1 : Int) > 4000 →
 R (.tuple #[.slice none 0 0, .int .i64 3]) bh) ∧
 ((a1 : Int) ≤ 4000 →
 R (.tuple #[.slice a3 a1 a7, .int .i64 0]) bh)))))

theorem Q0v.up (af a1 a6 ae al ak a7 : Int) (a4 : Option Addr) (a5 a3 : Nat) (aj a2 a8 ad ai ah ac : Int) (ab : Option Addr) (a9 aa : Nat) (ag am : Int) (ao : Option Addr) (ap aq : Nat) (an : Int) {R : RW} {w : World} (h : Q0v.N af a1 a6 ae al ak a7 a4 a5 a3 aj a2 a8 ad ai ah ac ab a9 aa ag am ao ap aq an R w) : Q0v.M af a1 a6 ae al ak a7 a4 a5 a3 aj a2 a8 ad ai ah ac ab a9 aa ag am ao ap aq an R w := by
  unfold Q0v.M
  unfold Q0v.N at h
  refine Q00 fun bm bx => ?_
  have a0 := Blk.of_new bx
  have ca := ((Ext.refl no w)).size
  have br := (Ext.refl no w).x_alloc bx
  refine ⟨af, a1, a6, ae, al, ak, a7, a4, a5, a3, aj, a2, a8, ad, ai, ah, ac, ab, a9, aa, ag, am, ao, ap, aq, an, ⟨a0.celli 0 rfl rfl, a0.celli 1 rfl rfl, a0.celli 2 rfl rfl, a0.celli 3 rfl rfl, a0.celli 4 rfl rfl, a0.celli 5 rfl rfl, a0.celli 6 rfl rfl, a0.celli 7 rfl rfl, a0.celli 8 rfl rfl, a0.celli 9 rfl rfl, a0.celli 10 rfl rfl, a0.celli 11 rfl rfl, a0.celli 12 rfl rfl, a0.celli 13 rfl rfl, a0.celli 14 rfl rfl, a0.celli 15 rfl rfl, a0.celli 16 rfl rfl, a0.celli 17 rfl rfl, a0.celli 18 rfl rfl, a0.celli 19 rfl rfl, trivial⟩, ?_⟩
  have h := h bm (w.heap.size) br (Priv.cons ca a0.lt Priv.nil)
  refine h.mono fun cg cb h => ?_
  obtain ⟨b0, he, hk, h⟩ := h
  refine ⟨b0, he, ?_⟩
  have a0 := hk.blk a0 (by simp)
  refine bif_of (fun bv => ?_) (fun bv => ?_)
  ·have h := h.1 (not_t bv)
   exact h
  have h := h.2 (not_f bv)
  unfold Q0v.J1
  refine ⟨af, a0.celli 0 rfl rfl, ?_⟩
  refine h.mono fun c9 bl h => ?_
  obtain ⟨bf, ba, b2, he, hk, h⟩ := h
  refine ⟨bf, ba, b2, he, ?_⟩
  have a0 := hk.blk a0 (by simp)
  refine ⟨af, a0.celli 0 rfl rfl, ?_⟩
  refine bif_of (fun bo => ?_) (fun bo => ?_)
  ·have h := h.1 (beq_t bo)
   refine ⟨a1, a6, ae, al, ak, a7, a4, a5, a3, aj, ⟨a0.celli 1 rfl rfl, a0.celli 2 rfl rfl, a0.celli 3 rfl rfl, a0.celli 4 rfl rfl, a0.celli 5 rfl rfl, a0.celli 6 rfl rfl, a0.celli 7 rfl rfl, a0.celli 8 rfl rfl, trivial⟩, ?_⟩
   refine h.mono fun cd c4 h => ?_
   obtain ⟨b8, b6, be, he, h⟩ := h
   refine ⟨b8, b6, be, he, ?_⟩
   refine bif_of (fun bn => ?_) (fun bn => ?_)
   ·have h := h.1 (of_decide_eq_true bn)
    exact h
   have h := h.2 (Int.not_lt.1 (of_decide_eq_false bn))
   exact h
  have h := h.2 (beq_f bo)
  refine bif_of (fun bk => ?_) (fun bk => ?_)
  ·have h := h.1 (beq_t bk)
   refine Q00 fun bp bw => ?_
   have bj := (Ext.refl no bl).x_drew bw
   have a0 := a0.x_drew bw
   refine ⟨a1, a6, ae, al, ak, a7, a4, a5, a3, aj, ⟨a0.celli 1 rfl rfl, a0.celli 2 rfl rfl, a0.celli 3 rfl rfl, a0.celli 4 rfl rfl, a0.celli 5 rfl rfl, a0.celli 6 rfl rfl, a0.celli 7 rfl rfl, a0.celli 8 rfl rfl, trivial⟩, ?_⟩
   refine ⟨a2, a8, ad, ai, ah, ac, ab, a9, aa, ag, ⟨a0.celli 9 rfl rfl, a0.celli 10 rfl rfl, a0.celli 11 rfl rfl, a0.celli 12 rfl rfl, a0.celli 13 rfl rfl, a0.celli 14 rfl rfl, a0.celli 15 rfl rfl, a0.celli 16 rfl rfl, trivial⟩, ?_⟩
   have h := h bp bj
   refine h.mono fun c0 c3 h => ?_
   obtain ⟨bb, bi, b7, he, hk, h⟩ := h
   refine ⟨bb, bi, b7, he, ?_⟩
   have a0 := hk.blk a0 (by simp)
   refine ⟨⟨a0.celli 9 rfl rfl, a0.celli 10 rfl rfl, a0.celli 11 rfl rfl, a0.celli 12 rfl rfl, a0.celli 13 rfl rfl, a0.celli 14 rfl rfl, a0.celli 15 rfl rfl, a0.celli 16 rfl rfl, trivial⟩, ?_⟩
   refine h.mono fun bz cf h => ?_
   obtain ⟨bh, bg, b1, he, h⟩ := h
   refine ⟨bh, bg, b1, he, ?_⟩
   refine bif_of (fun bu => ?_) (fun bu => ?_)
   ·have h := h.1 (of_decide_eq_true bu)
    exact h
   have h := h.2 (Int.not_lt.1 (of_decide_eq_false bu))
   exact h
  have h := h.2 (beq_f bk)
  refine ⟨ao, ap, aq, a0.celli 18 rfl rfl, ?_⟩
  refine h.mono fun ce c7 h => ?_
  obtain ⟨ar, ay, au, az, he, hk, h⟩ := h
  refine ⟨ar, ay, au, az, he, ?_⟩
  have a0 := hk.blk a0 (by simp)
  refine ⟨am, a0.celli 17 rfl rfl, ?_⟩
  refine h.mono fun c8 cc h => ?_
  obtain ⟨b3, b5, bc, he, hk, h⟩ := h
  refine ⟨b3, b5, bc, he, ?_⟩
  have a0 := hk.blk a0 (by simp)
  refine h.mono fun c5 c6 h => ?_
  obtain ⟨av, aw, ax, he, hk, h⟩ := h
  refine ⟨av, aw, ax, he, ?_⟩
  have a0 := hk.blk a0 (by simp)
  refine ⟨af, a0.celli 0 rfl rfl, ?_⟩
  refine bif_fo (fun bs => ?_) (fun bs => ?_)
  ·have h := h.2 (beq_f bs)
   refine bif_of (fun bt => ?_) (fun bt => ?_)
   ·have h := h.1 (of_decide_eq_true bt)
    exact h
   have h := h.2 (Int.not_lt.1 (of_decide_eq_false bt))
   exact h
  have h := h.1 (beq_t bs)
  refine ⟨an, a0.celli 19 rfl rfl, ?_⟩
  refine h.mono fun c2 c1 h => ?_
  obtain ⟨b9, bd, b4, he, h⟩ := h
  refine ⟨b9, bd, b4, he, ?_⟩
  refine bif_of (fun bq => ?_) (fun bq => ?_)
  ·have h := h.1 (of_decide_eq_true bq)
   exact h
  have h := h.2 (Int.not_lt.1 (of_decide_eq_false bq))
  exact h

theorem Q0v.go (ak a1 ab af ai am ac : Int) (a8 : Option Addr) (aa a9 : Nat) (aj a0 a3 a7 ag ad a4 : Int) (a5 : Option Addr) (a6 a2 : Nat) (ae ah : Int) (ap : Option Addr) (an ao : Nat) (al : Int) {R : RW} {w : World} (h : Q0v.N ak a1 ab af ai am ac a8 aa a9 aj a0 a3 a7 ag ad a4 a5 a6 a2 ae ah ap an ao al R w) : Calls Try.prog 9 #[.agg #[.int .i64 ak, .int .i64 a1, .int .i64 ab, .int .u64 af, .int .i64 ai, .int .i64 am, .int .i64 ac, .slice a8 aa a9, .int .u64 aj, .int .i64 a0, .int .i64 a3, .int .u64 a7, .int .i64 ag, .int .i64 ad, .int .i64 a4, .slice a5 a6 a2, .int .u64 ae, .int .i64 ah, .slice ap an ao, .int .u64 al]] w fun e w' => ∃ v, e = .returned v ∧ R v w' := Q0v.ok ak a1 ab af ai am ac a8 aa a9 aj a0 a3 a7 ag ad a4 a5 a6 a2 ae ah ap an ao al (Q0v.up ak a1 ab af ai am ac a8 aa a9 aj a0 a3 a7 ag ad a4 a5 a6 a2 ae ah ap an ao al h)
set_option maxRecDepth 20000
open W (OwnB Rd numR countR doneR)
section
variable {w w' : World} {x y : FP} {e f : Ent} {a ba : Option Addr} {c bc : Nat} {bs : List UInt8}
theorem Q2E (h : RowAt w a (bytesV bs)) (hl : bs.length ≤ 100000) (hr : Q0z e = true) (hf : e.fit) (hb : RowAt w ba (bytesV e.body)) :
    Calls Try.prog 27 #[.slice a bs.length c, entV e ba bc] w (fun x w' => ∃ a' c', x = .returned (.slice a' (bs ++ encE e).length c') ∧ OwnB w.heap.size w' a' c' (bs ++ encE e) ∧ Ext no w w') := by
  refine (Q0J.go a bs.length c e.w e.i e.pv e.t e.tw e.ep ba e.body.length bc e.sg (R := fun v w' => ∃ a' c', v = (.slice a' (bs ++ encE e).length c') ∧ OwnB w.heap.size w' a' c' (bs ++ encE e) ∧ Ext no w w') ?_).mono fun x w' ⟨v, he, a, c, hv, hw⟩ => ⟨a, c, by rw [he, hv], hw⟩
  unfold Q0J.N
  intro w10 X10
  refine (Q34 (fun _ => hf) (hb.no X10)).mono fun x w15 ⟨X15, hor⟩ => ?_
  rcases hor with ⟨hn, _⟩ | ⟨_, a1, c1, he, hO⟩
  · rw [hr] at hn; cases hn
  refine ⟨a1, _, c1, _, he, ?_⟩
  have X := X10.trans X15
  have hel := ent_len hr
  refine (W.Bytes_spec (h.no X) (by omega) hO.row (by omega)).mono fun x w18 ⟨a2, c2, he, hO2, X18⟩ => ⟨a2, _, c2, he, a2, c2, ?_, ?_, X.trans X18⟩
  · unfold encE; rw [List.append_assoc]
  · unfold encE; rw [← List.append_assoc]; exact OwnB.up hO2 X.size
theorem Q3Q {z : Fr} (hz : x.r = z) (h : x.at w) (hf : x.r.fit) (hl : x.r.v.length ≤ 1000) :
    Calls Try.prog 9 #[x.V] w (fun u w' => ∃ a c, u = .returned (.tuple #[.slice a (frK z).1.length c, .int .i64 (frK z).2]) ∧ OwnB w.heap.size w' a c (frK z).1 ∧ Ext no w w') := by
  obtain ⟨⟨kd, e, f, who, v, sg⟩, ea, ec, fa, fc, va, vc⟩ := x
  have hx : Fr.mk kd e f who v sg = z := hz
  obtain ⟨he, hf1, hv⟩ := id h
  obtain ⟨fe, ff, fv, fs⟩ := hf
  have he : RowAt w ea (bytesV e.body) := he
  have hf1 : RowAt w fa (bytesV f.body) := hf1
  have hv : RowAt w va (hsC v) := hv
  have fe : e.fit := fe
  have ff : f.fit := ff
  have fv : ∀ h ∈ v, 0 ≤ h.2.2 ∧ h.2.2 < 18446744073709551616 := fv
  have fs : 0 ≤ sg ∧ sg < 18446744073709551616 := fs
  have hl : v.length ≤ 1000 := hl
  have hR : ∀ {l : List UInt8} {a : Option Addr} {c : Nat} {w2 : World}, frOK z = true → l = frL z → OwnB w.heap.size w2 a c l → Ext no w w2 →
      (((l.length : Int) > 4000 → (∃ a c, (.tuple #[.slice none 0 0, .int .i64 3] : Value) = (.tuple #[.slice a (frK z).1.length c, .int .i64 (frK z).2]) ∧ OwnB w.heap.size w2 a c (frK z).1 ∧ Ext no w w2)) ∧
       ((l.length : Int) ≤ 4000 → (∃ a' c', (.tuple #[.slice a l.length c, .int .i64 0] : Value) = (.tuple #[.slice a' (frK z).1.length c', .int .i64 (frK z).2]) ∧ OwnB w.heap.size w2 a' c' (frK z).1 ∧ Ext no w w2))) := fun {l a c w2} hk hl hO X => by
    subst hl
    refine ⟨fun hg => ?_, fun hg => ?_⟩
    · have e : frK z = ([], 3) := by unfold frK; rw [hk, if_neg (by decide), if_pos (by omega)]
      rw [e]; exact ⟨none, 0, rfl, OwnB.nil _ _, X⟩
    · have e : frK z = (frL z, 0) := by unfold frK; rw [hk, if_neg (by decide), if_neg (by omega)]
      rw [e]; exact ⟨a, c, rfl, hO, X⟩
  refine (Q0v.go kd e.w e.i e.pv e.t e.tw e.ep ea e.body.length ec e.sg f.w f.i f.pv f.t f.tw f.ep fa f.body.length fc f.sg who va v.length vc sg (R := fun u w' => ∃ a c, u = (.tuple #[.slice a (frK z).1.length c, .int .i64 (frK z).2]) ∧ OwnB w.heap.size w' a c (frK z).1 ∧ Ext no w w') ?_).mono fun u w' ⟨v, he, a, c, hv, hw⟩ => ⟨a, c, by rw [he, hv], hw⟩
  unfold Q0v.N
  intro w21 p22 X21 hp
  have at21 := h.no X21
  refine (Q1X at21 (by show v.length < 1000000; omega)).mono fun u w25 ⟨hu, X25⟩ => ⟨_, hu, X25.kept, fun hk => ?_, fun hk => ?_⟩
  · have hk : frOK ⟨kd, e, f, who, v, sg⟩ = false := hk
    rw [hx] at hk
    have ek : frK z = ([], 1) := by unfold frK; rw [if_pos hk]
    rw [ek]; exact ⟨none, 0, rfl, OwnB.nil _ _, X21.trans X25⟩
  have hk : frOK ⟨kd, e, f, who, v, sg⟩ = true := hk
  have hkd := frOK_kd hk
  simp only at hkd
  have hle := fun h => frOK_e hk h
  have hlf := fun h => frOK_f hk h
  have hlv := fun h => frOK_v hk h
  simp only at hle hlf hlv
  have Y25 := X21.trans X25
  rw [wu64 (n := kd) (by omega) (by omega)]
  have ekd : kd = ((kd.toNat : Nat) : Int) := by omega
  have key : ∀ {K : Int}, K = kd → Calls Try.prog 26 #[.slice none 0 0, .int .u64 K] w25 (fun e w' => ∃ a' c', e = .returned (.slice a' (numL kd.toNat).length c') ∧ OwnB w25.heap.size w' a' c' (numL kd.toNat) ∧ Ext no w25 w') := fun {K} hK => by
    rw [hK, ekd]
    exact W.Num_spec (bs := []) (c := 0) (RowAt.nil _ _) (by simp) (n := kd.toNat) (by omega)
  refine (key rfl).mono fun u w29 ⟨a1, c1, hu, hO1, X29⟩ => ⟨a1, _, c1, hu, X29.kept, fun k1 => ?_, fun k1 => ⟨fun k4 w36 X36 => ?_, fun k4 => ?_⟩⟩
  all_goals have Y29 := Y25.trans X29
  all_goals have n1 := W.numL_le kd.toNat
  · have hre := hle (.inl k1)
    refine (Q2E (e := e) hO1.row (by omega) hre fe (he.no Y29)).mono fun u w33 ⟨a2, c2, hu, hO2, X33⟩ => ⟨a2, _, c2, hu, ?_⟩
    exact hR (hx ▸ hk) (by rw [← hx]; unfold frL frP; rw [if_pos k1]) (OwnB.up hO2 Y29.size) (Y29.trans X33)
  · have hre := hle (.inr k4)
    have hrf := hlf k4
    have Y36 := Y29.trans X36
    refine (Q2E (e := e) (hO1.row.no X36) (by omega) hre fe (he.no Y36)).mono fun u w39 ⟨a2, c2, hu, hO2, X39⟩ => ⟨a2, _, c2, hu, X39.kept, ?_⟩
    have Y39 := Y36.trans X39
    have l2 := Q4i hre
    refine (Q2E (e := f) hO2.row (by rw [List.length_append]; omega) hrf ff (hf1.no Y39)).mono fun u w42 ⟨a3, c3, hu, hO3, X42⟩ => ⟨a3, _, c3, hu, ?_⟩
    exact hR (hx ▸ hk) (by rw [← hx]; unfold frL frP; rw [if_neg k1, if_pos k4, List.append_assoc]) (OwnB.up hO3 Y39.size) (Y39.trans X42)
  · obtain ⟨w0, w8, hrv⟩ := hlv (by omega)
    have ewho : who = ((who.toNat : Nat) : Int) := by omega
    refine (Q3c (hv.no Y29) hl (vnat fv)).mono fun u w47 ⟨X47, hor⟩ => ?_
    rcases hor with ⟨hn, _⟩ | ⟨_, a2, c2, hu, hO2⟩
    · rw [hrv] at hn; cases hn
    refine ⟨a2, _, c2, _, hu, X47.kept, ?_⟩
    rw [wu64 (n := who) (by omega) (by omega)]
    have key2 : ∀ {K : Int}, K = who → Calls Try.prog 26 #[.slice a1 (numL kd.toNat).length c1, .int .u64 K] w47 (fun e w' => ∃ a' c', e = .returned (.slice a' (numL kd.toNat ++ numL who.toNat).length c') ∧ OwnB w47.heap.size w' a' c' (numL kd.toNat ++ numL who.toNat) ∧ Ext no w47 w') := fun {K} hK => by
      rw [hK, ewho]
      exact W.Num_spec (hO1.row.no X47) (by omega) (n := who.toNat) (by omega)
    have n2 := W.numL_le who.toNat
    have n3 := vec_len hrv
    have Y47 := Y29.trans X47
    refine (key2 rfl).mono fun u w50 ⟨a3, c3, hu, hO3, X50⟩ => ⟨a3, _, c3, hu, X50.kept, ?_⟩
    have Y50 := Y47.trans X50
    refine (W.Bytes_spec hO3.row (by rw [List.length_append]; omega) (hO2.row.no X50) (by omega)).mono fun u w53 ⟨a4, c4, hu, hO4, X53⟩ => ⟨a4, _, c4, hu, X53.kept, fun k3 => ?_, fun k3 => ?_⟩
    all_goals have Y53 := Y50.trans X53
    · have n4 := W.numL_le (vecL v).length
      have esg : sg = ((sg.toNat : Nat) : Int) := by omega
      have key3 : ∀ {K : Int}, K = sg → Calls Try.prog 26 #[.slice a4 (numL kd.toNat ++ numL who.toNat ++ numL (vecL v).length ++ vecL v).length c4, .int .u64 K] w53 (fun e w' => ∃ a' c', e = .returned (.slice a' (numL kd.toNat ++ numL who.toNat ++ numL (vecL v).length ++ vecL v ++ numL sg.toNat).length c') ∧ OwnB w53.heap.size w' a' c' (numL kd.toNat ++ numL who.toNat ++ numL (vecL v).length ++ vecL v ++ numL sg.toNat) ∧ Ext no w53 w') := fun {K} hK => by
        rw [hK, esg]
        exact W.Num_spec hO4.row (by simp only [List.length_append]; omega) (n := sg.toNat) (by omega)
      refine (key3 rfl).mono fun u w57 ⟨a5, c5, hu, hO5, X57⟩ => ⟨a5, _, c5, hu, ?_⟩
      exact hR (hx ▸ hk) (by rw [← hx]; unfold frL frP encV; rw [if_neg k1, if_neg k4, if_pos k3]; simp only [List.append_assoc]) (OwnB.up hO5 Y53.size) (Y53.trans X57)
    · exact hR (hx ▸ hk) (by rw [← hx]; unfold frL frP encV; rw [if_neg k1, if_neg k4, if_neg k3]; simp only [List.append_assoc]) (OwnB.up hO4 Y50.size) Y53
theorem Q2Y (h : x.at w) (hf : x.r.fit) (hl : x.r.v.length ≤ 1000) :
    Calls Try.prog 9 #[x.V] w (fun u w' => ∃ a c, u = .returned (.tuple #[.slice a (frK x.r).1.length c, .int .i64 (frK x.r).2]) ∧ OwnB w.heap.size w' a c (frK x.r).1 ∧ Ext no w w') := Q3Q rfl h hf hl
end
set_option maxRecDepth 100000
def Q0a.M  (R : RW) (w : World) : Prop :=
 thenW (w.alloc (.cells #[.int .u8 97] 5)) fun cr =>
 ∃ (cp : Option Addr) (co cq : Nat) (ci : World), (convert 25 25 (.slice (some (blk w.heap.size)) 1 1)).run Try.prog cr = .ok (.slice cp co cq) ci ∧
 thenW (ci.alloc (.cells #[.slice cp co cq, .slice none 0 0] 25)) fun cu =>
 Calls Try.prog 16 #[.slice (some (blk ci.heap.size)) 2 2] cu fun cs cn => ∃ (bo : Option Addr) (bk bl : Nat) (bx : Int), cs = .returned (.tuple #[.slice bo bk bl, .int .i64 bx]) ∧
 thenW (cn.alloc (.cells #[.int .u8 120] 5)) fun ct =>
 ∃ (c3 : Option Addr) (c5 c6 : Nat) (bu : World), (convert 25 25 (.slice (some (blk cn.heap.size)) 1 1)).run Try.prog ct = .ok (.slice c3 c5 c6) bu ∧
 thenW (bu.alloc (.cells #[.int .i64 0, .int .i64 0, .int .u64 0, .int .i64 0, .int .i64 0, .int .i64 0, .slice none 0 0, .int .u64 0] 27)) fun cl =>
 putsK cl (blk bu.heap.size) [.int .i64 1, .int .i64 0, .int .u64 0, .int .i64 5, .int .i64 1, .int .i64 0, .slice c3 c5 c6, .int .u64 9] 0 fun ca =>
 ∃ (a3 ae b1 bq bg a9 : Int) (ac : Option Addr) (ay ab : Nat) (bc : Int), cellsAt ca (blk bu.heap.size) [.int .i64 a3, .int .i64 ae, .int .u64 b1, .int .i64 bq, .int .i64 bg, .int .i64 a9, .slice ac ay ab, .int .u64 bc] 0 ∧
 Calls Try.prog 25 #[.agg #[.int .i64 a3, .int .i64 ae, .int .u64 b1, .int .i64 bq, .int .i64 bg, .int .i64 a9, .slice ac ay ab, .int .u64 bc]] ca fun ch ck => ∃ (bd a1 am b4 bn bm al : Int) (ax : Option Addr) (ak aa : Nat) (b6 a0 ar b5 br bb av : Int) (a8 : Option Addr) (ag aw : Nat) (b9 c1 : Int) (cb : Option Addr) (c8 c7 : Nat) (bv : Int), ch = .returned (.agg #[.int .i64 bd, .int .i64 a1, .int .i64 am, .int .u64 b4, .int .i64 bn, .int .i64 bm, .int .i64 al, .slice ax ak aa, .int .u64 b6, .int .i64 a0, .int .i64 ar, .int .u64 b5, .int .i64 br, .int .i64 bb, .int .i64 av, .slice a8 ag aw, .int .u64 b9, .int .i64 c1, .slice cb c8 c7, .int .u64 bv]) ∧
 Calls Try.prog 9 #[.agg #[.int .i64 bd, .int .i64 a1, .int .i64 am, .int .u64 b4, .int .i64 bn, .int .i64 bm, .int .i64 al, .slice ax ak aa, .int .u64 b6, .int .i64 a0, .int .i64 ar, .int .u64 b5, .int .i64 br, .int .i64 bb, .int .i64 av, .slice a8 ag aw, .int .u64 b9, .int .i64 c1, .slice cb c8 c7, .int .u64 bv]] ck fun cm cf => ∃ (a5 : Option Addr) (an a6 : Nat) (b0 : Int), cm = .returned (.tuple #[.slice a5 an a6, .int .i64 b0]) ∧
 Calls Try.prog 11 #[.slice a5 an a6] cf fun cd bt => ∃ (bf a4 ao b2 b7 b8 ad : Int) (ah : Option Addr) (au ai : Nat) (bi a2 af b3 bj be aj : Int) (a7 : Option Addr) (aq ap : Nat) (bp bz : Int) (cc : Option Addr) (c4 c9 : Nat) (c0 bh : Int), cd = .returned (.tuple #[.agg #[.int .i64 bf, .int .i64 a4, .int .i64 ao, .int .u64 b2, .int .i64 b7, .int .i64 b8, .int .i64 ad, .slice ah au ai, .int .u64 bi, .int .i64 a2, .int .i64 af, .int .u64 b3, .int .i64 bj, .int .i64 be, .int .i64 aj, .slice a7 aq ap, .int .u64 bp, .int .i64 bz, .slice cc c4 c9, .int .u64 c0], .int .i64 bh]) ∧
 thenW (bt.alloc (.cells #[.int .i64 0, .int .i64 0, .int .i64 0, .int .u64 0, .int .i64 0, .int .i64 0, .int .i64 0, .slice none 0 0, .int .u64 0, .int .i64 0, .int .i64 0, .int .u64 0, .int .i64 0, .int .i64 0, .int .i64 0, .slice none 0 0, .int .u64 0, .int .i64 0, .slice none 0 0, .int .u64 0] 38)) fun cj =>
 putsK cj (blk bt.heap.size) [.int .i64 bf, .int .i64 a4, .int .i64 ao, .int .u64 b2, .int .i64 b7, .int .i64 b8, .int .i64 ad, .slice ah au ai, .int .u64 bi, .int .i64 a2, .int .i64 af, .int .u64 b3, .int .i64 bj, .int .i64 be, .int .i64 aj, .slice a7 aq ap, .int .u64 bp, .int .i64 bz, .slice cc c4 c9, .int .u64 c0] 0 fun c2 =>
 bif bx == 0 then (
 thenW (c2.alloc (.cells #[.int .u8 2, .int .u8 1, .int .u8 97, .int .u8 0] 5)) fun cg =>
 Calls Try.prog 14 #[.slice bo bk bl, .slice (some (blk c2.heap.size)) 4 4] cg fun ce az => ∃ (bs : Bool), ce = .returned (.bool bs) ∧
 bif bs then (
 bif b0 == 0 then (
 bif bh == 0 then (
 ∃ (ba : Int), az.cell? ((blk bt.heap.size).add 0) = some (.int .i64 ba) ∧
 bif ba == 1 then (
 ∃ (bw : Int), az.cell? (((blk bt.heap.size).add 1).add 7) = some (.int .u64 bw) ∧
 R (.bool (bw == 9)) az) else (
 R (.bool false) az)) else (
 R (.bool false) az)) else (
 R (.bool false) az)) else (
 R (.bool false) az)) else (
 R (.bool false) c2)

theorem Q0a.ok  {R : RW} {w : World} (h : Q0a.M  R w) : Calls Try.prog 8 #[] w fun e w' => ∃ v, e = .returned v ∧ R v w' :=
  Q09 follows (H := []) (args := []) (cast (by kernel_rfl) h)

def Q0a.N  (R : RW) (w : World) : Prop :=
 ∀ (c3 : World) (q2 : Nat), Ext no w c3 → Blk c3 q2 5 [.int .u8 97] → w.heap.size ≤ q2 → q2 < c3.heap.size →
 ∃ (ci : Option Addr) (ch cf : Nat) (ce : World), (convert 25 25 (.slice (some (blk q2)) 1 1)).run Try.prog c3 = .ok (.slice ci ch cf) ce ∧
 ∀ (c2 : World) (q6 : Nat), Ext no ce c2 → Blk c2 q6 25 [.slice ci ch cf, .slice none 0 0] → ce.heap.size ≤ q6 → q6 < c2.heap.size →
 Calls Try.prog 16 #[.slice (some (blk q6)) 2 2] c2 fun cj bq => ∃ (b5 : Option Addr) (bb aw : Nat) (b0 : Int), cj = .returned (.tuple #[.slice b5 bb aw, .int .i64 b0]) ∧
 ∀ (bd : World) (c4 : Nat), Ext no bq bd → Blk bd c4 5 [.int .u8 120] → bq.heap.size ≤ c4 → c4 < bd.heap.size →
 ∃ (bv : Option Addr) (bt bz : Nat) (bo : World), (convert 25 25 (.slice (some (blk c4)) 1 1)).run Try.prog bd = .ok (.slice bv bt bz) bo ∧
 ∀ (c1 : World), Ext no bo c1 →
 Calls Try.prog 25 #[.agg #[.int .i64 1, .int .i64 0, .int .u64 0, .int .i64 5, .int .i64 1, .int .i64 0, .slice bv bt bz, .int .u64 9]] c1 fun c6 c7 => ∃ (av a1 af ak aq b7 a5 : Int) (a7 : Option Addr) (a8 a9 : Nat) (b8 a0 a4 aj ar b2 a6 : Int) (ad : Option Addr) (ae ab : Nat) (ap bh : Int) (c0 : Option Addr) (bu bx : Nat) (bi : Int), c6 = .returned (.agg #[.int .i64 av, .int .i64 a1, .int .i64 af, .int .u64 ak, .int .i64 aq, .int .i64 b7, .int .i64 a5, .slice a7 a8 a9, .int .u64 b8, .int .i64 a0, .int .i64 a4, .int .u64 aj, .int .i64 ar, .int .i64 b2, .int .i64 a6, .slice ad ae ab, .int .u64 ap, .int .i64 bh, .slice c0 bu bx, .int .u64 bi]) ∧
 Calls Try.prog 9 #[.agg #[.int .i64 av, .int .i64 a1, .int .i64 af, .int .u64 ak, .int .i64 aq, .int .i64 b7, .int .i64 a5, .slice a7 a8 a9, .int .u64 b8, .int .i64 a0, .int .i64 a4, .int .u64 aj, .int .i64 ar, .int .i64 b2, .int .i64 a6, .slice ad ae ab, .int .u64 ap, .int .i64 bh, .slice c0 bu bx, .int .u64 bi]] c7 fun ca cc => ∃ (ac : Option Addr) (aa a3 : Nat) (a2 : Int), ca = .returned (.tuple #[.slice ac aa a3, .int .i64 a2]) ∧
 Calls Try.prog 11 #[.slice ac aa a3] cc fun c8 bg => ∃ (ai am ao bf bj bk b4 : Int) (ba : Option Addr) (b9 b1 : Nat) (b6 al bc be bm bl au : Int) (ay : Option Addr) (ax az : Nat) (bn br : Int) (c9 : Option Addr) (cd c5 : Nat) (bw ah : Int), c8 = .returned (.tuple #[.agg #[.int .i64 ai, .int .i64 am, .int .i64 ao, .int .u64 bf, .int .i64 bj, .int .i64 bk, .int .i64 b4, .slice ba b9 b1, .int .u64 b6, .int .i64 al, .int .i64 bc, .int .u64 be, .int .i64 bm, .int .i64 bl, .int .i64 au, .slice ay ax az, .int .u64 bn, .int .i64 br, .slice c9 cd c5, .int .u64 bw], .int .i64 ah]) ∧
 (b0 = 0 →
 ∀ (b3 : World) (bs cg : Nat), Ext no bg b3 → Blk b3 bs 5 [.int .u8 2, .int .u8 1, .int .u8 97, .int .u8 0] → bg.heap.size ≤ bs → bs < b3.heap.size → Privq bg bs [cg] →
 Calls Try.prog 14 #[.slice b5 bb aw, .slice (some (blk bs)) 4 4] b3 fun cb an => ∃ (ag : Bool), cb = .returned (.bool ag) ∧
 Keep [cg] b3 an ∧
 (ag = true →
 (a2 = 0 →
 (ah = 0 →
 (ai = 1 →
 R (.bool (b6 == 9)) an) ∧
 (ai ≠ 1 →
 R (.bool false) an)) ∧
 (ah ≠ 0 →
 R (.bool false) an)) ∧
 (a2 ≠ 0 →
 R (.bool false) an)) ∧
 (ag = false →
 R (.bool false) an)) ∧
 (b0 ≠ 0 →
 ∀ (bp : World), Ext no bg bp →
 R (.bool false) bp)

theorem Q0a.up  {R : RW} {w : World} (h : Q0a.N  R w) : Q0a.M  R w := by
  unfold Q0a.M
  unfold Q0a.N at h
  refine Q00 fun cs e1 => ?_
  have h := h cs w.heap.size ((Ext.refl no w).x_alloc e1) (Blk.of_new e1) ((Ext.refl no w)).size (Q0s e1)
  obtain ⟨d3, cz, co, c2, hr, h⟩ := h
  refine ⟨d3, cz, co, c2, hr, ?_⟩
  refine Q00 fun cr e5 => ?_
  have h := h cr c2.heap.size ((Ext.refl no c2).x_alloc e5) (Blk.of_new e5) ((Ext.refl no c2)).size (Q0s e5)
  refine h.mono fun d4 bi h => ?_
  obtain ⟨bn, br, bg, bx, he, h⟩ := h
  refine ⟨bn, br, bg, bx, he, ?_⟩
  refine Q00 fun cc c8 => ?_
  have h := h cc bi.heap.size ((Ext.refl no bi).x_alloc c8) (Blk.of_new c8) ((Ext.refl no bi)).size (Q0s c8)
  obtain ⟨bk, bj, bq, b5, hr, h⟩ := h
  refine ⟨bk, bj, bq, b5, hr, ?_⟩
  refine Q00 fun cn ci => ?_
  have b2 := Blk.of_new ci
  have d2 := ((Ext.refl no b5)).size
  have ca := (Ext.refl no b5).x_alloc ci
  refine Q0R (k := 0) (j := 0) b2 (Nat.le_of_ble_eq_true rfl) fun bv cm ck => ?_
  have cd := ca.x_puts cm (.inr d2)
  have b2 : Blk bv b5.heap.size 27 [.int .i64 1, .int .i64 0, .int .u64 0, .int .i64 5, .int .i64 1, .int .i64 0, .slice bk bj bq, .int .u64 9] := ck
  refine ⟨1, 0, 0, 5, 1, 0, bk, bj, bq, 9, ⟨b2.celli 0 rfl rfl, b2.celli 1 rfl rfl, b2.celli 2 rfl rfl, b2.celli 3 rfl rfl, b2.celli 4 rfl rfl, b2.celli 5 rfl rfl, b2.celli 6 rfl rfl, b2.celli 7 rfl rfl, trivial⟩, ?_⟩
  have h := h bv cd
  refine h.mono fun cl cp h => ?_
  obtain ⟨bf, ah, b1, b7, bc, bo, ak, an, aq, ar, bp, ag, aj, b3, bd, bm, al, az, b0, aw, bb, bu, cg, c7, cf, bz, he, h⟩ := h
  refine ⟨bf, ah, b1, b7, bc, bo, ak, an, aq, ar, bp, ag, aj, b3, bd, bm, al, az, b0, aw, bb, bu, cg, c7, cf, bz, he, ?_⟩
  refine h.mono fun cu d0 h => ?_
  obtain ⟨ay, au, ai, b6, he, h⟩ := h
  refine ⟨ay, au, ai, b6, he, ?_⟩
  refine h.mono fun cq b8 h => ?_
  obtain ⟨ad, a1, a2, af, am, ao, a8, aa, a9, a7, ac, a0, ab, ae, av, ap, a3, a5, a4, a6, ax, b9, bw, c0, bt, ba, bs, he, h⟩ := h
  refine ⟨ad, a1, a2, af, am, ao, a8, aa, a9, a7, ac, a0, ab, ae, av, ap, a3, a5, a4, a6, ax, b9, bw, c0, bt, ba, bs, he, ?_⟩
  refine Q00 fun cw ch => ?_
  have b4 := Blk.of_new ch
  have cj := ((Ext.refl no b8)).size
  have c6 := (Ext.refl no b8).x_alloc ch
  refine Q0R (k := 0) (j := 0) b4 (Nat.le_of_ble_eq_true rfl) fun be d1 cx => ?_
  have bh := c6.x_puts d1 (.inr cj)
  have b4 : Blk be b8.heap.size 38 [.int .i64 ad, .int .i64 a1, .int .i64 a2, .int .u64 af, .int .i64 am, .int .i64 ao, .int .i64 a8, .slice aa a9 a7, .int .u64 ac, .int .i64 a0, .int .i64 ab, .int .u64 ae, .int .i64 av, .int .i64 ap, .int .i64 a3, .slice a5 a4 a6, .int .u64 ax, .int .i64 b9, .slice bw c0 bt, .int .u64 ba] := cx
  refine bif_fo (fun c5 => ?_) (fun c5 => ?_)
  ·have h := h.2 (beq_f c5)
   have h := h be bh
   exact h
  have h := h.1 (beq_t c5)
  refine Q00 fun cb c1 => ?_
  have cy := b4.lt
  have b4 := b4.x_alloc c1
  have h := h cb be.heap.size (b8.heap.size) (bh.x_alloc c1) (Blk.of_new c1) (bh).size (Q0s c1) (Privq.cons cj cy Privq.nil)
  refine h.mono fun cv ct h => ?_
  obtain ⟨bl, he, hk, h⟩ := h
  refine ⟨bl, he, ?_⟩
  have b4 := hk.blk b4 (by simp)
  refine bif_fo (fun ce => ?_) (fun ce => ?_)
  ·have h := h.2 ce
   exact h
  have h := h.1 ce
  refine bif_fo (fun c9 => ?_) (fun c9 => ?_)
  ·have h := h.2 (beq_f c9)
   exact h
  have h := h.1 (beq_t c9)
  refine bif_fo (fun c3 => ?_) (fun c3 => ?_)
  ·have h := h.2 (beq_f c3)
   exact h
  have h := h.1 (beq_t c3)
  refine ⟨ad, b4.celli 0 rfl rfl, ?_⟩
  refine bif_fo (fun c4 => ?_) (fun c4 => ?_)
  ·have h := h.2 (beq_f c4)
   exact h
  have h := h.1 (beq_t c4)
  refine ⟨ac, b4.celli 8 rfl rfl, ?_⟩
  exact h

theorem Q0a.go  {R : RW} {w : World} (h : Q0a.N  R w) : Calls Try.prog 8 #[] w fun e w' => ∃ v, e = .returned v ∧ R v w' := Q0a.ok  (Q0a.up  h)
theorem Q0a.run  {V : Value} {Q : World → Prop} {w : World} (h : Q0a.N  (fun v w' => v = V ∧ Q w') w) : Calls Try.prog 8 #[] w (Ret V Q) := (Q0a.go  h).mono fun e w' ⟨v, he, hv, hq⟩ => ⟨by rw [he, hv], hq⟩

end Go.Proofs.Ytlgpeojjmapnjaa
namespace Go.Proofs.Ytlgpeojjmapnjaa
open Go Go.Mx Go.Proofs
def Q03.M (a4 : Option Addr) (a3 a5 a7 : Nat) (a8 a2 : Array Value) (R : RW) (w : World) : Prop :=
 Calls Try.prog 63 #[.slice a4 a3 a5, .func (.func a7) a8 a2] w fun a1 a6 => ∃ (a0 : Int), a1 = .returned (.int .i64 a0) ∧
 R (.bool (decide (a0 ≥ 0))) a6

theorem Q03.ok (a3 : Option Addr) (a1 a2 a4 : Nat) (a5 a0 : Array Value) {R : RW} {w : World} (h : Q03.M a3 a1 a2 a4 a5 a0 R w) : Calls Try.prog 37 #[.slice a3 a1 a2, .func (.func a4) a5 a0] w fun e w' => ∃ v, e = .returned v ∧ R v w' :=
  Q09 follows (H := []) (args := [.slice a3 a1 a2, .func (.func a4) a5 a0]) (cast (by kernel_rfl) h)

def Q03.N (a4 : Option Addr) (a3 a5 a7 : Nat) (a8 a2 : Array Value) (R : RW) (w : World) : Prop :=
 Calls Try.prog 63 #[.slice a4 a3 a5, .func (.func a7) a8 a2] w fun a1 a6 => ∃ (a0 : Int), a1 = .returned (.int .i64 a0) ∧
 R (.bool (decide (a0 ≥ 0))) a6

theorem Q03.up (a4 : Option Addr) (a2 a3 a5 : Nat) (a6 a1 : Array Value) {R : RW} {w : World} (h : Q03.N a4 a2 a3 a5 a6 a1 R w) : Q03.M a4 a2 a3 a5 a6 a1 R w := by
  unfold Q03.M
  unfold Q03.N at h
  refine h.mono fun a7 a8 h => ?_
  obtain ⟨a0, he, h⟩ := h
  refine ⟨a0, he, ?_⟩
  exact h

theorem Q03.go (a3 : Option Addr) (a1 a2 a4 : Nat) (a5 a0 : Array Value) {R : RW} {w : World} (h : Q03.N a3 a1 a2 a4 a5 a0 R w) : Calls Try.prog 37 #[.slice a3 a1 a2, .func (.func a4) a5 a0] w fun e w' => ∃ v, e = .returned v ∧ R v w' := Q03.ok a3 a1 a2 a4 a5 a0 (Q03.up a3 a1 a2 a4 a5 a0 h)
theorem Q03.run (a3 : Option Addr) (a1 a2 a4 : Nat) (a5 a0 : Array Value) {V : Value} {Q : World → Prop} {w : World} (h : Q03.N a3 a1 a2 a4 a5 a0 (fun v w' => v = V ∧ Q w') w) : Calls Try.prog 37 #[.slice a3 a1 a2, .func (.func a4) a5 a0] w (Ret V Q) := (Q03.go a3 a1 a2 a4 a5 a0 h).mono fun e w' ⟨v, he, hv, hq⟩ => ⟨by rw [he, hv], hq⟩

def Q07.M (ae : Option Addr) (ab af a6 : Nat) (ad a9 : Array Value) (R : RW) (w : World) : Prop :=
 ∃ (I0 : Nat → List Value → World → Prop) (m4 : Nat), I0 m4 [.int .i64 0] w ∧ ∀ (m5 : Nat) (a2 : World) (t3 : Int), I0 m5 [.int .i64 t3] a2 →
 bif decide (t3 < (ab : Int)) then (
 ae.elim False fun a7 =>
 0 ≤ (t3 : Int) ∧ (t3 : Int) < (ab : Int) ∧
 ∃ (a5 : Option Addr) (a3 a8 : Nat), a2.cell? (a7.add (Int.toNat t3 * 1)) = some (.slice a5 a3 a8) ∧
 bif enters Try.prog a6 then Calls Try.prog a6 (ad.toList ++ ([.slice a5 a3 a8] : List Value) ++ a9.toList).toArray a2 (fun a4 a1 => ∃ (r9 : Bool), a4 = .returned (.bool r9) ∧
 bif r9 then (
 R (.int .i64 t3) a1) else (
 ∃ ac, ac < m5 ∧ I0 ac [.int .i64 (IntKind.i64.wrap (t3 + 1))] a1)) else (∃ (r9 : Bool) (a0 : World), (Q1N a6 (ad.toList ++ ([.slice a5 a3 a8] : List Value) ++ a9.toList).toArray).run Try.prog a2 = .ok (.bool r9) a0 ∧
 bif r9 then (
 R (.int .i64 t3) a0) else (
 ∃ aa, aa < m5 ∧ I0 aa [.int .i64 (IntKind.i64.wrap (t3 + 1))] a0))) else (
 R (.int .i64 (-1)) a2)

theorem Q07.ok (a3 : Option Addr) (a1 a2 a4 : Nat) (a5 a0 : Array Value) {R : RW} {w : World} (h : Q07.M a3 a1 a2 a4 a5 a0 R w) : Calls Try.prog 63 #[.slice a3 a1 a2, .func (.func a4) a5 a0] w fun e w' => ∃ v, e = .returned v ∧ R v w' :=
  Q09 follows (H := [(0, [0, 1, 7], [(8, (.one (.int .i64)))])]) (args := [.slice a3 a1 a2, .func (.func a4) a5 a0]) (cast (by kernel_rfl) h)

def Q07.N (ac : Option Addr) (a6 ae aa : Nat) (ad ab : Array Value) (R : RW) (w : World) : Prop :=
 ∃ (I0 : Nat → List Value → World → Prop) (m4 : Nat), I0 m4 [.int .i64 0] w ∧ ∀ (m5 : Nat) (a4 : World) (t3 : Int), I0 m5 [.int .i64 t3] a4 →
 (t3 < (a6 : Int) →
 ∃ a8 : Addr, ac = some a8 ∧
 0 ≤ (t3 : Int) ∧ (t3 : Int) < (a6 : Int) ∧
 ∃ (a3 : Option Addr) (a1 a2 : Nat), a4.cell? (a8.add (Int.toNat t3 * 1)) = some (.slice a3 a1 a2) ∧
 enters Try.prog aa = true ∧ Calls Try.prog aa (ad.toList ++ ([.slice a3 a1 a2] : List Value) ++ ab.toList).toArray a4 (fun a5 a0 => ∃ (a7 : Bool), a5 = .returned (.bool a7) ∧
 (a7 = true →
 R (.int .i64 t3) a0) ∧
 (a7 = false →
 (-9223372036854775808 : Int) ≤ (t3 + 1) ∧ (t3 + 1) < 9223372036854775808 ∧
 ∃ a9, a9 < m5 ∧ I0 a9 [.int .i64 (t3 + 1)] a0))) ∧
 ((a6 : Int) ≤ t3 →
 R (.int .i64 (-1)) a4)

theorem Q07.up (a4 : Option Addr) (a7 a9 a5 : Nat) (aa a6 : Array Value) {R : RW} {w : World} (h : Q07.N a4 a7 a9 a5 aa a6 R w) : Q07.M a4 a7 a9 a5 aa a6 R w := by
  unfold Q07.M
  unfold Q07.N at h
  obtain ⟨I0, m4, h0, h⟩ := h
  refine ⟨I0, m4, h0, fun m5 aj t3 hI => ?_⟩
  have h := h m5 aj t3 hI
  refine bif_fo (fun c7 => ?_) (fun c7 => ?_)
  ·have h := h.2 (Int.not_lt.1 (of_decide_eq_false c7))
   exact h
  have h := h.1 (of_decide_eq_true c7)
  obtain ⟨a8, ad, h⟩ := h
  refine Q0p ad ?_
  obtain ⟨ag, ah, h⟩ := h
  refine ⟨ag, ah, ?_⟩
  obtain ⟨a0, a2, a3, al, h⟩ := h
  refine ⟨a0, a2, a3, al, ?_⟩
  obtain ⟨hen, h⟩ := h
  refine bif_tt hen ?_
  refine h.mono fun ak ab h => ?_
  obtain ⟨ac, he, h⟩ := h
  refine ⟨ac, he, ?_⟩
  refine bif_of (fun a1 => ?_) (fun a1 => ?_)
  ·have h := h.1 a1
   exact h
  have h := h.2 a1
  obtain ⟨ae, ai, h⟩ := h
  try rw [w64 ae ai]
  obtain ⟨af, hk, h⟩ := h
  exact ⟨af, hk, h⟩

theorem Q07.go (a3 : Option Addr) (a1 a2 a4 : Nat) (a5 a0 : Array Value) {R : RW} {w : World} (h : Q07.N a3 a1 a2 a4 a5 a0 R w) : Calls Try.prog 63 #[.slice a3 a1 a2, .func (.func a4) a5 a0] w fun e w' => ∃ v, e = .returned v ∧ R v w' := Q07.ok a3 a1 a2 a4 a5 a0 (Q07.up a3 a1 a2 a4 a5 a0 h)
def Q0r.M (a2 : Option Addr) (a0 a1 : Nat) (R : RW) (w : World) : Prop :=
 R (.bool (decide ((a0 : Int) > 4000))) w

theorem Q0r.ok (a2 : Option Addr) (a1 a0 : Nat) {R : RW} {w : World} (h : Q0r.M a2 a1 a0 R w) : Calls Try.prog 38 #[.slice a2 a1 a0] w fun e w' => ∃ v, e = .returned v ∧ R v w' :=
  Q09 follows (H := []) (args := [.slice a2 a1 a0]) (cast (by kernel_rfl) h)

def Q0r.N (a2 : Option Addr) (a0 a1 : Nat) (R : RW) (w : World) : Prop :=
 R (.bool (decide ((a0 : Int) > 4000))) w

theorem Q0r.up (a2 : Option Addr) (a1 a0 : Nat) {R : RW} {w : World} (h : Q0r.N a2 a1 a0 R w) : Q0r.M a2 a1 a0 R w := by
  unfold Q0r.M
  unfold Q0r.N at h
  exact h

theorem Q0r.go (a2 : Option Addr) (a1 a0 : Nat) {R : RW} {w : World} (h : Q0r.N a2 a1 a0 R w) : Calls Try.prog 38 #[.slice a2 a1 a0] w fun e w' => ∃ v, e = .returned v ∧ R v w' := Q0r.ok a2 a1 a0 (Q0r.up a2 a1 a0 h)
theorem Q0r.run (a2 : Option Addr) (a1 a0 : Nat) {V : Value} {Q : World → Prop} {w : World} (h : Q0r.N a2 a1 a0 (fun v w' => v = V ∧ Q w') w) : Calls Try.prog 38 #[.slice a2 a1 a0] w (Ret V Q) := (Q0r.go a2 a1 a0 h).mono fun e w' ⟨v, he, hv, hq⟩ => ⟨by rw [he, hv], hq⟩

set_option maxRecDepth 20000
open W (OwnB Rd numR countR doneR)
section
variable {w w' : World} {x y : FP} {a b : Option Addr} {c d : Nat} {hs gs : List Hd}
def FP.ofE (e : Ent) (a : Option Addr) (c : Nat) : FP := ⟨⟨1, e, Ent.zero, 0, [], 0⟩, a, c, none, 0, none, 0⟩
theorem Q36 (e : Ent) (a : Option Addr) (c : Nat) : Calls Try.prog 25 #[entV e a c] w (Ret (FP.ofE e a c).V fun w' => Ext no w w') := by
  refine Q0w.run e.w e.i e.pv e.t e.tw e.ep a e.body.length c e.sg ?_
  unfold Q0w.N
  exact fun w2 X => ⟨rfl, X⟩
end
/-! ### many parts as one -/
def encB (b : List UInt8) : List UInt8 := numL b.length ++ b
def joinL (l : List (List UInt8)) : List UInt8 := numL l.length ++ l.flatMap encB
def bigs (l : List (List UInt8)) : Bool := l.any fun b => decide (b.length > 4000)
def joinK (l : List (List UInt8)) : List UInt8 × Int := if l.length > 1000 ∨ bigs l = true then ([], 3) else (joinL l, 0)
def joinT (l : List (List UInt8)) (t : Nat) : List UInt8 := numL l.length ++ (l.take t).flatMap encB
theorem Q22 (l : List (List UInt8)) : joinT l l.length = joinL l := by unfold joinT joinL; rw [List.take_length]
theorem Q3u (l : List (List UInt8)) (t : Nat) : (joinT l t).length ≤ (joinL l).length := by
  have e : l.flatMap encB = (l.take t).flatMap encB ++ (l.drop t).flatMap encB := by rw [← List.flatMap_append, List.take_append_drop]
  unfold joinT joinL
  rw [e]
  simp only [List.length_append]; omega
theorem Q1q {l : List (List UInt8)} {t : Nat} {x : List UInt8} (h : l[t]? = some x) : joinT l (t + 1) = joinT l t ++ encB x := by
  unfold joinT
  rw [List.take_add_one, h]
  simp
structure BsAt (w : World) (a : Option Addr) (c : Nat) (l : List BS) : Prop where
  row : RowAt w a (l.map BS.v)
  oks : ∀ x ∈ l, RowAt w x.a (bytesV x.bs) ∧ x.bs.length ≤ x.c
  le : l.length ≤ c
section
variable {w w' : World} {x y : FP} {a b : Option Addr} {c d : Nat} {l : List BS}
theorem BsAt.no (h : BsAt w a c l) (X : Ext no w w') : BsAt w' a c l := ⟨h.row.no X, fun x hx => ⟨(h.oks x hx).1.no X, (h.oks x hx).2⟩, h.le⟩
theorem BsAt.cell (h : BsAt w a c l) {i : Nat} {x : BS} (hi : l[i]? = some x) : ∃ ad, a = some ad ∧ w.cell? (ad.add (i * 1)) = some (.slice x.a x.bs.length x.c) := by
  obtain ⟨ad, ha, hc⟩ := h.row i x.v (by rw [List.getElem?_map, hi]; rfl)
  exact ⟨ad, ha, by rw [Nat.mul_one]; exact hc⟩
theorem Q3M (x : BS) : Calls Try.prog 38 #[.slice x.a x.bs.length x.c] w (Ret (.bool (decide (x.bs.length > 4000))) fun w' => w' = w) := by
  refine Q0r.run _ _ _ ?_
  unfold Q0r.N
  exact ⟨by rw [show decide ((x.bs.length : Int) > 4000) = decide (x.bs.length > 4000) by rw [decide_eq_decide]; omega], rfl⟩
theorem Q2H {l : List BS} : bigs (l.map BS.bs) = true ↔ ∃ x ∈ l, x.bs.length > 4000 := by
  unfold bigs
  rw [List.any_eq_true]
  constructor
  · rintro ⟨b, hb, h⟩
    obtain ⟨x, hx, rfl⟩ := List.mem_map.1 hb
    exact ⟨x, hx, of_decide_eq_true h⟩
  · rintro ⟨x, hx, h⟩
    exact ⟨_, List.mem_map.2 ⟨x, hx, rfl⟩, decide_eq_true h⟩
theorem Q3e {l : List BS} (h : ∀ (i : Nat) (x : BS), l[i]? = some x → x.bs.length ≤ 4000) : bigs (l.map BS.bs) = false := by
  cases hb : bigs (l.map BS.bs) with
  | false => rfl
  | true =>
    obtain ⟨x, hx, hl⟩ := Q2H.1 hb
    obtain ⟨i, hi⟩ := List.mem_iff_getElem?.1 hx
    have := h i x hi
    omega
theorem Q38 (h : BsAt w a c l) (hl : l.length < 1000000) :
    Calls Try.prog 63 #[.slice a l.length c, .func (.func 38) #[] #[]] w fun e w' => ∃ i : Int, e = .returned (.int .i64 i) ∧ decide (i ≥ 0) = bigs (l.map BS.bs) ∧ w' = w := by
  refine (Q07.go a l.length c _ _ _ (R := fun v w' => ∃ i : Int, v = .int .i64 i ∧ decide (i ≥ 0) = bigs (l.map BS.bs) ∧ w' = w) ?_).mono fun e w' ⟨v, he, i, hv, hw⟩ => ⟨i, by rw [he, hv], hw⟩
  unfold Q07.N
  refine ⟨fun m vs w1 => ∃ t : Nat, vs = [.int .i64 t] ∧ m + t = l.length ∧ w1 = w ∧ ∀ i x, i < t → l[i]? = some x → x.bs.length ≤ 4000, l.length, ⟨0, rfl, rfl, rfl, fun i x h => absurd h (by omega)⟩, ?_⟩
  rintro m w6 i ⟨t, hi, hm, rfl, hn⟩
  simp only [List.cons.injEq, Value.int.injEq, true_and, and_true] at hi
  subst hi
  refine ⟨fun ht => ?_, fun ht => ?_⟩
  · have htl : t < l.length := by omega
    have hg : l[t]? = some l[t] := List.getElem?_eq_getElem htl
    generalize l[t] = x at *
    obtain ⟨ad, ha, hc⟩ := h.cell hg
    refine ⟨ad, ha, by omega, by omega, x.a, x.bs.length, x.c, by rw [Int.toNat_natCast]; exact hc, by kernel_rfl, ?_⟩
    refine Calls.mono (Q3M x) fun u w14 ⟨he, hw⟩ => ⟨_, he, fun hy => ?_, fun hno => ⟨by omega, by omega, m - 1, by omega, t + 1, rfl, by omega, hw, fun i y hi hy => ?_⟩⟩
    · refine ⟨_, rfl, ?_, hw⟩
      rw [Q2H.2 ⟨x, List.mem_of_getElem? hg, of_decide_eq_true hy⟩, decide_eq_true (by omega)]
    · by_cases hit : i = t
      · subst hit
        rw [hg] at hy
        cases hy
        have := of_decide_eq_false hno
        omega
      · exact hn i y (by omega) hy
  · refine ⟨_, rfl, ?_, rfl⟩
    rw [Q3e fun i x hx => hn i x (by have := (List.getElem?_eq_some_iff.1 hx).1; omega) hx]; rfl
theorem Q2G (h : BsAt w a c l) (hl : l.length < 1000000) :
    Calls Try.prog 37 #[.slice a l.length c, .func (.func 38) #[] #[]] w (Ret (.bool (bigs (l.map BS.bs))) fun w' => w' = w) := by
  refine Q03.run _ _ _ _ _ _ ?_
  unfold Q03.N
  exact (Q38 h hl).mono fun e w' ⟨i, he, hi, hw⟩ => ⟨i, he, by rw [hi], hw⟩
theorem Q2o (h : BsAt w a c l) (hl : l.length < 1000000) (hz : l.length ≤ 1000 → bigs (l.map BS.bs) = false → (joinL (l.map BS.bs)).length ≤ 900000) :
    Calls Try.prog 16 #[.slice a l.length c] w (fun e w' => ∃ a' c', e = .returned (.tuple #[.slice a' (joinK (l.map BS.bs)).1.length c', .int .i64 (joinK (l.map BS.bs)).2]) ∧ OwnB w.heap.size w' a' c' (joinK (l.map BS.bs)).1 ∧ Ext no w w') := by
  refine (Q0C.go a l.length c (R := fun v w' => ∃ a' c', v = (.tuple #[.slice a' (joinK (l.map BS.bs)).1.length c', .int .i64 (joinK (l.map BS.bs)).2]) ∧ OwnB w.heap.size w' a' c' (joinK (l.map BS.bs)).1 ∧ Ext no w w') ?_).mono fun e w' ⟨v, he, a', c', hv, hw⟩ => ⟨a', c', by rw [he, hv], hw⟩
  unfold Q0C.N
  have leaf : ∀ {w2 : World}, joinK (l.map BS.bs) = ([], 3) → Ext no w w2 → ∃ a' c', (.tuple #[.slice none 0 0, .int .i64 3] : Value) = (.tuple #[.slice a' (joinK (l.map BS.bs)).1.length c', .int .i64 (joinK (l.map BS.bs)).2]) ∧ OwnB w.heap.size w2 a' c' (joinK (l.map BS.bs)).1 ∧ Ext no w w2 := fun {w2} e X => by
    rw [e]; exact ⟨none, 0, rfl, OwnB.nil _ _, X⟩
  refine ⟨fun hg => leaf (by unfold joinK; rw [if_pos (.inl (by rw [List.length_map]; omega))]) (Ext.refl _ _), fun hg => ?_⟩
  refine (Q2G h hl).mono fun u w5 ⟨he, hw⟩ => ⟨_, he, fun hb => leaf (by unfold joinK; rw [if_pos (.inr hb)]) (by rw [hw]; exact Ext.refl _ _), fun hb => ?_⟩
  subst hw
  have hk : joinK (l.map BS.bs) = (joinL (l.map BS.bs), 0) := by unfold joinK; rw [if_neg (by rw [List.length_map, hb]; simp; omega)]
  rw [hk]
  have hz := hz (by omega) hb
  rw [wu64 (n := (l.length : Int)) (by omega) (by omega)]
  refine (W.Num_spec (bs := []) (c := 0) (RowAt.nil _ _) (by simp) (n := l.length) (by omega)).mono fun u w9 ⟨a1, c1, he, hO1, X9⟩ => ⟨a1, _, c1, he, ?_⟩
  have e0 : joinT (l.map BS.bs) 0 = [] ++ numL l.length := by unfold joinT; simp
  refine ⟨fun m vs w1 => ∃ (t : Nat) (a1 : Option Addr) (c1 : Nat), vs = [.slice a1 (joinT (l.map BS.bs) t).length c1, .int .i64 t] ∧ m + t = l.length ∧ OwnB w5.heap.size w1 a1 c1 (joinT (l.map BS.bs) t) ∧ Ext no w5 w1, l.length, ⟨0, a1, c1, by rw [e0]; rfl, rfl, by rw [e0]; exact hO1, X9⟩, ?_⟩
  rintro m w14 ba bn bc i ⟨t, a2, c2, hv, hm, hO, X⟩
  simp only [List.cons.injEq, Value.slice.injEq, Value.int.injEq, true_and, and_true] at hv
  obtain ⟨⟨rfl, rfl, rfl⟩, rfl⟩ := hv
  have hlt := Q3u (l.map BS.bs) t
  refine ⟨fun ht => ?_, fun ht => ?_⟩
  · have htl : t < l.length := by omega
    have hg : l[t]? = some l[t] := List.getElem?_eq_getElem htl
    generalize l[t] = x at *
    have h14 := h.no X
    obtain ⟨ad, ha, hc⟩ := h14.cell hg
    obtain ⟨hx1, hx2⟩ := h14.oks x (List.mem_of_getElem? hg)
    have hm2 : (l.map BS.bs)[t]? = some x.bs := by rw [List.getElem?_map, hg]; rfl
    have est := Q1q hm2
    have hlt2 := Q3u (l.map BS.bs) (t + 1)
    rw [est] at hlt2
    unfold encB at est hlt2
    simp only [List.length_append] at hlt2
    refine ⟨ad, ha, by omega, by omega, x.a, x.bs.length, x.c, by rw [Int.toNat_natCast]; exact hc, ?_⟩
    refine (W.Bytes_spec hO.row (by omega) hx1 (by omega)).mono fun u w21 ⟨a3, c3, he, hO3, X21⟩ => ⟨a3, _, c3, he, by omega, by omega, m - 1, by omega, t + 1, a3, c3, ?_, by omega, ?_, X.trans X21⟩
    · rw [est, List.append_assoc]; rfl
    · rw [est, ← List.append_assoc]; exact OwnB.up hO3 X.size
  · obtain rfl : t = l.length := by omega
    rw [show l.length = (l.map BS.bs).length by rw [List.length_map], Q22] at hO ⊢
    exact ⟨ba, bc, rfl, hO, X⟩
theorem Q2K (w : World) : Calls Try.prog 8 #[] w (Ret (.bool true) fun w' => Ext no w w') := by
  refine Q0a.run ?_
  unfold Q0a.N
  intro w1 q2 X1 hb1 hq1 hq1'
  obtain ⟨w4, hr4, hrow4, X4⟩ := litB Try.underlying25 Try.underlying5 [97] X1 hb1 hq1
  refine ⟨_, _, _, w4, hr4, fun w5 q6 X5 hb5 hq6 hq6' => ?_⟩
  have hJ : joinK [[97], []] = ([2, 1, 97, 0], 0) := by decide
  have hat : BsAt w5 (some (blk q6)) 2 [⟨some (blk q2), 1, [97]⟩, ⟨none, 0, []⟩] := ⟨RowAt.of_blk hb5, fun x hx => by
    simp only [List.mem_cons, List.not_mem_nil, or_false] at hx
    rcases hx with rfl | rfl
    · exact ⟨hrow4.no X5, Nat.le_refl _⟩
    · exact ⟨RowAt.nil _ _, Nat.le_refl _⟩, Nat.le_refl _⟩
  refine (Q2o hat (show (2 : Nat) < 1000000 by decide) (fun _ _ => show (joinL [[97], []]).length ≤ 900000 by decide)).mono fun u w10 ⟨a1, c1, he, hO, X10⟩ => ?_
  rw [show ([⟨some (blk q2), 1, [97]⟩, ⟨none, 0, []⟩] : List BS).map BS.bs = [[97], []] from rfl, hJ] at he hO
  refine ⟨_, _, _, _, he, fun w11 q12 X11 hb11 hq12 hq12' => ?_⟩
  have Y10 := (X4.trans X5).trans X10
  obtain ⟨w14, hr14, hrow14, X14⟩ := litB Try.underlying25 Try.underlying5 [120] X11 hb11 hq12
  refine ⟨_, _, _, w14, hr14, fun w16 X16 => ?_⟩
  have hE : frOK ⟨1, ⟨1, 0, 0, 5, 1, 0, [120], 9⟩, Ent.zero, 0, [], 0⟩ = true := by decide
  have hf : Fr.fit ⟨1, ⟨1, 0, 0, 5, 1, 0, [120], 9⟩, Ent.zero, 0, [], 0⟩ := ⟨⟨by decide, by decide, by decide, by decide⟩, Q4k, fun _ h => (by cases h), by decide⟩
  have hL : frL ⟨1, ⟨1, 0, 0, 5, 1, 0, [120], 9⟩, Ent.zero, 0, [], 0⟩ = [1, 9, 1, 0, 0, 10, 1, 0, 1, 120, 9] := by decide
  have hK : frK ⟨1, ⟨1, 0, 0, 5, 1, 0, [120], 9⟩, Ent.zero, 0, [], 0⟩ = ([1, 9, 1, 0, 0, 10, 1, 0, 1, 120, 9], 0) := by unfold frK; rw [hE, hL]; rfl
  have Y16 := (Y10.trans X14).trans X16
  refine (Q36 ⟨1, 0, 0, 5, 1, 0, [120], 9⟩ (some (blk q12)) 1).mono fun u w39 ⟨he, X39⟩ => ⟨_, _, _, _, _, _, _, _, _, _, _, _, _, _, _, _, _, _, _, _, _, _, _, _, _, _, he, ?_⟩
  have hat2 : (FP.ofE ⟨1, 0, 0, 5, 1, 0, [120], 9⟩ (some (blk q12)) 1).at w39 := ⟨(hrow14.no X16).no X39, RowAt.nil _ _, RowAt.nil _ _⟩
  refine (Q2Y hat2 hf (show (0 : Nat) ≤ 1000 by decide)).mono fun u w43 ⟨a2, c2, he, hO2, X43⟩ => ?_
  rw [show (FP.ofE ⟨1, 0, 0, 5, 1, 0, [120], 9⟩ (some (blk q12)) 1).r = ⟨1, ⟨1, 0, 0, 5, 1, 0, [120], 9⟩, Ent.zero, 0, [], 0⟩ from rfl, hK] at he hO2
  refine ⟨_, _, _, _, he, ?_⟩
  have hrd := Q2M hE hf (by rw [hL]; decide)
  rw [hL] at hrd
  refine (Q31 hO2.row hO2.le).mono fun u w66 ⟨x', he, hx, hxa, X66⟩ => ?_
  rw [hrd] at he hx
  refine ⟨_, _, _, _, _, _, _, _, _, _, _, _, _, _, _, _, _, _, _, _, _, _, _, _, _, _, _, he, fun _ => ?_, fun h => absurd rfl h⟩
  intro w70 q71 p72 X70 hb70 hq70 hq70' hp
  have Y := (((Y16.trans X39).trans X43).trans X66).trans X70
  have hOr : RowAt w70 a1 (bytesV [2, 1, 97, 0]) := hO.row.no (((((X14.trans X16).trans X39).trans X43).trans X66).trans X70)
  refine (W.sameB_spec (x := [2, 1, 97, 0]) (y := [2, 1, 97, 0]) (d := 4) hOr (RowAt.of_blk hb70) (by decide)).mono fun u w75 ⟨he, X75⟩ => ⟨_, he, X75.kept, fun _ => ⟨fun _ => ⟨fun _ => ⟨fun _ => ⟨?_, Y.trans X75⟩, fun h => absurd (by rw [hx]) h⟩, fun h => absurd rfl h⟩, fun h => absurd rfl h⟩, fun h => ?_⟩
  · rw [hx]; rfl
  · simp at h
end
set_option maxRecDepth 100000
set_option maxHeartbeats 40000000
abbrev Q02.J1 (ah : Option Addr) (ai ag : Nat) (af : Option Addr) (ae ad : Nat) (R : RW) (ac : World) : Prop :=
 Calls Try.prog 18 #[.slice ah ai ag] ac fun ab a6 => ∃ (a3 : Option Addr) (a4 a2 : Nat) (a5 : Int), ab = .returned (.tuple #[.slice a3 a4 a2, .int .i64 a5]) ∧
 bif a5 == 0 then (
 Calls Try.prog 20 #[.slice a3 a4 a2, .slice af ae ad] a6 fun a8 a7 => ∃ (a0 : Bool), a8 = .returned (.bool a0) ∧
 bif a0 then (
 Calls Try.prog 8 #[] a7 fun a9 aa => ∃ (a1 : Bool), a9 = .returned (.bool a1) ∧
 R (.bool a1) aa) else (
 R (.bool false) a7)) else (
 R (.bool false) a6)

abbrev Q02.J2 (a5 : Int) (a6 : Option Addr) (a4 a7 : Nat) (a9 : Option Addr) (aa a8 : Nat) (R : RW) (a1 : World) : Prop :=
 bif a5 != 0 then (
 Calls Try.prog 8 #[] a1 fun a3 a2 => ∃ (a0 : Bool), a3 = .returned (.bool a0) ∧
 R (.bool a0) a2) else (
 Q02.J1 a6 a4 a7 a9 aa a8 R a1)

abbrev Q02.J3 (aq : Option Addr) (al bj : Nat) (bm : Option Addr) (bo bp : Nat) (R : RW) (b3 : World) : Prop :=
 ∃ (I0 : Nat → List Value → World → Prop) (bt : Nat), I0 bt [.int .i64 0] b3 ∧ ∀ (ba : Nat) (a0 : World) (ac : Int), I0 ba [.int .i64 ac] a0 →
 bif decide (ac < (al : Int)) then (
 aq.elim False fun bs =>
 0 ≤ (ac : Int) ∧ (ac : Int) < (al : Int) ∧
 ∃ (be : Option Addr) (au ay : Nat), a0.cell? (bs.add (Int.toNat ac * 1)) = some (.slice be au ay) ∧
 bif decide ((au : Int) > 200) then (
 bif decide ((al : Int) > 5) then (
 Calls Try.prog 8 #[] a0 fun b9 bi => ∃ (a6 : Bool), b9 = .returned (.bool a6) ∧
 R (.bool a6) bi) else (
 aq.elim False fun bq =>
 0 ≤ (ac : Int) ∧ (ac : Int) < (al : Int) ∧
 ∃ (bc : Option Addr) (ar b6 : Nat), a0.cell? (bq.add (Int.toNat ac * 1)) = some (.slice bc ar b6) ∧
 bif decide ((ar : Int) > 4100) then (
 Calls Try.prog 8 #[] a0 fun bd bf => ∃ (ab : Bool), bd = .returned (.bool ab) ∧
 R (.bool ab) bf) else (
 ∃ bn, bn < ba ∧ I0 bn [.int .i64 (IntKind.i64.wrap (ac + 1))] a0))) else (
 aq.elim False fun br =>
 0 ≤ (ac : Int) ∧ (ac : Int) < (al : Int) ∧
 ∃ (bk : Option Addr) (av ax : Nat), a0.cell? (br.add (Int.toNat ac * 1)) = some (.slice bk av ax) ∧
 bif decide ((av : Int) > 4100) then (
 Calls Try.prog 8 #[] a0 fun b7 b8 => ∃ (a7 : Bool), b7 = .returned (.bool a7) ∧
 R (.bool a7) b8) else (
 ∃ bl, bl < ba ∧ I0 bl [.int .i64 (IntKind.i64.wrap (ac + 1))] a0))) else (
 Calls Try.prog 16 #[.slice aq al bj] a0 fun bb b2 => ∃ (a3 : Option Addr) (a2 a1 : Nat) (af : Int), bb = .returned (.tuple #[.slice a3 a2 a1, .int .i64 af]) ∧
 Calls Try.prog 17 #[.slice aq al bj] b2 fun b4 bg => ∃ (a5 : Option Addr) (a8 a9 : Nat) (a4 : Int), b4 = .returned (.tuple #[.slice a5 a8 a9, .int .i64 a4]) ∧
 Calls Try.prog 18 #[.slice bm bo bp] bg fun b1 b5 => ∃ (ad : Option Addr) (ag aj : Nat) (an : Int), b1 = .returned (.tuple #[.slice ad ag aj, .int .i64 an]) ∧
 Calls Try.prog 19 #[.slice bm bo bp] b5 fun b0 bh => ∃ (ah : Option Addr) (ak ae : Nat) (am : Int), b0 = .returned (.tuple #[.slice ah ak ae, .int .i64 am]) ∧
 Calls Try.prog 14 #[.slice a3 a2 a1, .slice a5 a8 a9] bh fun aw ao => ∃ (ai : Bool), aw = .returned (.bool ai) ∧
 bif !ai then (
 R (.bool false) ao) else (
 bif af != a4 then (
 R (.bool false) ao) else (
 Calls Try.prog 20 #[.slice ad ag aj, .slice ah ak ae] ao fun az ap => ∃ (aa : Bool), az = .returned (.bool aa) ∧
 bif !aa then (
 R (.bool false) ap) else (
 bif an != am then (
 R (.bool false) ap) else (
 Q02.J2 a4 a3 a2 a1 aq al bj R ap)))))

def Q02.M (a5 : Option Addr) (a2 ab : Nat) (a7 : Option Addr) (a3 aa : Nat) (R : RW) (w : World) : Prop :=
 bif decide ((a2 : Int) > 1100) then (
 Calls Try.prog 8 #[] w fun a4 a9 => ∃ (a1 : Bool), a4 = .returned (.bool a1) ∧
 R (.bool a1) a9) else (
 bif decide ((a3 : Int) > 4100) then (
 Calls Try.prog 8 #[] w fun a6 a8 => ∃ (a0 : Bool), a6 = .returned (.bool a0) ∧
 R (.bool a0) a8) else (
 Q02.J3 a5 a2 ab a7 a3 aa R w))

theorem Q02.ok (a0 : Option Addr) (a1 a5 : Nat) (a3 : Option Addr) (a2 a4 : Nat) {R : RW} {w : World} (h : Q02.M a0 a1 a5 a3 a2 a4 R w) : Calls Try.prog 4 #[.slice a0 a1 a5, .slice a3 a2 a4] w fun e w' => ∃ v, e = .returned v ∧ R v w' :=
  Q09 follows (H := [(0, [0, 1], [(5, (.one (.int .i64)))])]) (args := [.slice a0 a1 a5, .slice a3 a2 a4]) (cast (by kernel_rfl) h)

def Q02.N (b8 : Option Addr) (ai bf : Nat) (c7 : Option Addr) (b6 c8 : Nat) (R : RW) (w : World) : Prop :=
 ((ai : Int) > 1100 →
 Calls Try.prog 8 #[] w fun cb c9 => ∃ (ax : Bool), cb = .returned (.bool ax) ∧
 R (.bool ax) c9) ∧
 ((ai : Int) ≤ 1100 →
 ((b6 : Int) > 4100 →
 Calls Try.prog 8 #[] w fun ca bm => ∃ (an : Bool), ca = .returned (.bool an) ∧
 R (.bool an) bm) ∧
 ((b6 : Int) ≤ 4100 →
 ∃ (I0 : Nat → List Value → World → Prop) (cc : Nat), I0 cc [.int .i64 0] w ∧ ∀ (be : Nat) (a1 : World) (a7 : Int), I0 be [.int .i64 a7] a1 →
 (a7 < (ai : Int) →
 ∃ b7 : Addr, b8 = some b7 ∧
 0 ≤ (a7 : Int) ∧ (a7 : Int) < (ai : Int) ∧
 ∃ (bs : Option Addr) (b3 bi : Nat), a1.cell? (b7.add (Int.toNat a7 * 1)) = some (.slice bs b3 bi) ∧
 ((b3 : Int) > 200 →
 ((ai : Int) > 5 →
 Calls Try.prog 8 #[] a1 fun c4 bw => ∃ (ab : Bool), c4 = .returned (.bool ab) ∧
 R (.bool ab) bw) ∧
 ((ai : Int) ≤ 5 →
 0 ≤ (a7 : Int) ∧ (a7 : Int) < (ai : Int) ∧
 ∃ (bc : Option Addr) (b1 c2 : Nat), a1.cell? (b7.add (Int.toNat a7 * 1)) = some (.slice bc b1 c2) ∧
 ((b1 : Int) > 4100 →
 Calls Try.prog 8 #[] a1 fun bz bh => ∃ (ah : Bool), bz = .returned (.bool ah) ∧
 R (.bool ah) bh) ∧
 ((b1 : Int) ≤ 4100 →
 (-9223372036854775808 : Int) ≤ (a7 + 1) ∧ (a7 + 1) < 9223372036854775808 ∧
 ∃ c6, c6 < be ∧ I0 c6 [.int .i64 (a7 + 1)] a1))) ∧
 ((b3 : Int) ≤ 200 →
 0 ≤ (a7 : Int) ∧ (a7 : Int) < (ai : Int) ∧
 ∃ (bv : Option Addr) (b0 ba : Nat), a1.cell? (b7.add (Int.toNat a7 * 1)) = some (.slice bv b0 ba) ∧
 ((b0 : Int) > 4100 →
 Calls Try.prog 8 #[] a1 fun bq bk => ∃ (aa : Bool), bq = .returned (.bool aa) ∧
 R (.bool aa) bk) ∧
 ((b0 : Int) ≤ 4100 →
 (-9223372036854775808 : Int) ≤ (a7 + 1) ∧ (a7 + 1) < 9223372036854775808 ∧
 ∃ c5, c5 < be ∧ I0 c5 [.int .i64 (a7 + 1)] a1))) ∧
 ((ai : Int) ≤ a7 →
 Calls Try.prog 16 #[.slice b8 ai bf] a1 fun bb bx => ∃ (a3 : Option Addr) (a5 a6 : Nat) (a8 : Int), bb = .returned (.tuple #[.slice a3 a5 a6, .int .i64 a8]) ∧
 Calls Try.prog 17 #[.slice b8 ai bf] bx fun bj bp => ∃ (af : Option Addr) (ae ad : Nat) (a0 : Int), bj = .returned (.tuple #[.slice af ae ad, .int .i64 a0]) ∧
 Calls Try.prog 18 #[.slice c7 b6 c8] bp fun c0 b9 => ∃ (aw : Option Addr) (ak av : Nat) (ap : Int), c0 = .returned (.tuple #[.slice aw ak av, .int .i64 ap]) ∧
 Calls Try.prog 19 #[.slice c7 b6 c8] b9 fun bl bo => ∃ (ao : Option Addr) (ar ay : Nat) (au : Int), bl = .returned (.tuple #[.slice ao ar ay, .int .i64 au]) ∧
 Calls Try.prog 14 #[.slice a3 a5 a6, .slice af ae ad] bo fun c1 b2 => ∃ (a9 : Bool), c1 = .returned (.bool a9) ∧
 (a9 = false →
 R (.bool false) b2) ∧
 (a9 = true →
 (a8 ≠ a0 →
 R (.bool false) b2) ∧
 (a8 = a0 →
 Calls Try.prog 20 #[.slice aw ak av, .slice ao ar ay] b2 fun bn az => ∃ (a4 : Bool), bn = .returned (.bool a4) ∧
 (a4 = false →
 R (.bool false) az) ∧
 (a4 = true →
 (ap ≠ au →
 R (.bool false) az) ∧
 (ap = au →
 (a0 ≠ 0 →
 Calls Try.prog 8 #[] az fun bg bu => ∃ (ag : Bool), bg = .returned (.bool ag) ∧
 R (.bool ag) bu) ∧
 (a0 = 0 →
 Calls Try.prog 18 #[.slice a3 a5 a6] az fun bd b5 => ∃ (al : Option Addr) (aq am : Nat) (aj : Int), bd = .returned (.tuple #[.slice al aq am, .int .i64 aj]) ∧
 (aj = 0 →
 Calls Try.prog 20 #[.slice al aq am, .slice b8 ai bf] b5 fun bt b4 => ∃ (a2 : Bool), bt = .returned (.bool a2) ∧
 (a2 = true →
 Calls Try.prog 8 #[] b4 fun c3 br => ∃ (ac : Bool), c3 = .returned (.bool ac) ∧
 R (.bool ac) br) ∧
 (a2 = false →
 R (.bool false) b4)) ∧
 (aj ≠ 0 →
 R (.bool false) b5)))))))))

theorem Q02.up (bu : Option Addr) (bs bq : Nat) (bt : Option Addr) (br bv : Nat) {R : RW} {w : World} (h : Q02.N bu bs bq bt br bv R w) : Q02.M bu bs bq bt br bv R w := by
  unfold Q02.M
  unfold Q02.N at h
  refine bif_of (fun c3 => ?_) (fun c3 => ?_)
  ·have h := h.1 (of_decide_eq_true c3)
   refine h.mono fun cy cv h => ?_
   obtain ⟨aq, he, h⟩ := h
   refine ⟨aq, he, ?_⟩
   exact h
  have h := h.2 (Int.not_lt.1 (of_decide_eq_false c3))
  refine bif_of (fun c7 => ?_) (fun c7 => ?_)
  ·have h := h.1 (of_decide_eq_true c7)
   refine h.mono fun cx c8 h => ?_
   obtain ⟨ai, he, h⟩ := h
   refine ⟨ai, he, ?_⟩
   exact h
  have h := h.2 (Int.not_lt.1 (of_decide_eq_false c7))
  unfold Q02.J3
  obtain ⟨I0, cs, h0, h⟩ := h
  refine ⟨I0, cs, h0, fun c0 b6 cm hI => ?_⟩
  have h := h c0 b6 cm hI
  refine bif_of (fun bc => ?_) (fun bc => ?_)
  ·have h := h.1 (of_decide_eq_true bc)
   obtain ⟨cw, ah, h⟩ := h
   refine Q0p ah ?_
   obtain ⟨av, aw, h⟩ := h
   refine ⟨av, aw, ?_⟩
   obtain ⟨be, bp, b8, b5, h⟩ := h
   refine ⟨be, bp, b8, b5, ?_⟩
   refine bif_fo (fun bi => ?_) (fun bi => ?_)
   ·have h := h.2 (Int.not_lt.1 (of_decide_eq_false bi))
    refine Q0p ah ?_
    obtain ⟨av, aw, h⟩ := h
    refine ⟨av, aw, ?_⟩
    obtain ⟨bh, b7, az, b4, h⟩ := h
    refine ⟨bh, b7, az, b4, ?_⟩
    refine bif_of (fun bb => ?_) (fun bb => ?_)
    ·have h := h.1 (of_decide_eq_true bb)
     refine h.mono fun ce c5 h => ?_
     obtain ⟨a0, he, h⟩ := h
     refine ⟨a0, he, ?_⟩
     exact h
    have h := h.2 (Int.not_lt.1 (of_decide_eq_false bb))
    obtain ⟨b2, bo, h⟩ := h
    try rw [w64 b2 bo]
    obtain ⟨cc, hk, h⟩ := h
    exact ⟨cc, hk, h⟩
   have h := h.1 (of_decide_eq_true bi)
   refine bif_of (fun bk => ?_) (fun bk => ?_)
   ·have h := h.1 (of_decide_eq_true bk)
    refine h.mono fun cu cl h => ?_
    obtain ⟨a3, he, h⟩ := h
    refine ⟨a3, he, ?_⟩
    exact h
   have h := h.2 (Int.not_lt.1 (of_decide_eq_false bk))
   refine Q0p ah ?_
   obtain ⟨av, aw, h⟩ := h
   refine ⟨av, aw, ?_⟩
   obtain ⟨b3, bf, bm, bd, h⟩ := h
   refine ⟨b3, bf, bm, bd, ?_⟩
   refine bif_of (fun bl => ?_) (fun bl => ?_)
   ·have h := h.1 (of_decide_eq_true bl)
    refine h.mono fun co c2 h => ?_
    obtain ⟨ab, he, h⟩ := h
    refine ⟨ab, he, ?_⟩
    exact h
   have h := h.2 (Int.not_lt.1 (of_decide_eq_false bl))
   obtain ⟨b2, bo, h⟩ := h
   try rw [w64 b2 bo]
   obtain ⟨cd, hk, h⟩ := h
   exact ⟨cd, hk, h⟩
  have h := h.2 (Int.not_lt.1 (of_decide_eq_false bc))
  refine h.mono fun bx cn h => ?_
  obtain ⟨a2, a8, ac, ad, he, h⟩ := h
  refine ⟨a2, a8, ac, ad, he, ?_⟩
  refine h.mono fun c4 cb h => ?_
  obtain ⟨a9, a7, a5, al, he, h⟩ := h
  refine ⟨a9, a7, a5, al, he, ?_⟩
  refine h.mono fun cp bw h => ?_
  obtain ⟨ap, ae, an, ax, he, h⟩ := h
  refine ⟨ap, ae, an, ax, he, ?_⟩
  refine h.mono fun c6 ca h => ?_
  obtain ⟨aj, am, ar, ay, he, h⟩ := h
  refine ⟨aj, am, ar, ay, he, ?_⟩
  refine h.mono fun cq cr h => ?_
  obtain ⟨ao, he, h⟩ := h
  refine ⟨ao, he, ?_⟩
  refine bif_of (fun bj => ?_) (fun bj => ?_)
  ·have h := h.1 (not_t bj)
   exact h
  have h := h.2 (not_f bj)
  refine bif_of (fun ba => ?_) (fun ba => ?_)
  ·have h := h.1 (bne_t ba)
   exact h
  have h := h.2 (bne_f ba)
  refine h.mono fun c9 cf h => ?_
  obtain ⟨a6, he, h⟩ := h
  refine ⟨a6, he, ?_⟩
  refine bif_of (fun b9 => ?_) (fun b9 => ?_)
  ·have h := h.1 (not_t b9)
   exact h
  have h := h.2 (not_f b9)
  refine bif_of (fun b1 => ?_) (fun b1 => ?_)
  ·have h := h.1 (bne_t b1)
   exact h
  have h := h.2 (bne_f b1)
  unfold Q02.J2
  refine bif_of (fun bg => ?_) (fun bg => ?_)
  ·have h := h.1 (bne_t bg)
   refine h.mono fun c1 cj h => ?_
   obtain ⟨aa, he, h⟩ := h
   refine ⟨aa, he, ?_⟩
   exact h
  have h := h.2 (bne_f bg)
  unfold Q02.J1
  refine h.mono fun bz ck h => ?_
  obtain ⟨af, ak, ag, au, he, h⟩ := h
  refine ⟨af, ak, ag, au, he, ?_⟩
  refine bif_fo (fun b0 => ?_) (fun b0 => ?_)
  ·have h := h.2 (beq_f b0)
   exact h
  have h := h.1 (beq_t b0)
  refine h.mono fun ci ch h => ?_
  obtain ⟨a1, he, h⟩ := h
  refine ⟨a1, he, ?_⟩
  refine bif_fo (fun bn => ?_) (fun bn => ?_)
  ·have h := h.2 bn
   exact h
  have h := h.1 bn
  refine h.mono fun ct cg h => ?_
  obtain ⟨a4, he, h⟩ := h
  refine ⟨a4, he, ?_⟩
  exact h

theorem Q02.go (a0 : Option Addr) (a1 a5 : Nat) (a3 : Option Addr) (a2 a4 : Nat) {R : RW} {w : World} (h : Q02.N a0 a1 a5 a3 a2 a4 R w) : Calls Try.prog 4 #[.slice a0 a1 a5, .slice a3 a2 a4] w fun e w' => ∃ v, e = .returned v ∧ R v w' := Q02.ok a0 a1 a5 a3 a2 a4 (Q02.up a0 a1 a5 a3 a2 a4 h)
theorem Q02.run (a0 : Option Addr) (a1 a5 : Nat) (a3 : Option Addr) (a2 a4 : Nat) {V : Value} {Q : World → Prop} {w : World} (h : Q02.N a0 a1 a5 a3 a2 a4 (fun v w' => v = V ∧ Q w') w) : Calls Try.prog 4 #[.slice a0 a1 a5, .slice a3 a2 a4] w (Ret V Q) := (Q02.go a0 a1 a5 a3 a2 a4 h).mono fun e w' ⟨v, he, hv, hq⟩ => ⟨by rw [he, hv], hq⟩

def Q0b.M (af : Option Addr) (a9 ai : Nat) (ah : Option Addr) (ae aj : Nat) (R : RW) (w : World) : Prop :=
 bif (a9 : Int) != (ae : Int) then (
 R (.bool false) w) else (
 ∃ (I0 : Nat → List Value → World → Prop) (m4 : Nat), I0 m4 [.int .i64 0] w ∧ ∀ (m5 : Nat) (a5 : World) (i3 : Int), I0 m5 [.int .i64 i3] a5 →
 bif decide (i3 < (a9 : Int)) then (
 thenW (a5.drew) fun a6 =>
 af.elim False fun a8 =>
 0 ≤ (i3 : Int) ∧ (i3 : Int) < (a9 : Int) ∧
 ∃ (aa : Option Addr) (ab ad : Nat), a6.cell? (a8.add (Int.toNat i3 * 1)) = some (.slice aa ab ad) ∧
 ah.elim False fun ag =>
 0 ≤ (i3 : Int) ∧ (i3 : Int) < (ae : Int) ∧
 ∃ (a1 : Option Addr) (a2 a3 : Nat), a6.cell? (ag.add (Int.toNat i3 * 1)) = some (.slice a1 a2 a3) ∧
 Calls Try.prog 14 #[.slice aa ab ad, .slice a1 a2 a3] a6 fun a7 a4 => ∃ (a0 : Bool), a7 = .returned (.bool a0) ∧
 bif !a0 then (
 R (.bool false) a4) else (
 ∃ ac, ac < m5 ∧ I0 ac [.int .i64 (IntKind.i64.wrap (i3 + 1))] a4)) else (
 R (.bool true) a5))

theorem Q0b.ok (a0 : Option Addr) (a3 a5 : Nat) (a2 : Option Addr) (a1 a4 : Nat) {R : RW} {w : World} (h : Q0b.M a0 a3 a5 a2 a1 a4 R w) : Calls Try.prog 20 #[.slice a0 a3 a5, .slice a2 a1 a4] w fun e w' => ∃ v, e = .returned v ∧ R v w' :=
  Q09 follows (H := [(0, [0, 1], [(5, (.one (.int .i64)))])]) (args := [.slice a0 a3 a5, .slice a2 a1 a4]) (cast (by kernel_rfl) h)

def Q0b.N (ag : Option Addr) (a8 ai : Nat) (ah : Option Addr) (ab aj : Nat) (R : RW) (w : World) : Prop :=
 ((a8 : Int) ≠ (ab : Int) →
 R (.bool false) w) ∧
 ((a8 : Int) = (ab : Int) →
 ∃ (I0 : Nat → List Value → World → Prop) (m5 : Nat), I0 m5 [.int .i64 0] w ∧ ∀ (m6 : Nat) (a2 : World) (i4 : Int), I0 m6 [.int .i64 i4] a2 →
 (i4 < (a8 : Int) →
 ∃ ae : Addr, ag = some ae ∧
 0 ≤ (i4 : Int) ∧ (i4 : Int) < (a8 : Int) ∧
 ∃ (a7 : Option Addr) (a3 a6 : Nat), a2.cell? (ae.add (Int.toNat i4 * 1)) = some (.slice a7 a3 a6) ∧
 ∃ af : Addr, ah = some af ∧
 0 ≤ (i4 : Int) ∧ (i4 : Int) < (ab : Int) ∧
 ∃ (a9 : Option Addr) (a4 a5 : Nat), a2.cell? (af.add (Int.toNat i4 * 1)) = some (.slice a9 a4 a5) ∧
 ∀ (ad : World), Ext no a2 ad →
 Calls Try.prog 14 #[.slice a7 a3 a6, .slice a9 a4 a5] ad fun aa a1 => ∃ (a0 : Bool), aa = .returned (.bool a0) ∧
 (a0 = false →
 R (.bool false) a1) ∧
 (a0 = true →
 (-9223372036854775808 : Int) ≤ (i4 + 1) ∧ (i4 + 1) < 9223372036854775808 ∧
 ∃ ac, ac < m6 ∧ I0 ac [.int .i64 (i4 + 1)] a1)) ∧
 ((a8 : Int) ≤ i4 →
 R (.bool true) a2))

theorem Q0b.up (af : Option Addr) (ak ag : Nat) (aj : Option Addr) (ai al : Nat) {R : RW} {w : World} (h : Q0b.N af ak ag aj ai al R w) : Q0b.M af ak ag aj ai al R w := by
  unfold Q0b.M
  unfold Q0b.N at h
  refine bif_of (fun c3 => ?_) (fun c3 => ?_)
  ·have h := h.1 (bne_t c3)
   exact h
  have h := h.2 (bne_f c3)
  obtain ⟨I0, m5, h0, h⟩ := h
  refine ⟨I0, m5, h0, fun m6 ah i4 hI => ?_⟩
  have h := h m6 ah i4 hI
  refine bif_fo (fun c8 => ?_) (fun c8 => ?_)
  ·have h := h.2 (Int.not_lt.1 (of_decide_eq_false c8))
   exact h
  have h := h.1 (of_decide_eq_true c8)
  refine Q00 fun an e9 => ?_
  have a1 := (Ext.refl no ah).x_drew e9
  obtain ⟨au, a8, h⟩ := h
  refine Q0p a8 ?_
  obtain ⟨a3, a4, h⟩ := h
  refine ⟨a3, a4, ?_⟩
  obtain ⟨ae, a6, ab, a2, h⟩ := h
  refine ⟨ae, a6, ab, (a1).cell a2 id, ?_⟩
  obtain ⟨av, ac, h⟩ := h
  refine Q0p ac ?_
  obtain ⟨a3, a4, h⟩ := h
  refine ⟨a3, a4, ?_⟩
  obtain ⟨ad, a9, aa, a5, h⟩ := h
  refine ⟨ad, a9, aa, (a1).cell a5 id, ?_⟩
  have h := h an a1
  refine h.mono fun ap ar h => ?_
  obtain ⟨a0, he, h⟩ := h
  refine ⟨a0, he, ?_⟩
  refine bif_of (fun a7 => ?_) (fun a7 => ?_)
  ·have h := h.1 (not_t a7)
   exact h
  have h := h.2 (not_f a7)
  obtain ⟨ao, aq, h⟩ := h
  try rw [w64 ao aq]
  obtain ⟨am, hk, h⟩ := h
  exact ⟨am, hk, h⟩

theorem Q0b.go (a0 : Option Addr) (a3 a5 : Nat) (a2 : Option Addr) (a1 a4 : Nat) {R : RW} {w : World} (h : Q0b.N a0 a3 a5 a2 a1 a4 R w) : Calls Try.prog 20 #[.slice a0 a3 a5, .slice a2 a1 a4] w fun e w' => ∃ v, e = .returned v ∧ R v w' := Q0b.ok a0 a3 a5 a2 a1 a4 (Q0b.up a0 a3 a5 a2 a1 a4 h)
theorem Q0b.run (a0 : Option Addr) (a3 a5 : Nat) (a2 : Option Addr) (a1 a4 : Nat) {V : Value} {Q : World → Prop} {w : World} (h : Q0b.N a0 a3 a5 a2 a1 a4 (fun v w' => v = V ∧ Q w') w) : Calls Try.prog 20 #[.slice a0 a3 a5, .slice a2 a1 a4] w (Ret V Q) := (Q0b.go a0 a3 a5 a2 a1 a4 h).mono fun e w' ⟨v, he, hv, hq⟩ => ⟨by rw [he, hv], hq⟩

set_option maxRecDepth 20000
set_option maxHeartbeats 8000000
open W (OwnB Rd RdR numR countR doneR)
theorem inf25 : (Try.prog.info? 25).map (fun i => (i.zero, i.size, i.bytes)) = some (some (.slice none 0 0), 1, 24) := by kernel_rfl
structure OwnS (N p : Nat) (w : World) (a : Option Addr) (c : Nat) (l : List BS) : Prop where
  own : w.ownsRow 0 25 1 (.slice a l.length c) l.length (l.map BS.v)
  fr : ∀ ad, a = some ad → N ≤ ad.block ∧ ad.block < w.heap.size
  oks : ∀ x ∈ l, RowAt w x.a (bytesV x.bs) ∧ x.bs.length ≤ x.c
  ne : ∀ x ∈ l, bytesV x.bs ≠ [] → ∀ ad, x.a = some ad → ad.block ≠ p ∧ ad.block < w.heap.size ∧ ∀ ld, a = some ld → ad.block ≠ ld.block
  pN : p < N
section
variable {w w' : World} {N p : Nat} {a : Option Addr} {c : Nat} {l : List BS} {m : Nat → Prop}
theorem OwnS.nil (h : p < N) (w : World) : OwnS N p w none 0 [] := ⟨⟨rfl, .inl ⟨rfl, rfl⟩⟩, fun ad ha => (by cases ha), fun x h => (by cases h), fun x h => (by cases h), h⟩
theorem OwnS.at (h : OwnS N p w a c l) : BsAt w a c l := by
  obtain ⟨_, _, hv, hr⟩ := RowAt.of_owns h.own
  cases hv
  exact ⟨hr, h.oks, (Q0Q h.own).1⟩
theorem OwnS.ext (h : OwnS N p w a c l) (X : Ext m w w') (hm : ∀ b, m b → b = p) : OwnS N p w' a c l := by
  refine ⟨Q3m h.own X fun q hq => ?_, fun ad ha => ⟨(h.fr ad ha).1, Nat.lt_of_lt_of_le (h.fr ad ha).2 X.size⟩, fun x hx => ⟨(h.oks x hx).1.ext' X fun h0 ad ha hb => (h.ne x hx h0 ad ha).1 (hm _ hb), (h.oks x hx).2⟩, fun x hx h0 ad ha => ⟨(h.ne x hx h0 ad ha).1, Nat.lt_of_lt_of_le (h.ne x hx h0 ad ha).2.1 X.size, (h.ne x hx h0 ad ha).2.2⟩, h.pN⟩
  cases a with
  | none => simp [Value.ownBlock] at hq
  | some ad =>
    simp only [Value.ownBlock, Option.some.injEq] at hq
    subst hq
    intro hb
    have := hm _ hb; have := (h.fr ad rfl).1; have := h.pN
    omega
theorem OwnS.nx (h : OwnS N p w a c l) (X : Ext no w w') : OwnS N p w' a c l := h.ext X fun b hb => hb.elim
theorem OwnS.push (h : OwnS N p w a c l) (hN : N ≤ w.heap.size) (hl : l.length < 1000000) {x : BS} (hx : RowAt w x.a (bytesV x.bs)) (hxc : x.bs.length ≤ x.c) (hne : bytesV x.bs ≠ [] → ∀ ad, x.a = some ad → ad.block ≠ p ∧ ad.block < w.heap.size ∧ ∀ ld, a = some ld → ad.block ≠ ld.block)
    {ww : World} {qq : Nat} (X : Ext no w ww) (hb : Blk ww qq 25 [x.v]) :
    ∃ a' c' w', (Builtin.append_ #[47, 47] 47 #[.slice a l.length c, .slice (some (blk qq)) 1 1]).run Try.prog ww = .ok (.slice a' (l ++ [x]).length c') w' ∧ OwnS N p w' a' c' (l ++ [x]) ∧ Ext (fun b => ∃ ad, a = some ad ∧ b = ad.block) ww w' ∧ N ≤ w'.heap.size := by
  have hs := h.nx X
  obtain ⟨i, hi, hz, hs', hby⟩ := info_of inf25
  obtain ⟨a', c', w2, hr, ho, hg, hbk⟩ := Q10 (ty := 47) Try.underlying47 hi hz hs' hby rfl (by decide) hs.own (xa := some (blk qq)) (m := 1) (c := 1) (news := [x.v]) rfl (RowAt.of_blk hb) (fun u hu => by rw [List.mem_singleton.1 hu]; rfl) (by omega) (by omega)
  have hrow : ∀ q, (Value.slice a l.length c).ownBlock = some q → ∃ ad, a = some ad ∧ q = ad.block := fun q hq => by
    cases a with
    | none => simp [Value.ownBlock] at hq
    | some ad => simp only [Value.ownBlock, Option.some.injEq] at hq; exact ⟨ad, rfl, hq.symm⟩
  have XE : Ext (fun b => ∃ ad, a = some ad ∧ b = ad.block) ww w2 := Ext.of_grown hg fun q hq => .inl (hrow q hq)
  have hbk' : ∀ ad, a' = some ad → (∃ b0, a = some b0 ∧ ad.block = b0.block) ∨ ad.block = ww.heap.size := fun ad ha => by
    subst ha
    rcases hbk with hq | hq
    · exact .inl (hrow _ hq.symm)
    · simp only [Value.ownBlock, Option.some.injEq] at hq; exact .inr hq
  have z1 := X.size
  have z2 := XE.size
  refine ⟨a', c', w2, by rw [List.length_append]; exact hr, ⟨?_, fun ad ha => ⟨?_, (Q0Q ho).2 ad ha⟩, fun y hy => ?_, fun y hy h0 ad ha => ?_, h.pN⟩, XE, by omega⟩
  · rw [List.length_append, List.map_append]; exact ho
  · rcases hbk' ad ha with ⟨b0, hb0, e⟩ | e
    · rw [e]; exact (h.fr b0 hb0).1
    · omega
  · rcases List.mem_append.1 hy with hy | hy
    · exact ⟨(hs.oks y hy).1.ext' XE fun h0 ad ha ⟨ld, hla, e⟩ => (hs.ne y hy h0 ad ha).2.2 ld hla e, (hs.oks y hy).2⟩
    · obtain rfl := List.mem_singleton.1 hy
      exact ⟨(hx.no X).ext' XE fun h0 ad ha ⟨ld, hla, e⟩ => (hne h0 ad ha).2.2 ld hla e, hxc⟩
  · have hy' : ad.block ≠ p ∧ ad.block < w.heap.size ∧ ∀ ld, a = some ld → ad.block ≠ ld.block := by
      rcases List.mem_append.1 hy with hy | hy
      · exact h.ne y hy h0 ad ha
      · obtain rfl := List.mem_singleton.1 hy
        exact hne h0 ad ha
    refine ⟨hy'.1, by have := hy'.2.1; omega, fun ld hld e => ?_⟩
    rcases hbk' ld hld with ⟨b0, hb0, e2⟩ | e2
    · exact hy'.2.2 b0 hb0 (by rw [e, e2])
    · have := hy'.2.1; omega
end
def cutF : Nat → RS → List (List UInt8) × RS
  | 0, s => ([], s)
  | k + 1, s => ((bytesR 4000 s).1 :: (cutF k (bytesR 4000 s).2).1, (cutF k (bytesR 4000 s).2).2)
def cutA2 (b : List UInt8) : List (List UInt8) × RS := cutF (countR 1000 (b, 0)).1 (countR 1000 (b, 0)).2
def cutL (b : List UInt8) : List (List UInt8) × Int := if doneR (cutA2 b).2 ≠ 0 then ([], doneR (cutA2 b).2) else ((cutA2 b).1, 0)
theorem Q2s : ∀ (k : Nat) (s : RS), ∀ c ∈ (cutF k s).1, c.length ≤ s.1.length
  | 0, s, c, h => by cases h
  | k + 1, s, c, h => by
    have hb := Q18 4000 s
    rcases List.mem_cons.1 h with h | h
    · rw [h]; exact hb.2
    · exact Nat.le_trans (Q2s k _ c h) hb.1
theorem numR_bad' {s : RS} (h : s.2 ≠ 0) : numR s = (0, s) := by unfold numR; rw [if_neg h]
theorem Q3A {m : Int} {s : RS} (h : s.2 ≠ 0) : bytesR m s = ([], s) := by
  have e : countR m s = (0, s) := by
    unfold countR
    rw [numR_bad' h, if_neg h]
  unfold bytesR takeR
  rw [e, if_neg h]
theorem Q3p : ∀ (k : Nat) {s : RS}, s.2 ≠ 0 → (cutF k s).2 = s
  | 0, s, _ => rfl
  | k + 1, s, h => by
    show (cutF k (bytesR 4000 s).2).2 = s
    rw [Q3A h]
    exact Q3p k h
theorem Q4c {s : RS} (h : s.2 ≠ 0) : doneR s = s.2 := by unfold doneR; rw [if_neg h]
theorem Q2x : ∀ (l : List (List UInt8)) (r : List UInt8), (∀ c ∈ l, c.length ≤ 4000) → cutF l.length (l.flatMap encB ++ r, 0) = (l, (r, 0))
  | [], r, _ => rfl
  | c :: l, r, h => by
    have hc := h c (List.mem_cons_self ..)
    have q := Q0O (x := c) (m := 4000) (by omega) (by omega) (l.flatMap encB ++ r)
    have e : (c :: l).flatMap encB ++ r = numL c.length ++ (c ++ (l.flatMap encB ++ r)) := by
      rw [List.flatMap_cons]; unfold encB; simp only [List.append_assoc]
    rw [e]
    show ((bytesR 4000 _).1 :: (cutF l.length (bytesR 4000 _).2).1, (cutF l.length (bytesR 4000 _).2).2) = _
    rw [q]
    show (c :: (cutF l.length (l.flatMap encB ++ r, 0)).1, (cutF l.length (l.flatMap encB ++ r, 0)).2) = _
    rw [Q2x l r fun x hx => h x (List.mem_cons_of_mem _ hx)]
theorem Q4e {l : List (List UInt8)} (hl : l.length ≤ 1000) (hb : ∀ c ∈ l, c.length ≤ 4000) : cutL (joinL l) = (l, 0) := by
  have q := W.countR_write (n := l.length) (m := 1000) (by omega) (by omega) (l.flatMap encB)
  have e : cutA2 (joinL l) = (l, ([], 0)) := by
    unfold cutA2 joinL
    rw [q]
    have := Q2x l [] hb
    rw [List.append_nil] at this
    exact this
  unfold cutL
  rw [e]; rfl
theorem Q1b {l : List (List UInt8)} {B : Nat} : ∀ t, (∀ i x, i < t → l[i]? = some x → x.length ≤ B) → (joinT l t).length ≤ 10 + (B + 10) * t
  | 0, _ => by
    unfold joinT
    have := W.numL_le l.length
    simp; omega
  | t + 1, h => by
    have ih := Q1b t fun i x hi hx => h i x (by omega) hx
    cases hg : l[t]? with
    | none =>
      have e : joinT l (t + 1) = joinT l t := by unfold joinT; rw [List.take_add_one, hg]; simp
      rw [e, Nat.mul_add]; omega
    | some x =>
      have hx := h t x (by omega) hg
      have := W.numL_le x.length
      rw [Q1q hg]
      unfold encB
      rw [List.length_append, List.length_append, Nat.mul_add]; omega
section
variable {w w' : World} {a b : Option Addr} {c d : Nat} {l l1 l2 : List BS}
theorem Q2L {b : List UInt8} (h : RowAt w a (bytesV b)) (hc : b.length ≤ c) (hl : b.length < 1000000) :
    Calls Try.prog 18 #[.slice a b.length c] w fun e w' => ∃ ra rc, ∃ l : List BS, e = .returned (.tuple #[.slice ra l.length rc, .int .i64 (cutL b).2]) ∧ BsAt w' ra rc l ∧ l.map BS.bs = (cutL b).1 ∧ Ext no w w' := by
  refine (Q0H.go a b.length c (R := fun v w' => ∃ ra rc, ∃ l : List BS, v = (.tuple #[.slice ra l.length rc, .int .i64 (cutL b).2]) ∧ BsAt w' ra rc l ∧ l.map BS.bs = (cutL b).1 ∧ Ext no w w') ?_).mono fun e w' ⟨v, he, ra, rc, l, hv, hw⟩ => ⟨ra, rc, l, by rw [he, hv], hw⟩
  unfold Q0H.N
  refine (W.Read_spec h hc).mono fun e w4 ⟨p, he, hR4, hp, X4⟩ => ⟨_, he, ?_⟩
  refine (W.Count_spec hR4 hl (m := 1000) (by decide)).mono fun e w7 ⟨he, hR7, X7⟩ => ⟨_, he, ?_⟩
  have Y7 : Ext no w w7 := X4.then X7 fun b hb => .inr (by omega)
  have hcl : (countR 1000 (b, 0)).2.1.length ≤ b.length := W.countR_len 1000 (b, 0)
  have hA : cutA2 b = cutF (countR 1000 (b, 0)).1 (countR 1000 (b, 0)).2 := rfl
  have hn : (countR 1000 (b, 0)).1 ≤ 1000 := by
    unfold countR
    split
    · split
      · exact Nat.zero_le _
      · omega
    · exact Nat.zero_le _
  clear he
  generalize countR 1000 (b, 0) = cc at *
  obtain ⟨n, s0⟩ := cc
  have hR7 : Rd w7 p s0.1 s0.2 := hR7
  have hcl : s0.1.length ≤ b.length := hcl
  have hA : cutA2 b = cutF n s0 := hA
  have hn : n ≤ 1000 := hn
  have hpl := hR7.lt
  dsimp only
  refine ⟨fun m vs w1 => ∃ (t : Nat) (la : Option Addr) (lc : Nat) (l : List BS) (s : RS), vs = [.slice la l.length lc, .int .i64 t] ∧ m + t = n ∧ OwnS w7.heap.size p w1 la lc l ∧ Rd w1 p s.1 s.2 ∧ s.1.length ≤ b.length ∧ l.length = t ∧ l.map BS.bs ++ (cutF m s).1 = (cutF n s0).1 ∧ (cutF m s).2 = (cutF n s0).2 ∧ Ext no w w1 ∧ w7.heap.size ≤ w1.heap.size,
    n, ⟨0, none, 0, [], s0, rfl, rfl, OwnS.nil hpl _, hR7, hcl, rfl, rfl, rfl, Y7, Nat.le_refl _⟩, ?_⟩
  rintro m w12 la ln lc i ⟨t, la2, lc2, l, s, hv, hm, hO, hR, hs, hlt, h1, h2, Y, hz⟩
  simp only [List.cons.injEq, Value.slice.injEq, Value.int.injEq, true_and, and_true] at hv
  obtain ⟨⟨e1, e2, e3⟩, e4⟩ := hv
  subst e1; subst e2; subst e3; subst e4
  refine ⟨fun ht => ?_, fun ht => ?_⟩
  · obtain ⟨k, rfl⟩ : ∃ k, m = k + 1 := ⟨m - 1, by omega⟩
    refine (Q1z hR (by omega) (m := 4000) (by decide)).mono fun e w16 ⟨xa, xc, he, hOx, hR16, X16⟩ => ⟨xa, _, xc, he, fun w17 q18 X17 b17 hq hq' => ?_⟩
    have z16 := X16.size
    have z17 := X17.size
    have hO16 := hO.ext X16 fun b hb => hb
    have hbl := Q18 4000 s
    obtain ⟨a', c', w20, hr, hO20, X20, hz20⟩ := hO16.push (x := ⟨xa, xc, (bytesR 4000 s).1⟩) (by omega) (by omega) hOx.row hOx.le (fun h0 ad ha => ⟨fun e => by have := (hOx.fr ad ha).1; omega, (hOx.fr ad ha).2, fun ld hld => by have := (hOx.fr ad ha).1; have := (hO.fr ld hld).2; omega⟩) X17 b17
    refine ⟨a', _, c', w20, hr, by omega, by omega, k, by omega, t + 1, a', c', l ++ [⟨xa, xc, (bytesR 4000 s).1⟩], (bytesR 4000 s).2, rfl, by omega, hO20, ?_, by have := hbl.1; omega, by rw [List.length_append, hlt]; rfl, ?_, h2, ?_, hz20⟩
    · exact (hR16.no X17).up X20 fun b ⟨ad, ha, e⟩ => by rw [e]; have := (hO.fr ad ha).1; omega
    · rw [List.map_append, List.append_assoc]; exact h1
    · exact ((Y.then X16 fun b hb => .inr (by omega)).trans X17).then X20 fun b ⟨ad, ha, e⟩ => .inr (by rw [e]; have := (hO.fr ad ha).1; have := Y7.size; omega)
  · obtain rfl : m = 0 := by omega
    have h1 : l.map BS.bs ++ [] = (cutF n s0).1 := h1
    have h2 : s = (cutF n s0).2 := h2
    rw [List.append_nil] at h1
    refine (W.Done_spec hR).mono fun e w24 ⟨he, hw⟩ => ⟨_, he, fun hd2 => ?_, fun hd2 => ?_⟩
    all_goals subst hw
    · have hd2 : doneR (cutA2 b).2 ≠ 0 := by rw [hA, ← h2]; exact hd2
      have e : cutL b = ([], doneR s) := by unfold cutL; rw [if_pos hd2, hA, ← h2]
      rw [e]
      exact ⟨none, 0, [], rfl, ⟨RowAt.nil _ _, fun x h => (by cases h), Nat.le_refl _⟩, rfl, Y⟩
    · have hd2 : doneR (cutA2 b).2 = 0 := by rw [hA, ← h2]; exact hd2
      have e : cutL b = ((cutF n s0).1, 0) := by unfold cutL; rw [if_neg (fun h => h hd2), hA]
      rw [e]
      exact ⟨la, lc, l, rfl, hO.at, h1, Y⟩
theorem Q4a {b : List UInt8} (h : RowAt w a (bytesV b)) (hc : b.length ≤ c) (hl : b.length < 1000000) :
    Calls Try.prog 19 #[.slice a b.length c] w fun e w' => ∃ ra rc, ∃ l : List BS, e = .returned (.tuple #[.slice ra l.length rc, .int .i64 (cutL b).2]) ∧ BsAt w' ra rc l ∧ l.map BS.bs = (cutL b).1 ∧ Ext no w w' := by
  refine (Q0f.go a b.length c (R := fun v w' => ∃ ra rc, ∃ l : List BS, v = (.tuple #[.slice ra l.length rc, .int .i64 (cutL b).2]) ∧ BsAt w' ra rc l ∧ l.map BS.bs = (cutL b).1 ∧ Ext no w w') ?_).mono fun e w' ⟨v, he, ra, rc, l, hv, hw⟩ => ⟨ra, rc, l, by rw [he, hv], hw⟩
  unfold Q0f.N
  intro w2 p X2 hb2 hp hp'
  have hR2 : RdR w2 p w.heap.size b 0 := ⟨hp, a, c, hb2, hc, h.no X2, fun h0 ad ha => h.lt h0 ha⟩
  refine (W.rCount_spec hR2 hl (m := 1000) (by decide) (by decide)).mono fun e w7 ⟨he, hR7, X7⟩ => ⟨_, he, ?_⟩
  have Y7 : Ext no w w7 := X2.then X7 fun b hb => .inr (by omega)
  have hcl : (countR 1000 (b, 0)).2.1.length ≤ b.length := W.countR_len 1000 (b, 0)
  have hA : cutA2 b = cutF (countR 1000 (b, 0)).1 (countR 1000 (b, 0)).2 := rfl
  have hn : (countR 1000 (b, 0)).1 ≤ 1000 := by
    unfold countR
    split
    · split
      · exact Nat.zero_le _
      · omega
    · exact Nat.zero_le _
  clear he
  generalize countR 1000 (b, 0) = cc at *
  obtain ⟨n, s0⟩ := cc
  have hR7 : RdR w7 p w.heap.size s0.1 s0.2 := hR7
  have hcl : s0.1.length ≤ b.length := hcl
  have hA : cutA2 b = cutF n s0 := hA
  have hn : n ≤ 1000 := hn
  have hpl := hR7.lt
  have fin : ∀ {w1 : World} {la : Option Addr} {lc : Nat} {l : List BS} {s : RS}, OwnS w7.heap.size p w1 la lc l → Ext no w w1 → s = (cutF n s0).2 → (doneR s = 0 → l.map BS.bs = (cutF n s0).1) →
      ((doneR s ≠ 0 → ∃ ra rc, ∃ l' : List BS, (.tuple #[.slice none 0 0, .int .i64 (doneR s)] : Value) = (.tuple #[.slice ra l'.length rc, .int .i64 (cutL b).2]) ∧ BsAt w1 ra rc l' ∧ l'.map BS.bs = (cutL b).1 ∧ Ext no w w1) ∧
       (doneR s = 0 → ∃ ra rc, ∃ l' : List BS, (.tuple #[.slice la l.length lc, .int .i64 0] : Value) = (.tuple #[.slice ra l'.length rc, .int .i64 (cutL b).2]) ∧ BsAt w1 ra rc l' ∧ l'.map BS.bs = (cutL b).1 ∧ Ext no w w1)) := fun {w1 la lc l s} hO Y h2 h1 => by
    refine ⟨fun hd => ?_, fun hd => ?_⟩
    · have hd2 : doneR (cutA2 b).2 ≠ 0 := by rw [hA, ← h2]; exact hd
      have e : cutL b = ([], doneR s) := by unfold cutL; rw [if_pos hd2, hA, ← h2]
      rw [e]
      exact ⟨none, 0, [], rfl, ⟨RowAt.nil _ _, fun x h => (by cases h), Nat.le_refl _⟩, rfl, Y⟩
    · have hd2 : doneR (cutA2 b).2 = 0 := by rw [hA, ← h2]; exact hd
      have e : cutL b = ((cutF n s0).1, 0) := by unfold cutL; rw [if_neg (fun h => h hd2), hA]
      rw [e]
      exact ⟨la, lc, l, rfl, hO.at, h1 hd, Y⟩
  dsimp only
  refine ⟨fun m vs w1 => ∃ (t : Nat) (la : Option Addr) (lc : Nat) (l : List BS) (s : RS), vs = [.slice la l.length lc, .int .i64 t] ∧ m + t = n ∧ OwnS w7.heap.size p w1 la lc l ∧ RdR w1 p w.heap.size s.1 s.2 ∧ s.1.length ≤ b.length ∧ l.length = t ∧ l.map BS.bs ++ (cutF m s).1 = (cutF n s0).1 ∧ (cutF m s).2 = (cutF n s0).2 ∧ Ext no w w1 ∧ w7.heap.size ≤ w1.heap.size,
    n, ⟨0, none, 0, [], s0, rfl, rfl, OwnS.nil hpl _, hR7, hcl, rfl, rfl, rfl, Y7, Nat.le_refl _⟩, ?_⟩
  rintro m w12 la ln lc i ⟨t, la2, lc2, l, s, hv, hm, hO, hR, hs, hlt, h1, h2, Y, hz⟩
  simp only [List.cons.injEq, Value.slice.injEq, Value.int.injEq, true_and, and_true] at hv
  obtain ⟨⟨e1, e2, e3⟩, e4⟩ := hv
  subst e1; subst e2; subst e3; subst e4
  have zY := Y7.size
  refine ⟨fun ht => ?_, fun ht => ?_⟩
  · obtain ⟨k, rfl⟩ : ∃ k, m = k + 1 := ⟨m - 1, by omega⟩
    have hcell : w12.cell? ((blk p).add 1) = some (.int .i64 s.2) := by
      obtain ⟨_, a0, c0, hb0, _⟩ := hR
      exact hb0.celli 1 rfl rfl
    refine ⟨s.2, hcell, fun hk => ?_, fun hk => ?_⟩
    · refine (Q2V hR (by omega) (m := 4000) (by decide) (by decide)).mono fun e w16 ⟨xa, xc, he, hxc, hxr, hxf, hR16, X16⟩ => ⟨xa, _, xc, he, fun w17 q18 X17 b17 hq hq' => ?_⟩
      have z16 := X16.size
      have z17 := X17.size
      have hO16 := hO.ext X16 fun b hb => hb
      have hbl := Q18 4000 s
      obtain ⟨a', c', w20, hr, hO20, X20, hz20⟩ := hO16.push (x := ⟨xa, xc, (bytesR 4000 s).1⟩) (by omega) (by omega) hxr hxc (fun h0 ad ha => ⟨fun e => by have := hxf h0 ad ha; omega, by have := hxf h0 ad ha; omega, fun ld hld => by have := hxf h0 ad ha; have := (hO.fr ld hld).1; omega⟩) X17 b17
      refine ⟨a', _, c', w20, hr, by omega, by omega, k, by omega, t + 1, a', c', l ++ [⟨xa, xc, (bytesR 4000 s).1⟩], (bytesR 4000 s).2, rfl, by omega, hO20, ?_, by have := hbl.1; omega, by rw [List.length_append, hlt]; rfl, ?_, h2, ?_, hz20⟩
      · exact (hR16.no X17).up X20 fun b ⟨ad, ha, e⟩ => by rw [e]; have := (hO.fr ad ha).1; omega
      · rw [List.map_append, List.append_assoc]; exact h1
      · exact ((Y.then X16 fun b hb => .inr (by omega)).trans X17).then X20 fun b ⟨ad, ha, e⟩ => .inr (by rw [e]; have := (hO.fr ad ha).1; omega)
    · have hs2 : s = (cutF n s0).2 := by rw [← h2]; exact (Q3p _ hk).symm
      refine (W.rDone_spec hR).mono fun e w24 ⟨he, hw⟩ => ⟨_, he, ?_⟩
      subst hw
      exact fin hO Y hs2 fun hd => absurd ((Q4c hk).symm.trans hd) hk
  · obtain rfl : m = 0 := by omega
    have h1 : l.map BS.bs ++ [] = (cutF n s0).1 := h1
    have h2 : s = (cutF n s0).2 := h2
    rw [List.append_nil] at h1
    refine (W.rDone_spec hR).mono fun e w24 ⟨he, hw⟩ => ⟨_, he, ?_⟩
    subst hw
    exact fin hO Y h2 fun _ => h1
theorem Q3O (h : BsAt w a c l) (hl : l.length < 1000000) :
    Calls Try.prog 17 #[.slice a l.length c] w (fun e w' => ∃ a' c', e = .returned (.tuple #[.slice a' (joinK (l.map BS.bs)).1.length c', .int .i64 (joinK (l.map BS.bs)).2]) ∧ RowAt w' a' (bytesV (joinK (l.map BS.bs)).1) ∧ Ext no w w') := by
  refine (Q05.go a l.length c (R := fun v w' => ∃ a' c', v = (.tuple #[.slice a' (joinK (l.map BS.bs)).1.length c', .int .i64 (joinK (l.map BS.bs)).2]) ∧ RowAt w' a' (bytesV (joinK (l.map BS.bs)).1) ∧ Ext no w w') ?_).mono fun e w' ⟨v, he, a', c', hv, hw⟩ => ⟨a', c', by rw [he, hv], hw⟩
  unfold Q05.N
  have leaf : ∀ {w2 : World}, joinK (l.map BS.bs) = ([], 3) → Ext no w w2 → ∃ a' c', (.tuple #[.slice none 0 0, .int .i64 3] : Value) = (.tuple #[.slice a' (joinK (l.map BS.bs)).1.length c', .int .i64 (joinK (l.map BS.bs)).2]) ∧ RowAt w2 a' (bytesV (joinK (l.map BS.bs)).1) ∧ Ext no w w2 := fun {w2} e X => by
    rw [e]; exact ⟨none, 0, rfl, RowAt.nil _ _, X⟩
  refine ⟨fun hg => leaf (by unfold joinK; rw [if_pos (.inl (by rw [List.length_map]; omega))]) (Ext.refl _ _), fun hg => ?_⟩
  rw [wu64 (n := (l.length : Int)) (by omega) (by omega)]
  refine (W.rNum_spec l.length w (by omega)).mono fun u w9 ⟨a1, c1, he, hO1, X9⟩ => ⟨a1, _, c1, he, ?_⟩
  have e0 : joinT (l.map BS.bs) 0 = numL l.length := by unfold joinT; simp
  refine ⟨fun m vs w1 => ∃ (t : Nat) (a1 : Option Addr) (c1 : Nat), vs = [.slice a1 (joinT (l.map BS.bs) t).length c1, .int .i64 t] ∧ m + t = l.length ∧ OwnB w.heap.size w1 a1 c1 (joinT (l.map BS.bs) t) ∧ Ext no w w1 ∧ (∀ i x, i < t → l[i]? = some x → x.bs.length ≤ 4000), l.length, ⟨0, a1, c1, by rw [e0]; rfl, rfl, by rw [e0]; exact hO1, X9, fun i x h => absurd h (by omega)⟩, ?_⟩
  rintro m w14 ba bn bc i ⟨t, a2, c2, hv, hm, hO, X, hsm⟩
  simp only [List.cons.injEq, Value.slice.injEq, Value.int.injEq, true_and, and_true] at hv
  obtain ⟨⟨e1, e2, e3⟩, e4⟩ := hv
  subst e1; subst e2; subst e3; subst e4
  have hlt := Q1b (l := l.map BS.bs) (B := 4000) t fun i x hi hx => by
    rw [List.getElem?_map] at hx
    cases hg : l[i]? with
    | none => rw [hg] at hx; cases hx
    | some y => rw [hg] at hx; cases hx; exact hsm i y hi hg
  refine ⟨fun ht => ?_, fun ht => ?_⟩
  · have htl : t < l.length := by omega
    have hg : l[t]? = some l[t] := List.getElem?_eq_getElem htl
    generalize l[t] = x at *
    have h14 := h.no X
    obtain ⟨ad, ha, hc⟩ := h14.cell hg
    obtain ⟨hx1, hx2⟩ := h14.oks x (List.mem_of_getElem? hg)
    have hm2 : (l.map BS.bs)[t]? = some x.bs := by rw [List.getElem?_map, hg]; rfl
    refine ⟨ad, ha, by omega, by omega, x.a, x.bs.length, x.c, by rw [Int.toNat_natCast]; exact hc, fun hbig => leaf (by unfold joinK; rw [if_pos (.inr (Q2H.2 ⟨x, List.mem_of_getElem? hg, by omega⟩))]) X, fun hsmall => ⟨by omega, by omega, x.a, x.bs.length, x.c, by rw [Int.toNat_natCast]; exact hc, ?_⟩⟩
    have hnx := W.numL_le x.bs.length
    refine (Q32 hx1 (by omega)).mono fun u w21 ⟨a3, c3, he, hO3, X21⟩ => ⟨a3, _, c3, he, ?_⟩
    obtain ⟨a4, c4, w22, hr, hB, Y, XA, hN⟩ := app hO X (Nat.le_refl _) X.size X21 (xc := c3) hO3.row (by rw [List.length_append]; omega)
    refine ⟨a4, _, c4, w22, hr, by omega, by omega, m - 1, by omega, t + 1, a4, c4, ?_, by omega, ?_, Y, fun i y hi hy => ?_⟩
    · rw [Q1q hm2]; rfl
    · rw [Q1q hm2]; exact hB
    · by_cases hit : i = t
      · subst hit; rw [hg] at hy; cases hy; omega
      · exact hsm i y (by omega) hy
  · obtain rfl : t = l.length := by omega
    have hnb : bigs (l.map BS.bs) = false := Q3e fun i x hx => hsm i x (List.getElem?_eq_some_iff.1 hx).1 hx
    have hk : joinK (l.map BS.bs) = (joinL (l.map BS.bs), 0) := by unfold joinK; rw [if_neg (by rw [List.length_map, hnb]; simp; omega)]
    rw [hk]
    rw [show l.length = (l.map BS.bs).length by rw [List.length_map], Q22] at hO ⊢
    exact ⟨ba, bc, rfl, hO.row, X⟩
theorem Q2n {ba : Option Addr} {bc : Nat} (h1 : BsAt w a c l1) (h2 : BsAt w ba bc l2) (hl : l1.length < 1000000) (hs : ∀ x ∈ l1, x.bs.length < 1000000) :
    Calls Try.prog 20 #[.slice a l1.length c, .slice ba l2.length bc] w (Ret (.bool (decide (l1.map BS.bs = l2.map BS.bs))) fun w' => Ext no w w') := by
  refine Q0b.run _ _ _ _ _ _ ?_
  unfold Q0b.N
  have leafF : l1.map BS.bs ≠ l2.map BS.bs → ∀ {w2 : World}, Ext no w w2 → Value.bool false = .bool (decide (l1.map BS.bs = l2.map BS.bs)) ∧ Ext no w w2 := fun h _ X => ⟨by rw [decide_eq_false h], X⟩
  refine ⟨fun h => leafF (fun e => h (by have := congrArg List.length e; simp at this; omega)) (Ext.refl _ _), fun h => ?_⟩
  refine ⟨fun m vs w1 => ∃ t : Nat, vs = [.int .i64 t] ∧ m + t = l1.length ∧ Ext no w w1 ∧ (l1.map BS.bs).take t = (l2.map BS.bs).take t, l1.length, ⟨0, rfl, rfl, Ext.refl _ _, rfl⟩, ?_⟩
  rintro m w7 i ⟨t, hi, hm, X7, htk⟩
  simp only [List.cons.injEq, Value.int.injEq, true_and, and_true] at hi
  subst hi
  refine ⟨fun ht => ?_, fun ht => ?_⟩
  rotate_left
  · have htt : t = l1.length := by omega
    rw [List.take_of_length_le (by simp; omega), List.take_of_length_le (by simp; omega)] at htk
    exact ⟨by rw [decide_eq_true htk], X7⟩
  have ht1 : t < l1.length := by omega
  have ht2 : t < l2.length := by omega
  have g1 : l1[t]? = some l1[t] := List.getElem?_eq_getElem ht1
  have g2 : l2[t]? = some l2[t] := List.getElem?_eq_getElem ht2
  have q1 := h1.no X7
  have q2 := h2.no X7
  obtain ⟨x1, x2⟩ := q1.oks _ (List.getElem_mem ht1)
  obtain ⟨y1, y2⟩ := q2.oks _ (List.getElem_mem ht2)
  have xs := hs _ (List.getElem_mem ht1)
  have n1 : (l1.map BS.bs)[t]? = some (l1[t]).bs := by rw [List.getElem?_map, g1]; rfl
  have n2 : (l2.map BS.bs)[t]? = some (l2[t]).bs := by rw [List.getElem?_map, g2]; rfl
  generalize l1[t] = u at *
  generalize l2[t] = v at *
  obtain ⟨ad, e1, c1⟩ := q1.cell g1
  obtain ⟨bd, e2, c2⟩ := q2.cell g2
  refine ⟨ad, e1, by omega, by omega, u.a, u.bs.length, u.c, by rw [Int.toNat_natCast]; exact c1, bd, e2, by omega, by omega, v.a, v.bs.length, v.c, by rw [Int.toNat_natCast]; exact c2, fun w9 X9 => ?_⟩
  refine (sameB_spec (c := u.c) (d := v.c) (x1.no X9) (y1.no X9) xs).mono fun z w18 ⟨he, X18⟩ => ⟨_, he, fun hs => leafF (fun e => of_decide_eq_false hs (by rw [e, n2] at n1; injection n1 with n1; exact n1.symm)) ((X7.trans X9).trans X18), fun hs => ⟨by omega, by omega, m - 1, by omega, t + 1, rfl, by omega, (X7.trans X9).trans X18, by rw [List.take_add_one, List.take_add_one, htk, n1, n2, of_decide_eq_true hs]⟩⟩
end
end Go.Proofs.Ytlgpeojjmapnjaa
set_option maxHeartbeats 4000000
namespace Go.Proofs.Ytlgpeojjmapnjaa
open Go Go.Mx Go.Proofs
open W (OwnB Rd numR countR doneR)
set_option maxHeartbeats 8000000
open W (OwnB)
def BssQ (W : World) (cs : List Value) : Prop := ∃ (a : Option Addr) (c : Nat) (l : List BS), cs = [.slice a l.length c] ∧ BsAt W a c l
theorem flat_bs (l : List BS) : (l.flatMap fun x => [x.v]) = l.map BS.v := by
  induction l with
  | nil => rfl
  | cons x r ih => rw [List.flatMap_cons, ih]; rfl
theorem opens_bss : Opens Try.prog 47 BssQ := (Q3B (size := 1) (f := fun x : BS => [x.v]) (G := fun W x => RowAt W x.a (bytesV x.bs) ∧ x.bs.length ≤ x.c) Try.underlying47 (by kernel_rfl) ((Q2Z Try.underlying25 (by kernel_rfl) Try.underlying5).mono fun W cs ⟨a, c, b, h1, h2, _, h4⟩ => ⟨⟨a, c, b⟩, h1, h4, h2⟩)).mono
  fun W cs ⟨a, c, l, h1, h2, h3, h4, h5⟩ => ⟨a, c, l, h1, by rw [← flat_bs]; exact h4, h5, h2⟩
theorem Q4b {l : List (List UInt8)} (h : (joinL l).length ≤ 900000) : (joinK l).1.length ≤ 900000 := by
  unfold joinK
  split
  · exact Nat.zero_le _
  · exact h
theorem Q4B {l : List (List UInt8)} (h : (joinK l).2 = 0) : l.length ≤ 1000 ∧ bigs l = false ∧ joinK l = (joinL l, 0) := by
  unfold joinK at h ⊢
  by_cases hg : l.length > 1000 ∨ bigs l = true
  · rw [if_pos hg] at h; exact absurd (show (3 : Int) = 0 from h) (by decide)
  · refine ⟨by have := fun h => hg (.inl h); omega, ?_, by rw [if_neg hg]⟩
    cases hb : bigs l with
    | false => rfl
    | true => exact absurd (.inr hb) hg
theorem Q3w (b : List UInt8) : ∀ c ∈ (cutL b).1, c.length ≤ b.length := fun c h => by
  unfold cutL at h
  split at h
  · cases h
  · exact Nat.le_trans (Q2s _ _ c h) (W.countR_len 1000 (b, 0))
theorem Q2b (W : World) {la ba : Option Addr} {lc bc : Nat} {l : List BS} {b : List UInt8} (hl : BsAt W la lc l) (hb : RowAt W ba (bytesV b)) (hbc : b.length ≤ bc) :
    Calls Try.prog 4 #[.slice la l.length lc, .slice ba b.length bc] W (Ret (.bool true) fun w' => Ext no W w') := by
  refine Q02.run _ _ _ _ _ _ ?_
  unfold Q02.N
  have hal : ∀ w1, Ext no W w1 → Calls Try.prog 8 #[] w1 fun ee w2 => ∃ b : Bool, ee = .returned (.bool b) ∧ Value.bool b = Value.bool true ∧ Ext no W w2 := fun w1 X =>
    (Q2K w1).mono fun v w2 ⟨hx, X2⟩ => ⟨_, hx, rfl, X.trans X2⟩
  refine ⟨fun _ => hal _ (Ext.refl _ _), fun hl1 => ⟨fun _ => hal _ (Ext.refl _ _), fun hb1 => ?_⟩⟩
  refine ⟨fun m vs w1 => ∃ t : Nat, vs = [.int .i64 t] ∧ m + t = l.length ∧ w1 = W ∧ ∀ (j : Nat) (x : BS), j < t → l[j]? = some x → x.bs.length ≤ 4100 ∧ (x.bs.length ≤ 200 ∨ l.length ≤ 5), l.length, ⟨0, rfl, rfl, rfl, fun j x h => absurd h (by omega)⟩, ?_⟩
  rintro m w14 i ⟨t, hi, hm, hw14, hs⟩
  simp only [List.cons.injEq, Value.int.injEq, true_and, and_true] at hi
  subst hi
  subst hw14
  refine ⟨fun ht => ?_, fun ht => ?_⟩
  · have htl : t < l.length := by omega
    have gt : l[t]? = some l[t] := List.getElem?_eq_getElem htl
    obtain ⟨ad, hab, cx⟩ := hl.cell gt
    have next : (l[t]).bs.length ≤ 4100 ∧ ((l[t]).bs.length ≤ 200 ∨ l.length ≤ 5) → ∀ (j : Nat) (x : BS), j < t + 1 → l[j]? = some x → x.bs.length ≤ 4100 ∧ (x.bs.length ≤ 200 ∨ l.length ≤ 5) := fun h j x hj hx => by
      by_cases e : j = t
      · subst e; rw [gt] at hx; cases hx; exact h
      · exact hs j x (by omega) hx
    refine ⟨ad, hab, by omega, by omega, _, _, _, by rw [Int.toNat_natCast]; exact cx, fun h2 => ⟨fun _ => hal _ (Ext.refl _ _), fun h5 => ⟨by omega, by omega, _, _, _, by rw [Int.toNat_natCast]; exact cx, fun _ => hal _ (Ext.refl _ _), fun h4 => ⟨by omega, by omega, m - 1, by omega, t + 1, rfl, by omega, rfl, next ⟨by omega, .inr (by omega)⟩⟩⟩⟩,
      fun h2 => ⟨by omega, by omega, _, _, _, by rw [Int.toNat_natCast]; exact cx, fun _ => hal _ (Ext.refl _ _), fun h4 => ⟨by omega, by omega, m - 1, by omega, t + 1, rfl, by omega, rfl, next ⟨by omega, .inl (by omega)⟩⟩⟩⟩
  have htl : t = l.length := by omega
  subst htl
  have hJ : (joinL (l.map BS.bs)).length ≤ 900000 := by
    have hsz : ∀ (i : Nat) (x : List UInt8), (l.map BS.bs)[i]? = some x → x.length ≤ 4100 ∧ (x.length ≤ 200 ∨ l.length ≤ 5) := fun i x hx => by
      rw [List.getElem?_map] at hx
      cases hg : l[i]? with
      | none => rw [hg] at hx; cases hx
      | some y => rw [hg] at hx; cases hx; exact hs i y (List.getElem?_eq_some_iff.1 hg).1 hg
    rw [← Q22, List.length_map]
    by_cases h5 : l.length ≤ 5
    · have := Q1b (l := l.map BS.bs) (B := 4100) l.length fun i x _ hx => (hsz i x hx).1
      have : (4100 + 10) * l.length ≤ (4100 + 10) * 5 := Nat.mul_le_mul_left _ h5
      omega
    · have := Q1b (l := l.map BS.bs) (B := 200) l.length fun i x _ hx => by rcases (hsz i x hx).2 with h | h <;> omega
      have : (200 + 10) * l.length ≤ (200 + 10) * 1100 := Nat.mul_le_mul_left _ (by omega)
      omega
  have hJK := Q4b hJ
  have small : ∀ {l' : List BS} {d : List UInt8}, l'.map BS.bs = (cutL d).1 → d.length < 1000000 → l'.length < 1000000 → ∀ x ∈ l', x.bs.length < 1000000 := fun {l' d} h hd _ x hx => by
    have := Q3w d x.bs (by rw [← h]; exact List.mem_map.2 ⟨x, hx, rfl⟩)
    omega
  refine (Q2o hl (by omega) (fun _ _ => hJ)).mono fun u w41 ⟨a1, c1, he, hO1, X41⟩ => ⟨a1, _, c1, _, he, ?_⟩
  refine (Q3O (hl.no X41) (by omega)).mono fun u w45 ⟨a2, c2, he, hr2, X45⟩ => ⟨a2, _, c2, _, he, ?_⟩
  have Y45 := X41.trans X45
  refine (Q2L (hb.no Y45) hbc (by omega)).mono fun u w49 ⟨a3, c3, l3, he, hl3, e3, X49⟩ => ⟨a3, _, c3, _, he, ?_⟩
  have Y49 := Y45.trans X49
  refine (Q4a (hb.no Y49) hbc (by omega)).mono fun u w53 ⟨a4, c4, l4, he, hl4, e4, X53⟩ => ⟨a4, _, c4, _, he, ?_⟩
  have Y53 := Y49.trans X53
  refine (sameB_spec (hO1.row.no ((X45.trans X49).trans X53)) (hr2.no (X49.trans X53)) (by omega)).mono fun u w56 ⟨he, X56⟩ => ⟨_, he, fun h => absurd h (by simp), fun _ => ⟨fun h => absurd rfl h, fun _ => ?_⟩⟩
  have Y56 := Y53.trans X56
  have len3 : l3.length < 1000000 := by
    have h2 : l3.length = (cutL b).1.length := by rw [← e3, List.length_map]
    have hn : ∀ (k : Nat) (s : RS), (cutF k s).1.length = k := fun k => by
      induction k with
      | zero => intro s; rfl
      | succ k ih => intro s; show ((cutF k (bytesR 4000 s).2).1).length + 1 = k + 1; rw [ih]
    have hc : (W.countR 1000 (b, 0)).1 ≤ 1000 := by
      unfold W.countR
      split
      · split
        · exact Nat.zero_le _
        · omega
      · exact Nat.zero_le _
    rw [h2]
    unfold cutL
    split
    · show (0 : Nat) < 1000000; decide
    · show (cutA2 b).1.length < 1000000
      unfold cutA2; rw [hn]; omega
  refine (Q2n (hl3.no (X53.trans X56)) (hl4.no X56) len3 (small e3 (by omega) len3)).mono fun u w61 ⟨he, X61⟩ => ⟨_, he, fun h => absurd h (by rw [e3, e4]; simp), fun _ => ⟨fun h => absurd rfl h, fun _ => ⟨fun _ => hal _ (Y56.trans X61), fun hk => ?_⟩⟩⟩
  have Y61 := Y56.trans X61
  obtain ⟨k1, k2, k3⟩ := Q4B hk
  have hsm : ∀ c ∈ l.map BS.bs, c.length ≤ 4000 := fun c hc => by
    unfold bigs at k2
    have := List.any_eq_false.1 k2 c hc
    simp at this
    omega
  have hcut := Q4e (by exact k1) hsm
  have hO61 := hO1.no ((((X45.trans X49).trans X53).trans X56).trans X61)
  rw [k3] at hO61 ⊢
  have hO61 : OwnB w14.heap.size w61 a1 c1 (joinL (l.map BS.bs)) := hO61
  refine (Q2L hO61.row hO61.le (by omega)).mono fun u w71 ⟨a5, c5, l5, he, hl5, e5, X71⟩ => ?_
  rw [hcut] at he e5
  have Y71 := Y61.trans X71
  refine ⟨a5, _, c5, _, he, fun _ => ?_, fun h => absurd rfl h⟩
  have e5 : l5.map BS.bs = l.map BS.bs := e5
  have l5l : l5.length = l.length := by have := congrArg List.length e5; simpa using this
  exact (Q2n hl5 (hl.no Y71) (by omega) (fun x hx => by have := hsm x.bs (by rw [← e5]; exact List.mem_map.2 ⟨x, hx, rfl⟩); omega)).mono fun u w75 ⟨he, X75⟩ => ⟨_, he, fun _ => hal _ (Y71.trans X75), fun h => absurd h (by rw [e5]; simp)⟩
theorem FrameJoins_walk (W : World) (a0 : Option Addr) (len0 cap0 : Nat) (a1 : Option Addr) (len1 cap1 : Nat) (o0 : BssQ W [.slice a0 len0 cap0]) (o1 : BytesQ W [.slice a1 len1 cap1]) :
    Calls Try.prog 4 #[.slice a0 len0 cap0, .slice a1 len1 cap1] W (Ret (.bool true) fun w' => Ext no W w') := by
  obtain ⟨_, _, l, e0, h0⟩ := o0
  obtain ⟨_, _, b, e1, l1, _, r1⟩ := o1
  cases e0
  cases e1
  exact Q2b W h0 r1 l1
end Go.Proofs.Ytlgpeojjmapnjaa