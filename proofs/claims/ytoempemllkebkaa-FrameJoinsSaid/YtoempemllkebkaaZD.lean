/- Frames: predicates of frame.Bytes. -/
import Derived.Test.YtoempemllkebkaaZC
import Derived.Laws.StructEq
import Derived.Test.YtoempemllkebkaaZA
import Derived.Test.YtoempemllkebkaaZB
set_option linter.unusedVariables false
set_option linter.unusedSimpArgs false
set_option maxRecDepth 100000
set_option maxHeartbeats 4000000
namespace Go.Proofs.Ytoempemllkebkaa
open Go Go.Mx Go.Proofs
abbrev Q0u.J1 (bt : Addr) (R : RW) (c0 : World) : Prop :=
 ∃ (bf : Int), c0.cell? (bt.add 0) = some (.int .i64 bf) ∧
 Calls Try.prog 26 #[.slice none 0 0, .int .u64 (IntKind.u64.wrap bf)] c0 fun c4 ag => ∃ (ab : Option Addr) (aa a9 : Nat), c4 = .returned (.slice ab aa a9) ∧
 ∃ (az : Int), ag.cell? (bt.add 0) = some (.int .i64 az) ∧
 bif az == 1 then (
 ∃ (ad ao b2 bj bn al : Int) (af : Option Addr) (ar aq : Nat) (bm : Int), cellsAt ag (bt.add 1) [.int .i64 ad, .int .i64 ao, .int .u64 b2, .int .i64 bj, .int .i64 bn, .int .i64 al, .slice af ar aq, .int .u64 bm] 0 ∧
 Calls Try.prog 27 #[.slice ab aa a9, .agg #[.int .i64 ad, .int .i64 ao, .int .u64 b2, .int .i64 bj, .int .i64 bn, .int .i64 al, .slice af ar aq, .int .u64 bm]] ag fun c6 bw => ∃ (bk : Option Addr) (aw b7 : Nat), c6 = .returned (.slice bk aw b7) ∧
 bif decide ((aw : Int) > 4000) then (
 R (.tuple #[.slice none 0 0, .int .i64 3]) bw) else (
 R (.tuple #[.slice bk aw b7, .int .i64 0]) bw)) else (
 bif az == 4 then (
 thenW (ag.drew) fun bp =>
 ∃ (ac am b3 ba bd aj : Int) (an : Option Addr) (ak au : Nat) (bc : Int), cellsAt bp (bt.add 1) [.int .i64 ac, .int .i64 am, .int .u64 b3, .int .i64 ba, .int .i64 bd, .int .i64 aj, .slice an ak au, .int .u64 bc] 0 ∧
 ∃ (a1 a8 ae av ay a3 : Int) (a7 : Option Addr) (a4 a5 : Nat) (b1 : Int), cellsAt bp (bt.add 9) [.int .i64 a1, .int .i64 a8, .int .u64 ae, .int .i64 av, .int .i64 ay, .int .i64 a3, .slice a7 a4 a5, .int .u64 b1] 0 ∧
 Calls Try.prog 27 #[.slice ab aa a9, .agg #[.int .i64 ac, .int .i64 am, .int .u64 b3, .int .i64 ba, .int .i64 bd, .int .i64 aj, .slice an ak au, .int .u64 bc]] bp fun c9 bz => ∃ (bo : Option Addr) (bh b5 : Nat), c9 = .returned (.slice bo bh b5) ∧
 cellsAt bz (bt.add 9) [.int .i64 a1, .int .i64 a8, .int .u64 ae, .int .i64 av, .int .i64 ay, .int .i64 a3, .slice a7 a4 a5, .int .u64 b1] 0 ∧
 Calls Try.prog 27 #[.slice bo bh b5, .agg #[.int .i64 a1, .int .i64 a8, .int .u64 ae, .int .i64 av, .int .i64 ay, .int .i64 a3, .slice a7 a4 a5, .int .u64 b1]] bz fun ca c1 => ∃ (bi : Option Addr) (b0 bb : Nat), ca = .returned (.slice bi b0 bb) ∧
 bif decide ((b0 : Int) > 4000) then (
 R (.tuple #[.slice none 0 0, .int .i64 3]) c1) else (
 R (.tuple #[.slice bi b0 bb, .int .i64 0]) c1)) else (
 ∃ (c3 : Option Addr) (c2 bx : Nat), ag.cell? (bt.add 18) = some (.slice c3 c2 bx) ∧
 Calls Try.prog 28 #[.slice c3 c2 bx] ag fun cc bv => ∃ (ah : Option Addr) (ap ai : Nat) (bq : Int), cc = .returned (.tuple #[.slice ah ap ai, .int .i64 bq]) ∧
 ∃ (br : Int), bv.cell? (bt.add 17) = some (.int .i64 br) ∧
 Calls Try.prog 26 #[.slice ab aa a9, .int .u64 (IntKind.u64.wrap br)] bv fun c5 cb => ∃ (b6 : Option Addr) (bl b8 : Nat), c5 = .returned (.slice b6 bl b8) ∧
 Calls Try.prog 29 #[.slice b6 bl b8, .slice ah ap ai] cb fun c7 b4 => ∃ (a6 : Option Addr) (a0 a2 : Nat), c7 = .returned (.slice a6 a0 a2) ∧
 ∃ (b9 : Int), b4.cell? (bt.add 0) = some (.int .i64 b9) ∧
 bif b9 == 3 then (
 ∃ (bs : Int), b4.cell? (bt.add 19) = some (.int .u64 bs) ∧
 Calls Try.prog 26 #[.slice a6 a0 a2, .int .u64 bs] b4 fun c8 bu => ∃ (bg : Option Addr) (ax be : Nat), c8 = .returned (.slice bg ax be) ∧
 bif decide ((ax : Int) > 4000) then (
 R (.tuple #[.slice none 0 0, .int .i64 3]) bu) else (
 R (.tuple #[.slice bg ax be, .int .i64 0]) bu)) else (
 bif decide ((a0 : Int) > 4000) then (
 R (.tuple #[.slice none 0 0, .int .i64 3]) b4) else (
 R (.tuple #[.slice a6 a0 a2, .int .i64 0]) b4))))

def Q0u.M (bf ap b2 b3 bc bd ax : Int) (b1 : Option Addr) (az av : Nat) (bb ae an ay b4 b6 aq : Int) (ar : Option Addr) (au ao : Nat) (b5 be : Int) (bk : Option Addr) (bh bi : Nat) (ba : Int) (R : RW) (w : World) : Prop :=
 thenW (w.alloc (.cells #[.int .i64 bf, .int .i64 ap, .int .i64 b2, .int .u64 b3, .int .i64 bc, .int .i64 bd, .int .i64 ax, .slice b1 az av, .int .u64 bb, .int .i64 ae, .int .i64 an, .int .u64 ay, .int .i64 b4, .int .i64 b6, .int .i64 aq, .slice ar au ao, .int .u64 b5, .int .i64 be, .slice bk bh bi, .int .u64 ba] 38)) fun bg =>
 ∃ (ai a0 a6 ac ah aj a5 : Int) (a2 : Option Addr) (a9 aa : Nat) (al a1 a4 ad ag af a3 : Int) (a8 : Option Addr) (a7 ab : Nat) (ak aw : Int) (b9 : Option Addr) (b7 b8 : Nat) (b0 : Int), cellsAt bg (blk w.heap.size) [.int .i64 ai, .int .i64 a0, .int .i64 a6, .int .u64 ac, .int .i64 ah, .int .i64 aj, .int .i64 a5, .slice a2 a9 aa, .int .u64 al, .int .i64 a1, .int .i64 a4, .int .u64 ad, .int .i64 ag, .int .i64 af, .int .i64 a3, .slice a8 a7 ab, .int .u64 ak, .int .i64 aw, .slice b9 b7 b8, .int .u64 b0] 0 ∧
 Calls Try.prog 16 #[.agg #[.int .i64 ai, .int .i64 a0, .int .i64 a6, .int .u64 ac, .int .i64 ah, .int .i64 aj, .int .i64 a5, .slice a2 a9 aa, .int .u64 al, .int .i64 a1, .int .i64 a4, .int .u64 ad, .int .i64 ag, .int .i64 af, .int .i64 a3, .slice a8 a7 ab, .int .u64 ak, .int .i64 aw, .slice b9 b7 b8, .int .u64 b0]] bg fun bl bj => ∃ (am : Bool), bl = .returned (.bool am) ∧
 bif !am then (
 R (.tuple #[.slice none 0 0, .int .i64 1]) bj) else (
 Q0u.J1 (blk w.heap.size) R bj)

theorem Q0u.ok (am a3 ac ad aj ak a8 : Int) (ab : Option Addr) (aa a7 : Nat) (ai a0 a1 a9 ae af a4 : Int) (a5 : Option Addr) (a6 a2 : Nat) (ag al : Int) (ap : Option Addr) (an ao : Nat) (ah : Int) {R : RW} {w : World} (h : Q0u.M am a3 ac ad aj ak a8 ab aa a7 ai a0 a1 a9 ae af a4 a5 a6 a2 ag al ap an ao ah R w) : Calls Try.prog 9 #[.agg #[.int .i64 am, .int .i64 a3, .int .i64 ac, .int .u64 ad, .int .i64 aj, .int .i64 ak, .int .i64 a8, .slice ab aa a7, .int .u64 ai, .int .i64 a0, .int .i64 a1, .int .u64 a9, .int .i64 ae, .int .i64 af, .int .i64 a4, .slice a5 a6 a2, .int .u64 ag, .int .i64 al, .slice ap an ao, .int .u64 ah]] w fun e w' => ∃ v, e = .returned v ∧ R v w' :=
  Q09 follows (H := []) (args := [.agg #[.int .i64 am, .int .i64 a3, .int .i64 ac, .int .u64 ad, .int .i64 aj, .int .i64 ak, .int .i64 a8, .slice ab aa a7, .int .u64 ai, .int .i64 a0, .int .i64 a1, .int .u64 a9, .int .i64 ae, .int .i64 af, .int .i64 a4, .slice a5 a6 a2, .int .u64 ag, .int .i64 al, .slice ap an ao, .int .u64 ah]]) (cast (by kernel_rfl) h)

def Q0u.N (a0 a2 a6 ag av aw a8 : Int) (a7 : Option Addr) (a9 a4 : Nat) (au a3 ab aq ax az ae : Int) (ac : Option Addr) (af ad : Nat) (ay b5 : Int) (bl : Option Addr) (bj bk : Nat) (b0 : Int) (R : RW) (w : World) : Prop :=
 ∀ (bg : World) (bm : Nat), Ext no w bg → Priv w bg [bm] →
 Calls Try.prog 16 #[.agg #[.int .i64 a0, .int .i64 a2, .int .i64 a6, .int .u64 ag, .int .i64 av, .int .i64 aw, .int .i64 a8, .slice a7 a9 a4, .int .u64 au, .int .i64 a3, .int .i64 ab, .int .u64 aq, .int .i64 ax, .int .i64 az, .int .i64 ae, .slice ac af ad, .int .u64 ay, .int .i64 b5, .slice bl bj bk, .int .u64 b0]] bg fun c3 bh => ∃ (ak : Bool), c3 = .returned (.bool ak) ∧
 Keep [bm] bg bh ∧
 (ak = false →
 R (.tuple #[.slice none 0 0, .int .i64 1]) bh) ∧
 (ak = true →
 Calls Try.prog 26 #[.slice none 0 0, .int .u64 (IntKind.u64.wrap a0)] bh fun bx b2 => ∃ (am : Option Addr) (al an : Nat), bx = .returned (.slice am al an) ∧
 Keep [bm] bh b2 ∧
 (a0 = 1 →
 Calls Try.prog 27 #[.slice am al an, .agg #[.int .i64 a2, .int .i64 a6, .int .u64 ag, .int .i64 av, .int .i64 aw, .int .i64 a8, .slice a7 a9 a4, .int .u64 au]] b2 fun bv bq => ∃ (ba : Option Addr) (ai b4 : Nat), bv = .returned (.slice ba ai b4) ∧
 ((ai : Int) > 4000 →
 R (.tuple #[.slice none 0 0, .int .i64 3]) bq) ∧
 ((ai : Int) ≤ 4000 →
 R (.tuple #[.slice ba ai b4, .int .i64 0]) bq)) ∧
 (a0 ≠ 1 →
 (a0 = 4 →
 ∀ (bo : World), Ext no b2 bo →
 Calls Try.prog 27 #[.slice am al an, .agg #[.int .i64 a2, .int .i64 a6, .int .u64 ag, .int .i64 av, .int .i64 aw, .int .i64 a8, .slice a7 a9 a4, .int .u64 au]] bo fun c1 br => ∃ (b7 : Option Addr) (bc b3 : Nat), c1 = .returned (.slice b7 bc b3) ∧
 Keep [bm] bo br ∧
 Calls Try.prog 27 #[.slice b7 bc b3, .agg #[.int .i64 a3, .int .i64 ab, .int .u64 aq, .int .i64 ax, .int .i64 az, .int .i64 ae, .slice ac af ad, .int .u64 ay]] br fun bu bs => ∃ (bb : Option Addr) (ah b1 : Nat), bu = .returned (.slice bb ah b1) ∧
 ((ah : Int) > 4000 →
 R (.tuple #[.slice none 0 0, .int .i64 3]) bs) ∧
 ((ah : Int) ≤ 4000 →
 R (.tuple #[.slice bb ah b1, .int .i64 0]) bs)) ∧
 (a0 ≠ 4 →
 Calls Try.prog 28 #[.slice bl bj bk] b2 fun bz bp => ∃ (ar : Option Addr) (ao ap : Nat) (bf : Int), bz = .returned (.tuple #[.slice ar ao ap, .int .i64 bf]) ∧
 Keep [bm] b2 bp ∧
 Calls Try.prog 26 #[.slice am al an, .int .u64 (IntKind.u64.wrap b5)] bp fun c0 bn => ∃ (b8 : Option Addr) (bd b9 : Nat), c0 = .returned (.slice b8 bd b9) ∧
 Keep [bm] bp bn ∧
 Calls Try.prog 29 #[.slice b8 bd b9, .slice ar ao ap] bn fun c2 bi => ∃ (aa : Option Addr) (a1 a5 : Nat), c2 = .returned (.slice aa a1 a5) ∧
 Keep [bm] bn bi ∧
 (a0 = 3 →
 Calls Try.prog 26 #[.slice aa a1 a5, .int .u64 b0] bi fun bw bt => ∃ (be : Option Addr) (aj b6 : Nat), bw = .returned (.slice be aj b6) ∧
 ((aj : Int) > 4000 →
 R (.tuple #[.slice none 0 0, .int .i64 3]) bt) ∧
 ((aj : Int) ≤ 4000 →
 R (.tuple #[.slice be aj b6, .int .i64 0]) bt)) ∧
 (a0 ≠ 3 →
 ((a1 : Int) > 4000 →
 R (.tuple #[.slice none 0 0, .int .i64 3]) bi) ∧
 ((a1 : Int) ≤ 4000 →
 R (.tuple #[.slice aa a1 a5, .int .i64 0]) bi)))))

theorem Q0u.up (af a1 a5 ae aj ak a6 : Int) (a7 : Option Addr) (a4 a3 : Nat) (al a2 a9 ad ag ah a8 : Int) (ac : Option Addr) (ab aa : Nat) (ai an : Int) (aq : Option Addr) (ao ap : Nat) (am : Int) {R : RW} {w : World} (h : Q0u.N af a1 a5 ae aj ak a6 a7 a4 a3 al a2 a9 ad ag ah a8 ac ab aa ai an aq ao ap am R w) : Q0u.M af a1 a5 ae aj ak a6 a7 a4 a3 al a2 a9 ad ag ah a8 ac ab aa ai an aq ao ap am R w := by
  unfold Q0u.M
  unfold Q0u.N at h
  refine Q00 fun bp bx => ?_
  have a0 := Blk.of_new bx
  have cf := ((Ext.refl no w)).size
  have bo := (Ext.refl no w).x_alloc bx
  refine ⟨af, a1, a5, ae, aj, ak, a6, a7, a4, a3, al, a2, a9, ad, ag, ah, a8, ac, ab, aa, ai, an, aq, ao, ap, am, ⟨a0.celli 0 rfl rfl, a0.celli 1 rfl rfl, a0.celli 2 rfl rfl, a0.celli 3 rfl rfl, a0.celli 4 rfl rfl, a0.celli 5 rfl rfl, a0.celli 6 rfl rfl, a0.celli 7 rfl rfl, a0.celli 8 rfl rfl, a0.celli 9 rfl rfl, a0.celli 10 rfl rfl, a0.celli 11 rfl rfl, a0.celli 12 rfl rfl, a0.celli 13 rfl rfl, a0.celli 14 rfl rfl, a0.celli 15 rfl rfl, a0.celli 16 rfl rfl, a0.celli 17 rfl rfl, a0.celli 18 rfl rfl, a0.celli 19 rfl rfl, trivial⟩, ?_⟩
  have h := h bp (w.heap.size) bo (Priv.cons cf a0.lt Priv.nil)
  refine h.mono fun cg cd h => ?_
  obtain ⟨b0, he, hk, h⟩ := h
  refine ⟨b0, he, ?_⟩
  have a0 := hk.blk a0 (by simp)
  refine bif_of (fun bn => ?_) (fun bn => ?_)
  ·have h := h.1 (not_t bn)
   exact h
  have h := h.2 (not_f bn)
  first | unfold Q0u.J1 | skip
  refine ⟨af, a0.celli 0 rfl rfl, ?_⟩
  refine h.mono fun cc bs h => ?_
  obtain ⟨bi, b8, bd, he, hk, h⟩ := h
  refine ⟨bi, b8, bd, he, ?_⟩
  have a0 := hk.blk a0 (by simp)
  refine ⟨af, a0.celli 0 rfl rfl, ?_⟩
  refine bif_of (fun bq => ?_) (fun bq => ?_)
  ·have h := h.1 (beq_t bq)
   refine ⟨a1, a5, ae, aj, ak, a6, a7, a4, a3, al, ⟨a0.celli 1 rfl rfl, a0.celli 2 rfl rfl, a0.celli 3 rfl rfl, a0.celli 4 rfl rfl, a0.celli 5 rfl rfl, a0.celli 6 rfl rfl, a0.celli 7 rfl rfl, a0.celli 8 rfl rfl, trivial⟩, ?_⟩
   refine h.mono fun c6 c2 h => ?_
   obtain ⟨b6, b4, bb, he, h⟩ := h
   refine ⟨b6, b4, bb, he, ?_⟩
   refine bif_of (fun bl => ?_) (fun bl => ?_)
   ·have h := h.1 (of_decide_eq_true bl)
    exact h
   have h := h.2 (Int.not_lt.1 (of_decide_eq_false bl))
   exact h
  have h := h.2 (beq_f bq)
  refine bif_of (fun bm => ?_) (fun bm => ?_)
  ·have h := h.1 (beq_t bm)
   refine Q00 fun bj bw => ?_
   have bt := (Ext.refl no bs).x_drew bw
   have a0 := a0.x_drew bw
   refine ⟨a1, a5, ae, aj, ak, a6, a7, a4, a3, al, ⟨a0.celli 1 rfl rfl, a0.celli 2 rfl rfl, a0.celli 3 rfl rfl, a0.celli 4 rfl rfl, a0.celli 5 rfl rfl, a0.celli 6 rfl rfl, a0.celli 7 rfl rfl, a0.celli 8 rfl rfl, trivial⟩, ?_⟩
   refine ⟨a2, a9, ad, ag, ah, a8, ac, ab, aa, ai, ⟨a0.celli 9 rfl rfl, a0.celli 10 rfl rfl, a0.celli 11 rfl rfl, a0.celli 12 rfl rfl, a0.celli 13 rfl rfl, a0.celli 14 rfl rfl, a0.celli 15 rfl rfl, a0.celli 16 rfl rfl, trivial⟩, ?_⟩
   have h := h bj bt
   refine h.mono fun c9 cb h => ?_
   obtain ⟨bc, b7, be, he, hk, h⟩ := h
   refine ⟨bc, b7, be, he, ?_⟩
   have a0 := hk.blk a0 (by simp)
   refine ⟨⟨a0.celli 9 rfl rfl, a0.celli 10 rfl rfl, a0.celli 11 rfl rfl, a0.celli 12 rfl rfl, a0.celli 13 rfl rfl, a0.celli 14 rfl rfl, a0.celli 15 rfl rfl, a0.celli 16 rfl rfl, trivial⟩, ?_⟩
   refine h.mono fun c3 c7 h => ?_
   obtain ⟨bf, b9, ba, he, h⟩ := h
   refine ⟨bf, b9, ba, he, ?_⟩
   refine bif_of (fun bu => ?_) (fun bu => ?_)
   ·have h := h.1 (of_decide_eq_true bu)
    exact h
   have h := h.2 (Int.not_lt.1 (of_decide_eq_false bu))
   exact h
  have h := h.2 (beq_f bm)
  refine ⟨aq, ao, ap, a0.celli 18 rfl rfl, ?_⟩
  refine h.mono fun ce c5 h => ?_
  obtain ⟨aw, ar, av, az, he, hk, h⟩ := h
  refine ⟨aw, ar, av, az, he, ?_⟩
  have a0 := hk.blk a0 (by simp)
  refine ⟨an, a0.celli 17 rfl rfl, ?_⟩
  refine h.mono fun c8 ca h => ?_
  obtain ⟨b2, bg, b3, he, hk, h⟩ := h
  refine ⟨b2, bg, b3, he, ?_⟩
  have a0 := hk.blk a0 (by simp)
  refine h.mono fun c0 c4 h => ?_
  obtain ⟨ay, ax, au, he, hk, h⟩ := h
  refine ⟨ay, ax, au, he, ?_⟩
  have a0 := hk.blk a0 (by simp)
  refine ⟨af, a0.celli 0 rfl rfl, ?_⟩
  refine bif_fo (fun bv => ?_) (fun bv => ?_)
  ·have h := h.2 (beq_f bv)
   refine bif_of (fun bk => ?_) (fun bk => ?_)
   ·have h := h.1 (of_decide_eq_true bk)
    exact h
   have h := h.2 (Int.not_lt.1 (of_decide_eq_false bk))
   exact h
  have h := h.1 (beq_t bv)
  refine ⟨am, a0.celli 19 rfl rfl, ?_⟩
  refine h.mono fun bz c1 h => ?_
  obtain ⟨bh, b1, b5, he, h⟩ := h
  refine ⟨bh, b1, b5, he, ?_⟩
  refine bif_of (fun br => ?_) (fun br => ?_)
  ·have h := h.1 (of_decide_eq_true br)
   exact h
  have h := h.2 (Int.not_lt.1 (of_decide_eq_false br))
  exact h

theorem Q0u.go (am a3 ac ad aj ak a8 : Int) (ab : Option Addr) (aa a7 : Nat) (ai a0 a1 a9 ae af a4 : Int) (a5 : Option Addr) (a6 a2 : Nat) (ag al : Int) (ap : Option Addr) (an ao : Nat) (ah : Int) {R : RW} {w : World} (h : Q0u.N am a3 ac ad aj ak a8 ab aa a7 ai a0 a1 a9 ae af a4 a5 a6 a2 ag al ap an ao ah R w) : Calls Try.prog 9 #[.agg #[.int .i64 am, .int .i64 a3, .int .i64 ac, .int .u64 ad, .int .i64 aj, .int .i64 ak, .int .i64 a8, .slice ab aa a7, .int .u64 ai, .int .i64 a0, .int .i64 a1, .int .u64 a9, .int .i64 ae, .int .i64 af, .int .i64 a4, .slice a5 a6 a2, .int .u64 ag, .int .i64 al, .slice ap an ao, .int .u64 ah]] w fun e w' => ∃ v, e = .returned v ∧ R v w' := Q0u.ok am a3 ac ad aj ak a8 ab aa a7 ai a0 a1 a9 ae af a4 a5 a6 a2 ag al ap an ao ah (Q0u.up am a3 ac ad aj ak a8 ab aa a7 ai a0 a1 a9 ae af a4 a5 a6 a2 ag al ap an ao ah h)
set_option maxRecDepth 20000
open W (OwnB Rd numR countR doneR)
section
variable {w w' : World} {x y : FP} {e f : Ent} {a ba : Option Addr} {c bc : Nat} {bs : List UInt8}
theorem Q2H (h : RowAt w a (bytesV bs)) (hl : bs.length ≤ 100000) (hr : Q0z e = true) (hf : e.fit) (hb : RowAt w ba (bytesV e.body)) :
    Calls Try.prog 27 #[.slice a bs.length c, entV e ba bc] w (fun x w' => ∃ a' c', x = .returned (.slice a' (bs ++ encE e).length c') ∧ OwnB w.heap.size w' a' c' (bs ++ encE e) ∧ Ext no w w') := by
  refine (Q0K.go a bs.length c e.w e.i e.pv e.t e.tw e.ep ba e.body.length bc e.sg (R := fun v w' => ∃ a' c', v = (.slice a' (bs ++ encE e).length c') ∧ OwnB w.heap.size w' a' c' (bs ++ encE e) ∧ Ext no w w') ?_).mono fun x w' ⟨v, he, a, c, hv, hw⟩ => ⟨a, c, by rw [he, hv], hw⟩
  unfold Q0K.N
  intro w10 X10
  refine (Q3a (fun _ => hf) (hb.no X10)).mono fun x w15 ⟨X15, hor⟩ => ?_
  rcases hor with ⟨hn, _⟩ | ⟨_, a1, c1, he, hO⟩
  · rw [hr] at hn; cases hn
  refine ⟨a1, _, c1, _, he, ?_⟩
  have X := X10.trans X15
  have hel := ent_len hr
  refine (W.Bytes_spec (h.no X) (by omega) hO.row (by omega)).mono fun x w18 ⟨a2, c2, he, hO2, X18⟩ => ⟨a2, _, c2, he, a2, c2, ?_, ?_, X.trans X18⟩
  · unfold encE; rw [List.append_assoc]
  · unfold encE; rw [← List.append_assoc]; exact OwnB.up hO2 X.size
theorem Q3R {z : Fr} (hz : x.r = z) (h : x.at w) (hf : x.r.fit) (hl : x.r.v.length ≤ 1000) :
    Calls Try.prog 9 #[x.V] w (fun u w' => ∃ a c, u = .returned (.tuple #[.slice a (frK z).1.length c, .int .i64 (frK z).2]) ∧ OwnB w.heap.size w' a c (frK z).1 ∧ Ext no w w') := by
  obtain ⟨⟨kd, e, f, who, v, sg⟩, ea, ec, fa, fc, va, vc⟩ := x
  have hx : Fr.mk kd e f who v sg = z := hz
  obtain ⟨he, hf1, hv⟩ := id h
  obtain ⟨fe, ff, fv, fs⟩ := hf
  have he : RowAt w ea (bytesV e.body) := he
  have hf1 : RowAt w fa (bytesV f.body) := hf1
  have hv : RowAt w va (hsC v) := hv
  have fe : e.fit := fe
  have ff : f.fit := ff
  have fv : ∀ h ∈ v, 0 ≤ h.2.2 ∧ h.2.2 < 18446744073709551616 := fv
  have fs : 0 ≤ sg ∧ sg < 18446744073709551616 := fs
  have hl : v.length ≤ 1000 := hl
  have hR : ∀ {l : List UInt8} {a : Option Addr} {c : Nat} {w2 : World}, frOK z = true → l = frL z → OwnB w.heap.size w2 a c l → Ext no w w2 →
      (((l.length : Int) > 4000 → (∃ a c, (.tuple #[.slice none 0 0, .int .i64 3] : Value) = (.tuple #[.slice a (frK z).1.length c, .int .i64 (frK z).2]) ∧ OwnB w.heap.size w2 a c (frK z).1 ∧ Ext no w w2)) ∧
       ((l.length : Int) ≤ 4000 → (∃ a' c', (.tuple #[.slice a l.length c, .int .i64 0] : Value) = (.tuple #[.slice a' (frK z).1.length c', .int .i64 (frK z).2]) ∧ OwnB w.heap.size w2 a' c' (frK z).1 ∧ Ext no w w2))) := fun {l a c w2} hk hl hO X => by
    subst hl
    refine ⟨fun hg => ?_, fun hg => ?_⟩
    · have e : frK z = ([], 3) := by unfold frK; rw [hk, if_neg (by decide), if_pos (by omega)]
      rw [e]; exact ⟨none, 0, rfl, OwnB.nil _ _, X⟩
    · have e : frK z = (frL z, 0) := by unfold frK; rw [hk, if_neg (by decide), if_neg (by omega)]
      rw [e]; exact ⟨a, c, rfl, hO, X⟩
  refine (Q0u.go kd e.w e.i e.pv e.t e.tw e.ep ea e.body.length ec e.sg f.w f.i f.pv f.t f.tw f.ep fa f.body.length fc f.sg who va v.length vc sg (R := fun u w' => ∃ a c, u = (.tuple #[.slice a (frK z).1.length c, .int .i64 (frK z).2]) ∧ OwnB w.heap.size w' a c (frK z).1 ∧ Ext no w w') ?_).mono fun u w' ⟨v, he, a, c, hv, hw⟩ => ⟨a, c, by rw [he, hv], hw⟩
  unfold Q0u.N
  intro w21 p22 X21 hp
  have at21 := h.no X21
  refine (Q25 at21 (by show v.length < 1000000; omega)).mono fun u w25 ⟨hu, X25⟩ => ⟨_, hu, X25.kept, fun hk => ?_, fun hk => ?_⟩
  · have hk : frOK ⟨kd, e, f, who, v, sg⟩ = false := hk
    rw [hx] at hk
    have ek : frK z = ([], 1) := by unfold frK; rw [if_pos hk]
    rw [ek]; exact ⟨none, 0, rfl, OwnB.nil _ _, X21.trans X25⟩
  have hk : frOK ⟨kd, e, f, who, v, sg⟩ = true := hk
  have hkd := frOK_kd hk
  simp only at hkd
  have hle := fun h => frOK_e hk h
  have hlf := fun h => frOK_f hk h
  have hlv := fun h => frOK_v hk h
  simp only at hle hlf hlv
  have Y25 := X21.trans X25
  rw [wu64 (n := kd) (by omega) (by omega)]
  have ekd : kd = ((kd.toNat : Nat) : Int) := by omega
  have key : ∀ {K : Int}, K = kd → Calls Try.prog 26 #[.slice none 0 0, .int .u64 K] w25 (fun e w' => ∃ a' c', e = .returned (.slice a' (numL kd.toNat).length c') ∧ OwnB w25.heap.size w' a' c' (numL kd.toNat) ∧ Ext no w25 w') := fun {K} hK => by
    rw [hK, ekd]
    exact W.Num_spec (bs := []) (c := 0) (RowAt.nil _ _) (by simp) (n := kd.toNat) (by omega)
  refine (key rfl).mono fun u w29 ⟨a1, c1, hu, hO1, X29⟩ => ⟨a1, _, c1, hu, X29.kept, fun k1 => ?_, fun k1 => ⟨fun k4 w36 X36 => ?_, fun k4 => ?_⟩⟩
  all_goals have Y29 := Y25.trans X29
  all_goals have n1 := W.numL_le kd.toNat
  · have hre := hle (.inl k1)
    refine (Q2H (e := e) hO1.row (by omega) hre fe (he.no Y29)).mono fun u w33 ⟨a2, c2, hu, hO2, X33⟩ => ⟨a2, _, c2, hu, ?_⟩
    exact hR (hx ▸ hk) (by rw [← hx]; unfold frL frP; rw [if_pos k1]) (OwnB.up hO2 Y29.size) (Y29.trans X33)
  · have hre := hle (.inr k4)
    have hrf := hlf k4
    have Y36 := Y29.trans X36
    refine (Q2H (e := e) (hO1.row.no X36) (by omega) hre fe (he.no Y36)).mono fun u w39 ⟨a2, c2, hu, hO2, X39⟩ => ⟨a2, _, c2, hu, X39.kept, ?_⟩
    have Y39 := Y36.trans X39
    have l2 := Q4n hre
    refine (Q2H (e := f) hO2.row (by rw [List.length_append]; omega) hrf ff (hf1.no Y39)).mono fun u w42 ⟨a3, c3, hu, hO3, X42⟩ => ⟨a3, _, c3, hu, ?_⟩
    exact hR (hx ▸ hk) (by rw [← hx]; unfold frL frP; rw [if_neg k1, if_pos k4, List.append_assoc]) (OwnB.up hO3 Y39.size) (Y39.trans X42)
  · obtain ⟨w0, w8, hrv⟩ := hlv (by omega)
    have ewho : who = ((who.toNat : Nat) : Int) := by omega
    refine (Q3f (hv.no Y29) hl (vnat fv)).mono fun u w47 ⟨X47, hor⟩ => ?_
    rcases hor with ⟨hn, _⟩ | ⟨_, a2, c2, hu, hO2⟩
    · rw [hrv] at hn; cases hn
    refine ⟨a2, _, c2, _, hu, X47.kept, ?_⟩
    rw [wu64 (n := who) (by omega) (by omega)]
    have key2 : ∀ {K : Int}, K = who → Calls Try.prog 26 #[.slice a1 (numL kd.toNat).length c1, .int .u64 K] w47 (fun e w' => ∃ a' c', e = .returned (.slice a' (numL kd.toNat ++ numL who.toNat).length c') ∧ OwnB w47.heap.size w' a' c' (numL kd.toNat ++ numL who.toNat) ∧ Ext no w47 w') := fun {K} hK => by
      rw [hK, ewho]
      exact W.Num_spec (hO1.row.no X47) (by omega) (n := who.toNat) (by omega)
    have n2 := W.numL_le who.toNat
    have n3 := vec_len hrv
    have Y47 := Y29.trans X47
    refine (key2 rfl).mono fun u w50 ⟨a3, c3, hu, hO3, X50⟩ => ⟨a3, _, c3, hu, X50.kept, ?_⟩
    have Y50 := Y47.trans X50
    refine (W.Bytes_spec hO3.row (by rw [List.length_append]; omega) (hO2.row.no X50) (by omega)).mono fun u w53 ⟨a4, c4, hu, hO4, X53⟩ => ⟨a4, _, c4, hu, X53.kept, fun k3 => ?_, fun k3 => ?_⟩
    all_goals have Y53 := Y50.trans X53
    · have n4 := W.numL_le (vecL v).length
      have esg : sg = ((sg.toNat : Nat) : Int) := by omega
      have key3 : ∀ {K : Int}, K = sg → Calls Try.prog 26 #[.slice a4 (numL kd.toNat ++ numL who.toNat ++ numL (vecL v).length ++ vecL v).length c4, .int .u64 K] w53 (fun e w' => ∃ a' c', e = .returned (.slice a' (numL kd.toNat ++ numL who.toNat ++ numL (vecL v).length ++ vecL v ++ numL sg.toNat).length c') ∧ OwnB w53.heap.size w' a' c' (numL kd.toNat ++ numL who.toNat ++ numL (vecL v).length ++ vecL v ++ numL sg.toNat) ∧ Ext no w53 w') := fun {K} hK => by
        rw [hK, esg]
        exact W.Num_spec hO4.row (by simp only [List.length_append]; omega) (n := sg.toNat) (by omega)
      refine (key3 rfl).mono fun u w57 ⟨a5, c5, hu, hO5, X57⟩ => ⟨a5, _, c5, hu, ?_⟩
      exact hR (hx ▸ hk) (by rw [← hx]; unfold frL frP encV; rw [if_neg k1, if_neg k4, if_pos k3]; simp only [List.append_assoc]) (OwnB.up hO5 Y53.size) (Y53.trans X57)
    · exact hR (hx ▸ hk) (by rw [← hx]; unfold frL frP encV; rw [if_neg k1, if_neg k4, if_neg k3]; simp only [List.append_assoc]) (OwnB.up hO4 Y50.size) Y53
theorem Q2Z (h : x.at w) (hf : x.r.fit) (hl : x.r.v.length ≤ 1000) :
    Calls Try.prog 9 #[x.V] w (fun u w' => ∃ a c, u = .returned (.tuple #[.slice a (frK x.r).1.length c, .int .i64 (frK x.r).2]) ∧ OwnB w.heap.size w' a c (frK x.r).1 ∧ Ext no w w') := Q3R rfl h hf hl
end
set_option maxRecDepth 100000
def Q0b.M  (R : RW) (w : World) : Prop :=
 thenW (w.alloc (.cells #[.int .u8 97] 5)) fun cu =>
 ∃ (co : Option Addr) (cq cn : Nat) (ck : World), (convert 25 25 (.slice (some (blk w.heap.size)) 1 1)).run Try.prog cu = .ok (.slice co cq cn) ck ∧
 thenW (ck.alloc (.cells #[.slice co cq cn, .slice none 0 0] 25)) fun cr =>
 Calls Try.prog 21 #[.slice (some (blk ck.heap.size)) 2 2] cr fun cs cp => ∃ (b6 : Option Addr) (bl bg : Nat) (bz : Int), cs = .returned (.tuple #[.slice b6 bl bg, .int .i64 bz]) ∧
 thenW (cp.alloc (.cells #[.int .u8 120] 5)) fun ct =>
 ∃ (ca : Option Addr) (c8 c7 : Nat) (bt : World), (convert 25 25 (.slice (some (blk cp.heap.size)) 1 1)).run Try.prog ct = .ok (.slice ca c8 c7) bt ∧
 thenW (bt.alloc (.cells #[.int .i64 0, .int .i64 0, .int .u64 0, .int .i64 0, .int .i64 0, .int .i64 0, .slice none 0 0, .int .u64 0] 27)) fun cl =>
 putsK cl (blk bt.heap.size) [.int .i64 1, .int .i64 0, .int .u64 0, .int .i64 5, .int .i64 1, .int .i64 0, .slice ca c8 c7, .int .u64 9] 0 fun cb =>
 ∃ (a0 ax b3 bb bc au : Int) (af : Option Addr) (a5 ak : Nat) (ba : Int), cellsAt cb (blk bt.heap.size) [.int .i64 a0, .int .i64 ax, .int .u64 b3, .int .i64 bb, .int .i64 bc, .int .i64 au, .slice af a5 ak, .int .u64 ba] 0 ∧
 Calls Try.prog 20 #[.agg #[.int .i64 a0, .int .i64 ax, .int .u64 b3, .int .i64 bb, .int .i64 bc, .int .i64 au, .slice af a5 ak, .int .u64 ba]] cb fun ce cd => ∃ (bd a2 an b0 br bs ai : Int) (al : Option Addr) (a7 aw : Nat) (bo a4 am b2 b9 bq aj : Int) (ad : Option Addr) (ag ao : Nat) (b8 c1 : Int) (c5 : Option Addr) (c9 cc : Nat) (bx : Int), ce = .returned (.agg #[.int .i64 bd, .int .i64 a2, .int .i64 an, .int .u64 b0, .int .i64 br, .int .i64 bs, .int .i64 ai, .slice al a7 aw, .int .u64 bo, .int .i64 a4, .int .i64 am, .int .u64 b2, .int .i64 b9, .int .i64 bq, .int .i64 aj, .slice ad ag ao, .int .u64 b8, .int .i64 c1, .slice c5 c9 cc, .int .u64 bx]) ∧
 Calls Try.prog 9 #[.agg #[.int .i64 bd, .int .i64 a2, .int .i64 an, .int .u64 b0, .int .i64 br, .int .i64 bs, .int .i64 ai, .slice al a7 aw, .int .u64 bo, .int .i64 a4, .int .i64 am, .int .u64 b2, .int .i64 b9, .int .i64 bq, .int .i64 aj, .slice ad ag ao, .int .u64 b8, .int .i64 c1, .slice c5 c9 cc, .int .u64 bx]] cd fun cm ch => ∃ (ap : Option Addr) (a6 a9 : Nat) (b5 : Int), cm = .returned (.tuple #[.slice ap a6 a9, .int .i64 b5]) ∧
 Calls Try.prog 13 #[.slice ap a6 a9] ch fun cf bu => ∃ (bf a1 ac b1 bn b7 ah : Int) (ar : Option Addr) (ay av : Nat) (be a3 aq b4 bj bh ae : Int) (aa : Option Addr) (ab a8 : Nat) (bp bv : Int) (c6 : Option Addr) (c4 c3 : Nat) (bw bm : Int), cf = .returned (.tuple #[.agg #[.int .i64 bf, .int .i64 a1, .int .i64 ac, .int .u64 b1, .int .i64 bn, .int .i64 b7, .int .i64 ah, .slice ar ay av, .int .u64 be, .int .i64 a3, .int .i64 aq, .int .u64 b4, .int .i64 bj, .int .i64 bh, .int .i64 ae, .slice aa ab a8, .int .u64 bp, .int .i64 bv, .slice c6 c4 c3, .int .u64 bw], .int .i64 bm]) ∧
 thenW (bu.alloc (.cells #[.int .i64 0, .int .i64 0, .int .i64 0, .int .u64 0, .int .i64 0, .int .i64 0, .int .i64 0, .slice none 0 0, .int .u64 0, .int .i64 0, .int .i64 0, .int .u64 0, .int .i64 0, .int .i64 0, .int .i64 0, .slice none 0 0, .int .u64 0, .int .i64 0, .slice none 0 0, .int .u64 0] 38)) fun ci =>
 putsK ci (blk bu.heap.size) [.int .i64 bf, .int .i64 a1, .int .i64 ac, .int .u64 b1, .int .i64 bn, .int .i64 b7, .int .i64 ah, .slice ar ay av, .int .u64 be, .int .i64 a3, .int .i64 aq, .int .u64 b4, .int .i64 bj, .int .i64 bh, .int .i64 ae, .slice aa ab a8, .int .u64 bp, .int .i64 bv, .slice c6 c4 c3, .int .u64 bw] 0 fun c2 =>
 bif bz == 0 then (
 thenW (c2.alloc (.cells #[.int .u8 2, .int .u8 1, .int .u8 97, .int .u8 0] 5)) fun cj =>
 Calls Try.prog 11 #[.slice b6 bl bg, .slice (some (blk c2.heap.size)) 4 4] cj fun cg az => ∃ (bk : Bool), cg = .returned (.bool bk) ∧
 bif bk then (
 bif b5 == 0 then (
 bif bm == 0 then (
 ∃ (bi : Int), az.cell? ((blk bu.heap.size).add 0) = some (.int .i64 bi) ∧
 bif bi == 1 then (
 ∃ (c0 : Int), az.cell? (((blk bu.heap.size).add 1).add 7) = some (.int .u64 c0) ∧
 R (.bool (c0 == 9)) az) else (
 R (.bool false) az)) else (
 R (.bool false) az)) else (
 R (.bool false) az)) else (
 R (.bool false) az)) else (
 R (.bool false) c2)

theorem Q0b.ok  {R : RW} {w : World} (h : Q0b.M  R w) : Calls Try.prog 8 #[] w fun e w' => ∃ v, e = .returned v ∧ R v w' :=
  Q09 follows (H := []) (args := []) (cast (by kernel_rfl) h)

def Q0b.N  (R : RW) (w : World) : Prop :=
 ∀ (c3 : World) (q2 : Nat), Ext no w c3 → Blk c3 q2 5 [.int .u8 97] → w.heap.size ≤ q2 → q2 < c3.heap.size →
 ∃ (cg : Option Addr) (cf ci : Nat) (c6 : World), (convert 25 25 (.slice (some (blk q2)) 1 1)).run Try.prog c3 = .ok (.slice cg cf ci) c6 ∧
 ∀ (c2 : World) (q6 : Nat), Ext no c6 c2 → Blk c2 q6 25 [.slice cg cf ci, .slice none 0 0] → c6.heap.size ≤ q6 → q6 < c2.heap.size →
 Calls Try.prog 21 #[.slice (some (blk q6)) 2 2] c2 fun cj bq => ∃ (ay : Option Addr) (au b6 : Nat) (bb : Int), cj = .returned (.tuple #[.slice ay au b6, .int .i64 bb]) ∧
 ∀ (bd : World) (c4 : Nat), Ext no bq bd → Blk bd c4 5 [.int .u8 120] → bq.heap.size ≤ c4 → c4 < bd.heap.size →
 ∃ (br : Option Addr) (bs bo : Nat) (bp : World), (convert 25 25 (.slice (some (blk c4)) 1 1)).run Try.prog bd = .ok (.slice br bs bo) bp ∧
 ∀ (bt : World), Ext no bp bt →
 Calls Try.prog 20 #[.agg #[.int .i64 1, .int .i64 0, .int .u64 0, .int .i64 5, .int .i64 1, .int .i64 0, .slice br bs bo, .int .u64 9]] bt fun cc ce => ∃ (b2 a1 a4 ak b0 b8 ae : Int) (a6 : Option Addr) (ab a5 : Nat) (ap a0 a7 aj ar b7 af : Int) (ac : Option Addr) (aa a8 : Nat) (b4 bh : Int) (bw : Option Addr) (bv c0 : Nat) (bi : Int), cc = .returned (.agg #[.int .i64 b2, .int .i64 a1, .int .i64 a4, .int .u64 ak, .int .i64 b0, .int .i64 b8, .int .i64 ae, .slice a6 ab a5, .int .u64 ap, .int .i64 a0, .int .i64 a7, .int .u64 aj, .int .i64 ar, .int .i64 b7, .int .i64 af, .slice ac aa a8, .int .u64 b4, .int .i64 bh, .slice bw bv c0, .int .u64 bi]) ∧
 Calls Try.prog 9 #[.agg #[.int .i64 b2, .int .i64 a1, .int .i64 a4, .int .u64 ak, .int .i64 b0, .int .i64 b8, .int .i64 ae, .slice a6 ab a5, .int .u64 ap, .int .i64 a0, .int .i64 a7, .int .u64 aj, .int .i64 ar, .int .i64 b7, .int .i64 af, .slice ac aa a8, .int .u64 b4, .int .i64 bh, .slice bw bv c0, .int .u64 bi]] ce fun c8 c7 => ∃ (a9 : Option Addr) (a3 ad : Nat) (a2 : Int), c8 = .returned (.tuple #[.slice a9 a3 ad, .int .i64 a2]) ∧
 Calls Try.prog 13 #[.slice a9 a3 ad] c7 fun ca bf => ∃ (ai am b1 be bj bm az : Int) (b9 : Option Addr) (ax bc : Nat) (b3 an av bg bk bn ao : Int) (aq : Option Addr) (ba aw : Nat) (bl bu : Int) (cb : Option Addr) (c5 c9 : Nat) (bx ah : Int), ca = .returned (.tuple #[.agg #[.int .i64 ai, .int .i64 am, .int .i64 b1, .int .u64 be, .int .i64 bj, .int .i64 bm, .int .i64 az, .slice b9 ax bc, .int .u64 b3, .int .i64 an, .int .i64 av, .int .u64 bg, .int .i64 bk, .int .i64 bn, .int .i64 ao, .slice aq ba aw, .int .u64 bl, .int .i64 bu, .slice cb c5 c9, .int .u64 bx], .int .i64 ah]) ∧
 (bb = 0 →
 ∀ (b5 : World) (c1 ch : Nat), Ext no bf b5 → Blk b5 c1 5 [.int .u8 2, .int .u8 1, .int .u8 97, .int .u8 0] → bf.heap.size ≤ c1 → c1 < b5.heap.size → Privq bf c1 [ch] →
 Calls Try.prog 11 #[.slice ay au b6, .slice (some (blk c1)) 4 4] b5 fun cd al => ∃ (ag : Bool), cd = .returned (.bool ag) ∧
 Keep [ch] b5 al ∧
 (ag = true →
 (a2 = 0 →
 (ah = 0 →
 (ai = 1 →
 R (.bool (b3 == 9)) al) ∧
 (ai ≠ 1 →
 R (.bool false) al)) ∧
 (ah ≠ 0 →
 R (.bool false) al)) ∧
 (a2 ≠ 0 →
 R (.bool false) al)) ∧
 (ag = false →
 R (.bool false) al)) ∧
 (bb ≠ 0 →
 ∀ (bz : World), Ext no bf bz →
 R (.bool false) bz)

theorem Q0b.up  {R : RW} {w : World} (h : Q0b.N  R w) : Q0b.M  R w := by
  unfold Q0b.M
  unfold Q0b.N at h
  refine Q00 fun d1 e1 => ?_
  have h := h d1 w.heap.size ((Ext.refl no w).x_alloc e1) (Blk.of_new e1) ((Ext.refl no w)).size (Q0s e1)
  obtain ⟨cw, cl, d0, bw, hr, h⟩ := h
  refine ⟨cw, cl, d0, bw, hr, ?_⟩
  refine Q00 fun cs e5 => ?_
  have h := h cs bw.heap.size ((Ext.refl no bw).x_alloc e5) (Blk.of_new e5) ((Ext.refl no bw)).size (Q0s e5)
  refine h.mono fun d4 b5 h => ?_
  obtain ⟨b8, b6, bf, bv, he, h⟩ := h
  refine ⟨b8, b6, bf, bv, he, ?_⟩
  refine Q00 fun c5 cf => ?_
  have h := h c5 b5.heap.size ((Ext.refl no b5).x_alloc cf) (Blk.of_new cf) ((Ext.refl no b5)).size (Q0s cf)
  obtain ⟨bo, bp, bn, b3, hr, h⟩ := h
  refine ⟨bo, bp, bn, b3, hr, ?_⟩
  refine Q00 fun cy ch => ?_
  have av := Blk.of_new ch
  have d2 := ((Ext.refl no b3)).size
  have cb := (Ext.refl no b3).x_alloc ch
  refine Q0S (k := 0) (j := 0) av (by exact Nat.le_of_ble_eq_true rfl) fun c2 cr cq => ?_
  have c9 := cb.x_puts cr (.inr d2)
  have av := Q1c cq rfl
  refine ⟨1, 0, 0, 5, 1, 0, bo, bp, bn, 9, ⟨av.celli 0 rfl rfl, av.celli 1 rfl rfl, av.celli 2 rfl rfl, av.celli 3 rfl rfl, av.celli 4 rfl rfl, av.celli 5 rfl rfl, av.celli 6 rfl rfl, av.celli 7 rfl rfl, trivial⟩, ?_⟩
  have h := h c2 c9
  refine h.mono fun cv cz h => ?_
  obtain ⟨bc, a3, a6, b1, ba, bh, an, ac, ai, ab, b2, a2, ad, ay, b4, bg, ao, ak, ah, ae, bd, br, c7, c4, ce, bu, he, h⟩ := h
  refine ⟨bc, a3, a6, b1, ba, bh, an, ac, ai, ab, b2, a2, ad, ay, b4, bg, ao, ak, ah, ae, bd, br, c7, c4, ce, bu, he, ?_⟩
  refine h.mono fun co cn h => ?_
  obtain ⟨ag, a5, al, ax, he, h⟩ := h
  refine ⟨ag, a5, al, ax, he, ?_⟩
  refine h.mono fun cu bb h => ?_
  obtain ⟨au, a0, aj, aw, b7, bl, af, ap, aa, ar, am, a1, a8, az, b9, bm, a4, a7, aq, a9, bi, bq, ca, c0, c6, bs, bk, he, h⟩ := h
  refine ⟨au, a0, aj, aw, b7, bl, af, ap, aa, ar, am, a1, a8, az, b9, bm, a4, a7, aq, a9, bi, bq, ca, c0, c6, bs, bk, he, ?_⟩
  refine Q00 fun d3 ci => ?_
  have b0 := Blk.of_new ci
  have cj := ((Ext.refl no bb)).size
  have c3 := (Ext.refl no bb).x_alloc ci
  refine Q0S (k := 0) (j := 0) b0 (by exact Nat.le_of_ble_eq_true rfl) fun bt ck ct => ?_
  have be := c3.x_puts ck (.inr cj)
  have b0 := Q1c ct rfl
  refine bif_fo (fun cd => ?_) (fun cd => ?_)
  ·have h := h.2 (beq_f cd)
   have h := h bt be
   exact h
  have h := h.1 (beq_t cd)
  refine Q00 fun cc bx => ?_
  have cm := b0.lt
  have b0 := b0.x_alloc bx
  have h := h cc bt.heap.size (bb.heap.size) (be.x_alloc bx) (Blk.of_new bx) (be).size (Q0s bx) (Privq.cons cj cm Privq.nil)
  refine h.mono fun cx cp h => ?_
  obtain ⟨bj, he, hk, h⟩ := h
  refine ⟨bj, he, ?_⟩
  have b0 := hk.blk b0 (by simp)
  refine bif_fo (fun bz => ?_) (fun bz => ?_)
  ·have h := h.2 bz
   exact h
  have h := h.1 bz
  refine bif_fo (fun cg => ?_) (fun cg => ?_)
  ·have h := h.2 (beq_f cg)
   exact h
  have h := h.1 (beq_t cg)
  refine bif_fo (fun c8 => ?_) (fun c8 => ?_)
  ·have h := h.2 (beq_f c8)
   exact h
  have h := h.1 (beq_t c8)
  refine ⟨au, b0.celli 0 rfl rfl, ?_⟩
  refine bif_fo (fun c1 => ?_) (fun c1 => ?_)
  ·have h := h.2 (beq_f c1)
   exact h
  have h := h.1 (beq_t c1)
  refine ⟨am, b0.celli 8 rfl rfl, ?_⟩
  exact h

theorem Q0b.go  {R : RW} {w : World} (h : Q0b.N  R w) : Calls Try.prog 8 #[] w fun e w' => ∃ v, e = .returned v ∧ R v w' := Q0b.ok  (Q0b.up  h)
theorem Q0b.run  {V : Value} {Q : World → Prop} {w : World} (h : Q0b.N  (fun v w' => v = V ∧ Q w') w) : Calls Try.prog 8 #[] w (Ret V Q) := (Q0b.go  h).mono fun e w' ⟨v, he, hv, hq⟩ => ⟨by rw [he, hv], hq⟩


def Q03.M (a6 : Option Addr) (a3 a4 a8 : Nat) (a1 a5 : Array Value) (R : RW) (w : World) : Prop :=
 Calls Try.prog 70 #[.slice a6 a3 a4, .func (.func a8) a1 a5] w fun a2 a7 => ∃ (a0 : Int), a2 = .returned (.int .i64 a0) ∧
 R (.bool (decide (a0 ≥ 0))) a7

theorem Q03.ok (a4 : Option Addr) (a1 a2 a5 : Nat) (a0 a3 : Array Value) {R : RW} {w : World} (h : Q03.M a4 a1 a2 a5 a0 a3 R w) : Calls Try.prog 52 #[.slice a4 a1 a2, .func (.func a5) a0 a3] w fun e w' => ∃ v, e = .returned v ∧ R v w' :=
  Q09 follows (H := []) (args := [.slice a4 a1 a2, .func (.func a5) a0 a3]) (cast (by kernel_rfl) h)

def Q03.N (a6 : Option Addr) (a3 a4 a8 : Nat) (a1 a5 : Array Value) (R : RW) (w : World) : Prop :=
 Calls Try.prog 70 #[.slice a6 a3 a4, .func (.func a8) a1 a5] w fun a2 a7 => ∃ (a0 : Int), a2 = .returned (.int .i64 a0) ∧
 R (.bool (decide (a0 ≥ 0))) a7

theorem Q03.up (a5 : Option Addr) (a2 a3 a6 : Nat) (a1 a4 : Array Value) {R : RW} {w : World} (h : Q03.N a5 a2 a3 a6 a1 a4 R w) : Q03.M a5 a2 a3 a6 a1 a4 R w := by
  unfold Q03.M
  unfold Q03.N at h
  refine h.mono fun a7 a8 h => ?_
  obtain ⟨a0, he, h⟩ := h
  refine ⟨a0, he, ?_⟩
  exact h

theorem Q03.go (a4 : Option Addr) (a1 a2 a5 : Nat) (a0 a3 : Array Value) {R : RW} {w : World} (h : Q03.N a4 a1 a2 a5 a0 a3 R w) : Calls Try.prog 52 #[.slice a4 a1 a2, .func (.func a5) a0 a3] w fun e w' => ∃ v, e = .returned v ∧ R v w' := Q03.ok a4 a1 a2 a5 a0 a3 (Q03.up a4 a1 a2 a5 a0 a3 h)
theorem Q03.run (a4 : Option Addr) (a1 a2 a5 : Nat) (a0 a3 : Array Value) {V : Value} {Q : World → Prop} {w : World} (h : Q03.N a4 a1 a2 a5 a0 a3 (fun v w' => v = V ∧ Q w') w) : Calls Try.prog 52 #[.slice a4 a1 a2, .func (.func a5) a0 a3] w (Ret V Q) := (Q03.go a4 a1 a2 a5 a0 a3 h).mono fun e w' ⟨v, he, hv, hq⟩ => ⟨by rw [he, hv], hq⟩

def Q07.M (ae : Option Addr) (ab af a8 : Nat) (aa ac : Array Value) (R : RW) (w : World) : Prop :=
 ∃ (I0 : Nat → List Value → World → Prop) (m4 : Nat), I0 m4 [.int .i64 0] w ∧ ∀ (m5 : Nat) (a1 : World) (t3 : Int), I0 m5 [.int .i64 t3] a1 →
 bif decide (t3 < (ab : Int)) then (
 ae.elim False fun a7 =>
 0 ≤ (t3 : Int) ∧ (t3 : Int) < (ab : Int) ∧
 ∃ (a5 : Option Addr) (a4 a6 : Nat), a1.cell? (a7.add (Int.toNat t3 * 1)) = some (.slice a5 a4 a6) ∧
 bif enters Try.prog a8 then Calls Try.prog a8 (aa.toList ++ ([.slice a5 a4 a6] : List Value) ++ ac.toList).toArray a1 (fun a3 a2 => ∃ (r9 : Bool), a3 = .returned (.bool r9) ∧
 bif r9 then (
 R (.int .i64 t3) a2) else (
 ∃ ad, ad < m5 ∧ I0 ad [.int .i64 (IntKind.i64.wrap (t3 + 1))] a2)) else (∃ (r9 : Bool) (a0 : World), (Q1M a8 (aa.toList ++ ([.slice a5 a4 a6] : List Value) ++ ac.toList).toArray).run Try.prog a1 = .ok (.bool r9) a0 ∧
 bif r9 then (
 R (.int .i64 t3) a0) else (
 ∃ a9, a9 < m5 ∧ I0 a9 [.int .i64 (IntKind.i64.wrap (t3 + 1))] a0))) else (
 R (.int .i64 (-1)) a1)

theorem Q07.ok (a4 : Option Addr) (a1 a2 a5 : Nat) (a0 a3 : Array Value) {R : RW} {w : World} (h : Q07.M a4 a1 a2 a5 a0 a3 R w) : Calls Try.prog 70 #[.slice a4 a1 a2, .func (.func a5) a0 a3] w fun e w' => ∃ v, e = .returned v ∧ R v w' :=
  Q09 follows (H := [(0, [0, 1, 7], [(8, (.one (.int .i64)))])]) (args := [.slice a4 a1 a2, .func (.func a5) a0 a3]) (cast (by kernel_rfl) h)

def Q07.N (ad : Option Addr) (a6 ae aa : Nat) (ab ac : Array Value) (R : RW) (w : World) : Prop :=
 ∃ (I0 : Nat → List Value → World → Prop) (m4 : Nat), I0 m4 [.int .i64 0] w ∧ ∀ (m5 : Nat) (a4 : World) (t3 : Int), I0 m5 [.int .i64 t3] a4 →
 (t3 < (a6 : Int) →
 ∃ a8 : Addr, ad = some a8 ∧
 0 ≤ (t3 : Int) ∧ (t3 : Int) < (a6 : Int) ∧
 ∃ (a1 : Option Addr) (a3 a2 : Nat), a4.cell? (a8.add (Int.toNat t3 * 1)) = some (.slice a1 a3 a2) ∧
 enters Try.prog aa = true ∧ Calls Try.prog aa (ab.toList ++ ([.slice a1 a3 a2] : List Value) ++ ac.toList).toArray a4 (fun a7 a0 => ∃ (a5 : Bool), a7 = .returned (.bool a5) ∧
 (a5 = true →
 R (.int .i64 t3) a0) ∧
 (a5 = false →
 (-9223372036854775808 : Int) ≤ (t3 + 1) ∧ (t3 + 1) < 9223372036854775808 ∧
 ∃ a9, a9 < m5 ∧ I0 a9 [.int .i64 (t3 + 1)] a0))) ∧
 ((a6 : Int) ≤ t3 →
 R (.int .i64 (-1)) a4)

theorem Q07.up (a9 : Option Addr) (a5 a6 aa : Nat) (a4 a7 : Array Value) {R : RW} {w : World} (h : Q07.N a9 a5 a6 aa a4 a7 R w) : Q07.M a9 a5 a6 aa a4 a7 R w := by
  unfold Q07.M
  unfold Q07.N at h
  obtain ⟨I0, m4, h0, h⟩ := h
  refine ⟨I0, m4, h0, fun m5 ab t3 hI => ?_⟩
  have h := h m5 ab t3 hI
  refine bif_fo (fun c7 => ?_) (fun c7 => ?_)
  ·have h := h.2 (Int.not_lt.1 (of_decide_eq_false c7))
   exact h
  have h := h.1 (of_decide_eq_true c7)
  obtain ⟨a8, ai, h⟩ := h
  refine Q0p ai ?_
  obtain ⟨ae, ag, h⟩ := h
  refine ⟨ae, ag, ?_⟩
  obtain ⟨a2, a1, a3, al, h⟩ := h
  refine ⟨a2, a1, a3, al, ?_⟩
  obtain ⟨hen, h⟩ := h
  refine bif_tt hen ?_
  refine h.mono fun ak ad h => ?_
  obtain ⟨ac, he, h⟩ := h
  refine ⟨ac, he, ?_⟩
  refine bif_of (fun a0 => ?_) (fun a0 => ?_)
  ·have h := h.1 a0
   exact h
  have h := h.2 a0
  obtain ⟨aj, af, h⟩ := h
  try rw [w64 aj af]
  obtain ⟨ah, hk, h⟩ := h
  exact ⟨ah, hk, h⟩

theorem Q07.go (a4 : Option Addr) (a1 a2 a5 : Nat) (a0 a3 : Array Value) {R : RW} {w : World} (h : Q07.N a4 a1 a2 a5 a0 a3 R w) : Calls Try.prog 70 #[.slice a4 a1 a2, .func (.func a5) a0 a3] w fun e w' => ∃ v, e = .returned v ∧ R v w' := Q07.ok a4 a1 a2 a5 a0 a3 (Q07.up a4 a1 a2 a5 a0 a3 h)
def Q0r.M (a1 : Option Addr) (a0 a2 : Nat) (R : RW) (w : World) : Prop :=
 R (.bool (decide ((a0 : Int) > 4000))) w

theorem Q0r.ok (a0 : Option Addr) (a1 a2 : Nat) {R : RW} {w : World} (h : Q0r.M a0 a1 a2 R w) : Calls Try.prog 53 #[.slice a0 a1 a2] w fun e w' => ∃ v, e = .returned v ∧ R v w' :=
  Q09 follows (H := []) (args := [.slice a0 a1 a2]) (cast (by kernel_rfl) h)

def Q0r.N (a1 : Option Addr) (a0 a2 : Nat) (R : RW) (w : World) : Prop :=
 R (.bool (decide ((a0 : Int) > 4000))) w

theorem Q0r.up (a0 : Option Addr) (a1 a2 : Nat) {R : RW} {w : World} (h : Q0r.N a0 a1 a2 R w) : Q0r.M a0 a1 a2 R w := by
  unfold Q0r.M
  unfold Q0r.N at h
  exact h

theorem Q0r.go (a0 : Option Addr) (a1 a2 : Nat) {R : RW} {w : World} (h : Q0r.N a0 a1 a2 R w) : Calls Try.prog 53 #[.slice a0 a1 a2] w fun e w' => ∃ v, e = .returned v ∧ R v w' := Q0r.ok a0 a1 a2 (Q0r.up a0 a1 a2 h)
theorem Q0r.run (a0 : Option Addr) (a1 a2 : Nat) {V : Value} {Q : World → Prop} {w : World} (h : Q0r.N a0 a1 a2 (fun v w' => v = V ∧ Q w') w) : Calls Try.prog 53 #[.slice a0 a1 a2] w (Ret V Q) := (Q0r.go a0 a1 a2 h).mono fun e w' ⟨v, he, hv, hq⟩ => ⟨by rw [he, hv], hq⟩
set_option maxRecDepth 20000
open W (OwnB Rd numR countR doneR)
section
variable {w w' : World} {x y : FP} {a b : Option Addr} {c d : Nat} {hs gs : List Hd}
def FP.ofE (e : Ent) (a : Option Addr) (c : Nat) : FP := ⟨⟨1, e, Ent.zero, 0, [], 0⟩, a, c, none, 0, none, 0⟩
theorem Q33 (e : Ent) (a : Option Addr) (c : Nat) : Calls Try.prog 20 #[entV e a c] w (Ret (FP.ofE e a c).V fun w' => Ext no w w') := by
  refine Q0t.run e.w e.i e.pv e.t e.tw e.ep a e.body.length c e.sg ?_
  unfold Q0t.N
  exact fun w2 X => ⟨rfl, X⟩
end
/-! ### many parts as one -/
def encB (b : List UInt8) : List UInt8 := numL b.length ++ b
def joinL (l : List (List UInt8)) : List UInt8 := numL l.length ++ l.flatMap encB
def bigs (l : List (List UInt8)) : Bool := l.any fun b => decide (b.length > 4000)
def joinK (l : List (List UInt8)) : List UInt8 × Int := if l.length > 1000 ∨ bigs l = true then ([], 3) else (joinL l, 0)
def joinT (l : List (List UInt8)) (t : Nat) : List UInt8 := numL l.length ++ (l.take t).flatMap encB
theorem Q2b (l : List (List UInt8)) : joinT l l.length = joinL l := by unfold joinT joinL; rw [List.take_length]
theorem Q3n (l : List (List UInt8)) (t : Nat) : (joinT l t).length ≤ (joinL l).length := by
  have e : l.flatMap encB = (l.take t).flatMap encB ++ (l.drop t).flatMap encB := by rw [← List.flatMap_append, List.take_append_drop]
  unfold joinT joinL
  rw [e]
  simp only [List.length_append]; omega
theorem Q1s {l : List (List UInt8)} {t : Nat} {x : List UInt8} (h : l[t]? = some x) : joinT l (t + 1) = joinT l t ++ encB x := by
  unfold joinT
  rw [List.take_add_one, h]
  simp
structure BsAt (w : World) (a : Option Addr) (c : Nat) (l : List BS) : Prop where
  row : RowAt w a (l.map BS.v)
  oks : ∀ x ∈ l, RowAt w x.a (bytesV x.bs) ∧ x.bs.length ≤ x.c
  le : l.length ≤ c
section
variable {w w' : World} {x y : FP} {a b : Option Addr} {c d : Nat} {l : List BS}
theorem BsAt.no (h : BsAt w a c l) (X : Ext no w w') : BsAt w' a c l := ⟨h.row.no X, fun x hx => ⟨(h.oks x hx).1.no X, (h.oks x hx).2⟩, h.le⟩
theorem BsAt.cell (h : BsAt w a c l) {i : Nat} {x : BS} (hi : l[i]? = some x) : ∃ ad, a = some ad ∧ w.cell? (ad.add (i * 1)) = some (.slice x.a x.bs.length x.c) := by
  obtain ⟨ad, ha, hc⟩ := h.row i x.v (by rw [List.getElem?_map, hi]; rfl)
  exact ⟨ad, ha, by rw [Nat.mul_one]; exact hc⟩
theorem Q3E (x : BS) : Calls Try.prog 53 #[.slice x.a x.bs.length x.c] w (Ret (.bool (decide (x.bs.length > 4000))) fun w' => w' = w) := by
  refine Q0r.run _ _ _ ?_
  unfold Q0r.N
  exact ⟨by rw [show decide ((x.bs.length : Int) > 4000) = decide (x.bs.length > 4000) by rw [decide_eq_decide]; omega], rfl⟩
theorem Q2L {l : List BS} : bigs (l.map BS.bs) = true ↔ ∃ x ∈ l, x.bs.length > 4000 := by
  unfold bigs
  rw [List.any_eq_true]
  constructor
  · rintro ⟨b, hb, h⟩
    obtain ⟨x, hx, rfl⟩ := List.mem_map.1 hb
    exact ⟨x, hx, of_decide_eq_true h⟩
  · rintro ⟨x, hx, h⟩
    exact ⟨_, List.mem_map.2 ⟨x, hx, rfl⟩, decide_eq_true h⟩
theorem Q3q {l : List BS} (h : ∀ (i : Nat) (x : BS), l[i]? = some x → x.bs.length ≤ 4000) : bigs (l.map BS.bs) = false := by
  cases hb : bigs (l.map BS.bs) with
  | false => rfl
  | true =>
    obtain ⟨x, hx, hl⟩ := Q2L.1 hb
    obtain ⟨i, hi⟩ := List.mem_iff_getElem?.1 hx
    have := h i x hi
    omega
theorem Q3d (h : BsAt w a c l) (hl : l.length < 1000000) :
    Calls Try.prog 70 #[.slice a l.length c, .func (.func 53) #[] #[]] w fun e w' => ∃ i : Int, e = .returned (.int .i64 i) ∧ decide (i ≥ 0) = bigs (l.map BS.bs) ∧ w' = w := by
  refine (Q07.go a l.length c _ _ _ (R := fun v w' => ∃ i : Int, v = .int .i64 i ∧ decide (i ≥ 0) = bigs (l.map BS.bs) ∧ w' = w) ?_).mono fun e w' ⟨v, he, i, hv, hw⟩ => ⟨i, by rw [he, hv], hw⟩
  unfold Q07.N
  refine ⟨fun m vs w1 => ∃ t : Nat, vs = [.int .i64 t] ∧ m + t = l.length ∧ w1 = w ∧ ∀ i x, i < t → l[i]? = some x → x.bs.length ≤ 4000, l.length, ⟨0, rfl, rfl, rfl, fun i x h => absurd h (by omega)⟩, ?_⟩
  rintro m w6 i ⟨t, hi, hm, rfl, hn⟩
  simp only [List.cons.injEq, Value.int.injEq, true_and, and_true] at hi
  subst hi
  refine ⟨fun ht => ?_, fun ht => ?_⟩
  · have htl : t < l.length := by omega
    have hg : l[t]? = some l[t] := List.getElem?_eq_getElem htl
    generalize l[t] = x at *
    obtain ⟨ad, ha, hc⟩ := h.cell hg
    refine ⟨ad, ha, by omega, by omega, x.a, x.bs.length, x.c, by rw [Int.toNat_natCast]; exact hc, by kernel_rfl, ?_⟩
    refine Calls.mono (Q3E x) fun u w14 ⟨he, hw⟩ => ⟨_, he, fun hy => ?_, fun hno => ⟨by omega, by omega, m - 1, by omega, t + 1, rfl, by omega, hw, fun i y hi hy => ?_⟩⟩
    · refine ⟨_, rfl, ?_, hw⟩
      rw [Q2L.2 ⟨x, List.mem_of_getElem? hg, of_decide_eq_true hy⟩, decide_eq_true (by omega)]
    · by_cases hit : i = t
      · subst hit
        rw [hg] at hy
        cases hy
        have := of_decide_eq_false hno
        omega
      · exact hn i y (by omega) hy
  · refine ⟨_, rfl, ?_, rfl⟩
    rw [Q3q fun i x hx => hn i x (by have := (List.getElem?_eq_some_iff.1 hx).1; omega) hx]; rfl
theorem Q2C (h : BsAt w a c l) (hl : l.length < 1000000) :
    Calls Try.prog 52 #[.slice a l.length c, .func (.func 53) #[] #[]] w (Ret (.bool (bigs (l.map BS.bs))) fun w' => w' = w) := by
  refine Q03.run _ _ _ _ _ _ ?_
  unfold Q03.N
  exact (Q3d h hl).mono fun e w' ⟨i, he, hi, hw⟩ => ⟨i, he, by rw [hi], hw⟩
theorem Q2r (h : BsAt w a c l) (hl : l.length < 1000000) (hz : l.length ≤ 1000 → bigs (l.map BS.bs) = false → (joinL (l.map BS.bs)).length ≤ 900000) :
    Calls Try.prog 21 #[.slice a l.length c] w (fun e w' => ∃ a' c', e = .returned (.tuple #[.slice a' (joinK (l.map BS.bs)).1.length c', .int .i64 (joinK (l.map BS.bs)).2]) ∧ OwnB w.heap.size w' a' c' (joinK (l.map BS.bs)).1 ∧ Ext no w w') := by
  refine (Q0C.go a l.length c (R := fun v w' => ∃ a' c', v = (.tuple #[.slice a' (joinK (l.map BS.bs)).1.length c', .int .i64 (joinK (l.map BS.bs)).2]) ∧ OwnB w.heap.size w' a' c' (joinK (l.map BS.bs)).1 ∧ Ext no w w') ?_).mono fun e w' ⟨v, he, a', c', hv, hw⟩ => ⟨a', c', by rw [he, hv], hw⟩
  unfold Q0C.N
  have leaf : ∀ {w2 : World}, joinK (l.map BS.bs) = ([], 3) → Ext no w w2 → ∃ a' c', (.tuple #[.slice none 0 0, .int .i64 3] : Value) = (.tuple #[.slice a' (joinK (l.map BS.bs)).1.length c', .int .i64 (joinK (l.map BS.bs)).2]) ∧ OwnB w.heap.size w2 a' c' (joinK (l.map BS.bs)).1 ∧ Ext no w w2 := fun {w2} e X => by
    rw [e]; exact ⟨none, 0, rfl, OwnB.nil _ _, X⟩
  refine ⟨fun hg => leaf (by unfold joinK; rw [if_pos (.inl (by rw [List.length_map]; omega))]) (Ext.refl _ _), fun hg => ?_⟩
  refine (Q2C h hl).mono fun u w5 ⟨he, hw⟩ => ⟨_, he, fun hb => leaf (by unfold joinK; rw [if_pos (.inr hb)]) (by rw [hw]; exact Ext.refl _ _), fun hb => ?_⟩
  subst hw
  have hk : joinK (l.map BS.bs) = (joinL (l.map BS.bs), 0) := by unfold joinK; rw [if_neg (by rw [List.length_map, hb]; simp; omega)]
  rw [hk]
  have hz := hz (by omega) hb
  rw [wu64 (n := (l.length : Int)) (by omega) (by omega)]
  refine (W.Num_spec (bs := []) (c := 0) (RowAt.nil _ _) (by simp) (n := l.length) (by omega)).mono fun u w9 ⟨a1, c1, he, hO1, X9⟩ => ⟨a1, _, c1, he, ?_⟩
  have e0 : joinT (l.map BS.bs) 0 = [] ++ numL l.length := by unfold joinT; simp
  refine ⟨fun m vs w1 => ∃ (t : Nat) (a1 : Option Addr) (c1 : Nat), vs = [.slice a1 (joinT (l.map BS.bs) t).length c1, .int .i64 t] ∧ m + t = l.length ∧ OwnB w5.heap.size w1 a1 c1 (joinT (l.map BS.bs) t) ∧ Ext no w5 w1, l.length, ⟨0, a1, c1, by rw [e0]; rfl, rfl, by rw [e0]; exact hO1, X9⟩, ?_⟩
  rintro m w14 ba bn bc i ⟨t, a2, c2, hv, hm, hO, X⟩
  simp only [List.cons.injEq, Value.slice.injEq, Value.int.injEq, true_and, and_true] at hv
  obtain ⟨⟨rfl, rfl, rfl⟩, rfl⟩ := hv
  have hlt := Q3n (l.map BS.bs) t
  refine ⟨fun ht => ?_, fun ht => ?_⟩
  · have htl : t < l.length := by omega
    have hg : l[t]? = some l[t] := List.getElem?_eq_getElem htl
    generalize l[t] = x at *
    have h14 := h.no X
    obtain ⟨ad, ha, hc⟩ := h14.cell hg
    obtain ⟨hx1, hx2⟩ := h14.oks x (List.mem_of_getElem? hg)
    have hm2 : (l.map BS.bs)[t]? = some x.bs := by rw [List.getElem?_map, hg]; rfl
    have est := Q1s hm2
    have hlt2 := Q3n (l.map BS.bs) (t + 1)
    rw [est] at hlt2
    unfold encB at est hlt2
    simp only [List.length_append] at hlt2
    refine ⟨ad, ha, by omega, by omega, x.a, x.bs.length, x.c, by rw [Int.toNat_natCast]; exact hc, ?_⟩
    refine (W.Bytes_spec hO.row (by omega) hx1 (by omega)).mono fun u w21 ⟨a3, c3, he, hO3, X21⟩ => ⟨a3, _, c3, he, by omega, by omega, m - 1, by omega, t + 1, a3, c3, ?_, by omega, ?_, X.trans X21⟩
    · rw [est, List.append_assoc]; rfl
    · rw [est, ← List.append_assoc]; exact OwnB.up hO3 X.size
  · obtain rfl : t = l.length := by omega
    rw [show l.length = (l.map BS.bs).length by rw [List.length_map], Q2b] at hO ⊢
    exact ⟨ba, bc, rfl, hO, X⟩
theorem Q2W (w : World) : Calls Try.prog 8 #[] w (Ret (.bool true) fun w' => Ext no w w') := by
  refine Q0b.run ?_
  unfold Q0b.N
  intro w1 q2 X1 hb1 hq1 hq1'
  obtain ⟨w4, hr4, hrow4, X4⟩ := litB Try.underlying25 Try.underlying5 [97] X1 hb1 hq1
  refine ⟨_, _, _, w4, hr4, fun w5 q6 X5 hb5 hq6 hq6' => ?_⟩
  have hJ : joinK [[97], []] = ([2, 1, 97, 0], 0) := by decide
  have hat : BsAt w5 (some (blk q6)) 2 [⟨some (blk q2), 1, [97]⟩, ⟨none, 0, []⟩] := ⟨RowAt.of_blk hb5, fun x hx => by
    simp only [List.mem_cons, List.not_mem_nil, or_false] at hx
    rcases hx with rfl | rfl
    · exact ⟨hrow4.no X5, Nat.le_refl _⟩
    · exact ⟨RowAt.nil _ _, Nat.le_refl _⟩, Nat.le_refl _⟩
  refine (Q2r hat (show (2 : Nat) < 1000000 by decide) (fun _ _ => show (joinL [[97], []]).length ≤ 900000 by decide)).mono fun u w10 ⟨a1, c1, he, hO, X10⟩ => ?_
  rw [show ([⟨some (blk q2), 1, [97]⟩, ⟨none, 0, []⟩] : List BS).map BS.bs = [[97], []] from rfl, hJ] at he hO
  refine ⟨_, _, _, _, he, fun w11 q12 X11 hb11 hq12 hq12' => ?_⟩
  have Y10 := (X4.trans X5).trans X10
  obtain ⟨w14, hr14, hrow14, X14⟩ := litB Try.underlying25 Try.underlying5 [120] X11 hb11 hq12
  refine ⟨_, _, _, w14, hr14, fun w16 X16 => ?_⟩
  have hE : frOK ⟨1, ⟨1, 0, 0, 5, 1, 0, [120], 9⟩, Ent.zero, 0, [], 0⟩ = true := by decide
  have hf : Fr.fit ⟨1, ⟨1, 0, 0, 5, 1, 0, [120], 9⟩, Ent.zero, 0, [], 0⟩ := ⟨⟨by decide, by decide, by decide, by decide⟩, Q4k, fun _ h => (by cases h), by decide⟩
  have hL : frL ⟨1, ⟨1, 0, 0, 5, 1, 0, [120], 9⟩, Ent.zero, 0, [], 0⟩ = [1, 9, 1, 0, 0, 10, 1, 0, 1, 120, 9] := by decide
  have hK : frK ⟨1, ⟨1, 0, 0, 5, 1, 0, [120], 9⟩, Ent.zero, 0, [], 0⟩ = ([1, 9, 1, 0, 0, 10, 1, 0, 1, 120, 9], 0) := by unfold frK; rw [hE, hL]; rfl
  have Y16 := (Y10.trans X14).trans X16
  refine (Q33 ⟨1, 0, 0, 5, 1, 0, [120], 9⟩ (some (blk q12)) 1).mono fun u w39 ⟨he, X39⟩ => ⟨_, _, _, _, _, _, _, _, _, _, _, _, _, _, _, _, _, _, _, _, _, _, _, _, _, _, he, ?_⟩
  have hat2 : (FP.ofE ⟨1, 0, 0, 5, 1, 0, [120], 9⟩ (some (blk q12)) 1).at w39 := ⟨(hrow14.no X16).no X39, RowAt.nil _ _, RowAt.nil _ _⟩
  refine (Q2Z hat2 hf (show (0 : Nat) ≤ 1000 by decide)).mono fun u w43 ⟨a2, c2, he, hO2, X43⟩ => ?_
  rw [show (FP.ofE ⟨1, 0, 0, 5, 1, 0, [120], 9⟩ (some (blk q12)) 1).r = ⟨1, ⟨1, 0, 0, 5, 1, 0, [120], 9⟩, Ent.zero, 0, [], 0⟩ from rfl, hK] at he hO2
  refine ⟨_, _, _, _, he, ?_⟩
  have hrd := Q2U hE hf (by rw [hL]; decide)
  rw [hL] at hrd
  refine (Q3e hO2.row hO2.le).mono fun u w66 ⟨x', he, hx, hxa, X66⟩ => ?_
  rw [hrd] at he hx
  refine ⟨_, _, _, _, _, _, _, _, _, _, _, _, _, _, _, _, _, _, _, _, _, _, _, _, _, _, _, he, fun _ => ?_, fun h => absurd rfl h⟩
  intro w70 q71 p72 X70 hb70 hq70 hq70' hp
  have Y := (((Y16.trans X39).trans X43).trans X66).trans X70
  have hOr : RowAt w70 a1 (bytesV [2, 1, 97, 0]) := hO.row.no (((((X14.trans X16).trans X39).trans X43).trans X66).trans X70)
  refine (W.sameB_spec (x := [2, 1, 97, 0]) (y := [2, 1, 97, 0]) (d := 4) hOr (RowAt.of_blk hb70) (by decide)).mono fun u w75 ⟨he, X75⟩ => ⟨_, he, X75.kept, fun _ => ⟨fun _ => ⟨fun _ => ⟨fun _ => ⟨?_, Y.trans X75⟩, fun h => absurd (by rw [hx]) h⟩, fun h => absurd rfl h⟩, fun h => absurd rfl h⟩, fun h => ?_⟩
  · rw [hx]; rfl
  · simp at h
end
set_option maxRecDepth 100000
set_option maxHeartbeats 40000000
abbrev Q02.J1 (ad : Option Addr) (ag ai : Nat) (af : Option Addr) (ah ae : Nat) (R : RW) (a8 : World) : Prop :=
 Calls Try.prog 23 #[.slice ad ag ai] a8 fun aa a6 => ∃ (a3 : Option Addr) (a4 a2 : Nat) (a5 : Int), aa = .returned (.tuple #[.slice a3 a4 a2, .int .i64 a5]) ∧
 bif a5 == 0 then (
 Calls Try.prog 25 #[.slice a3 a4 a2, .slice af ah ae] a6 fun ac a7 => ∃ (a1 : Bool), ac = .returned (.bool a1) ∧
 bif a1 then (
 Calls Try.prog 8 #[] a7 fun a9 ab => ∃ (a0 : Bool), a9 = .returned (.bool a0) ∧
 R (.bool a0) ab) else (
 R (.bool false) a7)) else (
 R (.bool false) a6)

abbrev Q02.J2 (a7 : Int) (a4 : Option Addr) (aa a9 : Nat) (a5 : Option Addr) (a8 a6 : Nat) (R : RW) (a1 : World) : Prop :=
 bif a7 != 0 then (
 Calls Try.prog 8 #[] a1 fun a2 a3 => ∃ (a0 : Bool), a2 = .returned (.bool a0) ∧
 R (.bool a0) a3) else (
 Q02.J1 a4 aa a9 a5 a8 a6 R a1)

abbrev Q02.J3 (aq : Option Addr) (an az : Nat) (bp : Option Addr) (bn bm : Nat) (R : RW) (b2 : World) : Prop :=
 ∃ (I0 : Nat → List Value → World → Prop) (bt : Nat), I0 bt [.int .i64 0] b2 ∧ ∀ (bg : Nat) (a0 : World) (ac : Int), I0 bg [.int .i64 ac] a0 →
 bif decide (ac < (an : Int)) then (
 aq.elim False fun bs =>
 0 ≤ (ac : Int) ∧ (ac : Int) < (an : Int) ∧
 ∃ (bh : Option Addr) (av bd : Nat), a0.cell? (bs.add (Int.toNat ac * 1)) = some (.slice bh av bd) ∧
 bif decide ((av : Int) > 200) then (
 bif decide ((an : Int) > 5) then (
 Calls Try.prog 8 #[] a0 fun b4 aw => ∃ (aa : Bool), b4 = .returned (.bool aa) ∧
 R (.bool aa) aw) else (
 aq.elim False fun bq =>
 0 ≤ (ac : Int) ∧ (ac : Int) < (an : Int) ∧
 ∃ (b0 : Option Addr) (au bb : Nat), a0.cell? (bq.add (Int.toNat ac * 1)) = some (.slice b0 au bb) ∧
 bif decide ((au : Int) > 4100) then (
 Calls Try.prog 8 #[] a0 fun b5 bf => ∃ (a8 : Bool), b5 = .returned (.bool a8) ∧
 R (.bool a8) bf) else (
 ∃ bo, bo < bg ∧ I0 bo [.int .i64 (IntKind.i64.wrap (ac + 1))] a0))) else (
 aq.elim False fun br =>
 0 ≤ (ac : Int) ∧ (ac : Int) < (an : Int) ∧
 ∃ (b3 : Option Addr) (ar bj : Nat), a0.cell? (br.add (Int.toNat ac * 1)) = some (.slice b3 ar bj) ∧
 bif decide ((ar : Int) > 4100) then (
 Calls Try.prog 8 #[] a0 fun b9 be => ∃ (a6 : Bool), b9 = .returned (.bool a6) ∧
 R (.bool a6) be) else (
 ∃ bl, bl < bg ∧ I0 bl [.int .i64 (IntKind.i64.wrap (ac + 1))] a0))) else (
 Calls Try.prog 21 #[.slice aq an az] a0 fun b1 b8 => ∃ (a1 : Option Addr) (a2 a3 : Nat) (ad : Int), b1 = .returned (.tuple #[.slice a1 a2 a3, .int .i64 ad]) ∧
 Calls Try.prog 22 #[.slice aq an az] b8 fun b7 bi => ∃ (ab : Option Addr) (a5 a9 : Nat) (a4 : Int), b7 = .returned (.tuple #[.slice ab a5 a9, .int .i64 a4]) ∧
 Calls Try.prog 23 #[.slice bp bn bm] bi fun bc bk => ∃ (ai : Option Addr) (af ag : Nat) (al : Int), bc = .returned (.tuple #[.slice ai af ag, .int .i64 al]) ∧
 Calls Try.prog 24 #[.slice bp bn bm] bk fun ba b6 => ∃ (ae : Option Addr) (aj ah : Nat) (am : Int), ba = .returned (.tuple #[.slice ae aj ah, .int .i64 am]) ∧
 Calls Try.prog 11 #[.slice a1 a2 a3, .slice ab a5 a9] b6 fun ax ap => ∃ (ak : Bool), ax = .returned (.bool ak) ∧
 bif !ak then (
 R (.bool false) ap) else (
 bif ad != a4 then (
 R (.bool false) ap) else (
 Calls Try.prog 25 #[.slice ai af ag, .slice ae aj ah] ap fun ay ao => ∃ (a7 : Bool), ay = .returned (.bool a7) ∧
 bif !a7 then (
 R (.bool false) ao) else (
 bif al != am then (
 R (.bool false) ao) else (
 Q02.J2 a4 a1 a2 a3 aq an az R ao)))))

def Q02.M (a7 : Option Addr) (a2 a4 : Nat) (a9 : Option Addr) (a3 a8 : Nat) (R : RW) (w : World) : Prop :=
 bif decide ((a2 : Int) > 1100) then (
 Calls Try.prog 8 #[] w fun a5 ab => ∃ (a0 : Bool), a5 = .returned (.bool a0) ∧
 R (.bool a0) ab) else (
 bif decide ((a3 : Int) > 4100) then (
 Calls Try.prog 8 #[] w fun a6 aa => ∃ (a1 : Bool), a6 = .returned (.bool a1) ∧
 R (.bool a1) aa) else (
 Q02.J3 a7 a2 a4 a9 a3 a8 R w))

theorem Q02.ok (a2 : Option Addr) (a1 a0 : Nat) (a4 : Option Addr) (a5 a3 : Nat) {R : RW} {w : World} (h : Q02.M a2 a1 a0 a4 a5 a3 R w) : Calls Try.prog 6 #[.slice a2 a1 a0, .slice a4 a5 a3] w fun e w' => ∃ v, e = .returned v ∧ R v w' :=
  Q09 follows (H := [(0, [0, 1], [(5, (.one (.int .i64)))])]) (args := [.slice a2 a1 a0, .slice a4 a5 a3]) (cast (by kernel_rfl) h)

def Q02.N (b8 : Option Addr) (ai bj : Nat) (c6 : Option Addr) (b6 c8 : Nat) (R : RW) (w : World) : Prop :=
 ((ai : Int) > 1100 →
 Calls Try.prog 8 #[] w fun cc c9 => ∃ (aj : Bool), cc = .returned (.bool aj) ∧
 R (.bool aj) c9) ∧
 ((ai : Int) ≤ 1100 →
 ((b6 : Int) > 4100 →
 Calls Try.prog 8 #[] w fun cb ba => ∃ (al : Bool), cb = .returned (.bool al) ∧
 R (.bool al) ba) ∧
 ((b6 : Int) ≤ 4100 →
 ∃ (I0 : Nat → List Value → World → Prop) (ca : Nat), I0 ca [.int .i64 0] w ∧ ∀ (bp : Nat) (a1 : World) (a7 : Int), I0 bp [.int .i64 a7] a1 →
 (a7 < (ai : Int) →
 ∃ b7 : Addr, b8 = some b7 ∧
 0 ≤ (a7 : Int) ∧ (a7 : Int) < (ai : Int) ∧
 ∃ (bz : Option Addr) (b2 bn : Nat), a1.cell? (b7.add (Int.toNat a7 * 1)) = some (.slice bz b2 bn) ∧
 ((b2 : Int) > 200 →
 ((ai : Int) > 5 →
 Calls Try.prog 8 #[] a1 fun bk bq => ∃ (ag : Bool), bk = .returned (.bool ag) ∧
 R (.bool ag) bq) ∧
 ((ai : Int) ≤ 5 →
 0 ≤ (a7 : Int) ∧ (a7 : Int) < (ai : Int) ∧
 ∃ (bh : Option Addr) (b1 bg : Nat), a1.cell? (b7.add (Int.toNat a7 * 1)) = some (.slice bh b1 bg) ∧
 ((b1 : Int) > 4100 →
 Calls Try.prog 8 #[] a1 fun bv bw => ∃ (af : Bool), bv = .returned (.bool af) ∧
 R (.bool af) bw) ∧
 ((b1 : Int) ≤ 4100 →
 (-9223372036854775808 : Int) ≤ (a7 + 1) ∧ (a7 + 1) < 9223372036854775808 ∧
 ∃ c5, c5 < bp ∧ I0 c5 [.int .i64 (a7 + 1)] a1))) ∧
 ((b2 : Int) ≤ 200 →
 0 ≤ (a7 : Int) ∧ (a7 : Int) < (ai : Int) ∧
 ∃ (bu : Option Addr) (b3 bs : Nat), a1.cell? (b7.add (Int.toNat a7 * 1)) = some (.slice bu b3 bs) ∧
 ((b3 : Int) > 4100 →
 Calls Try.prog 8 #[] a1 fun bf bd => ∃ (ah : Bool), bf = .returned (.bool ah) ∧
 R (.bool ah) bd) ∧
 ((b3 : Int) ≤ 4100 →
 (-9223372036854775808 : Int) ≤ (a7 + 1) ∧ (a7 + 1) < 9223372036854775808 ∧
 ∃ c7, c7 < bp ∧ I0 c7 [.int .i64 (a7 + 1)] a1))) ∧
 ((ai : Int) ≤ a7 →
 Calls Try.prog 21 #[.slice b8 ai bj] a1 fun b9 bc => ∃ (a6 : Option Addr) (a2 a5 : Nat) (a9 : Int), b9 = .returned (.tuple #[.slice a6 a2 a5, .int .i64 a9]) ∧
 Calls Try.prog 22 #[.slice b8 ai bj] bc fun c2 bl => ∃ (ae : Option Addr) (ad ab : Nat) (a0 : Int), c2 = .returned (.tuple #[.slice ae ad ab, .int .i64 a0]) ∧
 Calls Try.prog 23 #[.slice c6 b6 c8] bl fun bo bx => ∃ (ay : Option Addr) (an ao : Nat) (au : Int), bo = .returned (.tuple #[.slice ay an ao, .int .i64 au]) ∧
 Calls Try.prog 24 #[.slice c6 b6 c8] bx fun be bi => ∃ (am : Option Addr) (ax aw : Nat) (ap : Int), be = .returned (.tuple #[.slice am ax aw, .int .i64 ap]) ∧
 Calls Try.prog 11 #[.slice a6 a2 a5, .slice ae ad ab] bi fun c3 b0 => ∃ (a8 : Bool), c3 = .returned (.bool a8) ∧
 (a8 = false →
 R (.bool false) b0) ∧
 (a8 = true →
 (a9 ≠ a0 →
 R (.bool false) b0) ∧
 (a9 = a0 →
 Calls Try.prog 25 #[.slice ay an ao, .slice am ax aw] b0 fun bm az => ∃ (a3 : Bool), bm = .returned (.bool a3) ∧
 (a3 = false →
 R (.bool false) az) ∧
 (a3 = true →
 (au ≠ ap →
 R (.bool false) az) ∧
 (au = ap →
 (a0 ≠ 0 →
 Calls Try.prog 8 #[] az fun c0 c4 => ∃ (ac : Bool), c0 = .returned (.bool ac) ∧
 R (.bool ac) c4) ∧
 (a0 = 0 →
 Calls Try.prog 23 #[.slice a6 a2 a5] az fun bt b5 => ∃ (ak : Option Addr) (ar av : Nat) (aq : Int), bt = .returned (.tuple #[.slice ak ar av, .int .i64 aq]) ∧
 (aq = 0 →
 Calls Try.prog 25 #[.slice ak ar av, .slice b8 ai bj] b5 fun br b4 => ∃ (a4 : Bool), br = .returned (.bool a4) ∧
 (a4 = true →
 Calls Try.prog 8 #[] b4 fun bb c1 => ∃ (aa : Bool), bb = .returned (.bool aa) ∧
 R (.bool aa) c1) ∧
 (a4 = false →
 R (.bool false) b4)) ∧
 (aq ≠ 0 →
 R (.bool false) b5)))))))))

theorem Q02.up (bv : Option Addr) (bq bs : Nat) (bt : Option Addr) (br bu : Nat) {R : RW} {w : World} (h : Q02.N bv bq bs bt br bu R w) : Q02.M bv bq bs bt br bu R w := by
  unfold Q02.M
  unfold Q02.N at h
  refine bif_of (fun c3 => ?_) (fun c3 => ?_)
  ·have h := h.1 (of_decide_eq_true c3)
   refine h.mono fun cy cv h => ?_
   obtain ⟨ae, he, h⟩ := h
   refine ⟨ae, he, ?_⟩
   exact h
  have h := h.2 (Int.not_lt.1 (of_decide_eq_false c3))
  refine bif_of (fun c7 => ?_) (fun c7 => ?_)
  ·have h := h.1 (of_decide_eq_true c7)
   refine h.mono fun cx bz h => ?_
   obtain ⟨ag, he, h⟩ := h
   refine ⟨ag, he, ?_⟩
   exact h
  have h := h.2 (Int.not_lt.1 (of_decide_eq_false c7))
  first | unfold Q02.J3 | skip
  obtain ⟨I0, cn, h0, h⟩ := h
  refine ⟨I0, cn, h0, fun ch b1 c1 hI => ?_⟩
  have h := h ch b1 c1 hI
  refine bif_of (fun b8 => ?_) (fun b8 => ?_)
  ·have h := h.1 (of_decide_eq_true b8)
   obtain ⟨cw, ad, h⟩ := h
   refine Q0p ad ?_
   obtain ⟨au, ay, h⟩ := h
   refine ⟨au, ay, ?_⟩
   obtain ⟨bm, bn, bb, b0, h⟩ := h
   refine ⟨bm, bn, bb, b0, ?_⟩
   refine bif_fo (fun b6 => ?_) (fun b6 => ?_)
   ·have h := h.2 (Int.not_lt.1 (of_decide_eq_false b6))
    refine Q0p ad ?_
    obtain ⟨au, ay, h⟩ := h
    refine ⟨au, ay, ?_⟩
    obtain ⟨bi, bo, bg, bh, h⟩ := h
    refine ⟨bi, bo, bg, bh, ?_⟩
    refine bif_of (fun bd => ?_) (fun bd => ?_)
    ·have h := h.1 (of_decide_eq_true bd)
     refine h.mono fun c8 c4 h => ?_
     obtain ⟨ac, he, h⟩ := h
     refine ⟨ac, he, ?_⟩
     exact h
    have h := h.2 (Int.not_lt.1 (of_decide_eq_false bd))
    obtain ⟨b9, b3, h⟩ := h
    try rw [w64 b9 b3]
    obtain ⟨ck, hk, h⟩ := h
    exact ⟨ck, hk, h⟩
   have h := h.1 (of_decide_eq_true b6)
   refine bif_of (fun bj => ?_) (fun bj => ?_)
   ·have h := h.1 (of_decide_eq_true bj)
    refine h.mono fun ca ci h => ?_
    obtain ⟨aa, he, h⟩ := h
    refine ⟨aa, he, ?_⟩
    exact h
   have h := h.2 (Int.not_lt.1 (of_decide_eq_false bj))
   refine Q0p ad ?_
   obtain ⟨au, ay, h⟩ := h
   refine ⟨au, ay, ?_⟩
   obtain ⟨b7, bf, b5, be, h⟩ := h
   refine ⟨b7, bf, b5, be, ?_⟩
   refine bif_of (fun ba => ?_) (fun ba => ?_)
   ·have h := h.1 (of_decide_eq_true ba)
    refine h.mono fun cm co h => ?_
    obtain ⟨a9, he, h⟩ := h
    refine ⟨a9, he, ?_⟩
    exact h
   have h := h.2 (Int.not_lt.1 (of_decide_eq_false ba))
   obtain ⟨b9, b3, h⟩ := h
   try rw [w64 b9 b3]
   obtain ⟨bx, hk, h⟩ := h
   exact ⟨bx, hk, h⟩
  have h := h.2 (Int.not_lt.1 (of_decide_eq_false b8))
  refine h.mono fun bw c2 h => ?_
  obtain ⟨ab, a0, a8, ar, he, h⟩ := h
  refine ⟨ab, a0, a8, ar, he, ?_⟩
  refine h.mono fun cs cc h => ?_
  obtain ⟨a6, a4, a2, ao, he, h⟩ := h
  refine ⟨a6, a4, a2, ao, he, ?_⟩
  refine h.mono fun cg cp h => ?_
  obtain ⟨aq, ai, ak, ax, he, h⟩ := h
  refine ⟨aq, ai, ak, ax, he, ?_⟩
  refine h.mono fun c6 c9 h => ?_
  obtain ⟨ah, ap, an, av, he, h⟩ := h
  refine ⟨ah, ap, an, av, he, ?_⟩
  refine h.mono fun ct cb h => ?_
  obtain ⟨aj, he, h⟩ := h
  refine ⟨aj, he, ?_⟩
  refine bif_of (fun bp => ?_) (fun bp => ?_)
  ·have h := h.1 (not_t bp)
   exact h
  have h := h.2 (not_f bp)
  refine bif_of (fun bk => ?_) (fun bk => ?_)
  ·have h := h.1 (bne_t bk)
   exact h
  have h := h.2 (bne_f bk)
  refine h.mono fun cd cf h => ?_
  obtain ⟨a5, he, h⟩ := h
  refine ⟨a5, he, ?_⟩
  refine bif_of (fun bc => ?_) (fun bc => ?_)
  ·have h := h.1 (not_t bc)
   exact h
  have h := h.2 (not_f bc)
  refine bif_of (fun bl => ?_) (fun bl => ?_)
  ·have h := h.1 (bne_t bl)
   exact h
  have h := h.2 (bne_f bl)
  first | unfold Q02.J2 | skip
  refine bif_of (fun b2 => ?_) (fun b2 => ?_)
  ·have h := h.1 (bne_t b2)
   refine h.mono fun cq cu h => ?_
   obtain ⟨a3, he, h⟩ := h
   refine ⟨a3, he, ?_⟩
   exact h
  have h := h.2 (bne_f b2)
  first | unfold Q02.J1 | skip
  refine h.mono fun cl ce h => ?_
  obtain ⟨af, al, am, aw, he, h⟩ := h
  refine ⟨af, al, am, aw, he, ?_⟩
  refine bif_fo (fun b4 => ?_) (fun b4 => ?_)
  ·have h := h.2 (beq_f b4)
   exact h
  have h := h.1 (beq_t b4)
  refine h.mono fun cj c5 h => ?_
  obtain ⟨a7, he, h⟩ := h
  refine ⟨a7, he, ?_⟩
  refine bif_fo (fun az => ?_) (fun az => ?_)
  ·have h := h.2 az
   exact h
  have h := h.1 az
  refine h.mono fun c0 cr h => ?_
  obtain ⟨a1, he, h⟩ := h
  refine ⟨a1, he, ?_⟩
  exact h

theorem Q02.go (a2 : Option Addr) (a1 a0 : Nat) (a4 : Option Addr) (a5 a3 : Nat) {R : RW} {w : World} (h : Q02.N a2 a1 a0 a4 a5 a3 R w) : Calls Try.prog 6 #[.slice a2 a1 a0, .slice a4 a5 a3] w fun e w' => ∃ v, e = .returned v ∧ R v w' := Q02.ok a2 a1 a0 a4 a5 a3 (Q02.up a2 a1 a0 a4 a5 a3 h)
theorem Q02.run (a2 : Option Addr) (a1 a0 : Nat) (a4 : Option Addr) (a5 a3 : Nat) {V : Value} {Q : World → Prop} {w : World} (h : Q02.N a2 a1 a0 a4 a5 a3 (fun v w' => v = V ∧ Q w') w) : Calls Try.prog 6 #[.slice a2 a1 a0, .slice a4 a5 a3] w (Ret V Q) := (Q02.go a2 a1 a0 a4 a5 a3 h).mono fun e w' ⟨v, he, hv, hq⟩ => ⟨by rw [he, hv], hq⟩

def Q0a.M (ag : Option Addr) (a9 ai : Nat) (af : Option Addr) (aa aj : Nat) (R : RW) (w : World) : Prop :=
 bif (a9 : Int) != (aa : Int) then (
 R (.bool false) w) else (
 ∃ (I0 : Nat → List Value → World → Prop) (m4 : Nat), I0 m4 [.int .i64 0] w ∧ ∀ (m5 : Nat) (a5 : World) (i3 : Int), I0 m5 [.int .i64 i3] a5 →
 bif decide (i3 < (a9 : Int)) then (
 thenW (a5.drew) fun a7 =>
 ag.elim False fun a8 =>
 0 ≤ (i3 : Int) ∧ (i3 : Int) < (a9 : Int) ∧
 ∃ (ad : Option Addr) (ab ae : Nat), a7.cell? (a8.add (Int.toNat i3 * 1)) = some (.slice ad ab ae) ∧
 af.elim False fun ah =>
 0 ≤ (i3 : Int) ∧ (i3 : Int) < (aa : Int) ∧
 ∃ (a4 : Option Addr) (a3 a1 : Nat), a7.cell? (ah.add (Int.toNat i3 * 1)) = some (.slice a4 a3 a1) ∧
 Calls Try.prog 11 #[.slice ad ab ae, .slice a4 a3 a1] a7 fun a6 a2 => ∃ (a0 : Bool), a6 = .returned (.bool a0) ∧
 bif !a0 then (
 R (.bool false) a2) else (
 ∃ ac, ac < m5 ∧ I0 ac [.int .i64 (IntKind.i64.wrap (i3 + 1))] a2)) else (
 R (.bool true) a5))

theorem Q0a.ok (a1 : Option Addr) (a4 a0 : Nat) (a3 : Option Addr) (a5 a2 : Nat) {R : RW} {w : World} (h : Q0a.M a1 a4 a0 a3 a5 a2 R w) : Calls Try.prog 25 #[.slice a1 a4 a0, .slice a3 a5 a2] w fun e w' => ∃ v, e = .returned v ∧ R v w' :=
  Q09 follows (H := [(0, [0, 1], [(5, (.one (.int .i64)))])]) (args := [.slice a1 a4 a0, .slice a3 a5 a2]) (cast (by kernel_rfl) h)

def Q0a.N (ah : Option Addr) (a8 ai : Nat) (ag : Option Addr) (aa aj : Nat) (R : RW) (w : World) : Prop :=
 ((a8 : Int) ≠ (aa : Int) →
 R (.bool false) w) ∧
 ((a8 : Int) = (aa : Int) →
 ∃ (I0 : Nat → List Value → World → Prop) (m5 : Nat), I0 m5 [.int .i64 0] w ∧ ∀ (m6 : Nat) (a2 : World) (i4 : Int), I0 m6 [.int .i64 i4] a2 →
 (i4 < (a8 : Int) →
 ∃ ae : Addr, ah = some ae ∧
 0 ≤ (i4 : Int) ∧ (i4 : Int) < (a8 : Int) ∧
 ∃ (a1 : Option Addr) (a4 a7 : Nat), a2.cell? (ae.add (Int.toNat i4 * 1)) = some (.slice a1 a4 a7) ∧
 ∃ af : Addr, ag = some af ∧
 0 ≤ (i4 : Int) ∧ (i4 : Int) < (aa : Int) ∧
 ∃ (a3 : Option Addr) (a5 a6 : Nat), a2.cell? (af.add (Int.toNat i4 * 1)) = some (.slice a3 a5 a6) ∧
 ∀ (ad : World), Ext no a2 ad →
 Calls Try.prog 11 #[.slice a1 a4 a7, .slice a3 a5 a6] ad fun ab a9 => ∃ (a0 : Bool), ab = .returned (.bool a0) ∧
 (a0 = false →
 R (.bool false) a9) ∧
 (a0 = true →
 (-9223372036854775808 : Int) ≤ (i4 + 1) ∧ (i4 + 1) < 9223372036854775808 ∧
 ∃ ac, ac < m6 ∧ I0 ac [.int .i64 (i4 + 1)] a9)) ∧
 ((a8 : Int) ≤ i4 →
 R (.bool true) a2))

theorem Q0a.up (ai : Option Addr) (al af : Nat) (ah : Option Addr) (aj ag : Nat) {R : RW} {w : World} (h : Q0a.N ai al af ah aj ag R w) : Q0a.M ai al af ah aj ag R w := by
  unfold Q0a.M
  unfold Q0a.N at h
  refine bif_of (fun c3 => ?_) (fun c3 => ?_)
  ·have h := h.1 (bne_t c3)
   exact h
  have h := h.2 (bne_f c3)
  obtain ⟨I0, m5, h0, h⟩ := h
  refine ⟨I0, m5, h0, fun m6 ak i4 hI => ?_⟩
  have h := h m6 ak i4 hI
  refine bif_fo (fun c8 => ?_) (fun c8 => ?_)
  ·have h := h.2 (Int.not_lt.1 (of_decide_eq_false c8))
   exact h
  have h := h.1 (of_decide_eq_true c8)
  refine Q00 fun ao e9 => ?_
  have a2 := (Ext.refl no ak).x_drew e9
  obtain ⟨au, a7, h⟩ := h
  refine Q0p a7 ?_
  obtain ⟨a5, a6, h⟩ := h
  refine ⟨a5, a6, ?_⟩
  obtain ⟨a3, aa, ae, a8, h⟩ := h
  refine ⟨a3, aa, ae, (a2).cell a8 id, ?_⟩
  obtain ⟨av, ad, h⟩ := h
  refine Q0p ad ?_
  obtain ⟨a5, a6, h⟩ := h
  refine ⟨a5, a6, ?_⟩
  obtain ⟨a9, ab, ac, a1, h⟩ := h
  refine ⟨a9, ab, ac, (a2).cell a1 id, ?_⟩
  have h := h ao a2
  refine h.mono fun ap ar h => ?_
  obtain ⟨a0, he, h⟩ := h
  refine ⟨a0, he, ?_⟩
  refine bif_of (fun a4 => ?_) (fun a4 => ?_)
  ·have h := h.1 (not_t a4)
   exact h
  have h := h.2 (not_f a4)
  obtain ⟨aq, an, h⟩ := h
  try rw [w64 aq an]
  obtain ⟨am, hk, h⟩ := h
  exact ⟨am, hk, h⟩

theorem Q0a.go (a1 : Option Addr) (a4 a0 : Nat) (a3 : Option Addr) (a5 a2 : Nat) {R : RW} {w : World} (h : Q0a.N a1 a4 a0 a3 a5 a2 R w) : Calls Try.prog 25 #[.slice a1 a4 a0, .slice a3 a5 a2] w fun e w' => ∃ v, e = .returned v ∧ R v w' := Q0a.ok a1 a4 a0 a3 a5 a2 (Q0a.up a1 a4 a0 a3 a5 a2 h)
theorem Q0a.run (a1 : Option Addr) (a4 a0 : Nat) (a3 : Option Addr) (a5 a2 : Nat) {V : Value} {Q : World → Prop} {w : World} (h : Q0a.N a1 a4 a0 a3 a5 a2 (fun v w' => v = V ∧ Q w') w) : Calls Try.prog 25 #[.slice a1 a4 a0, .slice a3 a5 a2] w (Ret V Q) := (Q0a.go a1 a4 a0 a3 a5 a2 h).mono fun e w' ⟨v, he, hv, hq⟩ => ⟨by rw [he, hv], hq⟩
set_option maxRecDepth 20000
set_option maxHeartbeats 8000000
open W (OwnB Rd RdR numR countR doneR)
theorem inf25 : (Try.prog.info? 25).map (fun i => (i.zero, i.size, i.bytes)) = some (some (.slice none 0 0), 1, 24) := by kernel_rfl
structure OwnS (N p : Nat) (w : World) (a : Option Addr) (c : Nat) (l : List BS) : Prop where
  own : w.ownsRow 0 25 1 (.slice a l.length c) l.length (l.map BS.v)
  fr : ∀ ad, a = some ad → N ≤ ad.block ∧ ad.block < w.heap.size
  oks : ∀ x ∈ l, RowAt w x.a (bytesV x.bs) ∧ x.bs.length ≤ x.c
  ne : ∀ x ∈ l, bytesV x.bs ≠ [] → ∀ ad, x.a = some ad → ad.block ≠ p ∧ ad.block < w.heap.size ∧ ∀ ld, a = some ld → ad.block ≠ ld.block
  pN : p < N
section
variable {w w' : World} {N p : Nat} {a : Option Addr} {c : Nat} {l : List BS} {m : Nat → Prop}
theorem OwnS.nil (h : p < N) (w : World) : OwnS N p w none 0 [] := ⟨⟨rfl, .inl ⟨rfl, rfl⟩⟩, fun ad ha => (by cases ha), fun x h => (by cases h), fun x h => (by cases h), h⟩
theorem OwnS.at (h : OwnS N p w a c l) : BsAt w a c l := by
  obtain ⟨_, _, hv, hr⟩ := RowAt.of_owns h.own
  cases hv
  exact ⟨hr, h.oks, (Q0Q h.own).1⟩
theorem OwnS.ext (h : OwnS N p w a c l) (X : Ext m w w') (hm : ∀ b, m b → b = p) : OwnS N p w' a c l := by
  refine ⟨Q3i h.own X fun q hq => ?_, fun ad ha => ⟨(h.fr ad ha).1, Nat.lt_of_lt_of_le (h.fr ad ha).2 X.size⟩, fun x hx => ⟨(h.oks x hx).1.ext' X fun h0 ad ha hb => (h.ne x hx h0 ad ha).1 (hm _ hb), (h.oks x hx).2⟩, fun x hx h0 ad ha => ⟨(h.ne x hx h0 ad ha).1, Nat.lt_of_lt_of_le (h.ne x hx h0 ad ha).2.1 X.size, (h.ne x hx h0 ad ha).2.2⟩, h.pN⟩
  cases a with
  | none => simp [Value.ownBlock] at hq
  | some ad =>
    simp only [Value.ownBlock, Option.some.injEq] at hq
    subst hq
    intro hb
    have := hm _ hb; have := (h.fr ad rfl).1; have := h.pN
    omega
theorem OwnS.nx (h : OwnS N p w a c l) (X : Ext no w w') : OwnS N p w' a c l := h.ext X fun b hb => hb.elim
theorem OwnS.push (h : OwnS N p w a c l) (hN : N ≤ w.heap.size) (hl : l.length < 1000000) {x : BS} (hx : RowAt w x.a (bytesV x.bs)) (hxc : x.bs.length ≤ x.c) (hne : bytesV x.bs ≠ [] → ∀ ad, x.a = some ad → ad.block ≠ p ∧ ad.block < w.heap.size ∧ ∀ ld, a = some ld → ad.block ≠ ld.block)
    {ww : World} {qq : Nat} (X : Ext no w ww) (hb : Blk ww qq 25 [x.v]) :
    ∃ a' c' w', (Builtin.append_ #[53, 53] 53 #[.slice a l.length c, .slice (some (blk qq)) 1 1]).run Try.prog ww = .ok (.slice a' (l ++ [x]).length c') w' ∧ OwnS N p w' a' c' (l ++ [x]) ∧ Ext (fun b => ∃ ad, a = some ad ∧ b = ad.block) ww w' ∧ N ≤ w'.heap.size := by
  have hs := h.nx X
  obtain ⟨i, hi, hz, hs', hby⟩ := info_of inf25
  obtain ⟨a', c', w2, hr, ho, hg, hbk⟩ := Q0Z (ty := 53) Try.underlying53 hi hz hs' hby rfl (by decide) hs.own (xa := some (blk qq)) (m := 1) (c := 1) (news := [x.v]) rfl (RowAt.of_blk hb) (fun u hu => by rw [List.mem_singleton.1 hu]; rfl) (by omega) (by omega)
  have hrow : ∀ q, (Value.slice a l.length c).ownBlock = some q → ∃ ad, a = some ad ∧ q = ad.block := fun q hq => by
    cases a with
    | none => simp [Value.ownBlock] at hq
    | some ad => simp only [Value.ownBlock, Option.some.injEq] at hq; exact ⟨ad, rfl, hq.symm⟩
  have XE : Ext (fun b => ∃ ad, a = some ad ∧ b = ad.block) ww w2 := Ext.of_grown hg fun q hq => .inl (hrow q hq)
  have hbk' : ∀ ad, a' = some ad → (∃ b0, a = some b0 ∧ ad.block = b0.block) ∨ ad.block = ww.heap.size := fun ad ha => by
    subst ha
    rcases hbk with hq | hq
    · exact .inl (hrow _ hq.symm)
    · simp only [Value.ownBlock, Option.some.injEq] at hq; exact .inr hq
  have z1 := X.size
  have z2 := XE.size
  refine ⟨a', c', w2, by rw [List.length_append]; exact hr, ⟨?_, fun ad ha => ⟨?_, (Q0Q ho).2 ad ha⟩, fun y hy => ?_, fun y hy h0 ad ha => ?_, h.pN⟩, XE, by omega⟩
  · rw [List.length_append, List.map_append]; exact ho
  · rcases hbk' ad ha with ⟨b0, hb0, e⟩ | e
    · rw [e]; exact (h.fr b0 hb0).1
    · omega
  · rcases List.mem_append.1 hy with hy | hy
    · exact ⟨(hs.oks y hy).1.ext' XE fun h0 ad ha ⟨ld, hla, e⟩ => (hs.ne y hy h0 ad ha).2.2 ld hla e, (hs.oks y hy).2⟩
    · obtain rfl := List.mem_singleton.1 hy
      exact ⟨(hx.no X).ext' XE fun h0 ad ha ⟨ld, hla, e⟩ => (hne h0 ad ha).2.2 ld hla e, hxc⟩
  · have hy' : ad.block ≠ p ∧ ad.block < w.heap.size ∧ ∀ ld, a = some ld → ad.block ≠ ld.block := by
      rcases List.mem_append.1 hy with hy | hy
      · exact h.ne y hy h0 ad ha
      · obtain rfl := List.mem_singleton.1 hy
        exact hne h0 ad ha
    refine ⟨hy'.1, by have := hy'.2.1; omega, fun ld hld e => ?_⟩
    rcases hbk' ld hld with ⟨b0, hb0, e2⟩ | e2
    · exact hy'.2.2 b0 hb0 (by rw [e, e2])
    · have := hy'.2.1; omega
end
def cutF : Nat → RS → List (List UInt8) × RS
  | 0, s => ([], s)
  | k + 1, s => ((bytesR 4000 s).1 :: (cutF k (bytesR 4000 s).2).1, (cutF k (bytesR 4000 s).2).2)
def cutA2 (b : List UInt8) : List (List UInt8) × RS := cutF (countR 1000 (b, 0)).1 (countR 1000 (b, 0)).2
def cutL (b : List UInt8) : List (List UInt8) × Int := if doneR (cutA2 b).2 ≠ 0 then ([], doneR (cutA2 b).2) else ((cutA2 b).1, 0)
theorem Q2u : ∀ (k : Nat) (s : RS), ∀ c ∈ (cutF k s).1, c.length ≤ s.1.length
  | 0, s, c, h => by cases h
  | k + 1, s, c, h => by
    have hb := Q19 4000 s
    rcases List.mem_cons.1 h with h | h
    · rw [h]; exact hb.2
    · exact Nat.le_trans (Q2u k _ c h) hb.1
theorem numR_bad' {s : RS} (h : s.2 ≠ 0) : numR s = (0, s) := by unfold numR; rw [if_neg h]
theorem Q3S {m : Int} {s : RS} (h : s.2 ≠ 0) : bytesR m s = ([], s) := by
  have e : countR m s = (0, s) := by
    unfold countR
    rw [numR_bad' h, if_neg h]
  unfold bytesR takeR
  rw [e, if_neg h]
theorem Q3t : ∀ (k : Nat) {s : RS}, s.2 ≠ 0 → (cutF k s).2 = s
  | 0, s, _ => rfl
  | k + 1, s, h => by
    show (cutF k (bytesR 4000 s).2).2 = s
    rw [Q3S h]
    exact Q3t k h
theorem Q4a {s : RS} (h : s.2 ≠ 0) : doneR s = s.2 := by unfold doneR; rw [if_neg h]
theorem Q2s : ∀ (l : List (List UInt8)) (r : List UInt8), (∀ c ∈ l, c.length ≤ 4000) → cutF l.length (l.flatMap encB ++ r, 0) = (l, (r, 0))
  | [], r, _ => rfl
  | c :: l, r, h => by
    have hc := h c (List.mem_cons_self ..)
    have q := Q0O (x := c) (m := 4000) (by omega) (by omega) (l.flatMap encB ++ r)
    have e : (c :: l).flatMap encB ++ r = numL c.length ++ (c ++ (l.flatMap encB ++ r)) := by
      rw [List.flatMap_cons]; unfold encB; simp only [List.append_assoc]
    rw [e]
    show ((bytesR 4000 _).1 :: (cutF l.length (bytesR 4000 _).2).1, (cutF l.length (bytesR 4000 _).2).2) = _
    rw [q]
    show (c :: (cutF l.length (l.flatMap encB ++ r, 0)).1, (cutF l.length (l.flatMap encB ++ r, 0)).2) = _
    rw [Q2s l r fun x hx => h x (List.mem_cons_of_mem _ hx)]
theorem Q42 {l : List (List UInt8)} (hl : l.length ≤ 1000) (hb : ∀ c ∈ l, c.length ≤ 4000) : cutL (joinL l) = (l, 0) := by
  have q := W.countR_write (n := l.length) (m := 1000) (by omega) (by omega) (l.flatMap encB)
  have e : cutA2 (joinL l) = (l, ([], 0)) := by
    unfold cutA2 joinL
    rw [q]
    have := Q2s l [] hb
    rw [List.append_nil] at this
    exact this
  unfold cutL
  rw [e]; rfl
theorem Q1a {l : List (List UInt8)} {B : Nat} : ∀ t, (∀ i x, i < t → l[i]? = some x → x.length ≤ B) → (joinT l t).length ≤ 10 + (B + 10) * t
  | 0, _ => by
    unfold joinT
    have := W.numL_le l.length
    simp; omega
  | t + 1, h => by
    have ih := Q1a t fun i x hi hx => h i x (by omega) hx
    cases hg : l[t]? with
    | none =>
      have e : joinT l (t + 1) = joinT l t := by unfold joinT; rw [List.take_add_one, hg]; simp
      rw [e, Nat.mul_add]; omega
    | some x =>
      have hx := h t x (by omega) hg
      have := W.numL_le x.length
      rw [Q1s hg]
      unfold encB
      rw [List.length_append, List.length_append, Nat.mul_add]; omega
section
variable {w w' : World} {a b : Option Addr} {c d : Nat} {l l1 l2 : List BS}
theorem Q2N {b : List UInt8} (h : RowAt w a (bytesV b)) (hc : b.length ≤ c) (hl : b.length < 1000000) :
    Calls Try.prog 23 #[.slice a b.length c] w fun e w' => ∃ ra rc, ∃ l : List BS, e = .returned (.tuple #[.slice ra l.length rc, .int .i64 (cutL b).2]) ∧ BsAt w' ra rc l ∧ l.map BS.bs = (cutL b).1 ∧ Ext no w w' := by
  refine (Q0G.go a b.length c (R := fun v w' => ∃ ra rc, ∃ l : List BS, v = (.tuple #[.slice ra l.length rc, .int .i64 (cutL b).2]) ∧ BsAt w' ra rc l ∧ l.map BS.bs = (cutL b).1 ∧ Ext no w w') ?_).mono fun e w' ⟨v, he, ra, rc, l, hv, hw⟩ => ⟨ra, rc, l, by rw [he, hv], hw⟩
  unfold Q0G.N
  refine (W.Read_spec h hc).mono fun e w4 ⟨p, he, hR4, hp, X4⟩ => ⟨_, he, ?_⟩
  refine (W.Count_spec hR4 hl (m := 1000) (by decide)).mono fun e w7 ⟨he, hR7, X7⟩ => ⟨_, he, ?_⟩
  have Y7 : Ext no w w7 := X4.then X7 fun b hb => .inr (by omega)
  have hcl : (countR 1000 (b, 0)).2.1.length ≤ b.length := W.countR_len 1000 (b, 0)
  have hA : cutA2 b = cutF (countR 1000 (b, 0)).1 (countR 1000 (b, 0)).2 := rfl
  have hn : (countR 1000 (b, 0)).1 ≤ 1000 := by
    unfold countR
    split
    · split
      · exact Nat.zero_le _
      · omega
    · exact Nat.zero_le _
  clear he
  generalize countR 1000 (b, 0) = cc at *
  obtain ⟨n, s0⟩ := cc
  have hR7 : Rd w7 p s0.1 s0.2 := hR7
  have hcl : s0.1.length ≤ b.length := hcl
  have hA : cutA2 b = cutF n s0 := hA
  have hn : n ≤ 1000 := hn
  have hpl := hR7.lt
  dsimp only
  refine ⟨fun m vs w1 => ∃ (t : Nat) (la : Option Addr) (lc : Nat) (l : List BS) (s : RS), vs = [.slice la l.length lc, .int .i64 t] ∧ m + t = n ∧ OwnS w7.heap.size p w1 la lc l ∧ Rd w1 p s.1 s.2 ∧ s.1.length ≤ b.length ∧ l.length = t ∧ l.map BS.bs ++ (cutF m s).1 = (cutF n s0).1 ∧ (cutF m s).2 = (cutF n s0).2 ∧ Ext no w w1 ∧ w7.heap.size ≤ w1.heap.size,
    n, ⟨0, none, 0, [], s0, rfl, rfl, OwnS.nil hpl _, hR7, hcl, rfl, rfl, rfl, Y7, Nat.le_refl _⟩, ?_⟩
  rintro m w12 la ln lc i ⟨t, la2, lc2, l, s, hv, hm, hO, hR, hs, hlt, h1, h2, Y, hz⟩
  simp only [List.cons.injEq, Value.slice.injEq, Value.int.injEq, true_and, and_true] at hv
  obtain ⟨⟨e1, e2, e3⟩, e4⟩ := hv
  subst e1; subst e2; subst e3; subst e4
  refine ⟨fun ht => ?_, fun ht => ?_⟩
  · obtain ⟨k, rfl⟩ : ∃ k, m = k + 1 := ⟨m - 1, by omega⟩
    refine (Q1z hR (by omega) (m := 4000) (by decide)).mono fun e w16 ⟨xa, xc, he, hOx, hR16, X16⟩ => ⟨xa, _, xc, he, fun w17 q18 X17 b17 hq hq' => ?_⟩
    have z16 := X16.size
    have z17 := X17.size
    have hO16 := hO.ext X16 fun b hb => hb
    have hbl := Q19 4000 s
    obtain ⟨a', c', w20, hr, hO20, X20, hz20⟩ := hO16.push (x := ⟨xa, xc, (bytesR 4000 s).1⟩) (by omega) (by omega) hOx.row hOx.le (fun h0 ad ha => ⟨fun e => by have := (hOx.fr ad ha).1; omega, (hOx.fr ad ha).2, fun ld hld => by have := (hOx.fr ad ha).1; have := (hO.fr ld hld).2; omega⟩) X17 b17
    refine ⟨a', _, c', w20, hr, by omega, by omega, k, by omega, t + 1, a', c', l ++ [⟨xa, xc, (bytesR 4000 s).1⟩], (bytesR 4000 s).2, rfl, by omega, hO20, ?_, by have := hbl.1; omega, by rw [List.length_append, hlt]; rfl, ?_, h2, ?_, hz20⟩
    · exact (hR16.no X17).up X20 fun b ⟨ad, ha, e⟩ => by rw [e]; have := (hO.fr ad ha).1; omega
    · rw [List.map_append, List.append_assoc]; exact h1
    · exact ((Y.then X16 fun b hb => .inr (by omega)).trans X17).then X20 fun b ⟨ad, ha, e⟩ => .inr (by rw [e]; have := (hO.fr ad ha).1; have := Y7.size; omega)
  · obtain rfl : m = 0 := by omega
    have h1 : l.map BS.bs ++ [] = (cutF n s0).1 := h1
    have h2 : s = (cutF n s0).2 := h2
    rw [List.append_nil] at h1
    refine (W.Done_spec hR).mono fun e w24 ⟨he, hw⟩ => ⟨_, he, fun hd2 => ?_, fun hd2 => ?_⟩
    all_goals subst hw
    · have hd2 : doneR (cutA2 b).2 ≠ 0 := by rw [hA, ← h2]; exact hd2
      have e : cutL b = ([], doneR s) := by unfold cutL; rw [if_pos hd2, hA, ← h2]
      rw [e]
      exact ⟨none, 0, [], rfl, ⟨RowAt.nil _ _, fun x h => (by cases h), Nat.le_refl _⟩, rfl, Y⟩
    · have hd2 : doneR (cutA2 b).2 = 0 := by rw [hA, ← h2]; exact hd2
      have e : cutL b = ((cutF n s0).1, 0) := by unfold cutL; rw [if_neg (fun h => h hd2), hA]
      rw [e]
      exact ⟨la, lc, l, rfl, hO.at, h1, Y⟩
theorem Q41 {b : List UInt8} (h : RowAt w a (bytesV b)) (hc : b.length ≤ c) (hl : b.length < 1000000) :
    Calls Try.prog 24 #[.slice a b.length c] w fun e w' => ∃ ra rc, ∃ l : List BS, e = .returned (.tuple #[.slice ra l.length rc, .int .i64 (cutL b).2]) ∧ BsAt w' ra rc l ∧ l.map BS.bs = (cutL b).1 ∧ Ext no w w' := by
  refine (Q0e.go a b.length c (R := fun v w' => ∃ ra rc, ∃ l : List BS, v = (.tuple #[.slice ra l.length rc, .int .i64 (cutL b).2]) ∧ BsAt w' ra rc l ∧ l.map BS.bs = (cutL b).1 ∧ Ext no w w') ?_).mono fun e w' ⟨v, he, ra, rc, l, hv, hw⟩ => ⟨ra, rc, l, by rw [he, hv], hw⟩
  unfold Q0e.N
  intro w2 p X2 hb2 hp hp'
  have hR2 : RdR w2 p w.heap.size b 0 := ⟨hp, a, c, hb2, hc, h.no X2, fun h0 ad ha => h.lt h0 ha⟩
  refine (W.rCount_spec hR2 hl (m := 1000) (by decide) (by decide)).mono fun e w7 ⟨he, hR7, X7⟩ => ⟨_, he, ?_⟩
  have Y7 : Ext no w w7 := X2.then X7 fun b hb => .inr (by omega)
  have hcl : (countR 1000 (b, 0)).2.1.length ≤ b.length := W.countR_len 1000 (b, 0)
  have hA : cutA2 b = cutF (countR 1000 (b, 0)).1 (countR 1000 (b, 0)).2 := rfl
  have hn : (countR 1000 (b, 0)).1 ≤ 1000 := by
    unfold countR
    split
    · split
      · exact Nat.zero_le _
      · omega
    · exact Nat.zero_le _
  clear he
  generalize countR 1000 (b, 0) = cc at *
  obtain ⟨n, s0⟩ := cc
  have hR7 : RdR w7 p w.heap.size s0.1 s0.2 := hR7
  have hcl : s0.1.length ≤ b.length := hcl
  have hA : cutA2 b = cutF n s0 := hA
  have hn : n ≤ 1000 := hn
  have hpl := hR7.lt
  have fin : ∀ {w1 : World} {la : Option Addr} {lc : Nat} {l : List BS} {s : RS}, OwnS w7.heap.size p w1 la lc l → Ext no w w1 → s = (cutF n s0).2 → (doneR s = 0 → l.map BS.bs = (cutF n s0).1) →
      ((doneR s ≠ 0 → ∃ ra rc, ∃ l' : List BS, (.tuple #[.slice none 0 0, .int .i64 (doneR s)] : Value) = (.tuple #[.slice ra l'.length rc, .int .i64 (cutL b).2]) ∧ BsAt w1 ra rc l' ∧ l'.map BS.bs = (cutL b).1 ∧ Ext no w w1) ∧
       (doneR s = 0 → ∃ ra rc, ∃ l' : List BS, (.tuple #[.slice la l.length lc, .int .i64 0] : Value) = (.tuple #[.slice ra l'.length rc, .int .i64 (cutL b).2]) ∧ BsAt w1 ra rc l' ∧ l'.map BS.bs = (cutL b).1 ∧ Ext no w w1)) := fun {w1 la lc l s} hO Y h2 h1 => by
    refine ⟨fun hd => ?_, fun hd => ?_⟩
    · have hd2 : doneR (cutA2 b).2 ≠ 0 := by rw [hA, ← h2]; exact hd
      have e : cutL b = ([], doneR s) := by unfold cutL; rw [if_pos hd2, hA, ← h2]
      rw [e]
      exact ⟨none, 0, [], rfl, ⟨RowAt.nil _ _, fun x h => (by cases h), Nat.le_refl _⟩, rfl, Y⟩
    · have hd2 : doneR (cutA2 b).2 = 0 := by rw [hA, ← h2]; exact hd
      have e : cutL b = ((cutF n s0).1, 0) := by unfold cutL; rw [if_neg (fun h => h hd2), hA]
      rw [e]
      exact ⟨la, lc, l, rfl, hO.at, h1 hd, Y⟩
  dsimp only
  refine ⟨fun m vs w1 => ∃ (t : Nat) (la : Option Addr) (lc : Nat) (l : List BS) (s : RS), vs = [.slice la l.length lc, .int .i64 t] ∧ m + t = n ∧ OwnS w7.heap.size p w1 la lc l ∧ RdR w1 p w.heap.size s.1 s.2 ∧ s.1.length ≤ b.length ∧ l.length = t ∧ l.map BS.bs ++ (cutF m s).1 = (cutF n s0).1 ∧ (cutF m s).2 = (cutF n s0).2 ∧ Ext no w w1 ∧ w7.heap.size ≤ w1.heap.size,
    n, ⟨0, none, 0, [], s0, rfl, rfl, OwnS.nil hpl _, hR7, hcl, rfl, rfl, rfl, Y7, Nat.le_refl _⟩, ?_⟩
  rintro m w12 la ln lc i ⟨t, la2, lc2, l, s, hv, hm, hO, hR, hs, hlt, h1, h2, Y, hz⟩
  simp only [List.cons.injEq, Value.slice.injEq, Value.int.injEq, true_and, and_true] at hv
  obtain ⟨⟨e1, e2, e3⟩, e4⟩ := hv
  subst e1; subst e2; subst e3; subst e4
  have zY := Y7.size
  refine ⟨fun ht => ?_, fun ht => ?_⟩
  · obtain ⟨k, rfl⟩ : ∃ k, m = k + 1 := ⟨m - 1, by omega⟩
    have hcell : w12.cell? ((blk p).add 1) = some (.int .i64 s.2) := by
      obtain ⟨_, a0, c0, hb0, _⟩ := hR
      exact hb0.celli 1 rfl rfl
    refine ⟨s.2, hcell, fun hk => ?_, fun hk => ?_⟩
    · refine (Q2T hR (by omega) (m := 4000) (by decide) (by decide)).mono fun e w16 ⟨xa, xc, he, hxc, hxr, hxf, hR16, X16⟩ => ⟨xa, _, xc, he, fun w17 q18 X17 b17 hq hq' => ?_⟩
      have z16 := X16.size
      have z17 := X17.size
      have hO16 := hO.ext X16 fun b hb => hb
      have hbl := Q19 4000 s
      obtain ⟨a', c', w20, hr, hO20, X20, hz20⟩ := hO16.push (x := ⟨xa, xc, (bytesR 4000 s).1⟩) (by omega) (by omega) hxr hxc (fun h0 ad ha => ⟨fun e => by have := hxf h0 ad ha; omega, by have := hxf h0 ad ha; omega, fun ld hld => by have := hxf h0 ad ha; have := (hO.fr ld hld).1; omega⟩) X17 b17
      refine ⟨a', _, c', w20, hr, by omega, by omega, k, by omega, t + 1, a', c', l ++ [⟨xa, xc, (bytesR 4000 s).1⟩], (bytesR 4000 s).2, rfl, by omega, hO20, ?_, by have := hbl.1; omega, by rw [List.length_append, hlt]; rfl, ?_, h2, ?_, hz20⟩
      · exact (hR16.no X17).up X20 fun b ⟨ad, ha, e⟩ => by rw [e]; have := (hO.fr ad ha).1; omega
      · rw [List.map_append, List.append_assoc]; exact h1
      · exact ((Y.then X16 fun b hb => .inr (by omega)).trans X17).then X20 fun b ⟨ad, ha, e⟩ => .inr (by rw [e]; have := (hO.fr ad ha).1; omega)
    · have hs2 : s = (cutF n s0).2 := by rw [← h2]; exact (Q3t _ hk).symm
      refine (W.rDone_spec hR).mono fun e w24 ⟨he, hw⟩ => ⟨_, he, ?_⟩
      subst hw
      exact fin hO Y hs2 fun hd => absurd ((Q4a hk).symm.trans hd) hk
  · obtain rfl : m = 0 := by omega
    have h1 : l.map BS.bs ++ [] = (cutF n s0).1 := h1
    have h2 : s = (cutF n s0).2 := h2
    rw [List.append_nil] at h1
    refine (W.rDone_spec hR).mono fun e w24 ⟨he, hw⟩ => ⟨_, he, ?_⟩
    subst hw
    exact fin hO Y h2 fun _ => h1
theorem Q3F (h : BsAt w a c l) (hl : l.length < 1000000) :
    Calls Try.prog 22 #[.slice a l.length c] w (fun e w' => ∃ a' c', e = .returned (.tuple #[.slice a' (joinK (l.map BS.bs)).1.length c', .int .i64 (joinK (l.map BS.bs)).2]) ∧ RowAt w' a' (bytesV (joinK (l.map BS.bs)).1) ∧ Ext no w w') := by
  refine (Q05.go a l.length c (R := fun v w' => ∃ a' c', v = (.tuple #[.slice a' (joinK (l.map BS.bs)).1.length c', .int .i64 (joinK (l.map BS.bs)).2]) ∧ RowAt w' a' (bytesV (joinK (l.map BS.bs)).1) ∧ Ext no w w') ?_).mono fun e w' ⟨v, he, a', c', hv, hw⟩ => ⟨a', c', by rw [he, hv], hw⟩
  unfold Q05.N
  have leaf : ∀ {w2 : World}, joinK (l.map BS.bs) = ([], 3) → Ext no w w2 → ∃ a' c', (.tuple #[.slice none 0 0, .int .i64 3] : Value) = (.tuple #[.slice a' (joinK (l.map BS.bs)).1.length c', .int .i64 (joinK (l.map BS.bs)).2]) ∧ RowAt w2 a' (bytesV (joinK (l.map BS.bs)).1) ∧ Ext no w w2 := fun {w2} e X => by
    rw [e]; exact ⟨none, 0, rfl, RowAt.nil _ _, X⟩
  refine ⟨fun hg => leaf (by unfold joinK; rw [if_pos (.inl (by rw [List.length_map]; omega))]) (Ext.refl _ _), fun hg => ?_⟩
  rw [wu64 (n := (l.length : Int)) (by omega) (by omega)]
  refine (W.rNum_spec l.length w (by omega)).mono fun u w9 ⟨a1, c1, he, hO1, X9⟩ => ⟨a1, _, c1, he, ?_⟩
  have e0 : joinT (l.map BS.bs) 0 = numL l.length := by unfold joinT; simp
  refine ⟨fun m vs w1 => ∃ (t : Nat) (a1 : Option Addr) (c1 : Nat), vs = [.slice a1 (joinT (l.map BS.bs) t).length c1, .int .i64 t] ∧ m + t = l.length ∧ OwnB w.heap.size w1 a1 c1 (joinT (l.map BS.bs) t) ∧ Ext no w w1 ∧ (∀ i x, i < t → l[i]? = some x → x.bs.length ≤ 4000), l.length, ⟨0, a1, c1, by rw [e0]; rfl, rfl, by rw [e0]; exact hO1, X9, fun i x h => absurd h (by omega)⟩, ?_⟩
  rintro m w14 ba bn bc i ⟨t, a2, c2, hv, hm, hO, X, hsm⟩
  simp only [List.cons.injEq, Value.slice.injEq, Value.int.injEq, true_and, and_true] at hv
  obtain ⟨⟨e1, e2, e3⟩, e4⟩ := hv
  subst e1; subst e2; subst e3; subst e4
  have hlt := Q1a (l := l.map BS.bs) (B := 4000) t fun i x hi hx => by
    rw [List.getElem?_map] at hx
    cases hg : l[i]? with
    | none => rw [hg] at hx; cases hx
    | some y => rw [hg] at hx; cases hx; exact hsm i y hi hg
  refine ⟨fun ht => ?_, fun ht => ?_⟩
  · have htl : t < l.length := by omega
    have hg : l[t]? = some l[t] := List.getElem?_eq_getElem htl
    generalize l[t] = x at *
    have h14 := h.no X
    obtain ⟨ad, ha, hc⟩ := h14.cell hg
    obtain ⟨hx1, hx2⟩ := h14.oks x (List.mem_of_getElem? hg)
    have hm2 : (l.map BS.bs)[t]? = some x.bs := by rw [List.getElem?_map, hg]; rfl
    refine ⟨ad, ha, by omega, by omega, x.a, x.bs.length, x.c, by rw [Int.toNat_natCast]; exact hc, fun hbig => leaf (by unfold joinK; rw [if_pos (.inr (Q2L.2 ⟨x, List.mem_of_getElem? hg, by omega⟩))]) X, fun hsmall => ⟨by omega, by omega, x.a, x.bs.length, x.c, by rw [Int.toNat_natCast]; exact hc, ?_⟩⟩
    have hnx := W.numL_le x.bs.length
    refine (Q31 hx1 (by omega)).mono fun u w21 ⟨a3, c3, he, hO3, X21⟩ => ⟨a3, _, c3, he, ?_⟩
    obtain ⟨a4, c4, w22, hr, hB, Y, XA, hN⟩ := app hO X (Nat.le_refl _) X.size X21 (xc := c3) hO3.row (by rw [List.length_append]; omega)
    refine ⟨a4, _, c4, w22, hr, by omega, by omega, m - 1, by omega, t + 1, a4, c4, ?_, by omega, ?_, Y, fun i y hi hy => ?_⟩
    · rw [Q1s hm2]; rfl
    · rw [Q1s hm2]; exact hB
    · by_cases hit : i = t
      · subst hit; rw [hg] at hy; cases hy; omega
      · exact hsm i y (by omega) hy
  · obtain rfl : t = l.length := by omega
    have hnb : bigs (l.map BS.bs) = false := Q3q fun i x hx => hsm i x (List.getElem?_eq_some_iff.1 hx).1 hx
    have hk : joinK (l.map BS.bs) = (joinL (l.map BS.bs), 0) := by unfold joinK; rw [if_neg (by rw [List.length_map, hnb]; simp; omega)]
    rw [hk]
    rw [show l.length = (l.map BS.bs).length by rw [List.length_map], Q2b] at hO ⊢
    exact ⟨ba, bc, rfl, hO.row, X⟩
theorem Q2l {ba : Option Addr} {bc : Nat} (h1 : BsAt w a c l1) (h2 : BsAt w ba bc l2) (hl : l1.length < 1000000) (hs : ∀ x ∈ l1, x.bs.length < 1000000) :
    Calls Try.prog 25 #[.slice a l1.length c, .slice ba l2.length bc] w (Ret (.bool (decide (l1.map BS.bs = l2.map BS.bs))) fun w' => Ext no w w') := by
  refine Q0a.run _ _ _ _ _ _ ?_
  unfold Q0a.N
  have leafF : l1.map BS.bs ≠ l2.map BS.bs → ∀ {w2 : World}, Ext no w w2 → Value.bool false = .bool (decide (l1.map BS.bs = l2.map BS.bs)) ∧ Ext no w w2 := fun h _ X => ⟨by rw [decide_eq_false h], X⟩
  refine ⟨fun h => leafF (fun e => h (by have := congrArg List.length e; simp at this; omega)) (Ext.refl _ _), fun h => ?_⟩
  refine ⟨fun m vs w1 => ∃ t : Nat, vs = [.int .i64 t] ∧ m + t = l1.length ∧ Ext no w w1 ∧ (l1.map BS.bs).take t = (l2.map BS.bs).take t, l1.length, ⟨0, rfl, rfl, Ext.refl _ _, rfl⟩, ?_⟩
  rintro m w7 i ⟨t, hi, hm, X7, htk⟩
  simp only [List.cons.injEq, Value.int.injEq, true_and, and_true] at hi
  subst hi
  refine ⟨fun ht => ?_, fun ht => ?_⟩
  rotate_left
  · have htt : t = l1.length := by omega
    rw [List.take_of_length_le (by simp; omega), List.take_of_length_le (by simp; omega)] at htk
    exact ⟨by rw [decide_eq_true htk], X7⟩
  have ht1 : t < l1.length := by omega
  have ht2 : t < l2.length := by omega
  have g1 : l1[t]? = some l1[t] := List.getElem?_eq_getElem ht1
  have g2 : l2[t]? = some l2[t] := List.getElem?_eq_getElem ht2
  have q1 := h1.no X7
  have q2 := h2.no X7
  obtain ⟨x1, x2⟩ := q1.oks _ (List.getElem_mem ht1)
  obtain ⟨y1, y2⟩ := q2.oks _ (List.getElem_mem ht2)
  have xs := hs _ (List.getElem_mem ht1)
  have n1 : (l1.map BS.bs)[t]? = some (l1[t]).bs := by rw [List.getElem?_map, g1]; rfl
  have n2 : (l2.map BS.bs)[t]? = some (l2[t]).bs := by rw [List.getElem?_map, g2]; rfl
  generalize l1[t] = u at *
  generalize l2[t] = v at *
  obtain ⟨ad, e1, c1⟩ := q1.cell g1
  obtain ⟨bd, e2, c2⟩ := q2.cell g2
  refine ⟨ad, e1, by omega, by omega, u.a, u.bs.length, u.c, by rw [Int.toNat_natCast]; exact c1, bd, e2, by omega, by omega, v.a, v.bs.length, v.c, by rw [Int.toNat_natCast]; exact c2, fun w9 X9 => ?_⟩
  refine (sameB_spec (c := u.c) (d := v.c) (x1.no X9) (y1.no X9) xs).mono fun z w18 ⟨he, X18⟩ => ⟨_, he, fun hs => leafF (fun e => of_decide_eq_false hs (by rw [e, n2] at n1; injection n1 with n1; exact n1.symm)) ((X7.trans X9).trans X18), fun hs => ⟨by omega, by omega, m - 1, by omega, t + 1, rfl, by omega, (X7.trans X9).trans X18, by rw [List.take_add_one, List.take_add_one, htk, n1, n2, of_decide_eq_true hs]⟩⟩
end

set_option maxHeartbeats 4000000
open W (OwnB Rd numR countR doneR)
set_option maxHeartbeats 8000000
open W (OwnB)
def BssQ (W : World) (cs : List Value) : Prop := ∃ (a : Option Addr) (c : Nat) (l : List BS), cs = [.slice a l.length c] ∧ BsAt W a c l
theorem flat_bs (l : List BS) : (l.flatMap fun x => [x.v]) = l.map BS.v := by
  induction l with
  | nil => rfl
  | cons x r ih => rw [List.flatMap_cons, ih]; rfl
theorem opens_bss : Opens Try.prog 53 BssQ := (Q3K (size := 1) (f := fun x : BS => [x.v]) (G := fun W x => RowAt W x.a (bytesV x.bs) ∧ x.bs.length ≤ x.c) Try.underlying53 (by kernel_rfl) ((Q3b Try.underlying25 (by kernel_rfl) Try.underlying5).mono fun W cs ⟨a, c, b, h1, h2, _, h4⟩ => ⟨⟨a, c, b⟩, h1, h4, h2⟩)).mono
  fun W cs ⟨a, c, l, h1, h2, h3, h4, h5⟩ => ⟨a, c, l, h1, by rw [← flat_bs]; exact h4, h5, h2⟩
theorem Q4g {l : List (List UInt8)} (h : (joinL l).length ≤ 900000) : (joinK l).1.length ≤ 900000 := by
  unfold joinK
  split
  · exact Nat.zero_le _
  · exact h
theorem Q4x {l : List (List UInt8)} (h : (joinK l).2 = 0) : l.length ≤ 1000 ∧ bigs l = false ∧ joinK l = (joinL l, 0) := by
  unfold joinK at h ⊢
  by_cases hg : l.length > 1000 ∨ bigs l = true
  · rw [if_pos hg] at h; exact absurd (show (3 : Int) = 0 from h) (by decide)
  · refine ⟨by have := fun h => hg (.inl h); omega, ?_, by rw [if_neg hg]⟩
    cases hb : bigs l with
    | false => rfl
    | true => exact absurd (.inr hb) hg
theorem Q3Q (b : List UInt8) : ∀ c ∈ (cutL b).1, c.length ≤ b.length := fun c h => by
  unfold cutL at h
  split at h
  · cases h
  · exact Nat.le_trans (Q2u _ _ c h) (W.countR_len 1000 (b, 0))
theorem Q2g (W : World) {la ba : Option Addr} {lc bc : Nat} {l : List BS} {b : List UInt8} (hl : BsAt W la lc l) (hb : RowAt W ba (bytesV b)) (hbc : b.length ≤ bc) :
    Calls Try.prog 6 #[.slice la l.length lc, .slice ba b.length bc] W (Ret (.bool true) fun w' => Ext no W w') := by
  refine Q02.run _ _ _ _ _ _ ?_
  unfold Q02.N
  have hal : ∀ w1, Ext no W w1 → Calls Try.prog 8 #[] w1 fun ee w2 => ∃ b : Bool, ee = .returned (.bool b) ∧ Value.bool b = Value.bool true ∧ Ext no W w2 := fun w1 X =>
    (Q2W w1).mono fun v w2 ⟨hx, X2⟩ => ⟨_, hx, rfl, X.trans X2⟩
  refine ⟨fun _ => hal _ (Ext.refl _ _), fun hl1 => ⟨fun _ => hal _ (Ext.refl _ _), fun hb1 => ?_⟩⟩
  refine ⟨fun m vs w1 => ∃ t : Nat, vs = [.int .i64 t] ∧ m + t = l.length ∧ w1 = W ∧ ∀ (j : Nat) (x : BS), j < t → l[j]? = some x → x.bs.length ≤ 4100 ∧ (x.bs.length ≤ 200 ∨ l.length ≤ 5), l.length, ⟨0, rfl, rfl, rfl, fun j x h => absurd h (by omega)⟩, ?_⟩
  rintro m w14 i ⟨t, hi, hm, hw14, hs⟩
  simp only [List.cons.injEq, Value.int.injEq, true_and, and_true] at hi
  subst hi
  subst hw14
  refine ⟨fun ht => ?_, fun ht => ?_⟩
  · have htl : t < l.length := by omega
    have gt : l[t]? = some l[t] := List.getElem?_eq_getElem htl
    obtain ⟨ad, hab, cx⟩ := hl.cell gt
    have next : (l[t]).bs.length ≤ 4100 ∧ ((l[t]).bs.length ≤ 200 ∨ l.length ≤ 5) → ∀ (j : Nat) (x : BS), j < t + 1 → l[j]? = some x → x.bs.length ≤ 4100 ∧ (x.bs.length ≤ 200 ∨ l.length ≤ 5) := fun h j x hj hx => by
      by_cases e : j = t
      · subst e; rw [gt] at hx; cases hx; exact h
      · exact hs j x (by omega) hx
    refine ⟨ad, hab, by omega, by omega, _, _, _, by rw [Int.toNat_natCast]; exact cx, fun h2 => ⟨fun _ => hal _ (Ext.refl _ _), fun h5 => ⟨by omega, by omega, _, _, _, by rw [Int.toNat_natCast]; exact cx, fun _ => hal _ (Ext.refl _ _), fun h4 => ⟨by omega, by omega, m - 1, by omega, t + 1, rfl, by omega, rfl, next ⟨by omega, .inr (by omega)⟩⟩⟩⟩,
      fun h2 => ⟨by omega, by omega, _, _, _, by rw [Int.toNat_natCast]; exact cx, fun _ => hal _ (Ext.refl _ _), fun h4 => ⟨by omega, by omega, m - 1, by omega, t + 1, rfl, by omega, rfl, next ⟨by omega, .inl (by omega)⟩⟩⟩⟩
  have htl : t = l.length := by omega
  subst htl
  have hJ : (joinL (l.map BS.bs)).length ≤ 900000 := by
    have hsz : ∀ (i : Nat) (x : List UInt8), (l.map BS.bs)[i]? = some x → x.length ≤ 4100 ∧ (x.length ≤ 200 ∨ l.length ≤ 5) := fun i x hx => by
      rw [List.getElem?_map] at hx
      cases hg : l[i]? with
      | none => rw [hg] at hx; cases hx
      | some y => rw [hg] at hx; cases hx; exact hs i y (List.getElem?_eq_some_iff.1 hg).1 hg
    rw [← Q2b, List.length_map]
    by_cases h5 : l.length ≤ 5
    · have := Q1a (l := l.map BS.bs) (B := 4100) l.length fun i x _ hx => (hsz i x hx).1
      have : (4100 + 10) * l.length ≤ (4100 + 10) * 5 := Nat.mul_le_mul_left _ h5
      omega
    · have := Q1a (l := l.map BS.bs) (B := 200) l.length fun i x _ hx => by rcases (hsz i x hx).2 with h | h <;> omega
      have : (200 + 10) * l.length ≤ (200 + 10) * 1100 := Nat.mul_le_mul_left _ (by omega)
      omega
  have hJK := Q4g hJ
  have small : ∀ {l' : List BS} {d : List UInt8}, l'.map BS.bs = (cutL d).1 → d.length < 1000000 → l'.length < 1000000 → ∀ x ∈ l', x.bs.length < 1000000 := fun {l' d} h hd _ x hx => by
    have := Q3Q d x.bs (by rw [← h]; exact List.mem_map.2 ⟨x, hx, rfl⟩)
    omega
  refine (Q2r hl (by omega) (fun _ _ => hJ)).mono fun u w41 ⟨a1, c1, he, hO1, X41⟩ => ⟨a1, _, c1, _, he, ?_⟩
  refine (Q3F (hl.no X41) (by omega)).mono fun u w45 ⟨a2, c2, he, hr2, X45⟩ => ⟨a2, _, c2, _, he, ?_⟩
  have Y45 := X41.trans X45
  refine (Q2N (hb.no Y45) hbc (by omega)).mono fun u w49 ⟨a3, c3, l3, he, hl3, e3, X49⟩ => ⟨a3, _, c3, _, he, ?_⟩
  have Y49 := Y45.trans X49
  refine (Q41 (hb.no Y49) hbc (by omega)).mono fun u w53 ⟨a4, c4, l4, he, hl4, e4, X53⟩ => ⟨a4, _, c4, _, he, ?_⟩
  have Y53 := Y49.trans X53
  refine (sameB_spec (hO1.row.no ((X45.trans X49).trans X53)) (hr2.no (X49.trans X53)) (by omega)).mono fun u w56 ⟨he, X56⟩ => ⟨_, he, fun h => absurd h (by simp), fun _ => ⟨fun h => absurd rfl h, fun _ => ?_⟩⟩
  have Y56 := Y53.trans X56
  have len3 : l3.length < 1000000 := by
    have h2 : l3.length = (cutL b).1.length := by rw [← e3, List.length_map]
    have hn : ∀ (k : Nat) (s : RS), (cutF k s).1.length = k := fun k => by
      induction k with
      | zero => intro s; rfl
      | succ k ih => intro s; show ((cutF k (bytesR 4000 s).2).1).length + 1 = k + 1; rw [ih]
    have hc : (W.countR 1000 (b, 0)).1 ≤ 1000 := by
      unfold W.countR
      split
      · split
        · exact Nat.zero_le _
        · omega
      · exact Nat.zero_le _
    rw [h2]
    unfold cutL
    split
    · show (0 : Nat) < 1000000; decide
    · show (cutA2 b).1.length < 1000000
      unfold cutA2; rw [hn]; omega
  refine (Q2l (hl3.no (X53.trans X56)) (hl4.no X56) len3 (small e3 (by omega) len3)).mono fun u w61 ⟨he, X61⟩ => ⟨_, he, fun h => absurd h (by rw [e3, e4]; simp), fun _ => ⟨fun h => absurd rfl h, fun _ => ⟨fun _ => hal _ (Y56.trans X61), fun hk => ?_⟩⟩⟩
  have Y61 := Y56.trans X61
  obtain ⟨k1, k2, k3⟩ := Q4x hk
  have hsm : ∀ c ∈ l.map BS.bs, c.length ≤ 4000 := fun c hc => by
    unfold bigs at k2
    have := List.any_eq_false.1 k2 c hc
    simp at this
    omega
  have hcut := Q42 (by exact k1) hsm
  have hO61 := hO1.no ((((X45.trans X49).trans X53).trans X56).trans X61)
  rw [k3] at hO61 ⊢
  have hO61 : OwnB w14.heap.size w61 a1 c1 (joinL (l.map BS.bs)) := hO61
  refine (Q2N hO61.row hO61.le (by omega)).mono fun u w71 ⟨a5, c5, l5, he, hl5, e5, X71⟩ => ?_
  rw [hcut] at he e5
  have Y71 := Y61.trans X71
  refine ⟨a5, _, c5, _, he, fun _ => ?_, fun h => absurd rfl h⟩
  have e5 : l5.map BS.bs = l.map BS.bs := e5
  have l5l : l5.length = l.length := by have := congrArg List.length e5; simpa using this
  exact (Q2l hl5 (hl.no Y71) (by omega) (fun x hx => by have := hsm x.bs (by rw [← e5]; exact List.mem_map.2 ⟨x, hx, rfl⟩); omega)).mono fun u w75 ⟨he, X75⟩ => ⟨_, he, fun _ => hal _ (Y71.trans X75), fun h => absurd h (by rw [e5]; simp)⟩
theorem FrameJoins_walk (W : World) (a0 : Option Addr) (len0 cap0 : Nat) (a1 : Option Addr) (len1 cap1 : Nat) (o0 : BssQ W [.slice a0 len0 cap0]) (o1 : BytesQ W [.slice a1 len1 cap1]) :
    Calls Try.prog 6 #[.slice a0 len0 cap0, .slice a1 len1 cap1] W (Ret (.bool true) fun w' => Ext no W w') := by
  obtain ⟨_, _, l, e0, h0⟩ := o0
  obtain ⟨_, _, b, e1, l1, _, r1⟩ := o1
  cases e0
  cases e1
  exact Q2g W h0 r1 l1
end Go.Proofs.Ytoempemllkebkaa