/- Frames: predicates. -/
import Derived.Test.YtoempemllkebkaaZC
import Derived.Laws.StructEq
import Derived.Test.YtoempemllkebkaaZA
import Derived.Test.YtoempemllkebkaaZB
set_option linter.unusedVariables false
set_option linter.unusedSimpArgs false
set_option maxRecDepth 100000
set_option maxHeartbeats 4000000
namespace Go.Proofs.Ytoempemllkebkaa
open Go Go.Mx Go.Proofs
def Q08.M  (R : RW) (w : World) : Prop :=
 thenW (w.alloc (.cells #[.int .u8 97] 5)) fun cu =>
 ∃ (cn : Option Addr) (co cq : Nat) (cf : World), (convert 25 25 (.slice (some (blk w.heap.size)) 1 1)).run Try.prog cu = .ok (.slice cn co cq) cf ∧
 thenW (cf.alloc (.cells #[.slice cn co cq, .slice none 0 0] 25)) fun ct =>
 Calls Try.prog 21 #[.slice (some (blk cf.heap.size)) 2 2] ct fun cr cp => ∃ (b7 : Option Addr) (bc bk : Nat) (bw : Int), cr = .returned (.tuple #[.slice b7 bc bk, .int .i64 bw]) ∧
 thenW (cp.alloc (.cells #[.int .u8 120] 5)) fun cs =>
 ∃ (cb : Option Addr) (c5 c8 : Nat) (bt : World), (convert 25 25 (.slice (some (blk cp.heap.size)) 1 1)).run Try.prog cs = .ok (.slice cb c5 c8) bt ∧
 thenW (bt.alloc (.cells #[.int .i64 0, .int .i64 0, .int .u64 0, .int .i64 0, .int .i64 0, .int .i64 0, .slice none 0 0, .int .u64 0] 27)) fun cd =>
 putsK cd (blk bt.heap.size) [.int .i64 1, .int .i64 0, .int .u64 0, .int .i64 5, .int .i64 1, .int .i64 0, .slice cb c5 c8, .int .u64 9] 0 fun c3 =>
 ∃ (a1 ay b5 bs bg am : Int) (ar : Option Addr) (ae a8 : Nat) (be : Int), cellsAt c3 (blk bt.heap.size) [.int .i64 a1, .int .i64 ay, .int .u64 b5, .int .i64 bs, .int .i64 bg, .int .i64 am, .slice ar ae a8, .int .u64 be] 0 ∧
 Calls Try.prog 20 #[.agg #[.int .i64 a1, .int .i64 ay, .int .u64 b5, .int .i64 bs, .int .i64 bg, .int .i64 am, .slice ar ae a8, .int .u64 be]] c3 fun cl ci => ∃ (bn a0 aa b3 b8 ba a6 : Int) (av : Option Addr) (a9 ag : Nat) (b9 a3 a7 b2 b6 bd ab : Int) (ai : Option Addr) (al ah : Nat) (bf bx : Int) (c9 : Option Addr) (c4 cc : Nat) (c1 : Int), cl = .returned (.agg #[.int .i64 bn, .int .i64 a0, .int .i64 aa, .int .u64 b3, .int .i64 b8, .int .i64 ba, .int .i64 a6, .slice av a9 ag, .int .u64 b9, .int .i64 a3, .int .i64 a7, .int .u64 b2, .int .i64 b6, .int .i64 bd, .int .i64 ab, .slice ai al ah, .int .u64 bf, .int .i64 bx, .slice c9 c4 cc, .int .u64 c1]) ∧
 Calls Try.prog 9 #[.agg #[.int .i64 bn, .int .i64 a0, .int .i64 aa, .int .u64 b3, .int .i64 b8, .int .i64 ba, .int .i64 a6, .slice av a9 ag, .int .u64 b9, .int .i64 a3, .int .i64 a7, .int .u64 b2, .int .i64 b6, .int .i64 bd, .int .i64 ab, .slice ai al ah, .int .u64 bf, .int .i64 bx, .slice c9 c4 cc, .int .u64 c1]] ci fun ce cj => ∃ (aw : Option Addr) (au ak : Nat) (b4 : Int), ce = .returned (.tuple #[.slice aw au ak, .int .i64 b4]) ∧
 Calls Try.prog 13 #[.slice aw au ak] cj fun ch bu => ∃ (bo a2 ap b0 bl bh an : Int) (ad : Option Addr) (af aj : Nat) (br a4 ao b1 bp bm a5 : Int) (ac : Option Addr) (ax aq : Nat) (bq c0 : Int) (ca : Option Addr) (c6 c7 : Nat) (bv bi : Int), ch = .returned (.tuple #[.agg #[.int .i64 bo, .int .i64 a2, .int .i64 ap, .int .u64 b0, .int .i64 bl, .int .i64 bh, .int .i64 an, .slice ad af aj, .int .u64 br, .int .i64 a4, .int .i64 ao, .int .u64 b1, .int .i64 bp, .int .i64 bm, .int .i64 a5, .slice ac ax aq, .int .u64 bq, .int .i64 c0, .slice ca c6 c7, .int .u64 bv], .int .i64 bi]) ∧
 thenW (bu.alloc (.cells #[.int .i64 0, .int .i64 0, .int .i64 0, .int .u64 0, .int .i64 0, .int .i64 0, .int .i64 0, .slice none 0 0, .int .u64 0, .int .i64 0, .int .i64 0, .int .u64 0, .int .i64 0, .int .i64 0, .int .i64 0, .slice none 0 0, .int .u64 0, .int .i64 0, .slice none 0 0, .int .u64 0] 38)) fun cg =>
 putsK cg (blk bu.heap.size) [.int .i64 bo, .int .i64 a2, .int .i64 ap, .int .u64 b0, .int .i64 bl, .int .i64 bh, .int .i64 an, .slice ad af aj, .int .u64 br, .int .i64 a4, .int .i64 ao, .int .u64 b1, .int .i64 bp, .int .i64 bm, .int .i64 a5, .slice ac ax aq, .int .u64 bq, .int .i64 c0, .slice ca c6 c7, .int .u64 bv] 0 fun c2 =>
 bif bw == 0 then (
 thenW (c2.alloc (.cells #[.int .u8 2, .int .u8 1, .int .u8 97, .int .u8 0] 5)) fun cm =>
 Calls Try.prog 11 #[.slice b7 bc bk, .slice (some (blk c2.heap.size)) 4 4] cm fun ck az => ∃ (bj : Bool), ck = .returned (.bool bj) ∧
 bif bj then (
 bif b4 == 0 then (
 bif bi == 0 then (
 ∃ (bb : Int), az.cell? ((blk bu.heap.size).add 0) = some (.int .i64 bb) ∧
 bif bb == 1 then (
 ∃ (bz : Int), az.cell? (((blk bu.heap.size).add 1).add 7) = some (.int .u64 bz) ∧
 R (.bool (bz == 9)) az) else (
 R (.bool false) az)) else (
 R (.bool false) az)) else (
 R (.bool false) az)) else (
 R (.bool false) az)) else (
 R (.bool false) c2)

theorem Q08.ok  {R : RW} {w : World} (h : Q08.M  R w) : Calls Try.prog 8 #[] w fun e w' => ∃ v, e = .returned v ∧ R v w' :=
  Q07 follows (H := []) (args := []) (cast (by kernel_rfl) h)

def Q08.N  (R : RW) (w : World) : Prop :=
 ∀ (c3 : World) (q2 : Nat), Ext no w c3 → Blk c3 q2 5 [.int .u8 97] → w.heap.size ≤ q2 → q2 < c3.heap.size →
 ∃ (ci : Option Addr) (cf ch : Nat) (cb : World), (convert 25 25 (.slice (some (blk q2)) 1 1)).run Try.prog c3 = .ok (.slice ci cf ch) cb ∧
 ∀ (c4 : World) (q6 : Nat), Ext no cb c4 → Blk c4 q6 25 [.slice ci cf ch, .slice none 0 0] → cb.heap.size ≤ q6 → q6 < c4.heap.size →
 Calls Try.prog 21 #[.slice (some (blk q6)) 2 2] c4 fun cj c1 => ∃ (ba : Option Addr) (aw b2 : Nat) (b9 : Int), cj = .returned (.tuple #[.slice ba aw b2, .int .i64 b9]) ∧
 ∀ (bf : World) (c2 : Nat), Ext no c1 bf → Blk bf c2 5 [.int .u8 120] → c1.heap.size ≤ c2 → c2 < bf.heap.size →
 ∃ (bx : Option Addr) (bv bt : Nat) (c0 : World), (convert 25 25 (.slice (some (blk c2)) 1 1)).run Try.prog bf = .ok (.slice bx bv bt) c0 ∧
 ∀ (bo : World), Ext no c0 bo →
 Calls Try.prog 20 #[.agg #[.int .i64 1, .int .i64 0, .int .u64 0, .int .i64 5, .int .i64 1, .int .i64 0, .slice bx bv bt, .int .u64 9]] bo fun c8 c7 => ∃ (ap a1 a6 ak ao b3 ad : Int) (a4 : Option Addr) (ac a5 : Nat) (au a0 a8 aj b5 b6 ae : Int) (a3 : Option Addr) (aa a9 : Nat) (bb bh : Int) (bq : Option Addr) (bu bp : Nat) (bi : Int), c8 = .returned (.agg #[.int .i64 ap, .int .i64 a1, .int .i64 a6, .int .u64 ak, .int .i64 ao, .int .i64 b3, .int .i64 ad, .slice a4 ac a5, .int .u64 au, .int .i64 a0, .int .i64 a8, .int .u64 aj, .int .i64 b5, .int .i64 b6, .int .i64 ae, .slice a3 aa a9, .int .u64 bb, .int .i64 bh, .slice bq bu bp, .int .u64 bi]) ∧
 Calls Try.prog 9 #[.agg #[.int .i64 ap, .int .i64 a1, .int .i64 a6, .int .u64 ak, .int .i64 ao, .int .i64 b3, .int .i64 ad, .slice a4 ac a5, .int .u64 au, .int .i64 a0, .int .i64 a8, .int .u64 aj, .int .i64 b5, .int .i64 b6, .int .i64 ae, .slice a3 aa a9, .int .u64 bb, .int .i64 bh, .slice bq bu bp, .int .u64 bi]] c7 fun cc c6 => ∃ (ab : Option Addr) (a7 af : Nat) (a2 : Int), cc = .returned (.tuple #[.slice ab a7 af, .int .i64 a2]) ∧
 Calls Try.prog 13 #[.slice ab a7 af] c6 fun cd be => ∃ (ah an b0 bg bk bl ar : Int) (ay : Option Addr) (bc aq : Nat) (b4 al b8 bd bn bm av : Int) (b1 : Option Addr) (ax az : Nat) (bj bz : Int) (ce : Option Addr) (c5 ca : Nat) (br ai : Int), cd = .returned (.tuple #[.agg #[.int .i64 ah, .int .i64 an, .int .i64 b0, .int .u64 bg, .int .i64 bk, .int .i64 bl, .int .i64 ar, .slice ay bc aq, .int .u64 b4, .int .i64 al, .int .i64 b8, .int .u64 bd, .int .i64 bn, .int .i64 bm, .int .i64 av, .slice b1 ax az, .int .u64 bj, .int .i64 bz, .slice ce c5 ca, .int .u64 br], .int .i64 ai]) ∧
 (b9 = 0 →
 ∀ (b7 : World) (bs cg : Nat), Ext no be b7 → Blk b7 bs 5 [.int .u8 2, .int .u8 1, .int .u8 97, .int .u8 0] → be.heap.size ≤ bs → bs < b7.heap.size → Privq be bs [cg] →
 Calls Try.prog 11 #[.slice ba aw b2, .slice (some (blk bs)) 4 4] b7 fun c9 am => ∃ (ag : Bool), c9 = .returned (.bool ag) ∧
 Keep [cg] b7 am ∧
 (ag = true →
 (a2 = 0 →
 (ai = 0 →
 (ah = 1 →
 R (.bool (b4 == 9)) am) ∧
 (ah ≠ 1 →
 R (.bool false) am)) ∧
 (ai ≠ 0 →
 R (.bool false) am)) ∧
 (a2 ≠ 0 →
 R (.bool false) am)) ∧
 (ag = false →
 R (.bool false) am)) ∧
 (b9 ≠ 0 →
 ∀ (bw : World), Ext no be bw →
 R (.bool false) bw)

theorem Q08.up  {R : RW} {w : World} (h : Q08.N  R w) : Q08.M  R w := by
  unfold Q08.M
  unfold Q08.N at h
  refine Q01 fun cz e1 => ?_
  have h := h cz w.heap.size ((Ext.refl no w).x_alloc e1) (Blk.of_new e1) ((Ext.refl no w)).size (Q0q e1)
  obtain ⟨cx, ck, cu, bx, hr, h⟩ := h
  refine ⟨cx, ck, cu, bx, hr, ?_⟩
  refine Q01 fun d2 e5 => ?_
  have h := h d2 bx.heap.size ((Ext.refl no bx).x_alloc e5) (Blk.of_new e5) ((Ext.refl no bx)).size (Q0q e5)
  refine h.mono fun d4 bm h => ?_
  obtain ⟨bj, b8, bb, bs, he, h⟩ := h
  refine ⟨bj, b8, bb, bs, he, ?_⟩
  refine Q01 fun cb c4 => ?_
  have h := h cb bm.heap.size ((Ext.refl no bm).x_alloc c4) (Blk.of_new c4) ((Ext.refl no bm)).size (Q0q c4)
  obtain ⟨bu, bq, bp, bl, hr, h⟩ := h
  refine ⟨bu, bq, bp, bl, hr, ?_⟩
  refine Q01 fun d3 ci => ?_
  have av := Blk.of_new ci
  have d0 := ((Ext.refl no bl)).size
  have cg := (Ext.refl no bl).x_alloc ci
  refine Q0F (k := 0) (j := 0) av (by exact Nat.le_of_ble_eq_true rfl) fun bz d1 cy => ?_
  have cc := cg.x_puts d1 (.inr d0)
  have av := Q0K cy rfl
  refine ⟨1, 0, 0, 5, 1, 0, bu, bq, bp, 9, ⟨av.celli 0 rfl rfl, av.celli 1 rfl rfl, av.celli 2 rfl rfl, av.celli 3 rfl rfl, av.celli 4 rfl rfl, av.celli 5 rfl rfl, av.celli 6 rfl rfl, av.celli 7 rfl rfl, trivial⟩, ?_⟩
  have h := h bz cc
  refine h.mono fun cp co h => ?_
  obtain ⟨b6, a2, a8, b0, b5, bc, ao, a6, am, a7, b7, a1, ag, ay, bf, bg, ap, a4, aj, ah, bk, bo, c1, ca, c0, bt, he, h⟩ := h
  refine ⟨b6, a2, a8, b0, b5, bc, ao, a6, am, a7, b7, a1, ag, ay, bf, bg, ap, a4, aj, ah, bk, bo, c1, ca, c0, bt, he, ?_⟩
  refine h.mono fun ct cn h => ?_
  obtain ⟨al, a9, ar, ax, he, h⟩ := h
  refine ⟨al, a9, ar, ax, he, ?_⟩
  refine h.mono fun cv b3 h => ?_
  obtain ⟨a5, a3, ai, b1, ba, bd, ab, ae, au, aa, an, a0, aq, aw, bh, be, ac, ak, ad, af, b9, bv, cd, c2, c9, bn, b4, he, h⟩ := h
  refine ⟨a5, a3, ai, b1, ba, bd, ab, ae, au, aa, an, a0, aq, aw, bh, be, ac, ak, ad, af, b9, bv, cd, c2, c9, bn, b4, he, ?_⟩
  refine Q01 fun cq ch => ?_
  have az := Blk.of_new ch
  have cj := ((Ext.refl no b3)).size
  have cf := (Ext.refl no b3).x_alloc ch
  refine Q0F (k := 0) (j := 0) az (by exact Nat.le_of_ble_eq_true rfl) fun br cw cr => ?_
  have bi := cf.x_puts cw (.inr cj)
  have az := Q0K cr rfl
  refine bif_fo (fun c7 => ?_) (fun c7 => ?_)
  ·have h := h.2 (beq_f c7)
   have h := h br bi
   exact h
  have h := h.1 (beq_t c7)
  refine Q01 fun ce bw => ?_
  have cl := az.lt
  have az := az.x_alloc bw
  have h := h ce br.heap.size (b3.heap.size) (bi.x_alloc bw) (Blk.of_new bw) (bi).size (Q0q bw) (Privq.cons cj cl Privq.nil)
  refine h.mono fun cs cm h => ?_
  obtain ⟨b2, he, hk, h⟩ := h
  refine ⟨b2, he, ?_⟩
  have az := hk.blk az (by simp)
  refine bif_fo (fun c3 => ?_) (fun c3 => ?_)
  ·have h := h.2 c3
   exact h
  have h := h.1 c3
  refine bif_fo (fun c8 => ?_) (fun c8 => ?_)
  ·have h := h.2 (beq_f c8)
   exact h
  have h := h.1 (beq_t c8)
  refine bif_fo (fun c5 => ?_) (fun c5 => ?_)
  ·have h := h.2 (beq_f c5)
   exact h
  have h := h.1 (beq_t c5)
  refine ⟨a5, az.celli 0 rfl rfl, ?_⟩
  refine bif_fo (fun c6 => ?_) (fun c6 => ?_)
  ·have h := h.2 (beq_f c6)
   exact h
  have h := h.1 (beq_t c6)
  refine ⟨an, az.celli 8 rfl rfl, ?_⟩
  exact h

theorem Q08.go  {R : RW} {w : World} (h : Q08.N  R w) : Calls Try.prog 8 #[] w fun e w' => ∃ v, e = .returned v ∧ R v w' := Q08.ok  (Q08.up  h)
theorem Q08.run  {V : Value} {Q : World → Prop} {w : World} (h : Q08.N  (fun v w' => v = V ∧ Q w') w) : Calls Try.prog 8 #[] w (Ret V Q) := (Q08.go  h).mono fun e w' ⟨v, he, hv, hq⟩ => ⟨by rw [he, hv], hq⟩
def Q0a.M (av a9 ab ah ar ap aa : Int) (ae : Option Addr) (ac ad : Nat) (ao a0 a6 af aj ag a4 : Int) (a8 : Option Addr) (a5 a7 : Nat) (an aq : Int) (ax : Option Addr) (ay aw : Nat) (au : Int) (R : RW) (w : World) : Prop :=
 thenW (w.alloc (.cells #[.int .i64 av, .int .i64 a9, .int .i64 ab, .int .u64 ah, .int .i64 ar, .int .i64 ap, .int .i64 aa, .slice ae ac ad, .int .u64 ao, .int .i64 a0, .int .i64 a6, .int .u64 af, .int .i64 aj, .int .i64 ag, .int .i64 a4, .slice a8 a5 a7, .int .u64 an, .int .i64 aq, .slice ax ay aw, .int .u64 au] 30)) fun a3 =>
 ∃ (ai : Option Addr) (a2 al : Nat), a3.cell? (((blk w.heap.size).add 1).add 6) = some (.slice ai a2 al) ∧
 bif decide ((a2 : Int) ≤ 1500) then (
 ∃ (ak : Option Addr) (a1 am : Nat), a3.cell? (((blk w.heap.size).add 9).add 6) = some (.slice ak a1 am) ∧
 bif decide ((a1 : Int) ≤ 1500) then (
 ∃ (b0 : Option Addr) (az b1 : Nat), a3.cell? ((blk w.heap.size).add 18) = some (.slice b0 az b1) ∧
 R (.bool (decide ((az : Int) ≤ 30))) a3) else (
 R (.bool false) a3)) else (
 R (.bool false) a3)

theorem Q0a.ok (am a6 a8 ae ak ai a7 : Int) (ab : Option Addr) (a9 aa : Nat) (ah a0 a3 ac af ad a1 : Int) (a5 : Option Addr) (a2 a4 : Nat) (ag aj : Int) (ao : Option Addr) (ap an : Nat) (al : Int) {R : RW} {w : World} (h : Q0a.M am a6 a8 ae ak ai a7 ab a9 aa ah a0 a3 ac af ad a1 a5 a2 a4 ag aj ao ap an al R w) : Calls Try.prog 7 #[.agg #[.int .i64 am, .int .i64 a6, .int .i64 a8, .int .u64 ae, .int .i64 ak, .int .i64 ai, .int .i64 a7, .slice ab a9 aa, .int .u64 ah, .int .i64 a0, .int .i64 a3, .int .u64 ac, .int .i64 af, .int .i64 ad, .int .i64 a1, .slice a5 a2 a4, .int .u64 ag, .int .i64 aj, .slice ao ap an, .int .u64 al]] w fun e w' => ∃ v, e = .returned v ∧ R v w' :=
  Q07 follows (H := []) (args := [.agg #[.int .i64 am, .int .i64 a6, .int .i64 a8, .int .u64 ae, .int .i64 ak, .int .i64 ai, .int .i64 a7, .slice ab a9 aa, .int .u64 ah, .int .i64 a0, .int .i64 a3, .int .u64 ac, .int .i64 af, .int .i64 ad, .int .i64 a1, .slice a5 a2 a4, .int .u64 ag, .int .i64 aj, .slice ao ap an, .int .u64 al]]) (cast (by kernel_rfl) h)

def Q0a.N (ao a8 aa ag am ak a9 : Int) (ac : Option Addr) (a2 ab : Nat) (aj a3 a5 ad ah af a4 : Int) (a7 : Option Addr) (a0 a6 : Nat) (ai al : Int) (aq : Option Addr) (ae ap : Nat) (an : Int) (R : RW) (w : World) : Prop :=
 ((a2 : Int) ≤ 1500 →
 ((a0 : Int) ≤ 1500 →
 ∀ (a1 : World), Ext no w a1 →
 R (.bool (decide ((ae : Int) ≤ 30))) a1) ∧
 ((1500 : Int) < (a0 : Int) →
 ∀ (a1 : World), Ext no w a1 →
 R (.bool false) a1)) ∧
 ((1500 : Int) < (a2 : Int) →
 ∀ (a1 : World), Ext no w a1 →
 R (.bool false) a1)

theorem Q0a.up (ap a9 ab ae ak ai aa : Int) (a6 : Option Addr) (a4 a5 : Nat) (ah a3 a8 ac af ad a7 : Int) (a2 : Option Addr) (a0 a1 : Nat) (ag aj : Int) (am : Option Addr) (an al : Nat) (ao : Int) {R : RW} {w : World} (h : Q0a.N ap a9 ab ae ak ai aa a6 a4 a5 ah a3 a8 ac af ad a7 a2 a0 a1 ag aj am an al ao R w) : Q0a.M ap a9 ab ae ak ai aa a6 a4 a5 ah a3 a8 ac af ad a7 a2 a0 a1 ag aj am an al ao R w := by
  unfold Q0a.M
  unfold Q0a.N at h
  refine Q01 fun aq ax => ?_
  have aw := Blk.of_new ax
  have ay := ((Ext.refl no w)).size
  have ar := (Ext.refl no w).x_alloc ax
  refine ⟨a6, a4, a5, aw.celli 7 rfl rfl, ?_⟩
  refine bif_fo (fun au => ?_) (fun au => ?_)
  ·have h := h.2 (Int.not_le.1 (of_decide_eq_false au))
   have h := h aq ar
   exact h
  have h := h.1 (of_decide_eq_true au)
  refine ⟨a2, a0, a1, aw.celli 15 rfl rfl, ?_⟩
  refine bif_fo (fun av => ?_) (fun av => ?_)
  ·have h := h.2 (Int.not_le.1 (of_decide_eq_false av))
   have h := h aq ar
   exact h
  have h := h.1 (of_decide_eq_true av)
  refine ⟨am, an, al, aw.celli 18 rfl rfl, ?_⟩
  have h := h aq ar
  exact h

theorem Q0a.go (am a6 a8 ae ak ai a7 : Int) (ab : Option Addr) (a9 aa : Nat) (ah a0 a3 ac af ad a1 : Int) (a5 : Option Addr) (a2 a4 : Nat) (ag aj : Int) (ao : Option Addr) (ap an : Nat) (al : Int) {R : RW} {w : World} (h : Q0a.N am a6 a8 ae ak ai a7 ab a9 aa ah a0 a3 ac af ad a1 a5 a2 a4 ag aj ao ap an al R w) : Calls Try.prog 7 #[.agg #[.int .i64 am, .int .i64 a6, .int .i64 a8, .int .u64 ae, .int .i64 ak, .int .i64 ai, .int .i64 a7, .slice ab a9 aa, .int .u64 ah, .int .i64 a0, .int .i64 a3, .int .u64 ac, .int .i64 af, .int .i64 ad, .int .i64 a1, .slice a5 a2 a4, .int .u64 ag, .int .i64 aj, .slice ao ap an, .int .u64 al]] w fun e w' => ∃ v, e = .returned v ∧ R v w' := Q0a.ok am a6 a8 ae ak ai a7 ab a9 aa ah a0 a3 ac af ad a1 a5 a2 a4 ag aj ao ap an al (Q0a.up am a6 a8 ae ak ai a7 ab a9 aa ah a0 a3 ac af ad a1 a5 a2 a4 ag aj ao ap an al h)
theorem Q0a.run (am a6 a8 ae ak ai a7 : Int) (ab : Option Addr) (a9 aa : Nat) (ah a0 a3 ac af ad a1 : Int) (a5 : Option Addr) (a2 a4 : Nat) (ag aj : Int) (ao : Option Addr) (ap an : Nat) (al : Int) {V : Value} {Q : World → Prop} {w : World} (h : Q0a.N am a6 a8 ae ak ai a7 ab a9 aa ah a0 a3 ac af ad a1 a5 a2 a4 ag aj ao ap an al (fun v w' => v = V ∧ Q w') w) : Calls Try.prog 7 #[.agg #[.int .i64 am, .int .i64 a6, .int .i64 a8, .int .u64 ae, .int .i64 ak, .int .i64 ai, .int .i64 a7, .slice ab a9 aa, .int .u64 ah, .int .i64 a0, .int .i64 a3, .int .u64 ac, .int .i64 af, .int .i64 ad, .int .i64 a1, .slice a5 a2 a4, .int .u64 ag, .int .i64 aj, .slice ao ap an, .int .u64 al]] w (Ret V Q) := (Q0a.go am a6 a8 ae ak ai a7 ab a9 aa ah a0 a3 ac af ad a1 a5 a2 a4 ag aj ao ap an al h).mono fun e w' ⟨v, he, hv, hq⟩ => ⟨by rw [he, hv], hq⟩

def Q0f.M (c2 b8 bo bt c1 bz bn : Int) (bl : Option Addr) (bf bp : Nat) (c4 b2 bb bq bs bu ba : Int) (bc : Option Addr) (bd b9 : Nat) (br c0 : Int) (cb : Option Addr) (c7 ca : Nat) (c3 : Int) (R : RW) (w : World) : Prop :=
 thenW (w.alloc (.cells #[.int .i64 c2, .int .i64 b8, .int .i64 bo, .int .u64 bt, .int .i64 c1, .int .i64 bz, .int .i64 bn, .slice bl bf bp, .int .u64 c4, .int .i64 b2, .int .i64 bb, .int .u64 bq, .int .i64 bs, .int .i64 bu, .int .i64 ba, .slice bc bd b9, .int .u64 br, .int .i64 c0, .slice cb c7 ca, .int .u64 c3] 30)) fun bx =>
 thenW (bx.alloc (.cells #[.int .i64 0, .int .i64 0, .int .i64 0, .int .u64 0, .int .i64 0, .int .i64 0, .int .i64 0, .slice none 0 0, .int .u64 0, .int .i64 0, .int .i64 0, .int .u64 0, .int .i64 0, .int .i64 0, .int .i64 0, .slice none 0 0, .int .u64 0, .int .i64 0, .slice none 0 0, .int .u64 0] 38)) fun b1 =>
 ∃ (be : Int), b1.cell? ((blk w.heap.size).add 0) = some (.int .i64 be) ∧
 ∃ (ae au b4 bh bi aq : Int) (az : Option Addr) (ar aw : Nat) (bm : Int), cellsAt b1 ((blk w.heap.size).add 1) [.int .i64 ae, .int .i64 au, .int .u64 b4, .int .i64 bh, .int .i64 bi, .int .i64 aq, .slice az ar aw, .int .u64 bm] 0 ∧
 ∃ (ah ap b3 bg bk ax : Int) (b0 : Option Addr) (ay an : Nat) (bj : Int), cellsAt b1 ((blk w.heap.size).add 9) [.int .i64 ah, .int .i64 ap, .int .u64 b3, .int .i64 bg, .int .i64 bk, .int .i64 ax, .slice b0 ay an, .int .u64 bj] 0 ∧
 ∃ (bv : Int), b1.cell? ((blk w.heap.size).add 17) = some (.int .i64 bv) ∧
 ∃ (c9 : Option Addr) (c8 c5 : Nat), b1.cell? ((blk w.heap.size).add 18) = some (.slice c9 c8 c5) ∧
 ∃ (bw : Int), b1.cell? ((blk w.heap.size).add 19) = some (.int .u64 bw) ∧
 putsK b1 (blk bx.heap.size) [.int .i64 be, .int .i64 ae, .int .i64 au, .int .u64 b4, .int .i64 bh, .int .i64 bi, .int .i64 aq, .slice az ar aw, .int .u64 bm, .int .i64 ah, .int .i64 ap, .int .u64 b3, .int .i64 bg, .int .i64 bk, .int .i64 ax, .slice b0 ay an, .int .u64 bj, .int .i64 bv, .slice c9 c8 c5, .int .u64 bw] 0 fun c6 =>
 ∃ (ai a0 aa ad af am a6 : Int) (a5 : Option Addr) (ab a9 : Nat) (ag a1 a3 ac ak aj a4 : Int) (a2 : Option Addr) (a8 a7 : Nat) (al ao : Int) (b5 : Option Addr) (b7 b6 : Nat) (av : Int), cellsAt c6 (blk bx.heap.size) [.int .i64 ai, .int .i64 a0, .int .i64 aa, .int .u64 ad, .int .i64 af, .int .i64 am, .int .i64 a6, .slice a5 ab a9, .int .u64 ag, .int .i64 a1, .int .i64 a3, .int .u64 ac, .int .i64 ak, .int .i64 aj, .int .i64 a4, .slice a2 a8 a7, .int .u64 al, .int .i64 ao, .slice b5 b7 b6, .int .u64 av] 0 ∧
 R (.agg #[.int .i64 ai, .int .i64 a0, .int .i64 aa, .int .u64 ad, .int .i64 af, .int .i64 am, .int .i64 a6, .slice a5 ab a9, .int .u64 ag, .int .i64 a1, .int .i64 a3, .int .u64 ac, .int .i64 ak, .int .i64 aj, .int .i64 a4, .slice a2 a8 a7, .int .u64 al, .int .i64 ao, .slice b5 b7 b6, .int .u64 av]) c6

theorem Q0f.ok (am a6 a8 ae ak ai a7 : Int) (ab : Option Addr) (a9 aa : Nat) (ah a0 a3 ac af ad a1 : Int) (a5 : Option Addr) (a2 a4 : Nat) (ag aj : Int) (ao : Option Addr) (ap an : Nat) (al : Int) {R : RW} {w : World} (h : Q0f.M am a6 a8 ae ak ai a7 ab a9 aa ah a0 a3 ac af ad a1 a5 a2 a4 ag aj ao ap an al R w) : Calls Try.prog 10 #[.agg #[.int .i64 am, .int .i64 a6, .int .i64 a8, .int .u64 ae, .int .i64 ak, .int .i64 ai, .int .i64 a7, .slice ab a9 aa, .int .u64 ah, .int .i64 a0, .int .i64 a3, .int .u64 ac, .int .i64 af, .int .i64 ad, .int .i64 a1, .slice a5 a2 a4, .int .u64 ag, .int .i64 aj, .slice ao ap an, .int .u64 al]] w fun e w' => ∃ v, e = .returned v ∧ R v w' :=
  Q07 follows (H := []) (args := [.agg #[.int .i64 am, .int .i64 a6, .int .i64 a8, .int .u64 ae, .int .i64 ak, .int .i64 ai, .int .i64 a7, .slice ab a9 aa, .int .u64 ah, .int .i64 a0, .int .i64 a3, .int .u64 ac, .int .i64 af, .int .i64 ad, .int .i64 a1, .slice a5 a2 a4, .int .u64 ag, .int .i64 aj, .slice ao ap an, .int .u64 al]]) (cast (by kernel_rfl) h)

def Q0f.N (am a6 a8 ae ak ai a7 : Int) (ab : Option Addr) (a9 aa : Nat) (ah a0 a3 ac af ad a1 : Int) (a5 : Option Addr) (a2 a4 : Nat) (ag aj : Int) (ap : Option Addr) (aq an : Nat) (al : Int) (R : RW) (w : World) : Prop :=
 ∀ (ao : World), Ext no w ao →
 R (.agg #[.int .i64 am, .int .i64 a6, .int .i64 a8, .int .u64 ae, .int .i64 ak, .int .i64 ai, .int .i64 a7, .slice ab a9 aa, .int .u64 ah, .int .i64 a0, .int .i64 a3, .int .u64 ac, .int .i64 af, .int .i64 ad, .int .i64 a1, .slice a5 a2 a4, .int .u64 ag, .int .i64 aj, .slice ap aq an, .int .u64 al]) ao

theorem Q0f.up (ao a6 a8 ae an ak a7 : Int) (ab : Option Addr) (a9 aa : Nat) (aj a0 a3 ac af ad a1 : Int) (a5 : Option Addr) (a2 a4 : Nat) (ag al : Int) (aq : Option Addr) (ar ap : Nat) (am : Int) {R : RW} {w : World} (h : Q0f.N ao a6 a8 ae an ak a7 ab a9 aa aj a0 a3 ac af ad a1 a5 a2 a4 ag al aq ar ap am R w) : Q0f.M ao a6 a8 ae an ak a7 ab a9 aa aj a0 a3 ac af ad a1 a5 a2 a4 ag al aq ar ap am R w := by
  unfold Q0f.M
  unfold Q0f.N at h
  refine Q01 fun b1 b0 => ?_
  have ah := Blk.of_new b0
  have b6 := ((Ext.refl no w)).size
  have au := (Ext.refl no w).x_alloc b0
  refine Q01 fun b3 ay => ?_
  have ai := Blk.of_new ay
  have b4 := (au).size
  have az := Nat.ne_of_lt ah.lt
  have ah := ah.x_alloc ay
  have aw := au.x_alloc ay
  refine ⟨ao, ah.celli 0 rfl rfl, ?_⟩
  refine ⟨a6, a8, ae, an, ak, a7, ab, a9, aa, aj, ⟨ah.celli 1 rfl rfl, ah.celli 2 rfl rfl, ah.celli 3 rfl rfl, ah.celli 4 rfl rfl, ah.celli 5 rfl rfl, ah.celli 6 rfl rfl, ah.celli 7 rfl rfl, ah.celli 8 rfl rfl, trivial⟩, ?_⟩
  refine ⟨a0, a3, ac, af, ad, a1, a5, a2, a4, ag, ⟨ah.celli 9 rfl rfl, ah.celli 10 rfl rfl, ah.celli 11 rfl rfl, ah.celli 12 rfl rfl, ah.celli 13 rfl rfl, ah.celli 14 rfl rfl, ah.celli 15 rfl rfl, ah.celli 16 rfl rfl, trivial⟩, ?_⟩
  refine ⟨al, ah.celli 17 rfl rfl, ?_⟩
  refine ⟨aq, ar, ap, ah.celli 18 rfl rfl, ?_⟩
  refine ⟨am, ah.celli 19 rfl rfl, ?_⟩
  refine Q0F (k := 0) (j := 0) ai (by exact Nat.le_of_ble_eq_true rfl) fun ax b5 b2 => ?_
  have av := aw.x_puts b5 (.inr b4)
  have ai := Q0K b2 rfl
  refine ⟨ao, a6, a8, ae, an, ak, a7, ab, a9, aa, aj, a0, a3, ac, af, ad, a1, a5, a2, a4, ag, al, aq, ar, ap, am, ⟨ai.celli 0 rfl rfl, ai.celli 1 rfl rfl, ai.celli 2 rfl rfl, ai.celli 3 rfl rfl, ai.celli 4 rfl rfl, ai.celli 5 rfl rfl, ai.celli 6 rfl rfl, ai.celli 7 rfl rfl, ai.celli 8 rfl rfl, ai.celli 9 rfl rfl, ai.celli 10 rfl rfl, ai.celli 11 rfl rfl, ai.celli 12 rfl rfl, ai.celli 13 rfl rfl, ai.celli 14 rfl rfl, ai.celli 15 rfl rfl, ai.celli 16 rfl rfl, ai.celli 17 rfl rfl, ai.celli 18 rfl rfl, ai.celli 19 rfl rfl, trivial⟩, ?_⟩
  have h := h ax av
  exact h

theorem Q0f.go (am a6 a8 ae ak ai a7 : Int) (ab : Option Addr) (a9 aa : Nat) (ah a0 a3 ac af ad a1 : Int) (a5 : Option Addr) (a2 a4 : Nat) (ag aj : Int) (ao : Option Addr) (ap an : Nat) (al : Int) {R : RW} {w : World} (h : Q0f.N am a6 a8 ae ak ai a7 ab a9 aa ah a0 a3 ac af ad a1 a5 a2 a4 ag aj ao ap an al R w) : Calls Try.prog 10 #[.agg #[.int .i64 am, .int .i64 a6, .int .i64 a8, .int .u64 ae, .int .i64 ak, .int .i64 ai, .int .i64 a7, .slice ab a9 aa, .int .u64 ah, .int .i64 a0, .int .i64 a3, .int .u64 ac, .int .i64 af, .int .i64 ad, .int .i64 a1, .slice a5 a2 a4, .int .u64 ag, .int .i64 aj, .slice ao ap an, .int .u64 al]] w fun e w' => ∃ v, e = .returned v ∧ R v w' := Q0f.ok am a6 a8 ae ak ai a7 ab a9 aa ah a0 a3 ac af ad a1 a5 a2 a4 ag aj ao ap an al (Q0f.up am a6 a8 ae ak ai a7 ab a9 aa ah a0 a3 ac af ad a1 a5 a2 a4 ag aj ao ap an al h)
theorem Q0f.run (am a6 a8 ae ak ai a7 : Int) (ab : Option Addr) (a9 aa : Nat) (ah a0 a3 ac af ad a1 : Int) (a5 : Option Addr) (a2 a4 : Nat) (ag aj : Int) (ao : Option Addr) (ap an : Nat) (al : Int) {V : Value} {Q : World → Prop} {w : World} (h : Q0f.N am a6 a8 ae ak ai a7 ab a9 aa ah a0 a3 ac af ad a1 a5 a2 a4 ag aj ao ap an al (fun v w' => v = V ∧ Q w') w) : Calls Try.prog 10 #[.agg #[.int .i64 am, .int .i64 a6, .int .i64 a8, .int .u64 ae, .int .i64 ak, .int .i64 ai, .int .i64 a7, .slice ab a9 aa, .int .u64 ah, .int .i64 a0, .int .i64 a3, .int .u64 ac, .int .i64 af, .int .i64 ad, .int .i64 a1, .slice a5 a2 a4, .int .u64 ag, .int .i64 aj, .slice ao ap an, .int .u64 al]] w (Ret V Q) := (Q0f.go am a6 a8 ae ak ai a7 ab a9 aa ah a0 a3 ac af ad a1 a5 a2 a4 ag aj ao ap an al h).mono fun e w' ⟨v, he, hv, hq⟩ => ⟨by rw [he, hv], hq⟩

def Q0e.M (c2 b8 bo bt c1 bz bn : Int) (bl : Option Addr) (bf bp : Nat) (c4 b2 bb bq bs bu ba : Int) (bc : Option Addr) (bd b9 : Nat) (br c0 : Int) (cb : Option Addr) (c7 ca : Nat) (c3 : Int) (R : RW) (w : World) : Prop :=
 thenW (w.alloc (.cells #[.int .i64 c2, .int .i64 b8, .int .i64 bo, .int .u64 bt, .int .i64 c1, .int .i64 bz, .int .i64 bn, .slice bl bf bp, .int .u64 c4, .int .i64 b2, .int .i64 bb, .int .u64 bq, .int .i64 bs, .int .i64 bu, .int .i64 ba, .slice bc bd b9, .int .u64 br, .int .i64 c0, .slice cb c7 ca, .int .u64 c3] 38)) fun bx =>
 thenW (bx.alloc (.cells #[.int .i64 0, .int .i64 0, .int .i64 0, .int .u64 0, .int .i64 0, .int .i64 0, .int .i64 0, .slice none 0 0, .int .u64 0, .int .i64 0, .int .i64 0, .int .u64 0, .int .i64 0, .int .i64 0, .int .i64 0, .slice none 0 0, .int .u64 0, .int .i64 0, .slice none 0 0, .int .u64 0] 30)) fun b1 =>
 ∃ (be : Int), b1.cell? ((blk w.heap.size).add 0) = some (.int .i64 be) ∧
 ∃ (ae au b4 bh bi aq : Int) (az : Option Addr) (ar aw : Nat) (bm : Int), cellsAt b1 ((blk w.heap.size).add 1) [.int .i64 ae, .int .i64 au, .int .u64 b4, .int .i64 bh, .int .i64 bi, .int .i64 aq, .slice az ar aw, .int .u64 bm] 0 ∧
 ∃ (ah ap b3 bg bk ax : Int) (b0 : Option Addr) (ay an : Nat) (bj : Int), cellsAt b1 ((blk w.heap.size).add 9) [.int .i64 ah, .int .i64 ap, .int .u64 b3, .int .i64 bg, .int .i64 bk, .int .i64 ax, .slice b0 ay an, .int .u64 bj] 0 ∧
 ∃ (bv : Int), b1.cell? ((blk w.heap.size).add 17) = some (.int .i64 bv) ∧
 ∃ (c9 : Option Addr) (c8 c5 : Nat), b1.cell? ((blk w.heap.size).add 18) = some (.slice c9 c8 c5) ∧
 ∃ (bw : Int), b1.cell? ((blk w.heap.size).add 19) = some (.int .u64 bw) ∧
 putsK b1 (blk bx.heap.size) [.int .i64 be, .int .i64 ae, .int .i64 au, .int .u64 b4, .int .i64 bh, .int .i64 bi, .int .i64 aq, .slice az ar aw, .int .u64 bm, .int .i64 ah, .int .i64 ap, .int .u64 b3, .int .i64 bg, .int .i64 bk, .int .i64 ax, .slice b0 ay an, .int .u64 bj, .int .i64 bv, .slice c9 c8 c5, .int .u64 bw] 0 fun c6 =>
 ∃ (ai a0 aa ad af am a6 : Int) (a5 : Option Addr) (ab a9 : Nat) (ag a1 a3 ac ak aj a4 : Int) (a2 : Option Addr) (a8 a7 : Nat) (al ao : Int) (b5 : Option Addr) (b7 b6 : Nat) (av : Int), cellsAt c6 (blk bx.heap.size) [.int .i64 ai, .int .i64 a0, .int .i64 aa, .int .u64 ad, .int .i64 af, .int .i64 am, .int .i64 a6, .slice a5 ab a9, .int .u64 ag, .int .i64 a1, .int .i64 a3, .int .u64 ac, .int .i64 ak, .int .i64 aj, .int .i64 a4, .slice a2 a8 a7, .int .u64 al, .int .i64 ao, .slice b5 b7 b6, .int .u64 av] 0 ∧
 R (.agg #[.int .i64 ai, .int .i64 a0, .int .i64 aa, .int .u64 ad, .int .i64 af, .int .i64 am, .int .i64 a6, .slice a5 ab a9, .int .u64 ag, .int .i64 a1, .int .i64 a3, .int .u64 ac, .int .i64 ak, .int .i64 aj, .int .i64 a4, .slice a2 a8 a7, .int .u64 al, .int .i64 ao, .slice b5 b7 b6, .int .u64 av]) c6

theorem Q0e.ok (am a6 a8 ae ak ai a7 : Int) (ab : Option Addr) (a9 aa : Nat) (ah a0 a3 ac af ad a1 : Int) (a5 : Option Addr) (a2 a4 : Nat) (ag aj : Int) (ao : Option Addr) (ap an : Nat) (al : Int) {R : RW} {w : World} (h : Q0e.M am a6 a8 ae ak ai a7 ab a9 aa ah a0 a3 ac af ad a1 a5 a2 a4 ag aj ao ap an al R w) : Calls Try.prog 15 #[.agg #[.int .i64 am, .int .i64 a6, .int .i64 a8, .int .u64 ae, .int .i64 ak, .int .i64 ai, .int .i64 a7, .slice ab a9 aa, .int .u64 ah, .int .i64 a0, .int .i64 a3, .int .u64 ac, .int .i64 af, .int .i64 ad, .int .i64 a1, .slice a5 a2 a4, .int .u64 ag, .int .i64 aj, .slice ao ap an, .int .u64 al]] w fun e w' => ∃ v, e = .returned v ∧ R v w' :=
  Q07 follows (H := []) (args := [.agg #[.int .i64 am, .int .i64 a6, .int .i64 a8, .int .u64 ae, .int .i64 ak, .int .i64 ai, .int .i64 a7, .slice ab a9 aa, .int .u64 ah, .int .i64 a0, .int .i64 a3, .int .u64 ac, .int .i64 af, .int .i64 ad, .int .i64 a1, .slice a5 a2 a4, .int .u64 ag, .int .i64 aj, .slice ao ap an, .int .u64 al]]) (cast (by kernel_rfl) h)

def Q0e.N (am a6 a8 ae ak ai a7 : Int) (ab : Option Addr) (a9 aa : Nat) (ah a0 a3 ac af ad a1 : Int) (a5 : Option Addr) (a2 a4 : Nat) (ag aj : Int) (ap : Option Addr) (aq an : Nat) (al : Int) (R : RW) (w : World) : Prop :=
 ∀ (ao : World), Ext no w ao →
 R (.agg #[.int .i64 am, .int .i64 a6, .int .i64 a8, .int .u64 ae, .int .i64 ak, .int .i64 ai, .int .i64 a7, .slice ab a9 aa, .int .u64 ah, .int .i64 a0, .int .i64 a3, .int .u64 ac, .int .i64 af, .int .i64 ad, .int .i64 a1, .slice a5 a2 a4, .int .u64 ag, .int .i64 aj, .slice ap aq an, .int .u64 al]) ao

theorem Q0e.up (ao a6 a8 ae an ak a7 : Int) (ab : Option Addr) (a9 aa : Nat) (aj a0 a3 ac af ad a1 : Int) (a5 : Option Addr) (a2 a4 : Nat) (ag al : Int) (aq : Option Addr) (ar ap : Nat) (am : Int) {R : RW} {w : World} (h : Q0e.N ao a6 a8 ae an ak a7 ab a9 aa aj a0 a3 ac af ad a1 a5 a2 a4 ag al aq ar ap am R w) : Q0e.M ao a6 a8 ae an ak a7 ab a9 aa aj a0 a3 ac af ad a1 a5 a2 a4 ag al aq ar ap am R w := by
  unfold Q0e.M
  unfold Q0e.N at h
  refine Q01 fun b1 b0 => ?_
  have ah := Blk.of_new b0
  have b6 := ((Ext.refl no w)).size
  have au := (Ext.refl no w).x_alloc b0
  refine Q01 fun b3 ay => ?_
  have ai := Blk.of_new ay
  have b4 := (au).size
  have az := Nat.ne_of_lt ah.lt
  have ah := ah.x_alloc ay
  have aw := au.x_alloc ay
  refine ⟨ao, ah.celli 0 rfl rfl, ?_⟩
  refine ⟨a6, a8, ae, an, ak, a7, ab, a9, aa, aj, ⟨ah.celli 1 rfl rfl, ah.celli 2 rfl rfl, ah.celli 3 rfl rfl, ah.celli 4 rfl rfl, ah.celli 5 rfl rfl, ah.celli 6 rfl rfl, ah.celli 7 rfl rfl, ah.celli 8 rfl rfl, trivial⟩, ?_⟩
  refine ⟨a0, a3, ac, af, ad, a1, a5, a2, a4, ag, ⟨ah.celli 9 rfl rfl, ah.celli 10 rfl rfl, ah.celli 11 rfl rfl, ah.celli 12 rfl rfl, ah.celli 13 rfl rfl, ah.celli 14 rfl rfl, ah.celli 15 rfl rfl, ah.celli 16 rfl rfl, trivial⟩, ?_⟩
  refine ⟨al, ah.celli 17 rfl rfl, ?_⟩
  refine ⟨aq, ar, ap, ah.celli 18 rfl rfl, ?_⟩
  refine ⟨am, ah.celli 19 rfl rfl, ?_⟩
  refine Q0F (k := 0) (j := 0) ai (by exact Nat.le_of_ble_eq_true rfl) fun ax b5 b2 => ?_
  have av := aw.x_puts b5 (.inr b4)
  have ai := Q0K b2 rfl
  refine ⟨ao, a6, a8, ae, an, ak, a7, ab, a9, aa, aj, a0, a3, ac, af, ad, a1, a5, a2, a4, ag, al, aq, ar, ap, am, ⟨ai.celli 0 rfl rfl, ai.celli 1 rfl rfl, ai.celli 2 rfl rfl, ai.celli 3 rfl rfl, ai.celli 4 rfl rfl, ai.celli 5 rfl rfl, ai.celli 6 rfl rfl, ai.celli 7 rfl rfl, ai.celli 8 rfl rfl, ai.celli 9 rfl rfl, ai.celli 10 rfl rfl, ai.celli 11 rfl rfl, ai.celli 12 rfl rfl, ai.celli 13 rfl rfl, ai.celli 14 rfl rfl, ai.celli 15 rfl rfl, ai.celli 16 rfl rfl, ai.celli 17 rfl rfl, ai.celli 18 rfl rfl, ai.celli 19 rfl rfl, trivial⟩, ?_⟩
  have h := h ax av
  exact h

theorem Q0e.go (am a6 a8 ae ak ai a7 : Int) (ab : Option Addr) (a9 aa : Nat) (ah a0 a3 ac af ad a1 : Int) (a5 : Option Addr) (a2 a4 : Nat) (ag aj : Int) (ao : Option Addr) (ap an : Nat) (al : Int) {R : RW} {w : World} (h : Q0e.N am a6 a8 ae ak ai a7 ab a9 aa ah a0 a3 ac af ad a1 a5 a2 a4 ag aj ao ap an al R w) : Calls Try.prog 15 #[.agg #[.int .i64 am, .int .i64 a6, .int .i64 a8, .int .u64 ae, .int .i64 ak, .int .i64 ai, .int .i64 a7, .slice ab a9 aa, .int .u64 ah, .int .i64 a0, .int .i64 a3, .int .u64 ac, .int .i64 af, .int .i64 ad, .int .i64 a1, .slice a5 a2 a4, .int .u64 ag, .int .i64 aj, .slice ao ap an, .int .u64 al]] w fun e w' => ∃ v, e = .returned v ∧ R v w' := Q0e.ok am a6 a8 ae ak ai a7 ab a9 aa ah a0 a3 ac af ad a1 a5 a2 a4 ag aj ao ap an al (Q0e.up am a6 a8 ae ak ai a7 ab a9 aa ah a0 a3 ac af ad a1 a5 a2 a4 ag aj ao ap an al h)
theorem Q0e.run (am a6 a8 ae ak ai a7 : Int) (ab : Option Addr) (a9 aa : Nat) (ah a0 a3 ac af ad a1 : Int) (a5 : Option Addr) (a2 a4 : Nat) (ag aj : Int) (ao : Option Addr) (ap an : Nat) (al : Int) {V : Value} {Q : World → Prop} {w : World} (h : Q0e.N am a6 a8 ae ak ai a7 ab a9 aa ah a0 a3 ac af ad a1 a5 a2 a4 ag aj ao ap an al (fun v w' => v = V ∧ Q w') w) : Calls Try.prog 15 #[.agg #[.int .i64 am, .int .i64 a6, .int .i64 a8, .int .u64 ae, .int .i64 ak, .int .i64 ai, .int .i64 a7, .slice ab a9 aa, .int .u64 ah, .int .i64 a0, .int .i64 a3, .int .u64 ac, .int .i64 af, .int .i64 ad, .int .i64 a1, .slice a5 a2 a4, .int .u64 ag, .int .i64 aj, .slice ao ap an, .int .u64 al]] w (Ret V Q) := (Q0e.go am a6 a8 ae ak ai a7 ab a9 aa ah a0 a3 ac af ad a1 a5 a2 a4 ag aj ao ap an al h).mono fun e w' ⟨v, he, hv, hq⟩ => ⟨by rw [he, hv], hq⟩

def Q03.M (a8 : Option Addr) (a5 a1 a4 : Nat) (a2 a6 : Array Value) (R : RW) (w : World) : Prop :=
 Calls Try.prog 70 #[.slice a8 a5 a1, .func (.func a4) a2 a6] w fun a3 a7 => ∃ (a0 : Int), a3 = .returned (.int .i64 a0) ∧
 R (.bool (decide (a0 ≥ 0))) a7

theorem Q03.ok (a5 : Option Addr) (a3 a0 a2 : Nat) (a1 a4 : Array Value) {R : RW} {w : World} (h : Q03.M a5 a3 a0 a2 a1 a4 R w) : Calls Try.prog 52 #[.slice a5 a3 a0, .func (.func a2) a1 a4] w fun e w' => ∃ v, e = .returned v ∧ R v w' :=
  Q07 follows (H := []) (args := [.slice a5 a3 a0, .func (.func a2) a1 a4]) (cast (by kernel_rfl) h)

def Q03.N (a8 : Option Addr) (a5 a1 a4 : Nat) (a2 a6 : Array Value) (R : RW) (w : World) : Prop :=
 Calls Try.prog 70 #[.slice a8 a5 a1, .func (.func a4) a2 a6] w fun a3 a7 => ∃ (a0 : Int), a3 = .returned (.int .i64 a0) ∧
 R (.bool (decide (a0 ≥ 0))) a7

theorem Q03.up (a6 : Option Addr) (a5 a1 a4 : Nat) (a2 a3 : Array Value) {R : RW} {w : World} (h : Q03.N a6 a5 a1 a4 a2 a3 R w) : Q03.M a6 a5 a1 a4 a2 a3 R w := by
  unfold Q03.M
  unfold Q03.N at h
  refine h.mono fun a7 a8 h => ?_
  obtain ⟨a0, he, h⟩ := h
  refine ⟨a0, he, ?_⟩
  exact h

theorem Q03.go (a5 : Option Addr) (a3 a0 a2 : Nat) (a1 a4 : Array Value) {R : RW} {w : World} (h : Q03.N a5 a3 a0 a2 a1 a4 R w) : Calls Try.prog 52 #[.slice a5 a3 a0, .func (.func a2) a1 a4] w fun e w' => ∃ v, e = .returned v ∧ R v w' := Q03.ok a5 a3 a0 a2 a1 a4 (Q03.up a5 a3 a0 a2 a1 a4 h)
theorem Q03.run (a5 : Option Addr) (a3 a0 a2 : Nat) (a1 a4 : Array Value) {V : Value} {Q : World → Prop} {w : World} (h : Q03.N a5 a3 a0 a2 a1 a4 (fun v w' => v = V ∧ Q w') w) : Calls Try.prog 52 #[.slice a5 a3 a0, .func (.func a2) a1 a4] w (Ret V Q) := (Q03.go a5 a3 a0 a2 a1 a4 h).mono fun e w' ⟨v, he, hv, hq⟩ => ⟨by rw [he, hv], hq⟩

def Q05.M (ae : Option Addr) (ac af a6 : Nat) (aa ad : Array Value) (R : RW) (w : World) : Prop :=
 ∃ (I0 : Nat → List Value → World → Prop) (m4 : Nat), I0 m4 [.int .i64 0] w ∧ ∀ (m5 : Nat) (a2 : World) (t3 : Int), I0 m5 [.int .i64 t3] a2 →
 bif decide (t3 < (ac : Int)) then (
 ae.elim False fun a7 =>
 0 ≤ (t3 : Int) ∧ (t3 : Int) < (ac : Int) ∧
 ∃ (a5 : Option Addr) (a3 a4 : Nat), a2.cell? (a7.add (Int.toNat t3 * 1)) = some (.slice a5 a3 a4) ∧
 bif enters Try.prog a6 then Calls Try.prog a6 (aa.toList ++ ([.slice a5 a3 a4] : List Value) ++ ad.toList).toArray a2 (fun a8 a1 => ∃ (r9 : Bool), a8 = .returned (.bool r9) ∧
 bif r9 then (
 R (.int .i64 t3) a1) else (
 ∃ a9, a9 < m5 ∧ I0 a9 [.int .i64 (IntKind.i64.wrap (t3 + 1))] a1)) else (∃ (r9 : Bool) (a0 : World), (Q1T a6 (aa.toList ++ ([.slice a5 a3 a4] : List Value) ++ ad.toList).toArray).run Try.prog a2 = .ok (.bool r9) a0 ∧
 bif r9 then (
 R (.int .i64 t3) a0) else (
 ∃ ab, ab < m5 ∧ I0 ab [.int .i64 (IntKind.i64.wrap (t3 + 1))] a0))) else (
 R (.int .i64 (-1)) a2)

theorem Q05.ok (a5 : Option Addr) (a3 a0 a2 : Nat) (a1 a4 : Array Value) {R : RW} {w : World} (h : Q05.M a5 a3 a0 a2 a1 a4 R w) : Calls Try.prog 70 #[.slice a5 a3 a0, .func (.func a2) a1 a4] w fun e w' => ∃ v, e = .returned v ∧ R v w' :=
  Q07 follows (H := [(0, [0, 1, 7], [(8, (.one (.int .i64)))])]) (args := [.slice a5 a3 a0, .func (.func a2) a1 a4]) (cast (by kernel_rfl) h)

def Q05.N (ad : Option Addr) (a7 ae aa : Nat) (ab ac : Array Value) (R : RW) (w : World) : Prop :=
 ∃ (I0 : Nat → List Value → World → Prop) (m4 : Nat), I0 m4 [.int .i64 0] w ∧ ∀ (m5 : Nat) (a4 : World) (t3 : Int), I0 m5 [.int .i64 t3] a4 →
 (t3 < (a7 : Int) →
 ∃ a8 : Addr, ad = some a8 ∧
 0 ≤ (t3 : Int) ∧ (t3 : Int) < (a7 : Int) ∧
 ∃ (a1 : Option Addr) (a2 a3 : Nat), a4.cell? (a8.add (Int.toNat t3 * 1)) = some (.slice a1 a2 a3) ∧
 enters Try.prog aa = true ∧ Calls Try.prog aa (ab.toList ++ ([.slice a1 a2 a3] : List Value) ++ ac.toList).toArray a4 (fun a6 a0 => ∃ (a5 : Bool), a6 = .returned (.bool a5) ∧
 (a5 = true →
 R (.int .i64 t3) a0) ∧
 (a5 = false →
 (-9223372036854775808 : Int) ≤ (t3 + 1) ∧ (t3 + 1) < 9223372036854775808 ∧
 ∃ a9, a9 < m5 ∧ I0 a9 [.int .i64 (t3 + 1)] a0))) ∧
 ((a7 : Int) ≤ t3 →
 R (.int .i64 (-1)) a4)

theorem Q05.up (aa : Option Addr) (a4 a6 a5 : Nat) (a7 a9 : Array Value) {R : RW} {w : World} (h : Q05.N aa a4 a6 a5 a7 a9 R w) : Q05.M aa a4 a6 a5 a7 a9 R w := by
  unfold Q05.M
  unfold Q05.N at h
  obtain ⟨I0, m4, h0, h⟩ := h
  refine ⟨I0, m4, h0, fun m5 ak t3 hI => ?_⟩
  have h := h m5 ak t3 hI
  refine bif_fo (fun c7 => ?_) (fun c7 => ?_)
  ·have h := h.2 (Int.not_lt.1 (of_decide_eq_false c7))
   exact h
  have h := h.1 (of_decide_eq_true c7)
  obtain ⟨a8, ac, h⟩ := h
  refine Q0z ac ?_
  obtain ⟨ad, ah, h⟩ := h
  refine ⟨ad, ah, ?_⟩
  obtain ⟨a3, a0, a1, af, h⟩ := h
  refine ⟨a3, a0, a1, af, ?_⟩
  obtain ⟨hen, h⟩ := h
  refine bif_tt hen ?_
  refine h.mono fun ae ab h => ?_
  obtain ⟨al, he, h⟩ := h
  refine ⟨al, he, ?_⟩
  refine bif_of (fun a2 => ?_) (fun a2 => ?_)
  ·have h := h.1 a2
   exact h
  have h := h.2 a2
  obtain ⟨ag, ai, h⟩ := h
  try rw [w64 ag ai]
  obtain ⟨aj, hk, h⟩ := h
  exact ⟨aj, hk, h⟩

theorem Q05.go (a5 : Option Addr) (a3 a0 a2 : Nat) (a1 a4 : Array Value) {R : RW} {w : World} (h : Q05.N a5 a3 a0 a2 a1 a4 R w) : Calls Try.prog 70 #[.slice a5 a3 a0, .func (.func a2) a1 a4] w fun e w' => ∃ v, e = .returned v ∧ R v w' := Q05.ok a5 a3 a0 a2 a1 a4 (Q05.up a5 a3 a0 a2 a1 a4 h)
def Q0r.M (a1 : Option Addr) (a0 a2 : Nat) (R : RW) (w : World) : Prop :=
 R (.bool (decide ((a0 : Int) > 4000))) w

theorem Q0r.ok (a1 : Option Addr) (a0 a2 : Nat) {R : RW} {w : World} (h : Q0r.M a1 a0 a2 R w) : Calls Try.prog 53 #[.slice a1 a0 a2] w fun e w' => ∃ v, e = .returned v ∧ R v w' :=
  Q07 follows (H := []) (args := [.slice a1 a0 a2]) (cast (by kernel_rfl) h)

def Q0r.N (a1 : Option Addr) (a0 a2 : Nat) (R : RW) (w : World) : Prop :=
 R (.bool (decide ((a0 : Int) > 4000))) w

theorem Q0r.up (a1 : Option Addr) (a0 a2 : Nat) {R : RW} {w : World} (h : Q0r.N a1 a0 a2 R w) : Q0r.M a1 a0 a2 R w := by
  unfold Q0r.M
  unfold Q0r.N at h
  exact h

theorem Q0r.go (a1 : Option Addr) (a0 a2 : Nat) {R : RW} {w : World} (h : Q0r.N a1 a0 a2 R w) : Calls Try.prog 53 #[.slice a1 a0 a2] w fun e w' => ∃ v, e = .returned v ∧ R v w' := Q0r.ok a1 a0 a2 (Q0r.up a1 a0 a2 h)
theorem Q0r.run (a1 : Option Addr) (a0 a2 : Nat) {V : Value} {Q : World → Prop} {w : World} (h : Q0r.N a1 a0 a2 (fun v w' => v = V ∧ Q w') w) : Calls Try.prog 53 #[.slice a1 a0 a2] w (Ret V Q) := (Q0r.go a1 a0 a2 h).mono fun e w' ⟨v, he, hv, hq⟩ => ⟨by rw [he, hv], hq⟩
set_option maxRecDepth 20000
open W (OwnB Rd numR countR doneR)
section
variable {w w' : World} {x y : FP} {a b : Option Addr} {c d : Nat} {hs gs : List Hd}
def FP.ofE (e : Ent) (a : Option Addr) (c : Nat) : FP := ⟨⟨1, e, Ent.zero, 0, [], 0⟩, a, c, none, 0, none, 0⟩
theorem Q3c (e : Ent) (a : Option Addr) (c : Nat) : Calls Try.prog 20 #[entV e a c] w (Ret (FP.ofE e a c).V fun w' => Ext no w w') := by
  refine Q0x.run e.w e.i e.pv e.t e.tw e.ep a e.body.length c e.sg ?_
  unfold Q0x.N
  exact fun w2 X => ⟨rfl, X⟩
def frLight (r : Fr) : Bool := decide (r.e.body.length ≤ 1500 ∧ r.f.body.length ≤ 1500 ∧ r.v.length ≤ 30)
theorem Q2U (x : FP) : Calls Try.prog 7 #[x.V] w (Ret (.bool (frLight x.r)) fun w' => Ext no w w') := by
  obtain ⟨⟨kd, e, f, who, v, sg⟩, ea, ec, fa, fc, va, vc⟩ := x
  refine Q0a.run kd e.w e.i e.pv e.t e.tw e.ep ea e.body.length ec e.sg f.w f.i f.pv f.t f.tw f.ep fa f.body.length fc f.sg who va v.length vc sg ?_
  unfold Q0a.N
  have leaf : ∀ {b : Bool} {w2 : World}, (b = true ↔ (e.body.length ≤ 1500 ∧ f.body.length ≤ 1500 ∧ v.length ≤ 30)) → Ext no w w2 → Value.bool b = Value.bool (frLight ⟨kd, e, f, who, v, sg⟩) ∧ Ext no w w2 := fun {b} {w2} h X => ⟨by
    congr 1
    rw [Bool.eq_iff_iff, h]
    unfold frLight; rw [decide_eq_true_eq], X⟩
  refine ⟨fun h1 => ⟨fun h2 w2 X => leaf ?_ X, fun h2 w2 X => leaf ?_ X⟩, fun h1 w2 X => leaf ?_ X⟩
  · rw [decide_eq_true_eq]; omega
  · constructor
    · intro h; cases h
    · intro h; omega
  · constructor
    · intro h; cases h
    · intro h; omega
theorem Q3P (x : FP) : Calls Try.prog 10 #[x.V] w (Ret x.V fun w' => Ext no w w') := by
  obtain ⟨⟨kd, e, f, who, v, sg⟩, ea, ec, fa, fc, va, vc⟩ := x
  refine Q0f.run kd e.w e.i e.pv e.t e.tw e.ep ea e.body.length ec e.sg f.w f.i f.pv f.t f.tw f.ep fa f.body.length fc f.sg who va v.length vc sg ?_
  unfold Q0f.N
  exact fun w2 X => ⟨rfl, X⟩
theorem Q17 (x : FP) : Calls Try.prog 15 #[x.V] w (Ret x.V fun w' => Ext no w w') := by
  obtain ⟨⟨kd, e, f, who, v, sg⟩, ea, ec, fa, fc, va, vc⟩ := x
  refine Q0e.run kd e.w e.i e.pv e.t e.tw e.ep ea e.body.length ec e.sg f.w f.i f.pv f.t f.tw f.ep fa f.body.length fc f.sg who va v.length vc sg ?_
  unfold Q0e.N
  exact fun w2 X => ⟨rfl, X⟩
end
/-! ### many parts as one -/
def encB (b : List UInt8) : List UInt8 := numL b.length ++ b
def joinL (l : List (List UInt8)) : List UInt8 := numL l.length ++ l.flatMap encB
def bigs (l : List (List UInt8)) : Bool := l.any fun b => decide (b.length > 4000)
def joinK (l : List (List UInt8)) : List UInt8 × Int := if l.length > 1000 ∨ bigs l = true then ([], 3) else (joinL l, 0)
def joinT (l : List (List UInt8)) (t : Nat) : List UInt8 := numL l.length ++ (l.take t).flatMap encB
theorem Q4a (l : List (List UInt8)) : joinT l l.length = joinL l := by unfold joinT joinL; rw [List.take_length]
theorem Q3q (l : List (List UInt8)) (t : Nat) : (joinT l t).length ≤ (joinL l).length := by
  have e : l.flatMap encB = (l.take t).flatMap encB ++ (l.drop t).flatMap encB := by rw [← List.flatMap_append, List.take_append_drop]
  unfold joinT joinL
  rw [e]
  simp only [List.length_append]; omega
theorem Q3N {l : List (List UInt8)} {t : Nat} {x : List UInt8} (h : l[t]? = some x) : joinT l (t + 1) = joinT l t ++ encB x := by
  unfold joinT
  rw [List.take_add_one, h]
  simp
structure BsAt (w : World) (a : Option Addr) (c : Nat) (l : List BS) : Prop where
  row : RowAt w a (l.map BS.v)
  oks : ∀ x ∈ l, RowAt w x.a (bytesV x.bs) ∧ x.bs.length ≤ x.c
  le : l.length ≤ c
section
variable {w w' : World} {x y : FP} {a b : Option Addr} {c d : Nat} {l : List BS}
theorem BsAt.no (h : BsAt w a c l) (X : Ext no w w') : BsAt w' a c l := ⟨h.row.no X, fun x hx => ⟨(h.oks x hx).1.no X, (h.oks x hx).2⟩, h.le⟩
theorem BsAt.cell (h : BsAt w a c l) {i : Nat} {x : BS} (hi : l[i]? = some x) : ∃ ad, a = some ad ∧ w.cell? (ad.add (i * 1)) = some (.slice x.a x.bs.length x.c) := by
  obtain ⟨ad, ha, hc⟩ := h.row i x.v (by rw [List.getElem?_map, hi]; rfl)
  exact ⟨ad, ha, by rw [Nat.mul_one]; exact hc⟩
theorem Q3O (x : BS) : Calls Try.prog 53 #[.slice x.a x.bs.length x.c] w (Ret (.bool (decide (x.bs.length > 4000))) fun w' => w' = w) := by
  refine Q0r.run _ _ _ ?_
  unfold Q0r.N
  exact ⟨by rw [show decide ((x.bs.length : Int) > 4000) = decide (x.bs.length > 4000) by rw [decide_eq_decide]; omega], rfl⟩
theorem Q3u {l : List BS} : bigs (l.map BS.bs) = true ↔ ∃ x ∈ l, x.bs.length > 4000 := by
  unfold bigs
  rw [List.any_eq_true]
  constructor
  · rintro ⟨b, hb, h⟩
    obtain ⟨x, hx, rfl⟩ := List.mem_map.1 hb
    exact ⟨x, hx, of_decide_eq_true h⟩
  · rintro ⟨x, hx, h⟩
    exact ⟨_, List.mem_map.2 ⟨x, hx, rfl⟩, decide_eq_true h⟩
theorem Q4C {l : List BS} (h : ∀ (i : Nat) (x : BS), l[i]? = some x → x.bs.length ≤ 4000) : bigs (l.map BS.bs) = false := by
  cases hb : bigs (l.map BS.bs) with
  | false => rfl
  | true =>
    obtain ⟨x, hx, hl⟩ := Q3u.1 hb
    obtain ⟨i, hi⟩ := List.mem_iff_getElem?.1 hx
    have := h i x hi
    omega
theorem Q3f (h : BsAt w a c l) (hl : l.length < 1000000) :
    Calls Try.prog 70 #[.slice a l.length c, .func (.func 53) #[] #[]] w fun e w' => ∃ i : Int, e = .returned (.int .i64 i) ∧ decide (i ≥ 0) = bigs (l.map BS.bs) ∧ w' = w := by
  refine (Q05.go a l.length c _ _ _ (R := fun v w' => ∃ i : Int, v = .int .i64 i ∧ decide (i ≥ 0) = bigs (l.map BS.bs) ∧ w' = w) ?_).mono fun e w' ⟨v, he, i, hv, hw⟩ => ⟨i, by rw [he, hv], hw⟩
  unfold Q05.N
  refine ⟨fun m vs w1 => ∃ t : Nat, vs = [.int .i64 t] ∧ m + t = l.length ∧ w1 = w ∧ ∀ i x, i < t → l[i]? = some x → x.bs.length ≤ 4000, l.length, ⟨0, rfl, rfl, rfl, fun i x h => absurd h (by omega)⟩, ?_⟩
  rintro m w6 i ⟨t, hi, hm, rfl, hn⟩
  simp only [List.cons.injEq, Value.int.injEq, true_and, and_true] at hi
  subst hi
  refine ⟨fun ht => ?_, fun ht => ?_⟩
  · have htl : t < l.length := by omega
    have hg : l[t]? = some l[t] := List.getElem?_eq_getElem htl
    generalize l[t] = x at *
    obtain ⟨ad, ha, hc⟩ := h.cell hg
    refine ⟨ad, ha, by omega, by omega, x.a, x.bs.length, x.c, by rw [Int.toNat_natCast]; exact hc, by kernel_rfl, ?_⟩
    refine Calls.mono (Q3O x) fun u w14 ⟨he, hw⟩ => ⟨_, he, fun hy => ?_, fun hno => ⟨by omega, by omega, m - 1, by omega, t + 1, rfl, by omega, hw, fun i y hi hy => ?_⟩⟩
    · refine ⟨_, rfl, ?_, hw⟩
      rw [Q3u.2 ⟨x, List.mem_of_getElem? hg, of_decide_eq_true hy⟩, decide_eq_true (by omega)]
    · by_cases hit : i = t
      · subst hit
        rw [hg] at hy
        cases hy
        have := of_decide_eq_false hno
        omega
      · exact hn i y (by omega) hy
  · refine ⟨_, rfl, ?_, rfl⟩
    rw [Q4C fun i x hx => hn i x (by have := (List.getElem?_eq_some_iff.1 hx).1; omega) hx]; rfl
theorem Q2O (h : BsAt w a c l) (hl : l.length < 1000000) :
    Calls Try.prog 52 #[.slice a l.length c, .func (.func 53) #[] #[]] w (Ret (.bool (bigs (l.map BS.bs))) fun w' => w' = w) := by
  refine Q03.run _ _ _ _ _ _ ?_
  unfold Q03.N
  exact (Q3f h hl).mono fun e w' ⟨i, he, hi, hw⟩ => ⟨i, he, by rw [hi], hw⟩
theorem Q3E (h : BsAt w a c l) (hl : l.length < 1000000) (hz : l.length ≤ 1000 → bigs (l.map BS.bs) = false → (joinL (l.map BS.bs)).length ≤ 900000) :
    Calls Try.prog 21 #[.slice a l.length c] w (fun e w' => ∃ a' c', e = .returned (.tuple #[.slice a' (joinK (l.map BS.bs)).1.length c', .int .i64 (joinK (l.map BS.bs)).2]) ∧ OwnB w.heap.size w' a' c' (joinK (l.map BS.bs)).1 ∧ Ext no w w') := by
  refine (Q0C.go a l.length c (R := fun v w' => ∃ a' c', v = (.tuple #[.slice a' (joinK (l.map BS.bs)).1.length c', .int .i64 (joinK (l.map BS.bs)).2]) ∧ OwnB w.heap.size w' a' c' (joinK (l.map BS.bs)).1 ∧ Ext no w w') ?_).mono fun e w' ⟨v, he, a', c', hv, hw⟩ => ⟨a', c', by rw [he, hv], hw⟩
  unfold Q0C.N
  have leaf : ∀ {w2 : World}, joinK (l.map BS.bs) = ([], 3) → Ext no w w2 → ∃ a' c', (.tuple #[.slice none 0 0, .int .i64 3] : Value) = (.tuple #[.slice a' (joinK (l.map BS.bs)).1.length c', .int .i64 (joinK (l.map BS.bs)).2]) ∧ OwnB w.heap.size w2 a' c' (joinK (l.map BS.bs)).1 ∧ Ext no w w2 := fun {w2} e X => by
    rw [e]; exact ⟨none, 0, rfl, OwnB.nil _ _, X⟩
  refine ⟨fun hg => leaf (by unfold joinK; rw [if_pos (.inl (by rw [List.length_map]; omega))]) (Ext.refl _ _), fun hg => ?_⟩
  refine (Q2O h hl).mono fun u w5 ⟨he, hw⟩ => ⟨_, he, fun hb => leaf (by unfold joinK; rw [if_pos (.inr hb)]) (by rw [hw]; exact Ext.refl _ _), fun hb => ?_⟩
  subst hw
  have hk : joinK (l.map BS.bs) = (joinL (l.map BS.bs), 0) := by unfold joinK; rw [if_neg (by rw [List.length_map, hb]; simp; omega)]
  rw [hk]
  have hz := hz (by omega) hb
  rw [wu64 (n := (l.length : Int)) (by omega) (by omega)]
  refine (W.Num_spec (bs := []) (c := 0) (RowAt.nil _ _) (by simp) (n := l.length) (by omega)).mono fun u w9 ⟨a1, c1, he, hO1, X9⟩ => ⟨a1, _, c1, he, ?_⟩
  have e0 : joinT (l.map BS.bs) 0 = [] ++ numL l.length := by unfold joinT; simp
  refine ⟨fun m vs w1 => ∃ (t : Nat) (a1 : Option Addr) (c1 : Nat), vs = [.slice a1 (joinT (l.map BS.bs) t).length c1, .int .i64 t] ∧ m + t = l.length ∧ OwnB w5.heap.size w1 a1 c1 (joinT (l.map BS.bs) t) ∧ Ext no w5 w1, l.length, ⟨0, a1, c1, by rw [e0]; rfl, rfl, by rw [e0]; exact hO1, X9⟩, ?_⟩
  rintro m w14 ba bn bc i ⟨t, a2, c2, hv, hm, hO, X⟩
  simp only [List.cons.injEq, Value.slice.injEq, Value.int.injEq, true_and, and_true] at hv
  obtain ⟨⟨rfl, rfl, rfl⟩, rfl⟩ := hv
  have hlt := Q3q (l.map BS.bs) t
  refine ⟨fun ht => ?_, fun ht => ?_⟩
  · have htl : t < l.length := by omega
    have hg : l[t]? = some l[t] := List.getElem?_eq_getElem htl
    generalize l[t] = x at *
    have h14 := h.no X
    obtain ⟨ad, ha, hc⟩ := h14.cell hg
    obtain ⟨hx1, hx2⟩ := h14.oks x (List.mem_of_getElem? hg)
    have hm2 : (l.map BS.bs)[t]? = some x.bs := by rw [List.getElem?_map, hg]; rfl
    have est := Q3N hm2
    have hlt2 := Q3q (l.map BS.bs) (t + 1)
    rw [est] at hlt2
    unfold encB at est hlt2
    simp only [List.length_append] at hlt2
    refine ⟨ad, ha, by omega, by omega, x.a, x.bs.length, x.c, by rw [Int.toNat_natCast]; exact hc, ?_⟩
    refine (W.Bytes_spec hO.row (by omega) hx1 (by omega)).mono fun u w21 ⟨a3, c3, he, hO3, X21⟩ => ⟨a3, _, c3, he, by omega, by omega, m - 1, by omega, t + 1, a3, c3, ?_, by omega, ?_, X.trans X21⟩
    · rw [est, List.append_assoc]; rfl
    · rw [est, ← List.append_assoc]; exact OwnB.up hO3 X.size
  · obtain rfl : t = l.length := by omega
    rw [show l.length = (l.map BS.bs).length by rw [List.length_map], Q4a] at hO ⊢
    exact ⟨ba, bc, rfl, hO, X⟩
theorem Q33 (w : World) : Calls Try.prog 8 #[] w (Ret (.bool true) fun w' => Ext no w w') := by
  refine Q08.run ?_
  unfold Q08.N
  intro w1 q2 X1 hb1 hq1 hq1'
  obtain ⟨w4, hr4, hrow4, X4⟩ := litB Try.underlying25 Try.underlying5 [97] X1 hb1 hq1
  refine ⟨_, _, _, w4, hr4, fun w5 q6 X5 hb5 hq6 hq6' => ?_⟩
  have hJ : joinK [[97], []] = ([2, 1, 97, 0], 0) := by decide
  have hat : BsAt w5 (some (blk q6)) 2 [⟨some (blk q2), 1, [97]⟩, ⟨none, 0, []⟩] := ⟨RowAt.of_blk hb5, fun x hx => by
    simp only [List.mem_cons, List.not_mem_nil, or_false] at hx
    rcases hx with rfl | rfl
    · exact ⟨hrow4.no X5, Nat.le_refl _⟩
    · exact ⟨RowAt.nil _ _, Nat.le_refl _⟩, Nat.le_refl _⟩
  refine (Q3E hat (show (2 : Nat) < 1000000 by decide) (fun _ _ => show (joinL [[97], []]).length ≤ 900000 by decide)).mono fun u w10 ⟨a1, c1, he, hO, X10⟩ => ?_
  rw [show ([⟨some (blk q2), 1, [97]⟩, ⟨none, 0, []⟩] : List BS).map BS.bs = [[97], []] from rfl, hJ] at he hO
  refine ⟨_, _, _, _, he, fun w11 q12 X11 hb11 hq12 hq12' => ?_⟩
  have Y10 := (X4.trans X5).trans X10
  obtain ⟨w14, hr14, hrow14, X14⟩ := litB Try.underlying25 Try.underlying5 [120] X11 hb11 hq12
  refine ⟨_, _, _, w14, hr14, fun w16 X16 => ?_⟩
  have hE : frOK ⟨1, ⟨1, 0, 0, 5, 1, 0, [120], 9⟩, Ent.zero, 0, [], 0⟩ = true := by decide
  have hf : Fr.fit ⟨1, ⟨1, 0, 0, 5, 1, 0, [120], 9⟩, Ent.zero, 0, [], 0⟩ := ⟨⟨by decide, by decide, by decide, by decide⟩, Q1w, fun _ h => (by cases h), by decide⟩
  have hL : frL ⟨1, ⟨1, 0, 0, 5, 1, 0, [120], 9⟩, Ent.zero, 0, [], 0⟩ = [1, 9, 1, 0, 0, 10, 1, 0, 1, 120, 9] := by decide
  have hK : frK ⟨1, ⟨1, 0, 0, 5, 1, 0, [120], 9⟩, Ent.zero, 0, [], 0⟩ = ([1, 9, 1, 0, 0, 10, 1, 0, 1, 120, 9], 0) := by unfold frK; rw [hE, hL]; rfl
  have Y16 := (Y10.trans X14).trans X16
  refine (Q3c ⟨1, 0, 0, 5, 1, 0, [120], 9⟩ (some (blk q12)) 1).mono fun u w39 ⟨he, X39⟩ => ⟨_, _, _, _, _, _, _, _, _, _, _, _, _, _, _, _, _, _, _, _, _, _, _, _, _, _, he, ?_⟩
  have hat2 : (FP.ofE ⟨1, 0, 0, 5, 1, 0, [120], 9⟩ (some (blk q12)) 1).at w39 := ⟨(hrow14.no X16).no X39, RowAt.nil _ _, RowAt.nil _ _⟩
  refine (Q0S hat2 hf (show (0 : Nat) ≤ 1000 by decide)).mono fun u w43 ⟨a2, c2, he, hO2, X43⟩ => ?_
  rw [show (FP.ofE ⟨1, 0, 0, 5, 1, 0, [120], 9⟩ (some (blk q12)) 1).r = ⟨1, ⟨1, 0, 0, 5, 1, 0, [120], 9⟩, Ent.zero, 0, [], 0⟩ from rfl, hK] at he hO2
  refine ⟨_, _, _, _, he, ?_⟩
  have hrd := Q1Z hE hf (by rw [hL]; decide)
  rw [hL] at hrd
  refine (Q0O hO2.row hO2.le).mono fun u w66 ⟨x', he, hx, hxa, X66⟩ => ?_
  rw [hrd] at he hx
  refine ⟨_, _, _, _, _, _, _, _, _, _, _, _, _, _, _, _, _, _, _, _, _, _, _, _, _, _, _, he, fun _ => ?_, fun h => absurd rfl h⟩
  intro w70 q71 p72 X70 hb70 hq70 hq70' hp
  have Y := (((Y16.trans X39).trans X43).trans X66).trans X70
  have hOr : RowAt w70 a1 (bytesV [2, 1, 97, 0]) := hO.row.no (((((X14.trans X16).trans X39).trans X43).trans X66).trans X70)
  refine (W.sameB_spec (x := [2, 1, 97, 0]) (y := [2, 1, 97, 0]) (d := 4) hOr (RowAt.of_blk hb70) (by decide)).mono fun u w75 ⟨he, X75⟩ => ⟨_, he, X75.kept, fun _ => ⟨fun _ => ⟨fun _ => ⟨fun _ => ⟨?_, Y.trans X75⟩, fun h => absurd (by rw [hx]) h⟩, fun h => absurd rfl h⟩, fun h => absurd rfl h⟩, fun h => ?_⟩
  · rw [hx]; rfl
  · simp at h
end
structure Ent.wide (e : Ent) : Prop where
  w : -9223372036854775808 ≤ e.w ∧ e.w < 9223372036854775808
  i : -9223372036854775808 ≤ e.i ∧ e.i < 9223372036854775808
  t : -9223372036854775808 ≤ e.t ∧ e.t < 9223372036854775808
  tw : -9223372036854775808 ≤ e.tw ∧ e.tw < 9223372036854775808
  ep : -9223372036854775808 ≤ e.ep ∧ e.ep < 9223372036854775808
def EntQ (W : World) (cs : List Value) : Prop := ∃ (e : Ent) (a : Option Addr) (c : Nat), cs = entC e a c ∧ e.fit ∧ e.wide ∧ e.body.length ≤ c ∧ c ≤ maxLen ∧ RowAt W a (bytesV e.body)
theorem list8 {α : Type} : ∀ {l : List α}, l.length = 8 → ∃ a b c d e f g h, l = [a, b, c, d, e, f, g, h]
  | [a, b, c, d, e, f, g, h], _ => ⟨a, b, c, d, e, f, g, h, rfl⟩
theorem Q2M : Try.prog.cellsOf 27 = 8 := by kernel_rfl
theorem Q1j : Try.prog.cellsOf 24 = 2 := by kernel_rfl
theorem Q2c : Opens Try.prog 27 EntQ := (Q1e Try.underlying27 Q2M).mono fun W cs ⟨hl, hf⟩ => by
  obtain ⟨c0, c1, c2, c3, c4, c5, c6, c7, rfl⟩ := list8 hl
  have e0 : ∃ n, (([c0, c1, c2, c3, c4, c5, c6, c7] : List Value).drop 0).take (Try.prog.cellsOf 3) = [.int .i64 n] ∧ _ := hf 0 _ rfl _ (Q0M Try.underlying3)
  have e1 : ∃ n, (([c0, c1, c2, c3, c4, c5, c6, c7] : List Value).drop 1).take (Try.prog.cellsOf 3) = [.int .i64 n] ∧ _ := hf 1 _ rfl _ (Q0M Try.underlying3)
  have e2 : ∃ n, (([c0, c1, c2, c3, c4, c5, c6, c7] : List Value).drop 2).take (Try.prog.cellsOf 22) = [.int .u64 n] ∧ _ := hf 2 _ rfl _ (Q0M Try.underlying22)
  have e3 := hf 3 _ rfl _ (Q1e Try.underlying24 Q1j)
  change (((([c0, c1, c2, c3, c4, c5, c6, c7] : List Value).drop 3).take (Try.prog.cellsOf 24)).length = 2 ∧ _) at e3
  have e4 : ∃ n, (([c0, c1, c2, c3, c4, c5, c6, c7] : List Value).drop 5).take (Try.prog.cellsOf 3) = [.int .i64 n] ∧ _ := hf 4 _ rfl _ (Q0M Try.underlying3)
  have e5 : BytesQ W ((([c0, c1, c2, c3, c4, c5, c6, c7] : List Value).drop 6).take (Try.prog.cellsOf 25)) := hf 5 _ rfl _ (Q3i Try.underlying25 (by kernel_rfl) Try.underlying5)
  have e6 : ∃ n, (([c0, c1, c2, c3, c4, c5, c6, c7] : List Value).drop 7).take (Try.prog.cellsOf 22) = [.int .u64 n] ∧ _ := hf 6 _ rfl _ (Q0M Try.underlying22)
  have o1 : Try.prog.cellsOf 3 = 1 := by kernel_rfl
  have o2 : Try.prog.cellsOf 22 = 1 := by kernel_rfl
  have o3 : Try.prog.cellsOf 25 = 1 := by kernel_rfl
  have o4 : Try.prog.cellsOf 2 = 1 := by kernel_rfl
  simp only [o1, o2, o3, Q1j, List.drop_zero, List.drop_succ_cons, List.take_succ_cons, List.take_zero] at e0 e1 e2 e4 e5 e6
  obtain ⟨_, hs⟩ := e3
  have s0 : ∃ n, ((((([c0, c1, c2, c3, c4, c5, c6, c7] : List Value).drop 3).take (Try.prog.cellsOf 24)).drop 0).take (Try.prog.cellsOf 2)) = [.int .i64 n] ∧ _ := hs 0 _ rfl _ (Q0M Try.underlying2)
  have s1 : ∃ n, ((((([c0, c1, c2, c3, c4, c5, c6, c7] : List Value).drop 3).take (Try.prog.cellsOf 24)).drop 1).take (Try.prog.cellsOf 3)) = [.int .i64 n] ∧ _ := hs 1 _ rfl _ (Q0M Try.underlying3)
  simp only [o1, o4, Q1j, List.drop_zero, List.drop_succ_cons, List.take_succ_cons, List.take_zero] at s0 s1
  obtain ⟨n0, q0, w0⟩ := e0
  obtain ⟨n1, q1, w1⟩ := e1
  obtain ⟨n2, q2, w2⟩ := e2
  obtain ⟨n3, q3, w3⟩ := s0
  obtain ⟨n4, q4, w4⟩ := s1
  obtain ⟨n5, q5, w5⟩ := e4
  obtain ⟨a, c, bs, q6, l1, l2, r⟩ := e5
  obtain ⟨n7, q7, w7⟩ := e6
  simp only [List.cons.injEq, and_true] at q0 q1 q2 q3 q4 q5 q6 q7
  subst q0; subst q1; subst q2; subst q3; subst q4; subst q5; subst q6; subst q7
  exact ⟨⟨n0, n1, n2, n3, n4, n5, bs, n7⟩, a, c, rfl, ⟨(wf_u64 w2).1, (wf_u64 w2).2, (wf_u64 w7).1, (wf_u64 w7).2⟩, ⟨wf_i64 w0, wf_i64 w1, wf_i64 w3, wf_i64 w4, wf_i64 w5⟩, l1, l2, r⟩
open W (OwnB Rd numR countR doneR)
structure FP.inn (W : World) (x : FP) : Prop where
  at_ : x.at W
  el : x.r.e.body.length ≤ x.ec
  fl : x.r.f.body.length ≤ x.fc
  vl : x.r.v.length ≤ x.vc
  fv : ∀ h ∈ x.r.v, fitH h
  fe : x.r.e.fit ∧ x.r.e.wide
  ff : x.r.f.fit ∧ x.r.f.wide
  kd : -9223372036854775808 ≤ x.r.kd ∧ x.r.kd < 9223372036854775808
  who : -9223372036854775808 ≤ x.r.who ∧ x.r.who < 9223372036854775808
  sg : 0 ≤ x.r.sg ∧ x.r.sg < 18446744073709551616
def FrQ (W : World) (cs : List Value) : Prop := ∃ x : FP, cs = x.C ∧ x.inn W
theorem opens_frame : Opens Try.prog 30 FrQ :=
  (Q44 (qs := [(1, _), (8, _), (8, _), (1, _), (1, _), (1, _)]) (size := 20) Try.underlying30 (by kernel_rfl)
    ⟨⟨rfl, by kernel_rfl, Q0M Try.underlying3⟩, ⟨rfl, by kernel_rfl, Q2c⟩, ⟨rfl, by kernel_rfl, Q2c⟩, ⟨rfl, by kernel_rfl, Q0M Try.underlying3⟩, ⟨rfl, by kernel_rfl, Q36⟩, ⟨rfl, by kernel_rfl, Q0M Try.underlying22⟩, rfl⟩).mono
    fun W cs ⟨_, _, e0, _, ⟨kd, q0, fk⟩, _, _, e1, _, ⟨e, ea, ec, q1, f1, g1, l1, _, r1⟩, _, _, e2, _, ⟨f, fa, fc, q2, f2, g2, l2, _, r2⟩, _, _, e3, _, ⟨who, q3, fw⟩, _, _, e4, _, ⟨va, vc, hs, q4, l4, _, r4, f4⟩, _, _, e5, _, ⟨sg, q5, fs⟩, q6⟩ => by
      subst q0; subst q1; subst q2; subst q3; subst q4; subst q5; subst q6; subst e5; subst e4; subst e3; subst e2; subst e1; subst e0
      exact ⟨⟨⟨kd, e, f, who, hs, sg⟩, ea, ec, fa, fc, va, vc⟩, rfl, ⟨r1, r2, r4⟩, l1, l2, l4, f4, ⟨f1, g1⟩, ⟨f2, g2⟩, wf_i64 fk, wf_i64 fw, wf_u64 fs⟩
theorem FP.inn.fit {W : World} {x : FP} (h : x.inn W) : x.r.fit := ⟨h.fe.1, h.ff.1, fun q hq => wf_u64 (h.fv q hq).2.2, h.sg⟩
theorem frK_ok {x : Fr} (h : (frK x).2 = 0) : frOK x = true ∧ (frL x).length ≤ 4000 ∧ frK x = (frL x, 0) := by
  unfold frK at h ⊢
  cases hk : frOK x with
  | false => rw [hk, if_pos rfl] at h; exact absurd (show (1 : Int) = 0 from h) (by decide)
  | true =>
    rw [hk, if_neg (by decide)] at h
    by_cases hl : (frL x).length > 4000
    · rw [if_pos hl] at h; exact absurd (show (3 : Int) = 0 from h) (by decide)
    · exact ⟨rfl, by omega, by rw [if_neg (by decide), if_neg hl]⟩
theorem light_v {r : Fr} (h : frLight r = true) : r.e.body.length ≤ 1500 ∧ r.f.body.length ≤ 1500 ∧ r.v.length ≤ 30 := of_decide_eq_true h
set_option maxRecDepth 100000
set_option maxHeartbeats 40000000
abbrev Q00.J1 (bt : Addr) (c2 : Option Addr) (c1 c0 : Nat) (R : RW) (br : World) : Prop :=
 ∃ (b4 a0 a7 ap b7 b5 ah : Int) (ak : Option Addr) (a9 ad : Nat) (bb a1 an aq bc b6 ai : Int) (aa : Option Addr) (ab am : Nat) (az bg : Int) (bk : Option Addr) (bm bp : Nat) (bi : Int), cellsAt br bt [.int .i64 b4, .int .i64 a0, .int .i64 a7, .int .u64 ap, .int .i64 b7, .int .i64 b5, .int .i64 ah, .slice ak a9 ad, .int .u64 bb, .int .i64 a1, .int .i64 an, .int .u64 aq, .int .i64 bc, .int .i64 b6, .int .i64 ai, .slice aa ab am, .int .u64 az, .int .i64 bg, .slice bk bm bp, .int .u64 bi] 0 ∧
 Calls Try.prog 9 #[.agg #[.int .i64 b4, .int .i64 a0, .int .i64 a7, .int .u64 ap, .int .i64 b7, .int .i64 b5, .int .i64 ah, .slice ak a9 ad, .int .u64 bb, .int .i64 a1, .int .i64 an, .int .u64 aq, .int .i64 bc, .int .i64 b6, .int .i64 ai, .slice aa ab am, .int .u64 az, .int .i64 bg, .slice bk bm bp, .int .u64 bi]] br fun bu bs => ∃ (av : Option Addr) (ar au : Nat) (bd : Int), bu = .returned (.tuple #[.slice av ar au, .int .i64 bd]) ∧
 bif bd == 0 then (
 Calls Try.prog 11 #[.slice av ar au, .slice c2 c1 c0] bs fun bx bj => ∃ (bf : Bool), bx = .returned (.bool bf) ∧
 bif bf then (
 ∃ (ay a3 ag aw ax b8 ac : Int) (ae : Option Addr) (af a5 : Nat) (b1 a2 al ao b2 b0 aj : Int) (a8 : Option Addr) (a6 a4 : Nat) (b3 be : Int) (bl : Option Addr) (bn bo : Nat) (bh : Int), cellsAt bj bt [.int .i64 ay, .int .i64 a3, .int .i64 ag, .int .u64 aw, .int .i64 ax, .int .i64 b8, .int .i64 ac, .slice ae af a5, .int .u64 b1, .int .i64 a2, .int .i64 al, .int .u64 ao, .int .i64 b2, .int .i64 b0, .int .i64 aj, .slice a8 a6 a4, .int .u64 b3, .int .i64 be, .slice bl bn bo, .int .u64 bh] 0 ∧
 Calls Try.prog 16 #[.agg #[.int .i64 ay, .int .i64 a3, .int .i64 ag, .int .u64 aw, .int .i64 ax, .int .i64 b8, .int .i64 ac, .slice ae af a5, .int .u64 b1, .int .i64 a2, .int .i64 al, .int .u64 ao, .int .i64 b2, .int .i64 b0, .int .i64 aj, .slice a8 a6 a4, .int .u64 b3, .int .i64 be, .slice bl bn bo, .int .u64 bh]] bj fun bv bq => ∃ (b9 : Bool), bv = .returned (.bool b9) ∧
 bif b9 then (
 Calls Try.prog 8 #[] bq fun bz bw => ∃ (ba : Bool), bz = .returned (.bool ba) ∧
 R (.bool ba) bw) else (
 R (.bool false) bq)) else (
 R (.bool false) bj)) else (
 R (.bool false) bs)

abbrev Q00.J2 (cf : Option Addr) (ch cg : Nat) (R : RW) (co : World) : Prop :=
 Calls Try.prog 13 #[.slice cf ch cg] co fun cm bg => ∃ (bl a3 aw ba bo bu an : Int) (ai : Option Addr) (al b1 : Nat) (bx ad ah bb bk bj ap : Int) (b2 : Option Addr) (az ao : Nat) (bs c1 : Int) (cc : Option Addr) (cb cd : Nat) (c7 bi : Int), cm = .returned (.tuple #[.agg #[.int .i64 bl, .int .i64 a3, .int .i64 aw, .int .u64 ba, .int .i64 bo, .int .i64 bu, .int .i64 an, .slice ai al b1, .int .u64 bx, .int .i64 ad, .int .i64 ah, .int .u64 bb, .int .i64 bk, .int .i64 bj, .int .i64 ap, .slice b2 az ao, .int .u64 bs, .int .i64 c1, .slice cc cb cd, .int .u64 c7], .int .i64 bi]) ∧
 thenW (bg.alloc (.cells #[.int .i64 0, .int .i64 0, .int .i64 0, .int .u64 0, .int .i64 0, .int .i64 0, .int .i64 0, .slice none 0 0, .int .u64 0, .int .i64 0, .int .i64 0, .int .u64 0, .int .i64 0, .int .i64 0, .int .i64 0, .slice none 0 0, .int .u64 0, .int .i64 0, .slice none 0 0, .int .u64 0] 38)) fun cl =>
 putsK cl (blk bg.heap.size) [.int .i64 bl, .int .i64 a3, .int .i64 aw, .int .u64 ba, .int .i64 bo, .int .i64 bu, .int .i64 an, .slice ai al b1, .int .u64 bx, .int .i64 ad, .int .i64 ah, .int .u64 bb, .int .i64 bk, .int .i64 bj, .int .i64 ap, .slice b2 az ao, .int .u64 bs, .int .i64 c1, .slice cc cb cd, .int .u64 c7] 0 fun c0 =>
 bif bi != 0 then (
 ∃ (bc a0 ab aj b8 b6 af : Int) (a5 : Option Addr) (aa a4 : Nat) (b9 a1 ac av b7 be a9 : Int) (a2 : Option Addr) (a6 a8 : Nat) (bd br : Int) (c6 : Option Addr) (c2 c5 : Nat) (bn : Int), cellsAt c0 (blk bg.heap.size) [.int .i64 bc, .int .i64 a0, .int .i64 ab, .int .u64 aj, .int .i64 b8, .int .i64 b6, .int .i64 af, .slice a5 aa a4, .int .u64 b9, .int .i64 a1, .int .i64 ac, .int .u64 av, .int .i64 b7, .int .i64 be, .int .i64 a9, .slice a2 a6 a8, .int .u64 bd, .int .i64 br, .slice c6 c2 c5, .int .u64 bn] 0 ∧
 Calls Try.prog 15 #[.agg #[.int .i64 bc, .int .i64 a0, .int .i64 ab, .int .u64 aj, .int .i64 b8, .int .i64 b6, .int .i64 af, .slice a5 aa a4, .int .u64 b9, .int .i64 a1, .int .i64 ac, .int .u64 av, .int .i64 b7, .int .i64 be, .int .i64 a9, .slice a2 a6 a8, .int .u64 bd, .int .i64 br, .slice c6 c2 c5, .int .u64 bn]] c0 fun cj cp => ∃ (bm a7 ak b4 bv bp am : Int) (ar : Option Addr) (ay b0 : Nat) (bz ae ax bf bh bt aq : Int) (b3 : Option Addr) (au ag : Nat) (bq c3 : Int) (ca : Option Addr) (c8 ce : Nat) (c4 : Int), cj = .returned (.agg #[.int .i64 bm, .int .i64 a7, .int .i64 ak, .int .u64 b4, .int .i64 bv, .int .i64 bp, .int .i64 am, .slice ar ay b0, .int .u64 bz, .int .i64 ae, .int .i64 ax, .int .u64 bf, .int .i64 bh, .int .i64 bt, .int .i64 aq, .slice b3 au ag, .int .u64 bq, .int .i64 c3, .slice ca c8 ce, .int .u64 c4]) ∧
 Calls Try.prog 14 #[.agg #[.int .i64 bm, .int .i64 a7, .int .i64 ak, .int .u64 b4, .int .i64 bv, .int .i64 bp, .int .i64 am, .slice ar ay b0, .int .u64 bz, .int .i64 ae, .int .i64 ax, .int .u64 bf, .int .i64 bh, .int .i64 bt, .int .i64 aq, .slice b3 au ag, .int .u64 bq, .int .i64 c3, .slice ca c8 ce, .int .u64 c4], .agg #[.int .i64 0, .int .i64 0, .int .i64 0, .int .u64 0, .int .i64 0, .int .i64 0, .int .i64 0, .slice none 0 0, .int .u64 0, .int .i64 0, .int .i64 0, .int .u64 0, .int .i64 0, .int .i64 0, .int .i64 0, .slice none 0 0, .int .u64 0, .int .i64 0, .slice none 0 0, .int .u64 0]] cp fun cn c9 => ∃ (bw : Bool), cn = .returned (.bool bw) ∧
 bif bw then (
 Calls Try.prog 8 #[] c9 fun ci ck => ∃ (b5 : Bool), ci = .returned (.bool b5) ∧
 R (.bool b5) ck) else (
 R (.bool false) c9)) else (
 Q00.J1 (blk bg.heap.size) cf ch cg R c0)

abbrev Q00.J3 (bc : Option Addr) (b9 bb : Nat) (bd : Option Addr) (b8 ba : Nat) (R : RW) (av : World) : Prop :=
 thenW (av.alloc (.cells #[] 5)) fun b7 =>
 ∃ (ap : Option Addr) (b0 b1 : Nat) (am : World), (Builtin.append_ #[25, 25] 25 #[.slice (some (blk av.heap.size)) 0 0, .slice bc b9 bb]).run Try.prog b7 = .ok (.slice ap b0 b1) am ∧
 thenW (am.alloc (.cells #[.int .u8 0] 5)) fun b6 =>
 ∃ (ax : Option Addr) (aq b3 : Nat) (b2 : World), (Builtin.append_ #[25, 25] 25 #[.slice ap b0 b1, .slice (some (blk am.heap.size)) 1 1]).run Try.prog b6 = .ok (.slice ax aq b3) b2 ∧
 Calls Try.prog 13 #[.slice ax aq b3] b2 fun b5 ay => ∃ (af a1 a7 ad al aj aa : Int) (a9 : Option Addr) (a3 a2 : Nat) (ai a0 ab ac ag ah a8 : Int) (a5 : Option Addr) (a4 a6 : Nat) (ae ao : Int) (au : Option Addr) (aw az : Nat) (an ak : Int), b5 = .returned (.tuple #[.agg #[.int .i64 af, .int .i64 a1, .int .i64 a7, .int .u64 ad, .int .i64 al, .int .i64 aj, .int .i64 aa, .slice a9 a3 a2, .int .u64 ai, .int .i64 a0, .int .i64 ab, .int .u64 ac, .int .i64 ag, .int .i64 ah, .int .i64 a8, .slice a5 a4 a6, .int .u64 ae, .int .i64 ao, .slice au aw az, .int .u64 an], .int .i64 ak]) ∧
 thenW (ay.alloc (.cells #[.int .i64 0, .int .i64 0, .int .i64 0, .int .u64 0, .int .i64 0, .int .i64 0, .int .i64 0, .slice none 0 0, .int .u64 0, .int .i64 0, .int .i64 0, .int .u64 0, .int .i64 0, .int .i64 0, .int .i64 0, .slice none 0 0, .int .u64 0, .int .i64 0, .slice none 0 0, .int .u64 0] 38)) fun b4 =>
 putsK b4 (blk ay.heap.size) [.int .i64 af, .int .i64 a1, .int .i64 a7, .int .u64 ad, .int .i64 al, .int .i64 aj, .int .i64 aa, .slice a9 a3 a2, .int .u64 ai, .int .i64 a0, .int .i64 ab, .int .u64 ac, .int .i64 ag, .int .i64 ah, .int .i64 a8, .slice a5 a4 a6, .int .u64 ae, .int .i64 ao, .slice au aw az, .int .u64 an] 0 fun ar =>
 bif ak == 0 then (
 R (.bool false) ar) else (
 Q00.J2 bd b8 ba R ar)

abbrev Q00.J4 (b5 : Bool) (ap : Option Addr) (az an : Nat) (b3 : Option Addr) (b1 b4 : Nat) (ay : Int) (R : RW) (aq : World) : Prop :=
 bif b5 then (
 (0 : Int) ≤ (ay : Int) ∧ (ay : Int) ≤ (an : Int) ∧
 Calls Try.prog 13 #[.slice (if an = 0 then ap else Option.map (fun z : Addr => z.add (0 * 1)) ap) ((Int.toNat ay) - 0) (an - 0)] aq fun b2 au => ∃ (af a1 a2 ad aj ag a4 : Int) (ab : Option Addr) (a9 a7 : Nat) (ak a0 aa ac ah ae a8 : Int) (a6 : Option Addr) (a3 a5 : Nat) (al am : Int) (ar : Option Addr) (av ax : Nat) (ao ai : Int), b2 = .returned (.tuple #[.agg #[.int .i64 af, .int .i64 a1, .int .i64 a2, .int .u64 ad, .int .i64 aj, .int .i64 ag, .int .i64 a4, .slice ab a9 a7, .int .u64 ak, .int .i64 a0, .int .i64 aa, .int .u64 ac, .int .i64 ah, .int .i64 ae, .int .i64 a8, .slice a6 a3 a5, .int .u64 al, .int .i64 am, .slice ar av ax, .int .u64 ao], .int .i64 ai]) ∧
 thenW (au.alloc (.cells #[.int .i64 0, .int .i64 0, .int .i64 0, .int .u64 0, .int .i64 0, .int .i64 0, .int .i64 0, .slice none 0 0, .int .u64 0, .int .i64 0, .int .i64 0, .int .u64 0, .int .i64 0, .int .i64 0, .int .i64 0, .slice none 0 0, .int .u64 0, .int .i64 0, .slice none 0 0, .int .u64 0] 38)) fun b0 =>
 putsK b0 (blk au.heap.size) [.int .i64 af, .int .i64 a1, .int .i64 a2, .int .u64 ad, .int .i64 aj, .int .i64 ag, .int .i64 a4, .slice ab a9 a7, .int .u64 ak, .int .i64 a0, .int .i64 aa, .int .u64 ac, .int .i64 ah, .int .i64 ae, .int .i64 a8, .slice a6 a3 a5, .int .u64 al, .int .i64 am, .slice ar av ax, .int .u64 ao] 0 fun aw =>
 bif ai == 0 then (
 R (.bool false) aw) else (
 Q00.J3 ap az an b3 b1 b4 R aw)) else (
 Q00.J3 ap az an b3 b1 b4 R aq)

abbrev Q00.J5 (a4 : Option Addr) (a3 a1 : Nat) (a2 : Option Addr) (a6 a5 : Nat) (R : RW) (a0 : World) : Prop :=
 Q00.J3 a4 a3 a1 a2 a6 a5 R a0

abbrev Q00.J6 (a4 : Option Addr) (a1 a3 : Nat) (a5 : Option Addr) (a7 a6 : Nat) (a2 : Int) (R : RW) (a0 : World) : Prop :=
 bif decide (a2 ≥ 0) then (
 Q00.J4 (decide (a2 < (a1 : Int))) a4 a1 a3 a5 a7 a6 a2 R a0) else (
 Q00.J5 a4 a1 a3 a5 a7 a6 R a0)

abbrev Q00.J7 (f4 : Addr) (ey : Option Addr) (ev ex : Nat) (f3 : Int) (R : RW) (eh : World) : Prop :=
 ∃ (cr ah b1 br cq d1 b4 : Int) (aq : Option Addr) (bg an : Nat) (d0 aj ba cc ct d4 bc : Int) (au : Option Addr) (bh b3 : Nat) (cx dh : Int) (e9 : Option Addr) (e7 e8 : Nat) (dj : Int), cellsAt eh f4 [.int .i64 cr, .int .i64 ah, .int .i64 b1, .int .u64 br, .int .i64 cq, .int .i64 d1, .int .i64 b4, .slice aq bg an, .int .u64 d0, .int .i64 aj, .int .i64 ba, .int .u64 cc, .int .i64 ct, .int .i64 d4, .int .i64 bc, .slice au bh b3, .int .u64 cx, .int .i64 dh, .slice e9 e7 e8, .int .u64 dj] 0 ∧
 Calls Try.prog 10 #[.agg #[.int .i64 cr, .int .i64 ah, .int .i64 b1, .int .u64 br, .int .i64 cq, .int .i64 d1, .int .i64 b4, .slice aq bg an, .int .u64 d0, .int .i64 aj, .int .i64 ba, .int .u64 cc, .int .i64 ct, .int .i64 d4, .int .i64 bc, .slice au bh b3, .int .u64 cx, .int .i64 dh, .slice e9 e7 e8, .int .u64 dj]] eh fun f2 eu => ∃ (dx ao c3 cp df di bu : Int) (bw : Option Addr) (bs bk : Nat) (dr bj c9 d2 dn dg c4 : Int) (bt : Option Addr) (bp bo : Nat) (d9 e6 : Int) (em : Option Addr) (en ef : Nat) (e2 : Int), f2 = .returned (.agg #[.int .i64 dx, .int .i64 ao, .int .i64 c3, .int .u64 cp, .int .i64 df, .int .i64 di, .int .i64 bu, .slice bw bs bk, .int .u64 dr, .int .i64 bj, .int .i64 c9, .int .u64 d2, .int .i64 dn, .int .i64 dg, .int .i64 c4, .slice bt bp bo, .int .u64 d9, .int .i64 e6, .slice em en ef, .int .u64 e2]) ∧
 Calls Try.prog 9 #[.agg #[.int .i64 dx, .int .i64 ao, .int .i64 c3, .int .u64 cp, .int .i64 df, .int .i64 di, .int .i64 bu, .slice bw bs bk, .int .u64 dr, .int .i64 bj, .int .i64 c9, .int .u64 d2, .int .i64 dn, .int .i64 dg, .int .i64 c4, .slice bt bp bo, .int .u64 d9, .int .i64 e6, .slice em en ef, .int .u64 e2]] eu fun f0 ek => ∃ (af : Option Addr) (ag ad : Nat) (cl : Int), f0 = .returned (.tuple #[.slice af ag ad, .int .i64 cl]) ∧
 bif cl == 0 then (
 Calls Try.prog 13 #[.slice af ag ad] ek fun ew ea => ∃ (dy b0 ca d3 e1 dl c6 : Int) (bn : Option Addr) (cd bq : Nat) (du be ch cu de dt bv : Int) (c7 : Option Addr) (cg bx : Nat) (db eb : Int) (er : Option Addr) (ei eo : Nat) (e3 dp : Int), ew = .returned (.tuple #[.agg #[.int .i64 dy, .int .i64 b0, .int .i64 ca, .int .u64 d3, .int .i64 e1, .int .i64 dl, .int .i64 c6, .slice bn cd bq, .int .u64 du, .int .i64 be, .int .i64 ch, .int .u64 cu, .int .i64 de, .int .i64 dt, .int .i64 bv, .slice c7 cg bx, .int .u64 db, .int .i64 eb, .slice er ei eo, .int .u64 e3], .int .i64 dp]) ∧
 thenW (ea.alloc (.cells #[.int .i64 0, .int .i64 0, .int .i64 0, .int .u64 0, .int .i64 0, .int .i64 0, .int .i64 0, .slice none 0 0, .int .u64 0, .int .i64 0, .int .i64 0, .int .u64 0, .int .i64 0, .int .i64 0, .int .i64 0, .slice none 0 0, .int .u64 0, .int .i64 0, .slice none 0 0, .int .u64 0] 38)) fun es =>
 putsK es (blk ea.heap.size) [.int .i64 dy, .int .i64 b0, .int .i64 ca, .int .u64 d3, .int .i64 e1, .int .i64 dl, .int .i64 c6, .slice bn cd bq, .int .u64 du, .int .i64 be, .int .i64 ch, .int .u64 cu, .int .i64 de, .int .i64 dt, .int .i64 bv, .slice c7 cg bx, .int .u64 db, .int .i64 eb, .slice er ei eo, .int .u64 e3] 0 fun ez =>
 thenW (ez.drew) fun dd =>
 bif dp != 0 then (
 R (.bool false) dd) else (
 ∃ (cy ai ay c0 cz cm b5 : Int) (am : Option Addr) (bf b8 : Nat) (co ak aw cb cw cn b9 : Int) (b7 : Option Addr) (bi bd : Nat) (cs dz : Int) (ed : Option Addr) (ee ec : Nat) (dw : Int), cellsAt dd (blk ea.heap.size) [.int .i64 cy, .int .i64 ai, .int .i64 ay, .int .u64 c0, .int .i64 cz, .int .i64 cm, .int .i64 b5, .slice am bf b8, .int .u64 co, .int .i64 ak, .int .i64 aw, .int .u64 cb, .int .i64 cw, .int .i64 cn, .int .i64 b9, .slice b7 bi bd, .int .u64 cs, .int .i64 dz, .slice ed ee ec, .int .u64 dw] 0 ∧
 ∃ (b6 a0 a2 ac az ap ab : Int) (aa : Option Addr) (a8 a9 : Nat) (ax a1 a3 ae al av a5 : Int) (a4 : Option Addr) (a6 a7 : Nat) (bb cj : Int) (d8 : Option Addr) (d6 d7 : Nat) (ck : Int), cellsAt dd f4 [.int .i64 b6, .int .i64 a0, .int .i64 a2, .int .u64 ac, .int .i64 az, .int .i64 ap, .int .i64 ab, .slice aa a8 a9, .int .u64 ax, .int .i64 a1, .int .i64 a3, .int .u64 ae, .int .i64 al, .int .i64 av, .int .i64 a5, .slice a4 a6 a7, .int .u64 bb, .int .i64 cj, .slice d8 d6 d7, .int .u64 ck] 0 ∧
 Calls Try.prog 15 #[.agg #[.int .i64 cy, .int .i64 ai, .int .i64 ay, .int .u64 c0, .int .i64 cz, .int .i64 cm, .int .i64 b5, .slice am bf b8, .int .u64 co, .int .i64 ak, .int .i64 aw, .int .u64 cb, .int .i64 cw, .int .i64 cn, .int .i64 b9, .slice b7 bi bd, .int .u64 cs, .int .i64 dz, .slice ed ee ec, .int .u64 dw]] dd fun et ej => ∃ (ds ar cf d5 dc da bl : Int) (c5 : Option Addr) (c2 ci : Nat) (dm b2 ce cv dq e0 bm : Int) (c1 : Option Addr) (bz c8 : Nat) (dv e4 : Int) (el : Option Addr) (eg ep : Nat) (e5 : Int), et = .returned (.agg #[.int .i64 ds, .int .i64 ar, .int .i64 cf, .int .u64 d5, .int .i64 dc, .int .i64 da, .int .i64 bl, .slice c5 c2 ci, .int .u64 dm, .int .i64 b2, .int .i64 ce, .int .u64 cv, .int .i64 dq, .int .i64 e0, .int .i64 bm, .slice c1 bz c8, .int .u64 dv, .int .i64 e4, .slice el eg ep, .int .u64 e5]) ∧
 cellsAt ej f4 [.int .i64 b6, .int .i64 a0, .int .i64 a2, .int .u64 ac, .int .i64 az, .int .i64 ap, .int .i64 ab, .slice aa a8 a9, .int .u64 ax, .int .i64 a1, .int .i64 a3, .int .u64 ae, .int .i64 al, .int .i64 av, .int .i64 a5, .slice a4 a6 a7, .int .u64 bb, .int .i64 cj, .slice d8 d6 d7, .int .u64 ck] 0 ∧
 Calls Try.prog 14 #[.agg #[.int .i64 ds, .int .i64 ar, .int .i64 cf, .int .u64 d5, .int .i64 dc, .int .i64 da, .int .i64 bl, .slice c5 c2 ci, .int .u64 dm, .int .i64 b2, .int .i64 ce, .int .u64 cv, .int .i64 dq, .int .i64 e0, .int .i64 bm, .slice c1 bz c8, .int .u64 dv, .int .i64 e4, .slice el eg ep, .int .u64 e5], .agg #[.int .i64 b6, .int .i64 a0, .int .i64 a2, .int .u64 ac, .int .i64 az, .int .i64 ap, .int .i64 ab, .slice aa a8 a9, .int .u64 ax, .int .i64 a1, .int .i64 a3, .int .u64 ae, .int .i64 al, .int .i64 av, .int .i64 a5, .slice a4 a6 a7, .int .u64 bb, .int .i64 cj, .slice d8 d6 d7, .int .u64 ck]] ej fun f1 eq => ∃ (dk : Bool), f1 = .returned (.bool dk) ∧
 bif !dk then (
 R (.bool false) eq) else (
 Q00.J6 af ag ad ey ev ex f3 R eq))) else (
 Q00.J2 ey ev ex R ek)

def Q00.M (bf aw az b6 bh bd ax : Int) (b2 : Option Addr) (b0 b1 : Nat) (bc ae ar b3 b7 b5 ap : Int) (av : Option Addr) (aq au : Nat) (b8 be : Int) (bn : Option Addr) (bo bk : Nat) (bi : Int) (bp : Option Addr) (bl bq : Nat) (bj : Int) (R : RW) (w : World) : Prop :=
 thenW (w.alloc (.cells #[.int .i64 bf, .int .i64 aw, .int .i64 az, .int .u64 b6, .int .i64 bh, .int .i64 bd, .int .i64 ax, .slice b2 b0 b1, .int .u64 bc, .int .i64 ae, .int .i64 ar, .int .u64 b3, .int .i64 b7, .int .i64 b5, .int .i64 ap, .slice av aq au, .int .u64 b8, .int .i64 be, .slice bn bo bk, .int .u64 bi] 30)) fun bm =>
 ∃ (al a1 ab ac aj ah a2 : Int) (a7 : Option Addr) (a3 a6 : Nat) (an a0 a8 ad am ao a5 : Int) (a9 : Option Addr) (a4 aa : Nat) (ai ay : Int) (ba : Option Addr) (b9 bb : Nat) (b4 : Int), cellsAt bm (blk w.heap.size) [.int .i64 al, .int .i64 a1, .int .i64 ab, .int .u64 ac, .int .i64 aj, .int .i64 ah, .int .i64 a2, .slice a7 a3 a6, .int .u64 an, .int .i64 a0, .int .i64 a8, .int .u64 ad, .int .i64 am, .int .i64 ao, .int .i64 a5, .slice a9 a4 aa, .int .u64 ai, .int .i64 ay, .slice ba b9 bb, .int .u64 b4] 0 ∧
 Calls Try.prog 7 #[.agg #[.int .i64 al, .int .i64 a1, .int .i64 ab, .int .u64 ac, .int .i64 aj, .int .i64 ah, .int .i64 a2, .slice a7 a3 a6, .int .u64 an, .int .i64 a0, .int .i64 a8, .int .u64 ad, .int .i64 am, .int .i64 ao, .int .i64 a5, .slice a9 a4 aa, .int .u64 ai, .int .i64 ay, .slice ba b9 bb, .int .u64 b4]] bm fun br bg => ∃ (af : Bool), br = .returned (.bool af) ∧
 bif !af then (
 Calls Try.prog 8 #[] bg fun bv bs => ∃ (ag : Bool), bv = .returned (.bool ag) ∧
 R (.bool ag) bs) else (
 bif decide ((bl : Int) > 4100) then (
 Calls Try.prog 8 #[] bg fun bu bt => ∃ (ak : Bool), bu = .returned (.bool ak) ∧
 R (.bool ak) bt) else (
 Q00.J7 (blk w.heap.size) bp bl bq bj R bg))

theorem Q00.ok (am a6 a8 ae ak ai a7 : Int) (ab : Option Addr) (a9 aa : Nat) (ah a0 a3 ac af ad a1 : Int) (a5 : Option Addr) (a2 a4 : Nat) (ag aj : Int) (ap : Option Addr) (aq ao : Nat) (al : Int) (ar : Option Addr) (av au : Nat) (an : Int) {R : RW} {w : World} (h : Q00.M am a6 a8 ae ak ai a7 ab a9 aa ah a0 a3 ac af ad a1 a5 a2 a4 ag aj ap aq ao al ar av au an R w) : Calls Try.prog 4 #[.agg #[.int .i64 am, .int .i64 a6, .int .i64 a8, .int .u64 ae, .int .i64 ak, .int .i64 ai, .int .i64 a7, .slice ab a9 aa, .int .u64 ah, .int .i64 a0, .int .i64 a3, .int .u64 ac, .int .i64 af, .int .i64 ad, .int .i64 a1, .slice a5 a2 a4, .int .u64 ag, .int .i64 aj, .slice ap aq ao, .int .u64 al], .slice ar av au, .int .i64 an] w fun e w' => ∃ v, e = .returned v ∧ R v w' :=
  Q07 follows (H := []) (args := [.agg #[.int .i64 am, .int .i64 a6, .int .i64 a8, .int .u64 ae, .int .i64 ak, .int .i64 ai, .int .i64 a7, .slice ab a9 aa, .int .u64 ah, .int .i64 a0, .int .i64 a3, .int .u64 ac, .int .i64 af, .int .i64 ad, .int .i64 a1, .slice a5 a2 a4, .int .u64 ag, .int .i64 aj, .slice ap aq ao, .int .u64 al], .slice ar av au, .int .i64 an]) (cast (by kernel_rfl) h)

def Q00.N (im bt d9 ft iq iv cx : Int) (dd : Option Addr) (cu da : Nat) (ip bh bu cy g1 fw br : Int) (bv : Option Addr) (bs bq : Nat) (fi ik : Int) (n6 : Option Addr) (mj mo : Nat) (j0 : Int) (gr : Option Addr) (dh gs : Nat) (cv : Int) (R : RW) (w : World) : Prop :=
 ∀ (nu : World) (qa : Nat), Ext no w nu → Priv w nu [qa] →
 Calls Try.prog 7 #[.agg #[.int .i64 im, .int .i64 bt, .int .i64 d9, .int .u64 ft, .int .i64 iq, .int .i64 iv, .int .i64 cx, .slice dd cu da, .int .u64 ip, .int .i64 bh, .int .i64 bu, .int .u64 cy, .int .i64 g1, .int .i64 fw, .int .i64 br, .slice bv bs bq, .int .u64 fi, .int .i64 ik, .slice n6 mj mo, .int .u64 j0]] nu fun td n5 => ∃ (g0 : Bool), td = .returned (.bool g0) ∧
 Keep [qa] nu n5 ∧
 (g0 = false →
 Calls Try.prog 8 #[] n5 fun t9 te => ∃ (j4 : Bool), t9 = .returned (.bool j4) ∧
 R (.bool j4) te) ∧
 (g0 = true →
 ((dh : Int) > 4100 →
 Calls Try.prog 8 #[] n5 fun tb tc => ∃ (k0 : Bool), tb = .returned (.bool k0) ∧
 R (.bool k0) tc) ∧
 ((dh : Int) ≤ 4100 →
 Calls Try.prog 10 #[.agg #[.int .i64 im, .int .i64 bt, .int .i64 d9, .int .u64 ft, .int .i64 iq, .int .i64 iv, .int .i64 cx, .slice dd cu da, .int .u64 ip, .int .i64 bh, .int .i64 bu, .int .u64 cy, .int .i64 g1, .int .i64 fw, .int .i64 br, .slice bv bs bq, .int .u64 fi, .int .i64 ik, .slice n6 mj mo, .int .u64 j0]] n5 fun t8 pw => ∃ (n7 eb i9 kn md mr gi : Int) (i7 : Option Addr) (i2 gz : Nat) (mv e8 gb k9 my mt gt : Int) (gu : Option Addr) (i1 gx : Nat) (mk pg : Int) (qd : Option Addr) (qs qo : Nat) (pm : Int), t8 = .returned (.agg #[.int .i64 n7, .int .i64 eb, .int .i64 i9, .int .u64 kn, .int .i64 md, .int .i64 mr, .int .i64 gi, .slice i7 i2 gz, .int .u64 mv, .int .i64 e8, .int .i64 gb, .int .u64 k9, .int .i64 my, .int .i64 mt, .int .i64 gt, .slice gu i1 gx, .int .u64 mk, .int .i64 pg, .slice qd qs qo, .int .u64 pm]) ∧
 Keep [qa] n5 pw ∧
 Calls Try.prog 9 #[.agg #[.int .i64 n7, .int .i64 eb, .int .i64 i9, .int .u64 kn, .int .i64 md, .int .i64 mr, .int .i64 gi, .slice i7 i2 gz, .int .u64 mv, .int .i64 e8, .int .i64 gb, .int .u64 k9, .int .i64 my, .int .i64 mt, .int .i64 gt, .slice gu i1 gx, .int .u64 mk, .int .i64 pg, .slice qd qs qo, .int .u64 pm]] pw fun tf o5 => ∃ (a2 : Option Addr) (a0 a1 : Nat) (g3 : Int), tf = .returned (.tuple #[.slice a2 a0 a1, .int .i64 g3]) ∧
 Keep [qa] pw o5 ∧
 (g3 = 0 →
 Calls Try.prog 13 #[.slice a2 a0 a1] o5 fun ta q5 => ∃ (m0 et gg kf mg m8 g9 : Int) (ij : Option Addr) (i5 gn : Nat) (mz en ia k2 m7 mu ie : Int) (ib : Option Addr) (gf ig : Nat) (n3 p4 : Int) (qi : Option Addr) (s3 qz : Nat) (ol ix : Int), ta = .returned (.tuple #[.agg #[.int .i64 m0, .int .i64 et, .int .i64 gg, .int .u64 kf, .int .i64 mg, .int .i64 m8, .int .i64 g9, .slice ij i5 gn, .int .u64 mz, .int .i64 en, .int .i64 ia, .int .u64 k2, .int .i64 m7, .int .i64 mu, .int .i64 ie, .slice ib gf ig, .int .u64 n3, .int .i64 p4, .slice qi s3 qz, .int .u64 ol], .int .i64 ix]) ∧
 Keep [qa] o5 q5 ∧
 (ix ≠ 0 →
 ∀ (lp : World), Ext no q5 lp →
 R (.bool false) lp) ∧
 (ix = 0 →
 ∀ (lp : World), Ext no q5 lp →
 Calls Try.prog 15 #[.agg #[.int .i64 m0, .int .i64 et, .int .i64 gg, .int .u64 kf, .int .i64 mg, .int .i64 m8, .int .i64 g9, .slice ij i5 gn, .int .u64 mz, .int .i64 en, .int .i64 ia, .int .u64 k2, .int .i64 m7, .int .i64 mu, .int .i64 ie, .slice ib gf ig, .int .u64 n3, .int .i64 p4, .slice qi s3 qz, .int .u64 ol]] lp fun sb p9 => ∃ (n2 e1 gq js mc n8 gc : Int) (i6 : Option Addr) (gw gm : Nat) (jw d2 ea i4 jv kh f5 : Int) (ec : Option Addr) (dy f3 : Nat) (jo lx : Int) (oc : Option Addr) (pe pd : Nat) (mb : Int), sb = .returned (.agg #[.int .i64 n2, .int .i64 e1, .int .i64 gq, .int .u64 js, .int .i64 mc, .int .i64 n8, .int .i64 gc, .slice i6 gw gm, .int .u64 jw, .int .i64 d2, .int .i64 ea, .int .u64 i4, .int .i64 jv, .int .i64 kh, .int .i64 f5, .slice ec dy f3, .int .u64 jo, .int .i64 lx, .slice oc pe pd, .int .u64 mb]) ∧
 Keep [qa] lp p9 ∧
 Calls Try.prog 14 #[.agg #[.int .i64 n2, .int .i64 e1, .int .i64 gq, .int .u64 js, .int .i64 mc, .int .i64 n8, .int .i64 gc, .slice i6 gw gm, .int .u64 jw, .int .i64 d2, .int .i64 ea, .int .u64 i4, .int .i64 jv, .int .i64 kh, .int .i64 f5, .slice ec dy f3, .int .u64 jo, .int .i64 lx, .slice oc pe pd, .int .u64 mb], .agg #[.int .i64 im, .int .i64 bt, .int .i64 d9, .int .u64 ft, .int .i64 iq, .int .i64 iv, .int .i64 cx, .slice dd cu da, .int .u64 ip, .int .i64 bh, .int .i64 bu, .int .u64 cy, .int .i64 g1, .int .i64 fw, .int .i64 br, .slice bv bs bq, .int .u64 fi, .int .i64 ik, .slice n6 mj mo, .int .u64 j0]] p9 fun qx ef => ∃ (fx : Bool), qx = .returned (.bool fx) ∧
 (fx = false →
 R (.bool false) ef) ∧
 (fx = true →
 (cv ≥ 0 →
 (cv < (a0 : Int) →
 (0 : Int) ≤ (cv : Int) ∧ (cv : Int) ≤ (a1 : Int) ∧ 
 Calls Try.prog 13 #[.slice a2 (Int.toNat cv) a1] ef fun s9 mw => ∃ (na iw kq mf nl o7 lq : Int) (kt : Option Addr) (ky lk : Nat) (ng il l5 m2 ns o9 l3 : Int) (kw : Option Addr) (ku l0 : Nat) (nx py : Int) (qt : Option Addr) (s7 t4 : Nat) (q2 fe : Int), s9 = .returned (.tuple #[.agg #[.int .i64 na, .int .i64 iw, .int .i64 kq, .int .u64 mf, .int .i64 nl, .int .i64 o7, .int .i64 lq, .slice kt ky lk, .int .u64 ng, .int .i64 il, .int .i64 l5, .int .u64 m2, .int .i64 ns, .int .i64 o9, .int .i64 l3, .slice kw ku l0, .int .u64 nx, .int .i64 py, .slice qt s7 t4, .int .u64 q2], .int .i64 fe]) ∧
 (fe = 0 →
 ∀ (oy : World), Ext no mw oy →
 R (.bool false) oy) ∧
 (fe ≠ 0 →
 ∀ (jt : World) (ni : Nat), Ext no mw jt → Blk jt ni 5 [] → mw.heap.size ≤ ni → ni < jt.heap.size →
 ∃ (p2 : Option Addr) (pb oh : Nat) (mn : World), (Builtin.append_ #[25, 25] 25 #[.slice (some (blk ni)) 0 0, .slice a2 a0 a1]).run Try.prog jt = .ok (.slice p2 pb oh) mn ∧
 ∀ (jh : World) (nt : Nat), Ext no mn jh → Blk jh nt 5 [.int .u8 0] → mn.heap.size ≤ nt → nt < jh.heap.size →
 ∃ (op : Option Addr) (oz pp : Nat) (pc : World), (Builtin.append_ #[25, 25] 25 #[.slice p2 pb oh, .slice (some (blk nt)) 1 1]).run Try.prog jh = .ok (.slice op oz pp) pc ∧
 Calls Try.prog 13 #[.slice op oz pp] pc fun t6 pi => ∃ (nj io l4 mh ny o2 kr : Int) (lg : Option Addr) (ls l2 : Nat) (nw iu li mx nn o3 lo : Int) (ks : Option Addr) (lj l9 : Nat) (nd pz : Int) (t0 : Option Addr) (qq sj : Nat) (q7 fg : Int), t6 = .returned (.tuple #[.agg #[.int .i64 nj, .int .i64 io, .int .i64 l4, .int .u64 mh, .int .i64 ny, .int .i64 o2, .int .i64 kr, .slice lg ls l2, .int .u64 nw, .int .i64 iu, .int .i64 li, .int .u64 mx, .int .i64 nn, .int .i64 o3, .int .i64 lo, .slice ks lj l9, .int .u64 nd, .int .i64 pz, .slice t0 qq sj, .int .u64 q7], .int .i64 fg]) ∧
 (fg = 0 →
 ∀ (g6 : World), Ext no pi g6 →
 R (.bool false) g6) ∧
 (fg ≠ 0 →
 ∀ (g6 : World), Ext no pi g6 →
 Calls Try.prog 13 #[.slice gr dh gs] g6 fun sr ma => ∃ (c6 a4 aj bi c9 cj ag : Int) (az : Option Addr) (bg ak : Nat) (cb aa av bl c3 ca af : Int) (b0 : Option Addr) (b1 b7 : Nat) (c4 fs : Int) (jg : Option Addr) (ke jm : Nat) (fp fr : Int), sr = .returned (.tuple #[.agg #[.int .i64 c6, .int .i64 a4, .int .i64 aj, .int .u64 bi, .int .i64 c9, .int .i64 cj, .int .i64 ag, .slice az bg ak, .int .u64 cb, .int .i64 aa, .int .i64 av, .int .u64 bl, .int .i64 c3, .int .i64 ca, .int .i64 af, .slice b0 b1 b7, .int .u64 c4, .int .i64 fs, .slice jg ke jm, .int .u64 fp], .int .i64 fr]) ∧
 (fr ≠ 0 →
 ∀ (dg : World), Ext no ma dg →
 Calls Try.prog 15 #[.agg #[.int .i64 c6, .int .i64 a4, .int .i64 aj, .int .u64 bi, .int .i64 c9, .int .i64 cj, .int .i64 ag, .slice az bg ak, .int .u64 cb, .int .i64 aa, .int .i64 av, .int .u64 bl, .int .i64 c3, .int .i64 ca, .int .i64 af, .slice b0 b1 b7, .int .u64 c4, .int .i64 fs, .slice jg ke jm, .int .u64 fp]] dg fun sd sc => ∃ (kc d6 ds gd jl kl dw : Int) (e3 : Option Addr) (f7 di : Nat) (jq cq em ic jx k5 e2 : Int) (ev : Option Addr) (eq ed : Nat) (jk mp : Int) (pr : Option Addr) (p1 pu : Nat) (n1 : Int), sd = .returned (.agg #[.int .i64 kc, .int .i64 d6, .int .i64 ds, .int .u64 gd, .int .i64 jl, .int .i64 kl, .int .i64 dw, .slice e3 f7 di, .int .u64 jq, .int .i64 cq, .int .i64 em, .int .u64 ic, .int .i64 jx, .int .i64 k5, .int .i64 e2, .slice ev eq ed, .int .u64 jk, .int .i64 mp, .slice pr p1 pu, .int .u64 n1]) ∧
 Calls Try.prog 14 #[.agg #[.int .i64 kc, .int .i64 d6, .int .i64 ds, .int .u64 gd, .int .i64 jl, .int .i64 kl, .int .i64 dw, .slice e3 f7 di, .int .u64 jq, .int .i64 cq, .int .i64 em, .int .u64 ic, .int .i64 jx, .int .i64 k5, .int .i64 e2, .slice ev eq ed, .int .u64 jk, .int .i64 mp, .slice pr p1 pu, .int .u64 n1], .agg #[.int .i64 0, .int .i64 0, .int .i64 0, .int .u64 0, .int .i64 0, .int .i64 0, .int .i64 0, .slice none 0 0, .int .u64 0, .int .i64 0, .int .i64 0, .int .u64 0, .int .i64 0, .int .i64 0, .int .i64 0, .slice none 0 0, .int .u64 0, .int .i64 0, .slice none 0 0, .int .u64 0]] sc fun qu om => ∃ (fu : Bool), qu = .returned (.bool fu) ∧
 (fu = true →
 Calls Try.prog 8 #[] om fun sf s8 => ∃ (i0 : Bool), sf = .returned (.bool i0) ∧
 R (.bool i0) s8) ∧
 (fu = false →
 R (.bool false) om)) ∧
 (fr = 0 →
 ∀ (dg : World) (q8 : Nat), Ext no ma dg → Priv ma dg [q8] →
 Calls Try.prog 9 #[.agg #[.int .i64 c6, .int .i64 a4, .int .i64 aj, .int .u64 bi, .int .i64 c9, .int .i64 cj, .int .i64 ag, .slice az bg ak, .int .u64 cb, .int .i64 aa, .int .i64 av, .int .u64 bl, .int .i64 c3, .int .i64 ca, .int .i64 af, .slice b0 b1 b7, .int .u64 c4, .int .i64 fs, .slice jg ke jm, .int .u64 fp]] dg fun qm j2 => ∃ (f1 : Option Addr) (ey er : Nat) (cr : Int), qm = .returned (.tuple #[.slice f1 ey er, .int .i64 cr]) ∧
 Keep [q8] dg j2 ∧
 (cr = 0 →
 Calls Try.prog 11 #[.slice f1 ey er, .slice gr dh gs] j2 fun sw n9 => ∃ (fk : Bool), sw = .returned (.bool fk) ∧
 Keep [q8] j2 n9 ∧
 (fk = true →
 Calls Try.prog 16 #[.agg #[.int .i64 c6, .int .i64 a4, .int .i64 aj, .int .u64 bi, .int .i64 c9, .int .i64 cj, .int .i64 ag, .slice az bg ak, .int .u64 cb, .int .i64 aa, .int .i64 av, .int .u64 bl, .int .i64 c3, .int .i64 ca, .int .i64 af, .slice b0 b1 b7, .int .u64 c4, .int .i64 fs, .slice jg ke jm, .int .u64 fp]] n9 fun qf od => ∃ (d3 : Bool), qf = .returned (.bool d3) ∧
 (d3 = true →
 Calls Try.prog 8 #[] od fun qw qb => ∃ (gk : Bool), qw = .returned (.bool gk) ∧
 R (.bool gk) qb) ∧
 (d3 = false →
 R (.bool false) od)) ∧
 (fk = false →
 R (.bool false) n9)) ∧
 (cr ≠ 0 →
 R (.bool false) j2))))) ∧
 ((a0 : Int) ≤ cv →
 ∀ (ko : World) (nm : Nat), Ext no ef ko → Blk ko nm 5 [] → ef.heap.size ≤ nm → nm < ko.heap.size →
 ∃ (ow : Option Addr) (oj os : Nat) (n0 : World), (Builtin.append_ #[25, 25] 25 #[.slice (some (blk nm)) 0 0, .slice a2 a0 a1]).run Try.prog ko = .ok (.slice ow oj os) n0 ∧
 ∀ (jc : World) (nz : Nat), Ext no n0 jc → Blk jc nz 5 [.int .u8 0] → n0.heap.size ≤ nz → nz < jc.heap.size →
 ∃ (oq : Option Addr) (pf pj : Nat) (ov : World), (Builtin.append_ #[25, 25] 25 #[.slice ow oj os, .slice (some (blk nz)) 1 1]).run Try.prog jc = .ok (.slice oq pf pj) ov ∧
 Calls Try.prog 13 #[.slice oq pf pj] ov fun s5 ou => ∃ (o1 iy ll ly nk nf la : Int) (l1 : Option Addr) (lf lc : Nat) (o0 iz ln mq ne nc ld : Int) (kz : Option Addr) (lh lm : Nat) (o4 px : Int) (sx : Option Addr) (t2 su : Nat) (q4 fv : Int), s5 = .returned (.tuple #[.agg #[.int .i64 o1, .int .i64 iy, .int .i64 ll, .int .u64 ly, .int .i64 nk, .int .i64 nf, .int .i64 la, .slice l1 lf lc, .int .u64 o0, .int .i64 iz, .int .i64 ln, .int .u64 mq, .int .i64 ne, .int .i64 nc, .int .i64 ld, .slice kz lh lm, .int .u64 o4, .int .i64 px, .slice sx t2 su, .int .u64 q4], .int .i64 fv]) ∧
 (fv = 0 →
 ∀ (ge : World), Ext no ou ge →
 R (.bool false) ge) ∧
 (fv ≠ 0 →
 ∀ (ge : World), Ext no ou ge →
 Calls Try.prog 13 #[.slice gr dh gs] ge fun qg n4 => ∃ (c5 a8 ar bk cg cd ao : Int) (b9 : Option Addr) (bf ac : Nat) (c7 a6 be bo bw cm ah : Int) (ai : Option Addr) (bd ax : Nat) (co fd : Int) (kd : Option Addr) (ji j9 : Nat) (fy fz : Int), qg = .returned (.tuple #[.agg #[.int .i64 c5, .int .i64 a8, .int .i64 ar, .int .u64 bk, .int .i64 cg, .int .i64 cd, .int .i64 ao, .slice b9 bf ac, .int .u64 c7, .int .i64 a6, .int .i64 be, .int .u64 bo, .int .i64 bw, .int .i64 cm, .int .i64 ah, .slice ai bd ax, .int .u64 co, .int .i64 fd, .slice kd ji j9, .int .u64 fy], .int .i64 fz]) ∧
 (fz ≠ 0 →
 ∀ (dc : World), Ext no n4 dc →
 Calls Try.prog 15 #[.agg #[.int .i64 c5, .int .i64 a8, .int .i64 ar, .int .u64 bk, .int .i64 cg, .int .i64 cd, .int .i64 ao, .slice b9 bf ac, .int .u64 c7, .int .i64 a6, .int .i64 be, .int .u64 bo, .int .i64 bw, .int .i64 cm, .int .i64 ah, .slice ai bd ax, .int .u64 co, .int .i64 fd, .slice kd ji j9, .int .u64 fy]] dc fun qn si => ∃ (j7 d0 f8 i3 ja jd e6 : Int) (dl : Option Addr) (eu dn : Nat) (j6 ct f6 gy j8 jp ew : Int) (dr : Option Addr) (f0 f9 : Nat) (k4 ms : Int) (p7 : Option Addr) (pn p8 : Nat) (lv : Int), qn = .returned (.agg #[.int .i64 j7, .int .i64 d0, .int .i64 f8, .int .u64 i3, .int .i64 ja, .int .i64 jd, .int .i64 e6, .slice dl eu dn, .int .u64 j6, .int .i64 ct, .int .i64 f6, .int .u64 gy, .int .i64 j8, .int .i64 jp, .int .i64 ew, .slice dr f0 f9, .int .u64 k4, .int .i64 ms, .slice p7 pn p8, .int .u64 lv]) ∧
 Calls Try.prog 14 #[.agg #[.int .i64 j7, .int .i64 d0, .int .i64 f8, .int .u64 i3, .int .i64 ja, .int .i64 jd, .int .i64 e6, .slice dl eu dn, .int .u64 j6, .int .i64 ct, .int .i64 f6, .int .u64 gy, .int .i64 j8, .int .i64 jp, .int .i64 ew, .slice dr f0 f9, .int .u64 k4, .int .i64 ms, .slice p7 pn p8, .int .u64 lv], .agg #[.int .i64 0, .int .i64 0, .int .i64 0, .int .u64 0, .int .i64 0, .int .i64 0, .int .i64 0, .slice none 0 0, .int .u64 0, .int .i64 0, .int .i64 0, .int .u64 0, .int .i64 0, .int .i64 0, .int .i64 0, .slice none 0 0, .int .u64 0, .int .i64 0, .slice none 0 0, .int .u64 0]] si fun t7 ot => ∃ (fb : Bool), t7 = .returned (.bool fb) ∧
 (fb = true →
 Calls Try.prog 8 #[] ot fun sn s6 => ∃ (gj : Bool), sn = .returned (.bool gj) ∧
 R (.bool gj) s6) ∧
 (fb = false →
 R (.bool false) ot)) ∧
 (fz = 0 →
 ∀ (dc : World) (q3 : Nat), Ext no n4 dc → Priv n4 dc [q3] →
 Calls Try.prog 9 #[.agg #[.int .i64 c5, .int .i64 a8, .int .i64 ar, .int .u64 bk, .int .i64 cg, .int .i64 cd, .int .i64 ao, .slice b9 bf ac, .int .u64 c7, .int .i64 a6, .int .i64 be, .int .u64 bo, .int .i64 bw, .int .i64 cm, .int .i64 ah, .slice ai bd ax, .int .u64 co, .int .i64 fd, .slice kd ji j9, .int .u64 fy]] dc fun sh kp => ∃ (e9 : Option Addr) (du dk : Nat) (d1 : Int), sh = .returned (.tuple #[.slice e9 du dk, .int .i64 d1]) ∧
 Keep [q3] dc kp ∧
 (d1 = 0 →
 Calls Try.prog 11 #[.slice e9 du dk, .slice gr dh gs] kp fun s1 me => ∃ (fl : Bool), s1 = .returned (.bool fl) ∧
 Keep [q3] kp me ∧
 (fl = true →
 Calls Try.prog 16 #[.agg #[.int .i64 c5, .int .i64 a8, .int .i64 ar, .int .u64 bk, .int .i64 cg, .int .i64 cd, .int .i64 ao, .slice b9 bf ac, .int .u64 c7, .int .i64 a6, .int .i64 be, .int .u64 bo, .int .i64 bw, .int .i64 cm, .int .i64 ah, .slice ai bd ax, .int .u64 co, .int .i64 fd, .slice kd ji j9, .int .u64 fy]] me fun sl oi => ∃ (cw : Bool), sl = .returned (.bool cw) ∧
 (cw = true →
 Calls Try.prog 8 #[] oi fun sv qy => ∃ (ih : Bool), sv = .returned (.bool ih) ∧
 R (.bool ih) qy) ∧
 (cw = false →
 R (.bool false) oi)) ∧
 (fl = false →
 R (.bool false) me)) ∧
 (d1 ≠ 0 →
 R (.bool false) kp))))) ∧
 (cv < 0 →
 ∀ (k7 : World) (np : Nat), Ext no ef k7 → Blk k7 np 5 [] → ef.heap.size ≤ np → np < k7.heap.size →
 ∃ (p6 : Option Addr) (p5 ob : Nat) (m9 : World), (Builtin.append_ #[25, 25] 25 #[.slice (some (blk np)) 0 0, .slice a2 a0 a1]).run Try.prog k7 = .ok (.slice p6 p5 ob) m9 ∧
 ∀ (je : World) (o6 : Nat), Ext no m9 je → Blk je o6 5 [.int .u8 0] → m9.heap.size ≤ o6 → o6 < je.heap.size →
 ∃ (p0 : Option Addr) (pv pq : Nat) (pk : World), (Builtin.append_ #[25, 25] 25 #[.slice p6 p5 ob, .slice (some (blk o6)) 1 1]).run Try.prog je = .ok (.slice p0 pv pq) pk ∧
 Calls Try.prog 13 #[.slice p0 pv pq] pk fun sq oe => ∃ (oa it l7 m5 nq nh l8 : Int) (lu : Option Addr) (kv lt : Nat) (nb ir kx ml nv o8 lb : Int) (lr : Option Addr) (le l6 : Nat) (nr q1 : Int) (t5 : Option Addr) (st ql : Nat) (q6 g5 : Int), sq = .returned (.tuple #[.agg #[.int .i64 oa, .int .i64 it, .int .i64 l7, .int .u64 m5, .int .i64 nq, .int .i64 nh, .int .i64 l8, .slice lu kv lt, .int .u64 nb, .int .i64 ir, .int .i64 kx, .int .u64 ml, .int .i64 nv, .int .i64 o8, .int .i64 lb, .slice lr le l6, .int .u64 nr, .int .i64 q1, .slice t5 st ql, .int .u64 q6], .int .i64 g5]) ∧
 (g5 = 0 →
 ∀ (gp : World), Ext no oe gp →
 R (.bool false) gp) ∧
 (g5 ≠ 0 →
 ∀ (gp : World), Ext no oe gp →
 Calls Try.prog 13 #[.slice gr dh gs] gp fun qk lw => ∃ (ck a5 au bm cc ci b6 : Int) (bb : Option Addr) (ba ad : Nat) (c1 a3 b3 bp bx c2 ae : Int) (aq : Option Addr) (b5 al : Nat) (cl fm : Int) (ka : Option Addr) (kb jn : Nat) (g2 fa : Int), qk = .returned (.tuple #[.agg #[.int .i64 ck, .int .i64 a5, .int .i64 au, .int .u64 bm, .int .i64 cc, .int .i64 ci, .int .i64 b6, .slice bb ba ad, .int .u64 c1, .int .i64 a3, .int .i64 b3, .int .u64 bp, .int .i64 bx, .int .i64 c2, .int .i64 ae, .slice aq b5 al, .int .u64 cl, .int .i64 fm, .slice ka kb jn, .int .u64 g2], .int .i64 fa]) ∧
 (fa ≠ 0 →
 ∀ (cs : World), Ext no lw cs →
 Calls Try.prog 15 #[.agg #[.int .i64 ck, .int .i64 a5, .int .i64 au, .int .u64 bm, .int .i64 cc, .int .i64 ci, .int .i64 b6, .slice bb ba ad, .int .u64 c1, .int .i64 a3, .int .i64 b3, .int .u64 bp, .int .i64 bx, .int .i64 c2, .int .i64 ae, .slice aq b5 al, .int .u64 cl, .int .i64 fm, .slice ka kb jn, .int .u64 g2]] cs fun sp qc => ∃ (j3 db f4 i8 jr jb f2 : Int) (ee : Option Addr) (dt eh : Nat) (kj d7 e4 ii kk j5 dp : Int) (eo : Option Addr) (ei dj : Nat) (k1 m4 : Int) (ps : Option Addr) (og pl : Nat) (m6 : Int), sp = .returned (.agg #[.int .i64 j3, .int .i64 db, .int .i64 f4, .int .u64 i8, .int .i64 jr, .int .i64 jb, .int .i64 f2, .slice ee dt eh, .int .u64 kj, .int .i64 d7, .int .i64 e4, .int .u64 ii, .int .i64 kk, .int .i64 j5, .int .i64 dp, .slice eo ei dj, .int .u64 k1, .int .i64 m4, .slice ps og pl, .int .u64 m6]) ∧
 Calls Try.prog 14 #[.agg #[.int .i64 j3, .int .i64 db, .int .i64 f4, .int .u64 i8, .int .i64 jr, .int .i64 jb, .int .i64 f2, .slice ee dt eh, .int .u64 kj, .int .i64 d7, .int .i64 e4, .int .u64 ii, .int .i64 kk, .int .i64 j5, .int .i64 dp, .slice eo ei dj, .int .u64 k1, .int .i64 m4, .slice ps og pl, .int .u64 m6], .agg #[.int .i64 0, .int .i64 0, .int .i64 0, .int .u64 0, .int .i64 0, .int .i64 0, .int .i64 0, .slice none 0 0, .int .u64 0, .int .i64 0, .int .i64 0, .int .u64 0, .int .i64 0, .int .i64 0, .int .i64 0, .slice none 0 0, .int .u64 0, .int .i64 0, .slice none 0 0, .int .u64 0]] qc fun sa ox => ∃ (fo : Bool), sa = .returned (.bool fo) ∧
 (fo = true →
 Calls Try.prog 8 #[] ox fun sk qh => ∃ (gh : Bool), sk = .returned (.bool gh) ∧
 R (.bool gh) qh) ∧
 (fo = false →
 R (.bool false) ox)) ∧
 (fa = 0 →
 ∀ (cs : World) (q0 : Nat), Ext no lw cs → Priv lw cs [q0] →
 Calls Try.prog 9 #[.agg #[.int .i64 ck, .int .i64 a5, .int .i64 au, .int .u64 bm, .int .i64 cc, .int .i64 ci, .int .i64 b6, .slice bb ba ad, .int .u64 c1, .int .i64 a3, .int .i64 b3, .int .u64 bp, .int .i64 bx, .int .i64 c2, .int .i64 ae, .slice aq b5 al, .int .u64 cl, .int .i64 fm, .slice ka kb jn, .int .u64 g2]] cs fun s2 ju => ∃ (dv : Option Addr) (dx e7 : Nat) (df : Int), s2 = .returned (.tuple #[.slice dv dx e7, .int .i64 df]) ∧
 Keep [q0] cs ju ∧
 (df = 0 →
 Calls Try.prog 11 #[.slice dv dx e7, .slice gr dh gs] ju fun s0 m1 => ∃ (ff : Bool), s0 = .returned (.bool ff) ∧
 Keep [q0] ju m1 ∧
 (ff = true →
 Calls Try.prog 16 #[.agg #[.int .i64 ck, .int .i64 a5, .int .i64 au, .int .u64 bm, .int .i64 cc, .int .i64 ci, .int .i64 b6, .slice bb ba ad, .int .u64 c1, .int .i64 a3, .int .i64 b3, .int .u64 bp, .int .i64 bx, .int .i64 c2, .int .i64 ae, .slice aq b5 al, .int .u64 cl, .int .i64 fm, .slice ka kb jn, .int .u64 g2]] m1 fun sy ph => ∃ (de : Bool), sy = .returned (.bool de) ∧
 (de = true →
 Calls Try.prog 8 #[] ph fun s4 ss => ∃ (g7 : Bool), s4 = .returned (.bool g7) ∧
 R (.bool g7) ss) ∧
 (de = false →
 R (.bool false) ph)) ∧
 (ff = false →
 R (.bool false) m1)) ∧
 (df ≠ 0 →
 R (.bool false) ju))))))) ∧
 (g3 ≠ 0 →
 Calls Try.prog 13 #[.slice gr dh gs] o5 fun qj mm => ∃ (ch a9 ab bj cn c8 b2 : Int) (b4 : Option Addr) (an ap : Nat) (cf a7 am bn c0 ce b8 : Int) (bc : Option Addr) (ay aw : Nat) (bz fh : Int) (ki : Option Addr) (jy k3 : Nat) (g4 fj : Int), qj = .returned (.tuple #[.agg #[.int .i64 ch, .int .i64 a9, .int .i64 ab, .int .u64 bj, .int .i64 cn, .int .i64 c8, .int .i64 b2, .slice b4 an ap, .int .u64 cf, .int .i64 a7, .int .i64 am, .int .u64 bn, .int .i64 c0, .int .i64 ce, .int .i64 b8, .slice bc ay aw, .int .u64 bz, .int .i64 fh, .slice ki jy k3, .int .u64 g4], .int .i64 fj]) ∧
 (fj ≠ 0 →
 ∀ (cz : World), Ext no mm cz →
 Calls Try.prog 15 #[.agg #[.int .i64 ch, .int .i64 a9, .int .i64 ab, .int .u64 bj, .int .i64 cn, .int .i64 c8, .int .i64 b2, .slice b4 an ap, .int .u64 cf, .int .i64 a7, .int .i64 am, .int .u64 bn, .int .i64 c0, .int .i64 ce, .int .i64 b8, .slice bc ay aw, .int .u64 bz, .int .i64 fh, .slice ki jy k3, .int .u64 g4]] cz fun qe qp => ∃ (kg d8 ek gl j1 jj dz : Int) (dm : Option Addr) (ep e5 : Nat) (k6 d4 el ga jf km ez : Int) (dq : Option Addr) (es e0 : Nat) (k8 m3 : Int) (p3 : Option Addr) (pt po : Nat) (mi : Int), qe = .returned (.agg #[.int .i64 kg, .int .i64 d8, .int .i64 ek, .int .u64 gl, .int .i64 j1, .int .i64 jj, .int .i64 dz, .slice dm ep e5, .int .u64 k6, .int .i64 d4, .int .i64 el, .int .u64 ga, .int .i64 jf, .int .i64 km, .int .i64 ez, .slice dq es e0, .int .u64 k8, .int .i64 m3, .slice p3 pt po, .int .u64 mi]) ∧
 Calls Try.prog 14 #[.agg #[.int .i64 kg, .int .i64 d8, .int .i64 ek, .int .u64 gl, .int .i64 j1, .int .i64 jj, .int .i64 dz, .slice dm ep e5, .int .u64 k6, .int .i64 d4, .int .i64 el, .int .u64 ga, .int .i64 jf, .int .i64 km, .int .i64 ez, .slice dq es e0, .int .u64 k8, .int .i64 m3, .slice p3 pt po, .int .u64 mi], .agg #[.int .i64 0, .int .i64 0, .int .i64 0, .int .u64 0, .int .i64 0, .int .i64 0, .int .i64 0, .slice none 0 0, .int .u64 0, .int .i64 0, .int .i64 0, .int .u64 0, .int .i64 0, .int .i64 0, .int .i64 0, .slice none 0 0, .int .u64 0, .int .i64 0, .slice none 0 0, .int .u64 0]] qp fun qr pa => ∃ (fq : Bool), qr = .returned (.bool fq) ∧
 (fq = true →
 Calls Try.prog 8 #[] pa fun qv t1 => ∃ (gv : Bool), qv = .returned (.bool gv) ∧
 R (.bool gv) t1) ∧
 (fq = false →
 R (.bool false) pa)) ∧
 (fj = 0 →
 ∀ (cz : World) (q9 : Nat), Ext no mm cz → Priv mm cz [q9] →
 Calls Try.prog 9 #[.agg #[.int .i64 ch, .int .i64 a9, .int .i64 ab, .int .u64 bj, .int .i64 cn, .int .i64 c8, .int .i64 b2, .slice b4 an ap, .int .u64 cf, .int .i64 a7, .int .i64 am, .int .u64 bn, .int .i64 c0, .int .i64 ce, .int .i64 b8, .slice bc ay aw, .int .u64 bz, .int .i64 fh, .slice ki jy k3, .int .u64 g4]] cz fun t3 jz => ∃ (eg : Option Addr) (ej ex : Nat) (cp : Int), t3 = .returned (.tuple #[.slice eg ej ex, .int .i64 cp]) ∧
 Keep [q9] cz jz ∧
 (cp = 0 →
 Calls Try.prog 11 #[.slice eg ej ex, .slice gr dh gs] jz fun se lz => ∃ (fc : Bool), se = .returned (.bool fc) ∧
 Keep [q9] jz lz ∧
 (fc = true →
 Calls Try.prog 16 #[.agg #[.int .i64 ch, .int .i64 a9, .int .i64 ab, .int .u64 bj, .int .i64 cn, .int .i64 c8, .int .i64 b2, .slice b4 an ap, .int .u64 cf, .int .i64 a7, .int .i64 am, .int .u64 bn, .int .i64 c0, .int .i64 ce, .int .i64 b8, .slice bc ay aw, .int .u64 bz, .int .i64 fh, .slice ki jy k3, .int .u64 g4]] lz fun sz oo => ∃ (d5 : Bool), sz = .returned (.bool d5) ∧
 (d5 = true →
 Calls Try.prog 8 #[] oo fun sm sg => ∃ (g8 : Bool), sm = .returned (.bool g8) ∧
 R (.bool g8) sg) ∧
 (d5 = false →
 R (.bool false) oo)) ∧
 (fc = false →
 R (.bool false) lz)) ∧
 (cp ≠ 0 →
 R (.bool false) jz)))))

theorem Q00.up (d3 a9 an c3 d5 d6 al : Int) (ap : Option Addr) (ak ao : Nat) (d4 a5 aa am c8 c5 a7 : Int) (ab : Option Addr) (a8 a6 : Nat) (bx d2 : Int) (dv : Option Addr) (dn dp : Nat) (d7 : Int) (q6 : Option Addr) (pw q7 : Nat) (n6 : Int) {R : RW} {w : World} (h : Q00.N d3 a9 an c3 d5 d6 al ap ak ao d4 a5 aa am c8 c5 a7 ab a8 a6 bx d2 dv dn dp d7 q6 pw q7 n6 R w) : Q00.M d3 a9 an c3 d5 d6 al ap ak ao d4 a5 aa am c8 c5 a7 ab a8 a6 bx d2 dv dn dp d7 q6 pw q7 n6 R w := by
  unfold Q00.M
  unfold Q00.N at h
  refine Q01 fun t7 ua => ?_
  have a1 := Blk.of_new ua
  have x0 := ((Ext.refl no w)).size
  have sz := (Ext.refl no w).x_alloc ua
  refine ⟨d3, a9, an, c3, d5, d6, al, ap, ak, ao, d4, a5, aa, am, c8, c5, a7, ab, a8, a6, bx, d2, dv, dn, dp, d7, ⟨a1.celli 0 rfl rfl, a1.celli 1 rfl rfl, a1.celli 2 rfl rfl, a1.celli 3 rfl rfl, a1.celli 4 rfl rfl, a1.celli 5 rfl rfl, a1.celli 6 rfl rfl, a1.celli 7 rfl rfl, a1.celli 8 rfl rfl, a1.celli 9 rfl rfl, a1.celli 10 rfl rfl, a1.celli 11 rfl rfl, a1.celli 12 rfl rfl, a1.celli 13 rfl rfl, a1.celli 14 rfl rfl, a1.celli 15 rfl rfl, a1.celli 16 rfl rfl, a1.celli 17 rfl rfl, a1.celli 18 rfl rfl, a1.celli 19 rfl rfl, trivial⟩, ?_⟩
  have h := h t7 (w.heap.size) sz (Priv.cons x0 a1.lt Priv.nil)
  refine h.mono fun xa xe h => ?_
  obtain ⟨mf, he, hk, h⟩ := h
  refine ⟨mf, he, ?_⟩
  have a1 := hk.blk a1 (by simp)
  refine bif_of (fun ta => ?_) (fun ta => ?_)
  ·have h := h.1 (not_t ta)
   refine h.mono fun x3 xd h => ?_
   obtain ⟨ko, he, h⟩ := h
   refine ⟨ko, he, ?_⟩
   exact h
  have h := h.2 (not_f ta)
  refine bif_of (fun t5 => ?_) (fun t5 => ?_)
  ·have h := h.1 (of_decide_eq_true t5)
   refine h.mono fun x6 x9 h => ?_
   obtain ⟨lu, he, h⟩ := h
   refine ⟨lu, he, ?_⟩
   exact h
  have h := h.2 (Int.not_lt.1 (of_decide_eq_false t5))
  first | unfold Q00.J7 | skip
  refine ⟨d3, a9, an, c3, d5, d6, al, ap, ak, ao, d4, a5, aa, am, c8, c5, a7, ab, a8, a6, bx, d2, dv, dn, dp, d7, ⟨a1.celli 0 rfl rfl, a1.celli 1 rfl rfl, a1.celli 2 rfl rfl, a1.celli 3 rfl rfl, a1.celli 4 rfl rfl, a1.celli 5 rfl rfl, a1.celli 6 rfl rfl, a1.celli 7 rfl rfl, a1.celli 8 rfl rfl, a1.celli 9 rfl rfl, a1.celli 10 rfl rfl, a1.celli 11 rfl rfl, a1.celli 12 rfl rfl, a1.celli 13 rfl rfl, a1.celli 14 rfl rfl, a1.celli 15 rfl rfl, a1.celli 16 rfl rfl, a1.celli 17 rfl rfl, a1.celli 18 rfl rfl, a1.celli 19 rfl rfl, trivial⟩, ?_⟩
  refine h.mono fun vw vy h => ?_
  obtain ⟨p9, gb, k7, mu, oc, oq, j6, k4, jz, jv, ow, g8, iy, mc, oy, ov, ji, jj, jy, jr, om, qx, sp, sv, su, s5, he, hk, h⟩ := h
  refine ⟨p9, gb, k7, mu, oc, oq, j6, k4, jz, jv, ow, g8, iy, mc, oy, ov, ji, jj, jy, jr, om, qx, sp, sv, su, s5, he, ?_⟩
  have a1 := hk.blk a1 (by simp)
  refine h.mono fun xf xb h => ?_
  obtain ⟨k9, j9, ki, mm, he, hk, h⟩ := h
  refine ⟨k9, j9, ki, mm, he, ?_⟩
  have a1 := hk.blk a1 (by simp)
  refine bif_fo (fun t9 => ?_) (fun t9 => ?_)
  ·have h := h.2 (beq_f t9)
   first | unfold Q00.J2 | skip
   refine h.mono fun tr jx h => ?_
   obtain ⟨cu, ai, aq, bz, d0, ck, bh, bj, b4, b6, cs, ag, b3, c4, cc, cr, bn, br, bd, bb, cb, dc, et, ek, em, di, le, he, h⟩ := h
   refine ⟨cu, ai, aq, bz, d0, ck, bh, bj, b4, b6, cs, ag, b3, c4, cc, cr, bn, br, bd, bb, cb, dc, et, ek, em, di, le, he, ?_⟩
   refine Q01 fun ue pe => ?_
   have a0 := Blk.of_new pe
   have qv := ((Ext.refl no jx)).size
   have pd := (Ext.refl no jx).x_alloc pe
   refine Q0F (k := 0) (j := 0) a0 (by exact Nat.le_of_ble_eq_true rfl) fun nb tf sy => ?_
   have mz := pd.x_puts tf (.inr qv)
   have a0 := Q0K sy rfl
   refine bif_of (fun nk => ?_) (fun nk => ?_)
   ·have h := h.1 (bne_t nk)
    refine ⟨cu, ai, aq, bz, d0, ck, bh, bj, b4, b6, cs, ag, b3, c4, cc, cr, bn, br, bd, bb, cb, dc, et, ek, em, di, ⟨a0.celli 0 rfl rfl, a0.celli 1 rfl rfl, a0.celli 2 rfl rfl, a0.celli 3 rfl rfl, a0.celli 4 rfl rfl, a0.celli 5 rfl rfl, a0.celli 6 rfl rfl, a0.celli 7 rfl rfl, a0.celli 8 rfl rfl, a0.celli 9 rfl rfl, a0.celli 10 rfl rfl, a0.celli 11 rfl rfl, a0.celli 12 rfl rfl, a0.celli 13 rfl rfl, a0.celli 14 rfl rfl, a0.celli 15 rfl rfl, a0.celli 16 rfl rfl, a0.celli 17 rfl rfl, a0.celli 18 rfl rfl, a0.celli 19 rfl rfl, trivial⟩, ?_⟩
    have h := h nb mz
    refine h.mono fun tl tx h => ?_
    obtain ⟨mk, e8, gs, jb, kk, l8, ft, f5, gy, g2, m8, e3, gt, ix, l7, ms, i9, fb, i2, fu, mb, nz, qg, sk, sc, ok, he, h⟩ := h
    refine ⟨mk, e8, gs, jb, kk, l8, ft, f5, gy, g2, m8, e3, gt, ix, l7, ms, i9, fb, i2, fu, mb, nz, qg, sk, sc, ok, he, ?_⟩
    refine h.mono fun tz v5 h => ?_
    obtain ⟨m0, he, h⟩ := h
    refine ⟨m0, he, ?_⟩
    refine bif_fo (fun nl => ?_) (fun nl => ?_)
    ·have h := h.2 nl
     exact h
    have h := h.1 nl
    refine h.mono fun u5 vp h => ?_
    obtain ⟨jm, he, h⟩ := h
    refine ⟨jm, he, ?_⟩
    exact h
   have h := h.2 (bne_f nk)
   first | unfold Q00.J1 | skip
   refine ⟨cu, ai, aq, bz, d0, ck, bh, bj, b4, b6, cs, ag, b3, c4, cc, cr, bn, br, bd, bb, cb, dc, et, ek, em, di, ⟨a0.celli 0 rfl rfl, a0.celli 1 rfl rfl, a0.celli 2 rfl rfl, a0.celli 3 rfl rfl, a0.celli 4 rfl rfl, a0.celli 5 rfl rfl, a0.celli 6 rfl rfl, a0.celli 7 rfl rfl, a0.celli 8 rfl rfl, a0.celli 9 rfl rfl, a0.celli 10 rfl rfl, a0.celli 11 rfl rfl, a0.celli 12 rfl rfl, a0.celli 13 rfl rfl, a0.celli 14 rfl rfl, a0.celli 15 rfl rfl, a0.celli 16 rfl rfl, a0.celli 17 rfl rfl, a0.celli 18 rfl rfl, a0.celli 19 rfl rfl, trivial⟩, ?_⟩
   have h := h nb (jx.heap.size) mz (Priv.cons qv a0.lt Priv.nil)
   refine h.mono fun vq uk h => ?_
   obtain ⟨gn, gr, i6, iu, he, hk, h⟩ := h
   refine ⟨gn, gr, i6, iu, he, ?_⟩
   have a0 := hk.blk a0 (by simp)
   refine bif_fo (fun p8 => ?_) (fun p8 => ?_)
   ·have h := h.2 (beq_f p8)
    exact h
   have h := h.1 (beq_t p8)
   refine h.mono fun uy u1 h => ?_
   obtain ⟨ku, he, hk, h⟩ := h
   refine ⟨ku, he, ?_⟩
   have a0 := hk.blk a0 (by simp)
   refine bif_fo (fun ol => ?_) (fun ol => ?_)
   ·have h := h.2 ol
    exact h
   have h := h.1 ol
   refine ⟨cu, ai, aq, bz, d0, ck, bh, bj, b4, b6, cs, ag, b3, c4, cc, cr, bn, br, bd, bb, cb, dc, et, ek, em, di, ⟨a0.celli 0 rfl rfl, a0.celli 1 rfl rfl, a0.celli 2 rfl rfl, a0.celli 3 rfl rfl, a0.celli 4 rfl rfl, a0.celli 5 rfl rfl, a0.celli 6 rfl rfl, a0.celli 7 rfl rfl, a0.celli 8 rfl rfl, a0.celli 9 rfl rfl, a0.celli 10 rfl rfl, a0.celli 11 rfl rfl, a0.celli 12 rfl rfl, a0.celli 13 rfl rfl, a0.celli 14 rfl rfl, a0.celli 15 rfl rfl, a0.celli 16 rfl rfl, a0.celli 17 rfl rfl, a0.celli 18 rfl rfl, a0.celli 19 rfl rfl, trivial⟩, ?_⟩
   refine h.mono fun vo u4 h => ?_
   obtain ⟨js, he, h⟩ := h
   refine ⟨js, he, ?_⟩
   refine bif_fo (fun os => ?_) (fun os => ?_)
   ·have h := h.2 os
    exact h
   have h := h.1 os
   refine h.mono fun vb v3 h => ?_
   obtain ⟨iw, he, h⟩ := h
   refine ⟨iw, he, ?_⟩
   exact h
  have h := h.1 (beq_t t9)
  refine h.mono fun x4 q3 h => ?_
  obtain ⟨j3, da, dl, es, jn, jd, dj, dw, dq, dm, ka, d9, dr, el, jc, k6, dt, ds, dk, du, kb, nc, pf, q2, q0, n2, p0, he, hk, h⟩ := h
  refine ⟨j3, da, dl, es, jn, jd, dj, dw, dq, dm, ka, d9, dr, el, jc, k6, dt, ds, dk, du, kb, nc, pf, q2, q0, n2, p0, he, ?_⟩
  have a1 := hk.blk a1 (by simp)
  refine Q01 fun x1 t3 => ?_
  have cq := Blk.of_new t3
  have vz := ((Ext.refl no q3)).size
  have q9 := Nat.ne_of_lt a1.lt
  have a1 := a1.x_alloc t3
  have t8 := (Ext.refl no q3).x_alloc t3
  refine Q0F (k := 0) (j := 0) cq (by exact Nat.le_of_ble_eq_true rfl) fun x8 vi xg => ?_
  have st := t8.x_puts vi (.inr vz)
  have a1 := a1.x_puts vi q9
  have cq := Q0K xg rfl
  refine Q01 fun s3 tg => ?_
  have qz := st.x_drew tg
  have a1 := a1.x_drew tg
  have cq := cq.x_drew tg
  refine bif_of (fun t4 => ?_) (fun t4 => ?_)
  ·have h := h.1 (bne_t t4)
   have h := h s3 qz
   exact h
  have h := h.2 (bne_f t4)
  refine ⟨j3, da, dl, es, jn, jd, dj, dw, dq, dm, ka, d9, dr, el, jc, k6, dt, ds, dk, du, kb, nc, pf, q2, q0, n2, ⟨cq.celli 0 rfl rfl, cq.celli 1 rfl rfl, cq.celli 2 rfl rfl, cq.celli 3 rfl rfl, cq.celli 4 rfl rfl, cq.celli 5 rfl rfl, cq.celli 6 rfl rfl, cq.celli 7 rfl rfl, cq.celli 8 rfl rfl, cq.celli 9 rfl rfl, cq.celli 10 rfl rfl, cq.celli 11 rfl rfl, cq.celli 12 rfl rfl, cq.celli 13 rfl rfl, cq.celli 14 rfl rfl, cq.celli 15 rfl rfl, cq.celli 16 rfl rfl, cq.celli 17 rfl rfl, cq.celli 18 rfl rfl, cq.celli 19 rfl rfl, trivial⟩, ?_⟩
  refine ⟨d3, a9, an, c3, d5, d6, al, ap, ak, ao, d4, a5, aa, am, c8, c5, a7, ab, a8, a6, bx, d2, dv, dn, dp, d7, ⟨a1.celli 0 rfl rfl, a1.celli 1 rfl rfl, a1.celli 2 rfl rfl, a1.celli 3 rfl rfl, a1.celli 4 rfl rfl, a1.celli 5 rfl rfl, a1.celli 6 rfl rfl, a1.celli 7 rfl rfl, a1.celli 8 rfl rfl, a1.celli 9 rfl rfl, a1.celli 10 rfl rfl, a1.celli 11 rfl rfl, a1.celli 12 rfl rfl, a1.celli 13 rfl rfl, a1.celli 14 rfl rfl, a1.celli 15 rfl rfl, a1.celli 16 rfl rfl, a1.celli 17 rfl rfl, a1.celli 18 rfl rfl, a1.celli 19 rfl rfl, trivial⟩, ?_⟩
  have h := h s3 qz
  refine h.mono fun ut v2 h => ?_
  obtain ⟨p4, fx, jh, ll, o9, pc, iz, k3, jp, jg, ln, e2, ga, k2, lm, ml, ik, gc, fs, ii, lg, nr, ph, qs, qq, o5, he, hk, h⟩ := h
  refine ⟨p4, fx, jh, ll, o9, pc, iz, k3, jp, jg, ln, e2, ga, k2, lm, ml, ik, gc, fs, ii, lg, nr, ph, qs, qq, o5, he, ?_⟩
  have a1 := hk.blk a1 (by simp)
  refine ⟨⟨a1.celli 0 rfl rfl, a1.celli 1 rfl rfl, a1.celli 2 rfl rfl, a1.celli 3 rfl rfl, a1.celli 4 rfl rfl, a1.celli 5 rfl rfl, a1.celli 6 rfl rfl, a1.celli 7 rfl rfl, a1.celli 8 rfl rfl, a1.celli 9 rfl rfl, a1.celli 10 rfl rfl, a1.celli 11 rfl rfl, a1.celli 12 rfl rfl, a1.celli 13 rfl rfl, a1.celli 14 rfl rfl, a1.celli 15 rfl rfl, a1.celli 16 rfl rfl, a1.celli 17 rfl rfl, a1.celli 18 rfl rfl, a1.celli 19 rfl rfl, trivial⟩, ?_⟩
  refine h.mono fun u9 d8 h => ?_
  obtain ⟨m9, he, h⟩ := h
  refine ⟨m9, he, ?_⟩
  refine bif_of (fun oo => ?_) (fun oo => ?_)
  ·have h := h.1 (not_t oo)
   exact h
  have h := h.2 (not_f oo)
  first | unfold Q00.J6 | skip
  refine bif_fo (fun oz => ?_) (fun oz => ?_)
  ·have h := h.2 (Int.not_le.1 (of_decide_eq_false oz))
   first | unfold Q00.J4 | unfold Q00.J5 | skip
   first | unfold Q00.J3 | skip
   refine Q01 fun qu ns => ?_
   have h := h qu d8.heap.size ((Ext.refl no d8).x_alloc ns) (Blk.of_new ns) ((Ext.refl no d8)).size (Q0q ns)
   obtain ⟨qk, qj, pg, ej, hr, h⟩ := h
   refine ⟨qk, qj, pg, ej, hr, ?_⟩
   refine Q01 fun pp ot => ?_
   have h := h pp ej.heap.size ((Ext.refl no ej).x_alloc ot) (Blk.of_new ot) ((Ext.refl no ej)).size (Q0q ot)
   obtain ⟨qc, sm, sf, s0, hr, h⟩ := h
   refine ⟨qc, sm, sf, s0, hr, ?_⟩
   refine h.mono fun ve n1 h => ?_
   obtain ⟨mw, e7, fv, j7, lq, l4, fw, ip, f4, il, kn, e4, f8, ju, lx, mt, g5, ic, gg, fr, lr, o1, sn, s1, pk, od, mp, he, h⟩ := h
   refine ⟨mw, e7, fv, j7, lq, l4, fw, ip, f4, il, kn, e4, f8, ju, lx, mt, g5, ic, gg, fr, lr, o1, sn, s1, pk, od, mp, he, ?_⟩
   refine Q01 fun vl q4 => ?_
   have uv := Blk.of_new q4
   have xh := ((Ext.refl no n1)).size
   have qb := (Ext.refl no n1).x_alloc q4
   refine Q0F (k := 0) (j := 0) uv (by exact Nat.le_of_ble_eq_true rfl) fun n8 sx t2 => ?_
   have nd := qb.x_puts sx (.inr xh)
   have uv := Q0K t2 rfl
   refine bif_of (fun oj => ?_) (fun oj => ?_)
   ·have h := h.1 (beq_t oj)
    have h := h n8 nd
    exact h
   have h := h.2 (beq_f oj)
   first | unfold Q00.J2 | skip
   have h := h n8 nd
   refine h.mono fun tt j1 h => ?_
   obtain ⟨cx, ae, b9, c2, co, cv, bl, bq, bo, au, cd, ac, bi, c7, ca, ce, av, b7, bk, b2, cy, dd, eo, ep, ei, dh, kp, he, h⟩ := h
   refine ⟨cx, ae, b9, c2, co, cv, bl, bq, bo, au, cd, ac, bi, c7, ca, ce, av, b7, bk, b2, cy, dd, eo, ep, ei, dh, kp, he, ?_⟩
   refine Q01 fun vr qh => ?_
   have a2 := Blk.of_new qh
   have uw := ((Ext.refl no j1)).size
   have s9 := (Ext.refl no j1).x_alloc qh
   refine Q0F (k := 0) (j := 0) a2 (by exact Nat.le_of_ble_eq_true rfl) fun my tc tb => ?_
   have n0 := s9.x_puts tc (.inr uw)
   have a2 := Q0K tb rfl
   refine bif_of (fun nn => ?_) (fun nn => ?_)
   ·have h := h.1 (bne_t nn)
    refine ⟨cx, ae, b9, c2, co, cv, bl, bq, bo, au, cd, ac, bi, c7, ca, ce, av, b7, bk, b2, cy, dd, eo, ep, ei, dh, ⟨a2.celli 0 rfl rfl, a2.celli 1 rfl rfl, a2.celli 2 rfl rfl, a2.celli 3 rfl rfl, a2.celli 4 rfl rfl, a2.celli 5 rfl rfl, a2.celli 6 rfl rfl, a2.celli 7 rfl rfl, a2.celli 8 rfl rfl, a2.celli 9 rfl rfl, a2.celli 10 rfl rfl, a2.celli 11 rfl rfl, a2.celli 12 rfl rfl, a2.celli 13 rfl rfl, a2.celli 14 rfl rfl, a2.celli 15 rfl rfl, a2.celli 16 rfl rfl, a2.celli 17 rfl rfl, a2.celli 18 rfl rfl, a2.celli 19 rfl rfl, trivial⟩, ?_⟩
    have h := h my n0
    refine h.mono fun vd tk h => ?_
    obtain ⟨km, e9, ij, k5, lj, l2, ig, gf, fg, gp, mn, e6, g0, kj, mo, kq, f9, gx, gq, ey, lz, o2, sj, pi, s2, o3, he, h⟩ := h
    refine ⟨km, e9, ij, k5, lj, l2, ig, gf, fg, gp, mn, e6, g0, kj, mo, kq, f9, gx, gq, ey, lz, o2, sj, pi, s2, o3, he, ?_⟩
    refine h.mono fun us ul h => ?_
    obtain ⟨lw, he, h⟩ := h
    refine ⟨lw, he, ?_⟩
    refine bif_fo (fun pb => ?_) (fun pb => ?_)
    ·have h := h.2 pb
     exact h
    have h := h.1 pb
    refine h.mono fun v9 tp h => ?_
    obtain ⟨j5, he, h⟩ := h
    refine ⟨j5, he, ?_⟩
    exact h
   have h := h.2 (bne_f nn)
   first | unfold Q00.J1 | skip
   refine ⟨cx, ae, b9, c2, co, cv, bl, bq, bo, au, cd, ac, bi, c7, ca, ce, av, b7, bk, b2, cy, dd, eo, ep, ei, dh, ⟨a2.celli 0 rfl rfl, a2.celli 1 rfl rfl, a2.celli 2 rfl rfl, a2.celli 3 rfl rfl, a2.celli 4 rfl rfl, a2.celli 5 rfl rfl, a2.celli 6 rfl rfl, a2.celli 7 rfl rfl, a2.celli 8 rfl rfl, a2.celli 9 rfl rfl, a2.celli 10 rfl rfl, a2.celli 11 rfl rfl, a2.celli 12 rfl rfl, a2.celli 13 rfl rfl, a2.celli 14 rfl rfl, a2.celli 15 rfl rfl, a2.celli 16 rfl rfl, a2.celli 17 rfl rfl, a2.celli 18 rfl rfl, a2.celli 19 rfl rfl, trivial⟩, ?_⟩
   have h := h my (j1.heap.size) n0 (Priv.cons uw a2.lt Priv.nil)
   refine h.mono fun ui ud h => ?_
   obtain ⟨fj, fp, g6, ke, he, hk, h⟩ := h
   refine ⟨fj, fp, g6, ke, he, ?_⟩
   have a2 := hk.blk a2 (by simp)
   refine bif_fo (fun nj => ?_) (fun nj => ?_)
   ·have h := h.2 (beq_f nj)
    exact h
   have h := h.1 (beq_t nj)
   refine h.mono fun ug u6 h => ?_
   obtain ⟨l6, he, hk, h⟩ := h
   refine ⟨l6, he, ?_⟩
   have a2 := hk.blk a2 (by simp)
   refine bif_fo (fun nx => ?_) (fun nx => ?_)
   ·have h := h.2 nx
    exact h
   have h := h.1 nx
   refine ⟨cx, ae, b9, c2, co, cv, bl, bq, bo, au, cd, ac, bi, c7, ca, ce, av, b7, bk, b2, cy, dd, eo, ep, ei, dh, ⟨a2.celli 0 rfl rfl, a2.celli 1 rfl rfl, a2.celli 2 rfl rfl, a2.celli 3 rfl rfl, a2.celli 4 rfl rfl, a2.celli 5 rfl rfl, a2.celli 6 rfl rfl, a2.celli 7 rfl rfl, a2.celli 8 rfl rfl, a2.celli 9 rfl rfl, a2.celli 10 rfl rfl, a2.celli 11 rfl rfl, a2.celli 12 rfl rfl, a2.celli 13 rfl rfl, a2.celli 14 rfl rfl, a2.celli 15 rfl rfl, a2.celli 16 rfl rfl, a2.celli 17 rfl rfl, a2.celli 18 rfl rfl, a2.celli 19 rfl rfl, trivial⟩, ?_⟩
   refine h.mono fun vn vf h => ?_
   obtain ⟨kd, he, h⟩ := h
   refine ⟨kd, he, ?_⟩
   refine bif_fo (fun p3 => ?_) (fun p3 => ?_)
   ·have h := h.2 p3
    exact h
   have h := h.1 p3
   refine h.mono fun uj vh h => ?_
   obtain ⟨it, he, h⟩ := h
   refine ⟨it, he, ?_⟩
   exact h
  have h := h.1 (of_decide_eq_true oz)
  first | unfold Q00.J4 | unfold Q00.J5 | skip
  refine bif_fo (fun nu => ?_) (fun nu => ?_)
  ·have h := h.2 (Int.not_lt.1 (of_decide_eq_false nu))
   first | unfold Q00.J3 | skip
   refine Q01 fun si oa => ?_
   have h := h si d8.heap.size ((Ext.refl no d8).x_alloc oa) (Blk.of_new oa) ((Ext.refl no d8)).size (Q0q oa)
   obtain ⟨q1, pq, px, eu, hr, h⟩ := h
   refine ⟨q1, pq, px, eu, hr, ?_⟩
   refine Q01 fun po o8 => ?_
   have h := h po eu.heap.size ((Ext.refl no eu).x_alloc o8) (Blk.of_new o8) ((Ext.refl no eu)).size (Q0q o8)
   obtain ⟨pv, qt, qy, pz, hr, h⟩ := h
   refine ⟨pv, qt, qy, pz, hr, ?_⟩
   refine h.mono fun um n7 h => ?_
   obtain ⟨me, ec, gu, j2, lc, kz, g4, fi, gh, g7, ma, ed, i1, k0, kw, ks, ge, fc, gj, gv, mj, nt, sa, sd, s6, o6, m5, he, h⟩ := h
   refine ⟨me, ec, gu, j2, lc, kz, g4, fi, gh, g7, ma, ed, i1, k0, kw, ks, ge, fc, gj, gv, mj, nt, sa, sd, s6, o6, m5, he, ?_⟩
   refine Q01 fun u2 qf => ?_
   have v7 := Blk.of_new qf
   have x2 := ((Ext.refl no n7)).size
   have qi := (Ext.refl no n7).x_alloc qf
   refine Q0F (k := 0) (j := 0) v7 (by exact Nat.le_of_ble_eq_true rfl) fun n5 t6 ss => ?_
   have nh := qi.x_puts t6 (.inr x2)
   have v7 := Q0K ss rfl
   refine bif_of (fun p1 => ?_) (fun p1 => ?_)
   ·have h := h.1 (beq_t p1)
    have h := h n5 nh
    exact h
   have h := h.2 (beq_f p1)
   first | unfold Q00.J2 | skip
   have h := h n5 nh
   refine h.mono fun tn kg h => ?_
   obtain ⟨ch, ah, b8, c0, ct, cp, b5, bp, bu, ar, cj, af, bt, c6, c9, cz, ay, az, bs, bc, d1, db, eq, eg, ee, dg, md, he, h⟩ := h
   refine ⟨ch, ah, b8, c0, ct, cp, b5, bp, bu, ar, cj, af, bt, c6, c9, cz, ay, az, bs, bc, d1, db, eq, eg, ee, dg, md, he, ?_⟩
   refine Q01 fun vs s7 => ?_
   have a4 := Blk.of_new s7
   have ty := ((Ext.refl no kg)).size
   have s4 := (Ext.refl no kg).x_alloc s7
   refine Q0F (k := 0) (j := 0) a4 (by exact Nat.le_of_ble_eq_true rfl) fun ne t1 t0 => ?_
   have n3 := s4.x_puts t1 (.inr ty)
   have a4 := Q0K t0 rfl
   refine bif_of (fun o7 => ?_) (fun o7 => ?_)
   ·have h := h.1 (bne_t o7)
    refine ⟨ch, ah, b8, c0, ct, cp, b5, bp, bu, ar, cj, af, bt, c6, c9, cz, ay, az, bs, bc, d1, db, eq, eg, ee, dg, ⟨a4.celli 0 rfl rfl, a4.celli 1 rfl rfl, a4.celli 2 rfl rfl, a4.celli 3 rfl rfl, a4.celli 4 rfl rfl, a4.celli 5 rfl rfl, a4.celli 6 rfl rfl, a4.celli 7 rfl rfl, a4.celli 8 rfl rfl, a4.celli 9 rfl rfl, a4.celli 10 rfl rfl, a4.celli 11 rfl rfl, a4.celli 12 rfl rfl, a4.celli 13 rfl rfl, a4.celli 14 rfl rfl, a4.celli 15 rfl rfl, a4.celli 16 rfl rfl, a4.celli 17 rfl rfl, a4.celli 18 rfl rfl, a4.celli 19 rfl rfl, trivial⟩, ?_⟩
    have h := h ne n3
    refine h.mono fun tw v6 h => ?_
    obtain ⟨kx, e1, iq, k1, l3, l5, g3, f2, i3, f6, kv, dz, im, jt, l1, lh, i5, fd, ib, ir, m6, ou, ql, s8, qm, np, he, h⟩ := h
    refine ⟨kx, e1, iq, k1, l3, l5, g3, f2, i3, f6, kv, dz, im, jt, l1, lh, i5, fd, ib, ir, m6, ou, ql, s8, qm, np, he, ?_⟩
    refine h.mono fun v8 uc h => ?_
    obtain ⟨kr, he, h⟩ := h
    refine ⟨kr, he, ?_⟩
    refine bif_fo (fun ob => ?_) (fun ob => ?_)
    ·have h := h.2 ob
     exact h
    have h := h.1 ob
    refine h.mono fun vc un h => ?_
    obtain ⟨j8, he, h⟩ := h
    refine ⟨j8, he, ?_⟩
    exact h
   have h := h.2 (bne_f o7)
   first | unfold Q00.J1 | skip
   refine ⟨ch, ah, b8, c0, ct, cp, b5, bp, bu, ar, cj, af, bt, c6, c9, cz, ay, az, bs, bc, d1, db, eq, eg, ee, dg, ⟨a4.celli 0 rfl rfl, a4.celli 1 rfl rfl, a4.celli 2 rfl rfl, a4.celli 3 rfl rfl, a4.celli 4 rfl rfl, a4.celli 5 rfl rfl, a4.celli 6 rfl rfl, a4.celli 7 rfl rfl, a4.celli 8 rfl rfl, a4.celli 9 rfl rfl, a4.celli 10 rfl rfl, a4.celli 11 rfl rfl, a4.celli 12 rfl rfl, a4.celli 13 rfl rfl, a4.celli 14 rfl rfl, a4.celli 15 rfl rfl, a4.celli 16 rfl rfl, a4.celli 17 rfl rfl, a4.celli 18 rfl rfl, a4.celli 19 rfl rfl, trivial⟩, ?_⟩
   have h := h ne (kg.heap.size) n3 (Priv.cons ty a4.lt Priv.nil)
   refine h.mono fun v4 vt h => ?_
   obtain ⟨g9, fh, f1, jk, he, hk, h⟩ := h
   refine ⟨g9, fh, f1, jk, he, ?_⟩
   have a4 := hk.blk a4 (by simp)
   refine bif_fo (fun pa => ?_) (fun pa => ?_)
   ·have h := h.2 (beq_f pa)
    exact h
   have h := h.1 (beq_t pa)
   refine h.mono fun uh ur h => ?_
   obtain ⟨lv, he, hk, h⟩ := h
   refine ⟨lv, he, ?_⟩
   have a4 := hk.blk a4 (by simp)
   refine bif_fo (fun p7 => ?_) (fun p7 => ?_)
   ·have h := h.2 p7
    exact h
   have h := h.1 p7
   refine ⟨ch, ah, b8, c0, ct, cp, b5, bp, bu, ar, cj, af, bt, c6, c9, cz, ay, az, bs, bc, d1, db, eq, eg, ee, dg, ⟨a4.celli 0 rfl rfl, a4.celli 1 rfl rfl, a4.celli 2 rfl rfl, a4.celli 3 rfl rfl, a4.celli 4 rfl rfl, a4.celli 5 rfl rfl, a4.celli 6 rfl rfl, a4.celli 7 rfl rfl, a4.celli 8 rfl rfl, a4.celli 9 rfl rfl, a4.celli 10 rfl rfl, a4.celli 11 rfl rfl, a4.celli 12 rfl rfl, a4.celli 13 rfl rfl, a4.celli 14 rfl rfl, a4.celli 15 rfl rfl, a4.celli 16 rfl rfl, a4.celli 17 rfl rfl, a4.celli 18 rfl rfl, a4.celli 19 rfl rfl, trivial⟩, ?_⟩
   refine h.mono fun va tu h => ?_
   obtain ⟨jf, he, h⟩ := h
   refine ⟨jf, he, ?_⟩
   refine bif_fo (fun p6 => ?_) (fun p6 => ?_)
   ·have h := h.2 p6
    exact h
   have h := h.1 p6
   refine h.mono fun vj ub h => ?_
   obtain ⟨kh, he, h⟩ := h
   refine ⟨kh, he, ?_⟩
   exact h
  have h := h.1 (of_decide_eq_true nu)
  obtain ⟨x5, x7, h⟩ := h
  refine ⟨x5, x7, ?_⟩
  try rw [Q3A]
  refine h.mono fun uq nf h => ?_
  obtain ⟨kl, eb, ev, jl, lf, mr, ia, f0, fa, gm, l0, dy, fq, j4, ls, mv, fm, f7, f3, ff, m1, nv, ps, qa, sh, o4, ky, he, h⟩ := h
  refine ⟨kl, eb, ev, jl, lf, mr, ia, f0, fa, gm, l0, dy, fq, j4, ls, mv, fm, f7, f3, ff, m1, nv, ps, qa, sh, o4, ky, he, ?_⟩
  refine Q01 fun tq qr => ?_
  have vk := Blk.of_new qr
  have xc := ((Ext.refl no nf)).size
  have q5 := (Ext.refl no nf).x_alloc qr
  refine Q0F (k := 0) (j := 0) vk (by exact Nat.le_of_ble_eq_true rfl) fun na sr sq => ?_
  have kc := q5.x_puts sr (.inr xc)
  have vk := Q0K sq rfl
  refine bif_of (fun nm => ?_) (fun nm => ?_)
  ·have h := h.1 (beq_t nm)
   have h := h na kc
   exact h
  have h := h.2 (beq_f nm)
  first | unfold Q00.J3 | skip
  refine Q01 fun py ox => ?_
  have h := h py na.heap.size (kc.x_alloc ox) (Blk.of_new ox) (kc).size (Q0q ox)
  obtain ⟨qe, qn, pj, en, hr, h⟩ := h
  refine ⟨qe, qn, pj, en, hr, ?_⟩
  refine Q01 fun pr nw => ?_
  have h := h pr en.heap.size ((Ext.refl no en).x_alloc nw) (Blk.of_new nw) ((Ext.refl no en)).size (Q0q nw)
  obtain ⟨pu, q8, se, qp, hr, h⟩ := h
  refine ⟨pu, q8, se, qp, hr, ?_⟩
  refine h.mono fun vv ng h => ?_
  obtain ⟨lb, e0, fo, jq, m3, mh, ew, gi, ih, fl, ly, ea, gk, k8, lk, mi, i7, ez, gl, g1, kt, ny, sb, pm, qo, oh, la, he, h⟩ := h
  refine ⟨lb, e0, fo, jq, m3, mh, ew, gi, ih, fl, ly, ea, gk, k8, lk, mi, i7, ez, gl, g1, kt, ny, sb, pm, qo, oh, la, he, ?_⟩
  refine Q01 fun v1 qw => ?_
  have uz := Blk.of_new qw
  have vx := ((Ext.refl no ng)).size
  have pt := (Ext.refl no ng).x_alloc qw
  refine Q0F (k := 0) (j := 0) uz (by exact Nat.le_of_ble_eq_true rfl) fun mx sw te => ?_
  have n9 := pt.x_puts sw (.inr vx)
  have uz := Q0K te rfl
  refine bif_of (fun oe => ?_) (fun oe => ?_)
  ·have h := h.1 (beq_t oe)
   have h := h mx n9
   exact h
  have h := h.2 (beq_f oe)
  first | unfold Q00.J2 | skip
  have h := h mx n9
  refine h.mono fun vg je h => ?_
  obtain ⟨ci, ad, b0, bw, cl, cw, ax, be, bv, b1, cn, aj, ba, c1, cf, cm, aw, bf, bg, bm, cg, df, ef, er, eh, de, m2, he, h⟩ := h
  refine ⟨ci, ad, b0, bw, cl, cw, ax, be, bv, b1, cn, aj, ba, c1, cf, cm, aw, bf, bg, bm, cg, df, ef, er, eh, de, m2, he, ?_⟩
  refine Q01 fun uf pn => ?_
  have a3 := Blk.of_new pn
  have u8 := ((Ext.refl no je)).size
  have pl := (Ext.refl no je).x_alloc pn
  refine Q0F (k := 0) (j := 0) a3 (by exact Nat.le_of_ble_eq_true rfl) fun ni td th => ?_
  have n4 := pl.x_puts td (.inr u8)
  have a3 := Q0K th rfl
  refine bif_of (fun nq => ?_) (fun nq => ?_)
  ·have h := h.1 (bne_t nq)
   refine ⟨ci, ad, b0, bw, cl, cw, ax, be, bv, b1, cn, aj, ba, c1, cf, cm, aw, bf, bg, bm, cg, df, ef, er, eh, de, ⟨a3.celli 0 rfl rfl, a3.celli 1 rfl rfl, a3.celli 2 rfl rfl, a3.celli 3 rfl rfl, a3.celli 4 rfl rfl, a3.celli 5 rfl rfl, a3.celli 6 rfl rfl, a3.celli 7 rfl rfl, a3.celli 8 rfl rfl, a3.celli 9 rfl rfl, a3.celli 10 rfl rfl, a3.celli 11 rfl rfl, a3.celli 12 rfl rfl, a3.celli 13 rfl rfl, a3.celli 14 rfl rfl, a3.celli 15 rfl rfl, a3.celli 16 rfl rfl, a3.celli 17 rfl rfl, a3.celli 18 rfl rfl, a3.celli 19 rfl rfl, trivial⟩, ?_⟩
   have h := h ni n4
   refine h.mono fun ux uu h => ?_
   obtain ⟨mg, e5, fe, j0, ld, mq, fk, fz, io, ex, li, dx, gw, kf, lo, m7, fy, i4, gz, gd, l9, op, sg, qd, sl, p2, he, h⟩ := h
   refine ⟨mg, e5, fe, j0, ld, mq, fk, fz, io, ex, li, dx, gw, kf, lo, m7, fy, i4, gz, gd, l9, op, sg, qd, sl, p2, he, ?_⟩
   refine h.mono fun u3 u0 h => ?_
   obtain ⟨m4, he, h⟩ := h
   refine ⟨m4, he, ?_⟩
   refine bif_fo (fun p5 => ?_) (fun p5 => ?_)
   ·have h := h.2 p5
    exact h
   have h := h.1 p5
   refine h.mono fun v0 uo h => ?_
   obtain ⟨jw, he, h⟩ := h
   refine ⟨jw, he, ?_⟩
   exact h
  have h := h.2 (bne_f nq)
  first | unfold Q00.J1 | skip
  refine ⟨ci, ad, b0, bw, cl, cw, ax, be, bv, b1, cn, aj, ba, c1, cf, cm, aw, bf, bg, bm, cg, df, ef, er, eh, de, ⟨a3.celli 0 rfl rfl, a3.celli 1 rfl rfl, a3.celli 2 rfl rfl, a3.celli 3 rfl rfl, a3.celli 4 rfl rfl, a3.celli 5 rfl rfl, a3.celli 6 rfl rfl, a3.celli 7 rfl rfl, a3.celli 8 rfl rfl, a3.celli 9 rfl rfl, a3.celli 10 rfl rfl, a3.celli 11 rfl rfl, a3.celli 12 rfl rfl, a3.celli 13 rfl rfl, a3.celli 14 rfl rfl, a3.celli 15 rfl rfl, a3.celli 16 rfl rfl, a3.celli 17 rfl rfl, a3.celli 18 rfl rfl, a3.celli 19 rfl rfl, trivial⟩, ?_⟩
  have h := h ni (je.heap.size) n4 (Priv.cons u8 a3.lt Priv.nil)
  refine h.mono fun tv tj h => ?_
  obtain ⟨ie, i8, i0, iv, he, hk, h⟩ := h
  refine ⟨ie, i8, i0, iv, he, ?_⟩
  have a3 := hk.blk a3 (by simp)
  refine bif_fo (fun og => ?_) (fun og => ?_)
  ·have h := h.2 (beq_f og)
   exact h
  have h := h.1 (beq_t og)
  refine h.mono fun vm vu h => ?_
  obtain ⟨lp, he, hk, h⟩ := h
  refine ⟨lp, he, ?_⟩
  have a3 := hk.blk a3 (by simp)
  refine bif_fo (fun o0 => ?_) (fun o0 => ?_)
  ·have h := h.2 o0
   exact h
  have h := h.1 o0
  refine ⟨ci, ad, b0, bw, cl, cw, ax, be, bv, b1, cn, aj, ba, c1, cf, cm, aw, bf, bg, bm, cg, df, ef, er, eh, de, ⟨a3.celli 0 rfl rfl, a3.celli 1 rfl rfl, a3.celli 2 rfl rfl, a3.celli 3 rfl rfl, a3.celli 4 rfl rfl, a3.celli 5 rfl rfl, a3.celli 6 rfl rfl, a3.celli 7 rfl rfl, a3.celli 8 rfl rfl, a3.celli 9 rfl rfl, a3.celli 10 rfl rfl, a3.celli 11 rfl rfl, a3.celli 12 rfl rfl, a3.celli 13 rfl rfl, a3.celli 14 rfl rfl, a3.celli 15 rfl rfl, a3.celli 16 rfl rfl, a3.celli 17 rfl rfl, a3.celli 18 rfl rfl, a3.celli 19 rfl rfl, trivial⟩, ?_⟩
  refine h.mono fun tm ts h => ?_
  obtain ⟨jo, he, h⟩ := h
  refine ⟨jo, he, ?_⟩
  refine bif_fo (fun oi => ?_) (fun oi => ?_)
  ·have h := h.2 oi
   exact h
  have h := h.1 oi
  refine h.mono fun u7 ti h => ?_
  obtain ⟨ja, he, h⟩ := h
  refine ⟨ja, he, ?_⟩
  exact h

theorem Q00.go (am a6 a8 ae ak ai a7 : Int) (ab : Option Addr) (a9 aa : Nat) (ah a0 a3 ac af ad a1 : Int) (a5 : Option Addr) (a2 a4 : Nat) (ag aj : Int) (ap : Option Addr) (aq ao : Nat) (al : Int) (ar : Option Addr) (av au : Nat) (an : Int) {R : RW} {w : World} (h : Q00.N am a6 a8 ae ak ai a7 ab a9 aa ah a0 a3 ac af ad a1 a5 a2 a4 ag aj ap aq ao al ar av au an R w) : Calls Try.prog 4 #[.agg #[.int .i64 am, .int .i64 a6, .int .i64 a8, .int .u64 ae, .int .i64 ak, .int .i64 ai, .int .i64 a7, .slice ab a9 aa, .int .u64 ah, .int .i64 a0, .int .i64 a3, .int .u64 ac, .int .i64 af, .int .i64 ad, .int .i64 a1, .slice a5 a2 a4, .int .u64 ag, .int .i64 aj, .slice ap aq ao, .int .u64 al], .slice ar av au, .int .i64 an] w fun e w' => ∃ v, e = .returned v ∧ R v w' := Q00.ok am a6 a8 ae ak ai a7 ab a9 aa ah a0 a3 ac af ad a1 a5 a2 a4 ag aj ap aq ao al ar av au an (Q00.up am a6 a8 ae ak ai a7 ab a9 aa ah a0 a3 ac af ad a1 a5 a2 a4 ag aj ap aq ao al ar av au an h)
theorem Q00.run (am a6 a8 ae ak ai a7 : Int) (ab : Option Addr) (a9 aa : Nat) (ah a0 a3 ac af ad a1 : Int) (a5 : Option Addr) (a2 a4 : Nat) (ag aj : Int) (ap : Option Addr) (aq ao : Nat) (al : Int) (ar : Option Addr) (av au : Nat) (an : Int) {V : Value} {Q : World → Prop} {w : World} (h : Q00.N am a6 a8 ae ak ai a7 ab a9 aa ah a0 a3 ac af ad a1 a5 a2 a4 ag aj ap aq ao al ar av au an (fun v w' => v = V ∧ Q w') w) : Calls Try.prog 4 #[.agg #[.int .i64 am, .int .i64 a6, .int .i64 a8, .int .u64 ae, .int .i64 ak, .int .i64 ai, .int .i64 a7, .slice ab a9 aa, .int .u64 ah, .int .i64 a0, .int .i64 a3, .int .u64 ac, .int .i64 af, .int .i64 ad, .int .i64 a1, .slice a5 a2 a4, .int .u64 ag, .int .i64 aj, .slice ap aq ao, .int .u64 al], .slice ar av au, .int .i64 an] w (Ret V Q) := (Q00.go am a6 a8 ae ak ai a7 ab a9 aa ah a0 a3 ac af ad a1 a5 a2 a4 ag aj ap aq ao al ar av au an h).mono fun e w' ⟨v, he, hv, hq⟩ => ⟨by rw [he, hv], hq⟩
set_option maxRecDepth 20000
set_option maxHeartbeats 8000000
open W (OwnB)
theorem Q1M {x : Fr} (h : frOK x = true) : x.v.length ≤ 8 := by
  rcases frOK_kd h with k | k | k | k
  · rw [(frOK_1 h k).2.2.2.1]; decide
  · exact Q1u (frOK_2 h k).2.2.2.2.1
  · exact Q1u (frOK_3 h k).2.2.2.2
  · rw [(frOK_4 h k).2.2.2.1]; decide
theorem Q2r (W : World) {x : FP} (hx : x.inn W) {ba : Option Addr} {bc : Nat} {b : List UInt8} (hb : RowAt W ba (bytesV b)) (hbc : b.length ≤ bc) (cut : Int) :
    Calls Try.prog 4 #[x.V, .slice ba b.length bc, .int .i64 cut] W (Ret (.bool true) fun w' => Ext no W w') := by
  refine Q00.run x.r.kd x.r.e.w x.r.e.i x.r.e.pv x.r.e.t x.r.e.tw x.r.e.ep x.ea x.r.e.body.length x.ec x.r.e.sg x.r.f.w x.r.f.i x.r.f.pv x.r.f.t x.r.f.tw x.r.f.ep x.fa x.r.f.body.length x.fc x.r.f.sg x.r.who x.va x.r.v.length x.vc x.r.sg ba b.length bc cut ?_
  unfold Q00.N
  have hal : ∀ w1, Ext no W w1 → Calls Try.prog 8 #[] w1 fun ee w2 => ∃ b : Bool, ee = .returned (.bool b) ∧ Value.bool b = Value.bool true ∧ Ext no W w2 := fun w1 X =>
    (Q33 w1).mono fun v w2 ⟨hx, X2⟩ => ⟨_, hx, rfl, X.trans X2⟩
  intro w23 p24 X23 hp
  refine (Q2U (w := w23) x).mono fun u w27 ⟨he, X27⟩ => ⟨_, he, X27.kept, fun _ => hal _ (X23.trans X27), fun hlx => ⟨fun _ => hal _ (X23.trans X27), fun hbl => ?_⟩⟩
  have Y27 := X23.trans X27
  obtain ⟨lx1, lx2, lx3⟩ := light_v hlx
  refine (Q3P (w := w27) x).mono fun u w57 ⟨he, X57⟩ => ⟨_, _, _, _, _, _, _, _, _, _, _, _, _, _, _, _, _, _, _, _, _, _, _, _, _, _, he, X57.kept, ?_⟩
  have Y57 := Y27.trans X57
  refine (Q0S (hx.at_.no Y57) hx.fit (by omega)).mono fun u w61 ⟨a1, c1, he, hO1, X61⟩ => ?_
  have Y61 := Y57.trans X61
  by_cases h1 : (frK x.r).2 = 0
  · obtain ⟨k1, k2, k3⟩ := frK_ok h1
    rw [k3] at he hO1
    have he : u = .returned (.tuple #[.slice a1 (frL x.r).length c1, .int .i64 0]) := he
    have hO1 : OwnB w57.heap.size w61 a1 c1 (frL x.r) := hO1
    refine ⟨a1, _, c1, _, he, X61.kept, fun _ => ?_, fun h => absurd rfl h⟩
    have hrd := Q1Z k1 hx.fit k2
    refine (Q0O hO1.row hO1.le).mono fun u w85 ⟨z, he, hz, hza, X85⟩ => ?_
    rw [hrd] at he hz
    have he : u = .returned (.tuple #[z.V, .int .i64 0]) := he
    have hz : z.r = x.r := hz
    refine ⟨_, _, _, _, _, _, _, _, _, _, _, _, _, _, _, _, _, _, _, _, _, _, _, _, _, _, _, he, X85.kept, fun h => absurd rfl h, fun _ w107 X107 => ?_⟩
    have Y107 := (Y61.trans X85).trans X107
    refine (Q17 (w := w107) z).mono fun u w132 ⟨he, X132⟩ => ⟨_, _, _, _, _, _, _, _, _, _, _, _, _, _, _, _, _, _, _, _, _, _, _, _, _, _, he, X132.kept, ?_⟩
    have Y132 := Y107.trans X132
    refine (Q15 (x := z) (y := x) ((hza.no X107).no X132) (hx.at_.no Y132) (by rw [hz]; omega) (by rw [hz]; omega) (by rw [hz]; omega)).mono fun u w135 ⟨he, X135⟩ => ⟨_, he, fun h => absurd h (by rw [hz]; simp [frSame]), fun _ => ?_⟩
    have Y135 := Y132.trans X135
    have hxr135 : RowAt w135 a1 (bytesV (frL x.r)) := (((hO1.row.no X85).no X107).no X132).no X135
    have hle := hO1.le
    refine ⟨fun hc0 => ⟨fun hc1 => ?_, fun hc1 w3 q3 X3 b3 g3 g3' => ?_⟩, fun hc0 w3 q3 X3 b3 g3 g3' => ?_⟩
    · refine ⟨hc0, by omega, ?_⟩
      obtain ⟨n, rfl⟩ : ∃ n : Nat, cut = n := ⟨cut.toNat, by omega⟩
      rw [Int.toNat_natCast]
      have hn : n < (frL x.r).length := by omega
      have hlt : ((frL x.r).take n).length = n := by rw [List.length_take]; omega
      have hcut := Q0O (w := w135) (a := a1) (c := c1) (b := (frL x.r).take n) (by rw [show bytesV ((frL x.r).take n) = (bytesV (frL x.r)).take n by simp [bytesV]]; exact hxr135.take n) (by omega)
      rw [hlt] at hcut
      refine hcut.mono fun u w161 ⟨z2, he, hz2, hza2, X161⟩ => ⟨_, _, _, _, _, _, _, _, _, _, _, _, _, _, _, _, _, _, _, _, _, _, _, _, _, _, _, he, fun h => absurd h (Q40 k1 hx.fit hn), fun _ w3 q3 X3 b3 g3 g3' => ?_⟩
      have XV := Y135.trans X161
      have hxr := hxr135.no X161
      generalize w161 = wv at *
      have o3 : OwnB wv.heap.size w3 (some (blk q3)) 0 [] := ⟨Q16 b3 rfl (by simp [maxLen]), fun ad ha => by cases ha; exact ⟨g3, g3'⟩⟩
      obtain ⟨a4, c4, w4, r4, o4, Y4, _, n4⟩ := app (xc := c1) o3 (XV.trans X3) XV.size (Nat.le_trans g3 (Nat.le_of_lt g3')) (Ext.refl _ _) (hxr.no X3) (by simp only [List.length_nil]; omega)
      refine ⟨a4, _, c4, w4, r4, fun w5 q5 X5 b5 g5 g5' => ?_⟩
      obtain ⟨a6, c6, w6, r6, o6, Y6, _, _⟩ := app (xc := 1) (x := [0]) o4 Y4 XV.size n4 X5 (RowAt.of_blk b5) (by simp only [List.nil_append, List.length_singleton]; omega)
      refine ⟨a6, _, c6, w6, r6, ?_⟩
      refine (Q0O o6.row o6.le).mono fun u w7 ⟨z7, he, hz7, hza7, X7⟩ => ⟨_, _, _, _, _, _, _, _, _, _, _, _, _, _, _, _, _, _, _, _, _, _, _, _, _, _, _, he, fun h => absurd h (Q1G k1 hx.fit), fun _ w8 X8 => ?_⟩
      have XX := (Y6.trans X7).trans X8
      refine (Q0O (hb.no XX) hbc).mono fun u wr ⟨z, he, hz, hza, Xr⟩ => ⟨_, _, _, _, _, _, _, _, _, _, _, _, _, _, _, _, _, _, _, _, _, _, _, _, _, _, _, he, fun hn ws Xs => ?_, fun hn ws p Xs hp => ?_⟩
      · have XS := (XX.trans Xr).trans Xs
        have hz0 : z.r = Fr.zero := hz.trans (Q1m hn)
        refine (Q17 (w := ws) z).mono fun u wt ⟨he, Xt⟩ => ⟨_, _, _, _, _, _, _, _, _, _, _, _, _, _, _, _, _, _, _, _, _, _, _, _, _, _, he, ?_⟩
        refine (Q15 (x := z) (y := FP.zero) ((hza.no Xs).no Xt) ⟨RowAt.nil _ _, RowAt.nil _ _, RowAt.nil _ _⟩ (by rw [hz0]; decide) (by rw [hz0]; decide) (by rw [hz0]; decide)).mono fun u wu ⟨he, Xu⟩ => ⟨_, he, fun _ => hal _ ((XS.trans Xt).trans Xu), fun h => absurd h ?_⟩
        rw [hz0]; simp [frSame, FP.zero]
      · have XS := (XX.trans Xr).trans Xs
        obtain ⟨g1, g2, g3, g4⟩ := Q19 hn
        rw [← hz] at g1 g2 g3
        have hK : frK z.r = (b, 0) := by unfold frK; rw [g2, if_neg (by decide), g1, if_neg (by omega)]
        have hv := Q1M g2
        refine (Q0S (hza.no Xs) g3 (by omega)).mono fun u wt ⟨a9, c9, he, hO9, Xt⟩ => ?_
        rw [hK] at he hO9
        have he : u = .returned (.tuple #[.slice a9 b.length c9, .int .i64 0]) := he
        have XT := XS.trans Xt
        refine ⟨a9, _, c9, _, he, Xt.kept, fun _ => ?_, fun h => absurd rfl h⟩
        refine (sameB_spec (x := b) (y := b) hO9.row (hb.no XT) (by omega)).mono fun u wu ⟨he, Xu⟩ => ⟨_, he, Xu.kept, fun _ => ?_, fun h => absurd h (by simp)⟩
        have XU := XT.trans Xu
        exact (Q0Y (((hza.no Xs).no Xt).no Xu) (by omega)).mono fun u wv2 ⟨he, Xv⟩ => ⟨_, he, fun _ => hal _ (XU.trans Xv), fun h => absurd h (by rw [g2]; decide)⟩
    · have XV := Y135
      have hxr := hxr135
      generalize w135 = wv at *
      have o3 : OwnB wv.heap.size w3 (some (blk q3)) 0 [] := ⟨Q16 b3 rfl (by simp [maxLen]), fun ad ha => by cases ha; exact ⟨g3, g3'⟩⟩
      obtain ⟨a4, c4, w4, r4, o4, Y4, _, n4⟩ := app (xc := c1) o3 (XV.trans X3) XV.size (Nat.le_trans g3 (Nat.le_of_lt g3')) (Ext.refl _ _) (hxr.no X3) (by simp only [List.length_nil]; omega)
      refine ⟨a4, _, c4, w4, r4, fun w5 q5 X5 b5 g5 g5' => ?_⟩
      obtain ⟨a6, c6, w6, r6, o6, Y6, _, _⟩ := app (xc := 1) (x := [0]) o4 Y4 XV.size n4 X5 (RowAt.of_blk b5) (by simp only [List.nil_append, List.length_singleton]; omega)
      refine ⟨a6, _, c6, w6, r6, ?_⟩
      refine (Q0O o6.row o6.le).mono fun u w7 ⟨z7, he, hz7, hza7, X7⟩ => ⟨_, _, _, _, _, _, _, _, _, _, _, _, _, _, _, _, _, _, _, _, _, _, _, _, _, _, _, he, fun h => absurd h (Q1G k1 hx.fit), fun _ w8 X8 => ?_⟩
      have XX := (Y6.trans X7).trans X8
      refine (Q0O (hb.no XX) hbc).mono fun u wr ⟨z, he, hz, hza, Xr⟩ => ⟨_, _, _, _, _, _, _, _, _, _, _, _, _, _, _, _, _, _, _, _, _, _, _, _, _, _, _, he, fun hn ws Xs => ?_, fun hn ws p Xs hp => ?_⟩
      · have XS := (XX.trans Xr).trans Xs
        have hz0 : z.r = Fr.zero := hz.trans (Q1m hn)
        refine (Q17 (w := ws) z).mono fun u wt ⟨he, Xt⟩ => ⟨_, _, _, _, _, _, _, _, _, _, _, _, _, _, _, _, _, _, _, _, _, _, _, _, _, _, he, ?_⟩
        refine (Q15 (x := z) (y := FP.zero) ((hza.no Xs).no Xt) ⟨RowAt.nil _ _, RowAt.nil _ _, RowAt.nil _ _⟩ (by rw [hz0]; decide) (by rw [hz0]; decide) (by rw [hz0]; decide)).mono fun u wu ⟨he, Xu⟩ => ⟨_, he, fun _ => hal _ ((XS.trans Xt).trans Xu), fun h => absurd h ?_⟩
        rw [hz0]; simp [frSame, FP.zero]
      · have XS := (XX.trans Xr).trans Xs
        obtain ⟨g1, g2, g3, g4⟩ := Q19 hn
        rw [← hz] at g1 g2 g3
        have hK : frK z.r = (b, 0) := by unfold frK; rw [g2, if_neg (by decide), g1, if_neg (by omega)]
        have hv := Q1M g2
        refine (Q0S (hza.no Xs) g3 (by omega)).mono fun u wt ⟨a9, c9, he, hO9, Xt⟩ => ?_
        rw [hK] at he hO9
        have he : u = .returned (.tuple #[.slice a9 b.length c9, .int .i64 0]) := he
        have XT := XS.trans Xt
        refine ⟨a9, _, c9, _, he, Xt.kept, fun _ => ?_, fun h => absurd rfl h⟩
        refine (sameB_spec (x := b) (y := b) hO9.row (hb.no XT) (by omega)).mono fun u wu ⟨he, Xu⟩ => ⟨_, he, Xu.kept, fun _ => ?_, fun h => absurd h (by simp)⟩
        have XU := XT.trans Xu
        exact (Q0Y (((hza.no Xs).no Xt).no Xu) (by omega)).mono fun u wv2 ⟨he, Xv⟩ => ⟨_, he, fun _ => hal _ (XU.trans Xv), fun h => absurd h (by rw [g2]; decide)⟩
    · have XV := Y135
      have hxr := hxr135
      generalize w135 = wv at *
      have o3 : OwnB wv.heap.size w3 (some (blk q3)) 0 [] := ⟨Q16 b3 rfl (by simp [maxLen]), fun ad ha => by cases ha; exact ⟨g3, g3'⟩⟩
      obtain ⟨a4, c4, w4, r4, o4, Y4, _, n4⟩ := app (xc := c1) o3 (XV.trans X3) XV.size (Nat.le_trans g3 (Nat.le_of_lt g3')) (Ext.refl _ _) (hxr.no X3) (by simp only [List.length_nil]; omega)
      refine ⟨a4, _, c4, w4, r4, fun w5 q5 X5 b5 g5 g5' => ?_⟩
      obtain ⟨a6, c6, w6, r6, o6, Y6, _, _⟩ := app (xc := 1) (x := [0]) o4 Y4 XV.size n4 X5 (RowAt.of_blk b5) (by simp only [List.nil_append, List.length_singleton]; omega)
      refine ⟨a6, _, c6, w6, r6, ?_⟩
      refine (Q0O o6.row o6.le).mono fun u w7 ⟨z7, he, hz7, hza7, X7⟩ => ⟨_, _, _, _, _, _, _, _, _, _, _, _, _, _, _, _, _, _, _, _, _, _, _, _, _, _, _, he, fun h => absurd h (Q1G k1 hx.fit), fun _ w8 X8 => ?_⟩
      have XX := (Y6.trans X7).trans X8
      refine (Q0O (hb.no XX) hbc).mono fun u wr ⟨z, he, hz, hza, Xr⟩ => ⟨_, _, _, _, _, _, _, _, _, _, _, _, _, _, _, _, _, _, _, _, _, _, _, _, _, _, _, he, fun hn ws Xs => ?_, fun hn ws p Xs hp => ?_⟩
      · have XS := (XX.trans Xr).trans Xs
        have hz0 : z.r = Fr.zero := hz.trans (Q1m hn)
        refine (Q17 (w := ws) z).mono fun u wt ⟨he, Xt⟩ => ⟨_, _, _, _, _, _, _, _, _, _, _, _, _, _, _, _, _, _, _, _, _, _, _, _, _, _, he, ?_⟩
        refine (Q15 (x := z) (y := FP.zero) ((hza.no Xs).no Xt) ⟨RowAt.nil _ _, RowAt.nil _ _, RowAt.nil _ _⟩ (by rw [hz0]; decide) (by rw [hz0]; decide) (by rw [hz0]; decide)).mono fun u wu ⟨he, Xu⟩ => ⟨_, he, fun _ => hal _ ((XS.trans Xt).trans Xu), fun h => absurd h ?_⟩
        rw [hz0]; simp [frSame, FP.zero]
      · have XS := (XX.trans Xr).trans Xs
        obtain ⟨g1, g2, g3, g4⟩ := Q19 hn
        rw [← hz] at g1 g2 g3
        have hK : frK z.r = (b, 0) := by unfold frK; rw [g2, if_neg (by decide), g1, if_neg (by omega)]
        have hv := Q1M g2
        refine (Q0S (hza.no Xs) g3 (by omega)).mono fun u wt ⟨a9, c9, he, hO9, Xt⟩ => ?_
        rw [hK] at he hO9
        have he : u = .returned (.tuple #[.slice a9 b.length c9, .int .i64 0]) := he
        have XT := XS.trans Xt
        refine ⟨a9, _, c9, _, he, Xt.kept, fun _ => ?_, fun h => absurd rfl h⟩
        refine (sameB_spec (x := b) (y := b) hO9.row (hb.no XT) (by omega)).mono fun u wu ⟨he, Xu⟩ => ⟨_, he, Xu.kept, fun _ => ?_, fun h => absurd h (by simp)⟩
        have XU := XT.trans Xu
        exact (Q0Y (((hza.no Xs).no Xt).no Xu) (by omega)).mono fun u wv2 ⟨he, Xv⟩ => ⟨_, he, fun _ => hal _ (XU.trans Xv), fun h => absurd h (by rw [g2]; decide)⟩
  · refine ⟨a1, _, c1, _, he, X61.kept, fun h => absurd h h1, fun _ => ?_⟩
    have XX := Y61
    refine (Q0O (hb.no XX) hbc).mono fun u wr ⟨z, he, hz, hza, Xr⟩ => ⟨_, _, _, _, _, _, _, _, _, _, _, _, _, _, _, _, _, _, _, _, _, _, _, _, _, _, _, he, fun hn ws Xs => ?_, fun hn ws p Xs hp => ?_⟩
    · have XS := (XX.trans Xr).trans Xs
      have hz0 : z.r = Fr.zero := hz.trans (Q1m hn)
      refine (Q17 (w := ws) z).mono fun u wt ⟨he, Xt⟩ => ⟨_, _, _, _, _, _, _, _, _, _, _, _, _, _, _, _, _, _, _, _, _, _, _, _, _, _, he, ?_⟩
      refine (Q15 (x := z) (y := FP.zero) ((hza.no Xs).no Xt) ⟨RowAt.nil _ _, RowAt.nil _ _, RowAt.nil _ _⟩ (by rw [hz0]; decide) (by rw [hz0]; decide) (by rw [hz0]; decide)).mono fun u wu ⟨he, Xu⟩ => ⟨_, he, fun _ => hal _ ((XS.trans Xt).trans Xu), fun h => absurd h ?_⟩
      rw [hz0]; simp [frSame, FP.zero]
    · have XS := (XX.trans Xr).trans Xs
      obtain ⟨g1, g2, g3, g4⟩ := Q19 hn
      rw [← hz] at g1 g2 g3
      have hK : frK z.r = (b, 0) := by unfold frK; rw [g2, if_neg (by decide), g1, if_neg (by omega)]
      have hv := Q1M g2
      refine (Q0S (hza.no Xs) g3 (by omega)).mono fun u wt ⟨a9, c9, he, hO9, Xt⟩ => ?_
      rw [hK] at he hO9
      have he : u = .returned (.tuple #[.slice a9 b.length c9, .int .i64 0]) := he
      have XT := XS.trans Xt
      refine ⟨a9, _, c9, _, he, Xt.kept, fun _ => ?_, fun h => absurd rfl h⟩
      refine (sameB_spec (x := b) (y := b) hO9.row (hb.no XT) (by omega)).mono fun u wu ⟨he, Xu⟩ => ⟨_, he, Xu.kept, fun _ => ?_, fun h => absurd h (by simp)⟩
      have XU := XT.trans Xu
      exact (Q0Y (((hza.no Xs).no Xt).no Xu) (by omega)).mono fun u wv2 ⟨he, Xv⟩ => ⟨_, he, fun _ => hal _ (XU.trans Xv), fun h => absurd h (by rw [g2]; decide)⟩
theorem FrameBack_walk (W : World) (cs0 : Array Value) (a1 : Option Addr) (len1 cap1 : Nat) (a2 : Int) (o0 : FrQ W cs0.toList) (o1 : BytesQ W [.slice a1 len1 cap1]) (w2 : (Lit.int .i64 a2).wf = true) :
    Calls Try.prog 4 #[.agg cs0, .slice a1 len1 cap1, .int .i64 a2] W (Ret (.bool true) fun w' => Ext no W w') := by
  obtain ⟨x, hx, hi⟩ := o0
  obtain ⟨_, _, b, e1, l1, _, r1⟩ := o1
  cases e1
  obtain rfl : cs0 = x.C.toArray := Array.ext' hx
  exact Q2r W hi r1 l1 a2
end Go.Proofs.Ytoempemllkebkaa