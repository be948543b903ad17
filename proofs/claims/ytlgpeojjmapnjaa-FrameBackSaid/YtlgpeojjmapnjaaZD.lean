/- Frames: predicates. -/
import Derived.Test.YtlgpeojjmapnjaaZC
import Derived.Laws.StructEq
import Derived.Test.YtlgpeojjmapnjaaZA
import Derived.Test.YtlgpeojjmapnjaaZB
set_option linter.unusedVariables false
set_option linter.unusedSimpArgs false
set_option maxRecDepth 100000
set_option maxHeartbeats 4000000
namespace Go.Proofs.Ytlgpeojjmapnjaa
open Go Go.Mx Go.Proofs
def Q09.M  (R : RW) (w : World) : Prop :=
 thenW (w.alloc (.cells #[.int .u8 97] 5)) fun cs =>
 ∃ (cq : Option Addr) (co cp : Nat) (cj : World), (convert 25 25 (.slice (some (blk w.heap.size)) 1 1)).run Try.prog cs = .ok (.slice cq co cp) cj ∧
 thenW (cj.alloc (.cells #[.slice cq co cp, .slice none 0 0] 25)) fun cr =>
 Calls Try.prog 16 #[.slice (some (blk cj.heap.size)) 2 2] cr fun ct cn => ∃ (be : Option Addr) (b7 bo : Nat) (bz : Int), ct = .returned (.tuple #[.slice be b7 bo, .int .i64 bz]) ∧
 thenW (cn.alloc (.cells #[.int .u8 120] 5)) fun cu =>
 ∃ (c8 : Option Addr) (c6 c9 : Nat) (bu : World), (convert 25 25 (.slice (some (blk cn.heap.size)) 1 1)).run Try.prog cu = .ok (.slice c8 c6 c9) bu ∧
 thenW (bu.alloc (.cells #[.int .i64 0, .int .i64 0, .int .u64 0, .int .i64 0, .int .i64 0, .int .i64 0, .slice none 0 0, .int .u64 0] 27)) fun ck =>
 putsK ck (blk bu.heap.size) [.int .i64 1, .int .i64 0, .int .u64 0, .int .i64 5, .int .i64 1, .int .i64 0, .slice c8 c6 c9, .int .u64 9] 0 fun c4 =>
 ∃ (a3 ax b5 bc b6 a5 : Int) (aj : Option Addr) (ak a6 : Nat) (bg : Int), cellsAt c4 (blk bu.heap.size) [.int .i64 a3, .int .i64 ax, .int .u64 b5, .int .i64 bc, .int .i64 b6, .int .i64 a5, .slice aj ak a6, .int .u64 bg] 0 ∧
 Calls Try.prog 25 #[.agg #[.int .i64 a3, .int .i64 ax, .int .u64 b5, .int .i64 bc, .int .i64 b6, .int .i64 a5, .slice aj ak a6, .int .u64 bg]] c4 fun cl cd => ∃ (bm a1 aq b4 bb bh ai : Int) (ap : Option Addr) (an ah : Nat) (bf a4 a7 b1 bl ba ag : Int) (a9 : Option Addr) (ay ab : Nat) (bn bw : Int) (c3 : Option Addr) (c7 cc : Nat) (bx : Int), cl = .returned (.agg #[.int .i64 bm, .int .i64 a1, .int .i64 aq, .int .u64 b4, .int .i64 bb, .int .i64 bh, .int .i64 ai, .slice ap an ah, .int .u64 bf, .int .i64 a4, .int .i64 a7, .int .u64 b1, .int .i64 bl, .int .i64 ba, .int .i64 ag, .slice a9 ay ab, .int .u64 bn, .int .i64 bw, .slice c3 c7 cc, .int .u64 bx]) ∧
 Calls Try.prog 9 #[.agg #[.int .i64 bm, .int .i64 a1, .int .i64 aq, .int .u64 b4, .int .i64 bb, .int .i64 bh, .int .i64 ai, .slice ap an ah, .int .u64 bf, .int .i64 a4, .int .i64 a7, .int .u64 b1, .int .i64 bl, .int .i64 ba, .int .i64 ag, .slice a9 ay ab, .int .u64 bn, .int .i64 bw, .slice c3 c7 cc, .int .u64 bx]] cd fun cf ci => ∃ (ar : Option Addr) (ac al : Nat) (b0 : Int), cf = .returned (.tuple #[.slice ar ac al, .int .i64 b0]) ∧
 Calls Try.prog 11 #[.slice ar ac al] ci fun ce bt => ∃ (b8 a2 am b3 bq b9 au : Int) (a8 : Option Addr) (ad aa : Nat) (br a0 ao b2 bs bj af : Int) (aw : Option Addr) (ae av : Nat) (bi c0 : Int) (cb : Option Addr) (ca c5 : Nat) (bv bp : Int), ce = .returned (.tuple #[.agg #[.int .i64 b8, .int .i64 a2, .int .i64 am, .int .u64 b3, .int .i64 bq, .int .i64 b9, .int .i64 au, .slice a8 ad aa, .int .u64 br, .int .i64 a0, .int .i64 ao, .int .u64 b2, .int .i64 bs, .int .i64 bj, .int .i64 af, .slice aw ae av, .int .u64 bi, .int .i64 c0, .slice cb ca c5, .int .u64 bv], .int .i64 bp]) ∧
 thenW (bt.alloc (.cells #[.int .i64 0, .int .i64 0, .int .i64 0, .int .u64 0, .int .i64 0, .int .i64 0, .int .i64 0, .slice none 0 0, .int .u64 0, .int .i64 0, .int .i64 0, .int .u64 0, .int .i64 0, .int .i64 0, .int .i64 0, .slice none 0 0, .int .u64 0, .int .i64 0, .slice none 0 0, .int .u64 0] 38)) fun cg =>
 putsK cg (blk bt.heap.size) [.int .i64 b8, .int .i64 a2, .int .i64 am, .int .u64 b3, .int .i64 bq, .int .i64 b9, .int .i64 au, .slice a8 ad aa, .int .u64 br, .int .i64 a0, .int .i64 ao, .int .u64 b2, .int .i64 bs, .int .i64 bj, .int .i64 af, .slice aw ae av, .int .u64 bi, .int .i64 c0, .slice cb ca c5, .int .u64 bv] 0 fun c2 =>
 bif bz == 0 then (
 thenW (c2.alloc (.cells #[.int .u8 2, .int .u8 1, .int .u8 97, .int .u8 0] 5)) fun cm =>
 Calls Try.prog 14 #[.slice be b7 bo, .slice (some (blk c2.heap.size)) 4 4] cm fun ch az => ∃ (bk : Bool), ch = .returned (.bool bk) ∧
 bif bk then (
 bif b0 == 0 then (
 bif bp == 0 then (
 ∃ (bd : Int), az.cell? ((blk bt.heap.size).add 0) = some (.int .i64 bd) ∧
 bif bd == 1 then (
 ∃ (c1 : Int), az.cell? (((blk bt.heap.size).add 1).add 7) = some (.int .u64 c1) ∧
 R (.bool (c1 == 9)) az) else (
 R (.bool false) az)) else (
 R (.bool false) az)) else (
 R (.bool false) az)) else (
 R (.bool false) az)) else (
 R (.bool false) c2)

theorem Q09.ok  {R : RW} {w : World} (h : Q09.M  R w) : Calls Try.prog 8 #[] w fun e w' => ∃ v, e = .returned v ∧ R v w' :=
  Q07 follows (H := []) (args := []) (cast (by kernel_rfl) h)

def Q09.N  (R : RW) (w : World) : Prop :=
 ∀ (c2 : World) (q2 : Nat), Ext no w c2 → Blk c2 q2 5 [.int .u8 97] → w.heap.size ≤ q2 → q2 < c2.heap.size →
 ∃ (ch : Option Addr) (ci cg : Nat) (c8 : World), (convert 25 25 (.slice (some (blk q2)) 1 1)).run Try.prog c2 = .ok (.slice ch ci cg) c8 ∧
 ∀ (c4 : World) (q6 : Nat), Ext no c8 c4 → Blk c4 q6 25 [.slice ch ci cg, .slice none 0 0] → c8.heap.size ≤ q6 → q6 < c4.heap.size →
 Calls Try.prog 16 #[.slice (some (blk q6)) 2 2] c4 fun cj bq => ∃ (aw : Option Addr) (bb b4 : Nat) (bc : Int), cj = .returned (.tuple #[.slice aw bb b4, .int .i64 bc]) ∧
 ∀ (bd : World) (c3 : Nat), Ext no bq bd → Blk bd c3 5 [.int .u8 120] → bq.heap.size ≤ c3 → c3 < bd.heap.size →
 ∃ (bx : Option Addr) (bp bs : Nat) (bv : World), (convert 25 25 (.slice (some (blk c3)) 1 1)).run Try.prog bd = .ok (.slice bx bp bs) bv ∧
 ∀ (bz : World), Ext no bv bz →
 Calls Try.prog 25 #[.agg #[.int .i64 1, .int .i64 0, .int .u64 0, .int .i64 5, .int .i64 1, .int .i64 0, .slice bx bp bs, .int .u64 9]] bz fun c9 ca => ∃ (b2 a1 a7 aj b7 ax a8 : Int) (ac : Option Addr) (aa a6 : Nat) (az a0 a9 ak aq b0 ab : Int) (a4 : Option Addr) (a5 ad : Nat) (ao bi : Int) (c1 : Option Addr) (bo bu : Nat) (bh : Int), c9 = .returned (.agg #[.int .i64 b2, .int .i64 a1, .int .i64 a7, .int .u64 aj, .int .i64 b7, .int .i64 ax, .int .i64 a8, .slice ac aa a6, .int .u64 az, .int .i64 a0, .int .i64 a9, .int .u64 ak, .int .i64 aq, .int .i64 b0, .int .i64 ab, .slice a4 a5 ad, .int .u64 ao, .int .i64 bi, .slice c1 bo bu, .int .u64 bh]) ∧
 Calls Try.prog 9 #[.agg #[.int .i64 b2, .int .i64 a1, .int .i64 a7, .int .u64 aj, .int .i64 b7, .int .i64 ax, .int .i64 a8, .slice ac aa a6, .int .u64 az, .int .i64 a0, .int .i64 a9, .int .u64 ak, .int .i64 aq, .int .i64 b0, .int .i64 ab, .slice a4 a5 ad, .int .u64 ao, .int .i64 bi, .slice c1 bo bu, .int .u64 bh]] ca fun cc c7 => ∃ (ae : Option Addr) (a3 af : Nat) (a2 : Int), cc = .returned (.tuple #[.slice ae a3 af, .int .i64 a2]) ∧
 Calls Try.prog 11 #[.slice ae a3 af] c7 fun c6 bf => ∃ (ag an ba be bj bm b8 : Int) (au : Option Addr) (b9 b3 : Nat) (b5 am b6 bg bl bk ay : Int) (av : Option Addr) (b1 ar : Nat) (bn c0 : Int) (cd : Option Addr) (c5 ce : Nat) (br ah : Int), c6 = .returned (.tuple #[.agg #[.int .i64 ag, .int .i64 an, .int .i64 ba, .int .u64 be, .int .i64 bj, .int .i64 bm, .int .i64 b8, .slice au b9 b3, .int .u64 b5, .int .i64 am, .int .i64 b6, .int .u64 bg, .int .i64 bl, .int .i64 bk, .int .i64 ay, .slice av b1 ar, .int .u64 bn, .int .i64 c0, .slice cd c5 ce, .int .u64 br], .int .i64 ah]) ∧
 (bc = 0 →
 ∀ (ap : World) (bw cf : Nat), Ext no bf ap → Blk ap bw 5 [.int .u8 2, .int .u8 1, .int .u8 97, .int .u8 0] → bf.heap.size ≤ bw → bw < ap.heap.size → Privq bf bw [cf] →
 Calls Try.prog 14 #[.slice aw bb b4, .slice (some (blk bw)) 4 4] ap fun cb al => ∃ (ai : Bool), cb = .returned (.bool ai) ∧
 Keep [cf] ap al ∧
 (ai = true →
 (a2 = 0 →
 (ah = 0 →
 (ag = 1 →
 R (.bool (b5 == 9)) al) ∧
 (ag ≠ 1 →
 R (.bool false) al)) ∧
 (ah ≠ 0 →
 R (.bool false) al)) ∧
 (a2 ≠ 0 →
 R (.bool false) al)) ∧
 (ai = false →
 R (.bool false) al)) ∧
 (bc ≠ 0 →
 ∀ (bt : World), Ext no bf bt →
 R (.bool false) bt)

theorem Q09.up  {R : RW} {w : World} (h : Q09.N  R w) : Q09.M  R w := by
  unfold Q09.M
  unfold Q09.N at h
  refine Q00 fun cr e1 => ?_
  have h := h cr w.heap.size ((Ext.refl no w).x_alloc e1) (Blk.of_new e1) ((Ext.refl no w)).size (Q0q e1)
  obtain ⟨cy, d2, cx, c1, hr, h⟩ := h
  refine ⟨cy, d2, cx, c1, hr, ?_⟩
  refine Q00 fun d3 e5 => ?_
  have h := h d3 c1.heap.size ((Ext.refl no c1).x_alloc e5) (Blk.of_new e5) ((Ext.refl no c1)).size (Q0q e5)
  refine h.mono fun d4 bg h => ?_
  obtain ⟨be, bs, bk, c0, he, h⟩ := h
  refine ⟨be, bs, bk, c0, he, ?_⟩
  refine Q00 fun c6 c7 => ?_
  have h := h c6 bg.heap.size ((Ext.refl no bg).x_alloc c7) (Blk.of_new c7) ((Ext.refl no bg)).size (Q0q c7)
  obtain ⟨br, bd, bl, b7, hr, h⟩ := h
  refine ⟨br, bd, bl, b7, hr, ?_⟩
  refine Q00 fun ct ch => ?_
  have b2 := Blk.of_new ch
  have cw := ((Ext.refl no b7)).size
  have cf := (Ext.refl no b7).x_alloc ch
  refine Q0P (k := 0) (j := 0) b2 (Nat.le_of_ble_eq_true rfl) fun bv cu d1 => ?_
  have c9 := cf.x_puts cu (.inr cw)
  have b2 : Blk bv b7.heap.size 27 [.int .i64 1, .int .i64 0, .int .u64 0, .int .i64 5, .int .i64 1, .int .i64 0, .slice br bd bl, .int .u64 9] := d1
  refine ⟨1, 0, 0, 5, 1, 0, br, bd, bl, 9, ⟨b2.celli 0 rfl rfl, b2.celli 1 rfl rfl, b2.celli 2 rfl rfl, b2.celli 3 rfl rfl, b2.celli 4 rfl rfl, b2.celli 5 rfl rfl, b2.celli 6 rfl rfl, b2.celli 7 rfl rfl, trivial⟩, ?_⟩
  have h := h bv c9
  refine h.mono fun cp cq h => ?_
  obtain ⟨bj, ah, ao, b3, bq, bf, ap, ay, au, an, bh, ag, aq, b5, bc, bi, ax, ak, al, az, bb, bx, cg, c4, cb, bu, he, h⟩ := h
  refine ⟨bj, ah, ao, b3, bq, bf, ap, ay, au, an, bh, ag, aq, b5, bc, bi, ax, ak, al, az, bb, bx, cg, c4, cb, bu, he, ?_⟩
  refine h.mono fun d0 cm h => ?_
  obtain ⟨b0, ai, b1, b8, he, h⟩ := h
  refine ⟨b0, ai, b1, b8, he, ?_⟩
  refine h.mono fun cl b4 h => ?_
  obtain ⟨ac, a1, ab, ae, aj, av, a9, a3, aa, a7, ad, a0, a8, af, ar, am, a5, a4, a6, a2, aw, ba, bw, bt, bz, b9, bn, he, h⟩ := h
  refine ⟨ac, a1, ab, ae, aj, av, a9, a3, aa, a7, ad, a0, a8, af, ar, am, a5, a4, a6, a2, aw, ba, bw, bt, bz, b9, bn, he, ?_⟩
  refine Q00 fun ck ci => ?_
  have b6 := Blk.of_new ci
  have cj := ((Ext.refl no b4)).size
  have c3 := (Ext.refl no b4).x_alloc ci
  refine Q0P (k := 0) (j := 0) b6 (Nat.le_of_ble_eq_true rfl) fun bm cs cz => ?_
  have bo := c3.x_puts cs (.inr cj)
  have b6 : Blk bm b4.heap.size 38 [.int .i64 ac, .int .i64 a1, .int .i64 ab, .int .u64 ae, .int .i64 aj, .int .i64 av, .int .i64 a9, .slice a3 aa a7, .int .u64 ad, .int .i64 a0, .int .i64 a8, .int .u64 af, .int .i64 ar, .int .i64 am, .int .i64 a5, .slice a4 a6 a2, .int .u64 aw, .int .i64 ba, .slice bw bt bz, .int .u64 b9] := cz
  refine bif_fo (fun ce => ?_) (fun ce => ?_)
  ·have h := h.2 (beq_f ce)
   have h := h bm bo
   exact h
  have h := h.1 (beq_t ce)
  refine Q00 fun c5 c2 => ?_
  have co := b6.lt
  have b6 := b6.x_alloc c2
  have h := h c5 bm.heap.size (b4.heap.size) (bo.x_alloc c2) (Blk.of_new c2) (bo).size (Q0q c2) (Privq.cons cj co Privq.nil)
  refine h.mono fun cv cn h => ?_
  obtain ⟨bp, he, hk, h⟩ := h
  refine ⟨bp, he, ?_⟩
  have b6 := hk.blk b6 (by simp)
  refine bif_fo (fun ca => ?_) (fun ca => ?_)
  ·have h := h.2 ca
   exact h
  have h := h.1 ca
  refine bif_fo (fun cd => ?_) (fun cd => ?_)
  ·have h := h.2 (beq_f cd)
   exact h
  have h := h.1 (beq_t cd)
  refine bif_fo (fun c8 => ?_) (fun c8 => ?_)
  ·have h := h.2 (beq_f c8)
   exact h
  have h := h.1 (beq_t c8)
  refine ⟨ac, b6.celli 0 rfl rfl, ?_⟩
  refine bif_fo (fun cc => ?_) (fun cc => ?_)
  ·have h := h.2 (beq_f cc)
   exact h
  have h := h.1 (beq_t cc)
  refine ⟨ad, b6.celli 8 rfl rfl, ?_⟩
  exact h

theorem Q09.go  {R : RW} {w : World} (h : Q09.N  R w) : Calls Try.prog 8 #[] w fun e w' => ∃ v, e = .returned v ∧ R v w' := Q09.ok  (Q09.up  h)
theorem Q09.run  {V : Value} {Q : World → Prop} {w : World} (h : Q09.N  (fun v w' => v = V ∧ Q w') w) : Calls Try.prog 8 #[] w (Ret V Q) := (Q09.go  h).mono fun e w' ⟨v, he, hv, hq⟩ => ⟨by rw [he, hv], hq⟩

def Q08.M (au a6 ae am ar ao aa : Int) (ad : Option Addr) (ac af : Nat) (aq a0 a3 ab al an a4 : Int) (a5 : Option Addr) (a8 a7 : Nat) (ah ap : Int) (aw : Option Addr) (ay az : Nat) (av : Int) (R : RW) (w : World) : Prop :=
 thenW (w.alloc (.cells #[.int .i64 au, .int .i64 a6, .int .i64 ae, .int .u64 am, .int .i64 ar, .int .i64 ao, .int .i64 aa, .slice ad ac af, .int .u64 aq, .int .i64 a0, .int .i64 a3, .int .u64 ab, .int .i64 al, .int .i64 an, .int .i64 a4, .slice a5 a8 a7, .int .u64 ah, .int .i64 ap, .slice aw ay az, .int .u64 av] 30)) fun a9 =>
 ∃ (aj : Option Addr) (a2 ag : Nat), a9.cell? (((blk w.heap.size).add 1).add 6) = some (.slice aj a2 ag) ∧
 bif decide ((a2 : Int) ≤ 1500) then (
 ∃ (ak : Option Addr) (a1 ai : Nat), a9.cell? (((blk w.heap.size).add 9).add 6) = some (.slice ak a1 ai) ∧
 bif decide ((a1 : Int) ≤ 1500) then (
 ∃ (b1 : Option Addr) (ax b0 : Nat), a9.cell? ((blk w.heap.size).add 18) = some (.slice b1 ax b0) ∧
 R (.bool (decide ((ax : Int) ≤ 30))) a9) else (
 R (.bool false) a9)) else (
 R (.bool false) a9)

theorem Q08.ok (al a4 ab af aj ah a7 : Int) (aa : Option Addr) (a9 ac : Nat) (ak a0 a1 a8 ae ag a2 : Int) (a3 : Option Addr) (a6 a5 : Nat) (ad ai : Int) (an : Option Addr) (ao ap : Nat) (am : Int) {R : RW} {w : World} (h : Q08.M al a4 ab af aj ah a7 aa a9 ac ak a0 a1 a8 ae ag a2 a3 a6 a5 ad ai an ao ap am R w) : Calls Try.prog 7 #[.agg #[.int .i64 al, .int .i64 a4, .int .i64 ab, .int .u64 af, .int .i64 aj, .int .i64 ah, .int .i64 a7, .slice aa a9 ac, .int .u64 ak, .int .i64 a0, .int .i64 a1, .int .u64 a8, .int .i64 ae, .int .i64 ag, .int .i64 a2, .slice a3 a6 a5, .int .u64 ad, .int .i64 ai, .slice an ao ap, .int .u64 am]] w fun e w' => ∃ v, e = .returned v ∧ R v w' :=
  Q07 follows (H := []) (args := [.agg #[.int .i64 al, .int .i64 a4, .int .i64 ab, .int .u64 af, .int .i64 aj, .int .i64 ah, .int .i64 a7, .slice aa a9 ac, .int .u64 ak, .int .i64 a0, .int .i64 a1, .int .u64 a8, .int .i64 ae, .int .i64 ag, .int .i64 a2, .slice a3 a6 a5, .int .u64 ad, .int .i64 ai, .slice an ao ap, .int .u64 am]]) (cast (by kernel_rfl) h)

def Q08.N (an a7 ad ah al aj a9 : Int) (ac : Option Addr) (a1 ae : Nat) (am a3 a4 aa ag ai a5 : Int) (a6 : Option Addr) (a0 a8 : Nat) (af ak : Int) (ap : Option Addr) (ab aq : Nat) (ao : Int) (R : RW) (w : World) : Prop :=
 ((a1 : Int) ≤ 1500 →
 ((a0 : Int) ≤ 1500 →
 ∀ (a2 : World), Ext no w a2 →
 R (.bool (decide ((ab : Int) ≤ 30))) a2) ∧
 ((1500 : Int) < (a0 : Int) →
 ∀ (a2 : World), Ext no w a2 →
 R (.bool false) a2)) ∧
 ((1500 : Int) < (a1 : Int) →
 ∀ (a2 : World), Ext no w a2 →
 R (.bool false) a2)

theorem Q08.up (an a9 ac af am ah aa : Int) (a5 : Option Addr) (a4 a6 : Nat) (al a3 a7 ab ae ag a8 : Int) (a0 : Option Addr) (a2 a1 : Nat) (ad ai : Int) (aj : Option Addr) (ak ap : Nat) (ao : Int) {R : RW} {w : World} (h : Q08.N an a9 ac af am ah aa a5 a4 a6 al a3 a7 ab ae ag a8 a0 a2 a1 ad ai aj ak ap ao R w) : Q08.M an a9 ac af am ah aa a5 a4 a6 al a3 a7 ab ae ag a8 a0 a2 a1 ad ai aj ak ap ao R w := by
  unfold Q08.M
  unfold Q08.N at h
  refine Q00 fun ar ax => ?_
  have av := Blk.of_new ax
  have ay := ((Ext.refl no w)).size
  have aq := (Ext.refl no w).x_alloc ax
  refine ⟨a5, a4, a6, av.celli 7 rfl rfl, ?_⟩
  refine bif_fo (fun au => ?_) (fun au => ?_)
  ·have h := h.2 (Int.not_le.1 (of_decide_eq_false au))
   have h := h ar aq
   exact h
  have h := h.1 (of_decide_eq_true au)
  refine ⟨a0, a2, a1, av.celli 15 rfl rfl, ?_⟩
  refine bif_fo (fun aw => ?_) (fun aw => ?_)
  ·have h := h.2 (Int.not_le.1 (of_decide_eq_false aw))
   have h := h ar aq
   exact h
  have h := h.1 (of_decide_eq_true aw)
  refine ⟨aj, ak, ap, av.celli 18 rfl rfl, ?_⟩
  have h := h ar aq
  exact h

theorem Q08.go (al a4 ab af aj ah a7 : Int) (aa : Option Addr) (a9 ac : Nat) (ak a0 a1 a8 ae ag a2 : Int) (a3 : Option Addr) (a6 a5 : Nat) (ad ai : Int) (an : Option Addr) (ao ap : Nat) (am : Int) {R : RW} {w : World} (h : Q08.N al a4 ab af aj ah a7 aa a9 ac ak a0 a1 a8 ae ag a2 a3 a6 a5 ad ai an ao ap am R w) : Calls Try.prog 7 #[.agg #[.int .i64 al, .int .i64 a4, .int .i64 ab, .int .u64 af, .int .i64 aj, .int .i64 ah, .int .i64 a7, .slice aa a9 ac, .int .u64 ak, .int .i64 a0, .int .i64 a1, .int .u64 a8, .int .i64 ae, .int .i64 ag, .int .i64 a2, .slice a3 a6 a5, .int .u64 ad, .int .i64 ai, .slice an ao ap, .int .u64 am]] w fun e w' => ∃ v, e = .returned v ∧ R v w' := Q08.ok al a4 ab af aj ah a7 aa a9 ac ak a0 a1 a8 ae ag a2 a3 a6 a5 ad ai an ao ap am (Q08.up al a4 ab af aj ah a7 aa a9 ac ak a0 a1 a8 ae ag a2 a3 a6 a5 ad ai an ao ap am h)
theorem Q08.run (al a4 ab af aj ah a7 : Int) (aa : Option Addr) (a9 ac : Nat) (ak a0 a1 a8 ae ag a2 : Int) (a3 : Option Addr) (a6 a5 : Nat) (ad ai : Int) (an : Option Addr) (ao ap : Nat) (am : Int) {V : Value} {Q : World → Prop} {w : World} (h : Q08.N al a4 ab af aj ah a7 aa a9 ac ak a0 a1 a8 ae ag a2 a3 a6 a5 ad ai an ao ap am (fun v w' => v = V ∧ Q w') w) : Calls Try.prog 7 #[.agg #[.int .i64 al, .int .i64 a4, .int .i64 ab, .int .u64 af, .int .i64 aj, .int .i64 ah, .int .i64 a7, .slice aa a9 ac, .int .u64 ak, .int .i64 a0, .int .i64 a1, .int .u64 a8, .int .i64 ae, .int .i64 ag, .int .i64 a2, .slice a3 a6 a5, .int .u64 ad, .int .i64 ai, .slice an ao ap, .int .u64 am]] w (Ret V Q) := (Q08.go al a4 ab af aj ah a7 aa a9 ac ak a0 a1 a8 ae ag a2 a3 a6 a5 ad ai an ao ap am h).mono fun e w' ⟨v, he, hv, hq⟩ => ⟨by rw [he, hv], hq⟩

def Q0g.M (c1 ba bm bt c0 c3 be : Int) (bo : Option Addr) (bh bi : Nat) (bx b1 b8 bp bs bu b9 : Int) (bc : Option Addr) (bb bd : Nat) (br bz : Int) (c9 : Option Addr) (c6 c7 : Nat) (c4 : Int) (R : RW) (w : World) : Prop :=
 thenW (w.alloc (.cells #[.int .i64 c1, .int .i64 ba, .int .i64 bm, .int .u64 bt, .int .i64 c0, .int .i64 c3, .int .i64 be, .slice bo bh bi, .int .u64 bx, .int .i64 b1, .int .i64 b8, .int .u64 bp, .int .i64 bs, .int .i64 bu, .int .i64 b9, .slice bc bb bd, .int .u64 br, .int .i64 bz, .slice c9 c6 c7, .int .u64 c4] 30)) fun c2 =>
 thenW (c2.alloc (.cells #[.int .i64 0, .int .i64 0, .int .i64 0, .int .u64 0, .int .i64 0, .int .i64 0, .int .i64 0, .slice none 0 0, .int .u64 0, .int .i64 0, .int .i64 0, .int .u64 0, .int .i64 0, .int .i64 0, .int .i64 0, .slice none 0 0, .int .u64 0, .int .i64 0, .slice none 0 0, .int .u64 0] 38)) fun b2 =>
 ∃ (bg : Int), b2.cell? ((blk w.heap.size).add 0) = some (.int .i64 bg) ∧
 ∃ (al ax b3 bf bk an : Int) (au : Option Addr) (aq aw : Nat) (bl : Int), cellsAt b2 ((blk w.heap.size).add 1) [.int .i64 al, .int .i64 ax, .int .u64 b3, .int .i64 bf, .int .i64 bk, .int .i64 an, .slice au aq aw, .int .u64 bl] 0 ∧
 ∃ (am ay b5 bq bj az : Int) (av : Option Addr) (ar ap : Nat) (bn : Int), cellsAt b2 ((blk w.heap.size).add 9) [.int .i64 am, .int .i64 ay, .int .u64 b5, .int .i64 bq, .int .i64 bj, .int .i64 az, .slice av ar ap, .int .u64 bn] 0 ∧
 ∃ (bv : Int), b2.cell? ((blk w.heap.size).add 17) = some (.int .i64 bv) ∧
 ∃ (ca : Option Addr) (c8 cb : Nat), b2.cell? ((blk w.heap.size).add 18) = some (.slice ca c8 cb) ∧
 ∃ (bw : Int), b2.cell? ((blk w.heap.size).add 19) = some (.int .u64 bw) ∧
 putsK b2 (blk c2.heap.size) [.int .i64 bg, .int .i64 al, .int .i64 ax, .int .u64 b3, .int .i64 bf, .int .i64 bk, .int .i64 an, .slice au aq aw, .int .u64 bl, .int .i64 am, .int .i64 ay, .int .u64 b5, .int .i64 bq, .int .i64 bj, .int .i64 az, .slice av ar ap, .int .u64 bn, .int .i64 bv, .slice ca c8 cb, .int .u64 bw] 0 fun c5 =>
 ∃ (af a0 a8 ad ah aj ab : Int) (a4 : Option Addr) (a6 aa : Nat) (ai a1 a7 ac ae ag a9 : Int) (a3 : Option Addr) (a2 a5 : Nat) (ak b0 : Int) (b4 : Option Addr) (b7 b6 : Nat) (ao : Int), cellsAt c5 (blk c2.heap.size) [.int .i64 af, .int .i64 a0, .int .i64 a8, .int .u64 ad, .int .i64 ah, .int .i64 aj, .int .i64 ab, .slice a4 a6 aa, .int .u64 ai, .int .i64 a1, .int .i64 a7, .int .u64 ac, .int .i64 ae, .int .i64 ag, .int .i64 a9, .slice a3 a2 a5, .int .u64 ak, .int .i64 b0, .slice b4 b7 b6, .int .u64 ao] 0 ∧
 R (.agg #[.int .i64 af, .int .i64 a0, .int .i64 a8, .int .u64 ad, .int .i64 ah, .int .i64 aj, .int .i64 ab, .slice a4 a6 aa, .int .u64 ai, .int .i64 a1, .int .i64 a7, .int .u64 ac, .int .i64 ae, .int .i64 ag, .int .i64 a9, .slice a3 a2 a5, .int .u64 ak, .int .i64 b0, .slice b4 b7 b6, .int .u64 ao]) c5

theorem Q0g.ok (al a4 ab af aj ah a7 : Int) (aa : Option Addr) (a9 ac : Nat) (ak a0 a1 a8 ae ag a2 : Int) (a3 : Option Addr) (a6 a5 : Nat) (ad ai : Int) (an : Option Addr) (ao ap : Nat) (am : Int) {R : RW} {w : World} (h : Q0g.M al a4 ab af aj ah a7 aa a9 ac ak a0 a1 a8 ae ag a2 a3 a6 a5 ad ai an ao ap am R w) : Calls Try.prog 10 #[.agg #[.int .i64 al, .int .i64 a4, .int .i64 ab, .int .u64 af, .int .i64 aj, .int .i64 ah, .int .i64 a7, .slice aa a9 ac, .int .u64 ak, .int .i64 a0, .int .i64 a1, .int .u64 a8, .int .i64 ae, .int .i64 ag, .int .i64 a2, .slice a3 a6 a5, .int .u64 ad, .int .i64 ai, .slice an ao ap, .int .u64 am]] w fun e w' => ∃ v, e = .returned v ∧ R v w' :=
  Q07 follows (H := []) (args := [.agg #[.int .i64 al, .int .i64 a4, .int .i64 ab, .int .u64 af, .int .i64 aj, .int .i64 ah, .int .i64 a7, .slice aa a9 ac, .int .u64 ak, .int .i64 a0, .int .i64 a1, .int .u64 a8, .int .i64 ae, .int .i64 ag, .int .i64 a2, .slice a3 a6 a5, .int .u64 ad, .int .i64 ai, .slice an ao ap, .int .u64 am]]) (cast (by kernel_rfl) h)

def Q0g.N (al a4 ab af aj ah a7 : Int) (aa : Option Addr) (a9 ac : Nat) (ak a0 a1 a8 ae ag a2 : Int) (a3 : Option Addr) (a6 a5 : Nat) (ad ai : Int) (an : Option Addr) (ap aq : Nat) (am : Int) (R : RW) (w : World) : Prop :=
 ∀ (ao : World), Ext no w ao →
 R (.agg #[.int .i64 al, .int .i64 a4, .int .i64 ab, .int .u64 af, .int .i64 aj, .int .i64 ah, .int .i64 a7, .slice aa a9 ac, .int .u64 ak, .int .i64 a0, .int .i64 a1, .int .u64 a8, .int .i64 ae, .int .i64 ag, .int .i64 a2, .slice a3 a6 a5, .int .u64 ad, .int .i64 ai, .slice an ap aq, .int .u64 am]) ao

theorem Q0g.up (am a4 ab af al ah a7 : Int) (aa : Option Addr) (a9 ac : Nat) (ak a0 a1 a8 ae ag a2 : Int) (a3 : Option Addr) (a6 a5 : Nat) (ad ai : Int) (ap : Option Addr) (aq ar : Nat) (an : Int) {R : RW} {w : World} (h : Q0g.N am a4 ab af al ah a7 aa a9 ac ak a0 a1 a8 ae ag a2 a3 a6 a5 ad ai ap aq ar an R w) : Q0g.M am a4 ab af al ah a7 aa a9 ac ak a0 a1 a8 ae ag a2 a3 a6 a5 ad ai ap aq ar an R w := by
  unfold Q0g.M
  unfold Q0g.N at h
  refine Q00 fun az b1 => ?_
  have aj := Blk.of_new b1
  have b6 := ((Ext.refl no w)).size
  have au := (Ext.refl no w).x_alloc b1
  refine Q00 fun b4 ax => ?_
  have ao := Blk.of_new ax
  have b2 := (au).size
  have b0 := Nat.ne_of_lt aj.lt
  have aj := aj.x_alloc ax
  have ay := au.x_alloc ax
  refine ⟨am, aj.celli 0 rfl rfl, ?_⟩
  refine ⟨a4, ab, af, al, ah, a7, aa, a9, ac, ak, ⟨aj.celli 1 rfl rfl, aj.celli 2 rfl rfl, aj.celli 3 rfl rfl, aj.celli 4 rfl rfl, aj.celli 5 rfl rfl, aj.celli 6 rfl rfl, aj.celli 7 rfl rfl, aj.celli 8 rfl rfl, trivial⟩, ?_⟩
  refine ⟨a0, a1, a8, ae, ag, a2, a3, a6, a5, ad, ⟨aj.celli 9 rfl rfl, aj.celli 10 rfl rfl, aj.celli 11 rfl rfl, aj.celli 12 rfl rfl, aj.celli 13 rfl rfl, aj.celli 14 rfl rfl, aj.celli 15 rfl rfl, aj.celli 16 rfl rfl, trivial⟩, ?_⟩
  refine ⟨ai, aj.celli 17 rfl rfl, ?_⟩
  refine ⟨ap, aq, ar, aj.celli 18 rfl rfl, ?_⟩
  refine ⟨an, aj.celli 19 rfl rfl, ?_⟩
  refine Q0P (k := 0) (j := 0) ao (Nat.le_of_ble_eq_true rfl) fun av b5 b3 => ?_
  have aw := ay.x_puts b5 (.inr b2)
  have ao : Blk av az.heap.size 38 [.int .i64 am, .int .i64 a4, .int .i64 ab, .int .u64 af, .int .i64 al, .int .i64 ah, .int .i64 a7, .slice aa a9 ac, .int .u64 ak, .int .i64 a0, .int .i64 a1, .int .u64 a8, .int .i64 ae, .int .i64 ag, .int .i64 a2, .slice a3 a6 a5, .int .u64 ad, .int .i64 ai, .slice ap aq ar, .int .u64 an] := b3
  refine ⟨am, a4, ab, af, al, ah, a7, aa, a9, ac, ak, a0, a1, a8, ae, ag, a2, a3, a6, a5, ad, ai, ap, aq, ar, an, ⟨ao.celli 0 rfl rfl, ao.celli 1 rfl rfl, ao.celli 2 rfl rfl, ao.celli 3 rfl rfl, ao.celli 4 rfl rfl, ao.celli 5 rfl rfl, ao.celli 6 rfl rfl, ao.celli 7 rfl rfl, ao.celli 8 rfl rfl, ao.celli 9 rfl rfl, ao.celli 10 rfl rfl, ao.celli 11 rfl rfl, ao.celli 12 rfl rfl, ao.celli 13 rfl rfl, ao.celli 14 rfl rfl, ao.celli 15 rfl rfl, ao.celli 16 rfl rfl, ao.celli 17 rfl rfl, ao.celli 18 rfl rfl, ao.celli 19 rfl rfl, trivial⟩, ?_⟩
  have h := h av aw
  exact h

theorem Q0g.go (al a4 ab af aj ah a7 : Int) (aa : Option Addr) (a9 ac : Nat) (ak a0 a1 a8 ae ag a2 : Int) (a3 : Option Addr) (a6 a5 : Nat) (ad ai : Int) (an : Option Addr) (ao ap : Nat) (am : Int) {R : RW} {w : World} (h : Q0g.N al a4 ab af aj ah a7 aa a9 ac ak a0 a1 a8 ae ag a2 a3 a6 a5 ad ai an ao ap am R w) : Calls Try.prog 10 #[.agg #[.int .i64 al, .int .i64 a4, .int .i64 ab, .int .u64 af, .int .i64 aj, .int .i64 ah, .int .i64 a7, .slice aa a9 ac, .int .u64 ak, .int .i64 a0, .int .i64 a1, .int .u64 a8, .int .i64 ae, .int .i64 ag, .int .i64 a2, .slice a3 a6 a5, .int .u64 ad, .int .i64 ai, .slice an ao ap, .int .u64 am]] w fun e w' => ∃ v, e = .returned v ∧ R v w' := Q0g.ok al a4 ab af aj ah a7 aa a9 ac ak a0 a1 a8 ae ag a2 a3 a6 a5 ad ai an ao ap am (Q0g.up al a4 ab af aj ah a7 aa a9 ac ak a0 a1 a8 ae ag a2 a3 a6 a5 ad ai an ao ap am h)
theorem Q0g.run (al a4 ab af aj ah a7 : Int) (aa : Option Addr) (a9 ac : Nat) (ak a0 a1 a8 ae ag a2 : Int) (a3 : Option Addr) (a6 a5 : Nat) (ad ai : Int) (an : Option Addr) (ao ap : Nat) (am : Int) {V : Value} {Q : World → Prop} {w : World} (h : Q0g.N al a4 ab af aj ah a7 aa a9 ac ak a0 a1 a8 ae ag a2 a3 a6 a5 ad ai an ao ap am (fun v w' => v = V ∧ Q w') w) : Calls Try.prog 10 #[.agg #[.int .i64 al, .int .i64 a4, .int .i64 ab, .int .u64 af, .int .i64 aj, .int .i64 ah, .int .i64 a7, .slice aa a9 ac, .int .u64 ak, .int .i64 a0, .int .i64 a1, .int .u64 a8, .int .i64 ae, .int .i64 ag, .int .i64 a2, .slice a3 a6 a5, .int .u64 ad, .int .i64 ai, .slice an ao ap, .int .u64 am]] w (Ret V Q) := (Q0g.go al a4 ab af aj ah a7 aa a9 ac ak a0 a1 a8 ae ag a2 a3 a6 a5 ad ai an ao ap am h).mono fun e w' ⟨v, he, hv, hq⟩ => ⟨by rw [he, hv], hq⟩

def Q0d.M (c1 ba bm bt c0 c3 be : Int) (bo : Option Addr) (bh bi : Nat) (bx b1 b8 bp bs bu b9 : Int) (bc : Option Addr) (bb bd : Nat) (br bz : Int) (c9 : Option Addr) (c6 c7 : Nat) (c4 : Int) (R : RW) (w : World) : Prop :=
 thenW (w.alloc (.cells #[.int .i64 c1, .int .i64 ba, .int .i64 bm, .int .u64 bt, .int .i64 c0, .int .i64 c3, .int .i64 be, .slice bo bh bi, .int .u64 bx, .int .i64 b1, .int .i64 b8, .int .u64 bp, .int .i64 bs, .int .i64 bu, .int .i64 b9, .slice bc bb bd, .int .u64 br, .int .i64 bz, .slice c9 c6 c7, .int .u64 c4] 38)) fun c2 =>
 thenW (c2.alloc (.cells #[.int .i64 0, .int .i64 0, .int .i64 0, .int .u64 0, .int .i64 0, .int .i64 0, .int .i64 0, .slice none 0 0, .int .u64 0, .int .i64 0, .int .i64 0, .int .u64 0, .int .i64 0, .int .i64 0, .int .i64 0, .slice none 0 0, .int .u64 0, .int .i64 0, .slice none 0 0, .int .u64 0] 30)) fun b2 =>
 ∃ (bg : Int), b2.cell? ((blk w.heap.size).add 0) = some (.int .i64 bg) ∧
 ∃ (al ax b3 bf bk an : Int) (au : Option Addr) (aq aw : Nat) (bl : Int), cellsAt b2 ((blk w.heap.size).add 1) [.int .i64 al, .int .i64 ax, .int .u64 b3, .int .i64 bf, .int .i64 bk, .int .i64 an, .slice au aq aw, .int .u64 bl] 0 ∧
 ∃ (am ay b5 bq bj az : Int) (av : Option Addr) (ar ap : Nat) (bn : Int), cellsAt b2 ((blk w.heap.size).add 9) [.int .i64 am, .int .i64 ay, .int .u64 b5, .int .i64 bq, .int .i64 bj, .int .i64 az, .slice av ar ap, .int .u64 bn] 0 ∧
 ∃ (bv : Int), b2.cell? ((blk w.heap.size).add 17) = some (.int .i64 bv) ∧
 ∃ (ca : Option Addr) (c8 cb : Nat), b2.cell? ((blk w.heap.size).add 18) = some (.slice ca c8 cb) ∧
 ∃ (bw : Int), b2.cell? ((blk w.heap.size).add 19) = some (.int .u64 bw) ∧
 putsK b2 (blk c2.heap.size) [.int .i64 bg, .int .i64 al, .int .i64 ax, .int .u64 b3, .int .i64 bf, .int .i64 bk, .int .i64 an, .slice au aq aw, .int .u64 bl, .int .i64 am, .int .i64 ay, .int .u64 b5, .int .i64 bq, .int .i64 bj, .int .i64 az, .slice av ar ap, .int .u64 bn, .int .i64 bv, .slice ca c8 cb, .int .u64 bw] 0 fun c5 =>
 ∃ (af a0 a8 ad ah aj ab : Int) (a4 : Option Addr) (a6 aa : Nat) (ai a1 a7 ac ae ag a9 : Int) (a3 : Option Addr) (a2 a5 : Nat) (ak b0 : Int) (b4 : Option Addr) (b7 b6 : Nat) (ao : Int), cellsAt c5 (blk c2.heap.size) [.int .i64 af, .int .i64 a0, .int .i64 a8, .int .u64 ad, .int .i64 ah, .int .i64 aj, .int .i64 ab, .slice a4 a6 aa, .int .u64 ai, .int .i64 a1, .int .i64 a7, .int .u64 ac, .int .i64 ae, .int .i64 ag, .int .i64 a9, .slice a3 a2 a5, .int .u64 ak, .int .i64 b0, .slice b4 b7 b6, .int .u64 ao] 0 ∧
 R (.agg #[.int .i64 af, .int .i64 a0, .int .i64 a8, .int .u64 ad, .int .i64 ah, .int .i64 aj, .int .i64 ab, .slice a4 a6 aa, .int .u64 ai, .int .i64 a1, .int .i64 a7, .int .u64 ac, .int .i64 ae, .int .i64 ag, .int .i64 a9, .slice a3 a2 a5, .int .u64 ak, .int .i64 b0, .slice b4 b7 b6, .int .u64 ao]) c5

theorem Q0d.ok (al a4 ab af aj ah a7 : Int) (aa : Option Addr) (a9 ac : Nat) (ak a0 a1 a8 ae ag a2 : Int) (a3 : Option Addr) (a6 a5 : Nat) (ad ai : Int) (an : Option Addr) (ao ap : Nat) (am : Int) {R : RW} {w : World} (h : Q0d.M al a4 ab af aj ah a7 aa a9 ac ak a0 a1 a8 ae ag a2 a3 a6 a5 ad ai an ao ap am R w) : Calls Try.prog 13 #[.agg #[.int .i64 al, .int .i64 a4, .int .i64 ab, .int .u64 af, .int .i64 aj, .int .i64 ah, .int .i64 a7, .slice aa a9 ac, .int .u64 ak, .int .i64 a0, .int .i64 a1, .int .u64 a8, .int .i64 ae, .int .i64 ag, .int .i64 a2, .slice a3 a6 a5, .int .u64 ad, .int .i64 ai, .slice an ao ap, .int .u64 am]] w fun e w' => ∃ v, e = .returned v ∧ R v w' :=
  Q07 follows (H := []) (args := [.agg #[.int .i64 al, .int .i64 a4, .int .i64 ab, .int .u64 af, .int .i64 aj, .int .i64 ah, .int .i64 a7, .slice aa a9 ac, .int .u64 ak, .int .i64 a0, .int .i64 a1, .int .u64 a8, .int .i64 ae, .int .i64 ag, .int .i64 a2, .slice a3 a6 a5, .int .u64 ad, .int .i64 ai, .slice an ao ap, .int .u64 am]]) (cast (by kernel_rfl) h)

def Q0d.N (al a4 ab af aj ah a7 : Int) (aa : Option Addr) (a9 ac : Nat) (ak a0 a1 a8 ae ag a2 : Int) (a3 : Option Addr) (a6 a5 : Nat) (ad ai : Int) (an : Option Addr) (ap aq : Nat) (am : Int) (R : RW) (w : World) : Prop :=
 ∀ (ao : World), Ext no w ao →
 R (.agg #[.int .i64 al, .int .i64 a4, .int .i64 ab, .int .u64 af, .int .i64 aj, .int .i64 ah, .int .i64 a7, .slice aa a9 ac, .int .u64 ak, .int .i64 a0, .int .i64 a1, .int .u64 a8, .int .i64 ae, .int .i64 ag, .int .i64 a2, .slice a3 a6 a5, .int .u64 ad, .int .i64 ai, .slice an ap aq, .int .u64 am]) ao

theorem Q0d.up (am a4 ab af al ah a7 : Int) (aa : Option Addr) (a9 ac : Nat) (ak a0 a1 a8 ae ag a2 : Int) (a3 : Option Addr) (a6 a5 : Nat) (ad ai : Int) (ap : Option Addr) (aq ar : Nat) (an : Int) {R : RW} {w : World} (h : Q0d.N am a4 ab af al ah a7 aa a9 ac ak a0 a1 a8 ae ag a2 a3 a6 a5 ad ai ap aq ar an R w) : Q0d.M am a4 ab af al ah a7 aa a9 ac ak a0 a1 a8 ae ag a2 a3 a6 a5 ad ai ap aq ar an R w := by
  unfold Q0d.M
  unfold Q0d.N at h
  refine Q00 fun az b1 => ?_
  have aj := Blk.of_new b1
  have b6 := ((Ext.refl no w)).size
  have au := (Ext.refl no w).x_alloc b1
  refine Q00 fun b4 ax => ?_
  have ao := Blk.of_new ax
  have b2 := (au).size
  have b0 := Nat.ne_of_lt aj.lt
  have aj := aj.x_alloc ax
  have ay := au.x_alloc ax
  refine ⟨am, aj.celli 0 rfl rfl, ?_⟩
  refine ⟨a4, ab, af, al, ah, a7, aa, a9, ac, ak, ⟨aj.celli 1 rfl rfl, aj.celli 2 rfl rfl, aj.celli 3 rfl rfl, aj.celli 4 rfl rfl, aj.celli 5 rfl rfl, aj.celli 6 rfl rfl, aj.celli 7 rfl rfl, aj.celli 8 rfl rfl, trivial⟩, ?_⟩
  refine ⟨a0, a1, a8, ae, ag, a2, a3, a6, a5, ad, ⟨aj.celli 9 rfl rfl, aj.celli 10 rfl rfl, aj.celli 11 rfl rfl, aj.celli 12 rfl rfl, aj.celli 13 rfl rfl, aj.celli 14 rfl rfl, aj.celli 15 rfl rfl, aj.celli 16 rfl rfl, trivial⟩, ?_⟩
  refine ⟨ai, aj.celli 17 rfl rfl, ?_⟩
  refine ⟨ap, aq, ar, aj.celli 18 rfl rfl, ?_⟩
  refine ⟨an, aj.celli 19 rfl rfl, ?_⟩
  refine Q0P (k := 0) (j := 0) ao (Nat.le_of_ble_eq_true rfl) fun av b5 b3 => ?_
  have aw := ay.x_puts b5 (.inr b2)
  have ao : Blk av az.heap.size 30 [.int .i64 am, .int .i64 a4, .int .i64 ab, .int .u64 af, .int .i64 al, .int .i64 ah, .int .i64 a7, .slice aa a9 ac, .int .u64 ak, .int .i64 a0, .int .i64 a1, .int .u64 a8, .int .i64 ae, .int .i64 ag, .int .i64 a2, .slice a3 a6 a5, .int .u64 ad, .int .i64 ai, .slice ap aq ar, .int .u64 an] := b3
  refine ⟨am, a4, ab, af, al, ah, a7, aa, a9, ac, ak, a0, a1, a8, ae, ag, a2, a3, a6, a5, ad, ai, ap, aq, ar, an, ⟨ao.celli 0 rfl rfl, ao.celli 1 rfl rfl, ao.celli 2 rfl rfl, ao.celli 3 rfl rfl, ao.celli 4 rfl rfl, ao.celli 5 rfl rfl, ao.celli 6 rfl rfl, ao.celli 7 rfl rfl, ao.celli 8 rfl rfl, ao.celli 9 rfl rfl, ao.celli 10 rfl rfl, ao.celli 11 rfl rfl, ao.celli 12 rfl rfl, ao.celli 13 rfl rfl, ao.celli 14 rfl rfl, ao.celli 15 rfl rfl, ao.celli 16 rfl rfl, ao.celli 17 rfl rfl, ao.celli 18 rfl rfl, ao.celli 19 rfl rfl, trivial⟩, ?_⟩
  have h := h av aw
  exact h

theorem Q0d.go (al a4 ab af aj ah a7 : Int) (aa : Option Addr) (a9 ac : Nat) (ak a0 a1 a8 ae ag a2 : Int) (a3 : Option Addr) (a6 a5 : Nat) (ad ai : Int) (an : Option Addr) (ao ap : Nat) (am : Int) {R : RW} {w : World} (h : Q0d.N al a4 ab af aj ah a7 aa a9 ac ak a0 a1 a8 ae ag a2 a3 a6 a5 ad ai an ao ap am R w) : Calls Try.prog 13 #[.agg #[.int .i64 al, .int .i64 a4, .int .i64 ab, .int .u64 af, .int .i64 aj, .int .i64 ah, .int .i64 a7, .slice aa a9 ac, .int .u64 ak, .int .i64 a0, .int .i64 a1, .int .u64 a8, .int .i64 ae, .int .i64 ag, .int .i64 a2, .slice a3 a6 a5, .int .u64 ad, .int .i64 ai, .slice an ao ap, .int .u64 am]] w fun e w' => ∃ v, e = .returned v ∧ R v w' := Q0d.ok al a4 ab af aj ah a7 aa a9 ac ak a0 a1 a8 ae ag a2 a3 a6 a5 ad ai an ao ap am (Q0d.up al a4 ab af aj ah a7 aa a9 ac ak a0 a1 a8 ae ag a2 a3 a6 a5 ad ai an ao ap am h)
theorem Q0d.run (al a4 ab af aj ah a7 : Int) (aa : Option Addr) (a9 ac : Nat) (ak a0 a1 a8 ae ag a2 : Int) (a3 : Option Addr) (a6 a5 : Nat) (ad ai : Int) (an : Option Addr) (ao ap : Nat) (am : Int) {V : Value} {Q : World → Prop} {w : World} (h : Q0d.N al a4 ab af aj ah a7 aa a9 ac ak a0 a1 a8 ae ag a2 a3 a6 a5 ad ai an ao ap am (fun v w' => v = V ∧ Q w') w) : Calls Try.prog 13 #[.agg #[.int .i64 al, .int .i64 a4, .int .i64 ab, .int .u64 af, .int .i64 aj, .int .i64 ah, .int .i64 a7, .slice aa a9 ac, .int .u64 ak, .int .i64 a0, .int .i64 a1, .int .u64 a8, .int .i64 ae, .int .i64 ag, .int .i64 a2, .slice a3 a6 a5, .int .u64 ad, .int .i64 ai, .slice an ao ap, .int .u64 am]] w (Ret V Q) := (Q0d.go al a4 ab af aj ah a7 aa a9 ac ak a0 a1 a8 ae ag a2 a3 a6 a5 ad ai an ao ap am h).mono fun e w' ⟨v, he, hv, hq⟩ => ⟨by rw [he, hv], hq⟩

end Go.Proofs.Ytlgpeojjmapnjaa
namespace Go.Proofs.Ytlgpeojjmapnjaa
open Go Go.Mx Go.Proofs
def Q03.M (a7 : Option Addr) (a5 a3 a1 : Nat) (a2 a8 : Array Value) (R : RW) (w : World) : Prop :=
 Calls Try.prog 63 #[.slice a7 a5 a3, .func (.func a1) a2 a8] w fun a4 a6 => ∃ (a0 : Int), a4 = .returned (.int .i64 a0) ∧
 R (.bool (decide (a0 ≥ 0))) a6

theorem Q03.ok (a4 : Option Addr) (a3 a2 a0 : Nat) (a1 a5 : Array Value) {R : RW} {w : World} (h : Q03.M a4 a3 a2 a0 a1 a5 R w) : Calls Try.prog 37 #[.slice a4 a3 a2, .func (.func a0) a1 a5] w fun e w' => ∃ v, e = .returned v ∧ R v w' :=
  Q07 follows (H := []) (args := [.slice a4 a3 a2, .func (.func a0) a1 a5]) (cast (by kernel_rfl) h)

def Q03.N (a7 : Option Addr) (a5 a3 a1 : Nat) (a2 a8 : Array Value) (R : RW) (w : World) : Prop :=
 Calls Try.prog 63 #[.slice a7 a5 a3, .func (.func a1) a2 a8] w fun a4 a6 => ∃ (a0 : Int), a4 = .returned (.int .i64 a0) ∧
 R (.bool (decide (a0 ≥ 0))) a6

theorem Q03.up (a4 : Option Addr) (a5 a3 a1 : Nat) (a2 a6 : Array Value) {R : RW} {w : World} (h : Q03.N a4 a5 a3 a1 a2 a6 R w) : Q03.M a4 a5 a3 a1 a2 a6 R w := by
  unfold Q03.M
  unfold Q03.N at h
  refine h.mono fun a7 a8 h => ?_
  obtain ⟨a0, he, h⟩ := h
  refine ⟨a0, he, ?_⟩
  exact h

theorem Q03.go (a4 : Option Addr) (a3 a2 a0 : Nat) (a1 a5 : Array Value) {R : RW} {w : World} (h : Q03.N a4 a3 a2 a0 a1 a5 R w) : Calls Try.prog 37 #[.slice a4 a3 a2, .func (.func a0) a1 a5] w fun e w' => ∃ v, e = .returned v ∧ R v w' := Q03.ok a4 a3 a2 a0 a1 a5 (Q03.up a4 a3 a2 a0 a1 a5 h)
theorem Q03.run (a4 : Option Addr) (a3 a2 a0 : Nat) (a1 a5 : Array Value) {V : Value} {Q : World → Prop} {w : World} (h : Q03.N a4 a3 a2 a0 a1 a5 (fun v w' => v = V ∧ Q w') w) : Calls Try.prog 37 #[.slice a4 a3 a2, .func (.func a0) a1 a5] w (Ret V Q) := (Q03.go a4 a3 a2 a0 a1 a5 h).mono fun e w' ⟨v, he, hv, hq⟩ => ⟨by rw [he, hv], hq⟩

def Q05.M (ae : Option Addr) (ab af a3 : Nat) (a9 ad : Array Value) (R : RW) (w : World) : Prop :=
 ∃ (I0 : Nat → List Value → World → Prop) (m4 : Nat), I0 m4 [.int .i64 0] w ∧ ∀ (m5 : Nat) (a2 : World) (t3 : Int), I0 m5 [.int .i64 t3] a2 →
 bif decide (t3 < (ab : Int)) then (
 ae.elim False fun a7 =>
 0 ≤ (t3 : Int) ∧ (t3 : Int) < (ab : Int) ∧
 ∃ (a6 : Option Addr) (a4 a5 : Nat), a2.cell? (a7.add (Int.toNat t3 * 1)) = some (.slice a6 a4 a5) ∧
 bif enters Try.prog a3 then Calls Try.prog a3 (a9.toList ++ ([.slice a6 a4 a5] : List Value) ++ ad.toList).toArray a2 (fun a8 a1 => ∃ (r9 : Bool), a8 = .returned (.bool r9) ∧
 bif r9 then (
 R (.int .i64 t3) a1) else (
 ∃ aa, aa < m5 ∧ I0 aa [.int .i64 (IntKind.i64.wrap (t3 + 1))] a1)) else (∃ (r9 : Bool) (a0 : World), (Q1T a3 (a9.toList ++ ([.slice a6 a4 a5] : List Value) ++ ad.toList).toArray).run Try.prog a2 = .ok (.bool r9) a0 ∧
 bif r9 then (
 R (.int .i64 t3) a0) else (
 ∃ ac, ac < m5 ∧ I0 ac [.int .i64 (IntKind.i64.wrap (t3 + 1))] a0))) else (
 R (.int .i64 (-1)) a2)

theorem Q05.ok (a4 : Option Addr) (a3 a2 a0 : Nat) (a1 a5 : Array Value) {R : RW} {w : World} (h : Q05.M a4 a3 a2 a0 a1 a5 R w) : Calls Try.prog 63 #[.slice a4 a3 a2, .func (.func a0) a1 a5] w fun e w' => ∃ v, e = .returned v ∧ R v w' :=
  Q07 follows (H := [(0, [0, 1, 7], [(8, (.one (.int .i64)))])]) (args := [.slice a4 a3 a2, .func (.func a0) a1 a5]) (cast (by kernel_rfl) h)

def Q05.N (ac : Option Addr) (a5 ae aa : Nat) (ab ad : Array Value) (R : RW) (w : World) : Prop :=
 ∃ (I0 : Nat → List Value → World → Prop) (m4 : Nat), I0 m4 [.int .i64 0] w ∧ ∀ (m5 : Nat) (a4 : World) (t3 : Int), I0 m5 [.int .i64 t3] a4 →
 (t3 < (a5 : Int) →
 ∃ a8 : Addr, ac = some a8 ∧
 0 ≤ (t3 : Int) ∧ (t3 : Int) < (a5 : Int) ∧
 ∃ (a2 : Option Addr) (a0 a1 : Nat), a4.cell? (a8.add (Int.toNat t3 * 1)) = some (.slice a2 a0 a1) ∧
 enters Try.prog aa = true ∧ Calls Try.prog aa (ab.toList ++ ([.slice a2 a0 a1] : List Value) ++ ad.toList).toArray a4 (fun a6 a3 => ∃ (a7 : Bool), a6 = .returned (.bool a7) ∧
 (a7 = true →
 R (.int .i64 t3) a3) ∧
 (a7 = false →
 (-9223372036854775808 : Int) ≤ (t3 + 1) ∧ (t3 + 1) < 9223372036854775808 ∧
 ∃ a9, a9 < m5 ∧ I0 a9 [.int .i64 (t3 + 1)] a3))) ∧
 ((a5 : Int) ≤ t3 →
 R (.int .i64 (-1)) a4)

theorem Q05.up (a4 : Option Addr) (a9 a7 a5 : Nat) (a6 aa : Array Value) {R : RW} {w : World} (h : Q05.N a4 a9 a7 a5 a6 aa R w) : Q05.M a4 a9 a7 a5 a6 aa R w := by
  unfold Q05.M
  unfold Q05.N at h
  obtain ⟨I0, m4, h0, h⟩ := h
  refine ⟨I0, m4, h0, fun m5 ai t3 hI => ?_⟩
  have h := h m5 ai t3 hI
  refine bif_fo (fun c7 => ?_) (fun c7 => ?_)
  ·have h := h.2 (Int.not_lt.1 (of_decide_eq_false c7))
   exact h
  have h := h.1 (of_decide_eq_true c7)
  obtain ⟨a8, ah, h⟩ := h
  refine Q0z ah ?_
  obtain ⟨aj, al, h⟩ := h
  refine ⟨aj, al, ?_⟩
  obtain ⟨a2, a0, a1, ac, h⟩ := h
  refine ⟨a2, a0, a1, ac, ?_⟩
  obtain ⟨hen, h⟩ := h
  refine bif_tt hen ?_
  refine h.mono fun ae ak h => ?_
  obtain ⟨af, he, h⟩ := h
  refine ⟨af, he, ?_⟩
  refine bif_of (fun a3 => ?_) (fun a3 => ?_)
  ·have h := h.1 a3
   exact h
  have h := h.2 a3
  obtain ⟨ad, ab, h⟩ := h
  try rw [w64 ad ab]
  obtain ⟨ag, hk, h⟩ := h
  exact ⟨ag, hk, h⟩

theorem Q05.go (a4 : Option Addr) (a3 a2 a0 : Nat) (a1 a5 : Array Value) {R : RW} {w : World} (h : Q05.N a4 a3 a2 a0 a1 a5 R w) : Calls Try.prog 63 #[.slice a4 a3 a2, .func (.func a0) a1 a5] w fun e w' => ∃ v, e = .returned v ∧ R v w' := Q05.ok a4 a3 a2 a0 a1 a5 (Q05.up a4 a3 a2 a0 a1 a5 h)
def Q0r.M (a2 : Option Addr) (a0 a1 : Nat) (R : RW) (w : World) : Prop :=
 R (.bool (decide ((a0 : Int) > 4000))) w

theorem Q0r.ok (a1 : Option Addr) (a2 a0 : Nat) {R : RW} {w : World} (h : Q0r.M a1 a2 a0 R w) : Calls Try.prog 38 #[.slice a1 a2 a0] w fun e w' => ∃ v, e = .returned v ∧ R v w' :=
  Q07 follows (H := []) (args := [.slice a1 a2 a0]) (cast (by kernel_rfl) h)

def Q0r.N (a2 : Option Addr) (a0 a1 : Nat) (R : RW) (w : World) : Prop :=
 R (.bool (decide ((a0 : Int) > 4000))) w

theorem Q0r.up (a1 : Option Addr) (a2 a0 : Nat) {R : RW} {w : World} (h : Q0r.N a1 a2 a0 R w) : Q0r.M a1 a2 a0 R w := by
  unfold Q0r.M
  unfold Q0r.N at h
  exact h

theorem Q0r.go (a1 : Option Addr) (a2 a0 : Nat) {R : RW} {w : World} (h : Q0r.N a1 a2 a0 R w) : Calls Try.prog 38 #[.slice a1 a2 a0] w fun e w' => ∃ v, e = .returned v ∧ R v w' := Q0r.ok a1 a2 a0 (Q0r.up a1 a2 a0 h)
theorem Q0r.run (a1 : Option Addr) (a2 a0 : Nat) {V : Value} {Q : World → Prop} {w : World} (h : Q0r.N a1 a2 a0 (fun v w' => v = V ∧ Q w') w) : Calls Try.prog 38 #[.slice a1 a2 a0] w (Ret V Q) := (Q0r.go a1 a2 a0 h).mono fun e w' ⟨v, he, hv, hq⟩ => ⟨by rw [he, hv], hq⟩

set_option maxRecDepth 20000
open W (OwnB Rd numR countR doneR)
section
variable {w w' : World} {x y : FP} {a b : Option Addr} {c d : Nat} {hs gs : List Hd}
def FP.ofE (e : Ent) (a : Option Addr) (c : Nat) : FP := ⟨⟨1, e, Ent.zero, 0, [], 0⟩, a, c, none, 0, none, 0⟩
theorem Q3c (e : Ent) (a : Option Addr) (c : Nat) : Calls Try.prog 25 #[entV e a c] w (Ret (FP.ofE e a c).V fun w' => Ext no w w') := by
  refine Q0v.run e.w e.i e.pv e.t e.tw e.ep a e.body.length c e.sg ?_
  unfold Q0v.N
  exact fun w2 X => ⟨rfl, X⟩
def frLight (r : Fr) : Bool := decide (r.e.body.length ≤ 1500 ∧ r.f.body.length ≤ 1500 ∧ r.v.length ≤ 30)
theorem Q33 (x : FP) : Calls Try.prog 7 #[x.V] w (Ret (.bool (frLight x.r)) fun w' => Ext no w w') := by
  obtain ⟨⟨kd, e, f, who, v, sg⟩, ea, ec, fa, fc, va, vc⟩ := x
  refine Q08.run kd e.w e.i e.pv e.t e.tw e.ep ea e.body.length ec e.sg f.w f.i f.pv f.t f.tw f.ep fa f.body.length fc f.sg who va v.length vc sg ?_
  unfold Q08.N
  have leaf : ∀ {b : Bool} {w2 : World}, (b = true ↔ (e.body.length ≤ 1500 ∧ f.body.length ≤ 1500 ∧ v.length ≤ 30)) → Ext no w w2 → Value.bool b = Value.bool (frLight ⟨kd, e, f, who, v, sg⟩) ∧ Ext no w w2 := fun {b} {w2} h X => ⟨by
    congr 1
    rw [Bool.eq_iff_iff, h]
    unfold frLight; rw [decide_eq_true_eq], X⟩
  refine ⟨fun h1 => ⟨fun h2 w2 X => leaf ?_ X, fun h2 w2 X => leaf ?_ X⟩, fun h1 w2 X => leaf ?_ X⟩
  · rw [decide_eq_true_eq]; omega
  · constructor
    · intro h; cases h
    · intro h; omega
  · constructor
    · intro h; cases h
    · intro h; omega
theorem Q3W (x : FP) : Calls Try.prog 10 #[x.V] w (Ret x.V fun w' => Ext no w w') := by
  obtain ⟨⟨kd, e, f, who, v, sg⟩, ea, ec, fa, fc, va, vc⟩ := x
  refine Q0g.run kd e.w e.i e.pv e.t e.tw e.ep ea e.body.length ec e.sg f.w f.i f.pv f.t f.tw f.ep fa f.body.length fc f.sg who va v.length vc sg ?_
  unfold Q0g.N
  exact fun w2 X => ⟨rfl, X⟩
theorem Q15 (x : FP) : Calls Try.prog 13 #[x.V] w (Ret x.V fun w' => Ext no w w') := by
  obtain ⟨⟨kd, e, f, who, v, sg⟩, ea, ec, fa, fc, va, vc⟩ := x
  refine Q0d.run kd e.w e.i e.pv e.t e.tw e.ep ea e.body.length ec e.sg f.w f.i f.pv f.t f.tw f.ep fa f.body.length fc f.sg who va v.length vc sg ?_
  unfold Q0d.N
  exact fun w2 X => ⟨rfl, X⟩
end
/-! ### many parts as one -/
def encB (b : List UInt8) : List UInt8 := numL b.length ++ b
def joinL (l : List (List UInt8)) : List UInt8 := numL l.length ++ l.flatMap encB
def bigs (l : List (List UInt8)) : Bool := l.any fun b => decide (b.length > 4000)
def joinK (l : List (List UInt8)) : List UInt8 × Int := if l.length > 1000 ∨ bigs l = true then ([], 3) else (joinL l, 0)
def joinT (l : List (List UInt8)) (t : Nat) : List UInt8 := numL l.length ++ (l.take t).flatMap encB
theorem Q4i (l : List (List UInt8)) : joinT l l.length = joinL l := by unfold joinT joinL; rw [List.take_length]
theorem Q3p (l : List (List UInt8)) (t : Nat) : (joinT l t).length ≤ (joinL l).length := by
  have e : l.flatMap encB = (l.take t).flatMap encB ++ (l.drop t).flatMap encB := by rw [← List.flatMap_append, List.take_append_drop]
  unfold joinT joinL
  rw [e]
  simp only [List.length_append]; omega
theorem Q3E {l : List (List UInt8)} {t : Nat} {x : List UInt8} (h : l[t]? = some x) : joinT l (t + 1) = joinT l t ++ encB x := by
  unfold joinT
  rw [List.take_add_one, h]
  simp
structure BsAt (w : World) (a : Option Addr) (c : Nat) (l : List BS) : Prop where
  row : RowAt w a (l.map BS.v)
  oks : ∀ x ∈ l, RowAt w x.a (bytesV x.bs) ∧ x.bs.length ≤ x.c
  le : l.length ≤ c
section
variable {w w' : World} {x y : FP} {a b : Option Addr} {c d : Nat} {l : List BS}
theorem BsAt.no (h : BsAt w a c l) (X : Ext no w w') : BsAt w' a c l := ⟨h.row.no X, fun x hx => ⟨(h.oks x hx).1.no X, (h.oks x hx).2⟩, h.le⟩
theorem BsAt.cell (h : BsAt w a c l) {i : Nat} {x : BS} (hi : l[i]? = some x) : ∃ ad, a = some ad ∧ w.cell? (ad.add (i * 1)) = some (.slice x.a x.bs.length x.c) := by
  obtain ⟨ad, ha, hc⟩ := h.row i x.v (by rw [List.getElem?_map, hi]; rfl)
  exact ⟨ad, ha, by rw [Nat.mul_one]; exact hc⟩
theorem Q3F (x : BS) : Calls Try.prog 38 #[.slice x.a x.bs.length x.c] w (Ret (.bool (decide (x.bs.length > 4000))) fun w' => w' = w) := by
  refine Q0r.run _ _ _ ?_
  unfold Q0r.N
  exact ⟨by rw [show decide ((x.bs.length : Int) > 4000) = decide (x.bs.length > 4000) by rw [decide_eq_decide]; omega], rfl⟩
theorem Q3q {l : List BS} : bigs (l.map BS.bs) = true ↔ ∃ x ∈ l, x.bs.length > 4000 := by
  unfold bigs
  rw [List.any_eq_true]
  constructor
  · rintro ⟨b, hb, h⟩
    obtain ⟨x, hx, rfl⟩ := List.mem_map.1 hb
    exact ⟨x, hx, of_decide_eq_true h⟩
  · rintro ⟨x, hx, h⟩
    exact ⟨_, List.mem_map.2 ⟨x, hx, rfl⟩, decide_eq_true h⟩
theorem Q4A {l : List BS} (h : ∀ (i : Nat) (x : BS), l[i]? = some x → x.bs.length ≤ 4000) : bigs (l.map BS.bs) = false := by
  cases hb : bigs (l.map BS.bs) with
  | false => rfl
  | true =>
    obtain ⟨x, hx, hl⟩ := Q3q.1 hb
    obtain ⟨i, hi⟩ := List.mem_iff_getElem?.1 hx
    have := h i x hi
    omega
theorem Q39 (h : BsAt w a c l) (hl : l.length < 1000000) :
    Calls Try.prog 63 #[.slice a l.length c, .func (.func 38) #[] #[]] w fun e w' => ∃ i : Int, e = .returned (.int .i64 i) ∧ decide (i ≥ 0) = bigs (l.map BS.bs) ∧ w' = w := by
  refine (Q05.go a l.length c _ _ _ (R := fun v w' => ∃ i : Int, v = .int .i64 i ∧ decide (i ≥ 0) = bigs (l.map BS.bs) ∧ w' = w) ?_).mono fun e w' ⟨v, he, i, hv, hw⟩ => ⟨i, by rw [he, hv], hw⟩
  unfold Q05.N
  refine ⟨fun m vs w1 => ∃ t : Nat, vs = [.int .i64 t] ∧ m + t = l.length ∧ w1 = w ∧ ∀ i x, i < t → l[i]? = some x → x.bs.length ≤ 4000, l.length, ⟨0, rfl, rfl, rfl, fun i x h => absurd h (by omega)⟩, ?_⟩
  rintro m w6 i ⟨t, hi, hm, rfl, hn⟩
  simp only [List.cons.injEq, Value.int.injEq, true_and, and_true] at hi
  subst hi
  refine ⟨fun ht => ?_, fun ht => ?_⟩
  · have htl : t < l.length := by omega
    have hg : l[t]? = some l[t] := List.getElem?_eq_getElem htl
    generalize l[t] = x at *
    obtain ⟨ad, ha, hc⟩ := h.cell hg
    refine ⟨ad, ha, by omega, by omega, x.a, x.bs.length, x.c, by rw [Int.toNat_natCast]; exact hc, by kernel_rfl, ?_⟩
    refine Calls.mono (Q3F x) fun u w14 ⟨he, hw⟩ => ⟨_, he, fun hy => ?_, fun hno => ⟨by omega, by omega, m - 1, by omega, t + 1, rfl, by omega, hw, fun i y hi hy => ?_⟩⟩
    · refine ⟨_, rfl, ?_, hw⟩
      rw [Q3q.2 ⟨x, List.mem_of_getElem? hg, of_decide_eq_true hy⟩, decide_eq_true (by omega)]
    · by_cases hit : i = t
      · subst hit
        rw [hg] at hy
        cases hy
        have := of_decide_eq_false hno
        omega
      · exact hn i y (by omega) hy
  · refine ⟨_, rfl, ?_, rfl⟩
    rw [Q4A fun i x hx => hn i x (by have := (List.getElem?_eq_some_iff.1 hx).1; omega) hx]; rfl
theorem Q2M (h : BsAt w a c l) (hl : l.length < 1000000) :
    Calls Try.prog 37 #[.slice a l.length c, .func (.func 38) #[] #[]] w (Ret (.bool (bigs (l.map BS.bs))) fun w' => w' = w) := by
  refine Q03.run _ _ _ _ _ _ ?_
  unfold Q03.N
  exact (Q39 h hl).mono fun e w' ⟨i, he, hi, hw⟩ => ⟨i, he, by rw [hi], hw⟩
theorem Q3J (h : BsAt w a c l) (hl : l.length < 1000000) (hz : l.length ≤ 1000 → bigs (l.map BS.bs) = false → (joinL (l.map BS.bs)).length ≤ 900000) :
    Calls Try.prog 16 #[.slice a l.length c] w (fun e w' => ∃ a' c', e = .returned (.tuple #[.slice a' (joinK (l.map BS.bs)).1.length c', .int .i64 (joinK (l.map BS.bs)).2]) ∧ OwnB w.heap.size w' a' c' (joinK (l.map BS.bs)).1 ∧ Ext no w w') := by
  refine (Q0E.go a l.length c (R := fun v w' => ∃ a' c', v = (.tuple #[.slice a' (joinK (l.map BS.bs)).1.length c', .int .i64 (joinK (l.map BS.bs)).2]) ∧ OwnB w.heap.size w' a' c' (joinK (l.map BS.bs)).1 ∧ Ext no w w') ?_).mono fun e w' ⟨v, he, a', c', hv, hw⟩ => ⟨a', c', by rw [he, hv], hw⟩
  unfold Q0E.N
  have leaf : ∀ {w2 : World}, joinK (l.map BS.bs) = ([], 3) → Ext no w w2 → ∃ a' c', (.tuple #[.slice none 0 0, .int .i64 3] : Value) = (.tuple #[.slice a' (joinK (l.map BS.bs)).1.length c', .int .i64 (joinK (l.map BS.bs)).2]) ∧ OwnB w.heap.size w2 a' c' (joinK (l.map BS.bs)).1 ∧ Ext no w w2 := fun {w2} e X => by
    rw [e]; exact ⟨none, 0, rfl, OwnB.nil _ _, X⟩
  refine ⟨fun hg => leaf (by unfold joinK; rw [if_pos (.inl (by rw [List.length_map]; omega))]) (Ext.refl _ _), fun hg => ?_⟩
  refine (Q2M h hl).mono fun u w5 ⟨he, hw⟩ => ⟨_, he, fun hb => leaf (by unfold joinK; rw [if_pos (.inr hb)]) (by rw [hw]; exact Ext.refl _ _), fun hb => ?_⟩
  subst hw
  have hk : joinK (l.map BS.bs) = (joinL (l.map BS.bs), 0) := by unfold joinK; rw [if_neg (by rw [List.length_map, hb]; simp; omega)]
  rw [hk]
  have hz := hz (by omega) hb
  rw [wu64 (n := (l.length : Int)) (by omega) (by omega)]
  refine (W.Num_spec (bs := []) (c := 0) (RowAt.nil _ _) (by simp) (n := l.length) (by omega)).mono fun u w9 ⟨a1, c1, he, hO1, X9⟩ => ⟨a1, _, c1, he, ?_⟩
  have e0 : joinT (l.map BS.bs) 0 = [] ++ numL l.length := by unfold joinT; simp
  refine ⟨fun m vs w1 => ∃ (t : Nat) (a1 : Option Addr) (c1 : Nat), vs = [.slice a1 (joinT (l.map BS.bs) t).length c1, .int .i64 t] ∧ m + t = l.length ∧ OwnB w5.heap.size w1 a1 c1 (joinT (l.map BS.bs) t) ∧ Ext no w5 w1, l.length, ⟨0, a1, c1, by rw [e0]; rfl, rfl, by rw [e0]; exact hO1, X9⟩, ?_⟩
  rintro m w14 ba bn bc i ⟨t, a2, c2, hv, hm, hO, X⟩
  simp only [List.cons.injEq, Value.slice.injEq, Value.int.injEq, true_and, and_true] at hv
  obtain ⟨⟨rfl, rfl, rfl⟩, rfl⟩ := hv
  have hlt := Q3p (l.map BS.bs) t
  refine ⟨fun ht => ?_, fun ht => ?_⟩
  · have htl : t < l.length := by omega
    have hg : l[t]? = some l[t] := List.getElem?_eq_getElem htl
    generalize l[t] = x at *
    have h14 := h.no X
    obtain ⟨ad, ha, hc⟩ := h14.cell hg
    obtain ⟨hx1, hx2⟩ := h14.oks x (List.mem_of_getElem? hg)
    have hm2 : (l.map BS.bs)[t]? = some x.bs := by rw [List.getElem?_map, hg]; rfl
    have est := Q3E hm2
    have hlt2 := Q3p (l.map BS.bs) (t + 1)
    rw [est] at hlt2
    unfold encB at est hlt2
    simp only [List.length_append] at hlt2
    refine ⟨ad, ha, by omega, by omega, x.a, x.bs.length, x.c, by rw [Int.toNat_natCast]; exact hc, ?_⟩
    refine (W.Bytes_spec hO.row (by omega) hx1 (by omega)).mono fun u w21 ⟨a3, c3, he, hO3, X21⟩ => ⟨a3, _, c3, he, by omega, by omega, m - 1, by omega, t + 1, a3, c3, ?_, by omega, ?_, X.trans X21⟩
    · rw [est, List.append_assoc]; rfl
    · rw [est, ← List.append_assoc]; exact OwnB.up hO3 X.size
  · obtain rfl : t = l.length := by omega
    rw [show l.length = (l.map BS.bs).length by rw [List.length_map], Q4i] at hO ⊢
    exact ⟨ba, bc, rfl, hO, X⟩
theorem Q2X (w : World) : Calls Try.prog 8 #[] w (Ret (.bool true) fun w' => Ext no w w') := by
  refine Q09.run ?_
  unfold Q09.N
  intro w1 q2 X1 hb1 hq1 hq1'
  obtain ⟨w4, hr4, hrow4, X4⟩ := litB Try.underlying25 Try.underlying5 [97] X1 hb1 hq1
  refine ⟨_, _, _, w4, hr4, fun w5 q6 X5 hb5 hq6 hq6' => ?_⟩
  have hJ : joinK [[97], []] = ([2, 1, 97, 0], 0) := by decide
  have hat : BsAt w5 (some (blk q6)) 2 [⟨some (blk q2), 1, [97]⟩, ⟨none, 0, []⟩] := ⟨RowAt.of_blk hb5, fun x hx => by
    simp only [List.mem_cons, List.not_mem_nil, or_false] at hx
    rcases hx with rfl | rfl
    · exact ⟨hrow4.no X5, Nat.le_refl _⟩
    · exact ⟨RowAt.nil _ _, Nat.le_refl _⟩, Nat.le_refl _⟩
  refine (Q3J hat (show (2 : Nat) < 1000000 by decide) (fun _ _ => show (joinL [[97], []]).length ≤ 900000 by decide)).mono fun u w10 ⟨a1, c1, he, hO, X10⟩ => ?_
  rw [show ([⟨some (blk q2), 1, [97]⟩, ⟨none, 0, []⟩] : List BS).map BS.bs = [[97], []] from rfl, hJ] at he hO
  refine ⟨_, _, _, _, he, fun w11 q12 X11 hb11 hq12 hq12' => ?_⟩
  have Y10 := (X4.trans X5).trans X10
  obtain ⟨w14, hr14, hrow14, X14⟩ := litB Try.underlying25 Try.underlying5 [120] X11 hb11 hq12
  refine ⟨_, _, _, w14, hr14, fun w16 X16 => ?_⟩
  have hE : frOK ⟨1, ⟨1, 0, 0, 5, 1, 0, [120], 9⟩, Ent.zero, 0, [], 0⟩ = true := by decide
  have hf : Fr.fit ⟨1, ⟨1, 0, 0, 5, 1, 0, [120], 9⟩, Ent.zero, 0, [], 0⟩ := ⟨⟨by decide, by decide, by decide, by decide⟩, Q1w, fun _ h => (by cases h), by decide⟩
  have hL : frL ⟨1, ⟨1, 0, 0, 5, 1, 0, [120], 9⟩, Ent.zero, 0, [], 0⟩ = [1, 9, 1, 0, 0, 10, 1, 0, 1, 120, 9] := by decide
  have hK : frK ⟨1, ⟨1, 0, 0, 5, 1, 0, [120], 9⟩, Ent.zero, 0, [], 0⟩ = ([1, 9, 1, 0, 0, 10, 1, 0, 1, 120, 9], 0) := by unfold frK; rw [hE, hL]; rfl
  have Y16 := (Y10.trans X14).trans X16
  refine (Q3c ⟨1, 0, 0, 5, 1, 0, [120], 9⟩ (some (blk q12)) 1).mono fun u w39 ⟨he, X39⟩ => ⟨_, _, _, _, _, _, _, _, _, _, _, _, _, _, _, _, _, _, _, _, _, _, _, _, _, _, he, ?_⟩
  have hat2 : (FP.ofE ⟨1, 0, 0, 5, 1, 0, [120], 9⟩ (some (blk q12)) 1).at w39 := ⟨(hrow14.no X16).no X39, RowAt.nil _ _, RowAt.nil _ _⟩
  refine (Q0S hat2 hf (show (0 : Nat) ≤ 1000 by decide)).mono fun u w43 ⟨a2, c2, he, hO2, X43⟩ => ?_
  rw [show (FP.ofE ⟨1, 0, 0, 5, 1, 0, [120], 9⟩ (some (blk q12)) 1).r = ⟨1, ⟨1, 0, 0, 5, 1, 0, [120], 9⟩, Ent.zero, 0, [], 0⟩ from rfl, hK] at he hO2
  refine ⟨_, _, _, _, he, ?_⟩
  have hrd := Q1Y hE hf (by rw [hL]; decide)
  rw [hL] at hrd
  refine (Q0M hO2.row hO2.le).mono fun u w66 ⟨x', he, hx, hxa, X66⟩ => ?_
  rw [hrd] at he hx
  refine ⟨_, _, _, _, _, _, _, _, _, _, _, _, _, _, _, _, _, _, _, _, _, _, _, _, _, _, _, he, fun _ => ?_, fun h => absurd rfl h⟩
  intro w70 q71 p72 X70 hb70 hq70 hq70' hp
  have Y := (((Y16.trans X39).trans X43).trans X66).trans X70
  have hOr : RowAt w70 a1 (bytesV [2, 1, 97, 0]) := hO.row.no (((((X14.trans X16).trans X39).trans X43).trans X66).trans X70)
  refine (W.sameB_spec (x := [2, 1, 97, 0]) (y := [2, 1, 97, 0]) (d := 4) hOr (RowAt.of_blk hb70) (by decide)).mono fun u w75 ⟨he, X75⟩ => ⟨_, he, X75.kept, fun _ => ⟨fun _ => ⟨fun _ => ⟨fun _ => ⟨?_, Y.trans X75⟩, fun h => absurd (by rw [hx]) h⟩, fun h => absurd rfl h⟩, fun h => absurd rfl h⟩, fun h => ?_⟩
  · rw [hx]; rfl
  · simp at h
end
structure Ent.wide (e : Ent) : Prop where
  w : -9223372036854775808 ≤ e.w ∧ e.w < 9223372036854775808
  i : -9223372036854775808 ≤ e.i ∧ e.i < 9223372036854775808
  t : -9223372036854775808 ≤ e.t ∧ e.t < 9223372036854775808
  tw : -9223372036854775808 ≤ e.tw ∧ e.tw < 9223372036854775808
  ep : -9223372036854775808 ≤ e.ep ∧ e.ep < 9223372036854775808
def EntQ (W : World) (cs : List Value) : Prop := ∃ (e : Ent) (a : Option Addr) (c : Nat), cs = entC e a c ∧ e.fit ∧ e.wide ∧ e.body.length ≤ c ∧ c ≤ maxLen ∧ RowAt W a (bytesV e.body)
theorem list8 {α : Type} : ∀ {l : List α}, l.length = 8 → ∃ a b c d e f g h, l = [a, b, c, d, e, f, g, h]
  | [a, b, c, d, e, f, g, h], _ => ⟨a, b, c, d, e, f, g, h, rfl⟩
theorem Q2O : Try.prog.cellsOf 27 = 8 := by kernel_rfl
theorem Q1k : Try.prog.cellsOf 24 = 2 := by kernel_rfl
theorem Q28 : Opens Try.prog 27 EntQ := (Q1a Try.underlying27 Q2O).mono fun W cs ⟨hl, hf⟩ => by
  obtain ⟨c0, c1, c2, c3, c4, c5, c6, c7, rfl⟩ := list8 hl
  have e0 : ∃ n, (([c0, c1, c2, c3, c4, c5, c6, c7] : List Value).drop 0).take (Try.prog.cellsOf 3) = [.int .i64 n] ∧ _ := hf 0 _ rfl _ (Q0L Try.underlying3)
  have e1 : ∃ n, (([c0, c1, c2, c3, c4, c5, c6, c7] : List Value).drop 1).take (Try.prog.cellsOf 3) = [.int .i64 n] ∧ _ := hf 1 _ rfl _ (Q0L Try.underlying3)
  have e2 : ∃ n, (([c0, c1, c2, c3, c4, c5, c6, c7] : List Value).drop 2).take (Try.prog.cellsOf 22) = [.int .u64 n] ∧ _ := hf 2 _ rfl _ (Q0L Try.underlying22)
  have e3 := hf 3 _ rfl _ (Q1a Try.underlying24 Q1k)
  change (((([c0, c1, c2, c3, c4, c5, c6, c7] : List Value).drop 3).take (Try.prog.cellsOf 24)).length = 2 ∧ _) at e3
  have e4 : ∃ n, (([c0, c1, c2, c3, c4, c5, c6, c7] : List Value).drop 5).take (Try.prog.cellsOf 3) = [.int .i64 n] ∧ _ := hf 4 _ rfl _ (Q0L Try.underlying3)
  have e5 : BytesQ W ((([c0, c1, c2, c3, c4, c5, c6, c7] : List Value).drop 6).take (Try.prog.cellsOf 25)) := hf 5 _ rfl _ (Q3h Try.underlying25 (by kernel_rfl) Try.underlying5)
  have e6 : ∃ n, (([c0, c1, c2, c3, c4, c5, c6, c7] : List Value).drop 7).take (Try.prog.cellsOf 22) = [.int .u64 n] ∧ _ := hf 6 _ rfl _ (Q0L Try.underlying22)
  have o1 : Try.prog.cellsOf 3 = 1 := by kernel_rfl
  have o2 : Try.prog.cellsOf 22 = 1 := by kernel_rfl
  have o3 : Try.prog.cellsOf 25 = 1 := by kernel_rfl
  have o4 : Try.prog.cellsOf 2 = 1 := by kernel_rfl
  simp only [o1, o2, o3, Q1k, List.drop_zero, List.drop_succ_cons, List.take_succ_cons, List.take_zero] at e0 e1 e2 e4 e5 e6
  obtain ⟨_, hs⟩ := e3
  have s0 : ∃ n, ((((([c0, c1, c2, c3, c4, c5, c6, c7] : List Value).drop 3).take (Try.prog.cellsOf 24)).drop 0).take (Try.prog.cellsOf 2)) = [.int .i64 n] ∧ _ := hs 0 _ rfl _ (Q0L Try.underlying2)
  have s1 : ∃ n, ((((([c0, c1, c2, c3, c4, c5, c6, c7] : List Value).drop 3).take (Try.prog.cellsOf 24)).drop 1).take (Try.prog.cellsOf 3)) = [.int .i64 n] ∧ _ := hs 1 _ rfl _ (Q0L Try.underlying3)
  simp only [o1, o4, Q1k, List.drop_zero, List.drop_succ_cons, List.take_succ_cons, List.take_zero] at s0 s1
  obtain ⟨n0, q0, w0⟩ := e0
  obtain ⟨n1, q1, w1⟩ := e1
  obtain ⟨n2, q2, w2⟩ := e2
  obtain ⟨n3, q3, w3⟩ := s0
  obtain ⟨n4, q4, w4⟩ := s1
  obtain ⟨n5, q5, w5⟩ := e4
  obtain ⟨a, c, bs, q6, l1, l2, r⟩ := e5
  obtain ⟨n7, q7, w7⟩ := e6
  simp only [List.cons.injEq, and_true] at q0 q1 q2 q3 q4 q5 q6 q7
  subst q0; subst q1; subst q2; subst q3; subst q4; subst q5; subst q6; subst q7
  exact ⟨⟨n0, n1, n2, n3, n4, n5, bs, n7⟩, a, c, rfl, ⟨(wf_u64 w2).1, (wf_u64 w2).2, (wf_u64 w7).1, (wf_u64 w7).2⟩, ⟨wf_i64 w0, wf_i64 w1, wf_i64 w3, wf_i64 w4, wf_i64 w5⟩, l1, l2, r⟩
open W (OwnB Rd numR countR doneR)
structure FP.inn (W : World) (x : FP) : Prop where
  at_ : x.at W
  el : x.r.e.body.length ≤ x.ec
  fl : x.r.f.body.length ≤ x.fc
  vl : x.r.v.length ≤ x.vc
  fv : ∀ h ∈ x.r.v, fitH h
  fe : x.r.e.fit ∧ x.r.e.wide
  ff : x.r.f.fit ∧ x.r.f.wide
  kd : -9223372036854775808 ≤ x.r.kd ∧ x.r.kd < 9223372036854775808
  who : -9223372036854775808 ≤ x.r.who ∧ x.r.who < 9223372036854775808
  sg : 0 ≤ x.r.sg ∧ x.r.sg < 18446744073709551616
def FrQ (W : World) (cs : List Value) : Prop := ∃ x : FP, cs = x.C ∧ x.inn W
theorem opens_frame : Opens Try.prog 30 FrQ :=
  (Q44 (qs := [(1, _), (8, _), (8, _), (1, _), (1, _), (1, _)]) (size := 20) Try.underlying30 (by kernel_rfl)
    ⟨⟨rfl, by kernel_rfl, Q0L Try.underlying3⟩, ⟨rfl, by kernel_rfl, Q28⟩, ⟨rfl, by kernel_rfl, Q28⟩, ⟨rfl, by kernel_rfl, Q0L Try.underlying3⟩, ⟨rfl, by kernel_rfl, Q3b⟩, ⟨rfl, by kernel_rfl, Q0L Try.underlying22⟩, rfl⟩).mono
    fun W cs ⟨_, _, e0, _, ⟨kd, q0, fk⟩, _, _, e1, _, ⟨e, ea, ec, q1, f1, g1, l1, _, r1⟩, _, _, e2, _, ⟨f, fa, fc, q2, f2, g2, l2, _, r2⟩, _, _, e3, _, ⟨who, q3, fw⟩, _, _, e4, _, ⟨va, vc, hs, q4, l4, _, r4, f4⟩, _, _, e5, _, ⟨sg, q5, fs⟩, q6⟩ => by
      subst q0; subst q1; subst q2; subst q3; subst q4; subst q5; subst q6; subst e5; subst e4; subst e3; subst e2; subst e1; subst e0
      exact ⟨⟨⟨kd, e, f, who, hs, sg⟩, ea, ec, fa, fc, va, vc⟩, rfl, ⟨r1, r2, r4⟩, l1, l2, l4, f4, ⟨f1, g1⟩, ⟨f2, g2⟩, wf_i64 fk, wf_i64 fw, wf_u64 fs⟩
theorem FP.inn.fit {W : World} {x : FP} (h : x.inn W) : x.r.fit := ⟨h.fe.1, h.ff.1, fun q hq => wf_u64 (h.fv q hq).2.2, h.sg⟩
theorem frK_ok {x : Fr} (h : (frK x).2 = 0) : frOK x = true ∧ (frL x).length ≤ 4000 ∧ frK x = (frL x, 0) := by
  unfold frK at h ⊢
  cases hk : frOK x with
  | false => rw [hk, if_pos rfl] at h; exact absurd (show (1 : Int) = 0 from h) (by decide)
  | true =>
    rw [hk, if_neg (by decide)] at h
    by_cases hl : (frL x).length > 4000
    · rw [if_pos hl] at h; exact absurd (show (3 : Int) = 0 from h) (by decide)
    · exact ⟨rfl, by omega, by rw [if_neg (by decide), if_neg hl]⟩
theorem light_v {r : Fr} (h : frLight r = true) : r.e.body.length ≤ 1500 ∧ r.f.body.length ≤ 1500 ∧ r.v.length ≤ 30 := of_decide_eq_true h
set_option maxRecDepth 100000
set_option maxHeartbeats 40000000
abbrev Q01.J1 (bt : Addr) (c0 : Option Addr) (c2 c1 : Nat) (R : RW) (bs : World) : Prop :=
 ∃ (b0 a2 a4 aw b9 az a6 : Int) (ak : Option Addr) (ag am : Nat) (b2 a1 ae av b7 b8 ad : Int) (al : Option Addr) (an ab : Nat) (ay bh : Int) (bk : Option Addr) (bp bm : Nat) (be : Int), cellsAt bs bt [.int .i64 b0, .int .i64 a2, .int .i64 a4, .int .u64 aw, .int .i64 b9, .int .i64 az, .int .i64 a6, .slice ak ag am, .int .u64 b2, .int .i64 a1, .int .i64 ae, .int .u64 av, .int .i64 b7, .int .i64 b8, .int .i64 ad, .slice al an ab, .int .u64 ay, .int .i64 bh, .slice bk bp bm, .int .u64 be] 0 ∧
 Calls Try.prog 9 #[.agg #[.int .i64 b0, .int .i64 a2, .int .i64 a4, .int .u64 aw, .int .i64 b9, .int .i64 az, .int .i64 a6, .slice ak ag am, .int .u64 b2, .int .i64 a1, .int .i64 ae, .int .u64 av, .int .i64 b7, .int .i64 b8, .int .i64 ad, .slice al an ab, .int .u64 ay, .int .i64 bh, .slice bk bp bm, .int .u64 be]] bs fun bw bq => ∃ (ar : Option Addr) (au ao : Nat) (bd : Int), bw = .returned (.tuple #[.slice ar au ao, .int .i64 bd]) ∧
 bif bd == 0 then (
 Calls Try.prog 14 #[.slice ar au ao, .slice c0 c2 c1] bq fun bv bj => ∃ (bf : Bool), bv = .returned (.bool bf) ∧
 bif bf then (
 ∃ (b5 a3 ac ap b6 bc a5 : Int) (aa : Option Addr) (a8 ai : Nat) (ax a0 a9 aq b4 b1 aj : Int) (af : Option Addr) (a7 ah : Nat) (bb bi : Int) (bn : Option Addr) (bl bo : Nat) (bg : Int), cellsAt bj bt [.int .i64 b5, .int .i64 a3, .int .i64 ac, .int .u64 ap, .int .i64 b6, .int .i64 bc, .int .i64 a5, .slice aa a8 ai, .int .u64 ax, .int .i64 a0, .int .i64 a9, .int .u64 aq, .int .i64 b4, .int .i64 b1, .int .i64 aj, .slice af a7 ah, .int .u64 bb, .int .i64 bi, .slice bn bl bo, .int .u64 bg] 0 ∧
 Calls Try.prog 15 #[.agg #[.int .i64 b5, .int .i64 a3, .int .i64 ac, .int .u64 ap, .int .i64 b6, .int .i64 bc, .int .i64 a5, .slice aa a8 ai, .int .u64 ax, .int .i64 a0, .int .i64 a9, .int .u64 aq, .int .i64 b4, .int .i64 b1, .int .i64 aj, .slice af a7 ah, .int .u64 bb, .int .i64 bi, .slice bn bl bo, .int .u64 bg]] bj fun bz br => ∃ (b3 : Bool), bz = .returned (.bool b3) ∧
 bif b3 then (
 Calls Try.prog 8 #[] br fun bx bu => ∃ (ba : Bool), bx = .returned (.bool ba) ∧
 R (.bool ba) bu) else (
 R (.bool false) br)) else (
 R (.bool false) bj)) else (
 R (.bool false) bq)

abbrev Q01.J2 (d1 : Option Addr) (cz d0 : Nat) (R : RW) (d6 : World) : Prop :=
 Calls Try.prog 11 #[.slice d1 cz d0] d6 fun d4 a0 => ∃ (bz a6 av b8 bj bk ax : Int) (ak : Option Addr) (ar an : Nat) (bq ae ai be bo bh al : Int) (az : Option Addr) (aw b3 : Nat) (bt c5 : Int) (c8 : Option Addr) (ct cp : Nat) (c2 br : Int), d4 = .returned (.tuple #[.agg #[.int .i64 bz, .int .i64 a6, .int .i64 av, .int .u64 b8, .int .i64 bj, .int .i64 bk, .int .i64 ax, .slice ak ar an, .int .u64 bq, .int .i64 ae, .int .i64 ai, .int .u64 be, .int .i64 bo, .int .i64 bh, .int .i64 al, .slice az aw b3, .int .u64 bt, .int .i64 c5, .slice c8 ct cp, .int .u64 c2], .int .i64 br]) ∧
 thenW (a0.alloc (.cells #[.int .i64 0, .int .i64 0, .int .i64 0, .int .u64 0, .int .i64 0, .int .i64 0, .int .i64 0, .slice none 0 0, .int .u64 0, .int .i64 0, .int .i64 0, .int .u64 0, .int .i64 0, .int .i64 0, .int .i64 0, .slice none 0 0, .int .u64 0, .int .i64 0, .slice none 0 0, .int .u64 0] 38)) fun cf =>
 Q02 cf ((blk a0.heap.size).add 0) ∧
 thenW (cf.setCell ((blk a0.heap.size).add 0) (.int .i64 bz)) fun cy =>
 Q02 cy ((blk a0.heap.size).add 1) ∧
 thenW (cy.setCell ((blk a0.heap.size).add 1) (.int .i64 a6)) fun ca =>
 Q02 ca ((blk a0.heap.size).add 2) ∧
 thenW (ca.setCell ((blk a0.heap.size).add 2) (.int .i64 av)) fun c9 =>
 Q02 c9 ((blk a0.heap.size).add 3) ∧
 thenW (c9.setCell ((blk a0.heap.size).add 3) (.int .u64 b8)) fun cg =>
 Q02 cg ((blk a0.heap.size).add 4) ∧
 thenW (cg.setCell ((blk a0.heap.size).add 4) (.int .i64 bj)) fun cu =>
 Q02 cu ((blk a0.heap.size).add 5) ∧
 thenW (cu.setCell ((blk a0.heap.size).add 5) (.int .i64 bk)) fun ch =>
 Q02 ch ((blk a0.heap.size).add 6) ∧
 thenW (ch.setCell ((blk a0.heap.size).add 6) (.int .i64 ax)) fun cl =>
 Q02 cl ((blk a0.heap.size).add 7) ∧
 thenW (cl.setCell ((blk a0.heap.size).add 7) (.slice ak ar an)) fun cm =>
 Q02 cm ((blk a0.heap.size).add 8) ∧
 thenW (cm.setCell ((blk a0.heap.size).add 8) (.int .u64 bq)) fun cq =>
 Q02 cq ((blk a0.heap.size).add 9) ∧
 thenW (cq.setCell ((blk a0.heap.size).add 9) (.int .i64 ae)) fun cj =>
 Q02 cj ((blk a0.heap.size).add 10) ∧
 thenW (cj.setCell ((blk a0.heap.size).add 10) (.int .i64 ai)) fun cw =>
 Q02 cw ((blk a0.heap.size).add 11) ∧
 thenW (cw.setCell ((blk a0.heap.size).add 11) (.int .u64 be)) fun cn =>
 Q02 cn ((blk a0.heap.size).add 12) ∧
 thenW (cn.setCell ((blk a0.heap.size).add 12) (.int .i64 bo)) fun co =>
 Q02 co ((blk a0.heap.size).add 13) ∧
 thenW (co.setCell ((blk a0.heap.size).add 13) (.int .i64 bh)) fun ci =>
 Q02 ci ((blk a0.heap.size).add 14) ∧
 thenW (ci.setCell ((blk a0.heap.size).add 14) (.int .i64 al)) fun cd =>
 Q02 cd ((blk a0.heap.size).add 15) ∧
 thenW (cd.setCell ((blk a0.heap.size).add 15) (.slice az aw b3)) fun cc =>
 Q02 cc ((blk a0.heap.size).add 16) ∧
 thenW (cc.setCell ((blk a0.heap.size).add 16) (.int .u64 bt)) fun cb =>
 Q02 cb ((blk a0.heap.size).add 17) ∧
 thenW (cb.setCell ((blk a0.heap.size).add 17) (.int .i64 c5)) fun cv =>
 Q02 cv ((blk a0.heap.size).add 18) ∧
 thenW (cv.setCell ((blk a0.heap.size).add 18) (.slice c8 ct cp)) fun cs =>
 Q02 cs ((blk a0.heap.size).add 19) ∧
 thenW (cs.setCell ((blk a0.heap.size).add 19) (.int .u64 c2)) fun c0 =>
 bif br != 0 then (
 ∃ (ba a1 a3 ao bc bd aa : Int) (ab : Option Addr) (ac ad : Nat) (bg a2 a7 aq bf bb a9 : Int) (a4 : Option Addr) (af a8 : Nat) (b7 bi : Int) (c3 : Option Addr) (c6 c1 : Nat) (bl : Int), cellsAt c0 (blk a0.heap.size) [.int .i64 ba, .int .i64 a1, .int .i64 a3, .int .u64 ao, .int .i64 bc, .int .i64 bd, .int .i64 aa, .slice ab ac ad, .int .u64 bg, .int .i64 a2, .int .i64 a7, .int .u64 aq, .int .i64 bf, .int .i64 bb, .int .i64 a9, .slice a4 af a8, .int .u64 b7, .int .i64 bi, .slice c3 c6 c1, .int .u64 bl] 0 ∧
 Calls Try.prog 13 #[.agg #[.int .i64 ba, .int .i64 a1, .int .i64 a3, .int .u64 ao, .int .i64 bc, .int .i64 bd, .int .i64 aa, .slice ab ac ad, .int .u64 bg, .int .i64 a2, .int .i64 a7, .int .u64 aq, .int .i64 bf, .int .i64 bb, .int .i64 a9, .slice a4 af a8, .int .u64 b7, .int .i64 bi, .slice c3 c6 c1, .int .u64 bl]] c0 fun d5 d3 => ∃ (bv ag b2 b9 bw bm b0 : Int) (ay : Option Addr) (au b4 : Nat) (bn a5 aj b5 bp bu am : Int) (ap : Option Addr) (b1 ah : Nat) (bs c7 : Int) (ck : Option Addr) (cx cr : Nat) (c4 : Int), d5 = .returned (.agg #[.int .i64 bv, .int .i64 ag, .int .i64 b2, .int .u64 b9, .int .i64 bw, .int .i64 bm, .int .i64 b0, .slice ay au b4, .int .u64 bn, .int .i64 a5, .int .i64 aj, .int .u64 b5, .int .i64 bp, .int .i64 bu, .int .i64 am, .slice ap b1 ah, .int .u64 bs, .int .i64 c7, .slice ck cx cr, .int .u64 c4]) ∧
 Calls Try.prog 12 #[.agg #[.int .i64 bv, .int .i64 ag, .int .i64 b2, .int .u64 b9, .int .i64 bw, .int .i64 bm, .int .i64 b0, .slice ay au b4, .int .u64 bn, .int .i64 a5, .int .i64 aj, .int .u64 b5, .int .i64 bp, .int .i64 bu, .int .i64 am, .slice ap b1 ah, .int .u64 bs, .int .i64 c7, .slice ck cx cr, .int .u64 c4], .agg #[.int .i64 0, .int .i64 0, .int .i64 0, .int .u64 0, .int .i64 0, .int .i64 0, .int .i64 0, .slice none 0 0, .int .u64 0, .int .i64 0, .int .i64 0, .int .u64 0, .int .i64 0, .int .i64 0, .int .i64 0, .slice none 0 0, .int .u64 0, .int .i64 0, .slice none 0 0, .int .u64 0]] d3 fun d7 ce => ∃ (bx : Bool), d7 = .returned (.bool bx) ∧
 bif bx then (
 Calls Try.prog 8 #[] ce fun d2 d8 => ∃ (b6 : Bool), d2 = .returned (.bool b6) ∧
 R (.bool b6) d8) else (
 R (.bool false) ce)) else (
 Q01.J1 (blk a0.heap.size) d1 cz d0 R c0)

abbrev Q01.J3 (br : Option Addr) (bu bs : Nat) (bw : Option Addr) (bt bv : Nat) (R : RW) (ay : World) : Prop :=
 thenW (ay.alloc (.cells #[] 5)) fun bp =>
 ∃ (ba : Option Addr) (b9 bf : Nat) (an : World), (Builtin.append_ #[25, 25] 25 #[.slice (some (blk ay.heap.size)) 0 0, .slice br bu bs]).run Try.prog bp = .ok (.slice ba b9 bf) an ∧
 thenW (an.alloc (.cells #[.int .u8 0] 5)) fun bo =>
 ∃ (aq : Option Addr) (az b6 : Nat) (b2 : World), (Builtin.append_ #[25, 25] 25 #[.slice ba b9 bf, .slice (some (blk an.heap.size)) 1 1]).run Try.prog bo = .ok (.slice aq az b6) b2 ∧
 Calls Try.prog 11 #[.slice aq az b6] b2 fun bq a0 => ∃ (am a2 a5 ae al ag a9 : Int) (aa : Option Addr) (ab a3 : Nat) (aj a1 a4 ad ah ak a8 : Int) (ac : Option Addr) (a7 a6 : Nat) (ai ap : Int) (bm : Option Addr) (b7 be : Nat) (ao af : Int), bq = .returned (.tuple #[.agg #[.int .i64 am, .int .i64 a2, .int .i64 a5, .int .u64 ae, .int .i64 al, .int .i64 ag, .int .i64 a9, .slice aa ab a3, .int .u64 aj, .int .i64 a1, .int .i64 a4, .int .u64 ad, .int .i64 ah, .int .i64 ak, .int .i64 a8, .slice ac a7 a6, .int .u64 ai, .int .i64 ap, .slice bm b7 be, .int .u64 ao], .int .i64 af]) ∧
 thenW (a0.alloc (.cells #[.int .i64 0, .int .i64 0, .int .i64 0, .int .u64 0, .int .i64 0, .int .i64 0, .int .i64 0, .slice none 0 0, .int .u64 0, .int .i64 0, .int .i64 0, .int .u64 0, .int .i64 0, .int .i64 0, .int .i64 0, .slice none 0 0, .int .u64 0, .int .i64 0, .slice none 0 0, .int .u64 0] 38)) fun bh =>
 Q02 bh ((blk a0.heap.size).add 0) ∧
 thenW (bh.setCell ((blk a0.heap.size).add 0) (.int .i64 am)) fun bi =>
 Q02 bi ((blk a0.heap.size).add 1) ∧
 thenW (bi.setCell ((blk a0.heap.size).add 1) (.int .i64 a2)) fun b4 =>
 Q02 b4 ((blk a0.heap.size).add 2) ∧
 thenW (b4.setCell ((blk a0.heap.size).add 2) (.int .i64 a5)) fun bd =>
 Q02 bd ((blk a0.heap.size).add 3) ∧
 thenW (bd.setCell ((blk a0.heap.size).add 3) (.int .u64 ae)) fun au =>
 Q02 au ((blk a0.heap.size).add 4) ∧
 thenW (au.setCell ((blk a0.heap.size).add 4) (.int .i64 al)) fun bc =>
 Q02 bc ((blk a0.heap.size).add 5) ∧
 thenW (bc.setCell ((blk a0.heap.size).add 5) (.int .i64 ag)) fun b0 =>
 Q02 b0 ((blk a0.heap.size).add 6) ∧
 thenW (b0.setCell ((blk a0.heap.size).add 6) (.int .i64 a9)) fun ax =>
 Q02 ax ((blk a0.heap.size).add 7) ∧
 thenW (ax.setCell ((blk a0.heap.size).add 7) (.slice aa ab a3)) fun ar =>
 Q02 ar ((blk a0.heap.size).add 8) ∧
 thenW (ar.setCell ((blk a0.heap.size).add 8) (.int .u64 aj)) fun bj =>
 Q02 bj ((blk a0.heap.size).add 9) ∧
 thenW (bj.setCell ((blk a0.heap.size).add 9) (.int .i64 a1)) fun b5 =>
 Q02 b5 ((blk a0.heap.size).add 10) ∧
 thenW (b5.setCell ((blk a0.heap.size).add 10) (.int .i64 a4)) fun av =>
 Q02 av ((blk a0.heap.size).add 11) ∧
 thenW (av.setCell ((blk a0.heap.size).add 11) (.int .u64 ad)) fun b3 =>
 Q02 b3 ((blk a0.heap.size).add 12) ∧
 thenW (b3.setCell ((blk a0.heap.size).add 12) (.int .i64 ah)) fun bk =>
 Q02 bk ((blk a0.heap.size).add 13) ∧
 thenW (bk.setCell ((blk a0.heap.size).add 13) (.int .i64 ak)) fun aw =>
 Q02 aw ((blk a0.heap.size).add 14) ∧
 thenW (aw.setCell ((blk a0.heap.size).add 14) (.int .i64 a8)) fun bb =>
 Q02 bb ((blk a0.heap.size).add 15) ∧
 thenW (bb.setCell ((blk a0.heap.size).add 15) (.slice ac a7 a6)) fun b8 =>
 Q02 b8 ((blk a0.heap.size).add 16) ∧
 thenW (b8.setCell ((blk a0.heap.size).add 16) (.int .u64 ai)) fun bn =>
 Q02 bn ((blk a0.heap.size).add 17) ∧
 thenW (bn.setCell ((blk a0.heap.size).add 17) (.int .i64 ap)) fun b1 =>
 Q02 b1 ((blk a0.heap.size).add 18) ∧
 thenW (b1.setCell ((blk a0.heap.size).add 18) (.slice bm b7 be)) fun bg =>
 Q02 bg ((blk a0.heap.size).add 19) ∧
 thenW (bg.setCell ((blk a0.heap.size).add 19) (.int .u64 ao)) fun bl =>
 bif af == 0 then (
 R (.bool false) bl) else (
 Q01.J2 bw bt bv R bl)

abbrev Q01.J4 (bo : Bool) (aq : Option Addr) (bn ao : Nat) (bl : Option Addr) (bk bj : Nat) (bi : Int) (R : RW) (b2 : World) : Prop :=
 bif bo then (
 (0 : Int) ≤ (bi : Int) ∧ (bi : Int) ≤ (ao : Int) ∧
 Calls Try.prog 11 #[.slice (if ao = 0 then aq else Option.map (fun z : Addr => z.add (0 * 1)) aq) ((Int.toNat bi) - 0) (ao - 0)] b2 fun bm a0 => ∃ (ak a1 a3 ad aj ah aa : Int) (a6 : Option Addr) (a4 ab : Nat) (ag a2 a7 ae af al a8 : Int) (ac : Option Addr) (a9 a5 : Nat) (ai ap : Int) (av : Option Addr) (bc aw : Nat) (an am : Int), bm = .returned (.tuple #[.agg #[.int .i64 ak, .int .i64 a1, .int .i64 a3, .int .u64 ad, .int .i64 aj, .int .i64 ah, .int .i64 aa, .slice a6 a4 ab, .int .u64 ag, .int .i64 a2, .int .i64 a7, .int .u64 ae, .int .i64 af, .int .i64 al, .int .i64 a8, .slice ac a9 a5, .int .u64 ai, .int .i64 ap, .slice av bc aw, .int .u64 an], .int .i64 am]) ∧
 thenW (a0.alloc (.cells #[.int .i64 0, .int .i64 0, .int .i64 0, .int .u64 0, .int .i64 0, .int .i64 0, .int .i64 0, .slice none 0 0, .int .u64 0, .int .i64 0, .int .i64 0, .int .u64 0, .int .i64 0, .int .i64 0, .int .i64 0, .slice none 0 0, .int .u64 0, .int .i64 0, .slice none 0 0, .int .u64 0] 38)) fun ax =>
 Q02 ax ((blk a0.heap.size).add 0) ∧
 thenW (ax.setCell ((blk a0.heap.size).add 0) (.int .i64 ak)) fun bf =>
 Q02 bf ((blk a0.heap.size).add 1) ∧
 thenW (bf.setCell ((blk a0.heap.size).add 1) (.int .i64 a1)) fun ay =>
 Q02 ay ((blk a0.heap.size).add 2) ∧
 thenW (ay.setCell ((blk a0.heap.size).add 2) (.int .i64 a3)) fun be =>
 Q02 be ((blk a0.heap.size).add 3) ∧
 thenW (be.setCell ((blk a0.heap.size).add 3) (.int .u64 ad)) fun ar =>
 Q02 ar ((blk a0.heap.size).add 4) ∧
 thenW (ar.setCell ((blk a0.heap.size).add 4) (.int .i64 aj)) fun b7 =>
 Q02 b7 ((blk a0.heap.size).add 5) ∧
 thenW (b7.setCell ((blk a0.heap.size).add 5) (.int .i64 ah)) fun b3 =>
 Q02 b3 ((blk a0.heap.size).add 6) ∧
 thenW (b3.setCell ((blk a0.heap.size).add 6) (.int .i64 aa)) fun az =>
 Q02 az ((blk a0.heap.size).add 7) ∧
 thenW (az.setCell ((blk a0.heap.size).add 7) (.slice a6 a4 ab)) fun b5 =>
 Q02 b5 ((blk a0.heap.size).add 8) ∧
 thenW (b5.setCell ((blk a0.heap.size).add 8) (.int .u64 ag)) fun b1 =>
 Q02 b1 ((blk a0.heap.size).add 9) ∧
 thenW (b1.setCell ((blk a0.heap.size).add 9) (.int .i64 a2)) fun bb =>
 Q02 bb ((blk a0.heap.size).add 10) ∧
 thenW (bb.setCell ((blk a0.heap.size).add 10) (.int .i64 a7)) fun b8 =>
 Q02 b8 ((blk a0.heap.size).add 11) ∧
 thenW (b8.setCell ((blk a0.heap.size).add 11) (.int .u64 ae)) fun b9 =>
 Q02 b9 ((blk a0.heap.size).add 12) ∧
 thenW (b9.setCell ((blk a0.heap.size).add 12) (.int .i64 af)) fun b6 =>
 Q02 b6 ((blk a0.heap.size).add 13) ∧
 thenW (b6.setCell ((blk a0.heap.size).add 13) (.int .i64 al)) fun bg =>
 Q02 bg ((blk a0.heap.size).add 14) ∧
 thenW (bg.setCell ((blk a0.heap.size).add 14) (.int .i64 a8)) fun au =>
 Q02 au ((blk a0.heap.size).add 15) ∧
 thenW (au.setCell ((blk a0.heap.size).add 15) (.slice ac a9 a5)) fun bd =>
 Q02 bd ((blk a0.heap.size).add 16) ∧
 thenW (bd.setCell ((blk a0.heap.size).add 16) (.int .u64 ai)) fun b0 =>
 Q02 b0 ((blk a0.heap.size).add 17) ∧
 thenW (b0.setCell ((blk a0.heap.size).add 17) (.int .i64 ap)) fun bh =>
 Q02 bh ((blk a0.heap.size).add 18) ∧
 thenW (bh.setCell ((blk a0.heap.size).add 18) (.slice av bc aw)) fun b4 =>
 Q02 b4 ((blk a0.heap.size).add 19) ∧
 thenW (b4.setCell ((blk a0.heap.size).add 19) (.int .u64 an)) fun ba =>
 bif am == 0 then (
 R (.bool false) ba) else (
 Q01.J3 aq bn ao bl bk bj R ba)) else (
 Q01.J3 aq bn ao bl bk bj R b2)

abbrev Q01.J5 (a6 : Option Addr) (a5 a1 : Nat) (a4 : Option Addr) (a2 a3 : Nat) (R : RW) (a0 : World) : Prop :=
 Q01.J3 a6 a5 a1 a4 a2 a3 R a0

abbrev Q01.J6 (a7 : Option Addr) (a2 a3 : Nat) (a6 : Option Addr) (a5 a4 : Nat) (a1 : Int) (R : RW) (a0 : World) : Prop :=
 bif decide (a1 ≥ 0) then (
 Q01.J4 (decide (a1 < (a2 : Int))) a7 a2 a3 a6 a5 a4 a1 R a0) else (
 Q01.J5 a7 a2 a3 a6 a5 a4 R a0)

abbrev Q01.J7 (fo : Addr) (fc : Option Addr) (fg fe : Nat) (fm : Int) (R : RW) (f0 : World) : Prop :=
 ∃ (cp al au c0 cz cm bf : Int) (ao : Option Addr) (b4 bj : Nat) (d0 ai aq bm d4 d2 b8 : Int) (ar : Option Addr) (bi b2 : Nat) (d3 dn : Int) (ec : Option Addr) (e7 e4 : Nat) (db : Int), cellsAt f0 fo [.int .i64 cp, .int .i64 al, .int .i64 au, .int .u64 c0, .int .i64 cz, .int .i64 cm, .int .i64 bf, .slice ao b4 bj, .int .u64 d0, .int .i64 ai, .int .i64 aq, .int .u64 bm, .int .i64 d4, .int .i64 d2, .int .i64 b8, .slice ar bi b2, .int .u64 d3, .int .i64 dn, .slice ec e7 e4, .int .u64 db] 0 ∧
 Calls Try.prog 10 #[.agg #[.int .i64 cp, .int .i64 al, .int .i64 au, .int .u64 c0, .int .i64 cz, .int .i64 cm, .int .i64 bf, .slice ao b4 bj, .int .u64 d0, .int .i64 ai, .int .i64 aq, .int .u64 bm, .int .i64 d4, .int .i64 d2, .int .i64 b8, .slice ar bi b2, .int .u64 d3, .int .i64 dn, .slice ec e7 e4, .int .u64 db]] f0 fun fd fj => ∃ (e2 an ci cy dm dr cd : Int) (c3 : Option Addr) (ca cc : Nat) (dw bg c9 cr ds dq c6 : Int) (c1 : Option Addr) (c2 cf : Nat) (dd e5 : Int) (ei : Option Addr) (f3 f6 : Nat) (eb : Int), fd = .returned (.agg #[.int .i64 e2, .int .i64 an, .int .i64 ci, .int .u64 cy, .int .i64 dm, .int .i64 dr, .int .i64 cd, .slice c3 ca cc, .int .u64 dw, .int .i64 bg, .int .i64 c9, .int .u64 cr, .int .i64 ds, .int .i64 dq, .int .i64 c6, .slice c1 c2 cf, .int .u64 dd, .int .i64 e5, .slice ei f3 f6, .int .u64 eb]) ∧
 Calls Try.prog 9 #[.agg #[.int .i64 e2, .int .i64 an, .int .i64 ci, .int .u64 cy, .int .i64 dm, .int .i64 dr, .int .i64 cd, .slice c3 ca cc, .int .u64 dw, .int .i64 bg, .int .i64 c9, .int .u64 cr, .int .i64 ds, .int .i64 dq, .int .i64 c6, .slice c1 c2 cf, .int .u64 dd, .int .i64 e5, .slice ei f3 f6, .int .u64 eb]] fj fun fi f4 => ∃ (ag : Option Addr) (ae ah : Nat) (d5 : Int), fi = .returned (.tuple #[.slice ag ae ah, .int .i64 d5]) ∧
 bif d5 == 0 then (
 Calls Try.prog 11 #[.slice ag ae ah] f4 fun fk a0 => ∃ (dj am cb d6 dx dc c4 : Int) (bt : Option Addr) (bp bs : Nat) (dz bd c5 d1 dv da bx : Int) (bl : Option Addr) (c7 bn : Nat) (de ed : Int) (ep : Option Addr) (f9 en : Nat) (e3 dh : Int), fk = .returned (.tuple #[.agg #[.int .i64 dj, .int .i64 am, .int .i64 cb, .int .u64 d6, .int .i64 dx, .int .i64 dc, .int .i64 c4, .slice bt bp bs, .int .u64 dz, .int .i64 bd, .int .i64 c5, .int .u64 d1, .int .i64 dv, .int .i64 da, .int .i64 bx, .slice bl c7 bn, .int .u64 de, .int .i64 ed, .slice ep f9 en, .int .u64 e3], .int .i64 dh]) ∧
 thenW (a0.alloc (.cells #[.int .i64 0, .int .i64 0, .int .i64 0, .int .u64 0, .int .i64 0, .int .i64 0, .int .i64 0, .slice none 0 0, .int .u64 0, .int .i64 0, .int .i64 0, .int .u64 0, .int .i64 0, .int .i64 0, .int .i64 0, .slice none 0 0, .int .u64 0, .int .i64 0, .slice none 0 0, .int .u64 0] 38)) fun f8 =>
 Q02 f8 ((blk a0.heap.size).add 0) ∧
 thenW (f8.setCell ((blk a0.heap.size).add 0) (.int .i64 dj)) fun el =>
 Q02 el ((blk a0.heap.size).add 1) ∧
 thenW (el.setCell ((blk a0.heap.size).add 1) (.int .i64 am)) fun ej =>
 Q02 ej ((blk a0.heap.size).add 2) ∧
 thenW (ej.setCell ((blk a0.heap.size).add 2) (.int .i64 cb)) fun eg =>
 Q02 eg ((blk a0.heap.size).add 3) ∧
 thenW (eg.setCell ((blk a0.heap.size).add 3) (.int .u64 d6)) fun ez =>
 Q02 ez ((blk a0.heap.size).add 4) ∧
 thenW (ez.setCell ((blk a0.heap.size).add 4) (.int .i64 dx)) fun ey =>
 Q02 ey ((blk a0.heap.size).add 5) ∧
 thenW (ey.setCell ((blk a0.heap.size).add 5) (.int .i64 dc)) fun f7 =>
 Q02 f7 ((blk a0.heap.size).add 6) ∧
 thenW (f7.setCell ((blk a0.heap.size).add 6) (.int .i64 c4)) fun eq =>
 Q02 eq ((blk a0.heap.size).add 7) ∧
 thenW (eq.setCell ((blk a0.heap.size).add 7) (.slice bt bp bs)) fun es =>
 Q02 es ((blk a0.heap.size).add 8) ∧
 thenW (es.setCell ((blk a0.heap.size).add 8) (.int .u64 dz)) fun eh =>
 Q02 eh ((blk a0.heap.size).add 9) ∧
 thenW (eh.setCell ((blk a0.heap.size).add 9) (.int .i64 bd)) fun ex =>
 Q02 ex ((blk a0.heap.size).add 10) ∧
 thenW (ex.setCell ((blk a0.heap.size).add 10) (.int .i64 c5)) fun fa =>
 Q02 fa ((blk a0.heap.size).add 11) ∧
 thenW (fa.setCell ((blk a0.heap.size).add 11) (.int .u64 d1)) fun f1 =>
 Q02 f1 ((blk a0.heap.size).add 12) ∧
 thenW (f1.setCell ((blk a0.heap.size).add 12) (.int .i64 dv)) fun ev =>
 Q02 ev ((blk a0.heap.size).add 13) ∧
 thenW (ev.setCell ((blk a0.heap.size).add 13) (.int .i64 da)) fun ef =>
 Q02 ef ((blk a0.heap.size).add 14) ∧
 thenW (ef.setCell ((blk a0.heap.size).add 14) (.int .i64 bx)) fun eu =>
 Q02 eu ((blk a0.heap.size).add 15) ∧
 thenW (eu.setCell ((blk a0.heap.size).add 15) (.slice bl c7 bn)) fun et =>
 Q02 et ((blk a0.heap.size).add 16) ∧
 thenW (et.setCell ((blk a0.heap.size).add 16) (.int .u64 de)) fun em =>
 Q02 em ((blk a0.heap.size).add 17) ∧
 thenW (em.setCell ((blk a0.heap.size).add 17) (.int .i64 ed)) fun er =>
 Q02 er ((blk a0.heap.size).add 18) ∧
 thenW (er.setCell ((blk a0.heap.size).add 18) (.slice ep f9 en)) fun f5 =>
 Q02 f5 ((blk a0.heap.size).add 19) ∧
 thenW (f5.setCell ((blk a0.heap.size).add 19) (.int .u64 e3)) fun fl =>
 thenW (fl.drew) fun dg =>
 bif dh != 0 then (
 R (.bool false) dg) else (
 ∃ (cv aj az bw cn ct ax : Int) (b5 : Option Addr) (bc bh : Nat) (cx ak ba ch cs co b0 : Int) (bb : Option Addr) (bk b7 : Nat) (cw di : Int) (e8 : Option Addr) (e9 ea : Nat) (du : Int), cellsAt dg (blk a0.heap.size) [.int .i64 cv, .int .i64 aj, .int .i64 az, .int .u64 bw, .int .i64 cn, .int .i64 ct, .int .i64 ax, .slice b5 bc bh, .int .u64 cx, .int .i64 ak, .int .i64 ba, .int .u64 ch, .int .i64 cs, .int .i64 co, .int .i64 b0, .slice bb bk b7, .int .u64 cw, .int .i64 di, .slice e8 e9 ea, .int .u64 du] 0 ∧
 ∃ (ap a1 a6 ad b3 aw a5 : Int) (a3 : Option Addr) (a7 a9 : Nat) (be a2 aa af ay av a8 : Int) (a4 : Option Addr) (ac ab : Nat) (b9 ck : Int) (d7 : Option Addr) (d8 d9 : Nat) (cl : Int), cellsAt dg fo [.int .i64 ap, .int .i64 a1, .int .i64 a6, .int .u64 ad, .int .i64 b3, .int .i64 aw, .int .i64 a5, .slice a3 a7 a9, .int .u64 be, .int .i64 a2, .int .i64 aa, .int .u64 af, .int .i64 ay, .int .i64 av, .int .i64 a8, .slice a4 ac ab, .int .u64 b9, .int .i64 ck, .slice d7 d8 d9, .int .u64 cl] 0 ∧
 Calls Try.prog 13 #[.agg #[.int .i64 cv, .int .i64 aj, .int .i64 az, .int .u64 bw, .int .i64 cn, .int .i64 ct, .int .i64 ax, .slice b5 bc bh, .int .u64 cx, .int .i64 ak, .int .i64 ba, .int .u64 ch, .int .i64 cs, .int .i64 co, .int .i64 b0, .slice bb bk b7, .int .u64 cw, .int .i64 di, .slice e8 e9 ea, .int .u64 du]] dg fun fh ek => ∃ (dk b6 c8 cq df dl bv : Int) (bz : Option Addr) (bq cg : Nat) (e1 b1 br cu dp e0 bo : Int) (ce : Option Addr) (cj bu : Nat) (dy ee : Int) (ew : Option Addr) (eo fb : Nat) (e6 : Int), fh = .returned (.agg #[.int .i64 dk, .int .i64 b6, .int .i64 c8, .int .u64 cq, .int .i64 df, .int .i64 dl, .int .i64 bv, .slice bz bq cg, .int .u64 e1, .int .i64 b1, .int .i64 br, .int .u64 cu, .int .i64 dp, .int .i64 e0, .int .i64 bo, .slice ce cj bu, .int .u64 dy, .int .i64 ee, .slice ew eo fb, .int .u64 e6]) ∧
 cellsAt ek fo [.int .i64 ap, .int .i64 a1, .int .i64 a6, .int .u64 ad, .int .i64 b3, .int .i64 aw, .int .i64 a5, .slice a3 a7 a9, .int .u64 be, .int .i64 a2, .int .i64 aa, .int .u64 af, .int .i64 ay, .int .i64 av, .int .i64 a8, .slice a4 ac ab, .int .u64 b9, .int .i64 ck, .slice d7 d8 d9, .int .u64 cl] 0 ∧
 Calls Try.prog 12 #[.agg #[.int .i64 dk, .int .i64 b6, .int .i64 c8, .int .u64 cq, .int .i64 df, .int .i64 dl, .int .i64 bv, .slice bz bq cg, .int .u64 e1, .int .i64 b1, .int .i64 br, .int .u64 cu, .int .i64 dp, .int .i64 e0, .int .i64 bo, .slice ce cj bu, .int .u64 dy, .int .i64 ee, .slice ew eo fb, .int .u64 e6], .agg #[.int .i64 ap, .int .i64 a1, .int .i64 a6, .int .u64 ad, .int .i64 b3, .int .i64 aw, .int .i64 a5, .slice a3 a7 a9, .int .u64 be, .int .i64 a2, .int .i64 aa, .int .u64 af, .int .i64 ay, .int .i64 av, .int .i64 a8, .slice a4 ac ab, .int .u64 b9, .int .i64 ck, .slice d7 d8 d9, .int .u64 cl]] ek fun ff f2 => ∃ (dt : Bool), ff = .returned (.bool dt) ∧
 bif !dt then (
 R (.bool false) f2) else (
 Q01.J6 ag ae ah fc fg fe fm R f2))) else (
 Q01.J2 fc fg fe R f4)

def Q01.M (bh au b2 b7 bg bd ax : Int) (b0 : Option Addr) (az b3 : Nat) (bf ae ap ay b6 b8 aq : Int) (ar : Option Addr) (aw av : Nat) (b5 be : Int) (bl : Option Addr) (bn bk : Nat) (bi : Int) (bt : Option Addr) (bo bq : Nat) (bj : Int) (R : RW) (w : World) : Prop :=
 thenW (w.alloc (.cells #[.int .i64 bh, .int .i64 au, .int .i64 b2, .int .u64 b7, .int .i64 bg, .int .i64 bd, .int .i64 ax, .slice b0 az b3, .int .u64 bf, .int .i64 ae, .int .i64 ap, .int .u64 ay, .int .i64 b6, .int .i64 b8, .int .i64 aq, .slice ar aw av, .int .u64 b5, .int .i64 be, .slice bl bn bk, .int .u64 bi] 30)) fun bm =>
 ∃ (am a0 a8 ac ag al a2 : Int) (a6 : Option Addr) (a5 a3 : Nat) (an a1 aa ad aj ai a7 : Int) (a9 : Option Addr) (a4 ab : Nat) (ah b1 : Int) (b9 : Option Addr) (bb ba : Nat) (b4 : Int), cellsAt bm (blk w.heap.size) [.int .i64 am, .int .i64 a0, .int .i64 a8, .int .u64 ac, .int .i64 ag, .int .i64 al, .int .i64 a2, .slice a6 a5 a3, .int .u64 an, .int .i64 a1, .int .i64 aa, .int .u64 ad, .int .i64 aj, .int .i64 ai, .int .i64 a7, .slice a9 a4 ab, .int .u64 ah, .int .i64 b1, .slice b9 bb ba, .int .u64 b4] 0 ∧
 Calls Try.prog 7 #[.agg #[.int .i64 am, .int .i64 a0, .int .i64 a8, .int .u64 ac, .int .i64 ag, .int .i64 al, .int .i64 a2, .slice a6 a5 a3, .int .u64 an, .int .i64 a1, .int .i64 aa, .int .u64 ad, .int .i64 aj, .int .i64 ai, .int .i64 a7, .slice a9 a4 ab, .int .u64 ah, .int .i64 b1, .slice b9 bb ba, .int .u64 b4]] bm fun br bc => ∃ (af : Bool), br = .returned (.bool af) ∧
 bif !af then (
 Calls Try.prog 8 #[] bc fun bv bs => ∃ (ao : Bool), bv = .returned (.bool ao) ∧
 R (.bool ao) bs) else (
 bif decide ((bo : Int) > 4100) then (
 Calls Try.prog 8 #[] bc fun bp bu => ∃ (ak : Bool), bp = .returned (.bool ak) ∧
 R (.bool ak) bu) else (
 Q01.J7 (blk w.heap.size) bt bo bq bj R bc))

theorem Q01.ok (al a4 ab af ak ah a7 : Int) (aa : Option Addr) (a9 ac : Nat) (aj a0 a1 a8 ae ag a2 : Int) (a3 : Option Addr) (a6 a5 : Nat) (ad ai : Int) (ao : Option Addr) (ap aq : Nat) (am : Int) (ar : Option Addr) (au av : Nat) (an : Int) {R : RW} {w : World} (h : Q01.M al a4 ab af ak ah a7 aa a9 ac aj a0 a1 a8 ae ag a2 a3 a6 a5 ad ai ao ap aq am ar au av an R w) : Calls Try.prog 3 #[.agg #[.int .i64 al, .int .i64 a4, .int .i64 ab, .int .u64 af, .int .i64 ak, .int .i64 ah, .int .i64 a7, .slice aa a9 ac, .int .u64 aj, .int .i64 a0, .int .i64 a1, .int .u64 a8, .int .i64 ae, .int .i64 ag, .int .i64 a2, .slice a3 a6 a5, .int .u64 ad, .int .i64 ai, .slice ao ap aq, .int .u64 am], .slice ar au av, .int .i64 an] w fun e w' => ∃ v, e = .returned v ∧ R v w' :=
  Q07 follows (H := []) (args := [.agg #[.int .i64 al, .int .i64 a4, .int .i64 ab, .int .u64 af, .int .i64 ak, .int .i64 ah, .int .i64 a7, .slice aa a9 ac, .int .u64 aj, .int .i64 a0, .int .i64 a1, .int .u64 a8, .int .i64 ae, .int .i64 ag, .int .i64 a2, .slice a3 a6 a5, .int .u64 ad, .int .i64 ai, .slice ao ap aq, .int .u64 am], .slice ar au av, .int .i64 an]) (cast (by kernel_rfl) h)

def Q01.N (j1 bu de g8 iu iy d8 : Int) (cy : Option Addr) (cp cq : Nat) (ir bh bq d6 fp fx br : Int) (bs : Option Addr) (bv bt : Nat) (fg io : Int) (m5 : Option Addr) (mc mm : Nat) (j2 : Int) (gg : Option Addr) (di ia : Nat) (dg : Int) (R : RW) (w : World) : Prop :=
 ∀ (o6 : World) (qa : Nat), Ext no w o6 → Priv w o6 [qa] →
 Calls Try.prog 7 #[.agg #[.int .i64 j1, .int .i64 bu, .int .i64 de, .int .u64 g8, .int .i64 iu, .int .i64 iy, .int .i64 d8, .slice cy cp cq, .int .u64 ir, .int .i64 bh, .int .i64 bq, .int .u64 d6, .int .i64 fp, .int .i64 fx, .int .i64 br, .slice bs bv bt, .int .u64 fg, .int .i64 io, .slice m5 mc mm, .int .u64 j2]] o6 fun tc mb => ∃ (g3 : Bool), tc = .returned (.bool g3) ∧
 Keep [qa] o6 mb ∧
 (g3 = false →
 Calls Try.prog 8 #[] mb fun tf te => ∃ (jp : Bool), tf = .returned (.bool jp) ∧
 R (.bool jp) te) ∧
 (g3 = true →
 ((di : Int) > 4100 →
 Calls Try.prog 8 #[] mb fun t9 ta => ∃ (k4 : Bool), t9 = .returned (.bool k4) ∧
 R (.bool k4) ta) ∧
 ((di : Int) ≤ 4100 →
 Calls Try.prog 10 #[.agg #[.int .i64 j1, .int .i64 bu, .int .i64 de, .int .u64 g8, .int .i64 iu, .int .i64 iy, .int .i64 d8, .slice cy cp cq, .int .u64 ir, .int .i64 bh, .int .i64 bq, .int .u64 d6, .int .i64 fp, .int .i64 fx, .int .i64 br, .slice bs bv bt, .int .u64 fg, .int .i64 io, .slice m5 mc mm, .int .u64 j2]] mb fun tb q1 => ∃ (mk f3 i4 kq ms mi ib : Int) (gk : Option Addr) (gv gw : Nat) (ly fd gi kb me my i5 : Int) (i7 : Option Addr) (il gt : Nat) (mo pv : Int) (sv : Option Addr) (s2 t1 : Nat) (p6 : Int), tb = .returned (.agg #[.int .i64 mk, .int .i64 f3, .int .i64 i4, .int .u64 kq, .int .i64 ms, .int .i64 mi, .int .i64 ib, .slice gk gv gw, .int .u64 ly, .int .i64 fd, .int .i64 gi, .int .u64 kb, .int .i64 me, .int .i64 my, .int .i64 i5, .slice i7 il gt, .int .u64 mo, .int .i64 pv, .slice sv s2 t1, .int .u64 p6]) ∧
 Keep [qa] mb q1 ∧
 Calls Try.prog 9 #[.agg #[.int .i64 mk, .int .i64 f3, .int .i64 i4, .int .u64 kq, .int .i64 ms, .int .i64 mi, .int .i64 ib, .slice gk gv gw, .int .u64 ly, .int .i64 fd, .int .i64 gi, .int .u64 kb, .int .i64 me, .int .i64 my, .int .i64 i5, .slice i7 il gt, .int .u64 mo, .int .i64 pv, .slice sv s2 t1, .int .u64 p6]] q1 fun td o1 => ∃ (a2 : Option Addr) (a1 a0 : Nat) (fz : Int), td = .returned (.tuple #[.slice a2 a1 a0, .int .i64 fz]) ∧
 Keep [qa] q1 o1 ∧
 (fz = 0 →
 Calls Try.prog 11 #[.slice a2 a1 a0] o1 fun t8 q4 => ∃ (n1 e0 ih jz ml n3 gl : Int) (ii : Option Addr) (gm gc : Nat) (mg dt gu jw n6 mt i9 : Int) (gd : Option Addr) (ge i2 : Nat) (mw pj : Int) (s3 : Option Addr) (qf qs : Nat) (po im : Int), t8 = .returned (.tuple #[.agg #[.int .i64 n1, .int .i64 e0, .int .i64 ih, .int .u64 jz, .int .i64 ml, .int .i64 n3, .int .i64 gl, .slice ii gm gc, .int .u64 mg, .int .i64 dt, .int .i64 gu, .int .u64 jw, .int .i64 n6, .int .i64 mt, .int .i64 i9, .slice gd ge i2, .int .u64 mw, .int .i64 pj, .slice s3 qf qs, .int .u64 po], .int .i64 im]) ∧
 Keep [qa] o1 q4 ∧
 (im ≠ 0 →
 ∀ (f0 : World), Ext no q4 f0 →
 R (.bool false) f0) ∧
 (im = 0 →
 ∀ (f0 : World), Ext no q4 f0 →
 Calls Try.prog 13 #[.agg #[.int .i64 n1, .int .i64 e0, .int .i64 ih, .int .u64 jz, .int .i64 ml, .int .i64 n3, .int .i64 gl, .slice ii gm gc, .int .u64 mg, .int .i64 dt, .int .i64 gu, .int .u64 jw, .int .i64 n6, .int .i64 mt, .int .i64 i9, .slice gd ge i2, .int .u64 mw, .int .i64 pj, .slice s3 qf qs, .int .u64 po]] f0 fun sq pk => ∃ (k1 df e6 i1 jl kj dk : Int) (eg : Option Addr) (fe e5 : Nat) (kr cz f1 i6 je k6 dn : Int) (eu : Option Addr) (dm dw : Nat) (k3 m3 : Int) (oz : Option Addr) (p9 pm : Nat) (mx : Int), sq = .returned (.agg #[.int .i64 k1, .int .i64 df, .int .i64 e6, .int .u64 i1, .int .i64 jl, .int .i64 kj, .int .i64 dk, .slice eg fe e5, .int .u64 kr, .int .i64 cz, .int .i64 f1, .int .u64 i6, .int .i64 je, .int .i64 k6, .int .i64 dn, .slice eu dm dw, .int .u64 k3, .int .i64 m3, .slice oz p9 pm, .int .u64 mx]) ∧
 Keep [qa] f0 pk ∧
 Calls Try.prog 12 #[.agg #[.int .i64 k1, .int .i64 df, .int .i64 e6, .int .u64 i1, .int .i64 jl, .int .i64 kj, .int .i64 dk, .slice eg fe e5, .int .u64 kr, .int .i64 cz, .int .i64 f1, .int .u64 i6, .int .i64 je, .int .i64 k6, .int .i64 dn, .slice eu dm dw, .int .u64 k3, .int .i64 m3, .slice oz p9 pm, .int .u64 mx], .agg #[.int .i64 j1, .int .i64 bu, .int .i64 de, .int .u64 g8, .int .i64 iu, .int .i64 iy, .int .i64 d8, .slice cy cp cq, .int .u64 ir, .int .i64 bh, .int .i64 bq, .int .u64 d6, .int .i64 fp, .int .i64 fx, .int .i64 br, .slice bs bv bt, .int .u64 fg, .int .i64 io, .slice m5 mc mm, .int .u64 j2]] pk fun t7 ei => ∃ (g7 : Bool), t7 = .returned (.bool g7) ∧
 (g7 = false →
 R (.bool false) ei) ∧
 (g7 = true →
 (dg ≥ 0 →
 (dg < (a1 : Int) →
 (0 : Int) ≤ (dg : Int) ∧ (dg : Int) ≤ (a0 : Int) ∧ 
 Calls Try.prog 11 #[.slice a2 (Int.toNat dg) a0] ei fun qg mf => ∃ (nr iz ky mp nd ne l8 : Int) (lf : Option Addr) (lt li : Nat) (o9 iq lh mj o8 nj l5 : Int) (lr : Option Addr) (l4 l9 : Nat) (o4 q7 : Int) (qt : Option Addr) (sh qn : Nat) (q3 g0 : Int), qg = .returned (.tuple #[.agg #[.int .i64 nr, .int .i64 iz, .int .i64 ky, .int .u64 mp, .int .i64 nd, .int .i64 ne, .int .i64 l8, .slice lf lt li, .int .u64 o9, .int .i64 iq, .int .i64 lh, .int .u64 mj, .int .i64 o8, .int .i64 nj, .int .i64 l5, .slice lr l4 l9, .int .u64 o4, .int .i64 q7, .slice qt sh qn, .int .u64 q3], .int .i64 g0]) ∧
 (g0 = 0 →
 ∀ (p1 : World), Ext no mf p1 →
 R (.bool false) p1) ∧
 (g0 ≠ 0 →
 ∀ (jf : World) (nx : Nat), Ext no mf jf → Blk jf nx 5 [] → mf.heap.size ≤ nx → nx < jf.heap.size →
 ∃ (og : Option Addr) (pe pc : Nat) (m2 : World), (Builtin.append_ #[25, 25] 25 #[.slice (some (blk nx)) 0 0, .slice a2 a1 a0]).run Try.prog jf = .ok (.slice og pe pc) m2 ∧
 ∀ (j5 : World) (nb : Nat), Ext no m2 j5 → Blk j5 nb 5 [.int .u8 0] → m2.heap.size ≤ nb → nb < j5.heap.size →
 ∃ (pq : Option Addr) (oh p8 : Nat) (pa : World), (Builtin.append_ #[25, 25] 25 #[.slice og pe pc, .slice (some (blk nb)) 1 1]).run Try.prog j5 = .ok (.slice pq oh p8) pa ∧
 Calls Try.prog 11 #[.slice pq oh p8] pa fun t6 pf => ∃ (ng iw l3 mq o2 o7 l7 : Int) (lb : Option Addr) (kv ls : Nat) (oa j0 lo m0 nq nm lu : Int) (lw : Option Addr) (kx l2 : Nat) (ni q6 : Int) (ss : Option Addr) (t4 s7 : Nat) (pw fh : Int), t6 = .returned (.tuple #[.agg #[.int .i64 ng, .int .i64 iw, .int .i64 l3, .int .u64 mq, .int .i64 o2, .int .i64 o7, .int .i64 l7, .slice lb kv ls, .int .u64 oa, .int .i64 j0, .int .i64 lo, .int .u64 m0, .int .i64 nq, .int .i64 nm, .int .i64 lu, .slice lw kx l2, .int .u64 ni, .int .i64 q6, .slice ss t4 s7, .int .u64 pw], .int .i64 fh]) ∧
 (fh = 0 →
 ∀ (gr : World), Ext no pf gr →
 R (.bool false) gr) ∧
 (fh ≠ 0 →
 ∀ (gr : World), Ext no pf gr →
 Calls Try.prog 11 #[.slice gg di ia] gr fun t3 n0 => ∃ (cm a5 ab bj c2 cf av : Int) (am : Option Addr) (bd b3 : Nat) (cc a7 b2 bm ci ca ag : Int) (b7 : Option Addr) (b6 bf : Nat) (ch fu : Int) (js : Option Addr) (j7 jt : Nat) (gb ga : Int), t3 = .returned (.tuple #[.agg #[.int .i64 cm, .int .i64 a5, .int .i64 ab, .int .u64 bj, .int .i64 c2, .int .i64 cf, .int .i64 av, .slice am bd b3, .int .u64 cc, .int .i64 a7, .int .i64 b2, .int .u64 bm, .int .i64 ci, .int .i64 ca, .int .i64 ag, .slice b7 b6 bf, .int .u64 ch, .int .i64 fu, .slice js j7 jt, .int .u64 gb], .int .i64 ga]) ∧
 (ga ≠ 0 →
 ∀ (d5 : World), Ext no n0 d5 →
 Calls Try.prog 13 #[.agg #[.int .i64 cm, .int .i64 a5, .int .i64 ab, .int .u64 bj, .int .i64 c2, .int .i64 cf, .int .i64 av, .slice am bd b3, .int .u64 cc, .int .i64 a7, .int .i64 b2, .int .u64 bm, .int .i64 ci, .int .i64 ca, .int .i64 ag, .slice b7 b6 bf, .int .u64 ch, .int .i64 fu, .slice js j7 jt, .int .u64 gb]] d5 fun sa sc => ∃ (k9 d9 ev i8 km kf ez : Int) (ea : Option Addr) (e1 e4 : Nat) (k0 cs ee i3 ji jx dp : Int) (dq : Option Addr) (ec dz : Nat) (jb m9 : Int) (pg : Option Addr) (oy pn : Nat) (mn : Int), sa = .returned (.agg #[.int .i64 k9, .int .i64 d9, .int .i64 ev, .int .u64 i8, .int .i64 km, .int .i64 kf, .int .i64 ez, .slice ea e1 e4, .int .u64 k0, .int .i64 cs, .int .i64 ee, .int .u64 i3, .int .i64 ji, .int .i64 jx, .int .i64 dp, .slice dq ec dz, .int .u64 jb, .int .i64 m9, .slice pg oy pn, .int .u64 mn]) ∧
 Calls Try.prog 12 #[.agg #[.int .i64 k9, .int .i64 d9, .int .i64 ev, .int .u64 i8, .int .i64 km, .int .i64 kf, .int .i64 ez, .slice ea e1 e4, .int .u64 k0, .int .i64 cs, .int .i64 ee, .int .u64 i3, .int .i64 ji, .int .i64 jx, .int .i64 dp, .slice dq ec dz, .int .u64 jb, .int .i64 m9, .slice pg oy pn, .int .u64 mn], .agg #[.int .i64 0, .int .i64 0, .int .i64 0, .int .u64 0, .int .i64 0, .int .i64 0, .int .i64 0, .slice none 0 0, .int .u64 0, .int .i64 0, .int .i64 0, .int .u64 0, .int .i64 0, .int .i64 0, .int .i64 0, .slice none 0 0, .int .u64 0, .int .i64 0, .slice none 0 0, .int .u64 0]] sc fun sn p3 => ∃ (fl : Bool), sn = .returned (.bool fl) ∧
 (fl = true →
 Calls Try.prog 8 #[] p3 fun qp si => ∃ (gx : Bool), qp = .returned (.bool gx) ∧
 R (.bool gx) si) ∧
 (fl = false →
 R (.bool false) p3)) ∧
 (ga = 0 →
 ∀ (d5 : World) (q0 : Nat), Ext no n0 d5 → Priv n0 d5 [q0] →
 Calls Try.prog 9 #[.agg #[.int .i64 cm, .int .i64 a5, .int .i64 ab, .int .u64 bj, .int .i64 c2, .int .i64 cf, .int .i64 av, .slice am bd b3, .int .u64 cc, .int .i64 a7, .int .i64 b2, .int .u64 bm, .int .i64 ci, .int .i64 ca, .int .i64 ag, .slice b7 b6 bf, .int .u64 ch, .int .i64 fu, .slice js j7 jt, .int .u64 gb]] d5 fun sl j3 => ∃ (ep : Option Addr) (ej e9 : Nat) (cx : Int), sl = .returned (.tuple #[.slice ep ej e9, .int .i64 cx]) ∧
 Keep [q0] d5 j3 ∧
 (cx = 0 →
 Calls Try.prog 14 #[.slice ep ej e9, .slice gg di ia] j3 fun su md => ∃ (fj : Bool), su = .returned (.bool fj) ∧
 Keep [q0] j3 md ∧
 (fj = true →
 Calls Try.prog 15 #[.agg #[.int .i64 cm, .int .i64 a5, .int .i64 ab, .int .u64 bj, .int .i64 c2, .int .i64 cf, .int .i64 av, .slice am bd b3, .int .u64 cc, .int .i64 a7, .int .i64 b2, .int .u64 bm, .int .i64 ci, .int .i64 ca, .int .i64 ag, .slice b7 b6 bf, .int .u64 ch, .int .i64 fu, .slice js j7 jt, .int .u64 gb]] md fun t2 oo => ∃ (d1 : Bool), t2 = .returned (.bool d1) ∧
 (d1 = true →
 Calls Try.prog 8 #[] oo fun s5 sf => ∃ (gz : Bool), s5 = .returned (.bool gz) ∧
 R (.bool gz) sf) ∧
 (d1 = false →
 R (.bool false) oo)) ∧
 (fj = false →
 R (.bool false) md)) ∧
 (cx ≠ 0 →
 R (.bool false) j3))))) ∧
 ((a1 : Int) ≤ dg →
 ∀ (jn : World) (nc : Nat), Ext no ei jn → Blk jn nc 5 [] → ei.heap.size ≤ nc → nc < jn.heap.size →
 ∃ (ox : Option Addr) (ob pb : Nat) (ma : World), (Builtin.append_ #[25, 25] 25 #[.slice (some (blk nc)) 0 0, .slice a2 a1 a0]).run Try.prog jn = .ok (.slice ox ob pb) ma ∧
 ∀ (jv : World) (o5 : Nat), Ext no ma jv → Blk jv o5 5 [.int .u8 0] → ma.heap.size ≤ o5 → o5 < jv.heap.size →
 ∃ (pu : Option Addr) (ot ou : Nat) (pi : World), (Builtin.append_ #[25, 25] 25 #[.slice ox ob pb, .slice (some (blk o5)) 1 1]).run Try.prog jv = .ok (.slice pu ot ou) pi ∧
 Calls Try.prog 11 #[.slice pu ot ou] pi fun se ow => ∃ (nn ix lq n8 nl nu ln : Int) (kz : Option Addr) (ld lx : Nat) (np it l0 m7 nf o3 l6 : Int) (ll : Option Addr) (lj le : Nat) (nw py : Int) (t0 : Option Addr) (sz s8 : Nat) (q9 g2 : Int), se = .returned (.tuple #[.agg #[.int .i64 nn, .int .i64 ix, .int .i64 lq, .int .u64 n8, .int .i64 nl, .int .i64 nu, .int .i64 ln, .slice kz ld lx, .int .u64 np, .int .i64 it, .int .i64 l0, .int .u64 m7, .int .i64 nf, .int .i64 o3, .int .i64 l6, .slice ll lj le, .int .u64 nw, .int .i64 py, .slice t0 sz s8, .int .u64 q9], .int .i64 g2]) ∧
 (g2 = 0 →
 ∀ (gn : World), Ext no ow gn →
 R (.bool false) gn) ∧
 (g2 ≠ 0 →
 ∀ (gn : World), Ext no ow gn →
 Calls Try.prog 11 #[.slice gg di ia] gn fun qd n5 => ∃ (c1 a8 bg bp cj cb b5 : Int) (ad : Option Addr) (ao b8 : Nat) (c4 a6 aq bo co c3 ak : Int) (af : Option Addr) (ah be : Nat) (c7 g5 : Int) (ja : Option Addr) (kh kt : Nat) (fr g4 : Int), qd = .returned (.tuple #[.agg #[.int .i64 c1, .int .i64 a8, .int .i64 bg, .int .u64 bp, .int .i64 cj, .int .i64 cb, .int .i64 b5, .slice ad ao b8, .int .u64 c4, .int .i64 a6, .int .i64 aq, .int .u64 bo, .int .i64 co, .int .i64 c3, .int .i64 ak, .slice af ah be, .int .u64 c7, .int .i64 g5, .slice ja kh kt, .int .u64 fr], .int .i64 g4]) ∧
 (g4 ≠ 0 →
 ∀ (d7 : World), Ext no n5 d7 →
 Calls Try.prog 13 #[.agg #[.int .i64 c1, .int .i64 a8, .int .i64 bg, .int .u64 bp, .int .i64 cj, .int .i64 cb, .int .i64 b5, .slice ad ao b8, .int .u64 c4, .int .i64 a6, .int .i64 aq, .int .u64 bo, .int .i64 co, .int .i64 c3, .int .i64 ak, .slice af ah be, .int .u64 c7, .int .i64 g5, .slice ja kh kt, .int .u64 fr]] d7 fun qi qu => ∃ (ks d0 ff gh k2 ju f8 : Int) (f4 : Option Addr) (el du : Nat) (jd d3 ey gj ka kk es : Int) (dx : Option Addr) (e2 dr : Nat) (kd mz : Int) (oc : Option Addr) (pl p2 : Nat) (mr : Int), qi = .returned (.agg #[.int .i64 ks, .int .i64 d0, .int .i64 ff, .int .u64 gh, .int .i64 k2, .int .i64 ju, .int .i64 f8, .slice f4 el du, .int .u64 jd, .int .i64 d3, .int .i64 ey, .int .u64 gj, .int .i64 ka, .int .i64 kk, .int .i64 es, .slice dx e2 dr, .int .u64 kd, .int .i64 mz, .slice oc pl p2, .int .u64 mr]) ∧
 Calls Try.prog 12 #[.agg #[.int .i64 ks, .int .i64 d0, .int .i64 ff, .int .u64 gh, .int .i64 k2, .int .i64 ju, .int .i64 f8, .slice f4 el du, .int .u64 jd, .int .i64 d3, .int .i64 ey, .int .u64 gj, .int .i64 ka, .int .i64 kk, .int .i64 es, .slice dx e2 dr, .int .u64 kd, .int .i64 mz, .slice oc pl p2, .int .u64 mr], .agg #[.int .i64 0, .int .i64 0, .int .i64 0, .int .u64 0, .int .i64 0, .int .i64 0, .int .i64 0, .slice none 0 0, .int .u64 0, .int .i64 0, .int .i64 0, .int .u64 0, .int .i64 0, .int .i64 0, .int .i64 0, .slice none 0 0, .int .u64 0, .int .i64 0, .slice none 0 0, .int .u64 0]] qu fun s9 od => ∃ (fs : Bool), s9 = .returned (.bool fs) ∧
 (fs = true →
 Calls Try.prog 8 #[] od fun qm qo => ∃ (ik : Bool), qm = .returned (.bool ik) ∧
 R (.bool ik) qo) ∧
 (fs = false →
 R (.bool false) od)) ∧
 (g4 = 0 →
 ∀ (d7 : World) (q5 : Nat), Ext no n5 d7 → Priv n5 d7 [q5] →
 Calls Try.prog 9 #[.agg #[.int .i64 c1, .int .i64 a8, .int .i64 bg, .int .u64 bp, .int .i64 cj, .int .i64 cb, .int .i64 b5, .slice ad ao b8, .int .u64 c4, .int .i64 a6, .int .i64 aq, .int .u64 bo, .int .i64 co, .int .i64 c3, .int .i64 ak, .slice af ah be, .int .u64 c7, .int .i64 g5, .slice ja kh kt, .int .u64 fr]] d7 fun st ki => ∃ (e3 : Option Addr) (ex eb : Nat) (d4 : Int), st = .returned (.tuple #[.slice e3 ex eb, .int .i64 d4]) ∧
 Keep [q5] d7 ki ∧
 (d4 = 0 →
 Calls Try.prog 14 #[.slice e3 ex eb, .slice gg di ia] ki fun qz m8 => ∃ (g9 : Bool), qz = .returned (.bool g9) ∧
 Keep [q5] ki m8 ∧
 (g9 = true →
 Calls Try.prog 15 #[.agg #[.int .i64 c1, .int .i64 a8, .int .i64 bg, .int .u64 bp, .int .i64 cj, .int .i64 cb, .int .i64 b5, .slice ad ao b8, .int .u64 c4, .int .i64 a6, .int .i64 aq, .int .u64 bo, .int .i64 co, .int .i64 c3, .int .i64 ak, .slice af ah be, .int .u64 c7, .int .i64 g5, .slice ja kh kt, .int .u64 fr]] m8 fun qj pr => ∃ (db : Bool), qj = .returned (.bool db) ∧
 (db = true →
 Calls Try.prog 8 #[] pr fun sy sm => ∃ (gq : Bool), sy = .returned (.bool gq) ∧
 R (.bool gq) sm) ∧
 (db = false →
 R (.bool false) pr)) ∧
 (g9 = false →
 R (.bool false) m8)) ∧
 (d4 ≠ 0 →
 R (.bool false) ki))))) ∧
 (dg < 0 →
 ∀ (jg : World) (ny : Nat), Ext no ei jg → Blk jg ny 5 [] → ei.heap.size ≤ ny → ny < jg.heap.size →
 ∃ (om : Option Addr) (ps ol : Nat) (n9 : World), (Builtin.append_ #[25, 25] 25 #[.slice (some (blk ny)) 0 0, .slice a2 a1 a0]).run Try.prog jg = .ok (.slice om ps ol) n9 ∧
 ∀ (kg : World) (na : Nat), Ext no n9 kg → Blk kg na 5 [.int .u8 0] → n9.heap.size ≤ na → na < kg.heap.size →
 ∃ (oe : Option Addr) (pd p4 : Nat) (oj : World), (Builtin.append_ #[25, 25] 25 #[.slice om ps ol, .slice (some (blk na)) 1 1]).run Try.prog kg = .ok (.slice oe pd p4) oj ∧
 Calls Try.prog 11 #[.slice oe pd p4] oj fun qk pp => ∃ (nt ip lk mh nz nk lg : Int) (lc : Option Addr) (l1 kw : Nat) (nv iv ku m1 nh o0 lv : Int) (lm : Option Addr) (lp la : Nat) (ns px : Int) (sp : Option Addr) (sg qh : Nat) (q2 fk : Int), qk = .returned (.tuple #[.agg #[.int .i64 nt, .int .i64 ip, .int .i64 lk, .int .u64 mh, .int .i64 nz, .int .i64 nk, .int .i64 lg, .slice lc l1 kw, .int .u64 nv, .int .i64 iv, .int .i64 ku, .int .u64 m1, .int .i64 nh, .int .i64 o0, .int .i64 lv, .slice lm lp la, .int .u64 ns, .int .i64 px, .slice sp sg qh, .int .u64 q2], .int .i64 fk]) ∧
 (fk = 0 →
 ∀ (ic : World), Ext no pp ic →
 R (.bool false) ic) ∧
 (fk ≠ 0 →
 ∀ (ic : World), Ext no pp ic →
 Calls Try.prog 11 #[.slice gg di ia] ic fun qv mu => ∃ (cn a9 ap bl bz ce ba : Int) (ac : Option Addr) (b1 au : Nat) (cg a3 bb bk c6 c8 an : Int) (b9 : Option Addr) (al ae : Nat) (bx fy : Int) (jq : Option Addr) (jh ke : Nat) (fq g1 : Int), qv = .returned (.tuple #[.agg #[.int .i64 cn, .int .i64 a9, .int .i64 ap, .int .u64 bl, .int .i64 bz, .int .i64 ce, .int .i64 ba, .slice ac b1 au, .int .u64 cg, .int .i64 a3, .int .i64 bb, .int .u64 bk, .int .i64 c6, .int .i64 c8, .int .i64 an, .slice b9 al ae, .int .u64 bx, .int .i64 fy, .slice jq jh ke, .int .u64 fq], .int .i64 g1]) ∧
 (g1 ≠ 0 →
 ∀ (ct : World), Ext no mu ct →
 Calls Try.prog 13 #[.agg #[.int .i64 cn, .int .i64 a9, .int .i64 ap, .int .u64 bl, .int .i64 bz, .int .i64 ce, .int .i64 ba, .slice ac b1 au, .int .u64 cg, .int .i64 a3, .int .i64 bb, .int .u64 bk, .int .i64 c6, .int .i64 c8, .int .i64 an, .slice b9 al ae, .int .u64 bx, .int .i64 fy, .slice jq jh ke, .int .u64 fq]] ct fun s6 qx => ∃ (k8 dd ef gf j6 k5 e7 : Int) (ew : Option Addr) (dy ed : Nat) (kc dc eh gy jr jc f6 : Int) (e8 : Option Addr) (et f5 : Nat) (jo mv : Int) (oi : Option Addr) (pt ph : Nat) (n2 : Int), s6 = .returned (.agg #[.int .i64 k8, .int .i64 dd, .int .i64 ef, .int .u64 gf, .int .i64 j6, .int .i64 k5, .int .i64 e7, .slice ew dy ed, .int .u64 kc, .int .i64 dc, .int .i64 eh, .int .u64 gy, .int .i64 jr, .int .i64 jc, .int .i64 f6, .slice e8 et f5, .int .u64 jo, .int .i64 mv, .slice oi pt ph, .int .u64 n2]) ∧
 Calls Try.prog 12 #[.agg #[.int .i64 k8, .int .i64 dd, .int .i64 ef, .int .u64 gf, .int .i64 j6, .int .i64 k5, .int .i64 e7, .slice ew dy ed, .int .u64 kc, .int .i64 dc, .int .i64 eh, .int .u64 gy, .int .i64 jr, .int .i64 jc, .int .i64 f6, .slice e8 et f5, .int .u64 jo, .int .i64 mv, .slice oi pt ph, .int .u64 n2], .agg #[.int .i64 0, .int .i64 0, .int .i64 0, .int .u64 0, .int .i64 0, .int .i64 0, .int .i64 0, .slice none 0 0, .int .u64 0, .int .i64 0, .int .i64 0, .int .u64 0, .int .i64 0, .int .i64 0, .int .i64 0, .slice none 0 0, .int .u64 0, .int .i64 0, .slice none 0 0, .int .u64 0]] qx fun sb oq => ∃ (g6 : Bool), sb = .returned (.bool g6) ∧
 (g6 = true →
 Calls Try.prog 8 #[] oq fun sw t5 => ∃ (gp : Bool), sw = .returned (.bool gp) ∧
 R (.bool gp) t5) ∧
 (g6 = false →
 R (.bool false) oq)) ∧
 (g1 = 0 →
 ∀ (ct : World) (pz : Nat), Ext no mu ct → Priv mu ct [pz] →
 Calls Try.prog 9 #[.agg #[.int .i64 cn, .int .i64 a9, .int .i64 ap, .int .u64 bl, .int .i64 bz, .int .i64 ce, .int .i64 ba, .slice ac b1 au, .int .u64 cg, .int .i64 a3, .int .i64 bb, .int .u64 bk, .int .i64 c6, .int .i64 c8, .int .i64 an, .slice b9 al ae, .int .u64 bx, .int .i64 fy, .slice jq jh ke, .int .u64 fq]] ct fun qr ko => ∃ (ds : Option Addr) (em er : Nat) (da : Int), qr = .returned (.tuple #[.slice ds em er, .int .i64 da]) ∧
 Keep [pz] ct ko ∧
 (da = 0 →
 Calls Try.prog 14 #[.slice ds em er, .slice gg di ia] ko fun sx lz => ∃ (fw : Bool), sx = .returned (.bool fw) ∧
 Keep [pz] ko lz ∧
 (fw = true →
 Calls Try.prog 15 #[.agg #[.int .i64 cn, .int .i64 a9, .int .i64 ap, .int .u64 bl, .int .i64 bz, .int .i64 ce, .int .i64 ba, .slice ac b1 au, .int .u64 cg, .int .i64 a3, .int .i64 bb, .int .u64 bk, .int .i64 c6, .int .i64 c8, .int .i64 an, .slice b9 al ae, .int .u64 bx, .int .i64 fy, .slice jq jh ke, .int .u64 fq]] lz fun sr p0 => ∃ (dh : Bool), sr = .returned (.bool dh) ∧
 (dh = true →
 Calls Try.prog 8 #[] p0 fun sj qc => ∃ (ij : Bool), sj = .returned (.bool ij) ∧
 R (.bool ij) qc) ∧
 (dh = false →
 R (.bool false) p0)) ∧
 (fw = false →
 R (.bool false) lz)) ∧
 (da ≠ 0 →
 R (.bool false) ko))))))) ∧
 (fz ≠ 0 →
 Calls Try.prog 11 #[.slice gg di ia] o1 fun s0 m6 => ∃ (c5 aa ay bi cd c9 ax : Int) (ar : Option Addr) (ai bc : Nat) (cl a4 aw bn c0 ck b0 : Int) (b4 : Option Addr) (az aj : Nat) (bw fv : Int) (kl : Option Addr) (j4 jm : Nat) (fo fm : Int), s0 = .returned (.tuple #[.agg #[.int .i64 c5, .int .i64 aa, .int .i64 ay, .int .u64 bi, .int .i64 cd, .int .i64 c9, .int .i64 ax, .slice ar ai bc, .int .u64 cl, .int .i64 a4, .int .i64 aw, .int .u64 bn, .int .i64 c0, .int .i64 ck, .int .i64 b0, .slice b4 az aj, .int .u64 bw, .int .i64 fv, .slice kl j4 jm, .int .u64 fo], .int .i64 fm]) ∧
 (fm ≠ 0 →
 ∀ (cv : World), Ext no m6 cv →
 Calls Try.prog 13 #[.agg #[.int .i64 c5, .int .i64 aa, .int .i64 ay, .int .u64 bi, .int .i64 cd, .int .i64 c9, .int .i64 ax, .slice ar ai bc, .int .u64 cl, .int .i64 a4, .int .i64 aw, .int .u64 bn, .int .i64 c0, .int .i64 ck, .int .i64 b0, .slice b4 az aj, .int .u64 bw, .int .i64 fv, .slice kl j4 jm, .int .u64 fo]] cv fun qy ql => ∃ (jj cu f2 gs k7 j8 dv : Int) (eq : Option Addr) (fb ek : Nat) (kp cw dj ie jk jy fa : Int) (dl : Option Addr) (en f7 : Nat) (kn n7 : Int) (p7 : Option Addr) (ov os : Nat) (n4 : Int), qy = .returned (.agg #[.int .i64 jj, .int .i64 cu, .int .i64 f2, .int .u64 gs, .int .i64 k7, .int .i64 j8, .int .i64 dv, .slice eq fb ek, .int .u64 kp, .int .i64 cw, .int .i64 dj, .int .u64 ie, .int .i64 jk, .int .i64 jy, .int .i64 fa, .slice dl en f7, .int .u64 kn, .int .i64 n7, .slice p7 ov os, .int .u64 n4]) ∧
 Calls Try.prog 12 #[.agg #[.int .i64 jj, .int .i64 cu, .int .i64 f2, .int .u64 gs, .int .i64 k7, .int .i64 j8, .int .i64 dv, .slice eq fb ek, .int .u64 kp, .int .i64 cw, .int .i64 dj, .int .u64 ie, .int .i64 jk, .int .i64 jy, .int .i64 fa, .slice dl en f7, .int .u64 kn, .int .i64 n7, .slice p7 ov os, .int .u64 n4], .agg #[.int .i64 0, .int .i64 0, .int .i64 0, .int .u64 0, .int .i64 0, .int .i64 0, .int .i64 0, .slice none 0 0, .int .u64 0, .int .i64 0, .int .i64 0, .int .u64 0, .int .i64 0, .int .i64 0, .int .i64 0, .slice none 0 0, .int .u64 0, .int .i64 0, .slice none 0 0, .int .u64 0]] ql fun s1 op => ∃ (fi : Bool), s1 = .returned (.bool fi) ∧
 (fi = true →
 Calls Try.prog 8 #[] op fun sk qq => ∃ (i0 : Bool), sk = .returned (.bool i0) ∧
 R (.bool i0) qq) ∧
 (fi = false →
 R (.bool false) op)) ∧
 (fm = 0 →
 ∀ (cv : World) (q8 : Nat), Ext no m6 cv → Priv m6 cv [q8] →
 Calls Try.prog 9 #[.agg #[.int .i64 c5, .int .i64 aa, .int .i64 ay, .int .u64 bi, .int .i64 cd, .int .i64 c9, .int .i64 ax, .slice ar ai bc, .int .u64 cl, .int .i64 a4, .int .i64 aw, .int .u64 bn, .int .i64 c0, .int .i64 ck, .int .i64 b0, .slice b4 az aj, .int .u64 bw, .int .i64 fv, .slice kl j4 jm, .int .u64 fo]] cv fun qb j9 => ∃ (f9 : Option Addr) (fc eo : Nat) (d2 : Int), qb = .returned (.tuple #[.slice f9 fc eo, .int .i64 d2]) ∧
 Keep [q8] cv j9 ∧
 (d2 = 0 →
 Calls Try.prog 14 #[.slice f9 fc eo, .slice gg di ia] j9 fun s4 m4 => ∃ (ft : Bool), s4 = .returned (.bool ft) ∧
 Keep [q8] j9 m4 ∧
 (ft = true →
 Calls Try.prog 15 #[.agg #[.int .i64 c5, .int .i64 aa, .int .i64 ay, .int .u64 bi, .int .i64 cd, .int .i64 c9, .int .i64 ax, .slice ar ai bc, .int .u64 cl, .int .i64 a4, .int .i64 aw, .int .u64 bn, .int .i64 c0, .int .i64 ck, .int .i64 b0, .slice b4 az aj, .int .u64 bw, .int .i64 fv, .slice kl j4 jm, .int .u64 fo]] m4 fun qe p5 => ∃ (cr : Bool), qe = .returned (.bool cr) ∧
 (cr = true →
 Calls Try.prog 8 #[] p5 fun sd qw => ∃ (ig : Bool), sd = .returned (.bool ig) ∧
 R (.bool ig) qw) ∧
 (cr = false →
 R (.bool false) p5)) ∧
 (ft = false →
 R (.bool false) m4)) ∧
 (d2 ≠ 0 →
 R (.bool false) j9)))))

theorem Q01.up (gs fy g6 gi gp gr g5 : Int) (g3 : Option Addr) (g1 g2 : Nat) (gm fh fu g4 gc gf fv : Int) (fw : Option Addr) (fz fx : Nat) (gb gk : Int) (im : Option Addr) (io ip : Nat) (gu : Int) (s5 : Option Addr) (t9 ad4 : Nat) (ot : Int) {R : RW} {w : World} (h : Q01.N gs fy g6 gi gp gr g5 g3 g1 g2 gm fh fu g4 gc gf fv fw fz fx gb gk im io ip gu s5 t9 ad4 ot R w) : Q01.M gs fy g6 gi gp gr g5 g3 g1 g2 gm fh fu g4 gc gf fv fw fz fx gb gk im io ip gu s5 t9 ad4 ot R w := by
  unfold Q01.M
  unfold Q01.N at h
  refine Q00 fun av6 e23 => ?_
  have ai := Blk.of_new e23
  have hg1 := ((Ext.refl no w)).size
  have at8 := (Ext.refl no w).x_alloc e23
  refine ⟨gs, fy, g6, gi, gp, gr, g5, g3, g1, g2, gm, fh, fu, g4, gc, gf, fv, fw, fz, fx, gb, gk, im, io, ip, gu, ⟨ai.celli 0 rfl rfl, ai.celli 1 rfl rfl, ai.celli 2 rfl rfl, ai.celli 3 rfl rfl, ai.celli 4 rfl rfl, ai.celli 5 rfl rfl, ai.celli 6 rfl rfl, ai.celli 7 rfl rfl, ai.celli 8 rfl rfl, ai.celli 9 rfl rfl, ai.celli 10 rfl rfl, ai.celli 11 rfl rfl, ai.celli 12 rfl rfl, ai.celli 13 rfl rfl, ai.celli 14 rfl rfl, ai.celli 15 rfl rfl, ai.celli 16 rfl rfl, ai.celli 17 rfl rfl, ai.celli 18 rfl rfl, ai.celli 19 rfl rfl, trivial⟩, ?_⟩
  have h := h av6 (w.heap.size) at8 (Priv.cons hg1 ai.lt Priv.nil)
  refine h.mono fun b48 b42 h => ?_
  obtain ⟨o3, he, hk, h⟩ := h
  refine ⟨o3, he, ?_⟩
  have ai := hk.blk ai (by simp)
  refine bif_of (fun c28 => ?_) (fun c28 => ?_)
  ·have h := h.1 (not_t c28)
   refine h.mono fun b53 b51 h => ?_
   obtain ⟨nb, he, h⟩ := h
   refine ⟨nb, he, ?_⟩
   exact h
  have h := h.2 (not_f c28)
  refine bif_of (fun c32 => ?_) (fun c32 => ?_)
  ·have h := h.1 (of_decide_eq_true c32)
   refine h.mono fun b41 b43 h => ?_
   obtain ⟨nm, he, h⟩ := h
   refine ⟨nm, he, ?_⟩
   exact h
  have h := h.2 (Int.not_lt.1 (of_decide_eq_false c32))
  unfold Q01.J7
  refine ⟨gs, fy, g6, gi, gp, gr, g5, g3, g1, g2, gm, fh, fu, g4, gc, gf, fv, fw, fz, fx, gb, gk, im, io, ip, gu, ⟨ai.celli 0 rfl rfl, ai.celli 1 rfl rfl, ai.celli 2 rfl rfl, ai.celli 3 rfl rfl, ai.celli 4 rfl rfl, ai.celli 5 rfl rfl, ai.celli 6 rfl rfl, ai.celli 7 rfl rfl, ai.celli 8 rfl rfl, ai.celli 9 rfl rfl, ai.celli 10 rfl rfl, ai.celli 11 rfl rfl, ai.celli 12 rfl rfl, ai.celli 13 rfl rfl, ai.celli 14 rfl rfl, ai.celli 15 rfl rfl, ai.celli 16 rfl rfl, ai.celli 17 rfl rfl, ai.celli 18 rfl rfl, ai.celli 19 rfl rfl, trivial⟩, ?_⟩
  refine h.mono fun b44 b45 h => ?_
  obtain ⟨pp, kl, lx, oe, pz, po, m9, l1, lf, lh, ov, ku, kz, nw, p8, p6, ly, m6, mp, ld, ps, am7, av7, at3, aw1, a40, he, hk, h⟩ := h
  refine ⟨pp, kl, lx, oe, pz, po, m9, l1, lf, lh, ov, ku, kz, nw, p8, p6, ly, m6, mp, ld, ps, am7, av7, at3, aw1, a40, he, ?_⟩
  have ai := hk.blk ai (by simp)
  refine h.mono fun b50 b49 h => ?_
  obtain ⟨l7, mf, lg, nv, he, hk, h⟩ := h
  refine ⟨l7, mf, lg, nv, he, ?_⟩
  have ai := hk.blk ai (by simp)
  refine bif_fo (fun c62 => ?_) (fun c62 => ?_)
  ·have h := h.2 (beq_f c62)
   unfold Q01.J2
   refine h.mono fun az6 ap h => ?_
   obtain ⟨bn, a4, ab, an, ca, cs, ak, ba, b7, bj, dc, b2, ce, di, ef, et, ds, e3, e1, dy, fj, g8, ig, gy, i4, gl, my, he, h⟩ := h
   refine ⟨bn, a4, ab, an, ca, cs, ak, ba, b7, bj, dc, b2, ce, di, ef, et, ds, e3, e1, dy, fj, g8, ig, gy, i4, gl, my, he, ?_⟩
   refine Q00 fun b35 ai0 => ?_
   have a0 := Blk.of_new ai0
   have fs := ((Ext.refl no ap)).size
   have um := (Ext.refl no ap).x_alloc ai0
   refine ⟨a0.cani 0 rfl rfl, Q00 fun y0 a05 => ?_⟩
   have am6 := um.x_set (q := ap.heap.size) (i := 0) rfl (.inr fs) a05
   have a0 : Blk y0 ap.heap.size 38 [.int .i64 bn, .int .i64 0, .int .i64 0, .int .u64 0, .int .i64 0, .int .i64 0, .int .i64 0, .slice none 0 0, .int .u64 0, .int .i64 0, .int .i64 0, .int .u64 0, .int .i64 0, .int .i64 0, .int .i64 0, .slice none 0 0, .int .u64 0, .int .i64 0, .slice none 0 0, .int .u64 0] := a0.seti 0 rfl a05
   refine ⟨a0.cani 1 rfl rfl, Q00 fun a47 sk => ?_⟩
   have aj6 := am6.x_set (q := ap.heap.size) (i := 1) rfl (.inr fs) sk
   have a0 : Blk a47 ap.heap.size 38 [.int .i64 bn, .int .i64 a4, .int .i64 0, .int .u64 0, .int .i64 0, .int .i64 0, .int .i64 0, .slice none 0 0, .int .u64 0, .int .i64 0, .int .i64 0, .int .u64 0, .int .i64 0, .int .i64 0, .int .i64 0, .slice none 0 0, .int .u64 0, .int .i64 0, .slice none 0 0, .int .u64 0] := a0.seti 1 rfl sk
   refine ⟨a0.cani 2 rfl rfl, Q00 fun u4 xu => ?_⟩
   have v0 := aj6.x_set (q := ap.heap.size) (i := 2) rfl (.inr fs) xu
   have a0 : Blk u4 ap.heap.size 38 [.int .i64 bn, .int .i64 a4, .int .i64 ab, .int .u64 0, .int .i64 0, .int .i64 0, .int .i64 0, .slice none 0 0, .int .u64 0, .int .i64 0, .int .i64 0, .int .u64 0, .int .i64 0, .int .i64 0, .int .i64 0, .slice none 0 0, .int .u64 0, .int .i64 0, .slice none 0 0, .int .u64 0] := a0.seti 2 rfl xu
   refine ⟨a0.cani 3 rfl rfl, Q00 fun t8 te => ?_⟩
   have ah6 := v0.x_set (q := ap.heap.size) (i := 3) rfl (.inr fs) te
   have a0 : Blk t8 ap.heap.size 38 [.int .i64 bn, .int .i64 a4, .int .i64 ab, .int .u64 an, .int .i64 0, .int .i64 0, .int .i64 0, .slice none 0 0, .int .u64 0, .int .i64 0, .int .i64 0, .int .u64 0, .int .i64 0, .int .i64 0, .int .i64 0, .slice none 0 0, .int .u64 0, .int .i64 0, .slice none 0 0, .int .u64 0] := a0.seti 3 rfl te
   refine ⟨a0.cani 4 rfl rfl, Q00 fun ak1 ze => ?_⟩
   have ai1 := ah6.x_set (q := ap.heap.size) (i := 4) rfl (.inr fs) ze
   have a0 : Blk ak1 ap.heap.size 38 [.int .i64 bn, .int .i64 a4, .int .i64 ab, .int .u64 an, .int .i64 ca, .int .i64 0, .int .i64 0, .slice none 0 0, .int .u64 0, .int .i64 0, .int .i64 0, .int .u64 0, .int .i64 0, .int .i64 0, .int .i64 0, .slice none 0 0, .int .u64 0, .int .i64 0, .slice none 0 0, .int .u64 0] := a0.seti 4 rfl ze
   refine ⟨a0.cani 5 rfl rfl, Q00 fun ag5 af4 => ?_⟩
   have ag3 := ai1.x_set (q := ap.heap.size) (i := 5) rfl (.inr fs) af4
   have a0 : Blk ag5 ap.heap.size 38 [.int .i64 bn, .int .i64 a4, .int .i64 ab, .int .u64 an, .int .i64 ca, .int .i64 cs, .int .i64 0, .slice none 0 0, .int .u64 0, .int .i64 0, .int .i64 0, .int .u64 0, .int .i64 0, .int .i64 0, .int .i64 0, .slice none 0 0, .int .u64 0, .int .i64 0, .slice none 0 0, .int .u64 0] := a0.seti 5 rfl af4
   refine ⟨a0.cani 6 rfl rfl, Q00 fun yk aa7 => ?_⟩
   have ab1 := ag3.x_set (q := ap.heap.size) (i := 6) rfl (.inr fs) aa7
   have a0 : Blk yk ap.heap.size 38 [.int .i64 bn, .int .i64 a4, .int .i64 ab, .int .u64 an, .int .i64 ca, .int .i64 cs, .int .i64 ak, .slice none 0 0, .int .u64 0, .int .i64 0, .int .i64 0, .int .u64 0, .int .i64 0, .int .i64 0, .int .i64 0, .slice none 0 0, .int .u64 0, .int .i64 0, .slice none 0 0, .int .u64 0] := a0.seti 6 rfl aa7
   refine ⟨a0.cani 7 rfl rfl, Q00 fun ag8 ae5 => ?_⟩
   have ai5 := ab1.x_set (q := ap.heap.size) (i := 7) rfl (.inr fs) ae5
   have a0 : Blk ag8 ap.heap.size 38 [.int .i64 bn, .int .i64 a4, .int .i64 ab, .int .u64 an, .int .i64 ca, .int .i64 cs, .int .i64 ak, .slice ba b7 bj, .int .u64 0, .int .i64 0, .int .i64 0, .int .u64 0, .int .i64 0, .int .i64 0, .int .i64 0, .slice none 0 0, .int .u64 0, .int .i64 0, .slice none 0 0, .int .u64 0] := a0.seti 7 rfl ae5
   refine ⟨a0.cani 8 rfl rfl, Q00 fun yb u7 => ?_⟩
   have tx := ai5.x_set (q := ap.heap.size) (i := 8) rfl (.inr fs) u7
   have a0 : Blk yb ap.heap.size 38 [.int .i64 bn, .int .i64 a4, .int .i64 ab, .int .u64 an, .int .i64 ca, .int .i64 cs, .int .i64 ak, .slice ba b7 bj, .int .u64 dc, .int .i64 0, .int .i64 0, .int .u64 0, .int .i64 0, .int .i64 0, .int .i64 0, .slice none 0 0, .int .u64 0, .int .i64 0, .slice none 0 0, .int .u64 0] := a0.seti 8 rfl u7
   refine ⟨a0.cani 9 rfl rfl, Q00 fun v3 v8 => ?_⟩
   have a27 := tx.x_set (q := ap.heap.size) (i := 9) rfl (.inr fs) v8
   have a0 : Blk v3 ap.heap.size 38 [.int .i64 bn, .int .i64 a4, .int .i64 ab, .int .u64 an, .int .i64 ca, .int .i64 cs, .int .i64 ak, .slice ba b7 bj, .int .u64 dc, .int .i64 b2, .int .i64 0, .int .u64 0, .int .i64 0, .int .i64 0, .int .i64 0, .slice none 0 0, .int .u64 0, .int .i64 0, .slice none 0 0, .int .u64 0] := a0.seti 9 rfl v8
   refine ⟨a0.cani 10 rfl rfl, Q00 fun ar1 a28 => ?_⟩
   have xy := a27.x_set (q := ap.heap.size) (i := 10) rfl (.inr fs) a28
   have a0 : Blk ar1 ap.heap.size 38 [.int .i64 bn, .int .i64 a4, .int .i64 ab, .int .u64 an, .int .i64 ca, .int .i64 cs, .int .i64 ak, .slice ba b7 bj, .int .u64 dc, .int .i64 b2, .int .i64 ce, .int .u64 0, .int .i64 0, .int .i64 0, .int .i64 0, .slice none 0 0, .int .u64 0, .int .i64 0, .slice none 0 0, .int .u64 0] := a0.seti 10 rfl a28
   refine ⟨a0.cani 11 rfl rfl, Q00 fun sw am4 => ?_⟩
   have uj := xy.x_set (q := ap.heap.size) (i := 11) rfl (.inr fs) am4
   have a0 : Blk sw ap.heap.size 38 [.int .i64 bn, .int .i64 a4, .int .i64 ab, .int .u64 an, .int .i64 ca, .int .i64 cs, .int .i64 ak, .slice ba b7 bj, .int .u64 dc, .int .i64 b2, .int .i64 ce, .int .u64 di, .int .i64 0, .int .i64 0, .int .i64 0, .slice none 0 0, .int .u64 0, .int .i64 0, .slice none 0 0, .int .u64 0] := a0.seti 11 rfl am4
   refine ⟨a0.cani 12 rfl rfl, Q00 fun ah4 a22 => ?_⟩
   have vo := uj.x_set (q := ap.heap.size) (i := 12) rfl (.inr fs) a22
   have a0 : Blk ah4 ap.heap.size 38 [.int .i64 bn, .int .i64 a4, .int .i64 ab, .int .u64 an, .int .i64 ca, .int .i64 cs, .int .i64 ak, .slice ba b7 bj, .int .u64 dc, .int .i64 b2, .int .i64 ce, .int .u64 di, .int .i64 ef, .int .i64 0, .int .i64 0, .slice none 0 0, .int .u64 0, .int .i64 0, .slice none 0 0, .int .u64 0] := a0.seti 12 rfl a22
   refine ⟨a0.cani 13 rfl rfl, Q00 fun y9 ve => ?_⟩
   have a24 := vo.x_set (q := ap.heap.size) (i := 13) rfl (.inr fs) ve
   have a0 : Blk y9 ap.heap.size 38 [.int .i64 bn, .int .i64 a4, .int .i64 ab, .int .u64 an, .int .i64 ca, .int .i64 cs, .int .i64 ak, .slice ba b7 bj, .int .u64 dc, .int .i64 b2, .int .i64 ce, .int .u64 di, .int .i64 ef, .int .i64 et, .int .i64 0, .slice none 0 0, .int .u64 0, .int .i64 0, .slice none 0 0, .int .u64 0] := a0.seti 13 rfl ve
   refine ⟨a0.cani 14 rfl rfl, Q00 fun u0 zz => ?_⟩
   have ao3 := a24.x_set (q := ap.heap.size) (i := 14) rfl (.inr fs) zz
   have a0 : Blk u0 ap.heap.size 38 [.int .i64 bn, .int .i64 a4, .int .i64 ab, .int .u64 an, .int .i64 ca, .int .i64 cs, .int .i64 ak, .slice ba b7 bj, .int .u64 dc, .int .i64 b2, .int .i64 ce, .int .u64 di, .int .i64 ef, .int .i64 et, .int .i64 ds, .slice none 0 0, .int .u64 0, .int .i64 0, .slice none 0 0, .int .u64 0] := a0.seti 14 rfl zz
   refine ⟨a0.cani 15 rfl rfl, Q00 fun x9 uw => ?_⟩
   have am0 := ao3.x_set (q := ap.heap.size) (i := 15) rfl (.inr fs) uw
   have a0 : Blk x9 ap.heap.size 38 [.int .i64 bn, .int .i64 a4, .int .i64 ab, .int .u64 an, .int .i64 ca, .int .i64 cs, .int .i64 ak, .slice ba b7 bj, .int .u64 dc, .int .i64 b2, .int .i64 ce, .int .u64 di, .int .i64 ef, .int .i64 et, .int .i64 ds, .slice e3 e1 dy, .int .u64 0, .int .i64 0, .slice none 0 0, .int .u64 0] := a0.seti 15 rfl uw
   refine ⟨a0.cani 16 rfl rfl, Q00 fun s4 ak5 => ?_⟩
   have x7 := am0.x_set (q := ap.heap.size) (i := 16) rfl (.inr fs) ak5
   have a0 : Blk s4 ap.heap.size 38 [.int .i64 bn, .int .i64 a4, .int .i64 ab, .int .u64 an, .int .i64 ca, .int .i64 cs, .int .i64 ak, .slice ba b7 bj, .int .u64 dc, .int .i64 b2, .int .i64 ce, .int .u64 di, .int .i64 ef, .int .i64 et, .int .i64 ds, .slice e3 e1 dy, .int .u64 fj, .int .i64 0, .slice none 0 0, .int .u64 0] := a0.seti 16 rfl ak5
   refine ⟨a0.cani 17 rfl rfl, Q00 fun xn ah0 => ?_⟩
   have al9 := x7.x_set (q := ap.heap.size) (i := 17) rfl (.inr fs) ah0
   have a0 : Blk xn ap.heap.size 38 [.int .i64 bn, .int .i64 a4, .int .i64 ab, .int .u64 an, .int .i64 ca, .int .i64 cs, .int .i64 ak, .slice ba b7 bj, .int .u64 dc, .int .i64 b2, .int .i64 ce, .int .u64 di, .int .i64 ef, .int .i64 et, .int .i64 ds, .slice e3 e1 dy, .int .u64 fj, .int .i64 g8, .slice none 0 0, .int .u64 0] := a0.seti 17 rfl ah0
   refine ⟨a0.cani 18 rfl rfl, Q00 fun tn sq => ?_⟩
   have ue := al9.x_set (q := ap.heap.size) (i := 18) rfl (.inr fs) sq
   have a0 : Blk tn ap.heap.size 38 [.int .i64 bn, .int .i64 a4, .int .i64 ab, .int .u64 an, .int .i64 ca, .int .i64 cs, .int .i64 ak, .slice ba b7 bj, .int .u64 dc, .int .i64 b2, .int .i64 ce, .int .u64 di, .int .i64 ef, .int .i64 et, .int .i64 ds, .slice e3 e1 dy, .int .u64 fj, .int .i64 g8, .slice ig gy i4, .int .u64 0] := a0.seti 18 rfl sq
   refine ⟨a0.cani 19 rfl rfl, Q00 fun li aq5 => ?_⟩
   have ol := ue.x_set (q := ap.heap.size) (i := 19) rfl (.inr fs) aq5
   have a0 : Blk li ap.heap.size 38 [.int .i64 bn, .int .i64 a4, .int .i64 ab, .int .u64 an, .int .i64 ca, .int .i64 cs, .int .i64 ak, .slice ba b7 bj, .int .u64 dc, .int .i64 b2, .int .i64 ce, .int .u64 di, .int .i64 ef, .int .i64 et, .int .i64 ds, .slice e3 e1 dy, .int .u64 fj, .int .i64 g8, .slice ig gy i4, .int .u64 gl] := a0.seti 19 rfl aq5
   refine bif_of (fun oz => ?_) (fun oz => ?_)
   ·have h := h.1 (bne_t oz)
    refine ⟨bn, a4, ab, an, ca, cs, ak, ba, b7, bj, dc, b2, ce, di, ef, et, ds, e3, e1, dy, fj, g8, ig, gy, i4, gl, ⟨a0.celli 0 rfl rfl, a0.celli 1 rfl rfl, a0.celli 2 rfl rfl, a0.celli 3 rfl rfl, a0.celli 4 rfl rfl, a0.celli 5 rfl rfl, a0.celli 6 rfl rfl, a0.celli 7 rfl rfl, a0.celli 8 rfl rfl, a0.celli 9 rfl rfl, a0.celli 10 rfl rfl, a0.celli 11 rfl rfl, a0.celli 12 rfl rfl, a0.celli 13 rfl rfl, a0.celli 14 rfl rfl, a0.celli 15 rfl rfl, a0.celli 16 rfl rfl, a0.celli 17 rfl rfl, a0.celli 18 rfl rfl, a0.celli 19 rfl rfl, trivial⟩, ?_⟩
    have h := h li ol
    refine h.mono fun az4 ax7 h => ?_
    obtain ⟨n6, it, kk, lc, nq, mz, jf, k9, ks, k3, oc, iu, j5, md, n7, nh, kr, j7, k6, kn, ob, qg, a50, x6, vb, qf, he, h⟩ := h
    refine ⟨n6, it, kk, lc, nq, mz, jf, k9, ks, k3, oc, iu, j5, md, n7, nh, kr, j7, k6, kn, ob, qg, a50, x6, vb, qf, he, ?_⟩
    refine h.mono fun az7 ay5 h => ?_
    obtain ⟨ms, he, h⟩ := h
    refine ⟨ms, he, ?_⟩
    refine bif_fo (fun pl => ?_) (fun pl => ?_)
    ·have h := h.2 pl
     exact h
    have h := h.1 pl
    refine h.mono fun b15 ay4 h => ?_
    obtain ⟨lo, he, h⟩ := h
    refine ⟨lo, he, ?_⟩
    exact h
   have h := h.2 (bne_f oz)
   unfold Q01.J1
   refine ⟨bn, a4, ab, an, ca, cs, ak, ba, b7, bj, dc, b2, ce, di, ef, et, ds, e3, e1, dy, fj, g8, ig, gy, i4, gl, ⟨a0.celli 0 rfl rfl, a0.celli 1 rfl rfl, a0.celli 2 rfl rfl, a0.celli 3 rfl rfl, a0.celli 4 rfl rfl, a0.celli 5 rfl rfl, a0.celli 6 rfl rfl, a0.celli 7 rfl rfl, a0.celli 8 rfl rfl, a0.celli 9 rfl rfl, a0.celli 10 rfl rfl, a0.celli 11 rfl rfl, a0.celli 12 rfl rfl, a0.celli 13 rfl rfl, a0.celli 14 rfl rfl, a0.celli 15 rfl rfl, a0.celli 16 rfl rfl, a0.celli 17 rfl rfl, a0.celli 18 rfl rfl, a0.celli 19 rfl rfl, trivial⟩, ?_⟩
   have h := h li (ap.heap.size) ol (Priv.cons fs a0.lt Priv.nil)
   refine h.mono fun aw4 ax6 h => ?_
   obtain ⟨kq, kt, k7, lw, he, hk, h⟩ := h
   refine ⟨kq, kt, k7, lw, he, ?_⟩
   have a0 := hk.blk a0 (by simp)
   refine bif_fo (fun q6 => ?_) (fun q6 => ?_)
   ·have h := h.2 (beq_f q6)
    exact h
   have h := h.1 (beq_t q6)
   refine h.mono fun az9 ax5 h => ?_
   obtain ⟨nc, he, hk, h⟩ := h
   refine ⟨nc, he, ?_⟩
   have a0 := hk.blk a0 (by simp)
   refine bif_fo (fun pn => ?_) (fun pn => ?_)
   ·have h := h.2 pn
    exact h
   have h := h.1 pn
   refine ⟨bn, a4, ab, an, ca, cs, ak, ba, b7, bj, dc, b2, ce, di, ef, et, ds, e3, e1, dy, fj, g8, ig, gy, i4, gl, ⟨a0.celli 0 rfl rfl, a0.celli 1 rfl rfl, a0.celli 2 rfl rfl, a0.celli 3 rfl rfl, a0.celli 4 rfl rfl, a0.celli 5 rfl rfl, a0.celli 6 rfl rfl, a0.celli 7 rfl rfl, a0.celli 8 rfl rfl, a0.celli 9 rfl rfl, a0.celli 10 rfl rfl, a0.celli 11 rfl rfl, a0.celli 12 rfl rfl, a0.celli 13 rfl rfl, a0.celli 14 rfl rfl, a0.celli 15 rfl rfl, a0.celli 16 rfl rfl, a0.celli 17 rfl rfl, a0.celli 18 rfl rfl, a0.celli 19 rfl rfl, trivial⟩, ?_⟩
   refine h.mono fun aw9 b07 h => ?_
   obtain ⟨l2, he, h⟩ := h
   refine ⟨l2, he, ?_⟩
   refine bif_fo (fun q4 => ?_) (fun q4 => ?_)
   ·have h := h.2 q4
    exact h
   have h := h.1 q4
   refine h.mono fun b08 az2 h => ?_
   obtain ⟨mi, he, h⟩ := h
   refine ⟨mi, he, ?_⟩
   exact h
  have h := h.1 (beq_t c62)
  refine h.mono fun b40 be h => ?_
  obtain ⟨d1, ad, bi, cu, dt, du, cr, d0, cz, cy, er, cx, dn, es, ft, g0, ey, ff, fg, fi, gj, iq, nd, mv, n4, mh, ox, he, hk, h⟩ := h
  refine ⟨d1, ad, bi, cu, dt, du, cr, d0, cz, cy, er, cx, dn, es, ft, g0, ey, ff, fg, fi, gj, iq, nd, mv, n4, mh, ox, he, ?_⟩
  have ai := hk.blk ai (by simp)
  refine Q00 fun b46 e86 => ?_
  have dm := Blk.of_new e86
  have i5 := ((Ext.refl no be)).size
  have ej := Nat.ne_of_lt ai.lt
  have ai := ai.x_alloc e86
  have au9 := (Ext.refl no be).x_alloc e86
  refine ⟨dm.cani 0 rfl rfl, Q00 fun at1 e87 => ?_⟩
  have au5 := au9.x_set (q := be.heap.size) (i := 0) rfl (.inr i5) e87
  have ai := ai.oth (q := be.heap.size) (i := 0) rfl ej e87
  have dm : Blk at1 be.heap.size 38 [.int .i64 d1, .int .i64 0, .int .i64 0, .int .u64 0, .int .i64 0, .int .i64 0, .int .i64 0, .slice none 0 0, .int .u64 0, .int .i64 0, .int .i64 0, .int .u64 0, .int .i64 0, .int .i64 0, .int .i64 0, .slice none 0 0, .int .u64 0, .int .i64 0, .slice none 0 0, .int .u64 0] := dm.seti 0 rfl e87
  refine ⟨dm.cani 1 rfl rfl, Q00 fun ar5 e88 => ?_⟩
  have as9 := au5.x_set (q := be.heap.size) (i := 1) rfl (.inr i5) e88
  have ai := ai.oth (q := be.heap.size) (i := 1) rfl ej e88
  have dm : Blk ar5 be.heap.size 38 [.int .i64 d1, .int .i64 ad, .int .i64 0, .int .u64 0, .int .i64 0, .int .i64 0, .int .i64 0, .slice none 0 0, .int .u64 0, .int .i64 0, .int .i64 0, .int .u64 0, .int .i64 0, .int .i64 0, .int .i64 0, .slice none 0 0, .int .u64 0, .int .i64 0, .slice none 0 0, .int .u64 0] := dm.seti 1 rfl e88
  refine ⟨dm.cani 2 rfl rfl, Q00 fun as8 e89 => ?_⟩
  have as4 := as9.x_set (q := be.heap.size) (i := 2) rfl (.inr i5) e89
  have ai := ai.oth (q := be.heap.size) (i := 2) rfl ej e89
  have dm : Blk as8 be.heap.size 38 [.int .i64 d1, .int .i64 ad, .int .i64 bi, .int .u64 0, .int .i64 0, .int .i64 0, .int .i64 0, .slice none 0 0, .int .u64 0, .int .i64 0, .int .i64 0, .int .u64 0, .int .i64 0, .int .i64 0, .int .i64 0, .slice none 0 0, .int .u64 0, .int .i64 0, .slice none 0 0, .int .u64 0] := dm.seti 2 rfl e89
  refine ⟨dm.cani 3 rfl rfl, Q00 fun av2 e90 => ?_⟩
  have at5 := as4.x_set (q := be.heap.size) (i := 3) rfl (.inr i5) e90
  have ai := ai.oth (q := be.heap.size) (i := 3) rfl ej e90
  have dm : Blk av2 be.heap.size 38 [.int .i64 d1, .int .i64 ad, .int .i64 bi, .int .u64 cu, .int .i64 0, .int .i64 0, .int .i64 0, .slice none 0 0, .int .u64 0, .int .i64 0, .int .i64 0, .int .u64 0, .int .i64 0, .int .i64 0, .int .i64 0, .slice none 0 0, .int .u64 0, .int .i64 0, .slice none 0 0, .int .u64 0] := dm.seti 3 rfl e90
  refine ⟨dm.cani 4 rfl rfl, Q00 fun au1 e91 => ?_⟩
  have av8 := at5.x_set (q := be.heap.size) (i := 4) rfl (.inr i5) e91
  have ai := ai.oth (q := be.heap.size) (i := 4) rfl ej e91
  have dm : Blk au1 be.heap.size 38 [.int .i64 d1, .int .i64 ad, .int .i64 bi, .int .u64 cu, .int .i64 dt, .int .i64 0, .int .i64 0, .slice none 0 0, .int .u64 0, .int .i64 0, .int .i64 0, .int .u64 0, .int .i64 0, .int .i64 0, .int .i64 0, .slice none 0 0, .int .u64 0, .int .i64 0, .slice none 0 0, .int .u64 0] := dm.seti 4 rfl e91
  refine ⟨dm.cani 5 rfl rfl, Q00 fun au2 e92 => ?_⟩
  have aw2 := av8.x_set (q := be.heap.size) (i := 5) rfl (.inr i5) e92
  have ai := ai.oth (q := be.heap.size) (i := 5) rfl ej e92
  have dm : Blk au2 be.heap.size 38 [.int .i64 d1, .int .i64 ad, .int .i64 bi, .int .u64 cu, .int .i64 dt, .int .i64 du, .int .i64 0, .slice none 0 0, .int .u64 0, .int .i64 0, .int .i64 0, .int .u64 0, .int .i64 0, .int .i64 0, .int .i64 0, .slice none 0 0, .int .u64 0, .int .i64 0, .slice none 0 0, .int .u64 0] := dm.seti 5 rfl e92
  refine ⟨dm.cani 6 rfl rfl, Q00 fun au6 e93 => ?_⟩
  have av9 := aw2.x_set (q := be.heap.size) (i := 6) rfl (.inr i5) e93
  have ai := ai.oth (q := be.heap.size) (i := 6) rfl ej e93
  have dm : Blk au6 be.heap.size 38 [.int .i64 d1, .int .i64 ad, .int .i64 bi, .int .u64 cu, .int .i64 dt, .int .i64 du, .int .i64 cr, .slice none 0 0, .int .u64 0, .int .i64 0, .int .i64 0, .int .u64 0, .int .i64 0, .int .i64 0, .int .i64 0, .slice none 0 0, .int .u64 0, .int .i64 0, .slice none 0 0, .int .u64 0] := dm.seti 6 rfl e93
  refine ⟨dm.cani 7 rfl rfl, Q00 fun as5 e94 => ?_⟩
  have ar9 := av9.x_set (q := be.heap.size) (i := 7) rfl (.inr i5) e94
  have ai := ai.oth (q := be.heap.size) (i := 7) rfl ej e94
  have dm : Blk as5 be.heap.size 38 [.int .i64 d1, .int .i64 ad, .int .i64 bi, .int .u64 cu, .int .i64 dt, .int .i64 du, .int .i64 cr, .slice d0 cz cy, .int .u64 0, .int .i64 0, .int .i64 0, .int .u64 0, .int .i64 0, .int .i64 0, .int .i64 0, .slice none 0 0, .int .u64 0, .int .i64 0, .slice none 0 0, .int .u64 0] := dm.seti 7 rfl e94
  refine ⟨dm.cani 8 rfl rfl, Q00 fun av5 e95 => ?_⟩
  have as3 := ar9.x_set (q := be.heap.size) (i := 8) rfl (.inr i5) e95
  have ai := ai.oth (q := be.heap.size) (i := 8) rfl ej e95
  have dm : Blk av5 be.heap.size 38 [.int .i64 d1, .int .i64 ad, .int .i64 bi, .int .u64 cu, .int .i64 dt, .int .i64 du, .int .i64 cr, .slice d0 cz cy, .int .u64 er, .int .i64 0, .int .i64 0, .int .u64 0, .int .i64 0, .int .i64 0, .int .i64 0, .slice none 0 0, .int .u64 0, .int .i64 0, .slice none 0 0, .int .u64 0] := dm.seti 8 rfl e95
  refine ⟨dm.cani 9 rfl rfl, Q00 fun au0 e96 => ?_⟩
  have au4 := as3.x_set (q := be.heap.size) (i := 9) rfl (.inr i5) e96
  have ai := ai.oth (q := be.heap.size) (i := 9) rfl ej e96
  have dm : Blk au0 be.heap.size 38 [.int .i64 d1, .int .i64 ad, .int .i64 bi, .int .u64 cu, .int .i64 dt, .int .i64 du, .int .i64 cr, .slice d0 cz cy, .int .u64 er, .int .i64 cx, .int .i64 0, .int .u64 0, .int .i64 0, .int .i64 0, .int .i64 0, .slice none 0 0, .int .u64 0, .int .i64 0, .slice none 0 0, .int .u64 0] := dm.seti 9 rfl e96
  refine ⟨dm.cani 10 rfl rfl, Q00 fun av3 e97 => ?_⟩
  have ar6 := au4.x_set (q := be.heap.size) (i := 10) rfl (.inr i5) e97
  have ai := ai.oth (q := be.heap.size) (i := 10) rfl ej e97
  have dm : Blk av3 be.heap.size 38 [.int .i64 d1, .int .i64 ad, .int .i64 bi, .int .u64 cu, .int .i64 dt, .int .i64 du, .int .i64 cr, .slice d0 cz cy, .int .u64 er, .int .i64 cx, .int .i64 dn, .int .u64 0, .int .i64 0, .int .i64 0, .int .i64 0, .slice none 0 0, .int .u64 0, .int .i64 0, .slice none 0 0, .int .u64 0] := dm.seti 10 rfl e97
  refine ⟨dm.cani 11 rfl rfl, Q00 fun at7 e98 => ?_⟩
  have as0 := ar6.x_set (q := be.heap.size) (i := 11) rfl (.inr i5) e98
  have ai := ai.oth (q := be.heap.size) (i := 11) rfl ej e98
  have dm : Blk at7 be.heap.size 38 [.int .i64 d1, .int .i64 ad, .int .i64 bi, .int .u64 cu, .int .i64 dt, .int .i64 du, .int .i64 cr, .slice d0 cz cy, .int .u64 er, .int .i64 cx, .int .i64 dn, .int .u64 es, .int .i64 0, .int .i64 0, .int .i64 0, .slice none 0 0, .int .u64 0, .int .i64 0, .slice none 0 0, .int .u64 0] := dm.seti 11 rfl e98
  refine ⟨dm.cani 12 rfl rfl, Q00 fun at4 e99 => ?_⟩
  have at6 := as0.x_set (q := be.heap.size) (i := 12) rfl (.inr i5) e99
  have ai := ai.oth (q := be.heap.size) (i := 12) rfl ej e99
  have dm : Blk at4 be.heap.size 38 [.int .i64 d1, .int .i64 ad, .int .i64 bi, .int .u64 cu, .int .i64 dt, .int .i64 du, .int .i64 cr, .slice d0 cz cy, .int .u64 er, .int .i64 cx, .int .i64 dn, .int .u64 es, .int .i64 ft, .int .i64 0, .int .i64 0, .slice none 0 0, .int .u64 0, .int .i64 0, .slice none 0 0, .int .u64 0] := dm.seti 12 rfl e99
  refine ⟨dm.cani 13 rfl rfl, Q00 fun xq qh => ?_⟩
  have zx := at6.x_set (q := be.heap.size) (i := 13) rfl (.inr i5) qh
  have ai := ai.oth (q := be.heap.size) (i := 13) rfl ej qh
  have dm : Blk xq be.heap.size 38 [.int .i64 d1, .int .i64 ad, .int .i64 bi, .int .u64 cu, .int .i64 dt, .int .i64 du, .int .i64 cr, .slice d0 cz cy, .int .u64 er, .int .i64 cx, .int .i64 dn, .int .u64 es, .int .i64 ft, .int .i64 g0, .int .i64 0, .slice none 0 0, .int .u64 0, .int .i64 0, .slice none 0 0, .int .u64 0] := dm.seti 13 rfl qh
  refine ⟨dm.cani 14 rfl rfl, Q00 fun tz oy => ?_⟩
  have tg := zx.x_set (q := be.heap.size) (i := 14) rfl (.inr i5) oy
  have ai := ai.oth (q := be.heap.size) (i := 14) rfl ej oy
  have dm : Blk tz be.heap.size 38 [.int .i64 d1, .int .i64 ad, .int .i64 bi, .int .u64 cu, .int .i64 dt, .int .i64 du, .int .i64 cr, .slice d0 cz cy, .int .u64 er, .int .i64 cx, .int .i64 dn, .int .u64 es, .int .i64 ft, .int .i64 g0, .int .i64 ey, .slice none 0 0, .int .u64 0, .int .i64 0, .slice none 0 0, .int .u64 0] := dm.seti 14 rfl oy
  refine ⟨dm.cani 15 rfl rfl, Q00 fun ad7 p3 => ?_⟩
  have ai7 := tg.x_set (q := be.heap.size) (i := 15) rfl (.inr i5) p3
  have ai := ai.oth (q := be.heap.size) (i := 15) rfl ej p3
  have dm : Blk ad7 be.heap.size 38 [.int .i64 d1, .int .i64 ad, .int .i64 bi, .int .u64 cu, .int .i64 dt, .int .i64 du, .int .i64 cr, .slice d0 cz cy, .int .u64 er, .int .i64 cx, .int .i64 dn, .int .u64 es, .int .i64 ft, .int .i64 g0, .int .i64 ey, .slice ff fg fi, .int .u64 0, .int .i64 0, .slice none 0 0, .int .u64 0] := dm.seti 15 rfl p3
  refine ⟨dm.cani 16 rfl rfl, Q00 fun ad2 q9 => ?_⟩
  have t7 := ai7.x_set (q := be.heap.size) (i := 16) rfl (.inr i5) q9
  have ai := ai.oth (q := be.heap.size) (i := 16) rfl ej q9
  have dm : Blk ad2 be.heap.size 38 [.int .i64 d1, .int .i64 ad, .int .i64 bi, .int .u64 cu, .int .i64 dt, .int .i64 du, .int .i64 cr, .slice d0 cz cy, .int .u64 er, .int .i64 cx, .int .i64 dn, .int .u64 es, .int .i64 ft, .int .i64 g0, .int .i64 ey, .slice ff fg fi, .int .u64 gj, .int .i64 0, .slice none 0 0, .int .u64 0] := dm.seti 16 rfl q9
  refine ⟨dm.cani 17 rfl rfl, Q00 fun qn qa => ?_⟩
  have a13 := t7.x_set (q := be.heap.size) (i := 17) rfl (.inr i5) qa
  have ai := ai.oth (q := be.heap.size) (i := 17) rfl ej qa
  have dm : Blk qn be.heap.size 38 [.int .i64 d1, .int .i64 ad, .int .i64 bi, .int .u64 cu, .int .i64 dt, .int .i64 du, .int .i64 cr, .slice d0 cz cy, .int .u64 er, .int .i64 cx, .int .i64 dn, .int .u64 es, .int .i64 ft, .int .i64 g0, .int .i64 ey, .slice ff fg fi, .int .u64 gj, .int .i64 iq, .slice none 0 0, .int .u64 0] := dm.seti 17 rfl qa
  refine ⟨dm.cani 18 rfl rfl, Q00 fun a31 qc => ?_⟩
  have a86 := a13.x_set (q := be.heap.size) (i := 18) rfl (.inr i5) qc
  have ai := ai.oth (q := be.heap.size) (i := 18) rfl ej qc
  have dm : Blk a31 be.heap.size 38 [.int .i64 d1, .int .i64 ad, .int .i64 bi, .int .u64 cu, .int .i64 dt, .int .i64 du, .int .i64 cr, .slice d0 cz cy, .int .u64 er, .int .i64 cx, .int .i64 dn, .int .u64 es, .int .i64 ft, .int .i64 g0, .int .i64 ey, .slice ff fg fi, .int .u64 gj, .int .i64 iq, .slice nd mv n4, .int .u64 0] := dm.seti 18 rfl qc
  refine ⟨dm.cani 19 rfl rfl, Q00 fun a08 pq => ?_⟩
  have a07 := a86.x_set (q := be.heap.size) (i := 19) rfl (.inr i5) pq
  have ai := ai.oth (q := be.heap.size) (i := 19) rfl ej pq
  have dm : Blk a08 be.heap.size 38 [.int .i64 d1, .int .i64 ad, .int .i64 bi, .int .u64 cu, .int .i64 dt, .int .i64 du, .int .i64 cr, .slice d0 cz cy, .int .u64 er, .int .i64 cx, .int .i64 dn, .int .u64 es, .int .i64 ft, .int .i64 g0, .int .i64 ey, .slice ff fg fi, .int .u64 gj, .int .i64 iq, .slice nd mv n4, .int .u64 mh] := dm.seti 19 rfl pq
  refine Q00 fun oq pf => ?_
  have oi := a07.x_drew pf
  have ai := ai.x_drew pf
  have dm := dm.x_drew pf
  refine bif_of (fun pu => ?_) (fun pu => ?_)
  ·have h := h.1 (bne_t pu)
   have h := h oq oi
   exact h
  have h := h.2 (bne_f pu)
  refine ⟨d1, ad, bi, cu, dt, du, cr, d0, cz, cy, er, cx, dn, es, ft, g0, ey, ff, fg, fi, gj, iq, nd, mv, n4, mh, ⟨dm.celli 0 rfl rfl, dm.celli 1 rfl rfl, dm.celli 2 rfl rfl, dm.celli 3 rfl rfl, dm.celli 4 rfl rfl, dm.celli 5 rfl rfl, dm.celli 6 rfl rfl, dm.celli 7 rfl rfl, dm.celli 8 rfl rfl, dm.celli 9 rfl rfl, dm.celli 10 rfl rfl, dm.celli 11 rfl rfl, dm.celli 12 rfl rfl, dm.celli 13 rfl rfl, dm.celli 14 rfl rfl, dm.celli 15 rfl rfl, dm.celli 16 rfl rfl, dm.celli 17 rfl rfl, dm.celli 18 rfl rfl, dm.celli 19 rfl rfl, trivial⟩, ?_⟩
  refine ⟨gs, fy, g6, gi, gp, gr, g5, g3, g1, g2, gm, fh, fu, g4, gc, gf, fv, fw, fz, fx, gb, gk, im, io, ip, gu, ⟨ai.celli 0 rfl rfl, ai.celli 1 rfl rfl, ai.celli 2 rfl rfl, ai.celli 3 rfl rfl, ai.celli 4 rfl rfl, ai.celli 5 rfl rfl, ai.celli 6 rfl rfl, ai.celli 7 rfl rfl, ai.celli 8 rfl rfl, ai.celli 9 rfl rfl, ai.celli 10 rfl rfl, ai.celli 11 rfl rfl, ai.celli 12 rfl rfl, ai.celli 13 rfl rfl, ai.celli 14 rfl rfl, ai.celli 15 rfl rfl, ai.celli 16 rfl rfl, ai.celli 17 rfl rfl, ai.celli 18 rfl rfl, ai.celli 19 rfl rfl, trivial⟩, ?_⟩
  have h := h oq oi
  refine h.mono fun b21 b13 h => ?_
  obtain ⟨nj, j1, jo, lq, n8, o5, j6, k0, kv, jr, og, iv, kj, m2, n3, np, j9, kd, j8, jg, nl, p2, z1, a59, ad1, q8, he, hk, h⟩ := h
  refine ⟨nj, j1, jo, lq, n8, o5, j6, k0, kv, jr, og, iv, kj, m2, n3, np, j9, kd, j8, jg, nl, p2, z1, a59, ad1, q8, he, ?_⟩
  have ai := hk.blk ai (by simp)
  refine ⟨⟨ai.celli 0 rfl rfl, ai.celli 1 rfl rfl, ai.celli 2 rfl rfl, ai.celli 3 rfl rfl, ai.celli 4 rfl rfl, ai.celli 5 rfl rfl, ai.celli 6 rfl rfl, ai.celli 7 rfl rfl, ai.celli 8 rfl rfl, ai.celli 9 rfl rfl, ai.celli 10 rfl rfl, ai.celli 11 rfl rfl, ai.celli 12 rfl rfl, ai.celli 13 rfl rfl, ai.celli 14 rfl rfl, ai.celli 15 rfl rfl, ai.celli 16 rfl rfl, ai.celli 17 rfl rfl, ai.celli 18 rfl rfl, ai.celli 19 rfl rfl, trivial⟩, ?_⟩
  refine h.mono fun b38 i9 h => ?_
  obtain ⟨oa, he, h⟩ := h
  refine ⟨oa, he, ?_⟩
  refine bif_of (fun ow => ?_) (fun ow => ?_)
  ·have h := h.1 (not_t ow)
   exact h
  have h := h.2 (not_f ow)
  unfold Q01.J6
  refine bif_fo (fun ph => ?_) (fun ph => ?_)
  ·have h := h.2 (Int.not_le.1 (of_decide_eq_false ph))
   first | unfold Q01.J4 | unfold Q01.J5
   unfold Q01.J3
   refine Q00 fun vd q3 => ?_
   have h := h vd i9.heap.size ((Ext.refl no i9).x_alloc q3) (Blk.of_new q3) ((Ext.refl no i9)).size (Q0q q3)
   obtain ⟨uy, ai9, uk, j4, hr, h⟩ := h
   refine ⟨uy, ai9, uk, j4, hr, ?_⟩
   refine Q00 fun a92 qb => ?_
   have h := h a92 j4.heap.size ((Ext.refl no j4).x_alloc qb) (Blk.of_new qb) ((Ext.refl no j4)).size (Q0q qb)
   obtain ⟨qp, a78, a20, u8, hr, h⟩ := h
   refine ⟨qp, a78, a20, u8, hr, ?_⟩
   refine h.mono fun ax4 b0 h => ?_
   obtain ⟨c2, a5, ag, bq, d4, d8, bw, cc, c8, c5, e2, cp, de, ec, f0, fq, ex, fb, fc, f7, ge, ii, me, m0, l3, lz, mw, he, h⟩ := h
   refine ⟨c2, a5, ag, bq, d4, d8, bw, cc, c8, c5, e2, cp, de, ec, f0, fq, ex, fb, fc, f7, ge, ii, me, m0, l3, lz, mw, he, ?_⟩
   refine Q00 fun b29 sx => ?_
   have ek := Blk.of_new sx
   have ie := ((Ext.refl no b0)).size
   have qx := (Ext.refl no b0).x_alloc sx
   refine ⟨ek.cani 0 rfl rfl, Q00 fun ag7 tw => ?_⟩
   have ag0 := qx.x_set (q := b0.heap.size) (i := 0) rfl (.inr ie) tw
   have ek : Blk ag7 b0.heap.size 38 [.int .i64 c2, .int .i64 0, .int .i64 0, .int .u64 0, .int .i64 0, .int .i64 0, .int .i64 0, .slice none 0 0, .int .u64 0, .int .i64 0, .int .i64 0, .int .u64 0, .int .i64 0, .int .i64 0, .int .i64 0, .slice none 0 0, .int .u64 0, .int .i64 0, .slice none 0 0, .int .u64 0] := ek.seti 0 rfl tw
   refine ⟨ek.cani 1 rfl rfl, Q00 fun u3 tb => ?_⟩
   have a39 := ag0.x_set (q := b0.heap.size) (i := 1) rfl (.inr ie) tb
   have ek : Blk u3 b0.heap.size 38 [.int .i64 c2, .int .i64 a5, .int .i64 0, .int .u64 0, .int .i64 0, .int .i64 0, .int .i64 0, .slice none 0 0, .int .u64 0, .int .i64 0, .int .i64 0, .int .u64 0, .int .i64 0, .int .i64 0, .int .i64 0, .slice none 0 0, .int .u64 0, .int .i64 0, .slice none 0 0, .int .u64 0] := ek.seti 1 rfl tb
   refine ⟨ek.cani 2 rfl rfl, Q00 fun a52 s8 => ?_⟩
   have y1 := a39.x_set (q := b0.heap.size) (i := 2) rfl (.inr ie) s8
   have ek : Blk a52 b0.heap.size 38 [.int .i64 c2, .int .i64 a5, .int .i64 ag, .int .u64 0, .int .i64 0, .int .i64 0, .int .i64 0, .slice none 0 0, .int .u64 0, .int .i64 0, .int .i64 0, .int .u64 0, .int .i64 0, .int .i64 0, .int .i64 0, .slice none 0 0, .int .u64 0, .int .i64 0, .slice none 0 0, .int .u64 0] := ek.seti 2 rfl s8
   refine ⟨ek.cani 3 rfl rfl, Q00 fun y8 qr => ?_⟩
   have xt := y1.x_set (q := b0.heap.size) (i := 3) rfl (.inr ie) qr
   have ek : Blk y8 b0.heap.size 38 [.int .i64 c2, .int .i64 a5, .int .i64 ag, .int .u64 bq, .int .i64 0, .int .i64 0, .int .i64 0, .slice none 0 0, .int .u64 0, .int .i64 0, .int .i64 0, .int .u64 0, .int .i64 0, .int .i64 0, .int .i64 0, .slice none 0 0, .int .u64 0, .int .i64 0, .slice none 0 0, .int .u64 0] := ek.seti 3 rfl qr
   refine ⟨ek.cani 4 rfl rfl, Q00 fun ab7 zy => ?_⟩
   have xv := xt.x_set (q := b0.heap.size) (i := 4) rfl (.inr ie) zy
   have ek : Blk ab7 b0.heap.size 38 [.int .i64 c2, .int .i64 a5, .int .i64 ag, .int .u64 bq, .int .i64 d4, .int .i64 0, .int .i64 0, .slice none 0 0, .int .u64 0, .int .i64 0, .int .i64 0, .int .u64 0, .int .i64 0, .int .i64 0, .int .i64 0, .slice none 0 0, .int .u64 0, .int .i64 0, .slice none 0 0, .int .u64 0] := ek.seti 4 rfl zy
   refine ⟨ek.cani 5 rfl rfl, Q00 fun sl al6 => ?_⟩
   have a33 := xv.x_set (q := b0.heap.size) (i := 5) rfl (.inr ie) al6
   have ek : Blk sl b0.heap.size 38 [.int .i64 c2, .int .i64 a5, .int .i64 ag, .int .u64 bq, .int .i64 d4, .int .i64 d8, .int .i64 0, .slice none 0 0, .int .u64 0, .int .i64 0, .int .i64 0, .int .u64 0, .int .i64 0, .int .i64 0, .int .i64 0, .slice none 0 0, .int .u64 0, .int .i64 0, .slice none 0 0, .int .u64 0] := ek.seti 5 rfl al6
   refine ⟨ek.cani 6 rfl rfl, Q00 fun af1 ao4 => ?_⟩
   have a58 := a33.x_set (q := b0.heap.size) (i := 6) rfl (.inr ie) ao4
   have ek : Blk af1 b0.heap.size 38 [.int .i64 c2, .int .i64 a5, .int .i64 ag, .int .u64 bq, .int .i64 d4, .int .i64 d8, .int .i64 bw, .slice none 0 0, .int .u64 0, .int .i64 0, .int .i64 0, .int .u64 0, .int .i64 0, .int .i64 0, .int .i64 0, .slice none 0 0, .int .u64 0, .int .i64 0, .slice none 0 0, .int .u64 0] := ek.seti 6 rfl ao4
   refine ⟨ek.cani 7 rfl rfl, Q00 fun al3 y2 => ?_⟩
   have a87 := a58.x_set (q := b0.heap.size) (i := 7) rfl (.inr ie) y2
   have ek : Blk al3 b0.heap.size 38 [.int .i64 c2, .int .i64 a5, .int .i64 ag, .int .u64 bq, .int .i64 d4, .int .i64 d8, .int .i64 bw, .slice cc c8 c5, .int .u64 0, .int .i64 0, .int .i64 0, .int .u64 0, .int .i64 0, .int .i64 0, .int .i64 0, .slice none 0 0, .int .u64 0, .int .i64 0, .slice none 0 0, .int .u64 0] := ek.seti 7 rfl y2
   refine ⟨ek.cani 8 rfl rfl, Q00 fun ac4 zf => ?_⟩
   have v9 := a87.x_set (q := b0.heap.size) (i := 8) rfl (.inr ie) zf
   have ek : Blk ac4 b0.heap.size 38 [.int .i64 c2, .int .i64 a5, .int .i64 ag, .int .u64 bq, .int .i64 d4, .int .i64 d8, .int .i64 bw, .slice cc c8 c5, .int .u64 e2, .int .i64 0, .int .i64 0, .int .u64 0, .int .i64 0, .int .i64 0, .int .i64 0, .slice none 0 0, .int .u64 0, .int .i64 0, .slice none 0 0, .int .u64 0] := ek.seti 8 rfl zf
   refine ⟨ek.cani 9 rfl rfl, Q00 fun x5 qk => ?_⟩
   have af6 := v9.x_set (q := b0.heap.size) (i := 9) rfl (.inr ie) qk
   have ek : Blk x5 b0.heap.size 38 [.int .i64 c2, .int .i64 a5, .int .i64 ag, .int .u64 bq, .int .i64 d4, .int .i64 d8, .int .i64 bw, .slice cc c8 c5, .int .u64 e2, .int .i64 cp, .int .i64 0, .int .u64 0, .int .i64 0, .int .i64 0, .int .i64 0, .slice none 0 0, .int .u64 0, .int .i64 0, .slice none 0 0, .int .u64 0] := ek.seti 9 rfl qk
   refine ⟨ek.cani 10 rfl rfl, Q00 fun a90 ah2 => ?_⟩
   have aj5 := af6.x_set (q := b0.heap.size) (i := 10) rfl (.inr ie) ah2
   have ek : Blk a90 b0.heap.size 38 [.int .i64 c2, .int .i64 a5, .int .i64 ag, .int .u64 bq, .int .i64 d4, .int .i64 d8, .int .i64 bw, .slice cc c8 c5, .int .u64 e2, .int .i64 cp, .int .i64 de, .int .u64 0, .int .i64 0, .int .i64 0, .int .i64 0, .slice none 0 0, .int .u64 0, .int .i64 0, .slice none 0 0, .int .u64 0] := ek.seti 10 rfl ah2
   refine ⟨ek.cani 11 rfl rfl, Q00 fun a35 a43 => ?_⟩
   have vm := aj5.x_set (q := b0.heap.size) (i := 11) rfl (.inr ie) a43
   have ek : Blk a35 b0.heap.size 38 [.int .i64 c2, .int .i64 a5, .int .i64 ag, .int .u64 bq, .int .i64 d4, .int .i64 d8, .int .i64 bw, .slice cc c8 c5, .int .u64 e2, .int .i64 cp, .int .i64 de, .int .u64 ec, .int .i64 0, .int .i64 0, .int .i64 0, .slice none 0 0, .int .u64 0, .int .i64 0, .slice none 0 0, .int .u64 0] := ek.seti 11 rfl a43
   refine ⟨ek.cani 12 rfl rfl, Q00 fun ql sr => ?_⟩
   have td := vm.x_set (q := b0.heap.size) (i := 12) rfl (.inr ie) sr
   have ek : Blk ql b0.heap.size 38 [.int .i64 c2, .int .i64 a5, .int .i64 ag, .int .u64 bq, .int .i64 d4, .int .i64 d8, .int .i64 bw, .slice cc c8 c5, .int .u64 e2, .int .i64 cp, .int .i64 de, .int .u64 ec, .int .i64 f0, .int .i64 0, .int .i64 0, .slice none 0 0, .int .u64 0, .int .i64 0, .slice none 0 0, .int .u64 0] := ek.seti 12 rfl sr
   refine ⟨ek.cani 13 rfl rfl, Q00 fun t3 an9 => ?_⟩
   have a88 := td.x_set (q := b0.heap.size) (i := 13) rfl (.inr ie) an9
   have ek : Blk t3 b0.heap.size 38 [.int .i64 c2, .int .i64 a5, .int .i64 ag, .int .u64 bq, .int .i64 d4, .int .i64 d8, .int .i64 bw, .slice cc c8 c5, .int .u64 e2, .int .i64 cp, .int .i64 de, .int .u64 ec, .int .i64 f0, .int .i64 fq, .int .i64 0, .slice none 0 0, .int .u64 0, .int .i64 0, .slice none 0 0, .int .u64 0] := ek.seti 13 rfl an9
   refine ⟨ek.cani 14 rfl rfl, Q00 fun a45 a06 => ?_⟩
   have zm := a88.x_set (q := b0.heap.size) (i := 14) rfl (.inr ie) a06
   have ek : Blk a45 b0.heap.size 38 [.int .i64 c2, .int .i64 a5, .int .i64 ag, .int .u64 bq, .int .i64 d4, .int .i64 d8, .int .i64 bw, .slice cc c8 c5, .int .u64 e2, .int .i64 cp, .int .i64 de, .int .u64 ec, .int .i64 f0, .int .i64 fq, .int .i64 ex, .slice none 0 0, .int .u64 0, .int .i64 0, .slice none 0 0, .int .u64 0] := ek.seti 14 rfl a06
   refine ⟨ek.cani 15 rfl rfl, Q00 fun xa ak7 => ?_⟩
   have aq3 := zm.x_set (q := b0.heap.size) (i := 15) rfl (.inr ie) ak7
   have ek : Blk xa b0.heap.size 38 [.int .i64 c2, .int .i64 a5, .int .i64 ag, .int .u64 bq, .int .i64 d4, .int .i64 d8, .int .i64 bw, .slice cc c8 c5, .int .u64 e2, .int .i64 cp, .int .i64 de, .int .u64 ec, .int .i64 f0, .int .i64 fq, .int .i64 ex, .slice fb fc f7, .int .u64 0, .int .i64 0, .slice none 0 0, .int .u64 0] := ek.seti 15 rfl ak7
   refine ⟨ek.cani 16 rfl rfl, Q00 fun yg aj0 => ?_⟩
   have a37 := aq3.x_set (q := b0.heap.size) (i := 16) rfl (.inr ie) aj0
   have ek : Blk yg b0.heap.size 38 [.int .i64 c2, .int .i64 a5, .int .i64 ag, .int .u64 bq, .int .i64 d4, .int .i64 d8, .int .i64 bw, .slice cc c8 c5, .int .u64 e2, .int .i64 cp, .int .i64 de, .int .u64 ec, .int .i64 f0, .int .i64 fq, .int .i64 ex, .slice fb fc f7, .int .u64 ge, .int .i64 0, .slice none 0 0, .int .u64 0] := ek.seti 16 rfl aj0
   refine ⟨ek.cani 17 rfl rfl, Q00 fun zs v2 => ?_⟩
   have zg := a37.x_set (q := b0.heap.size) (i := 17) rfl (.inr ie) v2
   have ek : Blk zs b0.heap.size 38 [.int .i64 c2, .int .i64 a5, .int .i64 ag, .int .u64 bq, .int .i64 d4, .int .i64 d8, .int .i64 bw, .slice cc c8 c5, .int .u64 e2, .int .i64 cp, .int .i64 de, .int .u64 ec, .int .i64 f0, .int .i64 fq, .int .i64 ex, .slice fb fc f7, .int .u64 ge, .int .i64 ii, .slice none 0 0, .int .u64 0] := ek.seti 17 rfl v2
   refine ⟨ek.cani 18 rfl rfl, Q00 fun a32 ah7 => ?_⟩
   have a04 := zg.x_set (q := b0.heap.size) (i := 18) rfl (.inr ie) ah7
   have ek : Blk a32 b0.heap.size 38 [.int .i64 c2, .int .i64 a5, .int .i64 ag, .int .u64 bq, .int .i64 d4, .int .i64 d8, .int .i64 bw, .slice cc c8 c5, .int .u64 e2, .int .i64 cp, .int .i64 de, .int .u64 ec, .int .i64 f0, .int .i64 fq, .int .i64 ex, .slice fb fc f7, .int .u64 ge, .int .i64 ii, .slice me m0 l3, .int .u64 0] := ek.seti 18 rfl ah7
   refine ⟨ek.cani 19 rfl rfl, Q00 fun mc ac3 => ?_⟩
   have oj := a04.x_set (q := b0.heap.size) (i := 19) rfl (.inr ie) ac3
   have ek : Blk mc b0.heap.size 38 [.int .i64 c2, .int .i64 a5, .int .i64 ag, .int .u64 bq, .int .i64 d4, .int .i64 d8, .int .i64 bw, .slice cc c8 c5, .int .u64 e2, .int .i64 cp, .int .i64 de, .int .u64 ec, .int .i64 f0, .int .i64 fq, .int .i64 ex, .slice fb fc f7, .int .u64 ge, .int .i64 ii, .slice me m0 l3, .int .u64 lz] := ek.seti 19 rfl ac3
   refine bif_of (fun p9 => ?_) (fun p9 => ?_)
   ·have h := h.1 (beq_t p9)
    have h := h mc oj
    exact h
   have h := h.2 (beq_f p9)
   unfold Q01.J2
   have h := h mc oj
   refine h.mono fun az1 ar h => ?_
   obtain ⟨bp, a3, aa, aq, c3, cv, am, b5, bf, bc, db, b1, cj, df, eg, ep, dr, e6, dz, dv, fk, g9, i6, i1, ia, gn, o1, he, h⟩ := h
   refine ⟨bp, a3, aa, aq, c3, cv, am, b5, bf, bc, db, b1, cj, df, eg, ep, dr, e6, dz, dv, fk, g9, i6, i1, ia, gn, o1, he, ?_⟩
   refine Q00 fun b19 ab0 => ?_
   have bb := Blk.of_new ab0
   have gx := ((Ext.refl no ar)).size
   have s3 := (Ext.refl no ar).x_alloc ab0
   refine ⟨bb.cani 0 rfl rfl, Q00 fun xf ab3 => ?_⟩
   have zk := s3.x_set (q := ar.heap.size) (i := 0) rfl (.inr gx) ab3
   have bb : Blk xf ar.heap.size 38 [.int .i64 bp, .int .i64 0, .int .i64 0, .int .u64 0, .int .i64 0, .int .i64 0, .int .i64 0, .slice none 0 0, .int .u64 0, .int .i64 0, .int .i64 0, .int .u64 0, .int .i64 0, .int .i64 0, .int .i64 0, .slice none 0 0, .int .u64 0, .int .i64 0, .slice none 0 0, .int .u64 0] := bb.seti 0 rfl ab3
   refine ⟨bb.cani 1 rfl rfl, Q00 fun a83 si => ?_⟩
   have s6 := zk.x_set (q := ar.heap.size) (i := 1) rfl (.inr gx) si
   have bb : Blk a83 ar.heap.size 38 [.int .i64 bp, .int .i64 a3, .int .i64 0, .int .u64 0, .int .i64 0, .int .i64 0, .int .i64 0, .slice none 0 0, .int .u64 0, .int .i64 0, .int .i64 0, .int .u64 0, .int .i64 0, .int .i64 0, .int .i64 0, .slice none 0 0, .int .u64 0, .int .i64 0, .slice none 0 0, .int .u64 0] := bb.seti 1 rfl si
   refine ⟨bb.cani 2 rfl rfl, Q00 fun t4 ap8 => ?_⟩
   have a11 := s6.x_set (q := ar.heap.size) (i := 2) rfl (.inr gx) ap8
   have bb : Blk t4 ar.heap.size 38 [.int .i64 bp, .int .i64 a3, .int .i64 aa, .int .u64 0, .int .i64 0, .int .i64 0, .int .i64 0, .slice none 0 0, .int .u64 0, .int .i64 0, .int .i64 0, .int .u64 0, .int .i64 0, .int .i64 0, .int .i64 0, .slice none 0 0, .int .u64 0, .int .i64 0, .slice none 0 0, .int .u64 0] := bb.seti 2 rfl ap8
   refine ⟨bb.cani 3 rfl rfl, Q00 fun us an2 => ?_⟩
   have qu := a11.x_set (q := ar.heap.size) (i := 3) rfl (.inr gx) an2
   have bb : Blk us ar.heap.size 38 [.int .i64 bp, .int .i64 a3, .int .i64 aa, .int .u64 aq, .int .i64 0, .int .i64 0, .int .i64 0, .slice none 0 0, .int .u64 0, .int .i64 0, .int .i64 0, .int .u64 0, .int .i64 0, .int .i64 0, .int .i64 0, .slice none 0 0, .int .u64 0, .int .i64 0, .slice none 0 0, .int .u64 0] := bb.seti 3 rfl an2
   refine ⟨bb.cani 4 rfl rfl, Q00 fun vj yh => ?_⟩
   have ah9 := qu.x_set (q := ar.heap.size) (i := 4) rfl (.inr gx) yh
   have bb : Blk vj ar.heap.size 38 [.int .i64 bp, .int .i64 a3, .int .i64 aa, .int .u64 aq, .int .i64 c3, .int .i64 0, .int .i64 0, .slice none 0 0, .int .u64 0, .int .i64 0, .int .i64 0, .int .u64 0, .int .i64 0, .int .i64 0, .int .i64 0, .slice none 0 0, .int .u64 0, .int .i64 0, .slice none 0 0, .int .u64 0] := bb.seti 4 rfl yh
   refine ⟨bb.cani 5 rfl rfl, Q00 fun aj9 a67 => ?_⟩
   have qm := ah9.x_set (q := ar.heap.size) (i := 5) rfl (.inr gx) a67
   have bb : Blk aj9 ar.heap.size 38 [.int .i64 bp, .int .i64 a3, .int .i64 aa, .int .u64 aq, .int .i64 c3, .int .i64 cv, .int .i64 0, .slice none 0 0, .int .u64 0, .int .i64 0, .int .i64 0, .int .u64 0, .int .i64 0, .int .i64 0, .int .i64 0, .slice none 0 0, .int .u64 0, .int .i64 0, .slice none 0 0, .int .u64 0] := bb.seti 5 rfl a67
   refine ⟨bb.cani 6 rfl rfl, Q00 fun sh ao1 => ?_⟩
   have a61 := qm.x_set (q := ar.heap.size) (i := 6) rfl (.inr gx) ao1
   have bb : Blk sh ar.heap.size 38 [.int .i64 bp, .int .i64 a3, .int .i64 aa, .int .u64 aq, .int .i64 c3, .int .i64 cv, .int .i64 am, .slice none 0 0, .int .u64 0, .int .i64 0, .int .i64 0, .int .u64 0, .int .i64 0, .int .i64 0, .int .i64 0, .slice none 0 0, .int .u64 0, .int .i64 0, .slice none 0 0, .int .u64 0] := bb.seti 6 rfl ao1
   refine ⟨bb.cani 7 rfl rfl, Q00 fun al1 ta => ?_⟩
   have a46 := a61.x_set (q := ar.heap.size) (i := 7) rfl (.inr gx) ta
   have bb : Blk al1 ar.heap.size 38 [.int .i64 bp, .int .i64 a3, .int .i64 aa, .int .u64 aq, .int .i64 c3, .int .i64 cv, .int .i64 am, .slice b5 bf bc, .int .u64 0, .int .i64 0, .int .i64 0, .int .u64 0, .int .i64 0, .int .i64 0, .int .i64 0, .slice none 0 0, .int .u64 0, .int .i64 0, .slice none 0 0, .int .u64 0] := bb.seti 7 rfl ta
   refine ⟨bb.cani 8 rfl rfl, Q00 fun ak8 a02 => ?_⟩
   have aj3 := a46.x_set (q := ar.heap.size) (i := 8) rfl (.inr gx) a02
   have bb : Blk ak8 ar.heap.size 38 [.int .i64 bp, .int .i64 a3, .int .i64 aa, .int .u64 aq, .int .i64 c3, .int .i64 cv, .int .i64 am, .slice b5 bf bc, .int .u64 db, .int .i64 0, .int .i64 0, .int .u64 0, .int .i64 0, .int .i64 0, .int .i64 0, .slice none 0 0, .int .u64 0, .int .i64 0, .slice none 0 0, .int .u64 0] := bb.seti 8 rfl a02
   refine ⟨bb.cani 9 rfl rfl, Q00 fun aq9 ag1 => ?_⟩
   have ak2 := aj3.x_set (q := ar.heap.size) (i := 9) rfl (.inr gx) ag1
   have bb : Blk aq9 ar.heap.size 38 [.int .i64 bp, .int .i64 a3, .int .i64 aa, .int .u64 aq, .int .i64 c3, .int .i64 cv, .int .i64 am, .slice b5 bf bc, .int .u64 db, .int .i64 b1, .int .i64 0, .int .u64 0, .int .i64 0, .int .i64 0, .int .i64 0, .slice none 0 0, .int .u64 0, .int .i64 0, .slice none 0 0, .int .u64 0] := bb.seti 9 rfl ag1
   refine ⟨bb.cani 10 rfl rfl, Q00 fun a30 a56 => ?_⟩
   have ah5 := ak2.x_set (q := ar.heap.size) (i := 10) rfl (.inr gx) a56
   have bb : Blk a30 ar.heap.size 38 [.int .i64 bp, .int .i64 a3, .int .i64 aa, .int .u64 aq, .int .i64 c3, .int .i64 cv, .int .i64 am, .slice b5 bf bc, .int .u64 db, .int .i64 b1, .int .i64 cj, .int .u64 0, .int .i64 0, .int .i64 0, .int .i64 0, .slice none 0 0, .int .u64 0, .int .i64 0, .slice none 0 0, .int .u64 0] := bb.seti 10 rfl a56
   refine ⟨bb.cani 11 rfl rfl, Q00 fun af7 ar2 => ?_⟩
   have tu := ah5.x_set (q := ar.heap.size) (i := 11) rfl (.inr gx) ar2
   have bb : Blk af7 ar.heap.size 38 [.int .i64 bp, .int .i64 a3, .int .i64 aa, .int .u64 aq, .int .i64 c3, .int .i64 cv, .int .i64 am, .slice b5 bf bc, .int .u64 db, .int .i64 b1, .int .i64 cj, .int .u64 df, .int .i64 0, .int .i64 0, .int .i64 0, .slice none 0 0, .int .u64 0, .int .i64 0, .slice none 0 0, .int .u64 0] := bb.seti 11 rfl ar2
   refine ⟨bb.cani 12 rfl rfl, Q00 fun ak9 qs => ?_⟩
   have tq := tu.x_set (q := ar.heap.size) (i := 12) rfl (.inr gx) qs
   have bb : Blk ak9 ar.heap.size 38 [.int .i64 bp, .int .i64 a3, .int .i64 aa, .int .u64 aq, .int .i64 c3, .int .i64 cv, .int .i64 am, .slice b5 bf bc, .int .u64 db, .int .i64 b1, .int .i64 cj, .int .u64 df, .int .i64 eg, .int .i64 0, .int .i64 0, .slice none 0 0, .int .u64 0, .int .i64 0, .slice none 0 0, .int .u64 0] := bb.seti 12 rfl qs
   refine ⟨bb.cani 13 rfl rfl, Q00 fun uv ai2 => ?_⟩
   have vi := tq.x_set (q := ar.heap.size) (i := 13) rfl (.inr gx) ai2
   have bb : Blk uv ar.heap.size 38 [.int .i64 bp, .int .i64 a3, .int .i64 aa, .int .u64 aq, .int .i64 c3, .int .i64 cv, .int .i64 am, .slice b5 bf bc, .int .u64 db, .int .i64 b1, .int .i64 cj, .int .u64 df, .int .i64 eg, .int .i64 ep, .int .i64 0, .slice none 0 0, .int .u64 0, .int .i64 0, .slice none 0 0, .int .u64 0] := bb.seti 13 rfl ai2
   refine ⟨bb.cani 14 rfl rfl, Q00 fun se ae8 => ?_⟩
   have tj := vi.x_set (q := ar.heap.size) (i := 14) rfl (.inr gx) ae8
   have bb : Blk se ar.heap.size 38 [.int .i64 bp, .int .i64 a3, .int .i64 aa, .int .u64 aq, .int .i64 c3, .int .i64 cv, .int .i64 am, .slice b5 bf bc, .int .u64 db, .int .i64 b1, .int .i64 cj, .int .u64 df, .int .i64 eg, .int .i64 ep, .int .i64 dr, .slice none 0 0, .int .u64 0, .int .i64 0, .slice none 0 0, .int .u64 0] := bb.seti 14 rfl ae8
   refine ⟨bb.cani 15 rfl rfl, Q00 fun y3 sz => ?_⟩
   have xx := tj.x_set (q := ar.heap.size) (i := 15) rfl (.inr gx) sz
   have bb : Blk y3 ar.heap.size 38 [.int .i64 bp, .int .i64 a3, .int .i64 aa, .int .u64 aq, .int .i64 c3, .int .i64 cv, .int .i64 am, .slice b5 bf bc, .int .u64 db, .int .i64 b1, .int .i64 cj, .int .u64 df, .int .i64 eg, .int .i64 ep, .int .i64 dr, .slice e6 dz dv, .int .u64 0, .int .i64 0, .slice none 0 0, .int .u64 0] := bb.seti 15 rfl sz
   refine ⟨bb.cani 16 rfl rfl, Q00 fun a49 af9 => ?_⟩
   have yi := xx.x_set (q := ar.heap.size) (i := 16) rfl (.inr gx) af9
   have bb : Blk a49 ar.heap.size 38 [.int .i64 bp, .int .i64 a3, .int .i64 aa, .int .u64 aq, .int .i64 c3, .int .i64 cv, .int .i64 am, .slice b5 bf bc, .int .u64 db, .int .i64 b1, .int .i64 cj, .int .u64 df, .int .i64 eg, .int .i64 ep, .int .i64 dr, .slice e6 dz dv, .int .u64 fk, .int .i64 0, .slice none 0 0, .int .u64 0] := bb.seti 16 rfl af9
   refine ⟨bb.cani 17 rfl rfl, Q00 fun ac2 a36 => ?_⟩
   have qo := yi.x_set (q := ar.heap.size) (i := 17) rfl (.inr gx) a36
   have bb : Blk ac2 ar.heap.size 38 [.int .i64 bp, .int .i64 a3, .int .i64 aa, .int .u64 aq, .int .i64 c3, .int .i64 cv, .int .i64 am, .slice b5 bf bc, .int .u64 db, .int .i64 b1, .int .i64 cj, .int .u64 df, .int .i64 eg, .int .i64 ep, .int .i64 dr, .slice e6 dz dv, .int .u64 fk, .int .i64 g9, .slice none 0 0, .int .u64 0] := bb.seti 17 rfl a36
   refine ⟨bb.cani 18 rfl rfl, Q00 fun ub xg => ?_⟩
   have ud := qo.x_set (q := ar.heap.size) (i := 18) rfl (.inr gx) xg
   have bb : Blk ub ar.heap.size 38 [.int .i64 bp, .int .i64 a3, .int .i64 aa, .int .u64 aq, .int .i64 c3, .int .i64 cv, .int .i64 am, .slice b5 bf bc, .int .u64 db, .int .i64 b1, .int .i64 cj, .int .u64 df, .int .i64 eg, .int .i64 ep, .int .i64 dr, .slice e6 dz dv, .int .u64 fk, .int .i64 g9, .slice i6 i1 ia, .int .u64 0] := bb.seti 18 rfl xg
   refine ⟨bb.cani 19 rfl rfl, Q00 fun l4 yy => ?_⟩
   have ok := ud.x_set (q := ar.heap.size) (i := 19) rfl (.inr gx) yy
   have bb : Blk l4 ar.heap.size 38 [.int .i64 bp, .int .i64 a3, .int .i64 aa, .int .u64 aq, .int .i64 c3, .int .i64 cv, .int .i64 am, .slice b5 bf bc, .int .u64 db, .int .i64 b1, .int .i64 cj, .int .u64 df, .int .i64 eg, .int .i64 ep, .int .i64 dr, .slice e6 dz dv, .int .u64 fk, .int .i64 g9, .slice i6 i1 ia, .int .u64 gn] := bb.seti 19 rfl yy
   refine bif_of (fun pc => ?_) (fun pc => ?_)
   ·have h := h.1 (bne_t pc)
    refine ⟨bp, a3, aa, aq, c3, cv, am, b5, bf, bc, db, b1, cj, df, eg, ep, dr, e6, dz, dv, fk, g9, i6, i1, ia, gn, ⟨bb.celli 0 rfl rfl, bb.celli 1 rfl rfl, bb.celli 2 rfl rfl, bb.celli 3 rfl rfl, bb.celli 4 rfl rfl, bb.celli 5 rfl rfl, bb.celli 6 rfl rfl, bb.celli 7 rfl rfl, bb.celli 8 rfl rfl, bb.celli 9 rfl rfl, bb.celli 10 rfl rfl, bb.celli 11 rfl rfl, bb.celli 12 rfl rfl, bb.celli 13 rfl rfl, bb.celli 14 rfl rfl, bb.celli 15 rfl rfl, bb.celli 16 rfl rfl, bb.celli 17 rfl rfl, bb.celli 18 rfl rfl, bb.celli 19 rfl rfl, trivial⟩, ?_⟩
    have h := h l4 ok
    refine h.mono fun b01 az3 h => ?_
    obtain ⟨ns, j0, jz, kx, mu, nn, jp, kf, ji, jx, nx, iz, k1, ll, ne, n1, ko, jq, kc, jt, n9, q7, ts, aj2, aa5, qe, he, h⟩ := h
    refine ⟨ns, j0, jz, kx, mu, nn, jp, kf, ji, jx, nx, iz, k1, ll, ne, n1, ko, jq, kc, jt, n9, q7, ts, aj2, aa5, qe, he, ?_⟩
    refine h.mono fun b05 ay7 h => ?_
    obtain ⟨o9, he, h⟩ := h
    refine ⟨o9, he, ?_⟩
    refine bif_fo (fun pt => ?_) (fun pt => ?_)
    ·have h := h.2 pt
     exact h
    have h := h.1 pt
    refine h.mono fun b27 b34 h => ?_
    obtain ⟨l9, he, h⟩ := h
    refine ⟨l9, he, ?_⟩
    exact h
   have h := h.2 (bne_f pc)
   unfold Q01.J1
   refine ⟨bp, a3, aa, aq, c3, cv, am, b5, bf, bc, db, b1, cj, df, eg, ep, dr, e6, dz, dv, fk, g9, i6, i1, ia, gn, ⟨bb.celli 0 rfl rfl, bb.celli 1 rfl rfl, bb.celli 2 rfl rfl, bb.celli 3 rfl rfl, bb.celli 4 rfl rfl, bb.celli 5 rfl rfl, bb.celli 6 rfl rfl, bb.celli 7 rfl rfl, bb.celli 8 rfl rfl, bb.celli 9 rfl rfl, bb.celli 10 rfl rfl, bb.celli 11 rfl rfl, bb.celli 12 rfl rfl, bb.celli 13 rfl rfl, bb.celli 14 rfl rfl, bb.celli 15 rfl rfl, bb.celli 16 rfl rfl, bb.celli 17 rfl rfl, bb.celli 18 rfl rfl, bb.celli 19 rfl rfl, trivial⟩, ?_⟩
   have h := h l4 (ar.heap.size) ok (Priv.cons gx bb.lt Priv.nil)
   refine h.mono fun ay6 b25 h => ?_
   obtain ⟨jd, k5, ka, ma, he, hk, h⟩ := h
   refine ⟨jd, k5, ka, ma, he, ?_⟩
   have bb := hk.blk bb (by simp)
   refine bif_fo (fun p1 => ?_) (fun p1 => ?_)
   ·have h := h.2 (beq_f p1)
    exact h
   have h := h.1 (beq_t p1)
   refine h.mono fun b28 aw5 h => ?_
   obtain ⟨nr, he, hk, h⟩ := h
   refine ⟨nr, he, ?_⟩
   have bb := hk.blk bb (by simp)
   refine bif_fo (fun pj => ?_) (fun pj => ?_)
   ·have h := h.2 pj
    exact h
   have h := h.1 pj
   refine ⟨bp, a3, aa, aq, c3, cv, am, b5, bf, bc, db, b1, cj, df, eg, ep, dr, e6, dz, dv, fk, g9, i6, i1, ia, gn, ⟨bb.celli 0 rfl rfl, bb.celli 1 rfl rfl, bb.celli 2 rfl rfl, bb.celli 3 rfl rfl, bb.celli 4 rfl rfl, bb.celli 5 rfl rfl, bb.celli 6 rfl rfl, bb.celli 7 rfl rfl, bb.celli 8 rfl rfl, bb.celli 9 rfl rfl, bb.celli 10 rfl rfl, bb.celli 11 rfl rfl, bb.celli 12 rfl rfl, bb.celli 13 rfl rfl, bb.celli 14 rfl rfl, bb.celli 15 rfl rfl, bb.celli 16 rfl rfl, bb.celli 17 rfl rfl, bb.celli 18 rfl rfl, bb.celli 19 rfl rfl, trivial⟩, ?_⟩
   refine h.mono fun b22 az8 h => ?_
   obtain ⟨mq, he, h⟩ := h
   refine ⟨mq, he, ?_⟩
   refine bif_fo (fun pe => ?_) (fun pe => ?_)
   ·have h := h.2 pe
    exact h
   have h := h.1 pe
   refine h.mono fun b12 aw7 h => ?_
   obtain ⟨mm, he, h⟩ := h
   refine ⟨mm, he, ?_⟩
   exact h
  have h := h.1 (of_decide_eq_true ph)
  first | unfold Q01.J4 | unfold Q01.J5
  refine bif_fo (fun q5 => ?_) (fun q5 => ?_)
  ·have h := h.2 (Int.not_lt.1 (of_decide_eq_false q5))
   unfold Q01.J3
   refine Q00 fun yr q1 => ?_
   have h := h yr i9.heap.size ((Ext.refl no i9).x_alloc q1) (Blk.of_new q1) ((Ext.refl no i9)).size (Q0q q1)
   obtain ⟨y6, qi, a70, j3, hr, h⟩ := h
   refine ⟨y6, qi, a70, j3, hr, ?_⟩
   refine Q00 fun zw pw => ?_
   have h := h zw j3.heap.size ((Ext.refl no j3).x_alloc pw) (Blk.of_new pw) ((Ext.refl no j3)).size (Q0q pw)
   obtain ⟨al5, vz, vy, ab9, hr, h⟩ := h
   refine ⟨al5, vz, vy, ab9, hr, ?_⟩
   refine h.mono fun b09 ax h => ?_
   obtain ⟨c0, a7, ah, bt, d3, da, bx, c7, cd, cm, e0, co, dg, ed, ez, fr, ev, fa, f9, f8, gg, ij, ml, mk, lu, mj, o2, he, h⟩ := h
   refine ⟨c0, a7, ah, bt, d3, da, bx, c7, cd, cm, e0, co, dg, ed, ez, fr, ev, fa, f9, f8, gg, ij, ml, mk, lu, mj, o2, he, ?_⟩
   refine Q00 fun b37 xb => ?_
   have en := Blk.of_new xb
   have ib := ((Ext.refl no ax)).size
   have yc := (Ext.refl no ax).x_alloc xb
   refine ⟨en.cani 0 rfl rfl, Q00 fun ut a95 => ?_⟩
   have ab4 := yc.x_set (q := ax.heap.size) (i := 0) rfl (.inr ib) a95
   have en : Blk ut ax.heap.size 38 [.int .i64 c0, .int .i64 0, .int .i64 0, .int .u64 0, .int .i64 0, .int .i64 0, .int .i64 0, .slice none 0 0, .int .u64 0, .int .i64 0, .int .i64 0, .int .u64 0, .int .i64 0, .int .i64 0, .int .i64 0, .slice none 0 0, .int .u64 0, .int .i64 0, .slice none 0 0, .int .u64 0] := en.seti 0 rfl a95
   refine ⟨en.cani 1 rfl rfl, Q00 fun u6 zv => ?_⟩
   have a53 := ab4.x_set (q := ax.heap.size) (i := 1) rfl (.inr ib) zv
   have en : Blk u6 ax.heap.size 38 [.int .i64 c0, .int .i64 a7, .int .i64 0, .int .u64 0, .int .i64 0, .int .i64 0, .int .i64 0, .slice none 0 0, .int .u64 0, .int .i64 0, .int .i64 0, .int .u64 0, .int .i64 0, .int .i64 0, .int .i64 0, .slice none 0 0, .int .u64 0, .int .i64 0, .slice none 0 0, .int .u64 0] := en.seti 1 rfl zv
   refine ⟨en.cani 2 rfl rfl, Q00 fun x0 tr => ?_⟩
   have v5 := a53.x_set (q := ax.heap.size) (i := 2) rfl (.inr ib) tr
   have en : Blk x0 ax.heap.size 38 [.int .i64 c0, .int .i64 a7, .int .i64 ah, .int .u64 0, .int .i64 0, .int .i64 0, .int .i64 0, .slice none 0 0, .int .u64 0, .int .i64 0, .int .i64 0, .int .u64 0, .int .i64 0, .int .i64 0, .int .i64 0, .slice none 0 0, .int .u64 0, .int .i64 0, .slice none 0 0, .int .u64 0] := en.seti 2 rfl tr
   refine ⟨en.cani 3 rfl rfl, Q00 fun zd zh => ?_⟩
   have ti := v5.x_set (q := ax.heap.size) (i := 3) rfl (.inr ib) zh
   have en : Blk zd ax.heap.size 38 [.int .i64 c0, .int .i64 a7, .int .i64 ah, .int .u64 bt, .int .i64 0, .int .i64 0, .int .i64 0, .slice none 0 0, .int .u64 0, .int .i64 0, .int .i64 0, .int .u64 0, .int .i64 0, .int .i64 0, .int .i64 0, .slice none 0 0, .int .u64 0, .int .i64 0, .slice none 0 0, .int .u64 0] := en.seti 3 rfl zh
   refine ⟨en.cani 4 rfl rfl, Q00 fun vu qt => ?_⟩
   have a38 := ti.x_set (q := ax.heap.size) (i := 4) rfl (.inr ib) qt
   have en : Blk vu ax.heap.size 38 [.int .i64 c0, .int .i64 a7, .int .i64 ah, .int .u64 bt, .int .i64 d3, .int .i64 0, .int .i64 0, .slice none 0 0, .int .u64 0, .int .i64 0, .int .i64 0, .int .u64 0, .int .i64 0, .int .i64 0, .int .i64 0, .slice none 0 0, .int .u64 0, .int .i64 0, .slice none 0 0, .int .u64 0] := en.seti 4 rfl qt
   refine ⟨en.cani 5 rfl rfl, Q00 fun a97 uh => ?_⟩
   have uu := a38.x_set (q := ax.heap.size) (i := 5) rfl (.inr ib) uh
   have en : Blk a97 ax.heap.size 38 [.int .i64 c0, .int .i64 a7, .int .i64 ah, .int .u64 bt, .int .i64 d3, .int .i64 da, .int .i64 0, .slice none 0 0, .int .u64 0, .int .i64 0, .int .i64 0, .int .u64 0, .int .i64 0, .int .i64 0, .int .i64 0, .slice none 0 0, .int .u64 0, .int .i64 0, .slice none 0 0, .int .u64 0] := en.seti 5 rfl uh
   refine ⟨en.cani 6 rfl rfl, Q00 fun v7 aq7 => ?_⟩
   have an0 := uu.x_set (q := ax.heap.size) (i := 6) rfl (.inr ib) aq7
   have en : Blk v7 ax.heap.size 38 [.int .i64 c0, .int .i64 a7, .int .i64 ah, .int .u64 bt, .int .i64 d3, .int .i64 da, .int .i64 bx, .slice none 0 0, .int .u64 0, .int .i64 0, .int .i64 0, .int .u64 0, .int .i64 0, .int .i64 0, .int .i64 0, .slice none 0 0, .int .u64 0, .int .i64 0, .slice none 0 0, .int .u64 0] := en.seti 6 rfl aq7
   refine ⟨en.cani 7 rfl rfl, Q00 fun a12 ap7 => ?_⟩
   have x8 := an0.x_set (q := ax.heap.size) (i := 7) rfl (.inr ib) ap7
   have en : Blk a12 ax.heap.size 38 [.int .i64 c0, .int .i64 a7, .int .i64 ah, .int .u64 bt, .int .i64 d3, .int .i64 da, .int .i64 bx, .slice c7 cd cm, .int .u64 0, .int .i64 0, .int .i64 0, .int .u64 0, .int .i64 0, .int .i64 0, .int .i64 0, .slice none 0 0, .int .u64 0, .int .i64 0, .slice none 0 0, .int .u64 0] := en.seti 7 rfl ap7
   refine ⟨en.cani 8 rfl rfl, Q00 fun a69 ae6 => ?_⟩
   have aa0 := x8.x_set (q := ax.heap.size) (i := 8) rfl (.inr ib) ae6
   have en : Blk a69 ax.heap.size 38 [.int .i64 c0, .int .i64 a7, .int .i64 ah, .int .u64 bt, .int .i64 d3, .int .i64 da, .int .i64 bx, .slice c7 cd cm, .int .u64 e0, .int .i64 0, .int .i64 0, .int .u64 0, .int .i64 0, .int .i64 0, .int .i64 0, .slice none 0 0, .int .u64 0, .int .i64 0, .slice none 0 0, .int .u64 0] := en.seti 8 rfl ae6
   refine ⟨en.cani 9 rfl rfl, Q00 fun aq8 vw => ?_⟩
   have vv := aa0.x_set (q := ax.heap.size) (i := 9) rfl (.inr ib) vw
   have en : Blk aq8 ax.heap.size 38 [.int .i64 c0, .int .i64 a7, .int .i64 ah, .int .u64 bt, .int .i64 d3, .int .i64 da, .int .i64 bx, .slice c7 cd cm, .int .u64 e0, .int .i64 co, .int .i64 0, .int .u64 0, .int .i64 0, .int .i64 0, .int .i64 0, .slice none 0 0, .int .u64 0, .int .i64 0, .slice none 0 0, .int .u64 0] := en.seti 9 rfl vw
   refine ⟨en.cani 10 rfl rfl, Q00 fun a23 a16 => ?_⟩
   have zi := vv.x_set (q := ax.heap.size) (i := 10) rfl (.inr ib) a16
   have en : Blk a23 ax.heap.size 38 [.int .i64 c0, .int .i64 a7, .int .i64 ah, .int .u64 bt, .int .i64 d3, .int .i64 da, .int .i64 bx, .slice c7 cd cm, .int .u64 e0, .int .i64 co, .int .i64 dg, .int .u64 0, .int .i64 0, .int .i64 0, .int .i64 0, .slice none 0 0, .int .u64 0, .int .i64 0, .slice none 0 0, .int .u64 0] := en.seti 10 rfl a16
   refine ⟨en.cani 11 rfl rfl, Q00 fun a64 a60 => ?_⟩
   have aq1 := zi.x_set (q := ax.heap.size) (i := 11) rfl (.inr ib) a60
   have en : Blk a64 ax.heap.size 38 [.int .i64 c0, .int .i64 a7, .int .i64 ah, .int .u64 bt, .int .i64 d3, .int .i64 da, .int .i64 bx, .slice c7 cd cm, .int .u64 e0, .int .i64 co, .int .i64 dg, .int .u64 ed, .int .i64 0, .int .i64 0, .int .i64 0, .slice none 0 0, .int .u64 0, .int .i64 0, .slice none 0 0, .int .u64 0] := en.seti 11 rfl a60
   refine ⟨en.cani 12 rfl rfl, Q00 fun aq2 qv => ?_⟩
   have v1 := aq1.x_set (q := ax.heap.size) (i := 12) rfl (.inr ib) qv
   have en : Blk aq2 ax.heap.size 38 [.int .i64 c0, .int .i64 a7, .int .i64 ah, .int .u64 bt, .int .i64 d3, .int .i64 da, .int .i64 bx, .slice c7 cd cm, .int .u64 e0, .int .i64 co, .int .i64 dg, .int .u64 ed, .int .i64 ez, .int .i64 0, .int .i64 0, .slice none 0 0, .int .u64 0, .int .i64 0, .slice none 0 0, .int .u64 0] := en.seti 12 rfl qv
   refine ⟨en.cani 13 rfl rfl, Q00 fun yq xj => ?_⟩
   have a74 := v1.x_set (q := ax.heap.size) (i := 13) rfl (.inr ib) xj
   have en : Blk yq ax.heap.size 38 [.int .i64 c0, .int .i64 a7, .int .i64 ah, .int .u64 bt, .int .i64 d3, .int .i64 da, .int .i64 bx, .slice c7 cd cm, .int .u64 e0, .int .i64 co, .int .i64 dg, .int .u64 ed, .int .i64 ez, .int .i64 fr, .int .i64 0, .slice none 0 0, .int .u64 0, .int .i64 0, .slice none 0 0, .int .u64 0] := en.seti 13 rfl xj
   refine ⟨en.cani 14 rfl rfl, Q00 fun a81 zn => ?_⟩
   have yw := a74.x_set (q := ax.heap.size) (i := 14) rfl (.inr ib) zn
   have en : Blk a81 ax.heap.size 38 [.int .i64 c0, .int .i64 a7, .int .i64 ah, .int .u64 bt, .int .i64 d3, .int .i64 da, .int .i64 bx, .slice c7 cd cm, .int .u64 e0, .int .i64 co, .int .i64 dg, .int .u64 ed, .int .i64 ez, .int .i64 fr, .int .i64 ev, .slice none 0 0, .int .u64 0, .int .i64 0, .slice none 0 0, .int .u64 0] := en.seti 14 rfl zn
   refine ⟨en.cani 15 rfl rfl, Q00 fun sv yv => ?_⟩
   have a48 := yw.x_set (q := ax.heap.size) (i := 15) rfl (.inr ib) yv
   have en : Blk sv ax.heap.size 38 [.int .i64 c0, .int .i64 a7, .int .i64 ah, .int .u64 bt, .int .i64 d3, .int .i64 da, .int .i64 bx, .slice c7 cd cm, .int .u64 e0, .int .i64 co, .int .i64 dg, .int .u64 ed, .int .i64 ez, .int .i64 fr, .int .i64 ev, .slice fa f9 f8, .int .u64 0, .int .i64 0, .slice none 0 0, .int .u64 0] := en.seti 15 rfl yv
   refine ⟨en.cani 16 rfl rfl, Q00 fun af3 t2 => ?_⟩
   have a72 := a48.x_set (q := ax.heap.size) (i := 16) rfl (.inr ib) t2
   have en : Blk af3 ax.heap.size 38 [.int .i64 c0, .int .i64 a7, .int .i64 ah, .int .u64 bt, .int .i64 d3, .int .i64 da, .int .i64 bx, .slice c7 cd cm, .int .u64 e0, .int .i64 co, .int .i64 dg, .int .u64 ed, .int .i64 ez, .int .i64 fr, .int .i64 ev, .slice fa f9 f8, .int .u64 gg, .int .i64 0, .slice none 0 0, .int .u64 0] := en.seti 16 rfl t2
   refine ⟨en.cani 17 rfl rfl, Q00 fun af2 a91 => ?_⟩
   have ac7 := a72.x_set (q := ax.heap.size) (i := 17) rfl (.inr ib) a91
   have en : Blk af2 ax.heap.size 38 [.int .i64 c0, .int .i64 a7, .int .i64 ah, .int .u64 bt, .int .i64 d3, .int .i64 da, .int .i64 bx, .slice c7 cd cm, .int .u64 e0, .int .i64 co, .int .i64 dg, .int .u64 ed, .int .i64 ez, .int .i64 fr, .int .i64 ev, .slice fa f9 f8, .int .u64 gg, .int .i64 ij, .slice none 0 0, .int .u64 0] := en.seti 17 rfl a91
   refine ⟨en.cani 18 rfl rfl, Q00 fun x1 ar0 => ?_⟩
   have xl := ac7.x_set (q := ax.heap.size) (i := 18) rfl (.inr ib) ar0
   have en : Blk x1 ax.heap.size 38 [.int .i64 c0, .int .i64 a7, .int .i64 ah, .int .u64 bt, .int .i64 d3, .int .i64 da, .int .i64 bx, .slice c7 cd cm, .int .u64 e0, .int .i64 co, .int .i64 dg, .int .u64 ed, .int .i64 ez, .int .i64 fr, .int .i64 ev, .slice fa f9 f8, .int .u64 gg, .int .i64 ij, .slice ml mk lu, .int .u64 0] := en.seti 18 rfl ar0
   refine ⟨en.cani 19 rfl rfl, Q00 fun l6 qz => ?_⟩
   have os := xl.x_set (q := ax.heap.size) (i := 19) rfl (.inr ib) qz
   have en : Blk l6 ax.heap.size 38 [.int .i64 c0, .int .i64 a7, .int .i64 ah, .int .u64 bt, .int .i64 d3, .int .i64 da, .int .i64 bx, .slice c7 cd cm, .int .u64 e0, .int .i64 co, .int .i64 dg, .int .u64 ed, .int .i64 ez, .int .i64 fr, .int .i64 ev, .slice fa f9 f8, .int .u64 gg, .int .i64 ij, .slice ml mk lu, .int .u64 mj] := en.seti 19 rfl qz
   refine bif_of (fun py => ?_) (fun py => ?_)
   ·have h := h.1 (beq_t py)
    have h := h l6 os
    exact h
   have h := h.2 (beq_f py)
   unfold Q01.J2
   have h := h l6 os
   refine h.mono fun aw8 aw h => ?_
   obtain ⟨bm, a2, ac, au, ci, ct, al, b6, b9, bh, d7, b3, c9, dk, ei, eo, dq, dw, dx, e8, fl, ga, i0, ic, ih, gq, o4, he, h⟩ := h
   refine ⟨bm, a2, ac, au, ci, ct, al, b6, b9, bh, d7, b3, c9, dk, ei, eo, dq, dw, dx, e8, fl, ga, i0, ic, ih, gq, o4, he, ?_⟩
   refine Q00 fun ax3 vq => ?_
   have bk := Blk.of_new vq
   have gv := ((Ext.refl no aw)).size
   have a03 := (Ext.refl no aw).x_alloc vq
   refine ⟨bk.cani 0 rfl rfl, Q00 fun tl ad3 => ?_⟩
   have a21 := a03.x_set (q := aw.heap.size) (i := 0) rfl (.inr gv) ad3
   have bk : Blk tl aw.heap.size 38 [.int .i64 bm, .int .i64 0, .int .i64 0, .int .u64 0, .int .i64 0, .int .i64 0, .int .i64 0, .slice none 0 0, .int .u64 0, .int .i64 0, .int .i64 0, .int .u64 0, .int .i64 0, .int .i64 0, .int .i64 0, .slice none 0 0, .int .u64 0, .int .i64 0, .slice none 0 0, .int .u64 0] := bk.seti 0 rfl ad3
   refine ⟨bk.cani 1 rfl rfl, Q00 fun ao6 aq4 => ?_⟩
   have af0 := a21.x_set (q := aw.heap.size) (i := 1) rfl (.inr gv) aq4
   have bk : Blk ao6 aw.heap.size 38 [.int .i64 bm, .int .i64 a2, .int .i64 0, .int .u64 0, .int .i64 0, .int .i64 0, .int .i64 0, .slice none 0 0, .int .u64 0, .int .i64 0, .int .i64 0, .int .u64 0, .int .i64 0, .int .i64 0, .int .i64 0, .slice none 0 0, .int .u64 0, .int .i64 0, .slice none 0 0, .int .u64 0] := bk.seti 1 rfl aq4
   refine ⟨bk.cani 2 rfl rfl, Q00 fun ap6 tk => ?_⟩
   have ag2 := af0.x_set (q := aw.heap.size) (i := 2) rfl (.inr gv) tk
   have bk : Blk ap6 aw.heap.size 38 [.int .i64 bm, .int .i64 a2, .int .i64 ac, .int .u64 0, .int .i64 0, .int .i64 0, .int .i64 0, .slice none 0 0, .int .u64 0, .int .i64 0, .int .i64 0, .int .u64 0, .int .i64 0, .int .i64 0, .int .i64 0, .slice none 0 0, .int .u64 0, .int .i64 0, .slice none 0 0, .int .u64 0] := bk.seti 2 rfl tk
   refine ⟨bk.cani 3 rfl rfl, Q00 fun aa9 an6 => ?_⟩
   have un := ag2.x_set (q := aw.heap.size) (i := 3) rfl (.inr gv) an6
   have bk : Blk aa9 aw.heap.size 38 [.int .i64 bm, .int .i64 a2, .int .i64 ac, .int .u64 au, .int .i64 0, .int .i64 0, .int .i64 0, .slice none 0 0, .int .u64 0, .int .i64 0, .int .i64 0, .int .u64 0, .int .i64 0, .int .i64 0, .int .i64 0, .slice none 0 0, .int .u64 0, .int .i64 0, .slice none 0 0, .int .u64 0] := bk.seti 3 rfl an6
   refine ⟨bk.cani 4 rfl rfl, Q00 fun ul ao2 => ?_⟩
   have ys := un.x_set (q := aw.heap.size) (i := 4) rfl (.inr gv) ao2
   have bk : Blk ul aw.heap.size 38 [.int .i64 bm, .int .i64 a2, .int .i64 ac, .int .u64 au, .int .i64 ci, .int .i64 0, .int .i64 0, .slice none 0 0, .int .u64 0, .int .i64 0, .int .i64 0, .int .u64 0, .int .i64 0, .int .i64 0, .int .i64 0, .slice none 0 0, .int .u64 0, .int .i64 0, .slice none 0 0, .int .u64 0] := bk.seti 4 rfl ao2
   refine ⟨bk.cani 5 rfl rfl, Q00 fun va u2 => ?_⟩
   have yj := ys.x_set (q := aw.heap.size) (i := 5) rfl (.inr gv) u2
   have bk : Blk va aw.heap.size 38 [.int .i64 bm, .int .i64 a2, .int .i64 ac, .int .u64 au, .int .i64 ci, .int .i64 ct, .int .i64 0, .slice none 0 0, .int .u64 0, .int .i64 0, .int .i64 0, .int .u64 0, .int .i64 0, .int .i64 0, .int .i64 0, .slice none 0 0, .int .u64 0, .int .i64 0, .slice none 0 0, .int .u64 0] := bk.seti 5 rfl u2
   refine ⟨bk.cani 6 rfl rfl, Q00 fun ae4 yl => ?_⟩
   have am8 := yj.x_set (q := aw.heap.size) (i := 6) rfl (.inr gv) yl
   have bk : Blk ae4 aw.heap.size 38 [.int .i64 bm, .int .i64 a2, .int .i64 ac, .int .u64 au, .int .i64 ci, .int .i64 ct, .int .i64 al, .slice none 0 0, .int .u64 0, .int .i64 0, .int .i64 0, .int .u64 0, .int .i64 0, .int .i64 0, .int .i64 0, .slice none 0 0, .int .u64 0, .int .i64 0, .slice none 0 0, .int .u64 0] := bk.seti 6 rfl yl
   refine ⟨bk.cani 7 rfl rfl, Q00 fun ap4 ai8 => ?_⟩
   have ur := am8.x_set (q := aw.heap.size) (i := 7) rfl (.inr gv) ai8
   have bk : Blk ap4 aw.heap.size 38 [.int .i64 bm, .int .i64 a2, .int .i64 ac, .int .u64 au, .int .i64 ci, .int .i64 ct, .int .i64 al, .slice b6 b9 bh, .int .u64 0, .int .i64 0, .int .i64 0, .int .u64 0, .int .i64 0, .int .i64 0, .int .i64 0, .slice none 0 0, .int .u64 0, .int .i64 0, .slice none 0 0, .int .u64 0] := bk.seti 7 rfl ai8
   refine ⟨bk.cani 8 rfl rfl, Q00 fun xk ap0 => ?_⟩
   have ak3 := ur.x_set (q := aw.heap.size) (i := 8) rfl (.inr gv) ap0
   have bk : Blk xk aw.heap.size 38 [.int .i64 bm, .int .i64 a2, .int .i64 ac, .int .u64 au, .int .i64 ci, .int .i64 ct, .int .i64 al, .slice b6 b9 bh, .int .u64 d7, .int .i64 0, .int .i64 0, .int .u64 0, .int .i64 0, .int .i64 0, .int .i64 0, .slice none 0 0, .int .u64 0, .int .i64 0, .slice none 0 0, .int .u64 0] := bk.seti 8 rfl ap0
   refine ⟨bk.cani 9 rfl rfl, Q00 fun a09 a26 => ?_⟩
   have a94 := ak3.x_set (q := aw.heap.size) (i := 9) rfl (.inr gv) a26
   have bk : Blk a09 aw.heap.size 38 [.int .i64 bm, .int .i64 a2, .int .i64 ac, .int .u64 au, .int .i64 ci, .int .i64 ct, .int .i64 al, .slice b6 b9 bh, .int .u64 d7, .int .i64 b3, .int .i64 0, .int .u64 0, .int .i64 0, .int .i64 0, .int .i64 0, .slice none 0 0, .int .u64 0, .int .i64 0, .slice none 0 0, .int .u64 0] := bk.seti 9 rfl a26
   refine ⟨bk.cani 10 rfl rfl, Q00 fun v4 ua => ?_⟩
   have zr := a94.x_set (q := aw.heap.size) (i := 10) rfl (.inr gv) ua
   have bk : Blk v4 aw.heap.size 38 [.int .i64 bm, .int .i64 a2, .int .i64 ac, .int .u64 au, .int .i64 ci, .int .i64 ct, .int .i64 al, .slice b6 b9 bh, .int .u64 d7, .int .i64 b3, .int .i64 c9, .int .u64 0, .int .i64 0, .int .i64 0, .int .i64 0, .slice none 0 0, .int .u64 0, .int .i64 0, .slice none 0 0, .int .u64 0] := bk.seti 10 rfl ua
   refine ⟨bk.cani 11 rfl rfl, Q00 fun ao7 s1 => ?_⟩
   have a54 := zr.x_set (q := aw.heap.size) (i := 11) rfl (.inr gv) s1
   have bk : Blk ao7 aw.heap.size 38 [.int .i64 bm, .int .i64 a2, .int .i64 ac, .int .u64 au, .int .i64 ci, .int .i64 ct, .int .i64 al, .slice b6 b9 bh, .int .u64 d7, .int .i64 b3, .int .i64 c9, .int .u64 dk, .int .i64 0, .int .i64 0, .int .i64 0, .slice none 0 0, .int .u64 0, .int .i64 0, .slice none 0 0, .int .u64 0] := bk.seti 11 rfl s1
   refine ⟨bk.cani 12 rfl rfl, Q00 fun a55 uz => ?_⟩
   have a18 := a54.x_set (q := aw.heap.size) (i := 12) rfl (.inr gv) uz
   have bk : Blk a55 aw.heap.size 38 [.int .i64 bm, .int .i64 a2, .int .i64 ac, .int .u64 au, .int .i64 ci, .int .i64 ct, .int .i64 al, .slice b6 b9 bh, .int .u64 d7, .int .i64 b3, .int .i64 c9, .int .u64 dk, .int .i64 ei, .int .i64 0, .int .i64 0, .slice none 0 0, .int .u64 0, .int .i64 0, .slice none 0 0, .int .u64 0] := bk.seti 12 rfl uz
   refine ⟨bk.cani 13 rfl rfl, Q00 fun ao8 xo => ?_⟩
   have vx := a18.x_set (q := aw.heap.size) (i := 13) rfl (.inr gv) xo
   have bk : Blk ao8 aw.heap.size 38 [.int .i64 bm, .int .i64 a2, .int .i64 ac, .int .u64 au, .int .i64 ci, .int .i64 ct, .int .i64 al, .slice b6 b9 bh, .int .u64 d7, .int .i64 b3, .int .i64 c9, .int .u64 dk, .int .i64 ei, .int .i64 eo, .int .i64 0, .slice none 0 0, .int .u64 0, .int .i64 0, .slice none 0 0, .int .u64 0] := bk.seti 13 rfl xo
   refine ⟨bk.cani 14 rfl rfl, Q00 fun aa4 y5 => ?_⟩
   have an8 := vx.x_set (q := aw.heap.size) (i := 14) rfl (.inr gv) y5
   have bk : Blk aa4 aw.heap.size 38 [.int .i64 bm, .int .i64 a2, .int .i64 ac, .int .u64 au, .int .i64 ci, .int .i64 ct, .int .i64 al, .slice b6 b9 bh, .int .u64 d7, .int .i64 b3, .int .i64 c9, .int .u64 dk, .int .i64 ei, .int .i64 eo, .int .i64 dq, .slice none 0 0, .int .u64 0, .int .i64 0, .slice none 0 0, .int .u64 0] := bk.seti 14 rfl y5
   refine ⟨bk.cani 15 rfl rfl, Q00 fun qj sf => ?_⟩
   have a71 := an8.x_set (q := aw.heap.size) (i := 15) rfl (.inr gv) sf
   have bk : Blk qj aw.heap.size 38 [.int .i64 bm, .int .i64 a2, .int .i64 ac, .int .u64 au, .int .i64 ci, .int .i64 ct, .int .i64 al, .slice b6 b9 bh, .int .u64 d7, .int .i64 b3, .int .i64 c9, .int .u64 dk, .int .i64 ei, .int .i64 eo, .int .i64 dq, .slice dw dx e8, .int .u64 0, .int .i64 0, .slice none 0 0, .int .u64 0] := bk.seti 15 rfl sf
   refine ⟨bk.cani 16 rfl rfl, Q00 fun a15 an1 => ?_⟩
   have zt := a71.x_set (q := aw.heap.size) (i := 16) rfl (.inr gv) an1
   have bk : Blk a15 aw.heap.size 38 [.int .i64 bm, .int .i64 a2, .int .i64 ac, .int .u64 au, .int .i64 ci, .int .i64 ct, .int .i64 al, .slice b6 b9 bh, .int .u64 d7, .int .i64 b3, .int .i64 c9, .int .u64 dk, .int .i64 ei, .int .i64 eo, .int .i64 dq, .slice dw dx e8, .int .u64 fl, .int .i64 0, .slice none 0 0, .int .u64 0] := bk.seti 16 rfl an1
   refine ⟨bk.cani 17 rfl rfl, Q00 fun vr vf => ?_⟩
   have z6 := zt.x_set (q := aw.heap.size) (i := 17) rfl (.inr gv) vf
   have bk : Blk vr aw.heap.size 38 [.int .i64 bm, .int .i64 a2, .int .i64 ac, .int .u64 au, .int .i64 ci, .int .i64 ct, .int .i64 al, .slice b6 b9 bh, .int .u64 d7, .int .i64 b3, .int .i64 c9, .int .u64 dk, .int .i64 ei, .int .i64 eo, .int .i64 dq, .slice dw dx e8, .int .u64 fl, .int .i64 ga, .slice none 0 0, .int .u64 0] := bk.seti 17 rfl vf
   refine ⟨bk.cani 18 rfl rfl, Q00 fun a85 xh => ?_⟩
   have ym := z6.x_set (q := aw.heap.size) (i := 18) rfl (.inr gv) xh
   have bk : Blk a85 aw.heap.size 38 [.int .i64 bm, .int .i64 a2, .int .i64 ac, .int .u64 au, .int .i64 ci, .int .i64 ct, .int .i64 al, .slice b6 b9 bh, .int .u64 d7, .int .i64 b3, .int .i64 c9, .int .u64 dk, .int .i64 ei, .int .i64 eo, .int .i64 dq, .slice dw dx e8, .int .u64 fl, .int .i64 ga, .slice i0 ic ih, .int .u64 0] := bk.seti 18 rfl xh
   refine ⟨bk.cani 19 rfl rfl, Q00 fun m8 ap2 => ?_⟩
   have oo := ym.x_set (q := aw.heap.size) (i := 19) rfl (.inr gv) ap2
   have bk : Blk m8 aw.heap.size 38 [.int .i64 bm, .int .i64 a2, .int .i64 ac, .int .u64 au, .int .i64 ci, .int .i64 ct, .int .i64 al, .slice b6 b9 bh, .int .u64 d7, .int .i64 b3, .int .i64 c9, .int .u64 dk, .int .i64 ei, .int .i64 eo, .int .i64 dq, .slice dw dx e8, .int .u64 fl, .int .i64 ga, .slice i0 ic ih, .int .u64 gq] := bk.seti 19 rfl ap2
   refine bif_of (fun pv => ?_) (fun pv => ?_)
   ·have h := h.1 (bne_t pv)
    refine ⟨bm, a2, ac, au, ci, ct, al, b6, b9, bh, d7, b3, c9, dk, ei, eo, dq, dw, dx, e8, fl, ga, i0, ic, ih, gq, ⟨bk.celli 0 rfl rfl, bk.celli 1 rfl rfl, bk.celli 2 rfl rfl, bk.celli 3 rfl rfl, bk.celli 4 rfl rfl, bk.celli 5 rfl rfl, bk.celli 6 rfl rfl, bk.celli 7 rfl rfl, bk.celli 8 rfl rfl, bk.celli 9 rfl rfl, bk.celli 10 rfl rfl, bk.celli 11 rfl rfl, bk.celli 12 rfl rfl, bk.celli 13 rfl rfl, bk.celli 14 rfl rfl, bk.celli 15 rfl rfl, bk.celli 16 rfl rfl, bk.celli 17 rfl rfl, bk.celli 18 rfl rfl, bk.celli 19 rfl rfl, trivial⟩, ?_⟩
    have h := h m8 oo
    refine h.mono fun ax1 az0 h => ?_
    obtain ⟨oh, iw, kw, ky, nk, nf, kp, km, k4, je, n2, ix, kh, l0, nu, o6, kb, jh, jl, jc, ny, pi, qq, ac5, a17, px, he, h⟩ := h
    refine ⟨oh, iw, kw, ky, nk, nf, kp, km, k4, je, n2, ix, kh, l0, nu, o6, kb, jh, jl, jc, ny, pi, qq, ac5, a17, px, he, ?_⟩
    refine h.mono fun b03 aw3 h => ?_
    obtain ⟨na, he, h⟩ := h
    refine ⟨na, he, ?_⟩
    refine bif_fo (fun pd => ?_) (fun pd => ?_)
    ·have h := h.2 pd
     exact h
    have h := h.1 pd
    refine h.mono fun ay0 ay1 h => ?_
    obtain ⟨mn, he, h⟩ := h
    refine ⟨mn, he, ?_⟩
    exact h
   have h := h.2 (bne_f pv)
   unfold Q01.J1
   refine ⟨bm, a2, ac, au, ci, ct, al, b6, b9, bh, d7, b3, c9, dk, ei, eo, dq, dw, dx, e8, fl, ga, i0, ic, ih, gq, ⟨bk.celli 0 rfl rfl, bk.celli 1 rfl rfl, bk.celli 2 rfl rfl, bk.celli 3 rfl rfl, bk.celli 4 rfl rfl, bk.celli 5 rfl rfl, bk.celli 6 rfl rfl, bk.celli 7 rfl rfl, bk.celli 8 rfl rfl, bk.celli 9 rfl rfl, bk.celli 10 rfl rfl, bk.celli 11 rfl rfl, bk.celli 12 rfl rfl, bk.celli 13 rfl rfl, bk.celli 14 rfl rfl, bk.celli 15 rfl rfl, bk.celli 16 rfl rfl, bk.celli 17 rfl rfl, bk.celli 18 rfl rfl, bk.celli 19 rfl rfl, trivial⟩, ?_⟩
   have h := h m8 (aw.heap.size) oo (Priv.cons gv bk.lt Priv.nil)
   refine h.mono fun b24 b16 h => ?_
   obtain ⟨jm, kg, jv, m3, he, hk, h⟩ := h
   refine ⟨jm, kg, jv, m3, he, ?_⟩
   have bk := hk.blk bk (by simp)
   refine bif_fo (fun pb => ?_) (fun pb => ?_)
   ·have h := h.2 (beq_f pb)
    exact h
   have h := h.1 (beq_t pb)
   refine h.mono fun az5 ax9 h => ?_
   obtain ⟨od, he, hk, h⟩ := h
   refine ⟨od, he, ?_⟩
   have bk := hk.blk bk (by simp)
   refine bif_fo (fun pk => ?_) (fun pk => ?_)
   ·have h := h.2 pk
    exact h
   have h := h.1 pk
   refine ⟨bm, a2, ac, au, ci, ct, al, b6, b9, bh, d7, b3, c9, dk, ei, eo, dq, dw, dx, e8, fl, ga, i0, ic, ih, gq, ⟨bk.celli 0 rfl rfl, bk.celli 1 rfl rfl, bk.celli 2 rfl rfl, bk.celli 3 rfl rfl, bk.celli 4 rfl rfl, bk.celli 5 rfl rfl, bk.celli 6 rfl rfl, bk.celli 7 rfl rfl, bk.celli 8 rfl rfl, bk.celli 9 rfl rfl, bk.celli 10 rfl rfl, bk.celli 11 rfl rfl, bk.celli 12 rfl rfl, bk.celli 13 rfl rfl, bk.celli 14 rfl rfl, bk.celli 15 rfl rfl, bk.celli 16 rfl rfl, bk.celli 17 rfl rfl, bk.celli 18 rfl rfl, bk.celli 19 rfl rfl, trivial⟩, ?_⟩
   refine h.mono fun ax2 b26 h => ?_
   obtain ⟨mb, he, h⟩ := h
   refine ⟨mb, he, ?_⟩
   refine bif_fo (fun ou => ?_) (fun ou => ?_)
   ·have h := h.2 ou
    exact h
   have h := h.1 ou
   refine h.mono fun b30 b18 h => ?_
   obtain ⟨la, he, h⟩ := h
   refine ⟨la, he, ?_⟩
   exact h
  have h := h.1 (of_decide_eq_true q5)
  obtain ⟨hq0, hq1, h⟩ := h
  refine ⟨hq0, hq1, ?_⟩
  try rw [Q3r]
  refine h.mono fun ax0 ay h => ?_
  obtain ⟨c1, a8, ae, br, d2, d6, bv, cf, cl, cg, e7, cn, dj, ee, f2, fm, eu, fd, f5, f6, gh, il, le, m5, l8, m1, nz, he, h⟩ := h
  refine ⟨c1, a8, ae, br, d2, d6, bv, cf, cl, cg, e7, cn, dj, ee, f2, fm, eu, fd, f5, f6, gh, il, le, m5, l8, m1, nz, he, ?_⟩
  refine Q00 fun ax8 x2 => ?_
  have em := Blk.of_new x2
  have i2 := ((Ext.refl no ay)).size
  have ah1 := (Ext.refl no ay).x_alloc x2
  refine ⟨em.cani 0 rfl rfl, Q00 fun ap5 a75 => ?_⟩
  have z5 := ah1.x_set (q := ay.heap.size) (i := 0) rfl (.inr i2) a75
  have em : Blk ap5 ay.heap.size 38 [.int .i64 c1, .int .i64 0, .int .i64 0, .int .u64 0, .int .i64 0, .int .i64 0, .int .i64 0, .slice none 0 0, .int .u64 0, .int .i64 0, .int .i64 0, .int .u64 0, .int .i64 0, .int .i64 0, .int .i64 0, .slice none 0 0, .int .u64 0, .int .i64 0, .slice none 0 0, .int .u64 0] := em.seti 0 rfl a75
  refine ⟨em.cani 1 rfl rfl, Q00 fun yz y4 => ?_⟩
  have vt := z5.x_set (q := ay.heap.size) (i := 1) rfl (.inr i2) y4
  have em : Blk yz ay.heap.size 38 [.int .i64 c1, .int .i64 a8, .int .i64 0, .int .u64 0, .int .i64 0, .int .i64 0, .int .i64 0, .slice none 0 0, .int .u64 0, .int .i64 0, .int .i64 0, .int .u64 0, .int .i64 0, .int .i64 0, .int .i64 0, .slice none 0 0, .int .u64 0, .int .i64 0, .slice none 0 0, .int .u64 0] := em.seti 1 rfl y4
  refine ⟨em.cani 2 rfl rfl, Q00 fun ah8 s0 => ?_⟩
  have t0 := vt.x_set (q := ay.heap.size) (i := 2) rfl (.inr i2) s0
  have em : Blk ah8 ay.heap.size 38 [.int .i64 c1, .int .i64 a8, .int .i64 ae, .int .u64 0, .int .i64 0, .int .i64 0, .int .i64 0, .slice none 0 0, .int .u64 0, .int .i64 0, .int .i64 0, .int .u64 0, .int .i64 0, .int .i64 0, .int .i64 0, .slice none 0 0, .int .u64 0, .int .i64 0, .slice none 0 0, .int .u64 0] := em.seti 2 rfl s0
  refine ⟨em.cani 3 rfl rfl, Q00 fun ai3 a73 => ?_⟩
  have sd := t0.x_set (q := ay.heap.size) (i := 3) rfl (.inr i2) a73
  have em : Blk ai3 ay.heap.size 38 [.int .i64 c1, .int .i64 a8, .int .i64 ae, .int .u64 br, .int .i64 0, .int .i64 0, .int .i64 0, .slice none 0 0, .int .u64 0, .int .i64 0, .int .i64 0, .int .u64 0, .int .i64 0, .int .i64 0, .int .i64 0, .slice none 0 0, .int .u64 0, .int .i64 0, .slice none 0 0, .int .u64 0] := em.seti 3 rfl a73
  refine ⟨em.cani 4 rfl rfl, Q00 fun a10 u9 => ?_⟩
  have z0 := sd.x_set (q := ay.heap.size) (i := 4) rfl (.inr i2) u9
  have em : Blk a10 ay.heap.size 38 [.int .i64 c1, .int .i64 a8, .int .i64 ae, .int .u64 br, .int .i64 d2, .int .i64 0, .int .i64 0, .slice none 0 0, .int .u64 0, .int .i64 0, .int .i64 0, .int .u64 0, .int .i64 0, .int .i64 0, .int .i64 0, .slice none 0 0, .int .u64 0, .int .i64 0, .slice none 0 0, .int .u64 0] := em.seti 4 rfl u9
  refine ⟨em.cani 5 rfl rfl, Q00 fun ye yo => ?_⟩
  have ty := z0.x_set (q := ay.heap.size) (i := 5) rfl (.inr i2) yo
  have em : Blk ye ay.heap.size 38 [.int .i64 c1, .int .i64 a8, .int .i64 ae, .int .u64 br, .int .i64 d2, .int .i64 d6, .int .i64 0, .slice none 0 0, .int .u64 0, .int .i64 0, .int .i64 0, .int .u64 0, .int .i64 0, .int .i64 0, .int .i64 0, .slice none 0 0, .int .u64 0, .int .i64 0, .slice none 0 0, .int .u64 0] := em.seti 5 rfl yo
  refine ⟨em.cani 6 rfl rfl, Q00 fun qy a79 => ?_⟩
  have am5 := ty.x_set (q := ay.heap.size) (i := 6) rfl (.inr i2) a79
  have em : Blk qy ay.heap.size 38 [.int .i64 c1, .int .i64 a8, .int .i64 ae, .int .u64 br, .int .i64 d2, .int .i64 d6, .int .i64 bv, .slice none 0 0, .int .u64 0, .int .i64 0, .int .i64 0, .int .u64 0, .int .i64 0, .int .i64 0, .int .i64 0, .slice none 0 0, .int .u64 0, .int .i64 0, .slice none 0 0, .int .u64 0] := em.seti 6 rfl a79
  refine ⟨em.cani 7 rfl rfl, Q00 fun ac1 a01 => ?_⟩
  have u1 := am5.x_set (q := ay.heap.size) (i := 7) rfl (.inr i2) a01
  have em : Blk ac1 ay.heap.size 38 [.int .i64 c1, .int .i64 a8, .int .i64 ae, .int .u64 br, .int .i64 d2, .int .i64 d6, .int .i64 bv, .slice cf cl cg, .int .u64 0, .int .i64 0, .int .i64 0, .int .u64 0, .int .i64 0, .int .i64 0, .int .i64 0, .slice none 0 0, .int .u64 0, .int .i64 0, .slice none 0 0, .int .u64 0] := em.seti 7 rfl a01
  refine ⟨em.cani 8 rfl rfl, Q00 fun ag6 su => ?_⟩
  have a34 := u1.x_set (q := ay.heap.size) (i := 8) rfl (.inr i2) su
  have em : Blk ag6 ay.heap.size 38 [.int .i64 c1, .int .i64 a8, .int .i64 ae, .int .u64 br, .int .i64 d2, .int .i64 d6, .int .i64 bv, .slice cf cl cg, .int .u64 e7, .int .i64 0, .int .i64 0, .int .u64 0, .int .i64 0, .int .i64 0, .int .i64 0, .slice none 0 0, .int .u64 0, .int .i64 0, .slice none 0 0, .int .u64 0] := em.seti 8 rfl su
  refine ⟨em.cani 9 rfl rfl, Q00 fun ui t6 => ?_⟩
  have aj7 := a34.x_set (q := ay.heap.size) (i := 9) rfl (.inr i2) t6
  have em : Blk ui ay.heap.size 38 [.int .i64 c1, .int .i64 a8, .int .i64 ae, .int .u64 br, .int .i64 d2, .int .i64 d6, .int .i64 bv, .slice cf cl cg, .int .u64 e7, .int .i64 cn, .int .i64 0, .int .u64 0, .int .i64 0, .int .i64 0, .int .i64 0, .slice none 0 0, .int .u64 0, .int .i64 0, .slice none 0 0, .int .u64 0] := em.seti 9 rfl t6
  refine ⟨em.cani 10 rfl rfl, Q00 fun xw s2 => ?_⟩
  have al4 := aj7.x_set (q := ay.heap.size) (i := 10) rfl (.inr i2) s2
  have em : Blk xw ay.heap.size 38 [.int .i64 c1, .int .i64 a8, .int .i64 ae, .int .u64 br, .int .i64 d2, .int .i64 d6, .int .i64 bv, .slice cf cl cg, .int .u64 e7, .int .i64 cn, .int .i64 dj, .int .u64 0, .int .i64 0, .int .i64 0, .int .i64 0, .slice none 0 0, .int .u64 0, .int .i64 0, .slice none 0 0, .int .u64 0] := em.seti 10 rfl s2
  refine ⟨em.cani 11 rfl rfl, Q00 fun ap3 zu => ?_⟩
  have v6 := al4.x_set (q := ay.heap.size) (i := 11) rfl (.inr i2) zu
  have em : Blk ap3 ay.heap.size 38 [.int .i64 c1, .int .i64 a8, .int .i64 ae, .int .u64 br, .int .i64 d2, .int .i64 d6, .int .i64 bv, .slice cf cl cg, .int .u64 e7, .int .i64 cn, .int .i64 dj, .int .u64 ee, .int .i64 0, .int .i64 0, .int .i64 0, .slice none 0 0, .int .u64 0, .int .i64 0, .slice none 0 0, .int .u64 0] := em.seti 11 rfl zu
  refine ⟨em.cani 12 rfl rfl, Q00 fun ao0 a93 => ?_⟩
  have ab8 := v6.x_set (q := ay.heap.size) (i := 12) rfl (.inr i2) a93
  have em : Blk ao0 ay.heap.size 38 [.int .i64 c1, .int .i64 a8, .int .i64 ae, .int .u64 br, .int .i64 d2, .int .i64 d6, .int .i64 bv, .slice cf cl cg, .int .u64 e7, .int .i64 cn, .int .i64 dj, .int .u64 ee, .int .i64 f2, .int .i64 0, .int .i64 0, .slice none 0 0, .int .u64 0, .int .i64 0, .slice none 0 0, .int .u64 0] := em.seti 12 rfl a93
  refine ⟨em.cani 13 rfl rfl, Q00 fun ya a19 => ?_⟩
  have aa8 := ab8.x_set (q := ay.heap.size) (i := 13) rfl (.inr i2) a19
  have em : Blk ya ay.heap.size 38 [.int .i64 c1, .int .i64 a8, .int .i64 ae, .int .u64 br, .int .i64 d2, .int .i64 d6, .int .i64 bv, .slice cf cl cg, .int .u64 e7, .int .i64 cn, .int .i64 dj, .int .u64 ee, .int .i64 f2, .int .i64 fm, .int .i64 0, .slice none 0 0, .int .u64 0, .int .i64 0, .slice none 0 0, .int .u64 0] := em.seti 13 rfl a19
  refine ⟨em.cani 14 rfl rfl, Q00 fun ad8 ae2 => ?_⟩
  have qw := aa8.x_set (q := ay.heap.size) (i := 14) rfl (.inr i2) ae2
  have em : Blk ad8 ay.heap.size 38 [.int .i64 c1, .int .i64 a8, .int .i64 ae, .int .u64 br, .int .i64 d2, .int .i64 d6, .int .i64 bv, .slice cf cl cg, .int .u64 e7, .int .i64 cn, .int .i64 dj, .int .u64 ee, .int .i64 f2, .int .i64 fm, .int .i64 eu, .slice none 0 0, .int .u64 0, .int .i64 0, .slice none 0 0, .int .u64 0] := em.seti 14 rfl ae2
  refine ⟨em.cani 15 rfl rfl, Q00 fun ap9 al7 => ?_⟩
  have a77 := qw.x_set (q := ay.heap.size) (i := 15) rfl (.inr i2) al7
  have em : Blk ap9 ay.heap.size 38 [.int .i64 c1, .int .i64 a8, .int .i64 ae, .int .u64 br, .int .i64 d2, .int .i64 d6, .int .i64 bv, .slice cf cl cg, .int .u64 e7, .int .i64 cn, .int .i64 dj, .int .u64 ee, .int .i64 f2, .int .i64 fm, .int .i64 eu, .slice fd f5 f6, .int .u64 0, .int .i64 0, .slice none 0 0, .int .u64 0] := em.seti 15 rfl al7
  refine ⟨em.cani 16 rfl rfl, Q00 fun z8 zq => ?_⟩
  have ae1 := a77.x_set (q := ay.heap.size) (i := 16) rfl (.inr i2) zq
  have em : Blk z8 ay.heap.size 38 [.int .i64 c1, .int .i64 a8, .int .i64 ae, .int .u64 br, .int .i64 d2, .int .i64 d6, .int .i64 bv, .slice cf cl cg, .int .u64 e7, .int .i64 cn, .int .i64 dj, .int .u64 ee, .int .i64 f2, .int .i64 fm, .int .i64 eu, .slice fd f5 f6, .int .u64 gh, .int .i64 0, .slice none 0 0, .int .u64 0] := em.seti 16 rfl zq
  refine ⟨em.cani 17 rfl rfl, Q00 fun af8 vg => ?_⟩
  have a42 := ae1.x_set (q := ay.heap.size) (i := 17) rfl (.inr i2) vg
  have em : Blk af8 ay.heap.size 38 [.int .i64 c1, .int .i64 a8, .int .i64 ae, .int .u64 br, .int .i64 d2, .int .i64 d6, .int .i64 bv, .slice cf cl cg, .int .u64 e7, .int .i64 cn, .int .i64 dj, .int .u64 ee, .int .i64 f2, .int .i64 fm, .int .i64 eu, .slice fd f5 f6, .int .u64 gh, .int .i64 il, .slice none 0 0, .int .u64 0] := em.seti 17 rfl vg
  refine ⟨em.cani 18 rfl rfl, Q00 fun uf an4 => ?_⟩
  have x4 := a42.x_set (q := ay.heap.size) (i := 18) rfl (.inr i2) an4
  have em : Blk uf ay.heap.size 38 [.int .i64 c1, .int .i64 a8, .int .i64 ae, .int .u64 br, .int .i64 d2, .int .i64 d6, .int .i64 bv, .slice cf cl cg, .int .u64 e7, .int .i64 cn, .int .i64 dj, .int .u64 ee, .int .i64 f2, .int .i64 fm, .int .i64 eu, .slice fd f5 f6, .int .u64 gh, .int .i64 il, .slice le m5 l8, .int .u64 0] := em.seti 18 rfl an4
  refine ⟨em.cani 19 rfl rfl, Q00 fun lp a84 => ?_⟩
  have lv := x4.x_set (q := ay.heap.size) (i := 19) rfl (.inr i2) a84
  have em : Blk lp ay.heap.size 38 [.int .i64 c1, .int .i64 a8, .int .i64 ae, .int .u64 br, .int .i64 d2, .int .i64 d6, .int .i64 bv, .slice cf cl cg, .int .u64 e7, .int .i64 cn, .int .i64 dj, .int .u64 ee, .int .i64 f2, .int .i64 fm, .int .i64 eu, .slice fd f5 f6, .int .u64 gh, .int .i64 il, .slice le m5 l8, .int .u64 m1] := em.seti 19 rfl a84
  refine bif_of (fun p5 => ?_) (fun p5 => ?_)
  ·have h := h.1 (beq_t p5)
   have h := h lp lv
   exact h
  have h := h.2 (beq_f p5)
  unfold Q01.J3
  refine Q00 fun vc q0 => ?_
  have h := h vc lp.heap.size (lv.x_alloc q0) (Blk.of_new q0) (lv).size (Q0q q0)
  obtain ⟨s7, a96, a76, j2, hr, h⟩ := h
  refine ⟨s7, a96, a76, j2, hr, ?_⟩
  refine Q00 fun sa pa => ?_
  have h := h sa j2.heap.size ((Ext.refl no j2).x_alloc pa) (Blk.of_new pa) ((Ext.refl no j2)).size (Q0q pa)
  obtain ⟨ai4, t1, a51, a68, hr, h⟩ := h
  refine ⟨ai4, t1, a51, a68, hr, ?_⟩
  refine h.mono fun b36 az h => ?_
  obtain ⟨bz, a6, af, bs, d5, dd, bu, cb, c4, ck, ea, cq, dl, eb, f1, fo, ew, fe, f3, f4, gd, ik, mg, mo, lr, l5, mr, he, h⟩ := h
  refine ⟨bz, a6, af, bs, d5, dd, bu, cb, c4, ck, ea, cq, dl, eb, f1, fo, ew, fe, f3, f4, gd, ik, mg, mo, lr, l5, mr, he, ?_⟩
  refine Q00 fun b31 z2 => ?_
  have el := Blk.of_new z2
  have i3 := ((Ext.refl no az)).size
  have xd := (Ext.refl no az).x_alloc z2
  refine ⟨el.cani 0 rfl rfl, Q00 fun a62 ag9 => ?_⟩
  have vs := xd.x_set (q := az.heap.size) (i := 0) rfl (.inr i3) ag9
  have el : Blk a62 az.heap.size 38 [.int .i64 bz, .int .i64 0, .int .i64 0, .int .u64 0, .int .i64 0, .int .i64 0, .int .i64 0, .slice none 0 0, .int .u64 0, .int .i64 0, .int .i64 0, .int .u64 0, .int .i64 0, .int .i64 0, .int .i64 0, .slice none 0 0, .int .u64 0, .int .i64 0, .slice none 0 0, .int .u64 0] := el.seti 0 rfl ag9
  refine ⟨el.cani 1 rfl rfl, Q00 fun sc xi => ?_⟩
  have a99 := vs.x_set (q := az.heap.size) (i := 1) rfl (.inr i3) xi
  have el : Blk sc az.heap.size 38 [.int .i64 bz, .int .i64 a6, .int .i64 0, .int .u64 0, .int .i64 0, .int .i64 0, .int .i64 0, .slice none 0 0, .int .u64 0, .int .i64 0, .int .i64 0, .int .u64 0, .int .i64 0, .int .i64 0, .int .i64 0, .slice none 0 0, .int .u64 0, .int .i64 0, .slice none 0 0, .int .u64 0] := el.seti 1 rfl xi
  refine ⟨el.cani 2 rfl rfl, Q00 fun ug ap1 => ?_⟩
  have ab2 := a99.x_set (q := az.heap.size) (i := 2) rfl (.inr i3) ap1
  have el : Blk ug az.heap.size 38 [.int .i64 bz, .int .i64 a6, .int .i64 af, .int .u64 0, .int .i64 0, .int .i64 0, .int .i64 0, .slice none 0 0, .int .u64 0, .int .i64 0, .int .i64 0, .int .u64 0, .int .i64 0, .int .i64 0, .int .i64 0, .slice none 0 0, .int .u64 0, .int .i64 0, .slice none 0 0, .int .u64 0] := el.seti 2 rfl ap1
  refine ⟨el.cani 3 rfl rfl, Q00 fun z7 yn => ?_⟩
  have yf := ab2.x_set (q := az.heap.size) (i := 3) rfl (.inr i3) yn
  have el : Blk z7 az.heap.size 38 [.int .i64 bz, .int .i64 a6, .int .i64 af, .int .u64 bs, .int .i64 0, .int .i64 0, .int .i64 0, .slice none 0 0, .int .u64 0, .int .i64 0, .int .i64 0, .int .u64 0, .int .i64 0, .int .i64 0, .int .i64 0, .slice none 0 0, .int .u64 0, .int .i64 0, .slice none 0 0, .int .u64 0] := el.seti 3 rfl yn
  refine ⟨el.cani 4 rfl rfl, Q00 fun aj4 yx => ?_⟩
  have a14 := yf.x_set (q := az.heap.size) (i := 4) rfl (.inr i3) yx
  have el : Blk aj4 az.heap.size 38 [.int .i64 bz, .int .i64 a6, .int .i64 af, .int .u64 bs, .int .i64 d5, .int .i64 0, .int .i64 0, .slice none 0 0, .int .u64 0, .int .i64 0, .int .i64 0, .int .u64 0, .int .i64 0, .int .i64 0, .int .i64 0, .slice none 0 0, .int .u64 0, .int .i64 0, .slice none 0 0, .int .u64 0] := el.seti 4 rfl yx
  refine ⟨el.cani 5 rfl rfl, Q00 fun a80 ad0 => ?_⟩
  have t5 := a14.x_set (q := az.heap.size) (i := 5) rfl (.inr i3) ad0
  have el : Blk a80 az.heap.size 38 [.int .i64 bz, .int .i64 a6, .int .i64 af, .int .u64 bs, .int .i64 d5, .int .i64 dd, .int .i64 0, .slice none 0 0, .int .u64 0, .int .i64 0, .int .i64 0, .int .u64 0, .int .i64 0, .int .i64 0, .int .i64 0, .slice none 0 0, .int .u64 0, .int .i64 0, .slice none 0 0, .int .u64 0] := el.seti 5 rfl ad0
  refine ⟨el.cani 6 rfl rfl, Q00 fun aa1 za => ?_⟩
  have sb := t5.x_set (q := az.heap.size) (i := 6) rfl (.inr i3) za
  have el : Blk aa1 az.heap.size 38 [.int .i64 bz, .int .i64 a6, .int .i64 af, .int .u64 bs, .int .i64 d5, .int .i64 dd, .int .i64 bu, .slice none 0 0, .int .u64 0, .int .i64 0, .int .i64 0, .int .u64 0, .int .i64 0, .int .i64 0, .int .i64 0, .slice none 0 0, .int .u64 0, .int .i64 0, .slice none 0 0, .int .u64 0] := el.seti 6 rfl za
  refine ⟨el.cani 7 rfl rfl, Q00 fun ac0 xp => ?_⟩
  have ac9 := sb.x_set (q := az.heap.size) (i := 7) rfl (.inr i3) xp
  have el : Blk ac0 az.heap.size 38 [.int .i64 bz, .int .i64 a6, .int .i64 af, .int .u64 bs, .int .i64 d5, .int .i64 dd, .int .i64 bu, .slice cb c4 ck, .int .u64 0, .int .i64 0, .int .i64 0, .int .u64 0, .int .i64 0, .int .i64 0, .int .i64 0, .slice none 0 0, .int .u64 0, .int .i64 0, .slice none 0 0, .int .u64 0] := el.seti 7 rfl xp
  refine ⟨el.cani 8 rfl rfl, Q00 fun z4 aa2 => ?_⟩
  have tv := ac9.x_set (q := az.heap.size) (i := 8) rfl (.inr i3) aa2
  have el : Blk z4 az.heap.size 38 [.int .i64 bz, .int .i64 a6, .int .i64 af, .int .u64 bs, .int .i64 d5, .int .i64 dd, .int .i64 bu, .slice cb c4 ck, .int .u64 ea, .int .i64 0, .int .i64 0, .int .u64 0, .int .i64 0, .int .i64 0, .int .i64 0, .slice none 0 0, .int .u64 0, .int .i64 0, .slice none 0 0, .int .u64 0] := el.seti 8 rfl aa2
  refine ⟨el.cani 9 rfl rfl, Q00 fun tt a41 => ?_⟩
  have yu := tv.x_set (q := az.heap.size) (i := 9) rfl (.inr i3) a41
  have el : Blk tt az.heap.size 38 [.int .i64 bz, .int .i64 a6, .int .i64 af, .int .u64 bs, .int .i64 d5, .int .i64 dd, .int .i64 bu, .slice cb c4 ck, .int .u64 ea, .int .i64 cq, .int .i64 0, .int .u64 0, .int .i64 0, .int .i64 0, .int .i64 0, .slice none 0 0, .int .u64 0, .int .i64 0, .slice none 0 0, .int .u64 0] := el.seti 9 rfl a41
  refine ⟨el.cani 10 rfl rfl, Q00 fun sy sj => ?_⟩
  have aj8 := yu.x_set (q := az.heap.size) (i := 10) rfl (.inr i3) sj
  have el : Blk sy az.heap.size 38 [.int .i64 bz, .int .i64 a6, .int .i64 af, .int .u64 bs, .int .i64 d5, .int .i64 dd, .int .i64 bu, .slice cb c4 ck, .int .u64 ea, .int .i64 cq, .int .i64 dl, .int .u64 0, .int .i64 0, .int .i64 0, .int .i64 0, .slice none 0 0, .int .u64 0, .int .i64 0, .slice none 0 0, .int .u64 0] := el.seti 10 rfl sj
  refine ⟨el.cani 11 rfl rfl, Q00 fun a66 tp => ?_⟩
  have tm := aj8.x_set (q := az.heap.size) (i := 11) rfl (.inr i3) tp
  have el : Blk a66 az.heap.size 38 [.int .i64 bz, .int .i64 a6, .int .i64 af, .int .u64 bs, .int .i64 d5, .int .i64 dd, .int .i64 bu, .slice cb c4 ck, .int .u64 ea, .int .i64 cq, .int .i64 dl, .int .u64 eb, .int .i64 0, .int .i64 0, .int .i64 0, .slice none 0 0, .int .u64 0, .int .i64 0, .slice none 0 0, .int .u64 0] := el.seti 11 rfl tp
  refine ⟨el.cani 12 rfl rfl, Q00 fun am1 ak6 => ?_⟩
  have sg := tm.x_set (q := az.heap.size) (i := 12) rfl (.inr i3) ak6
  have el : Blk am1 az.heap.size 38 [.int .i64 bz, .int .i64 a6, .int .i64 af, .int .u64 bs, .int .i64 d5, .int .i64 dd, .int .i64 bu, .slice cb c4 ck, .int .u64 ea, .int .i64 cq, .int .i64 dl, .int .u64 eb, .int .i64 f1, .int .i64 0, .int .i64 0, .slice none 0 0, .int .u64 0, .int .i64 0, .slice none 0 0, .int .u64 0] := el.seti 12 rfl ak6
  refine ⟨el.cani 13 rfl rfl, Q00 fun vp al0 => ?_⟩
  have ad6 := sg.x_set (q := az.heap.size) (i := 13) rfl (.inr i3) al0
  have el : Blk vp az.heap.size 38 [.int .i64 bz, .int .i64 a6, .int .i64 af, .int .u64 bs, .int .i64 d5, .int .i64 dd, .int .i64 bu, .slice cb c4 ck, .int .u64 ea, .int .i64 cq, .int .i64 dl, .int .u64 eb, .int .i64 f1, .int .i64 fo, .int .i64 0, .slice none 0 0, .int .u64 0, .int .i64 0, .slice none 0 0, .int .u64 0] := el.seti 13 rfl al0
  refine ⟨el.cani 14 rfl rfl, Q00 fun vn xe => ?_⟩
  have ss := ad6.x_set (q := az.heap.size) (i := 14) rfl (.inr i3) xe
  have el : Blk vn az.heap.size 38 [.int .i64 bz, .int .i64 a6, .int .i64 af, .int .u64 bs, .int .i64 d5, .int .i64 dd, .int .i64 bu, .slice cb c4 ck, .int .u64 ea, .int .i64 cq, .int .i64 dl, .int .u64 eb, .int .i64 f1, .int .i64 fo, .int .i64 ew, .slice none 0 0, .int .u64 0, .int .i64 0, .slice none 0 0, .int .u64 0] := el.seti 14 rfl xe
  refine ⟨el.cani 15 rfl rfl, Q00 fun y7 yp => ?_⟩
  have x3 := ss.x_set (q := az.heap.size) (i := 15) rfl (.inr i3) yp
  have el : Blk y7 az.heap.size 38 [.int .i64 bz, .int .i64 a6, .int .i64 af, .int .u64 bs, .int .i64 d5, .int .i64 dd, .int .i64 bu, .slice cb c4 ck, .int .u64 ea, .int .i64 cq, .int .i64 dl, .int .u64 eb, .int .i64 f1, .int .i64 fo, .int .i64 ew, .slice fe f3 f4, .int .u64 0, .int .i64 0, .slice none 0 0, .int .u64 0] := el.seti 15 rfl yp
  refine ⟨el.cani 16 rfl rfl, Q00 fun ar3 am3 => ?_⟩
  have s9 := x3.x_set (q := az.heap.size) (i := 16) rfl (.inr i3) am3
  have el : Blk ar3 az.heap.size 38 [.int .i64 bz, .int .i64 a6, .int .i64 af, .int .u64 bs, .int .i64 d5, .int .i64 dd, .int .i64 bu, .slice cb c4 ck, .int .u64 ea, .int .i64 cq, .int .i64 dl, .int .u64 eb, .int .i64 f1, .int .i64 fo, .int .i64 ew, .slice fe f3 f4, .int .u64 gd, .int .i64 0, .slice none 0 0, .int .u64 0] := el.seti 16 rfl am3
  refine ⟨el.cani 17 rfl rfl, Q00 fun ab6 a44 => ?_⟩
  have xr := s9.x_set (q := az.heap.size) (i := 17) rfl (.inr i3) a44
  have el : Blk ab6 az.heap.size 38 [.int .i64 bz, .int .i64 a6, .int .i64 af, .int .u64 bs, .int .i64 d5, .int .i64 dd, .int .i64 bu, .slice cb c4 ck, .int .u64 ea, .int .i64 cq, .int .i64 dl, .int .u64 eb, .int .i64 f1, .int .i64 fo, .int .i64 ew, .slice fe f3 f4, .int .u64 gd, .int .i64 ik, .slice none 0 0, .int .u64 0] := el.seti 17 rfl a44
  refine ⟨el.cani 18 rfl rfl, Q00 fun st aq6 => ?_⟩
  have al2 := xr.x_set (q := az.heap.size) (i := 18) rfl (.inr i3) aq6
  have el : Blk st az.heap.size 38 [.int .i64 bz, .int .i64 a6, .int .i64 af, .int .u64 bs, .int .i64 d5, .int .i64 dd, .int .i64 bu, .slice cb c4 ck, .int .u64 ea, .int .i64 cq, .int .i64 dl, .int .u64 eb, .int .i64 f1, .int .i64 fo, .int .i64 ew, .slice fe f3 f4, .int .u64 gd, .int .i64 ik, .slice mg mo lr, .int .u64 0] := el.seti 18 rfl aq6
  refine ⟨el.cani 19 rfl rfl, Q00 fun lb ac8 => ?_⟩
  have om := al2.x_set (q := az.heap.size) (i := 19) rfl (.inr i3) ac8
  have el : Blk lb az.heap.size 38 [.int .i64 bz, .int .i64 a6, .int .i64 af, .int .u64 bs, .int .i64 d5, .int .i64 dd, .int .i64 bu, .slice cb c4 ck, .int .u64 ea, .int .i64 cq, .int .i64 dl, .int .u64 eb, .int .i64 f1, .int .i64 fo, .int .i64 ew, .slice fe f3 f4, .int .u64 gd, .int .i64 ik, .slice mg mo lr, .int .u64 l5] := el.seti 19 rfl ac8
  refine bif_of (fun pm => ?_) (fun pm => ?_)
  ·have h := h.1 (beq_t pm)
   have h := h lb om
   exact h
  have h := h.2 (beq_f pm)
  unfold Q01.J2
  have h := h lb om
  refine h.mono fun b33 av h => ?_
  obtain ⟨bo, a1, a9, ao, c6, cw, aj, b8, bl, bg, d9, b4, ch, dh, eh, eq, dp, e5, e4, e9, fp, g7, i7, gz, i8, gt, o7, he, h⟩ := h
  refine ⟨bo, a1, a9, ao, c6, cw, aj, b8, bl, bg, d9, b4, ch, dh, eh, eq, dp, e5, e4, e9, fp, g7, i7, gz, i8, gt, o7, he, ?_⟩
  refine Q00 fun b23 zp => ?_
  have bd := Blk.of_new zp
  have gw := ((Ext.refl no av)).size
  have xm := (Ext.refl no av).x_alloc zp
  refine ⟨bd.cani 0 rfl rfl, Q00 fun a63 tc => ?_⟩
  have a89 := xm.x_set (q := av.heap.size) (i := 0) rfl (.inr gw) tc
  have bd : Blk a63 av.heap.size 38 [.int .i64 bo, .int .i64 0, .int .i64 0, .int .u64 0, .int .i64 0, .int .i64 0, .int .i64 0, .slice none 0 0, .int .u64 0, .int .i64 0, .int .i64 0, .int .u64 0, .int .i64 0, .int .i64 0, .int .i64 0, .slice none 0 0, .int .u64 0, .int .i64 0, .slice none 0 0, .int .u64 0] := bd.seti 0 rfl tc
  refine ⟨bd.cani 1 rfl rfl, Q00 fun a82 xz => ?_⟩
  have an3 := a89.x_set (q := av.heap.size) (i := 1) rfl (.inr gw) xz
  have bd : Blk a82 av.heap.size 38 [.int .i64 bo, .int .i64 a1, .int .i64 0, .int .u64 0, .int .i64 0, .int .i64 0, .int .i64 0, .slice none 0 0, .int .u64 0, .int .i64 0, .int .i64 0, .int .u64 0, .int .i64 0, .int .i64 0, .int .i64 0, .slice none 0 0, .int .u64 0, .int .i64 0, .slice none 0 0, .int .u64 0] := bd.seti 1 rfl xz
  refine ⟨bd.cani 2 rfl rfl, Q00 fun xc uo => ?_⟩
  have vh := an3.x_set (q := av.heap.size) (i := 2) rfl (.inr gw) uo
  have bd : Blk xc av.heap.size 38 [.int .i64 bo, .int .i64 a1, .int .i64 a9, .int .u64 0, .int .i64 0, .int .i64 0, .int .i64 0, .slice none 0 0, .int .u64 0, .int .i64 0, .int .i64 0, .int .u64 0, .int .i64 0, .int .i64 0, .int .i64 0, .slice none 0 0, .int .u64 0, .int .i64 0, .slice none 0 0, .int .u64 0] := bd.seti 2 rfl uo
  refine ⟨bd.cani 3 rfl rfl, Q00 fun zo z9 => ?_⟩
  have ad5 := vh.x_set (q := av.heap.size) (i := 3) rfl (.inr gw) z9
  have bd : Blk zo av.heap.size 38 [.int .i64 bo, .int .i64 a1, .int .i64 a9, .int .u64 ao, .int .i64 0, .int .i64 0, .int .i64 0, .slice none 0 0, .int .u64 0, .int .i64 0, .int .i64 0, .int .u64 0, .int .i64 0, .int .i64 0, .int .i64 0, .slice none 0 0, .int .u64 0, .int .i64 0, .slice none 0 0, .int .u64 0] := bd.seti 3 rfl z9
  refine ⟨bd.cani 4 rfl rfl, Q00 fun xs ao5 => ?_⟩
  have ad9 := ad5.x_set (q := av.heap.size) (i := 4) rfl (.inr gw) ao5
  have bd : Blk xs av.heap.size 38 [.int .i64 bo, .int .i64 a1, .int .i64 a9, .int .u64 ao, .int .i64 c6, .int .i64 0, .int .i64 0, .slice none 0 0, .int .u64 0, .int .i64 0, .int .i64 0, .int .u64 0, .int .i64 0, .int .i64 0, .int .i64 0, .slice none 0 0, .int .u64 0, .int .i64 0, .slice none 0 0, .int .u64 0] := bd.seti 4 rfl ao5
  refine ⟨bd.cani 5 rfl rfl, Q00 fun zc an5 => ?_⟩
  have aa6 := ad9.x_set (q := av.heap.size) (i := 5) rfl (.inr gw) an5
  have bd : Blk zc av.heap.size 38 [.int .i64 bo, .int .i64 a1, .int .i64 a9, .int .u64 ao, .int .i64 c6, .int .i64 cw, .int .i64 0, .slice none 0 0, .int .u64 0, .int .i64 0, .int .i64 0, .int .u64 0, .int .i64 0, .int .i64 0, .int .i64 0, .slice none 0 0, .int .u64 0, .int .i64 0, .slice none 0 0, .int .u64 0] := bd.seti 5 rfl an5
  refine ⟨bd.cani 6 rfl rfl, Q00 fun ag4 am2 => ?_⟩
  have a98 := aa6.x_set (q := av.heap.size) (i := 6) rfl (.inr gw) am2
  have bd : Blk ag4 av.heap.size 38 [.int .i64 bo, .int .i64 a1, .int .i64 a9, .int .u64 ao, .int .i64 c6, .int .i64 cw, .int .i64 aj, .slice none 0 0, .int .u64 0, .int .i64 0, .int .i64 0, .int .u64 0, .int .i64 0, .int .i64 0, .int .i64 0, .slice none 0 0, .int .u64 0, .int .i64 0, .slice none 0 0, .int .u64 0] := bd.seti 6 rfl am2
  refine ⟨bd.cani 7 rfl rfl, Q00 fun ao9 sp => ?_⟩
  have zl := a98.x_set (q := av.heap.size) (i := 7) rfl (.inr gw) sp
  have bd : Blk ao9 av.heap.size 38 [.int .i64 bo, .int .i64 a1, .int .i64 a9, .int .u64 ao, .int .i64 c6, .int .i64 cw, .int .i64 aj, .slice b8 bl bg, .int .u64 0, .int .i64 0, .int .i64 0, .int .u64 0, .int .i64 0, .int .i64 0, .int .i64 0, .slice none 0 0, .int .u64 0, .int .i64 0, .slice none 0 0, .int .u64 0] := bd.seti 7 rfl sp
  refine ⟨bd.cani 8 rfl rfl, Q00 fun am9 ak4 => ?_⟩
  have uc := zl.x_set (q := av.heap.size) (i := 8) rfl (.inr gw) ak4
  have bd : Blk am9 av.heap.size 38 [.int .i64 bo, .int .i64 a1, .int .i64 a9, .int .u64 ao, .int .i64 c6, .int .i64 cw, .int .i64 aj, .slice b8 bl bg, .int .u64 d9, .int .i64 0, .int .i64 0, .int .u64 0, .int .i64 0, .int .i64 0, .int .i64 0, .slice none 0 0, .int .u64 0, .int .i64 0, .slice none 0 0, .int .u64 0] := bd.seti 8 rfl ak4
  refine ⟨bd.cani 9 rfl rfl, Q00 fun an7 sm => ?_⟩
  have yt := uc.x_set (q := av.heap.size) (i := 9) rfl (.inr gw) sm
  have bd : Blk an7 av.heap.size 38 [.int .i64 bo, .int .i64 a1, .int .i64 a9, .int .u64 ao, .int .i64 c6, .int .i64 cw, .int .i64 aj, .slice b8 bl bg, .int .u64 d9, .int .i64 b4, .int .i64 0, .int .u64 0, .int .i64 0, .int .i64 0, .int .i64 0, .slice none 0 0, .int .u64 0, .int .i64 0, .slice none 0 0, .int .u64 0] := bd.seti 9 rfl sm
  refine ⟨bd.cani 10 rfl rfl, Q00 fun sn ab5 => ?_⟩
  have uq := yt.x_set (q := av.heap.size) (i := 10) rfl (.inr gw) ab5
  have bd : Blk sn av.heap.size 38 [.int .i64 bo, .int .i64 a1, .int .i64 a9, .int .u64 ao, .int .i64 c6, .int .i64 cw, .int .i64 aj, .slice b8 bl bg, .int .u64 d9, .int .i64 b4, .int .i64 ch, .int .u64 0, .int .i64 0, .int .i64 0, .int .i64 0, .slice none 0 0, .int .u64 0, .int .i64 0, .slice none 0 0, .int .u64 0] := bd.seti 10 rfl ab5
  refine ⟨bd.cani 11 rfl rfl, Q00 fun th ah3 => ?_⟩
  have a65 := uq.x_set (q := av.heap.size) (i := 11) rfl (.inr gw) ah3
  have bd : Blk th av.heap.size 38 [.int .i64 bo, .int .i64 a1, .int .i64 a9, .int .u64 ao, .int .i64 c6, .int .i64 cw, .int .i64 aj, .slice b8 bl bg, .int .u64 d9, .int .i64 b4, .int .i64 ch, .int .u64 dh, .int .i64 0, .int .i64 0, .int .i64 0, .slice none 0 0, .int .u64 0, .int .i64 0, .slice none 0 0, .int .u64 0] := bd.seti 11 rfl ah3
  refine ⟨bd.cani 12 rfl rfl, Q00 fun zb aq0 => ?_⟩
  have a57 := a65.x_set (q := av.heap.size) (i := 12) rfl (.inr gw) aq0
  have bd : Blk zb av.heap.size 38 [.int .i64 bo, .int .i64 a1, .int .i64 a9, .int .u64 ao, .int .i64 c6, .int .i64 cw, .int .i64 aj, .slice b8 bl bg, .int .u64 d9, .int .i64 b4, .int .i64 ch, .int .u64 dh, .int .i64 eh, .int .i64 0, .int .i64 0, .slice none 0 0, .int .u64 0, .int .i64 0, .slice none 0 0, .int .u64 0] := bd.seti 12 rfl aq0
  refine ⟨bd.cani 13 rfl rfl, Q00 fun vl ae0 => ?_⟩
  have a29 := a57.x_set (q := av.heap.size) (i := 13) rfl (.inr gw) ae0
  have bd : Blk vl av.heap.size 38 [.int .i64 bo, .int .i64 a1, .int .i64 a9, .int .u64 ao, .int .i64 c6, .int .i64 cw, .int .i64 aj, .slice b8 bl bg, .int .u64 d9, .int .i64 b4, .int .i64 ch, .int .u64 dh, .int .i64 eh, .int .i64 eq, .int .i64 0, .slice none 0 0, .int .u64 0, .int .i64 0, .slice none 0 0, .int .u64 0] := bd.seti 13 rfl ae0
  refine ⟨bd.cani 14 rfl rfl, Q00 fun z3 ae7 => ?_⟩
  have ac6 := a29.x_set (q := av.heap.size) (i := 14) rfl (.inr gw) ae7
  have bd : Blk z3 av.heap.size 38 [.int .i64 bo, .int .i64 a1, .int .i64 a9, .int .u64 ao, .int .i64 c6, .int .i64 cw, .int .i64 aj, .slice b8 bl bg, .int .u64 d9, .int .i64 b4, .int .i64 ch, .int .u64 dh, .int .i64 eh, .int .i64 eq, .int .i64 dp, .slice none 0 0, .int .u64 0, .int .i64 0, .slice none 0 0, .int .u64 0] := bd.seti 14 rfl ae7
  refine ⟨bd.cani 15 rfl rfl, Q00 fun ai6 vk => ?_⟩
  have a25 := ac6.x_set (q := av.heap.size) (i := 15) rfl (.inr gw) vk
  have bd : Blk ai6 av.heap.size 38 [.int .i64 bo, .int .i64 a1, .int .i64 a9, .int .u64 ao, .int .i64 c6, .int .i64 cw, .int .i64 aj, .slice b8 bl bg, .int .u64 d9, .int .i64 b4, .int .i64 ch, .int .u64 dh, .int .i64 eh, .int .i64 eq, .int .i64 dp, .slice e5 e4 e9, .int .u64 0, .int .i64 0, .slice none 0 0, .int .u64 0] := bd.seti 15 rfl vk
  refine ⟨bd.cani 16 rfl rfl, Q00 fun tf ae3 => ?_⟩
  have ak0 := a25.x_set (q := av.heap.size) (i := 16) rfl (.inr gw) ae3
  have bd : Blk tf av.heap.size 38 [.int .i64 bo, .int .i64 a1, .int .i64 a9, .int .u64 ao, .int .i64 c6, .int .i64 cw, .int .i64 aj, .slice b8 bl bg, .int .u64 d9, .int .i64 b4, .int .i64 ch, .int .u64 dh, .int .i64 eh, .int .i64 eq, .int .i64 dp, .slice e5 e4 e9, .int .u64 fp, .int .i64 0, .slice none 0 0, .int .u64 0] := bd.seti 16 rfl ae3
  refine ⟨bd.cani 17 rfl rfl, Q00 fun al8 ae9 => ?_⟩
  have aj1 := ak0.x_set (q := av.heap.size) (i := 17) rfl (.inr gw) ae9
  have bd : Blk al8 av.heap.size 38 [.int .i64 bo, .int .i64 a1, .int .i64 a9, .int .u64 ao, .int .i64 c6, .int .i64 cw, .int .i64 aj, .slice b8 bl bg, .int .u64 d9, .int .i64 b4, .int .i64 ch, .int .u64 dh, .int .i64 eh, .int .i64 eq, .int .i64 dp, .slice e5 e4 e9, .int .u64 fp, .int .i64 g7, .slice none 0 0, .int .u64 0] := bd.seti 17 rfl ae9
  refine ⟨bd.cani 18 rfl rfl, Q00 fun zj a00 => ?_⟩
  have u5 := aj1.x_set (q := av.heap.size) (i := 18) rfl (.inr gw) a00
  have bd : Blk zj av.heap.size 38 [.int .i64 bo, .int .i64 a1, .int .i64 a9, .int .u64 ao, .int .i64 c6, .int .i64 cw, .int .i64 aj, .slice b8 bl bg, .int .u64 d9, .int .i64 b4, .int .i64 ch, .int .u64 dh, .int .i64 eh, .int .i64 eq, .int .i64 dp, .slice e5 e4 e9, .int .u64 fp, .int .i64 g7, .slice i7 gz i8, .int .u64 0] := bd.seti 18 rfl a00
  refine ⟨bd.cani 19 rfl rfl, Q00 fun m4 ux => ?_⟩
  have op := u5.x_set (q := av.heap.size) (i := 19) rfl (.inr gw) ux
  have bd : Blk m4 av.heap.size 38 [.int .i64 bo, .int .i64 a1, .int .i64 a9, .int .u64 ao, .int .i64 c6, .int .i64 cw, .int .i64 aj, .slice b8 bl bg, .int .u64 d9, .int .i64 b4, .int .i64 ch, .int .u64 dh, .int .i64 eh, .int .i64 eq, .int .i64 dp, .slice e5 e4 e9, .int .u64 fp, .int .i64 g7, .slice i7 gz i8, .int .u64 gt] := bd.seti 19 rfl ux
  refine bif_of (fun p7 => ?_) (fun p7 => ?_)
  ·have h := h.1 (bne_t p7)
   refine ⟨bo, a1, a9, ao, c6, cw, aj, b8, bl, bg, d9, b4, ch, dh, eh, eq, dp, e5, e4, e9, fp, g7, i7, gz, i8, gt, ⟨bd.celli 0 rfl rfl, bd.celli 1 rfl rfl, bd.celli 2 rfl rfl, bd.celli 3 rfl rfl, bd.celli 4 rfl rfl, bd.celli 5 rfl rfl, bd.celli 6 rfl rfl, bd.celli 7 rfl rfl, bd.celli 8 rfl rfl, bd.celli 9 rfl rfl, bd.celli 10 rfl rfl, bd.celli 11 rfl rfl, bd.celli 12 rfl rfl, bd.celli 13 rfl rfl, bd.celli 14 rfl rfl, bd.celli 15 rfl rfl, bd.celli 16 rfl rfl, bd.celli 17 rfl rfl, bd.celli 18 rfl rfl, bd.celli 19 rfl rfl, trivial⟩, ?_⟩
   have h := h m4 op
   refine h.mono fun b04 b06 h => ?_
   obtain ⟨nt, iy, ke, m7, o8, o0, ki, ju, jk, jn, ni, ir, jy, ls, n5, ng, ja, jb, jw, jj, n0, p4, aa3, yd, af5, pr, he, h⟩ := h
   refine ⟨nt, iy, ke, m7, o8, o0, ki, ju, jk, jn, ni, ir, jy, ls, n5, ng, ja, jb, jw, jj, n0, p4, aa3, yd, af5, pr, he, ?_⟩
   refine h.mono fun b20 b02 h => ?_
   obtain ⟨mx, he, h⟩ := h
   refine ⟨mx, he, ?_⟩
   refine bif_fo (fun qd => ?_) (fun qd => ?_)
   ·have h := h.2 qd
    exact h
   have h := h.1 qd
   refine h.mono fun ay2 b11 h => ?_
   obtain ⟨lk, he, h⟩ := h
   refine ⟨lk, he, ?_⟩
   exact h
  have h := h.2 (bne_f p7)
  unfold Q01.J1
  refine ⟨bo, a1, a9, ao, c6, cw, aj, b8, bl, bg, d9, b4, ch, dh, eh, eq, dp, e5, e4, e9, fp, g7, i7, gz, i8, gt, ⟨bd.celli 0 rfl rfl, bd.celli 1 rfl rfl, bd.celli 2 rfl rfl, bd.celli 3 rfl rfl, bd.celli 4 rfl rfl, bd.celli 5 rfl rfl, bd.celli 6 rfl rfl, bd.celli 7 rfl rfl, bd.celli 8 rfl rfl, bd.celli 9 rfl rfl, bd.celli 10 rfl rfl, bd.celli 11 rfl rfl, bd.celli 12 rfl rfl, bd.celli 13 rfl rfl, bd.celli 14 rfl rfl, bd.celli 15 rfl rfl, bd.celli 16 rfl rfl, bd.celli 17 rfl rfl, bd.celli 18 rfl rfl, bd.celli 19 rfl rfl, trivial⟩, ?_⟩
  have h := h m4 (av.heap.size) op (Priv.cons gw bd.lt Priv.nil)
  refine h.mono fun b17 aw6 h => ?_
  obtain ⟨k8, k2, js, lj, he, hk, h⟩ := h
  refine ⟨k8, k2, js, lj, he, ?_⟩
  have bd := hk.blk bd (by simp)
  refine bif_fo (fun p0 => ?_) (fun p0 => ?_)
  ·have h := h.2 (beq_f p0)
   exact h
  have h := h.1 (beq_t p0)
  refine h.mono fun ay8 ay9 h => ?_
  obtain ⟨mt, he, hk, h⟩ := h
  refine ⟨mt, he, ?_⟩
  have bd := hk.blk bd (by simp)
  refine bif_fo (fun pg => ?_) (fun pg => ?_)
  ·have h := h.2 pg
   exact h
  have h := h.1 pg
  refine ⟨bo, a1, a9, ao, c6, cw, aj, b8, bl, bg, d9, b4, ch, dh, eh, eq, dp, e5, e4, e9, fp, g7, i7, gz, i8, gt, ⟨bd.celli 0 rfl rfl, bd.celli 1 rfl rfl, bd.celli 2 rfl rfl, bd.celli 3 rfl rfl, bd.celli 4 rfl rfl, bd.celli 5 rfl rfl, bd.celli 6 rfl rfl, bd.celli 7 rfl rfl, bd.celli 8 rfl rfl, bd.celli 9 rfl rfl, bd.celli 10 rfl rfl, bd.celli 11 rfl rfl, bd.celli 12 rfl rfl, bd.celli 13 rfl rfl, bd.celli 14 rfl rfl, bd.celli 15 rfl rfl, bd.celli 16 rfl rfl, bd.celli 17 rfl rfl, bd.celli 18 rfl rfl, bd.celli 19 rfl rfl, trivial⟩, ?_⟩
  refine h.mono fun b32 ay3 h => ?_
  obtain ⟨lm, he, h⟩ := h
  refine ⟨lm, he, ?_⟩
  refine bif_fo (fun q2 => ?_) (fun q2 => ?_)
  ·have h := h.2 q2
   exact h
  have h := h.1 q2
  refine h.mono fun b00 b10 h => ?_
  obtain ⟨ln, he, h⟩ := h
  refine ⟨ln, he, ?_⟩
  exact h

theorem Q01.go (al a4 ab af ak ah a7 : Int) (aa : Option Addr) (a9 ac : Nat) (aj a0 a1 a8 ae ag a2 : Int) (a3 : Option Addr) (a6 a5 : Nat) (ad ai : Int) (ao : Option Addr) (ap aq : Nat) (am : Int) (ar : Option Addr) (au av : Nat) (an : Int) {R : RW} {w : World} (h : Q01.N al a4 ab af ak ah a7 aa a9 ac aj a0 a1 a8 ae ag a2 a3 a6 a5 ad ai ao ap aq am ar au av an R w) : Calls Try.prog 3 #[.agg #[.int .i64 al, .int .i64 a4, .int .i64 ab, .int .u64 af, .int .i64 ak, .int .i64 ah, .int .i64 a7, .slice aa a9 ac, .int .u64 aj, .int .i64 a0, .int .i64 a1, .int .u64 a8, .int .i64 ae, .int .i64 ag, .int .i64 a2, .slice a3 a6 a5, .int .u64 ad, .int .i64 ai, .slice ao ap aq, .int .u64 am], .slice ar au av, .int .i64 an] w fun e w' => ∃ v, e = .returned v ∧ R v w' := Q01.ok al a4 ab af ak ah a7 aa a9 ac aj a0 a1 a8 ae ag a2 a3 a6 a5 ad ai ao ap aq am ar au av an (Q01.up al a4 ab af ak ah a7 aa a9 ac aj a0 a1 a8 ae ag a2 a3 a6 a5 ad ai ao ap aq am ar au av an h)
theorem Q01.run (al a4 ab af ak ah a7 : Int) (aa : Option Addr) (a9 ac : Nat) (aj a0 a1 a8 ae ag a2 : Int) (a3 : Option Addr) (a6 a5 : Nat) (ad ai : Int) (ao : Option Addr) (ap aq : Nat) (am : Int) (ar : Option Addr) (au av : Nat) (an : Int) {V : Value} {Q : World → Prop} {w : World} (h : Q01.N al a4 ab af ak ah a7 aa a9 ac aj a0 a1 a8 ae ag a2 a3 a6 a5 ad ai ao ap aq am ar au av an (fun v w' => v = V ∧ Q w') w) : Calls Try.prog 3 #[.agg #[.int .i64 al, .int .i64 a4, .int .i64 ab, .int .u64 af, .int .i64 ak, .int .i64 ah, .int .i64 a7, .slice aa a9 ac, .int .u64 aj, .int .i64 a0, .int .i64 a1, .int .u64 a8, .int .i64 ae, .int .i64 ag, .int .i64 a2, .slice a3 a6 a5, .int .u64 ad, .int .i64 ai, .slice ao ap aq, .int .u64 am], .slice ar au av, .int .i64 an] w (Ret V Q) := (Q01.go al a4 ab af ak ah a7 aa a9 ac aj a0 a1 a8 ae ag a2 a3 a6 a5 ad ai ao ap aq am ar au av an h).mono fun e w' ⟨v, he, hv, hq⟩ => ⟨by rw [he, hv], hq⟩

set_option maxRecDepth 20000
set_option maxHeartbeats 8000000
open W (OwnB)
theorem Q1Q {x : Fr} (h : frOK x = true) : x.v.length ≤ 8 := by
  rcases frOK_kd h with k | k | k | k
  · rw [(frOK_1 h k).2.2.2.1]; decide
  · exact Q1o (frOK_2 h k).2.2.2.2.1
  · exact Q1o (frOK_3 h k).2.2.2.2
  · rw [(frOK_4 h k).2.2.2.1]; decide
theorem Q2p (W : World) {x : FP} (hx : x.inn W) {ba : Option Addr} {bc : Nat} {b : List UInt8} (hb : RowAt W ba (bytesV b)) (hbc : b.length ≤ bc) (cut : Int) :
    Calls Try.prog 3 #[x.V, .slice ba b.length bc, .int .i64 cut] W (Ret (.bool true) fun w' => Ext no W w') := by
  refine Q01.run x.r.kd x.r.e.w x.r.e.i x.r.e.pv x.r.e.t x.r.e.tw x.r.e.ep x.ea x.r.e.body.length x.ec x.r.e.sg x.r.f.w x.r.f.i x.r.f.pv x.r.f.t x.r.f.tw x.r.f.ep x.fa x.r.f.body.length x.fc x.r.f.sg x.r.who x.va x.r.v.length x.vc x.r.sg ba b.length bc cut ?_
  unfold Q01.N
  have hal : ∀ w1, Ext no W w1 → Calls Try.prog 8 #[] w1 fun ee w2 => ∃ b : Bool, ee = .returned (.bool b) ∧ Value.bool b = Value.bool true ∧ Ext no W w2 := fun w1 X =>
    (Q2X w1).mono fun v w2 ⟨hx, X2⟩ => ⟨_, hx, rfl, X.trans X2⟩
  intro w23 p24 X23 hp
  refine (Q33 (w := w23) x).mono fun u w27 ⟨he, X27⟩ => ⟨_, he, X27.kept, fun _ => hal _ (X23.trans X27), fun hlx => ⟨fun _ => hal _ (X23.trans X27), fun hbl => ?_⟩⟩
  have Y27 := X23.trans X27
  obtain ⟨lx1, lx2, lx3⟩ := light_v hlx
  refine (Q3W (w := w27) x).mono fun u w57 ⟨he, X57⟩ => ⟨_, _, _, _, _, _, _, _, _, _, _, _, _, _, _, _, _, _, _, _, _, _, _, _, _, _, he, X57.kept, ?_⟩
  have Y57 := Y27.trans X57
  refine (Q0S (hx.at_.no Y57) hx.fit (by omega)).mono fun u w61 ⟨a1, c1, he, hO1, X61⟩ => ?_
  have Y61 := Y57.trans X61
  by_cases h1 : (frK x.r).2 = 0
  · obtain ⟨k1, k2, k3⟩ := frK_ok h1
    rw [k3] at he hO1
    have he : u = .returned (.tuple #[.slice a1 (frL x.r).length c1, .int .i64 0]) := he
    have hO1 : OwnB w57.heap.size w61 a1 c1 (frL x.r) := hO1
    refine ⟨a1, _, c1, _, he, X61.kept, fun _ => ?_, fun h => absurd rfl h⟩
    have hrd := Q1Y k1 hx.fit k2
    refine (Q0M hO1.row hO1.le).mono fun u w85 ⟨z, he, hz, hza, X85⟩ => ?_
    rw [hrd] at he hz
    have he : u = .returned (.tuple #[z.V, .int .i64 0]) := he
    have hz : z.r = x.r := hz
    refine ⟨_, _, _, _, _, _, _, _, _, _, _, _, _, _, _, _, _, _, _, _, _, _, _, _, _, _, _, he, X85.kept, fun h => absurd rfl h, fun _ w107 X107 => ?_⟩
    have Y107 := (Y61.trans X85).trans X107
    refine (Q15 (w := w107) z).mono fun u w132 ⟨he, X132⟩ => ⟨_, _, _, _, _, _, _, _, _, _, _, _, _, _, _, _, _, _, _, _, _, _, _, _, _, _, he, X132.kept, ?_⟩
    have Y132 := Y107.trans X132
    refine (Q14 (x := z) (y := x) ((hza.no X107).no X132) (hx.at_.no Y132) (by rw [hz]; omega) (by rw [hz]; omega) (by rw [hz]; omega)).mono fun u w135 ⟨he, X135⟩ => ⟨_, he, fun h => absurd h (by rw [hz]; simp [frSame]), fun _ => ?_⟩
    have Y135 := Y132.trans X135
    have hxr135 : RowAt w135 a1 (bytesV (frL x.r)) := (((hO1.row.no X85).no X107).no X132).no X135
    have hle := hO1.le
    refine ⟨fun hc0 => ⟨fun hc1 => ?_, fun hc1 w3 q3 X3 b3 g3 g3' => ?_⟩, fun hc0 w3 q3 X3 b3 g3 g3' => ?_⟩
    · refine ⟨hc0, by omega, ?_⟩
      obtain ⟨n, rfl⟩ : ∃ n : Nat, cut = n := ⟨cut.toNat, by omega⟩
      rw [Int.toNat_natCast]
      have hn : n < (frL x.r).length := by omega
      have hlt : ((frL x.r).take n).length = n := by rw [List.length_take]; omega
      have hcut := Q0M (w := w135) (a := a1) (c := c1) (b := (frL x.r).take n) (by rw [show bytesV ((frL x.r).take n) = (bytesV (frL x.r)).take n by simp [bytesV]]; exact hxr135.take n) (by omega)
      rw [hlt] at hcut
      refine hcut.mono fun u w161 ⟨z2, he, hz2, hza2, X161⟩ => ⟨_, _, _, _, _, _, _, _, _, _, _, _, _, _, _, _, _, _, _, _, _, _, _, _, _, _, _, he, fun h => absurd h (Q3Y k1 hx.fit hn), fun _ w3 q3 X3 b3 g3 g3' => ?_⟩
      have XV := Y135.trans X161
      have hxr := hxr135.no X161
      generalize w161 = wv at *
      have o3 : OwnB wv.heap.size w3 (some (blk q3)) 0 [] := ⟨Q18 b3 rfl (by simp [maxLen]), fun ad ha => by cases ha; exact ⟨g3, g3'⟩⟩
      obtain ⟨a4, c4, w4, r4, o4, Y4, _, n4⟩ := app (xc := c1) o3 (XV.trans X3) XV.size (Nat.le_trans g3 (Nat.le_of_lt g3')) (Ext.refl _ _) (hxr.no X3) (by simp only [List.length_nil]; omega)
      refine ⟨a4, _, c4, w4, r4, fun w5 q5 X5 b5 g5 g5' => ?_⟩
      obtain ⟨a6, c6, w6, r6, o6, Y6, _, _⟩ := app (xc := 1) (x := [0]) o4 Y4 XV.size n4 X5 (RowAt.of_blk b5) (by simp only [List.nil_append, List.length_singleton]; omega)
      refine ⟨a6, _, c6, w6, r6, ?_⟩
      refine (Q0M o6.row o6.le).mono fun u w7 ⟨z7, he, hz7, hza7, X7⟩ => ⟨_, _, _, _, _, _, _, _, _, _, _, _, _, _, _, _, _, _, _, _, _, _, _, _, _, _, _, he, fun h => absurd h (Q1F k1 hx.fit), fun _ w8 X8 => ?_⟩
      have XX := (Y6.trans X7).trans X8
      refine (Q0M (hb.no XX) hbc).mono fun u wr ⟨z, he, hz, hza, Xr⟩ => ⟨_, _, _, _, _, _, _, _, _, _, _, _, _, _, _, _, _, _, _, _, _, _, _, _, _, _, _, he, fun hn ws Xs => ?_, fun hn ws p Xs hp => ?_⟩
      · have XS := (XX.trans Xr).trans Xs
        have hz0 : z.r = Fr.zero := hz.trans (Q1j hn)
        refine (Q15 (w := ws) z).mono fun u wt ⟨he, Xt⟩ => ⟨_, _, _, _, _, _, _, _, _, _, _, _, _, _, _, _, _, _, _, _, _, _, _, _, _, _, he, ?_⟩
        refine (Q14 (x := z) (y := FP.zero) ((hza.no Xs).no Xt) ⟨RowAt.nil _ _, RowAt.nil _ _, RowAt.nil _ _⟩ (by rw [hz0]; decide) (by rw [hz0]; decide) (by rw [hz0]; decide)).mono fun u wu ⟨he, Xu⟩ => ⟨_, he, fun _ => hal _ ((XS.trans Xt).trans Xu), fun h => absurd h ?_⟩
        rw [hz0]; simp [frSame, FP.zero]
      · have XS := (XX.trans Xr).trans Xs
        obtain ⟨g1, g2, g3, g4⟩ := Q19 hn
        rw [← hz] at g1 g2 g3
        have hK : frK z.r = (b, 0) := by unfold frK; rw [g2, if_neg (by decide), g1, if_neg (by omega)]
        have hv := Q1Q g2
        refine (Q0S (hza.no Xs) g3 (by omega)).mono fun u wt ⟨a9, c9, he, hO9, Xt⟩ => ?_
        rw [hK] at he hO9
        have he : u = .returned (.tuple #[.slice a9 b.length c9, .int .i64 0]) := he
        have XT := XS.trans Xt
        refine ⟨a9, _, c9, _, he, Xt.kept, fun _ => ?_, fun h => absurd rfl h⟩
        refine (sameB_spec (x := b) (y := b) hO9.row (hb.no XT) (by omega)).mono fun u wu ⟨he, Xu⟩ => ⟨_, he, Xu.kept, fun _ => ?_, fun h => absurd h (by simp)⟩
        have XU := XT.trans Xu
        exact (Q0Y (((hza.no Xs).no Xt).no Xu) (by omega)).mono fun u wv2 ⟨he, Xv⟩ => ⟨_, he, fun _ => hal _ (XU.trans Xv), fun h => absurd h (by rw [g2]; decide)⟩
    · have XV := Y135
      have hxr := hxr135
      generalize w135 = wv at *
      have o3 : OwnB wv.heap.size w3 (some (blk q3)) 0 [] := ⟨Q18 b3 rfl (by simp [maxLen]), fun ad ha => by cases ha; exact ⟨g3, g3'⟩⟩
      obtain ⟨a4, c4, w4, r4, o4, Y4, _, n4⟩ := app (xc := c1) o3 (XV.trans X3) XV.size (Nat.le_trans g3 (Nat.le_of_lt g3')) (Ext.refl _ _) (hxr.no X3) (by simp only [List.length_nil]; omega)
      refine ⟨a4, _, c4, w4, r4, fun w5 q5 X5 b5 g5 g5' => ?_⟩
      obtain ⟨a6, c6, w6, r6, o6, Y6, _, _⟩ := app (xc := 1) (x := [0]) o4 Y4 XV.size n4 X5 (RowAt.of_blk b5) (by simp only [List.nil_append, List.length_singleton]; omega)
      refine ⟨a6, _, c6, w6, r6, ?_⟩
      refine (Q0M o6.row o6.le).mono fun u w7 ⟨z7, he, hz7, hza7, X7⟩ => ⟨_, _, _, _, _, _, _, _, _, _, _, _, _, _, _, _, _, _, _, _, _, _, _, _, _, _, _, he, fun h => absurd h (Q1F k1 hx.fit), fun _ w8 X8 => ?_⟩
      have XX := (Y6.trans X7).trans X8
      refine (Q0M (hb.no XX) hbc).mono fun u wr ⟨z, he, hz, hza, Xr⟩ => ⟨_, _, _, _, _, _, _, _, _, _, _, _, _, _, _, _, _, _, _, _, _, _, _, _, _, _, _, he, fun hn ws Xs => ?_, fun hn ws p Xs hp => ?_⟩
      · have XS := (XX.trans Xr).trans Xs
        have hz0 : z.r = Fr.zero := hz.trans (Q1j hn)
        refine (Q15 (w := ws) z).mono fun u wt ⟨he, Xt⟩ => ⟨_, _, _, _, _, _, _, _, _, _, _, _, _, _, _, _, _, _, _, _, _, _, _, _, _, _, he, ?_⟩
        refine (Q14 (x := z) (y := FP.zero) ((hza.no Xs).no Xt) ⟨RowAt.nil _ _, RowAt.nil _ _, RowAt.nil _ _⟩ (by rw [hz0]; decide) (by rw [hz0]; decide) (by rw [hz0]; decide)).mono fun u wu ⟨he, Xu⟩ => ⟨_, he, fun _ => hal _ ((XS.trans Xt).trans Xu), fun h => absurd h ?_⟩
        rw [hz0]; simp [frSame, FP.zero]
      · have XS := (XX.trans Xr).trans Xs
        obtain ⟨g1, g2, g3, g4⟩ := Q19 hn
        rw [← hz] at g1 g2 g3
        have hK : frK z.r = (b, 0) := by unfold frK; rw [g2, if_neg (by decide), g1, if_neg (by omega)]
        have hv := Q1Q g2
        refine (Q0S (hza.no Xs) g3 (by omega)).mono fun u wt ⟨a9, c9, he, hO9, Xt⟩ => ?_
        rw [hK] at he hO9
        have he : u = .returned (.tuple #[.slice a9 b.length c9, .int .i64 0]) := he
        have XT := XS.trans Xt
        refine ⟨a9, _, c9, _, he, Xt.kept, fun _ => ?_, fun h => absurd rfl h⟩
        refine (sameB_spec (x := b) (y := b) hO9.row (hb.no XT) (by omega)).mono fun u wu ⟨he, Xu⟩ => ⟨_, he, Xu.kept, fun _ => ?_, fun h => absurd h (by simp)⟩
        have XU := XT.trans Xu
        exact (Q0Y (((hza.no Xs).no Xt).no Xu) (by omega)).mono fun u wv2 ⟨he, Xv⟩ => ⟨_, he, fun _ => hal _ (XU.trans Xv), fun h => absurd h (by rw [g2]; decide)⟩
    · have XV := Y135
      have hxr := hxr135
      generalize w135 = wv at *
      have o3 : OwnB wv.heap.size w3 (some (blk q3)) 0 [] := ⟨Q18 b3 rfl (by simp [maxLen]), fun ad ha => by cases ha; exact ⟨g3, g3'⟩⟩
      obtain ⟨a4, c4, w4, r4, o4, Y4, _, n4⟩ := app (xc := c1) o3 (XV.trans X3) XV.size (Nat.le_trans g3 (Nat.le_of_lt g3')) (Ext.refl _ _) (hxr.no X3) (by simp only [List.length_nil]; omega)
      refine ⟨a4, _, c4, w4, r4, fun w5 q5 X5 b5 g5 g5' => ?_⟩
      obtain ⟨a6, c6, w6, r6, o6, Y6, _, _⟩ := app (xc := 1) (x := [0]) o4 Y4 XV.size n4 X5 (RowAt.of_blk b5) (by simp only [List.nil_append, List.length_singleton]; omega)
      refine ⟨a6, _, c6, w6, r6, ?_⟩
      refine (Q0M o6.row o6.le).mono fun u w7 ⟨z7, he, hz7, hza7, X7⟩ => ⟨_, _, _, _, _, _, _, _, _, _, _, _, _, _, _, _, _, _, _, _, _, _, _, _, _, _, _, he, fun h => absurd h (Q1F k1 hx.fit), fun _ w8 X8 => ?_⟩
      have XX := (Y6.trans X7).trans X8
      refine (Q0M (hb.no XX) hbc).mono fun u wr ⟨z, he, hz, hza, Xr⟩ => ⟨_, _, _, _, _, _, _, _, _, _, _, _, _, _, _, _, _, _, _, _, _, _, _, _, _, _, _, he, fun hn ws Xs => ?_, fun hn ws p Xs hp => ?_⟩
      · have XS := (XX.trans Xr).trans Xs
        have hz0 : z.r = Fr.zero := hz.trans (Q1j hn)
        refine (Q15 (w := ws) z).mono fun u wt ⟨he, Xt⟩ => ⟨_, _, _, _, _, _, _, _, _, _, _, _, _, _, _, _, _, _, _, _, _, _, _, _, _, _, he, ?_⟩
        refine (Q14 (x := z) (y := FP.zero) ((hza.no Xs).no Xt) ⟨RowAt.nil _ _, RowAt.nil _ _, RowAt.nil _ _⟩ (by rw [hz0]; decide) (by rw [hz0]; decide) (by rw [hz0]; decide)).mono fun u wu ⟨he, Xu⟩ => ⟨_, he, fun _ => hal _ ((XS.trans Xt).trans Xu), fun h => absurd h ?_⟩
        rw [hz0]; simp [frSame, FP.zero]
      · have XS := (XX.trans Xr).trans Xs
        obtain ⟨g1, g2, g3, g4⟩ := Q19 hn
        rw [← hz] at g1 g2 g3
        have hK : frK z.r = (b, 0) := by unfold frK; rw [g2, if_neg (by decide), g1, if_neg (by omega)]
        have hv := Q1Q g2
        refine (Q0S (hza.no Xs) g3 (by omega)).mono fun u wt ⟨a9, c9, he, hO9, Xt⟩ => ?_
        rw [hK] at he hO9
        have he : u = .returned (.tuple #[.slice a9 b.length c9, .int .i64 0]) := he
        have XT := XS.trans Xt
        refine ⟨a9, _, c9, _, he, Xt.kept, fun _ => ?_, fun h => absurd rfl h⟩
        refine (sameB_spec (x := b) (y := b) hO9.row (hb.no XT) (by omega)).mono fun u wu ⟨he, Xu⟩ => ⟨_, he, Xu.kept, fun _ => ?_, fun h => absurd h (by simp)⟩
        have XU := XT.trans Xu
        exact (Q0Y (((hza.no Xs).no Xt).no Xu) (by omega)).mono fun u wv2 ⟨he, Xv⟩ => ⟨_, he, fun _ => hal _ (XU.trans Xv), fun h => absurd h (by rw [g2]; decide)⟩
  · refine ⟨a1, _, c1, _, he, X61.kept, fun h => absurd h h1, fun _ => ?_⟩
    have XX := Y61
    refine (Q0M (hb.no XX) hbc).mono fun u wr ⟨z, he, hz, hza, Xr⟩ => ⟨_, _, _, _, _, _, _, _, _, _, _, _, _, _, _, _, _, _, _, _, _, _, _, _, _, _, _, he, fun hn ws Xs => ?_, fun hn ws p Xs hp => ?_⟩
    · have XS := (XX.trans Xr).trans Xs
      have hz0 : z.r = Fr.zero := hz.trans (Q1j hn)
      refine (Q15 (w := ws) z).mono fun u wt ⟨he, Xt⟩ => ⟨_, _, _, _, _, _, _, _, _, _, _, _, _, _, _, _, _, _, _, _, _, _, _, _, _, _, he, ?_⟩
      refine (Q14 (x := z) (y := FP.zero) ((hza.no Xs).no Xt) ⟨RowAt.nil _ _, RowAt.nil _ _, RowAt.nil _ _⟩ (by rw [hz0]; decide) (by rw [hz0]; decide) (by rw [hz0]; decide)).mono fun u wu ⟨he, Xu⟩ => ⟨_, he, fun _ => hal _ ((XS.trans Xt).trans Xu), fun h => absurd h ?_⟩
      rw [hz0]; simp [frSame, FP.zero]
    · have XS := (XX.trans Xr).trans Xs
      obtain ⟨g1, g2, g3, g4⟩ := Q19 hn
      rw [← hz] at g1 g2 g3
      have hK : frK z.r = (b, 0) := by unfold frK; rw [g2, if_neg (by decide), g1, if_neg (by omega)]
      have hv := Q1Q g2
      refine (Q0S (hza.no Xs) g3 (by omega)).mono fun u wt ⟨a9, c9, he, hO9, Xt⟩ => ?_
      rw [hK] at he hO9
      have he : u = .returned (.tuple #[.slice a9 b.length c9, .int .i64 0]) := he
      have XT := XS.trans Xt
      refine ⟨a9, _, c9, _, he, Xt.kept, fun _ => ?_, fun h => absurd rfl h⟩
      refine (sameB_spec (x := b) (y := b) hO9.row (hb.no XT) (by omega)).mono fun u wu ⟨he, Xu⟩ => ⟨_, he, Xu.kept, fun _ => ?_, fun h => absurd h (by simp)⟩
      have XU := XT.trans Xu
      exact (Q0Y (((hza.no Xs).no Xt).no Xu) (by omega)).mono fun u wv2 ⟨he, Xv⟩ => ⟨_, he, fun _ => hal _ (XU.trans Xv), fun h => absurd h (by rw [g2]; decide)⟩
theorem FrameBack_walk (W : World) (cs0 : Array Value) (a1 : Option Addr) (len1 cap1 : Nat) (a2 : Int) (o0 : FrQ W cs0.toList) (o1 : BytesQ W [.slice a1 len1 cap1]) (w2 : (Lit.int .i64 a2).wf = true) :
    Calls Try.prog 3 #[.agg cs0, .slice a1 len1 cap1, .int .i64 a2] W (Ret (.bool true) fun w' => Ext no W w') := by
  obtain ⟨x, hx, hi⟩ := o0
  obtain ⟨_, _, b, e1, l1, _, r1⟩ := o1
  cases e1
  obtain rfl : cs0 = x.C.toArray := Array.ext' hx
  exact Q2p W hi r1 l1 a2
end Go.Proofs.Ytlgpeojjmapnjaa