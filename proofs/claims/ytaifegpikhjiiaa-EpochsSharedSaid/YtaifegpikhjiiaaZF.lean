/- Epochs: predicates of the laws. -/
import Derived.Test.YtaifegpikhjiiaaZE
import Derived.Test.YtaifegpikhjiiaaZA
import Derived.Test.YtaifegpikhjiiaaZC
set_option linter.unusedVariables false
set_option linter.unusedSimpArgs false
set_option maxRecDepth 100000
set_option maxHeartbeats 4000000
namespace Go.Proofs.Ytaifegpikhjiiaa
open Go Go.Mx Go.Proofs
abbrev cachettelaw13_newWorld.J1 (a7 : Option Addr) (a8 : Int) (a0 : Int) (I0 : Nat → List Value → World → Prop) (m9 : Nat) (a4 : World) (R : Value → World → Prop) (a2 : World) : Prop :=
 0 ≤ (a0 : Int) ∧ (a0 : Int) < (4 : Int) ∧
 canStore a2 ((((blk a4.heap.size).add 6).add (Int.toNat a0 * 1)).add 0) ∧
 thenW (a2.setCell ((((blk a4.heap.size).add 6).add (Int.toNat a0 * 1)).add 0) (.pointer a7)) fun a1 =>
 thenW (a1.alloc (.cells #[.int .i64 a0, .int .u64 a8, .slice none 0 0, .slice none 0 0] 85)) fun a3 =>
 0 ≤ (a0 : Int) ∧ (a0 : Int) < (4 : Int) ∧
 canStore a3 ((((blk a4.heap.size).add 10).add (Int.toNat a0 * 1)).add 0) ∧
 thenW (a3.setCell ((((blk a4.heap.size).add 10).add (Int.toNat a0 * 1)).add 0) (.pointer (some (blk a1.heap.size)))) fun a5 =>
 ∃ a6, a6 < m9 ∧ I0 a6 [.int .i64 (IntKind.i64.wrap (a0 + 1))] a5

abbrev cachettelaw13_newWorld.J2 (a3 : Int) (I0 : Nat → List Value → World → Prop) (m9 : Nat) (a4 : World) (R : Value → World → Prop) (aa : World) : Prop :=
 ∃ (ah : Option Addr), aa.cell? ((blk a4.heap.size).add 0) = some (.pointer ah) ∧
 Calls Try.prog 18 #[.pointer ah] aa fun ae a9 => ∃ (a0 : Int) (a2 : Int), ae = .returned (.tuple #[.int .u64 a0, .int .u64 a2]) ∧
 ∃ (aj : Option Addr), a9.cell? ((blk a4.heap.size).add 1) = some (.pointer aj) ∧
 Calls Try.prog 22 #[.pointer aj] a9 fun af ac => ∃ (a7 : Int) (a6 : Int), af = .returned (.tuple #[.int .u64 a7, .int .u64 a6]) ∧
 0 ≤ (a3 : Int) ∧ (a3 : Int) < (4 : Int) ∧
 canStore ac ((((blk a4.heap.size).add 2).add (Int.toNat a3 * 1)).add 0) ∧
 thenW (ac.setCell ((((blk a4.heap.size).add 2).add (Int.toNat a3 * 1)).add 0) (.int .u64 a2)) fun ad =>
 0 ≤ (a3 : Int) ∧ (a3 : Int) < (4 : Int) ∧
 canStore ad ((((blk a4.heap.size).add 18).add (Int.toNat a3 * 1)).add 0) ∧
 thenW (ad.setCell ((((blk a4.heap.size).add 18).add (Int.toNat a3 * 1)).add 0) (.int .u64 a0)) fun ab =>
 ∃ (ai : Option Addr), ab.cell? ((blk a4.heap.size).add 0) = some (.pointer ai) ∧
 Calls Try.prog 19 #[.pointer ai, .int .i64 a3, .int .u64 a0] ab fun ag a8 => ∃ (a1 : Option Addr) (a5 : Int), ag = .returned (.tuple #[.pointer a1, .int .i64 a5]) ∧
 bif a5 != 0 then (
 R (.pointer none) a8) else (
 bif Option.isNone a1 then (
 R (.pointer none) a8) else (
 cachettelaw13_newWorld.J1 a1 a0 a3 I0 m9 a4 R a8))

def cachettelaw13_newWorld.M (a0 : Option Addr) (a3 : Nat) (a1 : Nat) (R : Value → World → Prop) (w : World) : Prop :=
 Calls Try.prog 17 #[.slice a0 a3 a1] w fun aq an => ∃ (ag : Option Addr), aq = .returned (.pointer ag) ∧
 thenW (an.alloc (.cells #[.slice a0 a3 a1, .slice none 0 0] 82)) fun a5 =>
 thenW (a5.alloc (.cells #[.pointer ag, .pointer (some (blk an.heap.size)), .int .u64 0, .int .u64 0, .int .u64 0, .int .u64 0, .pointer none, .pointer none, .pointer none, .pointer none, .pointer none, .pointer none, .pointer none, .pointer none, .slice none 0 0, .int .i64 0, .slice none 0 0, .int .i64 0, .int .u64 0, .int .u64 0, .int .u64 0, .int .u64 0, .int .u64 0] 48)) fun ap =>
 ∃ (I0 : Nat → List Value → World → Prop) (m8 : Nat), I0 m8 [.int .i64 0] ap ∧ ∀ (m9 : Nat) (a6 : World) (i7 : Int), I0 m9 [.int .i64 i7] a6 →
 bif decide (i7 < 4) then (
 cachettelaw13_newWorld.J2 i7 I0 m9 a5 R a6) else (
 0 ≤ (0 : Int) ∧ (0 : Int) < (4 : Int) ∧
 ∃ (am : Int), a6.cell? (((blk a5.heap.size).add 2).add (Int.toNat 0 * 1)) = some (.int .u64 am) ∧
 Calls Try.prog 20 #[.int .u64 am] a6 fun ak af => ∃ (ai : Option Addr) (a9 : Nat) (aa : Nat) (a4 : Int), ak = .returned (.agg #[.slice ai a9 aa, .int .i64 a4]) ∧
 canStore af (((blk a5.heap.size).add 14).add 0) ∧
 thenW (af.setCell (((blk a5.heap.size).add 14).add 0) (.slice ai a9 aa)) fun aj =>
 canStore aj (((blk a5.heap.size).add 14).add 1) ∧
 thenW (aj.setCell (((blk a5.heap.size).add 14).add 1) (.int .i64 a4)) fun ad =>
 0 ≤ (0 : Int) ∧ (0 : Int) < (4 : Int) ∧
 ∃ (ao : Int), ad.cell? (((blk a5.heap.size).add 2).add (Int.toNat 0 * 1)) = some (.int .u64 ao) ∧
 Calls Try.prog 23 #[.int .u64 ao] ad fun al a8 => ∃ (ae : Option Addr) (ac : Nat) (ab : Nat) (a2 : Int), al = .returned (.agg #[.slice ae ac ab, .int .i64 a2]) ∧
 canStore a8 (((blk a5.heap.size).add 16).add 0) ∧
 thenW (a8.setCell (((blk a5.heap.size).add 16).add 0) (.slice ae ac ab)) fun a7 =>
 canStore a7 (((blk a5.heap.size).add 16).add 1) ∧
 thenW (a7.setCell (((blk a5.heap.size).add 16).add 1) (.int .i64 a2)) fun ah =>
 R (.pointer (some (blk a5.heap.size))) ah)

theorem cachettelaw13_newWorld.eq (draws1a : Option Addr) (draws1n : Nat) (draws1c : Nat) (R : Value → World → Prop) (w : World) : mfunc Try.prog [(0, [3], [(4, (.one (.int .i64)))])] 6 [.slice draws1a draws1n draws1c] R w = cachettelaw13_newWorld.M draws1a draws1n draws1c R w := by kernel_rfl
theorem cachettelaw13_newWorld.ok (a0 : Option Addr) (a1 : Nat) (a2 : Nat) {R : Value → World → Prop} {w : World} (h : cachettelaw13_newWorld.M a0 a1 a2 R w) : Calls Try.prog 6 #[.slice a0 a1 a2] w fun e w' => ∃ v, e = .returned v ∧ R v w' :=
  mfunc_ok follows (H := [(0, [3], [(4, (.one (.int .i64)))])]) (args := [.slice a0 a1 a2]) (by rw [cachettelaw13_newWorld.eq]; exact h)

def cachettelaw13_newWorld.N (a1 : Option Addr) (a4 : Nat) (a3 : Nat) (R : Value → World → Prop) (w : World) : Prop :=
 Calls Try.prog 17 #[.slice a1 a4 a3] w fun bg bb => ∃ (ao : Option Addr), bg = .returned (.pointer ao) ∧
 ∀ (ah : World) (q6 : Nat), Ext no bb ah → Blk ah q6 82 [.slice a1 a4 a3, .slice none 0 0] → bb.heap.size ≤ q6 → q6 < ah.heap.size →
 ∀ (az : World) (q8 : Nat), Ext no ah az → Blk az q8 48 [.pointer ao, .pointer (some (blk q6)), .int .u64 0, .int .u64 0, .int .u64 0, .int .u64 0, .pointer none, .pointer none, .pointer none, .pointer none, .pointer none, .pointer none, .pointer none, .pointer none, .slice none 0 0, .int .i64 0, .slice none 0 0, .int .i64 0, .int .u64 0, .int .u64 0, .int .u64 0, .int .u64 0, .int .u64 0] → ah.heap.size ≤ q8 → q8 < az.heap.size →
 ∃ (I0 : Nat → List Value → World → Prop) (bf : Nat), I0 bf [.int .i64 0] az ∧ ∀ (b9 : Nat) (a9 : World) (i9 : Int), I0 b9 [.int .i64 i9] a9 →
 (i9 < 4 →
 ∃ (b7 : Option Addr), a9.cell? ((blk q8).add 0) = some (.pointer b7) ∧
 Calls Try.prog 18 #[.pointer b7] a9 fun b1 aj => ∃ (a0 : Int) (aa : Int), b1 = .returned (.tuple #[.int .u64 a0, .int .u64 aa]) ∧
 ∃ (b8 : Option Addr), aj.cell? ((blk q8).add 1) = some (.pointer b8) ∧
 Calls Try.prog 22 #[.pointer b8] aj fun b5 ax => ∃ (ac : Int) (ad : Int), b5 = .returned (.tuple #[.int .u64 ac, .int .u64 ad]) ∧
 0 ≤ (i9 : Int) ∧ (i9 : Int) < (4 : Int) ∧
 canStore ax ((((blk q8).add 2).add (Int.toNat i9 * 1)).add 0) ∧
 thenW (ax.setCell ((((blk q8).add 2).add (Int.toNat i9 * 1)).add 0) (.int .u64 aa)) fun aq =>
 0 ≤ (i9 : Int) ∧ (i9 : Int) < (4 : Int) ∧
 canStore aq ((((blk q8).add 18).add (Int.toNat i9 * 1)).add 0) ∧
 thenW (aq.setCell ((((blk q8).add 18).add (Int.toNat i9 * 1)).add 0) (.int .u64 a0)) fun ar =>
 ∃ (bd : Option Addr), ar.cell? ((blk q8).add 0) = some (.pointer bd) ∧
 Calls Try.prog 19 #[.pointer bd, .int .i64 i9, .int .u64 a0] ar fun b3 ab => ∃ (a5 : Option Addr) (a7 : Int), b3 = .returned (.tuple #[.pointer a5, .int .i64 a7]) ∧
 (a7 ≠ 0 →
 R (.pointer none) ab) ∧
 (a7 = 0 →
 (a5 = none →
 R (.pointer none) ab) ∧
 (a5 ≠ none →
 0 ≤ (i9 : Int) ∧ (i9 : Int) < (4 : Int) ∧
 canStore ab ((((blk q8).add 6).add (Int.toNat i9 * 1)).add 0) ∧
 thenW (ab.setCell ((((blk q8).add 6).add (Int.toNat i9 * 1)).add 0) (.pointer a5)) fun an =>
 ∀ (a8 : World) (ay : Nat), Ext no an a8 → Blk a8 ay 85 [.int .i64 i9, .int .u64 a0, .slice none 0 0, .slice none 0 0] → an.heap.size ≤ ay → ay < a8.heap.size →
 0 ≤ (i9 : Int) ∧ (i9 : Int) < (4 : Int) ∧
 canStore a8 ((((blk q8).add 10).add (Int.toNat i9 * 1)).add 0) ∧
 thenW (a8.setCell ((((blk q8).add 10).add (Int.toNat i9 * 1)).add 0) (.pointer (some (blk ay)))) fun b0 =>
 (-9223372036854775808 : Int) ≤ (i9 + 1) ∧ (i9 + 1) < 9223372036854775808 ∧
 ∃ bc, bc < b9 ∧ I0 bc [.int .i64 (i9 + 1)] b0))) ∧
 ((4 : Int) ≤ i9 →
 ∃ (be : Int), a9.cell? (((blk q8).add 2).add (Int.toNat 0 * 1)) = some (.int .u64 be) ∧
 Calls Try.prog 20 #[.int .u64 be] a9 fun b6 au => ∃ (ag : Option Addr) (av : Nat) (ai : Nat) (a2 : Int), b6 = .returned (.agg #[.slice ag av ai, .int .i64 a2]) ∧
 canStore au (((blk q8).add 14).add 0) ∧
 thenW (au.setCell (((blk q8).add 14).add 0) (.slice ag av ai)) fun al =>
 canStore al (((blk q8).add 14).add 1) ∧
 thenW (al.setCell (((blk q8).add 14).add 1) (.int .i64 a2)) fun ak =>
 ∃ (ba : Int), ak.cell? (((blk q8).add 2).add (Int.toNat 0 * 1)) = some (.int .u64 ba) ∧
 Calls Try.prog 23 #[.int .u64 ba] ak fun b2 am => ∃ (aw : Option Addr) (af : Nat) (ae : Nat) (a6 : Int), b2 = .returned (.agg #[.slice aw af ae, .int .i64 a6]) ∧
 canStore am (((blk q8).add 16).add 0) ∧
 thenW (am.setCell (((blk q8).add 16).add 0) (.slice aw af ae)) fun ap =>
 canStore ap (((blk q8).add 16).add 1) ∧
 thenW (ap.setCell (((blk q8).add 16).add 1) (.int .i64 a6)) fun b4 =>
 R (.pointer (some (blk q8))) b4)

theorem cachettelaw13_newWorld.up (a0 : Option Addr) (a2 : Nat) (a1 : Nat) {R : Value → World → Prop} {w : World} (h : cachettelaw13_newWorld.N a0 a2 a1 R w) : cachettelaw13_newWorld.M a0 a2 a1 R w := by
  unfold cachettelaw13_newWorld.M
  unfold cachettelaw13_newWorld.N at h
  refine h.mono fun c1 ao h => ?_
  obtain ⟨an, he, h⟩ := h
  refine ⟨an, he, ?_⟩
  refine thenW_in fun ae e5 => ?_
  have h := h ae ao.heap.size ((Ext.refl no ao).x_alloc e5) (Blk.of_new e5) ((Ext.refl no ao)).size (size_lt_alloc e5)
  refine thenW_in fun bn e7 => ?_
  have h := h bn ae.heap.size ((Ext.refl no ae).x_alloc e7) (Blk.of_new e7) ((Ext.refl no ae)).size (size_lt_alloc e7)
  obtain ⟨I0, b5, h0, h⟩ := h
  refine ⟨I0, b5, h0, fun b9 au i9 hI => ?_⟩
  have h := h b9 au i9 hI
  refine bif_fo (fun aj => ?_) (fun aj => ?_)
  ·have h := h.2 (Int.not_lt.1 (of_decide_eq_false aj))
   refine ⟨by decide, by decide, ?_⟩
   obtain ⟨bt, al, h⟩ := h
   refine ⟨bt, al, ?_⟩
   refine h.mono fun c0 bw h => ?_
   obtain ⟨ah, ax, ak, a3, he, h⟩ := h
   refine ⟨ah, ax, ak, a3, he, ?_⟩
   obtain ⟨hcs, h⟩ := h
   refine ⟨hcs, thenW_in fun bh b8 => ?_⟩
   replace h := thenW_out h b8
   obtain ⟨hcs, h⟩ := h
   refine ⟨hcs, thenW_in fun be bc => ?_⟩
   replace h := thenW_out h bc
   refine ⟨by decide, by decide, ?_⟩
   obtain ⟨bg, az, h⟩ := h
   refine ⟨bg, az, ?_⟩
   refine h.mono fun b3 bj h => ?_
   obtain ⟨ay, ag, af, a4, he, h⟩ := h
   refine ⟨ay, ag, af, a4, he, ?_⟩
   obtain ⟨hcs, h⟩ := h
   refine ⟨hcs, thenW_in fun bm bd => ?_⟩
   replace h := thenW_out h bd
   obtain ⟨hcs, h⟩ := h
   refine ⟨hcs, thenW_in fun bo bq => ?_⟩
   replace h := thenW_out h bq
   exact h
  have h := h.1 (of_decide_eq_true aj)
  unfold cachettelaw13_newWorld.J2
  obtain ⟨b0, ai, h⟩ := h
  refine ⟨b0, ai, ?_⟩
  refine h.mono fun b2 bf h => ?_
  obtain ⟨a9, ab, he, h⟩ := h
  refine ⟨a9, ab, he, ?_⟩
  obtain ⟨b6, aw, h⟩ := h
  refine ⟨b6, aw, ?_⟩
  refine h.mono fun bs bz h => ?_
  obtain ⟨a6, aa, he, h⟩ := h
  refine ⟨a6, aa, he, ?_⟩
  obtain ⟨a5, a8, h⟩ := h
  refine ⟨a5, a8, ?_⟩
  obtain ⟨hcs, h⟩ := h
  refine ⟨hcs, thenW_in fun bp bv => ?_⟩
  replace h := thenW_out h bv
  obtain ⟨a5, a8, h⟩ := h
  refine ⟨a5, a8, ?_⟩
  obtain ⟨hcs, h⟩ := h
  refine ⟨hcs, thenW_in fun bu bx => ?_⟩
  replace h := thenW_out h bx
  obtain ⟨br, aq, h⟩ := h
  refine ⟨br, aq, ?_⟩
  refine h.mono fun b7 b4 h => ?_
  obtain ⟨ad, ac, he, h⟩ := h
  refine ⟨ad, ac, he, ?_⟩
  refine bif_of (fun am => ?_) (fun am => ?_)
  ·have h := h.1 (bne_t am)
   exact h
  have h := h.2 (bne_f am)
  refine bif_of (fun av => ?_) (fun av => ?_)
  ·have h := h.1 (isNone_t av)
   exact h
  have h := h.2 (isNone_f av)
  unfold cachettelaw13_newWorld.J1
  obtain ⟨a5, a8, h⟩ := h
  refine ⟨a5, a8, ?_⟩
  obtain ⟨hcs, h⟩ := h
  refine ⟨hcs, thenW_in fun a7 bi => ?_⟩
  replace h := thenW_out h bi
  refine thenW_in fun ar ap => ?_
  have h := h ar a7.heap.size ((Ext.refl no a7).x_alloc ap) (Blk.of_new ap) ((Ext.refl no a7)).size (size_lt_alloc ap)
  obtain ⟨a5, a8, h⟩ := h
  refine ⟨a5, a8, ?_⟩
  obtain ⟨hcs, h⟩ := h
  refine ⟨hcs, thenW_in fun b1 ba => ?_⟩
  replace h := thenW_out h ba
  obtain ⟨bb, bk, h⟩ := h
  try rw [w64 bb bk]
  obtain ⟨bl, hk, h⟩ := h
  exact ⟨bl, hk, h⟩

theorem cachettelaw13_newWorld.go (a0 : Option Addr) (a1 : Nat) (a2 : Nat) {R : Value → World → Prop} {w : World} (h : cachettelaw13_newWorld.N a0 a1 a2 R w) : Calls Try.prog 6 #[.slice a0 a1 a2] w fun e w' => ∃ v, e = .returned v ∧ R v w' := cachettelaw13_newWorld.ok a0 a1 a2 (cachettelaw13_newWorld.up a0 a1 a2 h)
abbrev cachettelaw13_world_do.J1 (ae : Int) (I1 : Nat → List Value → World → Prop) (b3 : Addr) (b6 : Option Addr) (bg : Nat) (R : Value → World → Prop) (bf : World) : Prop :=
 thenW (bf.drew) fun ai =>
 b6.elim False fun ba =>
 0 ≤ (ae : Int) ∧ (ae : Int) < (4 : Int) ∧
 ∃ (b8 : Option Addr), ai.cell? ((ba.add 6).add (Int.toNat ae * 1)) = some (.pointer b8) ∧
 ∃ (an : Int) (aw : Int) (aa : Int) (aj : Int) (ac : Option Addr) (ab : Nat) (ad : Nat) (aq : Option Addr) (au : Nat) (ao : Nat), cellsAt ai b3 [.int .i64 an, .int .i64 aw, .int .u64 aa, .int .i64 aj, .slice ac ab ad, .slice aq au ao] 0 ∧
 b6.elim False fun b9 =>
 0 ≤ (ae : Int) ∧ (ae : Int) < (4 : Int) ∧
 ∃ (b2 : Option Addr), ai.cell? ((b9.add 10).add (Int.toNat ae * 1)) = some (.pointer b2) ∧
 b6.elim False fun b7 =>
 ∃ (b4 : Option Addr), ai.cell? (b7.add 1) = some (.pointer b4) ∧
 ∃ (a5 : Int) (a9 : Int) (a1 : Int) (a4 : Int) (a2 : Option Addr) (a3 : Nat) (a0 : Nat) (a6 : Option Addr) (a8 : Nat) (a7 : Nat), cellsAt ai b3 [.int .i64 a5, .int .i64 a9, .int .u64 a1, .int .i64 a4, .slice a2 a3 a0, .slice a6 a8 a7] 0 ∧
 Calls Try.prog 26 #[.agg #[.int .i64 an, .int .i64 aw, .int .u64 aa, .int .i64 aj, .slice ac ab ad, .slice aq au ao]] ai fun bc ar => ∃ (b0 : Int) (b1 : Int) (ag : Int) (am : Int) (ak : Option Addr) (ah : Nat) (af : Nat) (ay : Option Addr) (av : Nat) (ax : Nat), bc = .returned (.agg #[.int .i64 b0, .int .i64 b1, .int .u64 ag, .int .i64 am, .slice ak ah af, .slice ay av ax]) ∧
 cellsAt ar b3 [.int .i64 a5, .int .i64 a9, .int .u64 a1, .int .i64 a4, .slice a2 a3 a0, .slice a6 a8 a7] 0 ∧
 ar.cell? (b7.add 1) = some (.pointer b4) ∧
 ar.cell? ((b9.add 10).add (Int.toNat ae * 1)) = some (.pointer b2) ∧
 ar.cell? ((ba.add 6).add (Int.toNat ae * 1)) = some (.pointer b8) ∧
 Calls Try.prog 11 #[.pointer b8, .agg #[.int .i64 b0, .int .i64 b1, .int .u64 ag, .int .i64 am, .slice ak ah af, .slice ay av ax]] ar fun be az => ∃ (ap : Int), be = .returned (.int .i64 ap) ∧
 cellsAt az b3 [.int .i64 a5, .int .i64 a9, .int .u64 a1, .int .i64 a4, .slice a2 a3 a0, .slice a6 a8 a7] 0 ∧
 az.cell? (b7.add 1) = some (.pointer b4) ∧
 az.cell? ((b9.add 10).add (Int.toNat ae * 1)) = some (.pointer b2) ∧
 Calls Try.prog 27 #[.pointer b2, .pointer b4, .agg #[.int .i64 a5, .int .i64 a9, .int .u64 a1, .int .i64 a4, .slice a2 a3 a0, .slice a6 a8 a7]] az fun bd b5 => ∃ (al : Int), bd = .returned (.int .i64 al) ∧
 bif ap != al then (
 R (.bool false) b5) else (
 ∃ bb, bb < bg ∧ I1 bb [.int .i64 (IntKind.i64.wrap (ae + 1))] b5)

abbrev cachettelaw13_world_do.J2 (a4 : Addr) (a6 : Option Addr) (R : Value → World → Prop) (a2 : World) : Prop :=
 ∃ (I1 : Nat → List Value → World → Prop) (a5 : Nat), I1 a5 [.int .i64 0] a2 ∧ ∀ (a3 : Nat) (a0 : World) (a1 : Int), I1 a3 [.int .i64 a1] a0 →
 bif decide (a1 < 4) then (
 cachettelaw13_world_do.J1 a1 I1 a4 a6 a3 R a0) else (
 R (.bool true) a0)

abbrev cachettelaw13_world_do.J3 (a5 : Int) (a3 : Addr) (a6 : Addr) (a4 : Option Addr) (R : Value → World → Prop) (a0 : World) : Prop :=
 ∃ (a2 : Int), a0.cell? (a3.add 0) = some (.int .i64 a2) ∧
 bif a2 != 3 then (
 R (.bool true) a0) else (
 bif a5 != 0 then (
 ∃ (a1 : Int), a0.cell? (a6.add 0) = some (.int .i64 a1) ∧
 bif a1 != 4 then (
 R (.bool true) a0) else (
 cachettelaw13_world_do.J2 a3 a4 R a0)) else (
 cachettelaw13_world_do.J2 a3 a4 R a0))

abbrev cachettelaw13_world_do.J4 (af : Int) (ak : Addr) (aj : Addr) (ah : Addr) (ai : Addr) (ab : Option Addr) (R : Value → World → Prop) (a2 : World) : Prop :=
 bif af == 0 then (
 ∃ (a5 : Option Addr) (a8 : Nat) (a3 : Nat) (a1 : Int), cellsAt a2 aj [.slice a5 a8 a3, .int .i64 a1] 0 ∧
 ab.elim False fun ac =>
 canStore a2 ((ac.add 14).add 0) ∧
 thenW (a2.setCell ((ac.add 14).add 0) (.slice a5 a8 a3)) fun ae =>
 canStore ae ((ac.add 14).add 1) ∧
 thenW (ae.setCell ((ac.add 14).add 1) (.int .i64 a1)) fun a7 =>
 ∃ (a4 : Option Addr) (a6 : Nat) (a9 : Nat) (a0 : Int), cellsAt a7 ak [.slice a4 a6 a9, .int .i64 a0] 0 ∧
 ab.elim False fun aa =>
 canStore a7 ((aa.add 16).add 0) ∧
 thenW (a7.setCell ((aa.add 16).add 0) (.slice a4 a6 a9)) fun ad =>
 canStore ad ((aa.add 16).add 1) ∧
 thenW (ad.setCell ((aa.add 16).add 1) (.int .i64 a0)) fun ag =>
 cachettelaw13_world_do.J3 af ah ai ab R ag) else (
 cachettelaw13_world_do.J3 af ah ai ab R a2)

abbrev cachettelaw13_world_do.J5 (a1 : Int) (a5 : Addr) (a7 : Int) (a6 : Addr) (a2 : Addr) (a3 : Addr) (a4 : Option Addr) (R : Value → World → Prop) (a0 : World) : Prop :=
 bif a7 != a1 then (
 R (.bool false) a0) else (
 cachettelaw13_world_do.J4 a1 a5 a6 a2 a3 a4 R a0)

abbrev cachettelaw13_world_do.J6 (b7 : Int) (b6 : Addr) (al : Addr) (b3 : Addr) (ay : Option Addr) (R : Value → World → Prop) (b1 : World) : Prop :=
 thenW (b1.drew) fun a8 =>
 ay.elim False fun b4 =>
 ∃ (af : Option Addr) (ad : Nat) (ae : Nat) (a4 : Int), cellsAt a8 (b4.add 16) [.slice af ad ae, .int .i64 a4] 0 ∧
 ∃ (a6 : Int) (ab : Int) (a0 : Int) (a5 : Int) (a2 : Option Addr) (a1 : Nat) (a3 : Nat) (a9 : Option Addr) (a7 : Nat) (aa : Nat), cellsAt a8 al [.int .i64 a6, .int .i64 ab, .int .u64 a0, .int .i64 a5, .slice a2 a1 a3, .slice a9 a7 aa] 0 ∧
 (Calls Try.prog 14 #[.agg #[.slice af ad ae, .int .i64 a4], .agg #[.int .i64 a6, .int .i64 ab, .int .u64 a0, .int .i64 a5, .slice a2 a1 a3, .slice a9 a7 aa]] a8 fun az ac => ∃ (au : Option Addr) (ao : Nat) (an : Nat) (ag : Int) (aj : Int), az = .returned (.tuple #[.agg #[.slice au ao an, .int .i64 ag], .int .i64 aj]) ∧
 thenW (ac.alloc (.cells #[.slice none 0 0, .int .i64 0] 46)) fun ax =>
 canStore ax ((blk ac.heap.size).add 0) ∧
 thenW (ax.setCell ((blk ac.heap.size).add 0) (.slice au ao an)) fun aw =>
 canStore aw ((blk ac.heap.size).add 1) ∧
 thenW (aw.setCell ((blk ac.heap.size).add 1) (.int .i64 ag)) fun b5 =>
 cachettelaw13_world_do.J5 aj (blk ac.heap.size) b7 b6 al b3 ay R b5) ∧
 (thenW (a8.alloc (.cells #[.slice none 0 0, .int .i64 0] 46)) fun ak =>
 cellsAt ak al [.int .i64 a6, .int .i64 ab, .int .u64 a0, .int .i64 a5, .slice a2 a1 a3, .slice a9 a7 aa] 0 ∧
 cellsAt ak (b4.add 16) [.slice af ad ae, .int .i64 a4] 0 ∧
 Calls Try.prog 14 #[.agg #[.slice af ad ae, .int .i64 a4], .agg #[.int .i64 a6, .int .i64 ab, .int .u64 a0, .int .i64 a5, .slice a2 a1 a3, .slice a9 a7 aa]] ak fun b2 av => ∃ (ap : Option Addr) (ar : Nat) (aq : Nat) (ai : Int) (ah : Int), b2 = .returned (.tuple #[.agg #[.slice ap ar aq, .int .i64 ai], .int .i64 ah]) ∧
 canStore av ((blk a8.heap.size).add 0) ∧
 thenW (av.setCell ((blk a8.heap.size).add 0) (.slice ap ar aq)) fun am =>
 canStore am ((blk a8.heap.size).add 1) ∧
 thenW (am.setCell ((blk a8.heap.size).add 1) (.int .i64 ai)) fun b0 =>
 cachettelaw13_world_do.J5 ah (blk a8.heap.size) b7 b6 al b3 ay R b0)

abbrev cachettelaw13_world_do.J7 (bu : Addr) (c2 : Addr) (bz : Option Addr) (R : Value → World → Prop) (c0 : World) : Prop :=
 thenW (c0.drew) fun al =>
 bz.elim False fun bo =>
 ∃ (a7 : Option Addr) (a8 : Nat) (a6 : Nat) (a0 : Int), cellsAt al (bo.add 14) [.slice a7 a8 a6, .int .i64 a0] 0 ∧
 ∃ (aa : Int) (an : Int) (a1 : Int) (a5 : Int) (a2 : Option Addr) (a3 : Nat) (a4 : Nat) (a9 : Option Addr) (ab : Nat) (ac : Nat), cellsAt al bu [.int .i64 aa, .int .i64 an, .int .u64 a1, .int .i64 a5, .slice a2 a3 a4, .slice a9 ab ac] 0 ∧
 (Calls Try.prog 26 #[.agg #[.int .i64 aa, .int .i64 an, .int .u64 a1, .int .i64 a5, .slice a2 a3 a4, .slice a9 ab ac]] al fun c4 ar => ∃ (az : Int) (b7 : Int) (ad : Int) (am : Int) (ae : Option Addr) (ag : Nat) (af : Nat) (aw : Option Addr) (ay : Nat) (ax : Nat), c4 = .returned (.agg #[.int .i64 az, .int .i64 b7, .int .u64 ad, .int .i64 am, .slice ae ag af, .slice aw ay ax]) ∧
 cellsAt ar (bo.add 14) [.slice a7 a8 a6, .int .i64 a0] 0 ∧
 (Calls Try.prog 10 #[.agg #[.slice a7 a8 a6, .int .i64 a0], .agg #[.int .i64 az, .int .i64 b7, .int .u64 ad, .int .i64 am, .slice ae ag af, .slice aw ay ax]] ar fun c1 b6 => ∃ (bp : Option Addr) (bv : Nat) (bs : Nat) (b1 : Int) (b4 : Int), c1 = .returned (.tuple #[.agg #[.slice bp bv bs, .int .i64 b1], .int .i64 b4]) ∧
 thenW (b6.alloc (.cells #[.slice none 0 0, .int .i64 0] 43)) fun bm =>
 canStore bm ((blk b6.heap.size).add 0) ∧
 thenW (bm.setCell ((blk b6.heap.size).add 0) (.slice bp bv bs)) fun br =>
 canStore br ((blk b6.heap.size).add 1) ∧
 thenW (br.setCell ((blk b6.heap.size).add 1) (.int .i64 b1)) fun c3 =>
 cachettelaw13_world_do.J6 b4 (blk b6.heap.size) bu c2 bz R c3) ∧
 (thenW (ar.alloc (.cells #[.slice none 0 0, .int .i64 0] 43)) fun bg =>
 cellsAt bg (bo.add 14) [.slice a7 a8 a6, .int .i64 a0] 0 ∧
 Calls Try.prog 10 #[.agg #[.slice a7 a8 a6, .int .i64 a0], .agg #[.int .i64 az, .int .i64 b7, .int .u64 ad, .int .i64 am, .slice ae ag af, .slice aw ay ax]] bg fun bq bb => ∃ (bf : Option Addr) (bj : Nat) (be : Nat) (au : Int) (aq : Int), bq = .returned (.tuple #[.agg #[.slice bf bj be, .int .i64 au], .int .i64 aq]) ∧
 canStore bb ((blk ar.heap.size).add 0) ∧
 thenW (bb.setCell ((blk ar.heap.size).add 0) (.slice bf bj be)) fun ba =>
 canStore ba ((blk ar.heap.size).add 1) ∧
 thenW (ba.setCell ((blk ar.heap.size).add 1) (.int .i64 au)) fun bx =>
 cachettelaw13_world_do.J6 aq (blk ar.heap.size) bu c2 bz R bx)) ∧
 (thenW (al.alloc (.cells #[.slice none 0 0, .int .i64 0] 43)) fun b8 =>
 cellsAt b8 bu [.int .i64 aa, .int .i64 an, .int .u64 a1, .int .i64 a5, .slice a2 a3 a4, .slice a9 ab ac] 0 ∧
 cellsAt b8 (bo.add 14) [.slice a7 a8 a6, .int .i64 a0] 0 ∧
 Calls Try.prog 26 #[.agg #[.int .i64 aa, .int .i64 an, .int .u64 a1, .int .i64 a5, .slice a2 a3 a4, .slice a9 ab ac]] b8 fun bn bh => ∃ (b2 : Int) (b9 : Int) (aj : Int) (av : Int) (ak : Option Addr) (ah : Nat) (ai : Nat) (b5 : Option Addr) (b0 : Nat) (b3 : Nat), bn = .returned (.agg #[.int .i64 b2, .int .i64 b9, .int .u64 aj, .int .i64 av, .slice ak ah ai, .slice b5 b0 b3]) ∧
 cellsAt bh (bo.add 14) [.slice a7 a8 a6, .int .i64 a0] 0 ∧
 Calls Try.prog 10 #[.agg #[.slice a7 a8 a6, .int .i64 a0], .agg #[.int .i64 b2, .int .i64 b9, .int .u64 aj, .int .i64 av, .slice ak ah ai, .slice b5 b0 b3]] bh fun bt bi => ∃ (bl : Option Addr) (bc : Nat) (bk : Nat) (ap : Int) (ao : Int), bt = .returned (.tuple #[.agg #[.slice bl bc bk, .int .i64 ap], .int .i64 ao]) ∧
 canStore bi ((blk al.heap.size).add 0) ∧
 thenW (bi.setCell ((blk al.heap.size).add 0) (.slice bl bc bk)) fun bd =>
 canStore bd ((blk al.heap.size).add 1) ∧
 thenW (bd.setCell ((blk al.heap.size).add 1) (.int .i64 ap)) fun bw =>
 cachettelaw13_world_do.J6 ao (blk al.heap.size) bu c2 bz R bw)

abbrev cachettelaw13_world_do.J8 (am : Int) (an : Addr) (a0 : Addr) (al : Addr) (aj : Option Addr) (R : Value → World → Prop) (ab : World) : Prop :=
 ∃ (a6 : Int) (aa : Int) (a3 : Int) (a5 : Int) (a2 : Option Addr) (a1 : Nat) (a4 : Nat) (a8 : Option Addr) (a7 : Nat) (a9 : Nat), cellsAt ab an [.int .i64 a6, .int .i64 aa, .int .u64 a3, .int .i64 a5, .slice a2 a1 a4, .slice a8 a7 a9] 0 ∧
 canStore ab (a0.add 0) ∧
 thenW (ab.setCell (a0.add 0) (.int .i64 a6)) fun ad =>
 canStore ad (a0.add 1) ∧
 thenW (ad.setCell (a0.add 1) (.int .i64 aa)) fun af =>
 canStore af (a0.add 2) ∧
 thenW (af.setCell (a0.add 2) (.int .u64 a3)) fun ac =>
 canStore ac (a0.add 3) ∧
 thenW (ac.setCell (a0.add 3) (.int .i64 a5)) fun ah =>
 canStore ah (a0.add 4) ∧
 thenW (ah.setCell (a0.add 4) (.slice a2 a1 a4)) fun ae =>
 canStore ae (a0.add 5) ∧
 thenW (ae.setCell (a0.add 5) (.slice a8 a7 a9)) fun ag =>
 aj.elim False fun ai =>
 canStore ag ((ai.add 22).add 0) ∧
 thenW (ag.setCell ((ai.add 22).add 0) (.int .u64 am)) fun ak =>
 cachettelaw13_world_do.J7 a0 al aj R ak

abbrev cachettelaw13_world_do.J9 (a6 : Int) (a1 : Int) (a4 : Addr) (a5 : Addr) (a2 : Addr) (a3 : Option Addr) (R : Value → World → Prop) (a0 : World) : Prop :=
 bif a6 != 0 then (
 R (.bool true) a0) else (
 cachettelaw13_world_do.J8 a1 a4 a5 a2 a3 R a0)

abbrev cachettelaw13_world_do.J10 (bb : Int) (b9 : Int) (b3 : Addr) (b5 : Int) (b8 : Int) (b4 : Addr) (ba : Addr) (b6 : Addr) (b7 : Option Addr) (R : Value → World → Prop) (b1 : World) : Prop :=
 thenW (b1.drew) fun ai =>
 bif b8 != b9 then (
 R (.bool false) ai) else (
 bif b5 != bb then (
 R (.bool false) ai) else (
 ∃ (ao : Int) (au : Int) (a9 : Int) (ah : Int) (aa : Option Addr) (ad : Nat) (ab : Nat) (ap : Option Addr) (al : Nat) (am : Nat), cellsAt ai b4 [.int .i64 ao, .int .i64 au, .int .u64 a9, .int .i64 ah, .slice aa ad ab, .slice ap al am] 0 ∧
 ∃ (a5 : Int) (aj : Int) (a1 : Int) (a4 : Int) (a3 : Option Addr) (a2 : Nat) (a0 : Nat) (a8 : Option Addr) (a7 : Nat) (a6 : Nat), cellsAt ai b3 [.int .i64 a5, .int .i64 aj, .int .u64 a1, .int .i64 a4, .slice a3 a2 a0, .slice a8 a7 a6] 0 ∧
 Calls Try.prog 15 #[.agg #[.int .i64 ao, .int .i64 au, .int .u64 a9, .int .i64 ah, .slice aa ad ab, .slice ap al am]] ai fun b0 az => ∃ (av : Int) (ax : Int) (af : Int) (an : Int) (ae : Option Addr) (ag : Nat) (ak : Nat) (aq : Option Addr) (aw : Nat) (ar : Nat), b0 = .returned (.agg #[.int .i64 av, .int .i64 ax, .int .u64 af, .int .i64 an, .slice ae ag ak, .slice aq aw ar]) ∧
 cellsAt az b3 [.int .i64 a5, .int .i64 aj, .int .u64 a1, .int .i64 a4, .slice a3 a2 a0, .slice a8 a7 a6] 0 ∧
 Calls Try.prog 25 #[.agg #[.int .i64 av, .int .i64 ax, .int .u64 af, .int .i64 an, .slice ae ag ak, .slice aq aw ar], .agg #[.int .i64 a5, .int .i64 aj, .int .u64 a1, .int .i64 a4, .slice a3 a2 a0, .slice a8 a7 a6]] az fun b2 ay => ∃ (ac : Bool), b2 = .returned (.bool ac) ∧
 bif !ac then (
 R (.bool false) ay) else (
 cachettelaw13_world_do.J9 bb b9 b3 ba b6 b7 R ay)))

abbrev cachettelaw13_world_do.J11 (bg : Int) (be : Int) (bl : Addr) (bh : Addr) (bn : Addr) (az : Option Addr) (R : Value → World → Prop) (bj : World) : Prop :=
 thenW (bj.drew) fun a0 =>
 az.elim False fun bf =>
 ∃ (b5 : Option Addr), a0.cell? (bf.add 1) = some (.pointer b5) ∧
 az.elim False fun bk =>
 ∃ (ai : Option Addr) (ah : Nat) (ak : Nat) (a2 : Int), cellsAt a0 (bk.add 16) [.slice ai ah ak, .int .i64 a2] 0 ∧
 az.elim False fun bo =>
 ∃ (a3 : Int), a0.cell? (bo.add 22) = some (.int .u64 a3) ∧
 (Calls Try.prog 24 #[.pointer b5, .agg #[.slice ai ah ak, .int .i64 a2], .int .u64 a3] a0 fun bm a1 => ∃ (aq : Int) (b1 : Int) (aa : Int) (ao : Int) (ab : Option Addr) (ae : Nat) (ag : Nat) (ar : Option Addr) (aw : Nat) (av : Nat) (af : Int) (ac : Int), bm = .returned (.tuple #[.agg #[.int .i64 aq, .int .i64 b1, .int .u64 aa, .int .i64 ao, .slice ab ae ag, .slice ar aw av], .int .u64 af, .int .i64 ac]) ∧
 thenW (a1.alloc (.cells #[.int .i64 0, .int .i64 0, .int .u64 0, .int .i64 0, .slice none 0 0, .slice none 0 0] 67)) fun b6 =>
 canStore b6 ((blk a1.heap.size).add 0) ∧
 thenW (b6.setCell ((blk a1.heap.size).add 0) (.int .i64 aq)) fun ba =>
 canStore ba ((blk a1.heap.size).add 1) ∧
 thenW (ba.setCell ((blk a1.heap.size).add 1) (.int .i64 b1)) fun bb =>
 canStore bb ((blk a1.heap.size).add 2) ∧
 thenW (bb.setCell ((blk a1.heap.size).add 2) (.int .u64 aa)) fun b9 =>
 canStore b9 ((blk a1.heap.size).add 3) ∧
 thenW (b9.setCell ((blk a1.heap.size).add 3) (.int .i64 ao)) fun b8 =>
 canStore b8 ((blk a1.heap.size).add 4) ∧
 thenW (b8.setCell ((blk a1.heap.size).add 4) (.slice ab ae ag)) fun b7 =>
 canStore b7 ((blk a1.heap.size).add 5) ∧
 thenW (b7.setCell ((blk a1.heap.size).add 5) (.slice ar aw av)) fun bi =>
 cachettelaw13_world_do.J10 ac af (blk a1.heap.size) bg be bl bh bn az R bi) ∧
 (thenW (a0.alloc (.cells #[.int .i64 0, .int .i64 0, .int .u64 0, .int .i64 0, .slice none 0 0, .slice none 0 0] 67)) fun aj =>
 aj.cell? (bo.add 22) = some (.int .u64 a3) ∧
 cellsAt aj (bk.add 16) [.slice ai ah ak, .int .i64 a2] 0 ∧
 aj.cell? (bf.add 1) = some (.pointer b5) ∧
 Calls Try.prog 24 #[.pointer b5, .agg #[.slice ai ah ak, .int .i64 a2], .int .u64 a3] aj fun bc ax => ∃ (ap : Int) (au : Int) (a8 : Int) (ad : Int) (a5 : Option Addr) (a6 : Nat) (a7 : Nat) (an : Option Addr) (al : Nat) (am : Nat) (a9 : Int) (a4 : Int), bc = .returned (.tuple #[.agg #[.int .i64 ap, .int .i64 au, .int .u64 a8, .int .i64 ad, .slice a5 a6 a7, .slice an al am], .int .u64 a9, .int .i64 a4]) ∧
 canStore ax ((blk a0.heap.size).add 0) ∧
 thenW (ax.setCell ((blk a0.heap.size).add 0) (.int .i64 ap)) fun ay =>
 canStore ay ((blk a0.heap.size).add 1) ∧
 thenW (ay.setCell ((blk a0.heap.size).add 1) (.int .i64 au)) fun b2 =>
 canStore b2 ((blk a0.heap.size).add 2) ∧
 thenW (b2.setCell ((blk a0.heap.size).add 2) (.int .u64 a8)) fun b0 =>
 canStore b0 ((blk a0.heap.size).add 3) ∧
 thenW (b0.setCell ((blk a0.heap.size).add 3) (.int .i64 ad)) fun b3 =>
 canStore b3 ((blk a0.heap.size).add 4) ∧
 thenW (b3.setCell ((blk a0.heap.size).add 4) (.slice a5 a6 a7)) fun b4 =>
 canStore b4 ((blk a0.heap.size).add 5) ∧
 thenW (b4.setCell ((blk a0.heap.size).add 5) (.slice an al am)) fun bd =>
 cachettelaw13_world_do.J10 a4 a9 (blk a0.heap.size) bg be bl bh bn az R bd)

def cachettelaw13_world_do.M (b8 : Option Addr) (c9 : Int) (ck : Int) (be : Int) (ba : Option Addr) (bb : Nat) (bf : Nat) (cb : Option Addr) (c7 : Nat) (c8 : Nat) (R : Value → World → Prop) (w : World) : Prop :=
 thenW (w.alloc (.cells #[.int .i64 c9, .int .i64 ck, .int .u64 be, .slice ba bb bf, .slice cb c7 c8] 31)) fun a1 =>
 ∃ (cm : Int), a1.cell? ((blk w.heap.size).add 1) = some (.int .i64 cm) ∧
 ∃ (b1 : Int), a1.cell? ((blk w.heap.size).add 2) = some (.int .u64 b1) ∧
 thenW (a1.alloc (.cells #[.int .i64 0, .int .i64 0, .int .u64 0, .int .i64 0, .slice none 0 0, .slice none 0 0] 67)) fun cd =>
 canStore cd ((blk a1.heap.size).add 0) ∧
 thenW (cd.setCell ((blk a1.heap.size).add 0) (.int .i64 1)) fun cf =>
 canStore cf ((blk a1.heap.size).add 1) ∧
 thenW (cf.setCell ((blk a1.heap.size).add 1) (.int .i64 cm)) fun ci =>
 canStore ci ((blk a1.heap.size).add 2) ∧
 thenW (ci.setCell ((blk a1.heap.size).add 2) (.int .u64 b1)) fun cl =>
 canStore cl ((blk a1.heap.size).add 3) ∧
 thenW (cl.setCell ((blk a1.heap.size).add 3) (.int .i64 0)) fun co =>
 canStore co ((blk a1.heap.size).add 4) ∧
 thenW (co.setCell ((blk a1.heap.size).add 4) (.slice none 0 0)) fun cp =>
 canStore cp ((blk a1.heap.size).add 5) ∧
 thenW (cp.setCell ((blk a1.heap.size).add 5) (.slice none 0 0)) fun a4 =>
 ∃ (ad : Int), a4.cell? ((blk w.heap.size).add 0) = some (.int .i64 ad) ∧
 bif ad == 0 then (
 ∃ (bu : Int), a4.cell? ((blk w.heap.size).add 1) = some (.int .i64 bu) ∧
 bif decide (bu ≥ 0) then (
 ∃ (bz : Int), a4.cell? ((blk w.heap.size).add 1) = some (.int .i64 bz) ∧
 bif decide (bz < 4) then (
 thenW (a4.drew) fun br =>
 ∃ (b5 : Int), br.cell? ((blk w.heap.size).add 1) = some (.int .i64 b5) ∧
 b8.elim False fun ct =>
 0 ≤ (b5 : Int) ∧ (b5 : Int) < (4 : Int) ∧
 ∃ (cs : Int), br.cell? ((ct.add 2).add (Int.toNat b5 * 1)) = some (.int .u64 cs) ∧
 canStore br (((blk a1.heap.size).add 2).add 0) ∧
 thenW (br.setCell (((blk a1.heap.size).add 2).add 0) (.int .u64 cs)) fun cr =>
 cachettelaw13_world_do.J7 (blk a1.heap.size) (blk w.heap.size) b8 R cr) else (
 cachettelaw13_world_do.J7 (blk a1.heap.size) (blk w.heap.size) b8 R a4)) else (
 cachettelaw13_world_do.J7 (blk a1.heap.size) (blk w.heap.size) b8 R a4)) else (
 bif ad == 2 then (
 ∃ (bn : Int), a4.cell? ((blk w.heap.size).add 1) = some (.int .i64 bn) ∧
 canStore a4 ((blk a1.heap.size).add 0) ∧
 thenW (a4.setCell ((blk a1.heap.size).add 0) (.int .i64 2)) fun c1 =>
 canStore c1 ((blk a1.heap.size).add 1) ∧
 thenW (c1.setCell ((blk a1.heap.size).add 1) (.int .i64 bn)) fun c4 =>
 canStore c4 ((blk a1.heap.size).add 2) ∧
 thenW (c4.setCell ((blk a1.heap.size).add 2) (.int .u64 0)) fun bt =>
 canStore bt ((blk a1.heap.size).add 3) ∧
 thenW (bt.setCell ((blk a1.heap.size).add 3) (.int .i64 0)) fun c3 =>
 canStore c3 ((blk a1.heap.size).add 4) ∧
 thenW (c3.setCell ((blk a1.heap.size).add 4) (.slice none 0 0)) fun bs =>
 canStore bs ((blk a1.heap.size).add 5) ∧
 thenW (bs.setCell ((blk a1.heap.size).add 5) (.slice none 0 0)) fun cn =>
 cachettelaw13_world_do.J7 (blk a1.heap.size) (blk w.heap.size) b8 R cn) else (
 bif ad == 3 then (
 thenW (a4.drew) fun a0 =>
 b8.elim False fun ce =>
 ∃ (bq : Option Addr), a0.cell? (ce.add 0) = some (.pointer bq) ∧
 b8.elim False fun cg =>
 ∃ (an : Option Addr) (ao : Nat) (ap : Nat) (a3 : Int), cellsAt a0 (cg.add 14) [.slice an ao ap, .int .i64 a3] 0 ∧
 b8.elim False fun cq =>
 ∃ (a5 : Int), a0.cell? (cq.add 22) = some (.int .u64 a5) ∧
 (Calls Try.prog 9 #[.pointer bq, .agg #[.slice an ao ap, .int .i64 a3], .int .u64 a5] a0 fun ch a2 => ∃ (b3 : Int) (bg : Int) (ak : Int) (av : Int) (al : Option Addr) (am : Nat) (ai : Nat) (b7 : Option Addr) (b4 : Nat) (b6 : Nat) (ah : Int) (ag : Int), ch = .returned (.tuple #[.agg #[.int .i64 b3, .int .i64 bg, .int .u64 ak, .int .i64 av, .slice al am ai, .slice b7 b4 b6], .int .u64 ah, .int .i64 ag]) ∧
 thenW (a2.alloc (.cells #[.int .i64 0, .int .i64 0, .int .u64 0, .int .i64 0, .slice none 0 0, .slice none 0 0] 52)) fun bx =>
 canStore bx ((blk a2.heap.size).add 0) ∧
 thenW (bx.setCell ((blk a2.heap.size).add 0) (.int .i64 b3)) fun c0 =>
 canStore c0 ((blk a2.heap.size).add 1) ∧
 thenW (c0.setCell ((blk a2.heap.size).add 1) (.int .i64 bg)) fun c5 =>
 canStore c5 ((blk a2.heap.size).add 2) ∧
 thenW (c5.setCell ((blk a2.heap.size).add 2) (.int .u64 ak)) fun c2 =>
 canStore c2 ((blk a2.heap.size).add 3) ∧
 thenW (c2.setCell ((blk a2.heap.size).add 3) (.int .i64 av)) fun bw =>
 canStore bw ((blk a2.heap.size).add 4) ∧
 thenW (bw.setCell ((blk a2.heap.size).add 4) (.slice al am ai)) fun bv =>
 canStore bv ((blk a2.heap.size).add 5) ∧
 thenW (bv.setCell ((blk a2.heap.size).add 5) (.slice b7 b4 b6)) fun cj =>
 cachettelaw13_world_do.J11 ag ah (blk a2.heap.size) (blk a1.heap.size) (blk w.heap.size) b8 R cj) ∧
 (thenW (a0.alloc (.cells #[.int .i64 0, .int .i64 0, .int .u64 0, .int .i64 0, .slice none 0 0, .slice none 0 0] 52)) fun aq =>
 aq.cell? (cq.add 22) = some (.int .u64 a5) ∧
 cellsAt aq (cg.add 14) [.slice an ao ap, .int .i64 a3] 0 ∧
 aq.cell? (ce.add 0) = some (.pointer bq) ∧
 Calls Try.prog 9 #[.pointer bq, .agg #[.slice an ao ap, .int .i64 a3], .int .u64 a5] aq fun c6 bj => ∃ (au : Int) (b2 : Int) (ab : Int) (aj : Int) (ac : Option Addr) (a9 : Nat) (af : Nat) (ay : Option Addr) (az : Nat) (b0 : Nat) (ae : Int) (a6 : Int), c6 = .returned (.tuple #[.agg #[.int .i64 au, .int .i64 b2, .int .u64 ab, .int .i64 aj, .slice ac a9 af, .slice ay az b0], .int .u64 ae, .int .i64 a6]) ∧
 canStore bj ((blk a0.heap.size).add 0) ∧
 thenW (bj.setCell ((blk a0.heap.size).add 0) (.int .i64 au)) fun bm =>
 canStore bm ((blk a0.heap.size).add 1) ∧
 thenW (bm.setCell ((blk a0.heap.size).add 1) (.int .i64 b2)) fun bp =>
 canStore bp ((blk a0.heap.size).add 2) ∧
 thenW (bp.setCell ((blk a0.heap.size).add 2) (.int .u64 ab)) fun bl =>
 canStore bl ((blk a0.heap.size).add 3) ∧
 thenW (bl.setCell ((blk a0.heap.size).add 3) (.int .i64 aj)) fun bh =>
 canStore bh ((blk a0.heap.size).add 4) ∧
 thenW (bh.setCell ((blk a0.heap.size).add 4) (.slice ac a9 af)) fun b9 =>
 canStore b9 ((blk a0.heap.size).add 5) ∧
 thenW (b9.setCell ((blk a0.heap.size).add 5) (.slice ay az b0)) fun ca =>
 cachettelaw13_world_do.J11 a6 ae (blk a0.heap.size) (blk a1.heap.size) (blk w.heap.size) b8 R ca)) else (
 bif ad == 4 then (
 ∃ (aa : Option Addr) (a8 : Nat) (a7 : Nat), a4.cell? ((blk w.heap.size).add 3) = some (.slice aa a8 a7) ∧
 ∃ (ax : Option Addr) (ar : Nat) (aw : Nat), a4.cell? ((blk w.heap.size).add 4) = some (.slice ax ar aw) ∧
 canStore a4 ((blk a1.heap.size).add 0) ∧
 thenW (a4.setCell ((blk a1.heap.size).add 0) (.int .i64 3)) fun bc =>
 canStore bc ((blk a1.heap.size).add 1) ∧
 thenW (bc.setCell ((blk a1.heap.size).add 1) (.int .i64 0)) fun bi =>
 canStore bi ((blk a1.heap.size).add 2) ∧
 thenW (bi.setCell ((blk a1.heap.size).add 2) (.int .u64 0)) fun bd =>
 canStore bd ((blk a1.heap.size).add 3) ∧
 thenW (bd.setCell ((blk a1.heap.size).add 3) (.int .i64 0)) fun bk =>
 canStore bk ((blk a1.heap.size).add 4) ∧
 thenW (bk.setCell ((blk a1.heap.size).add 4) (.slice aa a8 a7)) fun bo =>
 canStore bo ((blk a1.heap.size).add 5) ∧
 thenW (bo.setCell ((blk a1.heap.size).add 5) (.slice ax ar aw)) fun cc =>
 cachettelaw13_world_do.J7 (blk a1.heap.size) (blk w.heap.size) b8 R cc) else (
 cachettelaw13_world_do.J7 (blk a1.heap.size) (blk w.heap.size) b8 R a4))))

theorem cachettelaw13_world_do.eq (wv1 : Option Addr) (xKind2 : Int) (xWho3 : Int) (xPublic4 : Int) (xWraps5a : Option Addr) (xWraps5n : Nat) (xWraps5c : Nat) (xOld6a : Option Addr) (xOld6n : Nat) (xOld6c : Nat) (R : Value → World → Prop) (w : World) : mfunc Try.prog [(1, [0, 5], [(16, (.one (.int .i64)))])] 7 [.pointer wv1, .agg #[.int .i64 xKind2, .int .i64 xWho3, .int .u64 xPublic4, .slice xWraps5a xWraps5n xWraps5c, .slice xOld6a xOld6n xOld6c]] R w = cachettelaw13_world_do.M wv1 xKind2 xWho3 xPublic4 xWraps5a xWraps5n xWraps5c xOld6a xOld6n xOld6c R w := by kernel_rfl
theorem cachettelaw13_world_do.ok (a9 : Option Addr) (a4 : Int) (a8 : Int) (a2 : Int) (a1 : Option Addr) (a0 : Nat) (a3 : Nat) (a6 : Option Addr) (a7 : Nat) (a5 : Nat) {R : Value → World → Prop} {w : World} (h : cachettelaw13_world_do.M a9 a4 a8 a2 a1 a0 a3 a6 a7 a5 R w) : Calls Try.prog 7 #[.pointer a9, .agg #[.int .i64 a4, .int .i64 a8, .int .u64 a2, .slice a1 a0 a3, .slice a6 a7 a5]] w fun e w' => ∃ v, e = .returned v ∧ R v w' :=
  mfunc_ok follows (H := [(1, [0, 5], [(16, (.one (.int .i64)))])]) (args := [.pointer a9, .agg #[.int .i64 a4, .int .i64 a8, .int .u64 a2, .slice a1 a0 a3, .slice a6 a7 a5]]) (by rw [cachettelaw13_world_do.eq]; exact h)

def do0.N (d8 : Option Addr) (a8 : Int) (ce : Int) (ca : Option Addr) (cc : Nat) (cf : Nat) (d5 : Option Addr) (d1 : Nat) (d3 : Nat) (R : Value → World → Prop) (w : World) : Prop :=
 ∃ a2 : Addr, d8 = some a2 ∧
 0 ≤ (a8 : Int) ∧ (a8 : Int) < (4 : Int) ∧
 ∃ (c6 : Int), w.cell? ((a2.add 2).add (Int.toNat a8 * 1)) = some (.int .u64 c6) ∧
 ∃ (ag : Option Addr) (ae : Nat) (ac : Nat) (a1 : Int), cellsAt w (a2.add 14) [.slice ag ae ac, .int .i64 a1] 0 ∧
 (∀ (br : World) (c5 : List Nat), Ext no w br → Priv w br c5 →
 Calls Try.prog 26 #[.agg #[.int .i64 1, .int .i64 a8, .int .u64 c6, .int .i64 0, .slice none 0 0, .slice none 0 0]] br fun d4 b9 => ∃ (b1 : Int) (bf : Int) (a9 : Int) (am : Int) (ad : Option Addr) (ah : Nat) (af : Nat) (b0 : Option Addr) (az : Nat) (b2 : Nat), d4 = .returned (.agg #[.int .i64 b1, .int .i64 bf, .int .u64 a9, .int .i64 am, .slice ad ah af, .slice b0 az b2]) ∧
 Keep c5 br b9 ∧
 cellsAt b9 (a2.add 14) [.slice ag ae ac, .int .i64 a1] 0 ∧
 (∀ (bv : World) (cw : List Nat), Ext (fun b => b ∈ c5) b9 bv → PrivJ c5 b9 bv cw →
 Calls Try.prog 10 #[.agg #[.slice ag ae ac, .int .i64 a1], .agg #[.int .i64 b1, .int .i64 bf, .int .u64 a9, .int .i64 am, .slice ad ah af, .slice b0 az b2]] bv fun cx ak => ∃ (ci : Option Addr) (c9 : Nat) (cm : Nat) (b6 : Int) (aj : Int), cx = .returned (.tuple #[.agg #[.slice ci c9 cm, .int .i64 b6], .int .i64 aj]) ∧
 Keep cw bv ak ∧
 ∀ (a6 : World) (bq : Nat) (co : Nat), Ext (fun b => b ∈ cw) ak a6 → PrivJ cw ak a6 [bq, co] →
 ∃ (au : Option Addr) (ar : Nat) (ax : Nat) (a3 : Int), cellsAt a6 (a2.add 16) [.slice au ar ax, .int .i64 a3] 0 ∧
 ∀ (aa : World) (b8 : List Nat), Ext no a6 aa → Priv a6 aa b8 →
 Calls Try.prog 14 #[.agg #[.slice au ar ax, .int .i64 a3], .agg #[.int .i64 1, .int .i64 a8, .int .u64 c6, .int .i64 0, .slice none 0 0, .slice none 0 0]] aa fun c2 a7 => ∃ (bo : Option Addr) (bm : Nat) (bd : Nat) (a5 : Int) (a0 : Int), c2 = .returned (.tuple #[.agg #[.slice bo bm bd, .int .i64 a5], .int .i64 a0]) ∧
 Keep b8 aa a7 ∧
 Keep [bq, co] aa a7 ∧
 (aj ≠ a0 →
 ∀ (bg : World), Ext (fun b => b ∈ b8) a7 bg →
 R (.bool false) bg) ∧
 (aj = a0 →
 (a0 = 0 →
 ∀ (ab : World) (cp : Nat), Ext (fun b => b ∈ b8) a7 ab → PrivJ b8 a7 ab [cp] →
 canStore ab ((a2.add 14).add 0) ∧
 (∀ p ∈ [bq, cp], p ≠ Addr.block (a2.add 14)) ∧
 thenW (ab.setCell ((a2.add 14).add 0) (.slice ci c9 cm)) fun be =>
 canStore be ((a2.add 14).add 1) ∧
 thenW (be.setCell ((a2.add 14).add 1) (.int .i64 b6)) fun aw =>
 canStore aw ((a2.add 16).add 0) ∧
 (∀ p ∈ [bq], p ≠ Addr.block (a2.add 16)) ∧
 thenW (aw.setCell ((a2.add 16).add 0) (.slice bo bm bd)) fun an =>
 canStore an ((a2.add 16).add 1) ∧
 thenW (an.setCell ((a2.add 16).add 1) (.int .i64 a5)) fun bb =>
 R (.bool true) bb) ∧
 (a0 ≠ 0 →
 ∀ (bc : World), Ext (fun b => b ∈ b8) a7 bc →
 R (.bool true) bc))) ∧
 (∀ (bl : World) (ck : Nat) (cv : Nat), Ext (fun b => b ∈ c5) b9 bl → PrivJ c5 b9 bl [ck, cv] →
 cellsAt bl (a2.add 14) [.slice ag ae ac, .int .i64 a1] 0 ∧
 ∀ (ak : World) (cy : List Nat), Ext no bl ak → Priv bl ak cy →
 Calls Try.prog 10 #[.agg #[.slice ag ae ac, .int .i64 a1], .agg #[.int .i64 b1, .int .i64 bf, .int .u64 a9, .int .i64 am, .slice ad ah af, .slice b0 az b2]] ak fun cz c4 => ∃ (cq : Option Addr) (cd : Nat) (cn : Nat) (b5 : Int) (al : Int), cz = .returned (.tuple #[.agg #[.slice cq cd cn, .int .i64 b5], .int .i64 al]) ∧
 Keep cy ak c4 ∧
 Keep [ck, cv] ak c4 ∧
 ∀ (cs : World), Ext (fun b => b ∈ cy) c4 cs →
 ∀ (bp : World), Ext (fun b => b = cv) cs bp →
 ∃ (bx : Option Addr) (bz : Nat) (c0 : Nat) (ay : Int), cellsAt bp (a2.add 16) [.slice bx bz c0, .int .i64 ay] 0 ∧
 ∀ (bk : World) (c7 : List Nat), Ext no bp bk → Priv bp bk c7 →
 Calls Try.prog 14 #[.agg #[.slice bx bz c0, .int .i64 ay], .agg #[.int .i64 1, .int .i64 a8, .int .u64 c6, .int .i64 0, .slice none 0 0, .slice none 0 0]] bk fun d0 ba => ∃ (cl : Option Addr) (cr : Nat) (cg : Nat) (b3 : Int) (a4 : Int), d0 = .returned (.tuple #[.agg #[.slice cl cr cg, .int .i64 b3], .int .i64 a4]) ∧
 Keep c7 bk ba ∧
 Keep [ck, cv] bk ba ∧
 (al ≠ a4 →
 ∀ (c8 : World), Ext (fun b => b ∈ c7) ba c8 →
 R (.bool false) c8) ∧
 (al = a4 →
 (a4 = 0 →
 ∀ (bt : World) (d7 : Nat), Ext (fun b => b ∈ c7) ba bt → PrivJ c7 ba bt [d7] →
 canStore bt ((a2.add 14).add 0) ∧
 (∀ p ∈ [ck, d7], p ≠ Addr.block (a2.add 14)) ∧
 thenW (bt.setCell ((a2.add 14).add 0) (.slice cq cd cn)) fun aw =>
 canStore aw ((a2.add 14).add 1) ∧
 thenW (aw.setCell ((a2.add 14).add 1) (.int .i64 b5)) fun an =>
 canStore an ((a2.add 16).add 0) ∧
 (∀ p ∈ [ck], p ≠ Addr.block (a2.add 16)) ∧
 thenW (an.setCell ((a2.add 16).add 0) (.slice cl cr cg)) fun bb =>
 canStore bb ((a2.add 16).add 1) ∧
 thenW (bb.setCell ((a2.add 16).add 1) (.int .i64 b3)) fun ab =>
 R (.bool true) ab) ∧
 (a4 ≠ 0 →
 ∀ (a6 : World), Ext (fun b => b ∈ c7) ba a6 →
 R (.bool true) a6)))) ∧
 (∀ (bu : World) (ct : List Nat), Ext no w bu → Priv w bu ct →
 Calls Try.prog 26 #[.agg #[.int .i64 1, .int .i64 a8, .int .u64 c6, .int .i64 0, .slice none 0 0, .slice none 0 0]] bu fun d6 bw => ∃ (bn : Int) (c1 : Int) (ao : Int) (b4 : Int) (ap : Option Addr) (av : Nat) (aq : Nat) (bi : Option Addr) (bh : Nat) (bj : Nat), d6 = .returned (.agg #[.int .i64 bn, .int .i64 c1, .int .u64 ao, .int .i64 b4, .slice ap av aq, .slice bi bh bj]) ∧
 Keep ct bu bw ∧
 cellsAt bw (a2.add 14) [.slice ag ae ac, .int .i64 a1] 0 ∧
 ∀ (bs : World) (cu : List Nat), Ext (fun b => b ∈ ct) bw bs → PrivJ ct bw bs cu →
 Calls Try.prog 10 #[.agg #[.slice ag ae ac, .int .i64 a1], .agg #[.int .i64 bn, .int .i64 c1, .int .u64 ao, .int .i64 b4, .slice ap av aq, .slice bi bh bj]] bs fun d2 c3 => ∃ (cb : Option Addr) (cj : Nat) (ch : Nat) (b7 : Int) (ai : Int), d2 = .returned (.tuple #[.agg #[.slice cb cj ch, .int .i64 b7], .int .i64 ai]) ∧
 Keep cu bs c3 ∧
 ∀ (a6 : World) (bq : Nat) (co : Nat), Ext (fun b => b ∈ cu) c3 a6 → PrivJ cu c3 a6 [bq, co] →
 ∃ (au : Option Addr) (ar : Nat) (ax : Nat) (a3 : Int), cellsAt a6 (a2.add 16) [.slice au ar ax, .int .i64 a3] 0 ∧
 ∀ (aa : World) (b8 : List Nat), Ext no a6 aa → Priv a6 aa b8 →
 Calls Try.prog 14 #[.agg #[.slice au ar ax, .int .i64 a3], .agg #[.int .i64 1, .int .i64 a8, .int .u64 c6, .int .i64 0, .slice none 0 0, .slice none 0 0]] aa fun c2 a7 => ∃ (bo : Option Addr) (bm : Nat) (bd : Nat) (a5 : Int) (a0 : Int), c2 = .returned (.tuple #[.agg #[.slice bo bm bd, .int .i64 a5], .int .i64 a0]) ∧
 Keep b8 aa a7 ∧
 Keep [bq, co] aa a7 ∧
 (ai ≠ a0 →
 ∀ (bg : World), Ext (fun b => b ∈ b8) a7 bg →
 R (.bool false) bg) ∧
 (ai = a0 →
 (a0 = 0 →
 ∀ (ab : World) (cp : Nat), Ext (fun b => b ∈ b8) a7 ab → PrivJ b8 a7 ab [cp] →
 canStore ab ((a2.add 14).add 0) ∧
 (∀ p ∈ [bq, cp], p ≠ Addr.block (a2.add 14)) ∧
 thenW (ab.setCell ((a2.add 14).add 0) (.slice cb cj ch)) fun be =>
 canStore be ((a2.add 14).add 1) ∧
 thenW (be.setCell ((a2.add 14).add 1) (.int .i64 b7)) fun aw =>
 canStore aw ((a2.add 16).add 0) ∧
 (∀ p ∈ [bq], p ≠ Addr.block (a2.add 16)) ∧
 thenW (aw.setCell ((a2.add 16).add 0) (.slice bo bm bd)) fun an =>
 canStore an ((a2.add 16).add 1) ∧
 thenW (an.setCell ((a2.add 16).add 1) (.int .i64 a5)) fun bb =>
 R (.bool true) bb) ∧
 (a0 ≠ 0 →
 ∀ (bc : World), Ext (fun b => b ∈ b8) a7 bc →
 R (.bool true) bc)))

theorem do0.up (ew : Option Addr) (a4 : Int) (a8 : Int) (ax : Option Addr) (ay : Nat) (az : Nat) (bt : Option Addr) (bl : Nat) (bm : Nat) (f7 : decide (a4 ≥ 0) = true) (f9 : decide (a4 < 4) = true) {R : Value → World → Prop} {w : World} (h : do0.N ew a4 a8 ax ay az bt bl bm R w) : cachettelaw13_world_do.M ew 0 a4 a8 ax ay az bt bl bm R w := by
  unfold cachettelaw13_world_do.M
  unfold do0.N at h
  refine thenW_in fun ac e7 => ?_
  have a9 := Blk.of_new e7
  have ev := ((Ext.refl no w)).size
  have et := (Ext.refl no w).x_alloc e7
  refine ⟨a4, a9.celli 1 rfl rfl, ?_⟩
  refine ⟨a8, a9.celli 2 rfl rfl, ?_⟩
  refine thenW_in fun fe e8 => ?_
  have a0 := Blk.of_new e8
  have c6 := (et).size
  have am := Nat.ne_of_lt a9.lt
  have a9 := a9.x_alloc e8
  have fa := et.x_alloc e8
  refine ⟨a0.cani 0 rfl rfl, thenW_in fun f0 e9 => ?_⟩
  have f2 := fa.x_set (q := ac.heap.size) (i := 0) rfl (.inr c6) e9
  have a9 := a9.oth (q := ac.heap.size) (i := 0) rfl am e9
  have a0 : Blk f0 ac.heap.size 67 [.int .i64 1, .int .i64 0, .int .u64 0, .int .i64 0, .slice none 0 0, .slice none 0 0] := a0.seti 0 rfl e9
  refine ⟨a0.cani 1 rfl rfl, thenW_in fun dl ef => ?_⟩
  have ed := f2.x_set (q := ac.heap.size) (i := 1) rfl (.inr c6) ef
  have a9 := a9.oth (q := ac.heap.size) (i := 1) rfl am ef
  have a0 : Blk dl ac.heap.size 67 [.int .i64 1, .int .i64 a4, .int .u64 0, .int .i64 0, .slice none 0 0, .slice none 0 0] := a0.seti 1 rfl ef
  refine ⟨a0.cani 2 rfl rfl, thenW_in fun dy e5 => ?_⟩
  have dw := ed.x_set (q := ac.heap.size) (i := 2) rfl (.inr c6) e5
  have a9 := a9.oth (q := ac.heap.size) (i := 2) rfl am e5
  have a0 : Blk dy ac.heap.size 67 [.int .i64 1, .int .i64 a4, .int .u64 a8, .int .i64 0, .slice none 0 0, .slice none 0 0] := a0.seti 2 rfl e5
  refine ⟨a0.cani 3 rfl rfl, thenW_in fun eb ds => ?_⟩
  have e6 := dw.x_set (q := ac.heap.size) (i := 3) rfl (.inr c6) ds
  have a9 := a9.oth (q := ac.heap.size) (i := 3) rfl am ds
  have a0 : Blk eb ac.heap.size 67 [.int .i64 1, .int .i64 a4, .int .u64 a8, .int .i64 0, .slice none 0 0, .slice none 0 0] := a0.seti 3 rfl ds
  refine ⟨a0.cani 4 rfl rfl, thenW_in fun ei e2 => ?_⟩
  have es := e6.x_set (q := ac.heap.size) (i := 4) rfl (.inr c6) e2
  have a9 := a9.oth (q := ac.heap.size) (i := 4) rfl am e2
  have a0 : Blk ei ac.heap.size 67 [.int .i64 1, .int .i64 a4, .int .u64 a8, .int .i64 0, .slice none 0 0, .slice none 0 0] := a0.seti 4 rfl e2
  refine ⟨a0.cani 5 rfl rfl, thenW_in fun eo ea => ?_⟩
  have el := es.x_set (q := ac.heap.size) (i := 5) rfl (.inr c6) ea
  have a9 := a9.oth (q := ac.heap.size) (i := 5) rfl am ea
  have a0 : Blk eo ac.heap.size 67 [.int .i64 1, .int .i64 a4, .int .u64 a8, .int .i64 0, .slice none 0 0, .slice none 0 0] := a0.seti 5 rfl ea
  refine ⟨0, a9.celli 0 rfl rfl, ?_⟩
  refine bif_tt (by decide) ?_
  refine ⟨a4, a9.celli 1 rfl rfl, ?_⟩
  refine bif_tt f7 ?_
  refine ⟨a4, a9.celli 1 rfl rfl, ?_⟩
  refine bif_tt f9 ?_
  refine thenW_in fun fb e3 => ?_
  have d3 := el.x_drew e3
  have a9 := a9.x_drew e3
  have a0 := a0.x_drew e3
  refine ⟨a4, a9.celli 1 rfl rfl, ?_⟩
  obtain ⟨fd, aj, h⟩ := h
  refine elim_some aj ?_
  obtain ⟨ey, f3, h⟩ := h
  refine ⟨ey, f3, ?_⟩
  obtain ⟨d1, dn, h⟩ := h
  refine ⟨d1, (d3).cell dn id, ?_⟩
  refine ⟨a0.cani 2 rfl rfl, thenW_in fun du dm => ?_⟩
  have ec := d3.x_set (q := ac.heap.size) (i := 2) rfl (.inr c6) dm
  have a9 := a9.oth (q := ac.heap.size) (i := 2) rfl am dm
  have a0 : Blk du ac.heap.size 67 [.int .i64 1, .int .i64 a4, .int .u64 d1, .int .i64 0, .slice none 0 0, .slice none 0 0] := a0.seti 2 rfl dm
  unfold cachettelaw13_world_do.J7
  refine thenW_in fun ap er => ?_
  have c7 := ec.x_drew er
  have a9 := a9.x_drew er
  have a0 := a0.x_drew er
  refine elim_some aj ?_
  obtain ⟨df, de, d6, bf, dg, h⟩ := h
  refine ⟨df, de, d6, bf, cellsAt_no (c7) dg, ?_⟩
  refine ⟨1, a4, d1, 0, none, 0, 0, none, 0, 0, ⟨a0.celli 0 rfl rfl, a0.celli 1 rfl rfl, a0.celli 2 rfl rfl, a0.celli 3 rfl rfl, a0.celli 4 rfl rfl, a0.celli 5 rfl rfl, trivial⟩, ?_⟩
  obtain ⟨h0', h1'⟩ := h
  refine ⟨?_, ?_⟩
  focus
   have h := h0'
   have h := h ap [w.heap.size, ac.heap.size] c7 (Priv.cons ev a9.lt (Priv.cons c6 a0.lt Priv.nil))
   refine h.mono fun f6 ao h => ?_
   obtain ⟨cm, da, bb, cb, bk, bw, bs, cl, cf, cr, he, hkL, h⟩ := h
   refine ⟨cm, da, bb, cb, bk, bw, bs, cl, cf, cr, he, ?_⟩
   have a9 := hkL.blk a9 (by simp)
   have a0 := hkL.blk a0 (by simp)
   obtain ⟨eq, h⟩ := h
   refine ⟨eq, ?_⟩
   obtain ⟨h0', h1'⟩ := h
   refine ⟨?_, ?_⟩
   have h := h0'
   have h := h ao [w.heap.size, ac.heap.size] (Ext.refl (fun b => b ∈ ([w.heap.size, ac.heap.size] : List Nat)) ao) (PrivJ.cons (.inl (by simp)) a9.lt (PrivJ.cons (.inl (by simp)) a0.lt PrivJ.nil))
   refine h.mono fun ex b6 h => ?_
   obtain ⟨ar, aq, av, a7, c3, he, hkL, h⟩ := h
   refine ⟨ar, aq, av, a7, c3, he, ?_⟩
   have a9 := hkL.blk a9 (by simp)
   have a0 := hkL.blk a0 (by simp)
   refine thenW_in fun dc dx => ?_
   have a1 := Blk.of_new dx
   have cw := ((Ext.refl (fun b => b ∈ ([w.heap.size, ac.heap.size] : List Nat)) b6)).size
   have ak := Nat.ne_of_lt a0.lt
   have a0 := a0.x_alloc dx
   have e4 := (Ext.refl (fun b => b ∈ ([w.heap.size, ac.heap.size] : List Nat)) b6).x_alloc dx
   refine ⟨a1.cani 0 rfl rfl, thenW_in fun dv cu => ?_⟩
   have cq := e4.x_set (q := b6.heap.size) (i := 0) rfl (.inr cw) cu
   have a0 := a0.oth (q := b6.heap.size) (i := 0) rfl ak cu
   have a1 := a1.seti 0 rfl cu
   refine ⟨a1.cani 1 rfl rfl, thenW_in fun e0 cx => ?_⟩
   have cv := cq.x_set (q := b6.heap.size) (i := 1) rfl (.inr cw) cx
   have a0 := a0.oth (q := b6.heap.size) (i := 1) rfl ak cx
   have a1 := a1.seti 1 rfl cx
   unfold cachettelaw13_world_do.J6
   refine thenW_in fun a2 cg => ?_
   have cz := cv.x_drew cg
   have a0 := a0.x_drew cg
   have a1 := a1.x_drew cg
   refine elim_some aj ?_
   have h := h a2 (ac.heap.size) (b6.heap.size) cz (PrivJ.cons (.inl (by simp)) a0.lt (PrivJ.cons (.inr cw) a1.lt PrivJ.nil))
   obtain ⟨bq, bp, bv, an, bo, h⟩ := h
   refine ⟨bq, bp, bv, an, bo, ?_⟩
   refine ⟨1, a4, d1, 0, none, 0, 0, none, 0, 0, ⟨a0.celli 0 rfl rfl, a0.celli 1 rfl rfl, a0.celli 2 rfl rfl, a0.celli 3 rfl rfl, a0.celli 4 rfl rfl, a0.celli 5 rfl rfl, trivial⟩, ?_⟩
   refine ⟨?_, ?_⟩
   ·have h := h a2 [] (Ext.refl no a2) Priv.nil
    refine h.mono fun dz aa h => ?_
    obtain ⟨c0, bx, bd, ah, aw, he, hkL, hk, h⟩ := h
    refine ⟨c0, bx, bd, ah, aw, he, ?_⟩
    have a0 := hk.blk a0 (by simp)
    have a1 := hk.blk a1 (by simp)
    refine thenW_in fun af c2 => ?_
    have a3 := Blk.of_new c2
    have b0 := ((Ext.refl (fun b => b ∈ ([] : List Nat)) aa)).size
    have a6 := Nat.ne_of_lt a0.lt
    have a0 := a0.x_alloc c2
    have a5 := Nat.ne_of_lt a1.lt
    have a1 := a1.x_alloc c2
    have ci := (Ext.refl (fun b => b ∈ ([] : List Nat)) aa).x_alloc c2
    refine ⟨a3.cani 0 rfl rfl, thenW_in fun b7 al => ?_⟩
    have au := ci.x_set (q := aa.heap.size) (i := 0) rfl (.inr b0) al
    have a0 := a0.oth (q := aa.heap.size) (i := 0) rfl a6 al
    have a1 := a1.oth (q := aa.heap.size) (i := 0) rfl a5 al
    have a3 := a3.seti 0 rfl al
    refine ⟨a3.cani 1 rfl rfl, thenW_in fun ab ai => ?_⟩
    have ad := au.x_set (q := aa.heap.size) (i := 1) rfl (.inr b0) ai
    have a0 := a0.oth (q := aa.heap.size) (i := 1) rfl a6 ai
    have a1 := a1.oth (q := aa.heap.size) (i := 1) rfl a5 ai
    have a3 := a3.seti 1 rfl ai
    unfold cachettelaw13_world_do.J5
    refine bif_of (fun b2 => ?_) (fun b2 => ?_)
    ·have h := h.1 (bne_t b2)
     have h := h ab ad
     exact h
    have h := h.2 (bne_f b2)
    unfold cachettelaw13_world_do.J4
    refine bif_fo (fun b4 => ?_) (fun b4 => ?_)
    ·have h := h.2 (beq_f b4)
     unfold cachettelaw13_world_do.J3
     refine ⟨1, a0.celli 0 rfl rfl, ?_⟩
     refine bif_tt (by decide) ?_
     have h := h ab ad
     exact h
    have h := h.1 (beq_t b4)
    refine ⟨ar, aq, av, a7, ⟨a1.celli 0 rfl rfl, a1.celli 1 rfl rfl, trivial⟩, ?_⟩
    refine elim_some aj ?_
    have h := h ab (aa.heap.size) ad (PrivJ.cons (.inr b0) a3.lt PrivJ.nil)
    obtain ⟨hcs, hof, h⟩ := h
    refine ⟨hcs, thenW_in fun ck b3 => ?_⟩
    replace h := thenW_out h b3
    have a0 := a0.off (by rw [block_add]; exact hof _ (by simp)) b3
    have a3 := a3.off (by rw [block_add]; exact hof _ (by simp)) b3
    obtain ⟨hcs, h⟩ := h
    refine ⟨hcs, thenW_in fun cs b5 => ?_⟩
    replace h := thenW_out h b5
    have a0 := a0.off (by rw [block_add]; exact hof _ (by simp)) b5
    have a3 := a3.off (by rw [block_add]; exact hof _ (by simp)) b5
    refine ⟨c0, bx, bd, ah, ⟨a3.celli 0 rfl rfl, a3.celli 1 rfl rfl, trivial⟩, ?_⟩
    refine elim_some aj ?_
    obtain ⟨hcs, hof, h⟩ := h
    refine ⟨hcs, thenW_in fun ch bj => ?_⟩
    replace h := thenW_out h bj
    have a0 := a0.off (by rw [block_add]; exact hof _ (by simp)) bj
    obtain ⟨hcs, h⟩ := h
    refine ⟨hcs, thenW_in fun d0 bg => ?_⟩
    replace h := thenW_out h bg
    have a0 := a0.off (by rw [block_add]; exact hof _ (by simp)) bg
    unfold cachettelaw13_world_do.J3
    refine ⟨1, a0.celli 0 rfl rfl, ?_⟩
    refine bif_tt (by decide) ?_
    exact h
   refine thenW_in fun cj c4 => ?_
   have a3 := Blk.of_new c4
   have b0 := ((Ext.refl no a2)).size
   have a6 := Nat.ne_of_lt a0.lt
   have a0 := a0.x_alloc c4
   have a5 := Nat.ne_of_lt a1.lt
   have a1 := a1.x_alloc c4
   have bh := (Ext.refl no a2).x_alloc c4
   refine ⟨⟨a0.celli 0 rfl rfl, a0.celli 1 rfl rfl, a0.celli 2 rfl rfl, a0.celli 3 rfl rfl, a0.celli 4 rfl rfl, a0.celli 5 rfl rfl, trivial⟩, cellsAt_no (bh) bo, ?_⟩
   have h := h cj [a2.heap.size] bh (Priv.cons b0 a3.lt Priv.nil)
   refine h.mono fun d8 af h => ?_
   obtain ⟨b9, ba, b8, ae, ag, he, hkL, hk, h⟩ := h
   refine ⟨b9, ba, b8, ae, ag, he, ?_⟩
   have a3 := hkL.blk a3 (by simp)
   have a0 := hk.blk a0 (by simp)
   have a1 := hk.blk a1 (by simp)
   refine ⟨a3.cani 0 rfl rfl, thenW_in fun b7 al => ?_⟩
   have au := (Ext.refl (fun b => b ∈ ([a2.heap.size] : List Nat)) af).x_set (q := a2.heap.size) (i := 0) rfl (.inl (by simp)) al
   have a0 := a0.oth (q := a2.heap.size) (i := 0) rfl a6 al
   have a1 := a1.oth (q := a2.heap.size) (i := 0) rfl a5 al
   have a3 := a3.seti 0 rfl al
   refine ⟨a3.cani 1 rfl rfl, thenW_in fun ab ai => ?_⟩
   have ad := au.x_set (q := a2.heap.size) (i := 1) rfl (.inl (by simp)) ai
   have a0 := a0.oth (q := a2.heap.size) (i := 1) rfl a6 ai
   have a1 := a1.oth (q := a2.heap.size) (i := 1) rfl a5 ai
   have a3 := a3.seti 1 rfl ai
   rotate_left
   have h := h1'
   refine thenW_in fun cn dt => ?_
   have a1 := Blk.of_new dt
   have cw := ((Ext.refl (fun b => b ∈ ([w.heap.size, ac.heap.size] : List Nat)) ao)).size
   have ak := Nat.ne_of_lt a0.lt
   have a0 := a0.x_alloc dt
   have dp := (Ext.refl (fun b => b ∈ ([w.heap.size, ac.heap.size] : List Nat)) ao).x_alloc dt
   have h := h cn (ac.heap.size) (ao.heap.size) dp (PrivJ.cons (.inl (by simp)) a0.lt (PrivJ.cons (.inr cw) a1.lt PrivJ.nil))
   obtain ⟨ek, h⟩ := h
   refine ⟨ek, ?_⟩
   have h := h cn [] (Ext.refl no cn) Priv.nil
   refine h.mono fun f4 br h => ?_
   obtain ⟨ar, aq, av, a7, c9, he, hkL, hk, h⟩ := h
   refine ⟨ar, aq, av, a7, c9, he, ?_⟩
   have a0 := hk.blk a0 (by simp)
   have a1 := hk.blk a1 (by simp)
   have h := h br (Ext.refl (fun b => b ∈ ([] : List Nat)) br)
   have ee : Ext (fun b => b = ao.heap.size) br br := ((Ext.refl no br)).none
   refine ⟨a1.cani 0 rfl rfl, thenW_in fun f1 em => ?_⟩
   have ep := ee.x_set (q := ao.heap.size) (i := 0) rfl (.inl rfl) em
   have a0 := a0.oth (q := ao.heap.size) (i := 0) rfl ak em
   have a1 := a1.seti 0 rfl em
   refine ⟨a1.cani 1 rfl rfl, thenW_in fun ez en => ?_⟩
   have e1 := ep.x_set (q := ao.heap.size) (i := 1) rfl (.inl rfl) en
   have a0 := a0.oth (q := ao.heap.size) (i := 1) rfl ak en
   have a1 := a1.seti 1 rfl en
   unfold cachettelaw13_world_do.J6
   refine thenW_in fun a2 ej => ?_
   have eh := e1.x_drew ej
   have a0 := a0.x_drew ej
   have a1 := a1.x_drew ej
   refine elim_some aj ?_
   have h := h a2 eh
   obtain ⟨d2, db, dd, bz, d5, h⟩ := h
   refine ⟨d2, db, dd, bz, d5, ?_⟩
   refine ⟨1, a4, d1, 0, none, 0, 0, none, 0, 0, ⟨a0.celli 0 rfl rfl, a0.celli 1 rfl rfl, a0.celli 2 rfl rfl, a0.celli 3 rfl rfl, a0.celli 4 rfl rfl, a0.celli 5 rfl rfl, trivial⟩, ?_⟩
   refine ⟨?_, ?_⟩
   ·have h := h a2 [] (Ext.refl no a2) Priv.nil
    refine h.mono fun d8 af h => ?_
    obtain ⟨cd, ce, cc, b1, ag, he, hkL, hk, h⟩ := h
    refine ⟨cd, ce, cc, b1, ag, he, ?_⟩
    have a0 := hk.blk a0 (by simp)
    have a1 := hk.blk a1 (by simp)
    refine thenW_in fun b7 al => ?_
    have a3 := Blk.of_new al
    have b0 := ((Ext.refl (fun b => b ∈ ([] : List Nat)) af)).size
    have a6 := Nat.ne_of_lt a0.lt
    have a0 := a0.x_alloc al
    have a5 := Nat.ne_of_lt a1.lt
    have a1 := a1.x_alloc al
    have au := (Ext.refl (fun b => b ∈ ([] : List Nat)) af).x_alloc al
    refine ⟨a3.cani 0 rfl rfl, thenW_in fun d9 ai => ?_⟩
    have be := au.x_set (q := af.heap.size) (i := 0) rfl (.inr b0) ai
    have a0 := a0.oth (q := af.heap.size) (i := 0) rfl a6 ai
    have a1 := a1.oth (q := af.heap.size) (i := 0) rfl a5 ai
    have a3 := a3.seti 0 rfl ai
    refine ⟨a3.cani 1 rfl rfl, thenW_in fun ab ca => ?_⟩
    have ad := be.x_set (q := af.heap.size) (i := 1) rfl (.inr b0) ca
    have a0 := a0.oth (q := af.heap.size) (i := 1) rfl a6 ca
    have a1 := a1.oth (q := af.heap.size) (i := 1) rfl a5 ca
    have a3 := a3.seti 1 rfl ca
    unfold cachettelaw13_world_do.J5
    refine bif_of (fun b2 => ?_) (fun b2 => ?_)
    ·have h := h.1 (bne_t b2)
     have h := h ab ad
     exact h
    have h := h.2 (bne_f b2)
    unfold cachettelaw13_world_do.J4
    refine bif_fo (fun b4 => ?_) (fun b4 => ?_)
    ·have h := h.2 (beq_f b4)
     unfold cachettelaw13_world_do.J3
     refine ⟨1, a0.celli 0 rfl rfl, ?_⟩
     refine bif_tt (by decide) ?_
     have h := h ab ad
     exact h
    have h := h.1 (beq_t b4)
    refine ⟨ar, aq, av, a7, ⟨a1.celli 0 rfl rfl, a1.celli 1 rfl rfl, trivial⟩, ?_⟩
    refine elim_some aj ?_
    have h := h ab (af.heap.size) ad (PrivJ.cons (.inr b0) a3.lt PrivJ.nil)
    obtain ⟨hcs, hof, h⟩ := h
    refine ⟨hcs, thenW_in fun ck b3 => ?_⟩
    replace h := thenW_out h b3
    have a0 := a0.off (by rw [block_add]; exact hof _ (by simp)) b3
    have a3 := a3.off (by rw [block_add]; exact hof _ (by simp)) b3
    obtain ⟨hcs, h⟩ := h
    refine ⟨hcs, thenW_in fun cs b5 => ?_⟩
    replace h := thenW_out h b5
    have a0 := a0.off (by rw [block_add]; exact hof _ (by simp)) b5
    have a3 := a3.off (by rw [block_add]; exact hof _ (by simp)) b5
    refine ⟨cd, ce, cc, b1, ⟨a3.celli 0 rfl rfl, a3.celli 1 rfl rfl, trivial⟩, ?_⟩
    refine elim_some aj ?_
    obtain ⟨hcs, hof, h⟩ := h
    refine ⟨hcs, thenW_in fun ch bj => ?_⟩
    replace h := thenW_out h bj
    have a0 := a0.off (by rw [block_add]; exact hof _ (by simp)) bj
    obtain ⟨hcs, h⟩ := h
    refine ⟨hcs, thenW_in fun d0 bg => ?_⟩
    replace h := thenW_out h bg
    have a0 := a0.off (by rw [block_add]; exact hof _ (by simp)) bg
    unfold cachettelaw13_world_do.J3
    refine ⟨1, a0.celli 0 rfl rfl, ?_⟩
    refine bif_tt (by decide) ?_
    exact h
   refine thenW_in fun dr dj => ?_
   have a3 := Blk.of_new dj
   have b0 := ((Ext.refl no a2)).size
   have a6 := Nat.ne_of_lt a0.lt
   have a0 := a0.x_alloc dj
   have a5 := Nat.ne_of_lt a1.lt
   have a1 := a1.x_alloc dj
   have d7 := (Ext.refl no a2).x_alloc dj
   refine ⟨⟨a0.celli 0 rfl rfl, a0.celli 1 rfl rfl, a0.celli 2 rfl rfl, a0.celli 3 rfl rfl, a0.celli 4 rfl rfl, a0.celli 5 rfl rfl, trivial⟩, cellsAt_no (d7) d5, ?_⟩
   have h := h dr [a2.heap.size] d7 (Priv.cons b0 a3.lt Priv.nil)
   refine h.mono fun f8 b7 h => ?_
   obtain ⟨b9, ba, b8, ae, c5, he, hkL, hk, h⟩ := h
   refine ⟨b9, ba, b8, ae, c5, he, ?_⟩
   have a3 := hkL.blk a3 (by simp)
   have a0 := hk.blk a0 (by simp)
   have a1 := hk.blk a1 (by simp)
   refine ⟨a3.cani 0 rfl rfl, thenW_in fun d9 ai => ?_⟩
   have be := (Ext.refl (fun b => b ∈ ([a2.heap.size] : List Nat)) b7).x_set (q := a2.heap.size) (i := 0) rfl (.inl (by simp)) ai
   have a0 := a0.oth (q := a2.heap.size) (i := 0) rfl a6 ai
   have a1 := a1.oth (q := a2.heap.size) (i := 0) rfl a5 ai
   have a3 := a3.seti 0 rfl ai
   refine ⟨a3.cani 1 rfl rfl, thenW_in fun ab ca => ?_⟩
   have ad := be.x_set (q := a2.heap.size) (i := 1) rfl (.inl (by simp)) ca
   have a0 := a0.oth (q := a2.heap.size) (i := 1) rfl a6 ca
   have a1 := a1.oth (q := a2.heap.size) (i := 1) rfl a5 ca
   have a3 := a3.seti 1 rfl ca
   rotate_left
  rotate_left 2
  have h := h1'
  refine thenW_in fun eg dk => ?_
  have a1 := Blk.of_new dk
  have cw := (c7).size
  have eu := Nat.ne_of_lt a9.lt
  have a9 := a9.x_alloc dk
  have ak := Nat.ne_of_lt a0.lt
  have a0 := a0.x_alloc dk
  have d4 := c7.x_alloc dk
  refine ⟨⟨a0.celli 0 rfl rfl, a0.celli 1 rfl rfl, a0.celli 2 rfl rfl, a0.celli 3 rfl rfl, a0.celli 4 rfl rfl, a0.celli 5 rfl rfl, trivial⟩, cellsAt_no (d4) dg, ?_⟩
  have h := h eg [w.heap.size, ac.heap.size, ap.heap.size] d4 (Priv.cons ev a9.lt (Priv.cons c6 a0.lt (Priv.cons cw a1.lt Priv.nil)))
  refine h.mono fun fc di h => ?_
  obtain ⟨cy, dh, bc, c8, bi, bu, bn, cp, co, ct, he, hkL, h⟩ := h
  refine ⟨cy, dh, bc, c8, bi, bu, bn, cp, co, ct, he, ?_⟩
  have a9 := hkL.blk a9 (by simp)
  have a0 := hkL.blk a0 (by simp)
  have a1 := hkL.blk a1 (by simp)
  obtain ⟨dq, h⟩ := h
  refine ⟨dq, ?_⟩
  have h := h di [w.heap.size, ac.heap.size, ap.heap.size] (Ext.refl (fun b => b ∈ ([w.heap.size, ac.heap.size, ap.heap.size] : List Nat)) di) (PrivJ.cons (.inl (by simp)) a9.lt (PrivJ.cons (.inl (by simp)) a0.lt (PrivJ.cons (.inl (by simp)) a1.lt PrivJ.nil)))
  refine h.mono fun f5 dc h => ?_
  obtain ⟨ar, aq, av, a7, c1, he, hkL, h⟩ := h
  refine ⟨ar, aq, av, a7, c1, he, ?_⟩
  have a9 := hkL.blk a9 (by simp)
  have a0 := hkL.blk a0 (by simp)
  have a1 := hkL.blk a1 (by simp)
  refine ⟨a1.cani 0 rfl rfl, thenW_in fun dv cu => ?_⟩
  have cq := (Ext.refl (fun b => b ∈ ([w.heap.size, ac.heap.size, ap.heap.size] : List Nat)) dc).x_set (q := ap.heap.size) (i := 0) rfl (.inl (by simp)) cu
  have a0 := a0.oth (q := ap.heap.size) (i := 0) rfl ak cu
  have a1 := a1.seti 0 rfl cu
  refine ⟨a1.cani 1 rfl rfl, thenW_in fun e0 cx => ?_⟩
  have cv := cq.x_set (q := ap.heap.size) (i := 1) rfl (.inl (by simp)) cx
  have a0 := a0.oth (q := ap.heap.size) (i := 1) rfl ak cx
  have a1 := a1.seti 1 rfl cx
  unfold cachettelaw13_world_do.J6
  refine thenW_in fun a2 cg => ?_
  have cz := cv.x_drew cg
  have a0 := a0.x_drew cg
  have a1 := a1.x_drew cg
  refine elim_some aj ?_
  have h := h a2 (ac.heap.size) (ap.heap.size) cz (PrivJ.cons (.inl (by simp)) a0.lt (PrivJ.cons (.inl (by simp)) a1.lt PrivJ.nil))
  obtain ⟨bq, bp, bv, an, bo, h⟩ := h
  refine ⟨bq, bp, bv, an, bo, ?_⟩
  refine ⟨1, a4, d1, 0, none, 0, 0, none, 0, 0, ⟨a0.celli 0 rfl rfl, a0.celli 1 rfl rfl, a0.celli 2 rfl rfl, a0.celli 3 rfl rfl, a0.celli 4 rfl rfl, a0.celli 5 rfl rfl, trivial⟩, ?_⟩
  refine ⟨?_, ?_⟩
  ·have h := h a2 [] (Ext.refl no a2) Priv.nil
   refine h.mono fun dz aa h => ?_
   obtain ⟨c0, bx, bd, ah, aw, he, hkL, hk, h⟩ := h
   refine ⟨c0, bx, bd, ah, aw, he, ?_⟩
   have a0 := hk.blk a0 (by simp)
   have a1 := hk.blk a1 (by simp)
   refine thenW_in fun af c2 => ?_
   have a3 := Blk.of_new c2
   have b0 := ((Ext.refl (fun b => b ∈ ([] : List Nat)) aa)).size
   have a6 := Nat.ne_of_lt a0.lt
   have a0 := a0.x_alloc c2
   have a5 := Nat.ne_of_lt a1.lt
   have a1 := a1.x_alloc c2
   have ci := (Ext.refl (fun b => b ∈ ([] : List Nat)) aa).x_alloc c2
   refine ⟨a3.cani 0 rfl rfl, thenW_in fun b7 al => ?_⟩
   have au := ci.x_set (q := aa.heap.size) (i := 0) rfl (.inr b0) al
   have a0 := a0.oth (q := aa.heap.size) (i := 0) rfl a6 al
   have a1 := a1.oth (q := aa.heap.size) (i := 0) rfl a5 al
   have a3 := a3.seti 0 rfl al
   refine ⟨a3.cani 1 rfl rfl, thenW_in fun ab ai => ?_⟩
   have ad := au.x_set (q := aa.heap.size) (i := 1) rfl (.inr b0) ai
   have a0 := a0.oth (q := aa.heap.size) (i := 1) rfl a6 ai
   have a1 := a1.oth (q := aa.heap.size) (i := 1) rfl a5 ai
   have a3 := a3.seti 1 rfl ai
   unfold cachettelaw13_world_do.J5
   refine bif_of (fun b2 => ?_) (fun b2 => ?_)
   ·have h := h.1 (bne_t b2)
    have h := h ab ad
    exact h
   have h := h.2 (bne_f b2)
   unfold cachettelaw13_world_do.J4
   refine bif_fo (fun b4 => ?_) (fun b4 => ?_)
   ·have h := h.2 (beq_f b4)
    unfold cachettelaw13_world_do.J3
    refine ⟨1, a0.celli 0 rfl rfl, ?_⟩
    refine bif_tt (by decide) ?_
    have h := h ab ad
    exact h
   have h := h.1 (beq_t b4)
   refine ⟨ar, aq, av, a7, ⟨a1.celli 0 rfl rfl, a1.celli 1 rfl rfl, trivial⟩, ?_⟩
   refine elim_some aj ?_
   have h := h ab (aa.heap.size) ad (PrivJ.cons (.inr b0) a3.lt PrivJ.nil)
   obtain ⟨hcs, hof, h⟩ := h
   refine ⟨hcs, thenW_in fun ck b3 => ?_⟩
   replace h := thenW_out h b3
   have a0 := a0.off (by rw [block_add]; exact hof _ (by simp)) b3
   have a3 := a3.off (by rw [block_add]; exact hof _ (by simp)) b3
   obtain ⟨hcs, h⟩ := h
   refine ⟨hcs, thenW_in fun cs b5 => ?_⟩
   replace h := thenW_out h b5
   have a0 := a0.off (by rw [block_add]; exact hof _ (by simp)) b5
   have a3 := a3.off (by rw [block_add]; exact hof _ (by simp)) b5
   refine ⟨c0, bx, bd, ah, ⟨a3.celli 0 rfl rfl, a3.celli 1 rfl rfl, trivial⟩, ?_⟩
   refine elim_some aj ?_
   obtain ⟨hcs, hof, h⟩ := h
   refine ⟨hcs, thenW_in fun ch bj => ?_⟩
   replace h := thenW_out h bj
   have a0 := a0.off (by rw [block_add]; exact hof _ (by simp)) bj
   obtain ⟨hcs, h⟩ := h
   refine ⟨hcs, thenW_in fun d0 bg => ?_⟩
   replace h := thenW_out h bg
   have a0 := a0.off (by rw [block_add]; exact hof _ (by simp)) bg
   unfold cachettelaw13_world_do.J3
   refine ⟨1, a0.celli 0 rfl rfl, ?_⟩
   refine bif_tt (by decide) ?_
   exact h
  refine thenW_in fun cj c4 => ?_
  have a3 := Blk.of_new c4
  have b0 := ((Ext.refl no a2)).size
  have a6 := Nat.ne_of_lt a0.lt
  have a0 := a0.x_alloc c4
  have a5 := Nat.ne_of_lt a1.lt
  have a1 := a1.x_alloc c4
  have bh := (Ext.refl no a2).x_alloc c4
  refine ⟨⟨a0.celli 0 rfl rfl, a0.celli 1 rfl rfl, a0.celli 2 rfl rfl, a0.celli 3 rfl rfl, a0.celli 4 rfl rfl, a0.celli 5 rfl rfl, trivial⟩, cellsAt_no (bh) bo, ?_⟩
  have h := h cj [a2.heap.size] bh (Priv.cons b0 a3.lt Priv.nil)
  refine h.mono fun d8 af h => ?_
  obtain ⟨b9, ba, b8, ae, ag, he, hkL, hk, h⟩ := h
  refine ⟨b9, ba, b8, ae, ag, he, ?_⟩
  have a3 := hkL.blk a3 (by simp)
  have a0 := hk.blk a0 (by simp)
  have a1 := hk.blk a1 (by simp)
  refine ⟨a3.cani 0 rfl rfl, thenW_in fun b7 al => ?_⟩
  have au := (Ext.refl (fun b => b ∈ ([a2.heap.size] : List Nat)) af).x_set (q := a2.heap.size) (i := 0) rfl (.inl (by simp)) al
  have a0 := a0.oth (q := a2.heap.size) (i := 0) rfl a6 al
  have a1 := a1.oth (q := a2.heap.size) (i := 0) rfl a5 al
  have a3 := a3.seti 0 rfl al
  refine ⟨a3.cani 1 rfl rfl, thenW_in fun ab ai => ?_⟩
  have ad := au.x_set (q := a2.heap.size) (i := 1) rfl (.inl (by simp)) ai
  have a0 := a0.oth (q := a2.heap.size) (i := 1) rfl a6 ai
  have a1 := a1.oth (q := a2.heap.size) (i := 1) rfl a5 ai
  have a3 := a3.seti 1 rfl ai
  rotate_left
  all_goals
   unfold cachettelaw13_world_do.J5
   refine bif_of (fun b2 => ?_) (fun b2 => ?_)
   ·have h := h.1 (bne_t b2)
    have h := h ab ad
    exact h
   have h := h.2 (bne_f b2)
   unfold cachettelaw13_world_do.J4
   refine bif_fo (fun b4 => ?_) (fun b4 => ?_)
   ·have h := h.2 (beq_f b4)
    unfold cachettelaw13_world_do.J3
    refine ⟨1, a0.celli 0 rfl rfl, ?_⟩
    refine bif_tt (by decide) ?_
    have h := h ab ad
    exact h
   have h := h.1 (beq_t b4)
   refine ⟨ar, aq, av, a7, ⟨a1.celli 0 rfl rfl, a1.celli 1 rfl rfl, trivial⟩, ?_⟩
   refine elim_some aj ?_
   have h := h ab (a2.heap.size) ad (PrivJ.cons (.inl (by simp)) a3.lt PrivJ.nil)
   obtain ⟨hcs, hof, h⟩ := h
   refine ⟨hcs, thenW_in fun ck b3 => ?_⟩
   replace h := thenW_out h b3
   have a0 := a0.off (by rw [block_add]; exact hof _ (by simp)) b3
   have a3 := a3.off (by rw [block_add]; exact hof _ (by simp)) b3
   obtain ⟨hcs, h⟩ := h
   refine ⟨hcs, thenW_in fun cs b5 => ?_⟩
   replace h := thenW_out h b5
   have a0 := a0.off (by rw [block_add]; exact hof _ (by simp)) b5
   have a3 := a3.off (by rw [block_add]; exact hof _ (by simp)) b5
   refine ⟨b9, ba, b8, ae, ⟨a3.celli 0 rfl rfl, a3.celli 1 rfl rfl, trivial⟩, ?_⟩
   refine elim_some aj ?_
   obtain ⟨hcs, hof, h⟩ := h
   refine ⟨hcs, thenW_in fun ch bj => ?_⟩
   replace h := thenW_out h bj
   have a0 := a0.off (by rw [block_add]; exact hof _ (by simp)) bj
   obtain ⟨hcs, h⟩ := h
   refine ⟨hcs, thenW_in fun d0 bg => ?_⟩
   replace h := thenW_out h bg
   have a0 := a0.off (by rw [block_add]; exact hof _ (by simp)) bg
   unfold cachettelaw13_world_do.J3
   refine ⟨1, a0.celli 0 rfl rfl, ?_⟩
   refine bif_tt (by decide) ?_
   exact h

theorem do0.go (a8 : Option Addr) (a4 : Int) (a2 : Int) (a1 : Option Addr) (a0 : Nat) (a3 : Nat) (a6 : Option Addr) (a7 : Nat) (a5 : Nat) (a9 : decide (a4 ≥ 0) = true) (aa : decide (a4 < 4) = true) {R : Value → World → Prop} {w : World} (h : do0.N a8 a4 a2 a1 a0 a3 a6 a7 a5 R w) : Calls Try.prog 7 #[.pointer a8, .agg #[.int .i64 0, .int .i64 a4, .int .u64 a2, .slice a1 a0 a3, .slice a6 a7 a5]] w fun e w' => ∃ v, e = .returned v ∧ R v w' := cachettelaw13_world_do.ok a8 0 a4 a2 a1 a0 a3 a6 a7 a5 (do0.up a8 a4 a2 a1 a0 a3 a6 a7 a5 a9 aa h)
def do2.N (d7 : Option Addr) (av : Int) (ce : Int) (c8 : Option Addr) (ca : Nat) (cf : Nat) (d4 : Option Addr) (cz : Nat) (d1 : Nat) (R : Value → World → Prop) (w : World) : Prop :=
 ∃ a2 : Addr, d7 = some a2 ∧
 ∃ (ag : Option Addr) (ac : Nat) (ab : Nat) (a1 : Int), cellsAt w (a2.add 14) [.slice ag ac ab, .int .i64 a1] 0 ∧
 (∀ (bw : World) (c5 : List Nat), Ext no w bw → Priv w bw c5 →
 Calls Try.prog 26 #[.agg #[.int .i64 2, .int .i64 av, .int .u64 0, .int .i64 0, .slice none 0 0, .slice none 0 0]] bw fun cx ba => ∃ (az : Int) (bl : Int) (ae : Int) (aj : Int) (aa : Option Addr) (a8 : Nat) (af : Nat) (b2 : Option Addr) (b1 : Nat) (b0 : Nat), cx = .returned (.agg #[.int .i64 az, .int .i64 bl, .int .u64 ae, .int .i64 aj, .slice aa a8 af, .slice b2 b1 b0]) ∧
 Keep c5 bw ba ∧
 cellsAt ba (a2.add 14) [.slice ag ac ab, .int .i64 a1] 0 ∧
 (∀ (bq : World) (cs : List Nat), Ext (fun b => b ∈ c5) ba bq → PrivJ c5 ba bq cs →
 Calls Try.prog 10 #[.agg #[.slice ag ac ab, .int .i64 a1], .agg #[.int .i64 az, .int .i64 bl, .int .u64 ae, .int .i64 aj, .slice aa a8 af, .slice b2 b1 b0]] bq fun d2 ai => ∃ (ci : Option Addr) (cl : Nat) (cm : Nat) (b6 : Int) (ah : Int), d2 = .returned (.tuple #[.agg #[.slice ci cl cm, .int .i64 b6], .int .i64 ah]) ∧
 Keep cs bq ai ∧
 ∀ (a6 : World) (bt : Nat) (c7 : Nat), Ext (fun b => b ∈ cs) ai a6 → PrivJ cs ai a6 [bt, c7] →
 ∃ (ax : Option Addr) (aq : Nat) (am : Nat) (a3 : Int), cellsAt a6 (a2.add 16) [.slice ax aq am, .int .i64 a3] 0 ∧
 ∀ (ad : World) (bb : List Nat), Ext no a6 ad → Priv a6 ad bb →
 Calls Try.prog 14 #[.agg #[.slice ax aq am, .int .i64 a3], .agg #[.int .i64 2, .int .i64 av, .int .u64 0, .int .i64 0, .slice none 0 0, .slice none 0 0]] ad fun c4 a7 => ∃ (bn : Option Addr) (bf : Nat) (bg : Nat) (a5 : Int) (a0 : Int), c4 = .returned (.tuple #[.agg #[.slice bn bf bg, .int .i64 a5], .int .i64 a0]) ∧
 Keep bb ad a7 ∧
 Keep [bt, c7] ad a7 ∧
 (ah ≠ a0 →
 ∀ (bj : World), Ext (fun b => b ∈ bb) a7 bj →
 R (.bool false) bj) ∧
 (ah = a0 →
 (a0 = 0 →
 ∀ (a9 : World) (ch : Nat), Ext (fun b => b ∈ bb) a7 a9 → PrivJ bb a7 a9 [ch] →
 canStore a9 ((a2.add 14).add 0) ∧
 (∀ p ∈ [bt, ch], p ≠ Addr.block (a2.add 14)) ∧
 thenW (a9.setCell ((a2.add 14).add 0) (.slice ci cl cm)) fun be =>
 canStore be ((a2.add 14).add 1) ∧
 thenW (be.setCell ((a2.add 14).add 1) (.int .i64 b6)) fun ay =>
 canStore ay ((a2.add 16).add 0) ∧
 (∀ p ∈ [bt], p ≠ Addr.block (a2.add 16)) ∧
 thenW (ay.setCell ((a2.add 16).add 0) (.slice bn bf bg)) fun ao =>
 canStore ao ((a2.add 16).add 1) ∧
 thenW (ao.setCell ((a2.add 16).add 1) (.int .i64 a5)) fun b9 =>
 R (.bool true) b9) ∧
 (a0 ≠ 0 →
 ∀ (bo : World), Ext (fun b => b ∈ bb) a7 bo →
 R (.bool true) bo))) ∧
 (∀ (bm : World) (cb : Nat) (cv : Nat), Ext (fun b => b ∈ c5) ba bm → PrivJ c5 ba bm [cb, cv] →
 cellsAt bm (a2.add 14) [.slice ag ac ab, .int .i64 a1] 0 ∧
 ∀ (ai : World) (cw : List Nat), Ext no bm ai → Priv bm ai cw →
 Calls Try.prog 10 #[.agg #[.slice ag ac ab, .int .i64 a1], .agg #[.int .i64 az, .int .i64 bl, .int .u64 ae, .int .i64 aj, .slice aa a8 af, .slice b2 b1 b0]] ai fun d3 c2 => ∃ (cg : Option Addr) (c9 : Nat) (cr : Nat) (b3 : Int) (al : Int), d3 = .returned (.tuple #[.agg #[.slice cg c9 cr, .int .i64 b3], .int .i64 al]) ∧
 Keep cw ai c2 ∧
 Keep [cb, cv] ai c2 ∧
 ∀ (cn : World), Ext (fun b => b ∈ cw) c2 cn →
 ∀ (br : World), Ext (fun b => b = cv) cn br →
 ∃ (bx : Option Addr) (c1 : Nat) (bz : Nat) (an : Int), cellsAt br (a2.add 16) [.slice bx c1 bz, .int .i64 an] 0 ∧
 ∀ (bh : World) (c6 : List Nat), Ext no br bh → Priv br bh c6 →
 Calls Try.prog 14 #[.agg #[.slice bx c1 bz, .int .i64 an], .agg #[.int .i64 2, .int .i64 av, .int .u64 0, .int .i64 0, .slice none 0 0, .slice none 0 0]] bh fun d0 b8 => ∃ (cq : Option Addr) (cp : Nat) (ck : Nat) (b5 : Int) (a4 : Int), d0 = .returned (.tuple #[.agg #[.slice cq cp ck, .int .i64 b5], .int .i64 a4]) ∧
 Keep c6 bh b8 ∧
 Keep [cb, cv] bh b8 ∧
 (al ≠ a4 →
 ∀ (cd : World), Ext (fun b => b ∈ c6) b8 cd →
 R (.bool false) cd) ∧
 (al = a4 →
 (a4 = 0 →
 ∀ (bu : World) (d6 : Nat), Ext (fun b => b ∈ c6) b8 bu → PrivJ c6 b8 bu [d6] →
 canStore bu ((a2.add 14).add 0) ∧
 (∀ p ∈ [cb, d6], p ≠ Addr.block (a2.add 14)) ∧
 thenW (bu.setCell ((a2.add 14).add 0) (.slice cg c9 cr)) fun ay =>
 canStore ay ((a2.add 14).add 1) ∧
 thenW (ay.setCell ((a2.add 14).add 1) (.int .i64 b3)) fun ao =>
 canStore ao ((a2.add 16).add 0) ∧
 (∀ p ∈ [cb], p ≠ Addr.block (a2.add 16)) ∧
 thenW (ao.setCell ((a2.add 16).add 0) (.slice cq cp ck)) fun b9 =>
 canStore b9 ((a2.add 16).add 1) ∧
 thenW (b9.setCell ((a2.add 16).add 1) (.int .i64 b5)) fun a9 =>
 R (.bool true) a9) ∧
 (a4 ≠ 0 →
 ∀ (a6 : World), Ext (fun b => b ∈ c6) b8 a6 →
 R (.bool true) a6)))) ∧
 (∀ (bs : World) (ct : List Nat), Ext no w bs → Priv w bs ct →
 Calls Try.prog 26 #[.agg #[.int .i64 2, .int .i64 av, .int .u64 0, .int .i64 0, .slice none 0 0, .slice none 0 0]] bs fun cy bv => ∃ (bd : Int) (c0 : Int) (ar : Int) (b4 : Int) (ap : Option Addr) (au : Nat) (aw : Nat) (bc : Option Addr) (bk : Nat) (bi : Nat), cy = .returned (.agg #[.int .i64 bd, .int .i64 c0, .int .u64 ar, .int .i64 b4, .slice ap au aw, .slice bc bk bi]) ∧
 Keep ct bs bv ∧
 cellsAt bv (a2.add 14) [.slice ag ac ab, .int .i64 a1] 0 ∧
 ∀ (bp : World) (cu : List Nat), Ext (fun b => b ∈ ct) bv bp → PrivJ ct bv bp cu →
 Calls Try.prog 10 #[.agg #[.slice ag ac ab, .int .i64 a1], .agg #[.int .i64 bd, .int .i64 c0, .int .u64 ar, .int .i64 b4, .slice ap au aw, .slice bc bk bi]] bp fun d5 c3 => ∃ (co : Option Addr) (cc : Nat) (cj : Nat) (b7 : Int) (ak : Int), d5 = .returned (.tuple #[.agg #[.slice co cc cj, .int .i64 b7], .int .i64 ak]) ∧
 Keep cu bp c3 ∧
 ∀ (a6 : World) (bt : Nat) (c7 : Nat), Ext (fun b => b ∈ cu) c3 a6 → PrivJ cu c3 a6 [bt, c7] →
 ∃ (ax : Option Addr) (aq : Nat) (am : Nat) (a3 : Int), cellsAt a6 (a2.add 16) [.slice ax aq am, .int .i64 a3] 0 ∧
 ∀ (ad : World) (bb : List Nat), Ext no a6 ad → Priv a6 ad bb →
 Calls Try.prog 14 #[.agg #[.slice ax aq am, .int .i64 a3], .agg #[.int .i64 2, .int .i64 av, .int .u64 0, .int .i64 0, .slice none 0 0, .slice none 0 0]] ad fun c4 a7 => ∃ (bn : Option Addr) (bf : Nat) (bg : Nat) (a5 : Int) (a0 : Int), c4 = .returned (.tuple #[.agg #[.slice bn bf bg, .int .i64 a5], .int .i64 a0]) ∧
 Keep bb ad a7 ∧
 Keep [bt, c7] ad a7 ∧
 (ak ≠ a0 →
 ∀ (bj : World), Ext (fun b => b ∈ bb) a7 bj →
 R (.bool false) bj) ∧
 (ak = a0 →
 (a0 = 0 →
 ∀ (a9 : World) (ch : Nat), Ext (fun b => b ∈ bb) a7 a9 → PrivJ bb a7 a9 [ch] →
 canStore a9 ((a2.add 14).add 0) ∧
 (∀ p ∈ [bt, ch], p ≠ Addr.block (a2.add 14)) ∧
 thenW (a9.setCell ((a2.add 14).add 0) (.slice co cc cj)) fun be =>
 canStore be ((a2.add 14).add 1) ∧
 thenW (be.setCell ((a2.add 14).add 1) (.int .i64 b7)) fun ay =>
 canStore ay ((a2.add 16).add 0) ∧
 (∀ p ∈ [bt], p ≠ Addr.block (a2.add 16)) ∧
 thenW (ay.setCell ((a2.add 16).add 0) (.slice bn bf bg)) fun ao =>
 canStore ao ((a2.add 16).add 1) ∧
 thenW (ao.setCell ((a2.add 16).add 1) (.int .i64 a5)) fun b9 =>
 R (.bool true) b9) ∧
 (a0 ≠ 0 →
 ∀ (bo : World), Ext (fun b => b ∈ bb) a7 bo →
 R (.bool true) bo)))

theorem do2.up (f7 : Option Addr) (a5 : Int) (a4 : Int) (ax : Option Addr) (ay : Nat) (az : Nat) (bt : Option Addr) (bn : Nat) (bq : Nat) {R : Value → World → Prop} {w : World} (h : do2.N f7 a5 a4 ax ay az bt bn bq R w) : cachettelaw13_world_do.M f7 2 a5 a4 ax ay az bt bn bq R w := by
  unfold cachettelaw13_world_do.M
  unfold do2.N at h
  refine thenW_in fun a8 e7 => ?_
  have aa := Blk.of_new e7
  have f6 := ((Ext.refl no w)).size
  have f4 := (Ext.refl no w).x_alloc e7
  refine ⟨a5, aa.celli 1 rfl rfl, ?_⟩
  refine ⟨a4, aa.celli 2 rfl rfl, ?_⟩
  refine thenW_in fun fj e8 => ?_
  have a0 := Blk.of_new e8
  have b7 := (f4).size
  have ac := Nat.ne_of_lt aa.lt
  have aa := aa.x_alloc e8
  have fi := f4.x_alloc e8
  refine ⟨a0.cani 0 rfl rfl, thenW_in fun f9 e9 => ?_⟩
  have fb := fi.x_set (q := a8.heap.size) (i := 0) rfl (.inr b7) e9
  have aa := aa.oth (q := a8.heap.size) (i := 0) rfl ac e9
  have a0 : Blk f9 a8.heap.size 67 [.int .i64 1, .int .i64 0, .int .u64 0, .int .i64 0, .slice none 0 0, .slice none 0 0] := a0.seti 0 rfl e9
  refine ⟨a0.cani 1 rfl rfl, thenW_in fun dj ek => ?_⟩
  have eh := fb.x_set (q := a8.heap.size) (i := 1) rfl (.inr b7) ek
  have aa := aa.oth (q := a8.heap.size) (i := 1) rfl ac ek
  have a0 : Blk dj a8.heap.size 67 [.int .i64 1, .int .i64 a5, .int .u64 0, .int .i64 0, .slice none 0 0, .slice none 0 0] := a0.seti 1 rfl ek
  refine ⟨a0.cani 2 rfl rfl, thenW_in fun dt e2 => ?_⟩
  have dr := eh.x_set (q := a8.heap.size) (i := 2) rfl (.inr b7) e2
  have aa := aa.oth (q := a8.heap.size) (i := 2) rfl ac e2
  have a0 : Blk dt a8.heap.size 67 [.int .i64 1, .int .i64 a5, .int .u64 a4, .int .i64 0, .slice none 0 0, .slice none 0 0] := a0.seti 2 rfl e2
  refine ⟨a0.cani 3 rfl rfl, thenW_in fun eb dl => ?_⟩
  have e5 := dr.x_set (q := a8.heap.size) (i := 3) rfl (.inr b7) dl
  have aa := aa.oth (q := a8.heap.size) (i := 3) rfl ac dl
  have a0 : Blk eb a8.heap.size 67 [.int .i64 1, .int .i64 a5, .int .u64 a4, .int .i64 0, .slice none 0 0, .slice none 0 0] := a0.seti 3 rfl dl
  refine ⟨a0.cani 4 rfl rfl, thenW_in fun ep e0 => ?_⟩
  have ez := e5.x_set (q := a8.heap.size) (i := 4) rfl (.inr b7) e0
  have aa := aa.oth (q := a8.heap.size) (i := 4) rfl ac e0
  have a0 : Blk ep a8.heap.size 67 [.int .i64 1, .int .i64 a5, .int .u64 a4, .int .i64 0, .slice none 0 0, .slice none 0 0] := a0.seti 4 rfl e0
  refine ⟨a0.cani 5 rfl rfl, thenW_in fun ew ea => ?_⟩
  have eu := ez.x_set (q := a8.heap.size) (i := 5) rfl (.inr b7) ea
  have aa := aa.oth (q := a8.heap.size) (i := 5) rfl ac ea
  have a0 : Blk ew a8.heap.size 67 [.int .i64 1, .int .i64 a5, .int .u64 a4, .int .i64 0, .slice none 0 0, .slice none 0 0] := a0.seti 5 rfl ea
  refine ⟨2, aa.celli 0 rfl rfl, ?_⟩
  refine bif_ff (by decide) ?_
  refine bif_tt (by decide) ?_
  refine ⟨a5, aa.celli 1 rfl rfl, ?_⟩
  refine ⟨a0.cani 0 rfl rfl, thenW_in fun f3 e1 => ?_⟩
  have dn := eu.x_set (q := a8.heap.size) (i := 0) rfl (.inr b7) e1
  have aa := aa.oth (q := a8.heap.size) (i := 0) rfl ac e1
  have a0 : Blk f3 a8.heap.size 67 [.int .i64 2, .int .i64 a5, .int .u64 a4, .int .i64 0, .slice none 0 0, .slice none 0 0] := a0.seti 0 rfl e1
  refine ⟨a0.cani 1 rfl rfl, thenW_in fun eg du => ?_⟩
  have ee := dn.x_set (q := a8.heap.size) (i := 1) rfl (.inr b7) du
  have aa := aa.oth (q := a8.heap.size) (i := 1) rfl ac du
  have a0 : Blk eg a8.heap.size 67 [.int .i64 2, .int .i64 a5, .int .u64 a4, .int .i64 0, .slice none 0 0, .slice none 0 0] := a0.seti 1 rfl du
  refine ⟨a0.cani 2 rfl rfl, thenW_in fun f0 ds => ?_⟩
  have ej := ee.x_set (q := a8.heap.size) (i := 2) rfl (.inr b7) ds
  have aa := aa.oth (q := a8.heap.size) (i := 2) rfl ac ds
  have a0 : Blk f0 a8.heap.size 67 [.int .i64 2, .int .i64 a5, .int .u64 0, .int .i64 0, .slice none 0 0, .slice none 0 0] := a0.seti 2 rfl ds
  refine ⟨a0.cani 3 rfl rfl, thenW_in fun dv dz => ?_⟩
  have ev := ej.x_set (q := a8.heap.size) (i := 3) rfl (.inr b7) dz
  have aa := aa.oth (q := a8.heap.size) (i := 3) rfl ac dz
  have a0 : Blk dv a8.heap.size 67 [.int .i64 2, .int .i64 a5, .int .u64 0, .int .i64 0, .slice none 0 0, .slice none 0 0] := a0.seti 3 rfl dz
  refine ⟨a0.cani 4 rfl rfl, thenW_in fun dm dk => ?_⟩
  have ec := ev.x_set (q := a8.heap.size) (i := 4) rfl (.inr b7) dk
  have aa := aa.oth (q := a8.heap.size) (i := 4) rfl ac dk
  have a0 : Blk dm a8.heap.size 67 [.int .i64 2, .int .i64 a5, .int .u64 0, .int .i64 0, .slice none 0 0, .slice none 0 0] := a0.seti 4 rfl dk
  refine ⟨a0.cani 5 rfl rfl, thenW_in fun f2 ey => ?_⟩
  have ef := ec.x_set (q := a8.heap.size) (i := 5) rfl (.inr b7) ey
  have aa := aa.oth (q := a8.heap.size) (i := 5) rfl ac ey
  have a0 : Blk f2 a8.heap.size 67 [.int .i64 2, .int .i64 a5, .int .u64 0, .int .i64 0, .slice none 0 0, .slice none 0 0] := a0.seti 5 rfl ey
  unfold cachettelaw13_world_do.J7
  refine thenW_in fun ap e3 => ?_
  have c9 := ef.x_drew e3
  have aa := aa.x_drew e3
  have a0 := a0.x_drew e3
  obtain ⟨fk, al, h⟩ := h
  refine elim_some al ?_
  obtain ⟨dd, d4, d1, bo, d3, h⟩ := h
  refine ⟨dd, d4, d1, bo, cellsAt_no (c9) d3, ?_⟩
  refine ⟨2, a5, 0, 0, none, 0, 0, none, 0, 0, ⟨a0.celli 0 rfl rfl, a0.celli 1 rfl rfl, a0.celli 2 rfl rfl, a0.celli 3 rfl rfl, a0.celli 4 rfl rfl, a0.celli 5 rfl rfl, trivial⟩, ?_⟩
  obtain ⟨h0', h1'⟩ := h
  refine ⟨?_, ?_⟩
  focus
   have h := h0'
   have h := h ap [w.heap.size, a8.heap.size] c9 (Priv.cons f6 aa.lt (Priv.cons b7 a0.lt Priv.nil))
   refine h.mono fun fa ao h => ?_
   obtain ⟨ci, df, bu, c5, bh, bc, bx, cx, ct, cs, he, hkL, h⟩ := h
   refine ⟨ci, df, bu, c5, bh, bc, bx, cx, ct, cs, he, ?_⟩
   have aa := hkL.blk aa (by simp)
   have a0 := hkL.blk a0 (by simp)
   obtain ⟨e6, h⟩ := h
   refine ⟨e6, ?_⟩
   obtain ⟨h0', h1'⟩ := h
   refine ⟨?_, ?_⟩
   have h := h0'
   have h := h ao [w.heap.size, a8.heap.size] (Ext.refl (fun b => b ∈ ([w.heap.size, a8.heap.size] : List Nat)) ao) (PrivJ.cons (.inl (by simp)) aa.lt (PrivJ.cons (.inl (by simp)) a0.lt PrivJ.nil))
   refine h.mono fun fd b3 h => ?_
   obtain ⟨au, av, aw, a9, c3, he, hkL, h⟩ := h
   refine ⟨au, av, aw, a9, c3, he, ?_⟩
   have aa := hkL.blk aa (by simp)
   have a0 := hkL.blk a0 (by simp)
   refine thenW_in fun d5 f1 => ?_
   have a1 := Blk.of_new f1
   have cu := ((Ext.refl (fun b => b ∈ ([w.heap.size, a8.heap.size] : List Nat)) b3)).size
   have ak := Nat.ne_of_lt a0.lt
   have a0 := a0.x_alloc f1
   have ex := (Ext.refl (fun b => b ∈ ([w.heap.size, a8.heap.size] : List Nat)) b3).x_alloc f1
   refine ⟨a1.cani 0 rfl rfl, thenW_in fun ei cg => ?_⟩
   have cz := ex.x_set (q := b3.heap.size) (i := 0) rfl (.inr cu) cg
   have a0 := a0.oth (q := b3.heap.size) (i := 0) rfl ak cg
   have a1 := a1.seti 0 rfl cg
   refine ⟨a1.cani 1 rfl rfl, thenW_in fun eq ck => ?_⟩
   have cq := cz.x_set (q := b3.heap.size) (i := 1) rfl (.inr cu) ck
   have a0 := a0.oth (q := b3.heap.size) (i := 1) rfl ak ck
   have a1 := a1.seti 1 rfl ck
   unfold cachettelaw13_world_do.J6
   refine thenW_in fun a2 cr => ?_
   have cw := cq.x_drew cr
   have a0 := a0.x_drew cr
   have a1 := a1.x_drew cr
   refine elim_some al ?_
   have h := h a2 (a8.heap.size) (b3.heap.size) cw (PrivJ.cons (.inl (by simp)) a0.lt (PrivJ.cons (.inr cu) a1.lt PrivJ.nil))
   obtain ⟨bz, bl, bg, an, bm, h⟩ := h
   refine ⟨bz, bl, bg, an, bm, ?_⟩
   refine ⟨2, a5, 0, 0, none, 0, 0, none, 0, 0, ⟨a0.celli 0 rfl rfl, a0.celli 1 rfl rfl, a0.celli 2 rfl rfl, a0.celli 3 rfl rfl, a0.celli 4 rfl rfl, a0.celli 5 rfl rfl, trivial⟩, ?_⟩
   refine ⟨?_, ?_⟩
   ·have h := h a2 [] (Ext.refl no a2) Priv.nil
    refine h.mono fun en ab h => ?_
    obtain ⟨c0, bd, be, ai, ar, he, hkL, hk, h⟩ := h
    refine ⟨c0, bd, be, ai, ar, he, ?_⟩
    have a0 := hk.blk a0 (by simp)
    have a1 := hk.blk a1 (by simp)
    refine thenW_in fun ag ca => ?_
    have a3 := Blk.of_new ca
    have b0 := ((Ext.refl (fun b => b ∈ ([] : List Nat)) ab)).size
    have a7 := Nat.ne_of_lt a0.lt
    have a0 := a0.x_alloc ca
    have a6 := Nat.ne_of_lt a1.lt
    have a1 := a1.x_alloc ca
    have cy := (Ext.refl (fun b => b ∈ ([] : List Nat)) ab).x_alloc ca
    refine ⟨a3.cani 0 rfl rfl, thenW_in fun b8 am => ?_⟩
    have aq := cy.x_set (q := ab.heap.size) (i := 0) rfl (.inr b0) am
    have a0 := a0.oth (q := ab.heap.size) (i := 0) rfl a7 am
    have a1 := a1.oth (q := ab.heap.size) (i := 0) rfl a6 am
    have a3 := a3.seti 0 rfl am
    refine ⟨a3.cani 1 rfl rfl, thenW_in fun ae aj => ?_⟩
    have ad := aq.x_set (q := ab.heap.size) (i := 1) rfl (.inr b0) aj
    have a0 := a0.oth (q := ab.heap.size) (i := 1) rfl a7 aj
    have a1 := a1.oth (q := ab.heap.size) (i := 1) rfl a6 aj
    have a3 := a3.seti 1 rfl aj
    unfold cachettelaw13_world_do.J5
    refine bif_of (fun b6 => ?_) (fun b6 => ?_)
    ·have h := h.1 (bne_t b6)
     have h := h ae ad
     exact h
    have h := h.2 (bne_f b6)
    unfold cachettelaw13_world_do.J4
    refine bif_fo (fun b2 => ?_) (fun b2 => ?_)
    ·have h := h.2 (beq_f b2)
     unfold cachettelaw13_world_do.J3
     refine ⟨2, a0.celli 0 rfl rfl, ?_⟩
     refine bif_tt (by decide) ?_
     have h := h ae ad
     exact h
    have h := h.1 (beq_t b2)
    refine ⟨au, av, aw, a9, ⟨a1.celli 0 rfl rfl, a1.celli 1 rfl rfl, trivial⟩, ?_⟩
    refine elim_some al ?_
    have h := h ae (ab.heap.size) ad (PrivJ.cons (.inr b0) a3.lt PrivJ.nil)
    obtain ⟨hcs, hof, h⟩ := h
    refine ⟨hcs, thenW_in fun cj b5 => ?_⟩
    replace h := thenW_out h b5
    have a0 := a0.off (by rw [block_add]; exact hof _ (by simp)) b5
    have a3 := a3.off (by rw [block_add]; exact hof _ (by simp)) b5
    obtain ⟨hcs, h⟩ := h
    refine ⟨hcs, thenW_in fun d0 b4 => ?_⟩
    replace h := thenW_out h b4
    have a0 := a0.off (by rw [block_add]; exact hof _ (by simp)) b4
    have a3 := a3.off (by rw [block_add]; exact hof _ (by simp)) b4
    refine ⟨c0, bd, be, ai, ⟨a3.celli 0 rfl rfl, a3.celli 1 rfl rfl, trivial⟩, ?_⟩
    refine elim_some al ?_
    obtain ⟨hcs, hof, h⟩ := h
    refine ⟨hcs, thenW_in fun cl bp => ?_⟩
    replace h := thenW_out h bp
    have a0 := a0.off (by rw [block_add]; exact hof _ (by simp)) bp
    obtain ⟨hcs, h⟩ := h
    refine ⟨hcs, thenW_in fun co c1 => ?_⟩
    replace h := thenW_out h c1
    have a0 := a0.off (by rw [block_add]; exact hof _ (by simp)) c1
    unfold cachettelaw13_world_do.J3
    refine ⟨2, a0.celli 0 rfl rfl, ?_⟩
    refine bif_tt (by decide) ?_
    exact h
   refine thenW_in fun cv c4 => ?_
   have a3 := Blk.of_new c4
   have b0 := ((Ext.refl no a2)).size
   have a7 := Nat.ne_of_lt a0.lt
   have a0 := a0.x_alloc c4
   have a6 := Nat.ne_of_lt a1.lt
   have a1 := a1.x_alloc c4
   have bv := (Ext.refl no a2).x_alloc c4
   refine ⟨⟨a0.celli 0 rfl rfl, a0.celli 1 rfl rfl, a0.celli 2 rfl rfl, a0.celli 3 rfl rfl, a0.celli 4 rfl rfl, a0.celli 5 rfl rfl, trivial⟩, cellsAt_no (bv) bm, ?_⟩
   have h := h cv [a2.heap.size] bv (Priv.cons b0 a3.lt Priv.nil)
   refine h.mono fun d6 ag h => ?_
   obtain ⟨bb, ba, b9, af, ah, he, hkL, hk, h⟩ := h
   refine ⟨bb, ba, b9, af, ah, he, ?_⟩
   have a3 := hkL.blk a3 (by simp)
   have a0 := hk.blk a0 (by simp)
   have a1 := hk.blk a1 (by simp)
   refine ⟨a3.cani 0 rfl rfl, thenW_in fun b8 am => ?_⟩
   have aq := (Ext.refl (fun b => b ∈ ([a2.heap.size] : List Nat)) ag).x_set (q := a2.heap.size) (i := 0) rfl (.inl (by simp)) am
   have a0 := a0.oth (q := a2.heap.size) (i := 0) rfl a7 am
   have a1 := a1.oth (q := a2.heap.size) (i := 0) rfl a6 am
   have a3 := a3.seti 0 rfl am
   refine ⟨a3.cani 1 rfl rfl, thenW_in fun ae aj => ?_⟩
   have ad := aq.x_set (q := a2.heap.size) (i := 1) rfl (.inl (by simp)) aj
   have a0 := a0.oth (q := a2.heap.size) (i := 1) rfl a7 aj
   have a1 := a1.oth (q := a2.heap.size) (i := 1) rfl a6 aj
   have a3 := a3.seti 1 rfl aj
   rotate_left
   have h := h1'
   refine thenW_in fun cn dp => ?_
   have a1 := Blk.of_new dp
   have cu := ((Ext.refl (fun b => b ∈ ([w.heap.size, a8.heap.size] : List Nat)) ao)).size
   have ak := Nat.ne_of_lt a0.lt
   have a0 := a0.x_alloc dp
   have dw := (Ext.refl (fun b => b ∈ ([w.heap.size, a8.heap.size] : List Nat)) ao).x_alloc dp
   have h := h cn (a8.heap.size) (ao.heap.size) dw (PrivJ.cons (.inl (by simp)) a0.lt (PrivJ.cons (.inr cu) a1.lt PrivJ.nil))
   obtain ⟨dy, h⟩ := h
   refine ⟨dy, ?_⟩
   have h := h cn [] (Ext.refl no cn) Priv.nil
   refine h.mono fun ff bf h => ?_
   obtain ⟨au, av, aw, a9, c8, he, hkL, hk, h⟩ := h
   refine ⟨au, av, aw, a9, c8, he, ?_⟩
   have a0 := hk.blk a0 (by simp)
   have a1 := hk.blk a1 (by simp)
   have h := h bf (Ext.refl (fun b => b ∈ ([] : List Nat)) bf)
   have e4 : Ext (fun b => b = ao.heap.size) bf bf := ((Ext.refl no bf)).none
   refine ⟨a1.cani 0 rfl rfl, thenW_in fun f8 es => ?_⟩
   have eo := e4.x_set (q := ao.heap.size) (i := 0) rfl (.inl rfl) es
   have a0 := a0.oth (q := ao.heap.size) (i := 0) rfl ak es
   have a1 := a1.seti 0 rfl es
   refine ⟨a1.cani 1 rfl rfl, thenW_in fun fe dq => ?_⟩
   have ed := eo.x_set (q := ao.heap.size) (i := 1) rfl (.inl rfl) dq
   have a0 := a0.oth (q := ao.heap.size) (i := 1) rfl ak dq
   have a1 := a1.seti 1 rfl dq
   unfold cachettelaw13_world_do.J6
   refine thenW_in fun a2 er => ?_
   have dx := ed.x_drew er
   have a0 := a0.x_drew er
   have a1 := a1.x_drew er
   refine elim_some al ?_
   have h := h a2 dx
   obtain ⟨da, de, d9, bi, d2, h⟩ := h
   refine ⟨da, de, d9, bi, d2, ?_⟩
   refine ⟨2, a5, 0, 0, none, 0, 0, none, 0, 0, ⟨a0.celli 0 rfl rfl, a0.celli 1 rfl rfl, a0.celli 2 rfl rfl, a0.celli 3 rfl rfl, a0.celli 4 rfl rfl, a0.celli 5 rfl rfl, trivial⟩, ?_⟩
   refine ⟨?_, ?_⟩
   ·have h := h a2 [] (Ext.refl no a2) Priv.nil
    refine h.mono fun d6 ag h => ?_
    obtain ⟨cc, ce, cd, b1, ah, he, hkL, hk, h⟩ := h
    refine ⟨cc, ce, cd, b1, ah, he, ?_⟩
    have a0 := hk.blk a0 (by simp)
    have a1 := hk.blk a1 (by simp)
    refine thenW_in fun b8 am => ?_
    have a3 := Blk.of_new am
    have b0 := ((Ext.refl (fun b => b ∈ ([] : List Nat)) ag)).size
    have a7 := Nat.ne_of_lt a0.lt
    have a0 := a0.x_alloc am
    have a6 := Nat.ne_of_lt a1.lt
    have a1 := a1.x_alloc am
    have aq := (Ext.refl (fun b => b ∈ ([] : List Nat)) ag).x_alloc am
    refine ⟨a3.cani 0 rfl rfl, thenW_in fun d7 aj => ?_⟩
    have bk := aq.x_set (q := ag.heap.size) (i := 0) rfl (.inr b0) aj
    have a0 := a0.oth (q := ag.heap.size) (i := 0) rfl a7 aj
    have a1 := a1.oth (q := ag.heap.size) (i := 0) rfl a6 aj
    have a3 := a3.seti 0 rfl aj
    refine ⟨a3.cani 1 rfl rfl, thenW_in fun ae c2 => ?_⟩
    have ad := bk.x_set (q := ag.heap.size) (i := 1) rfl (.inr b0) c2
    have a0 := a0.oth (q := ag.heap.size) (i := 1) rfl a7 c2
    have a1 := a1.oth (q := ag.heap.size) (i := 1) rfl a6 c2
    have a3 := a3.seti 1 rfl c2
    unfold cachettelaw13_world_do.J5
    refine bif_of (fun b6 => ?_) (fun b6 => ?_)
    ·have h := h.1 (bne_t b6)
     have h := h ae ad
     exact h
    have h := h.2 (bne_f b6)
    unfold cachettelaw13_world_do.J4
    refine bif_fo (fun b2 => ?_) (fun b2 => ?_)
    ·have h := h.2 (beq_f b2)
     unfold cachettelaw13_world_do.J3
     refine ⟨2, a0.celli 0 rfl rfl, ?_⟩
     refine bif_tt (by decide) ?_
     have h := h ae ad
     exact h
    have h := h.1 (beq_t b2)
    refine ⟨au, av, aw, a9, ⟨a1.celli 0 rfl rfl, a1.celli 1 rfl rfl, trivial⟩, ?_⟩
    refine elim_some al ?_
    have h := h ae (ag.heap.size) ad (PrivJ.cons (.inr b0) a3.lt PrivJ.nil)
    obtain ⟨hcs, hof, h⟩ := h
    refine ⟨hcs, thenW_in fun cj b5 => ?_⟩
    replace h := thenW_out h b5
    have a0 := a0.off (by rw [block_add]; exact hof _ (by simp)) b5
    have a3 := a3.off (by rw [block_add]; exact hof _ (by simp)) b5
    obtain ⟨hcs, h⟩ := h
    refine ⟨hcs, thenW_in fun d0 b4 => ?_⟩
    replace h := thenW_out h b4
    have a0 := a0.off (by rw [block_add]; exact hof _ (by simp)) b4
    have a3 := a3.off (by rw [block_add]; exact hof _ (by simp)) b4
    refine ⟨cc, ce, cd, b1, ⟨a3.celli 0 rfl rfl, a3.celli 1 rfl rfl, trivial⟩, ?_⟩
    refine elim_some al ?_
    obtain ⟨hcs, hof, h⟩ := h
    refine ⟨hcs, thenW_in fun cl bp => ?_⟩
    replace h := thenW_out h bp
    have a0 := a0.off (by rw [block_add]; exact hof _ (by simp)) bp
    obtain ⟨hcs, h⟩ := h
    refine ⟨hcs, thenW_in fun co c1 => ?_⟩
    replace h := thenW_out h c1
    have a0 := a0.off (by rw [block_add]; exact hof _ (by simp)) c1
    unfold cachettelaw13_world_do.J3
    refine ⟨2, a0.celli 0 rfl rfl, ?_⟩
    refine bif_tt (by decide) ?_
    exact h
   refine thenW_in fun el dh => ?_
   have a3 := Blk.of_new dh
   have b0 := ((Ext.refl no a2)).size
   have a7 := Nat.ne_of_lt a0.lt
   have a0 := a0.x_alloc dh
   have a6 := Nat.ne_of_lt a1.lt
   have a1 := a1.x_alloc dh
   have db := (Ext.refl no a2).x_alloc dh
   refine ⟨⟨a0.celli 0 rfl rfl, a0.celli 1 rfl rfl, a0.celli 2 rfl rfl, a0.celli 3 rfl rfl, a0.celli 4 rfl rfl, a0.celli 5 rfl rfl, trivial⟩, cellsAt_no (db) d2, ?_⟩
   have h := h el [a2.heap.size] db (Priv.cons b0 a3.lt Priv.nil)
   refine h.mono fun fg b8 h => ?_
   obtain ⟨bb, ba, b9, af, cb, he, hkL, hk, h⟩ := h
   refine ⟨bb, ba, b9, af, cb, he, ?_⟩
   have a3 := hkL.blk a3 (by simp)
   have a0 := hk.blk a0 (by simp)
   have a1 := hk.blk a1 (by simp)
   refine ⟨a3.cani 0 rfl rfl, thenW_in fun d7 aj => ?_⟩
   have bk := (Ext.refl (fun b => b ∈ ([a2.heap.size] : List Nat)) b8).x_set (q := a2.heap.size) (i := 0) rfl (.inl (by simp)) aj
   have a0 := a0.oth (q := a2.heap.size) (i := 0) rfl a7 aj
   have a1 := a1.oth (q := a2.heap.size) (i := 0) rfl a6 aj
   have a3 := a3.seti 0 rfl aj
   refine ⟨a3.cani 1 rfl rfl, thenW_in fun ae c2 => ?_⟩
   have ad := bk.x_set (q := a2.heap.size) (i := 1) rfl (.inl (by simp)) c2
   have a0 := a0.oth (q := a2.heap.size) (i := 1) rfl a7 c2
   have a1 := a1.oth (q := a2.heap.size) (i := 1) rfl a6 c2
   have a3 := a3.seti 1 rfl c2
   rotate_left
  rotate_left 2
  have h := h1'
  refine thenW_in fun em di => ?_
  have a1 := Blk.of_new di
  have cu := (c9).size
  have f5 := Nat.ne_of_lt aa.lt
  have aa := aa.x_alloc di
  have ak := Nat.ne_of_lt a0.lt
  have a0 := a0.x_alloc di
  have d8 := c9.x_alloc di
  refine ⟨⟨a0.celli 0 rfl rfl, a0.celli 1 rfl rfl, a0.celli 2 rfl rfl, a0.celli 3 rfl rfl, a0.celli 4 rfl rfl, a0.celli 5 rfl rfl, trivial⟩, cellsAt_no (d8) d3, ?_⟩
  have h := h em [w.heap.size, a8.heap.size, ap.heap.size] d8 (Priv.cons f6 aa.lt (Priv.cons b7 a0.lt (Priv.cons cu a1.lt Priv.nil)))
  refine h.mono fun fc dg h => ?_
  obtain ⟨ch, dc, br, c6, bj, bs, bw, cf, cp, cm, he, hkL, h⟩ := h
  refine ⟨ch, dc, br, c6, bj, bs, bw, cf, cp, cm, he, ?_⟩
  have aa := hkL.blk aa (by simp)
  have a0 := hkL.blk a0 (by simp)
  have a1 := hkL.blk a1 (by simp)
  obtain ⟨et, h⟩ := h
  refine ⟨et, ?_⟩
  have h := h dg [w.heap.size, a8.heap.size, ap.heap.size] (Ext.refl (fun b => b ∈ ([w.heap.size, a8.heap.size, ap.heap.size] : List Nat)) dg) (PrivJ.cons (.inl (by simp)) aa.lt (PrivJ.cons (.inl (by simp)) a0.lt (PrivJ.cons (.inl (by simp)) a1.lt PrivJ.nil)))
  refine h.mono fun fh d5 h => ?_
  obtain ⟨au, av, aw, a9, c7, he, hkL, h⟩ := h
  refine ⟨au, av, aw, a9, c7, he, ?_⟩
  have aa := hkL.blk aa (by simp)
  have a0 := hkL.blk a0 (by simp)
  have a1 := hkL.blk a1 (by simp)
  refine ⟨a1.cani 0 rfl rfl, thenW_in fun ei cg => ?_⟩
  have cz := (Ext.refl (fun b => b ∈ ([w.heap.size, a8.heap.size, ap.heap.size] : List Nat)) d5).x_set (q := ap.heap.size) (i := 0) rfl (.inl (by simp)) cg
  have a0 := a0.oth (q := ap.heap.size) (i := 0) rfl ak cg
  have a1 := a1.seti 0 rfl cg
  refine ⟨a1.cani 1 rfl rfl, thenW_in fun eq ck => ?_⟩
  have cq := cz.x_set (q := ap.heap.size) (i := 1) rfl (.inl (by simp)) ck
  have a0 := a0.oth (q := ap.heap.size) (i := 1) rfl ak ck
  have a1 := a1.seti 1 rfl ck
  unfold cachettelaw13_world_do.J6
  refine thenW_in fun a2 cr => ?_
  have cw := cq.x_drew cr
  have a0 := a0.x_drew cr
  have a1 := a1.x_drew cr
  refine elim_some al ?_
  have h := h a2 (a8.heap.size) (ap.heap.size) cw (PrivJ.cons (.inl (by simp)) a0.lt (PrivJ.cons (.inl (by simp)) a1.lt PrivJ.nil))
  obtain ⟨bz, bl, bg, an, bm, h⟩ := h
  refine ⟨bz, bl, bg, an, bm, ?_⟩
  refine ⟨2, a5, 0, 0, none, 0, 0, none, 0, 0, ⟨a0.celli 0 rfl rfl, a0.celli 1 rfl rfl, a0.celli 2 rfl rfl, a0.celli 3 rfl rfl, a0.celli 4 rfl rfl, a0.celli 5 rfl rfl, trivial⟩, ?_⟩
  refine ⟨?_, ?_⟩
  ·have h := h a2 [] (Ext.refl no a2) Priv.nil
   refine h.mono fun en ab h => ?_
   obtain ⟨c0, bd, be, ai, ar, he, hkL, hk, h⟩ := h
   refine ⟨c0, bd, be, ai, ar, he, ?_⟩
   have a0 := hk.blk a0 (by simp)
   have a1 := hk.blk a1 (by simp)
   refine thenW_in fun ag ca => ?_
   have a3 := Blk.of_new ca
   have b0 := ((Ext.refl (fun b => b ∈ ([] : List Nat)) ab)).size
   have a7 := Nat.ne_of_lt a0.lt
   have a0 := a0.x_alloc ca
   have a6 := Nat.ne_of_lt a1.lt
   have a1 := a1.x_alloc ca
   have cy := (Ext.refl (fun b => b ∈ ([] : List Nat)) ab).x_alloc ca
   refine ⟨a3.cani 0 rfl rfl, thenW_in fun b8 am => ?_⟩
   have aq := cy.x_set (q := ab.heap.size) (i := 0) rfl (.inr b0) am
   have a0 := a0.oth (q := ab.heap.size) (i := 0) rfl a7 am
   have a1 := a1.oth (q := ab.heap.size) (i := 0) rfl a6 am
   have a3 := a3.seti 0 rfl am
   refine ⟨a3.cani 1 rfl rfl, thenW_in fun ae aj => ?_⟩
   have ad := aq.x_set (q := ab.heap.size) (i := 1) rfl (.inr b0) aj
   have a0 := a0.oth (q := ab.heap.size) (i := 1) rfl a7 aj
   have a1 := a1.oth (q := ab.heap.size) (i := 1) rfl a6 aj
   have a3 := a3.seti 1 rfl aj
   unfold cachettelaw13_world_do.J5
   refine bif_of (fun b6 => ?_) (fun b6 => ?_)
   ·have h := h.1 (bne_t b6)
    have h := h ae ad
    exact h
   have h := h.2 (bne_f b6)
   unfold cachettelaw13_world_do.J4
   refine bif_fo (fun b2 => ?_) (fun b2 => ?_)
   ·have h := h.2 (beq_f b2)
    unfold cachettelaw13_world_do.J3
    refine ⟨2, a0.celli 0 rfl rfl, ?_⟩
    refine bif_tt (by decide) ?_
    have h := h ae ad
    exact h
   have h := h.1 (beq_t b2)
   refine ⟨au, av, aw, a9, ⟨a1.celli 0 rfl rfl, a1.celli 1 rfl rfl, trivial⟩, ?_⟩
   refine elim_some al ?_
   have h := h ae (ab.heap.size) ad (PrivJ.cons (.inr b0) a3.lt PrivJ.nil)
   obtain ⟨hcs, hof, h⟩ := h
   refine ⟨hcs, thenW_in fun cj b5 => ?_⟩
   replace h := thenW_out h b5
   have a0 := a0.off (by rw [block_add]; exact hof _ (by simp)) b5
   have a3 := a3.off (by rw [block_add]; exact hof _ (by simp)) b5
   obtain ⟨hcs, h⟩ := h
   refine ⟨hcs, thenW_in fun d0 b4 => ?_⟩
   replace h := thenW_out h b4
   have a0 := a0.off (by rw [block_add]; exact hof _ (by simp)) b4
   have a3 := a3.off (by rw [block_add]; exact hof _ (by simp)) b4
   refine ⟨c0, bd, be, ai, ⟨a3.celli 0 rfl rfl, a3.celli 1 rfl rfl, trivial⟩, ?_⟩
   refine elim_some al ?_
   obtain ⟨hcs, hof, h⟩ := h
   refine ⟨hcs, thenW_in fun cl bp => ?_⟩
   replace h := thenW_out h bp
   have a0 := a0.off (by rw [block_add]; exact hof _ (by simp)) bp
   obtain ⟨hcs, h⟩ := h
   refine ⟨hcs, thenW_in fun co c1 => ?_⟩
   replace h := thenW_out h c1
   have a0 := a0.off (by rw [block_add]; exact hof _ (by simp)) c1
   unfold cachettelaw13_world_do.J3
   refine ⟨2, a0.celli 0 rfl rfl, ?_⟩
   refine bif_tt (by decide) ?_
   exact h
  refine thenW_in fun cv c4 => ?_
  have a3 := Blk.of_new c4
  have b0 := ((Ext.refl no a2)).size
  have a7 := Nat.ne_of_lt a0.lt
  have a0 := a0.x_alloc c4
  have a6 := Nat.ne_of_lt a1.lt
  have a1 := a1.x_alloc c4
  have bv := (Ext.refl no a2).x_alloc c4
  refine ⟨⟨a0.celli 0 rfl rfl, a0.celli 1 rfl rfl, a0.celli 2 rfl rfl, a0.celli 3 rfl rfl, a0.celli 4 rfl rfl, a0.celli 5 rfl rfl, trivial⟩, cellsAt_no (bv) bm, ?_⟩
  have h := h cv [a2.heap.size] bv (Priv.cons b0 a3.lt Priv.nil)
  refine h.mono fun d6 ag h => ?_
  obtain ⟨bb, ba, b9, af, ah, he, hkL, hk, h⟩ := h
  refine ⟨bb, ba, b9, af, ah, he, ?_⟩
  have a3 := hkL.blk a3 (by simp)
  have a0 := hk.blk a0 (by simp)
  have a1 := hk.blk a1 (by simp)
  refine ⟨a3.cani 0 rfl rfl, thenW_in fun b8 am => ?_⟩
  have aq := (Ext.refl (fun b => b ∈ ([a2.heap.size] : List Nat)) ag).x_set (q := a2.heap.size) (i := 0) rfl (.inl (by simp)) am
  have a0 := a0.oth (q := a2.heap.size) (i := 0) rfl a7 am
  have a1 := a1.oth (q := a2.heap.size) (i := 0) rfl a6 am
  have a3 := a3.seti 0 rfl am
  refine ⟨a3.cani 1 rfl rfl, thenW_in fun ae aj => ?_⟩
  have ad := aq.x_set (q := a2.heap.size) (i := 1) rfl (.inl (by simp)) aj
  have a0 := a0.oth (q := a2.heap.size) (i := 1) rfl a7 aj
  have a1 := a1.oth (q := a2.heap.size) (i := 1) rfl a6 aj
  have a3 := a3.seti 1 rfl aj
  rotate_left
  all_goals
   unfold cachettelaw13_world_do.J5
   refine bif_of (fun b6 => ?_) (fun b6 => ?_)
   ·have h := h.1 (bne_t b6)
    have h := h ae ad
    exact h
   have h := h.2 (bne_f b6)
   unfold cachettelaw13_world_do.J4
   refine bif_fo (fun b2 => ?_) (fun b2 => ?_)
   ·have h := h.2 (beq_f b2)
    unfold cachettelaw13_world_do.J3
    refine ⟨2, a0.celli 0 rfl rfl, ?_⟩
    refine bif_tt (by decide) ?_
    have h := h ae ad
    exact h
   have h := h.1 (beq_t b2)
   refine ⟨au, av, aw, a9, ⟨a1.celli 0 rfl rfl, a1.celli 1 rfl rfl, trivial⟩, ?_⟩
   refine elim_some al ?_
   have h := h ae (a2.heap.size) ad (PrivJ.cons (.inl (by simp)) a3.lt PrivJ.nil)
   obtain ⟨hcs, hof, h⟩ := h
   refine ⟨hcs, thenW_in fun cj b5 => ?_⟩
   replace h := thenW_out h b5
   have a0 := a0.off (by rw [block_add]; exact hof _ (by simp)) b5
   have a3 := a3.off (by rw [block_add]; exact hof _ (by simp)) b5
   obtain ⟨hcs, h⟩ := h
   refine ⟨hcs, thenW_in fun d0 b4 => ?_⟩
   replace h := thenW_out h b4
   have a0 := a0.off (by rw [block_add]; exact hof _ (by simp)) b4
   have a3 := a3.off (by rw [block_add]; exact hof _ (by simp)) b4
   refine ⟨bb, ba, b9, af, ⟨a3.celli 0 rfl rfl, a3.celli 1 rfl rfl, trivial⟩, ?_⟩
   refine elim_some al ?_
   obtain ⟨hcs, hof, h⟩ := h
   refine ⟨hcs, thenW_in fun cl bp => ?_⟩
   replace h := thenW_out h bp
   have a0 := a0.off (by rw [block_add]; exact hof _ (by simp)) bp
   obtain ⟨hcs, h⟩ := h
   refine ⟨hcs, thenW_in fun co c1 => ?_⟩
   replace h := thenW_out h c1
   have a0 := a0.off (by rw [block_add]; exact hof _ (by simp)) c1
   unfold cachettelaw13_world_do.J3
   refine ⟨2, a0.celli 0 rfl rfl, ?_⟩
   refine bif_tt (by decide) ?_
   exact h

theorem do2.go (a8 : Option Addr) (a7 : Int) (a2 : Int) (a1 : Option Addr) (a0 : Nat) (a3 : Nat) (a5 : Option Addr) (a6 : Nat) (a4 : Nat) {R : Value → World → Prop} {w : World} (h : do2.N a8 a7 a2 a1 a0 a3 a5 a6 a4 R w) : Calls Try.prog 7 #[.pointer a8, .agg #[.int .i64 2, .int .i64 a7, .int .u64 a2, .slice a1 a0 a3, .slice a5 a6 a4]] w fun e w' => ∃ v, e = .returned v ∧ R v w' := cachettelaw13_world_do.ok a8 2 a7 a2 a1 a0 a3 a5 a6 a4 (do2.up a8 a7 a2 a1 a0 a3 a5 a6 a4 h)
def cachettelaw13_light.M (ak : Option Addr) (ac : Nat) (am : Nat) (al : Option Addr) (ah : Nat) (ay : Nat) (R : Value → World → Prop) (w : World) : Prop :=
 bif decide ((ac : Int) > 50) then (
 R (.bool false) w) else (
 bif decide ((ah : Int) > 40) then (
 R (.bool false) w) else (
 ∃ (I0 : Nat → List Value → World → Prop) (m4 : Nat), I0 m4 [.int .i64 0] w ∧ ∀ (m5 : Nat) (af : World) (i3 : Int), I0 m5 [.int .i64 i3] af →
 bif decide (i3 < (ah : Int)) then (
 al.elim False fun a7 =>
 0 ≤ (i3 : Int) ∧ (i3 : Int) < (ah : Int) ∧
 ∃ (ad : Option Addr) (a4 : Nat) (ab : Nat), af.cell? ((a7.add (Int.toNat i3 * 5)).add 3) = some (.slice ad a4 ab) ∧
 bif decide ((a4 : Int) > 20) then (
 R (.bool false) af) else (
 al.elim False fun a9 =>
 0 ≤ (i3 : Int) ∧ (i3 : Int) < (ah : Int) ∧
 ∃ (ae : Option Addr) (aa : Nat) (ag : Nat), af.cell? ((a9.add (Int.toNat i3 * 5)).add 4) = some (.slice ae aa ag) ∧
 bif decide ((aa : Int) > 60) then (
 R (.bool false) af) else (
 ∃ (I2 : Nat → List Value → World → Prop) (ax : Nat), I2 ax [.int .i64 0] af ∧ ∀ (aq : Nat) (a3 : World) (ai : Int), I2 aq [.int .i64 ai] a3 →
 al.elim False fun aw =>
 0 ≤ (i3 : Int) ∧ (i3 : Int) < (ah : Int) ∧
 ∃ (a5 : Option Addr) (a2 : Nat) (a8 : Nat), a3.cell? ((aw.add (Int.toNat i3 * 5)).add 3) = some (.slice a5 a2 a8) ∧
 bif decide (ai < (a2 : Int)) then (
 al.elim False fun av =>
 0 ≤ (i3 : Int) ∧ (i3 : Int) < (ah : Int) ∧
 ∃ (a1 : Option Addr) (a0 : Nat) (a6 : Nat), a3.cell? ((av.add (Int.toNat i3 * 5)).add 3) = some (.slice a1 a0 a6) ∧
 a1.elim False fun au =>
 0 ≤ (ai : Int) ∧ (ai : Int) < (a0 : Int) ∧
 ∃ (an : Option Addr) (aj : Nat) (ao : Nat), a3.cell? ((au.add (Int.toNat ai * 2)).add 1) = some (.slice an aj ao) ∧
 bif decide ((aj : Int) > 60) then (
 R (.bool false) a3) else (
 ∃ ap, ap < aq ∧ I2 ap [.int .i64 (IntKind.i64.wrap (ai + 1))] a3)) else (
 ∃ ar, ar < m5 ∧ I0 ar [.int .i64 (IntKind.i64.wrap (i3 + 1))] a3)))) else (
 R (.bool true) af)))

theorem cachettelaw13_light.eq (draws1a : Option Addr) (draws1n : Nat) (draws1c : Nat) (l2a : Option Addr) (l2n : Nat) (l2c : Nat) (R : Value → World → Prop) (w : World) : mfunc Try.prog [(0, [1], [(5, (.one (.int .i64)))]), (2, [1, 5], [(6, (.one (.int .i64)))])] 13 [.slice draws1a draws1n draws1c, .slice l2a l2n l2c] R w = cachettelaw13_light.M draws1a draws1n draws1c l2a l2n l2c R w := by kernel_rfl
theorem cachettelaw13_light.ok (a2 : Option Addr) (a0 : Nat) (a1 : Nat) (a3 : Option Addr) (a4 : Nat) (a5 : Nat) {R : Value → World → Prop} {w : World} (h : cachettelaw13_light.M a2 a0 a1 a3 a4 a5 R w) : Calls Try.prog 13 #[.slice a2 a0 a1, .slice a3 a4 a5] w fun e w' => ∃ v, e = .returned v ∧ R v w' :=
  mfunc_ok follows (H := [(0, [1], [(5, (.one (.int .i64)))]), (2, [1, 5], [(6, (.one (.int .i64)))])]) (args := [.slice a2 a0 a1, .slice a3 a4 a5]) (by rw [cachettelaw13_light.eq]; exact h)

def cachettelaw13_light.N (aj : Option Addr) (a6 : Nat) (ak : Nat) (ar : Option Addr) (ad : Nat) (av : Nat) (R : Value → World → Prop) (w : World) : Prop :=
 ((a6 : Int) > 50 →
 R (.bool false) w) ∧
 ((a6 : Int) ≤ 50 →
 ((ad : Int) > 40 →
 R (.bool false) w) ∧
 ((ad : Int) ≤ 40 →
 ∃ (I0 : Nat → List Value → World → Prop) (m6 : Nat), I0 m6 [.int .i64 0] w ∧ ∀ (m7 : Nat) (ae : World) (i5 : Int), I0 m7 [.int .i64 i5] ae →
 (i5 < (ad : Int) →
 ∃ ai : Addr, ar = some ai ∧
 0 ≤ (i5 : Int) ∧ (i5 : Int) < (ad : Int) ∧
 ∃ (aa : Option Addr) (a1 : Nat) (ab : Nat), ae.cell? ((ai.add (Int.toNat i5 * 5)).add 3) = some (.slice aa a1 ab) ∧
 ((a1 : Int) > 20 →
 R (.bool false) ae) ∧
 ((a1 : Int) ≤ 20 →
 0 ≤ (i5 : Int) ∧ (i5 : Int) < (ad : Int) ∧
 ∃ (af : Option Addr) (a4 : Nat) (ah : Nat), ae.cell? ((ai.add (Int.toNat i5 * 5)).add 4) = some (.slice af a4 ah) ∧
 ((a4 : Int) > 60 →
 R (.bool false) ae) ∧
 ((a4 : Int) ≤ 60 →
 ∃ (I2 : Nat → List Value → World → Prop) (au : Nat), I2 au [.int .i64 0] ae ∧ ∀ (aq : Nat) (a5 : World) (ac : Int), I2 aq [.int .i64 ac] a5 →
 0 ≤ (i5 : Int) ∧ (i5 : Int) < (ad : Int) ∧
 ∃ (a7 : Option Addr) (a0 : Nat) (a9 : Nat), a5.cell? ((ai.add (Int.toNat i5 * 5)).add 3) = some (.slice a7 a0 a9) ∧
 (ac < (a0 : Int) →
 0 ≤ (i5 : Int) ∧ (i5 : Int) < (ad : Int) ∧
 ∃ (a3 : Option Addr) (a2 : Nat) (a8 : Nat), a5.cell? ((ai.add (Int.toNat i5 * 5)).add 3) = some (.slice a3 a2 a8) ∧
 ∃ an : Addr, a3 = some an ∧
 0 ≤ (ac : Int) ∧ (ac : Int) < (a2 : Int) ∧
 ∃ (am : Option Addr) (ag : Nat) (al : Nat), a5.cell? ((an.add (Int.toNat ac * 2)).add 1) = some (.slice am ag al) ∧
 ((ag : Int) > 60 →
 R (.bool false) a5) ∧
 ((ag : Int) ≤ 60 →
 (-9223372036854775808 : Int) ≤ (ac + 1) ∧ (ac + 1) < 9223372036854775808 ∧
 ∃ ao, ao < aq ∧ I2 ao [.int .i64 (ac + 1)] a5)) ∧
 ((a0 : Int) ≤ ac →
 (-9223372036854775808 : Int) ≤ (i5 + 1) ∧ (i5 + 1) < 9223372036854775808 ∧
 ∃ ap, ap < m7 ∧ I0 ap [.int .i64 (i5 + 1)] a5)))) ∧
 ((ad : Int) ≤ i5 →
 R (.bool true) ae)))

theorem cachettelaw13_light.up (a0 : Option Addr) (a2 : Nat) (a1 : Nat) (b0 : Option Addr) (b2 : Nat) (b1 : Nat) {R : Value → World → Prop} {w : World} (h : cachettelaw13_light.N a0 a2 a1 b0 b2 b1 R w) : cachettelaw13_light.M a0 a2 a1 b0 b2 b1 R w := by
  unfold cachettelaw13_light.M
  unfold cachettelaw13_light.N at h
  refine bif_of (fun c3 => ?_) (fun c3 => ?_)
  ·have h := h.1 (of_decide_eq_true c3)
   exact h
  have h := h.2 (Int.not_lt.1 (of_decide_eq_false c3))
  refine bif_of (fun c4 => ?_) (fun c4 => ?_)
  ·have h := h.1 (of_decide_eq_true c4)
   exact h
  have h := h.2 (Int.not_lt.1 (of_decide_eq_false c4))
  obtain ⟨I0, m6, h0, h⟩ := h
  refine ⟨I0, m6, h0, fun m7 b3 i5 hI => ?_⟩
  have h := h m7 b3 i5 hI
  refine bif_fo (fun c9 => ?_) (fun c9 => ?_)
  ·have h := h.2 (Int.not_lt.1 (of_decide_eq_false c9))
   exact h
  have h := h.1 (of_decide_eq_true c9)
  obtain ⟨ba, ae, h⟩ := h
  refine elim_some ae ?_
  obtain ⟨ac, ad, h⟩ := h
  refine ⟨ac, ad, ?_⟩
  obtain ⟨a6, aa, a8, ap, h⟩ := h
  refine ⟨a6, aa, a8, ap, ?_⟩
  refine bif_of (fun al => ?_) (fun al => ?_)
  ·have h := h.1 (of_decide_eq_true al)
   exact h
  have h := h.2 (Int.not_lt.1 (of_decide_eq_false al))
  refine elim_some ae ?_
  obtain ⟨ac, ad, h⟩ := h
  refine ⟨ac, ad, ?_⟩
  obtain ⟨af, ah, ag, aj, h⟩ := h
  refine ⟨af, ah, ag, aj, ?_⟩
  refine bif_of (fun ax => ?_) (fun ax => ?_)
  ·have h := h.1 (of_decide_eq_true ax)
   exact h
  have h := h.2 (Int.not_lt.1 (of_decide_eq_false ax))
  obtain ⟨I2, b4, h0, h⟩ := h
  refine ⟨I2, b4, h0, fun b8 az b7 hI => ?_⟩
  have h := h b8 az b7 hI
  refine elim_some ae ?_
  obtain ⟨ac, ad, h⟩ := h
  refine ⟨ac, ad, ?_⟩
  obtain ⟨a3, a7, a5, an, h⟩ := h
  refine ⟨a3, a7, a5, an, ?_⟩
  refine bif_fo (fun ai => ?_) (fun ai => ?_)
  ·have h := h.2 (Int.not_lt.1 (of_decide_eq_false ai))
   obtain ⟨ao, au, h⟩ := h
   try rw [w64 ao au]
   obtain ⟨b6, hk, h⟩ := h
   exact ⟨b6, hk, h⟩
  have h := h.1 (of_decide_eq_true ai)
  refine elim_some ae ?_
  obtain ⟨ac, ad, h⟩ := h
  refine ⟨ac, ad, ?_⟩
  obtain ⟨ab, a9, a4, ar, h⟩ := h
  refine ⟨ab, a9, a4, ar, ?_⟩
  obtain ⟨b9, ay, h⟩ := h
  refine elim_some ay ?_
  obtain ⟨ac, ad, h⟩ := h
  refine ⟨ac, ad, ?_⟩
  obtain ⟨aw, aq, ak, av, h⟩ := h
  refine ⟨aw, aq, ak, av, ?_⟩
  refine bif_of (fun am => ?_) (fun am => ?_)
  ·have h := h.1 (of_decide_eq_true am)
   exact h
  have h := h.2 (Int.not_lt.1 (of_decide_eq_false am))
  obtain ⟨ao, au, h⟩ := h
  try rw [w64 ao au]
  obtain ⟨b5, hk, h⟩ := h
  exact ⟨b5, hk, h⟩

theorem cachettelaw13_light.go (a2 : Option Addr) (a0 : Nat) (a1 : Nat) (a3 : Option Addr) (a4 : Nat) (a5 : Nat) {R : Value → World → Prop} {w : World} (h : cachettelaw13_light.N a2 a0 a1 a3 a4 a5 R w) : Calls Try.prog 13 #[.slice a2 a0 a1, .slice a3 a4 a5] w fun e w' => ∃ v, e = .returned v ∧ R v w' := cachettelaw13_light.ok a2 a0 a1 a3 a4 a5 (cachettelaw13_light.up a2 a0 a1 a3 a4 a5 h)
def cachettelaw13_alive.M  (R : Value → World → Prop) (w : World) : Prop :=
 Calls Try.prog 17 #[.slice none 0 0] w fun bm bn => ∃ (ar : Option Addr), bm = .returned (.pointer ar) ∧
 Calls Try.prog 18 #[.pointer ar] bn fun bk bl => ∃ (aw : Int) (ay : Int), bk = .returned (.tuple #[.int .u64 aw, .int .u64 ay]) ∧
 Calls Try.prog 19 #[.pointer ar, .int .i64 0, .int .u64 aw] bl fun be bh => ∃ (aq : Option Addr) (b3 : Int), be = .returned (.tuple #[.pointer aq, .int .i64 b3]) ∧
 Calls Try.prog 20 #[.int .u64 ay] bh fun bc bj => ∃ (az : Option Addr) (b5 : Nat) (b8 : Nat) (ag : Int), bc = .returned (.agg #[.slice az b5 b8, .int .i64 ag]) ∧
 Calls Try.prog 9 #[.pointer ar, .agg #[.slice az b5 b8, .int .i64 ag], .int .u64 0] bj fun bg a0 => ∃ (am : Int) (au : Int) (a8 : Int) (aj : Int) (a7 : Option Addr) (aa : Nat) (a6 : Nat) (an : Option Addr) (ao : Nat) (ap : Nat) (a1 : Int) (ab : Int), bg = .returned (.tuple #[.agg #[.int .i64 am, .int .i64 au, .int .u64 a8, .int .i64 aj, .slice a7 aa a6, .slice an ao ap], .int .u64 a1, .int .i64 ab]) ∧
 thenW (a0.alloc (.cells #[.int .i64 0, .int .i64 0, .int .u64 0, .int .i64 0, .slice none 0 0, .slice none 0 0] 52)) fun b4 =>
 canStore b4 ((blk a0.heap.size).add 0) ∧
 thenW (b4.setCell ((blk a0.heap.size).add 0) (.int .i64 am)) fun b6 =>
 canStore b6 ((blk a0.heap.size).add 1) ∧
 thenW (b6.setCell ((blk a0.heap.size).add 1) (.int .i64 au)) fun b1 =>
 canStore b1 ((blk a0.heap.size).add 2) ∧
 thenW (b1.setCell ((blk a0.heap.size).add 2) (.int .u64 a8)) fun b2 =>
 canStore b2 ((blk a0.heap.size).add 3) ∧
 thenW (b2.setCell ((blk a0.heap.size).add 3) (.int .i64 aj)) fun b0 =>
 canStore b0 ((blk a0.heap.size).add 4) ∧
 thenW (b0.setCell ((blk a0.heap.size).add 4) (.slice a7 aa a6)) fun b7 =>
 canStore b7 ((blk a0.heap.size).add 5) ∧
 thenW (b7.setCell ((blk a0.heap.size).add 5) (.slice an ao ap)) fun b9 =>
 ∃ (ad : Int) (al : Int) (a2 : Int) (a9 : Int) (a3 : Option Addr) (a5 : Nat) (a4 : Nat) (af : Option Addr) (ae : Nat) (ai : Nat), cellsAt b9 (blk a0.heap.size) [.int .i64 ad, .int .i64 al, .int .u64 a2, .int .i64 a9, .slice a3 a5 a4, .slice af ae ai] 0 ∧
 Calls Try.prog 11 #[.pointer aq, .agg #[.int .i64 ad, .int .i64 al, .int .u64 a2, .int .i64 a9, .slice a3 a5 a4, .slice af ae ai]] b9 fun ba bb => ∃ (ah : Int), ba = .returned (.int .i64 ah) ∧
 Calls Try.prog 8 #[.pointer aq, .int .i64 0] bb fun bi ac => ∃ (ax : Int) (av : Int), bi = .returned (.tuple #[.int .u64 ax, .int .i64 av]) ∧
 bif b3 == 0 then (
 bif ab == 0 then (
 bif ah == 0 then (
 bif av == 0 then (
 bif ax == a1 then (
 bif a1 != 0 then (
 Calls Try.prog 21 #[.pointer aq] ac fun bd bf => ∃ (ak : Int), bd = .returned (.int .i64 ak) ∧
 R (.bool (ak == 1)) bf) else (
 R (.bool false) ac)) else (
 R (.bool false) ac)) else (
 R (.bool false) ac)) else (
 R (.bool false) ac)) else (
 R (.bool false) ac)) else (
 R (.bool false) ac)

theorem cachettelaw13_alive.eq  (R : Value → World → Prop) (w : World) : mfunc Try.prog [] 5 [] R w = cachettelaw13_alive.M  R w := by kernel_rfl
theorem cachettelaw13_alive.ok  {R : Value → World → Prop} {w : World} (h : cachettelaw13_alive.M  R w) : Calls Try.prog 5 #[] w fun e w' => ∃ v, e = .returned v ∧ R v w' :=
  mfunc_ok follows (H := []) (args := []) (by rw [cachettelaw13_alive.eq]; exact h)

def cachettelaw13_alive.N  (R : Value → World → Prop) (w : World) : Prop :=
 Calls Try.prog 17 #[.slice none 0 0] w fun b6 b7 => ∃ (ai : Option Addr), b6 = .returned (.pointer ai) ∧
 Calls Try.prog 18 #[.pointer ai] b7 fun b4 b5 => ∃ (ak : Int) (al : Int), b4 = .returned (.tuple #[.int .u64 ak, .int .u64 al]) ∧
 Calls Try.prog 19 #[.pointer ai, .int .i64 0, .int .u64 ak] b5 fun av b1 => ∃ (ah : Option Addr) (am : Int), av = .returned (.tuple #[.pointer ah, .int .i64 am]) ∧
 Calls Try.prog 20 #[.int .u64 al] b1 fun au b2 => ∃ (an : Option Addr) (ao : Nat) (ap : Nat) (a9 : Int), au = .returned (.agg #[.slice an ao ap, .int .i64 a9]) ∧
 Calls Try.prog 9 #[.pointer ai, .agg #[.slice an ao ap, .int .i64 a9], .int .u64 0] b2 fun b0 b3 => ∃ (ac : Int) (aj : Int) (a5 : Int) (aa : Int) (a4 : Option Addr) (a6 : Nat) (a3 : Nat) (ad : Option Addr) (af : Nat) (ag : Nat) (a0 : Int) (a1 : Int), b0 = .returned (.tuple #[.agg #[.int .i64 ac, .int .i64 aj, .int .u64 a5, .int .i64 aa, .slice a4 a6 a3, .slice ad af ag], .int .u64 a0, .int .i64 a1]) ∧
 ∀ (aq : World), Ext no b3 aq →
 Calls Try.prog 11 #[.pointer ah, .agg #[.int .i64 ac, .int .i64 aj, .int .u64 a5, .int .i64 aa, .slice a4 a6 a3, .slice ad af ag]] aq fun ar ay => ∃ (a2 : Int), ar = .returned (.int .i64 a2) ∧
 Calls Try.prog 8 #[.pointer ah, .int .i64 0] ay fun aw a7 => ∃ (ae : Int) (ab : Int), aw = .returned (.tuple #[.int .u64 ae, .int .i64 ab]) ∧
 (am = 0 →
 (a1 = 0 →
 (a2 = 0 →
 (ab = 0 →
 (ae = a0 →
 (a0 ≠ 0 →
 Calls Try.prog 21 #[.pointer ah] a7 fun az ax => ∃ (a8 : Int), az = .returned (.int .i64 a8) ∧
 R (.bool (a8 == 1)) ax) ∧
 (a0 = 0 →
 R (.bool false) a7)) ∧
 (ae ≠ a0 →
 R (.bool false) a7)) ∧
 (ab ≠ 0 →
 R (.bool false) a7)) ∧
 (a2 ≠ 0 →
 R (.bool false) a7)) ∧
 (a1 ≠ 0 →
 R (.bool false) a7)) ∧
 (am ≠ 0 →
 R (.bool false) a7)

theorem cachettelaw13_alive.up  {R : Value → World → Prop} {w : World} (h : cachettelaw13_alive.N  R w) : cachettelaw13_alive.M  R w := by
  unfold cachettelaw13_alive.M
  unfold cachettelaw13_alive.N at h
  refine h.mono fun bz c0 h => ?_
  obtain ⟨bc, he, h⟩ := h
  refine ⟨bc, he, ?_⟩
  refine h.mono fun bw bx h => ?_
  obtain ⟨aj, al, he, h⟩ := h
  refine ⟨aj, al, he, ?_⟩
  refine h.mono fun bm bu h => ?_
  obtain ⟨b3, b4, he, h⟩ := h
  refine ⟨b3, b4, he, ?_⟩
  refine h.mono fun bl bv h => ?_
  obtain ⟨ao, b5, b8, ag, he, h⟩ := h
  refine ⟨ao, b5, b8, ag, he, ?_⟩
  refine h.mono fun bt a6 h => ?_
  obtain ⟨a1, a8, a0, a4, a2, a5, a3, a9, aa, ab, ad, ac, he, h⟩ := h
  refine ⟨a1, a8, a0, a4, a2, a5, a3, a9, aa, ab, ad, ac, he, ?_⟩
  refine thenW_in fun bs bg => ?_
  have a7 := Blk.of_new bg
  have ah := ((Ext.refl no a6)).size
  have ba := (Ext.refl no a6).x_alloc bg
  refine ⟨a7.cani 0 rfl rfl, thenW_in fun b6 bi => ?_⟩
  have ax := ba.x_set (q := a6.heap.size) (i := 0) rfl (.inr ah) bi
  have a7 : Blk b6 a6.heap.size 52 [.int .i64 a1, .int .i64 0, .int .u64 0, .int .i64 0, .slice none 0 0, .slice none 0 0] := a7.seti 0 rfl bi
  refine ⟨a7.cani 1 rfl rfl, thenW_in fun aq bf => ?_⟩
  have b2 := ax.x_set (q := a6.heap.size) (i := 1) rfl (.inr ah) bf
  have a7 : Blk aq a6.heap.size 52 [.int .i64 a1, .int .i64 a8, .int .u64 0, .int .i64 0, .slice none 0 0, .slice none 0 0] := a7.seti 1 rfl bf
  refine ⟨a7.cani 2 rfl rfl, thenW_in fun b0 bh => ?_⟩
  have aw := b2.x_set (q := a6.heap.size) (i := 2) rfl (.inr ah) bh
  have a7 : Blk b0 a6.heap.size 52 [.int .i64 a1, .int .i64 a8, .int .u64 a0, .int .i64 0, .slice none 0 0, .slice none 0 0] := a7.seti 2 rfl bh
  refine ⟨a7.cani 3 rfl rfl, thenW_in fun ap be => ?_⟩
  have ay := aw.x_set (q := a6.heap.size) (i := 3) rfl (.inr ah) be
  have a7 : Blk ap a6.heap.size 52 [.int .i64 a1, .int .i64 a8, .int .u64 a0, .int .i64 a4, .slice none 0 0, .slice none 0 0] := a7.seti 3 rfl be
  refine ⟨a7.cani 4 rfl rfl, thenW_in fun b7 bj => ?_⟩
  have an := ay.x_set (q := a6.heap.size) (i := 4) rfl (.inr ah) bj
  have a7 : Blk b7 a6.heap.size 52 [.int .i64 a1, .int .i64 a8, .int .u64 a0, .int .i64 a4, .slice a2 a5 a3, .slice none 0 0] := a7.seti 4 rfl bj
  refine ⟨a7.cani 5 rfl rfl, thenW_in fun am bd => ?_⟩
  have au := an.x_set (q := a6.heap.size) (i := 5) rfl (.inr ah) bd
  have a7 : Blk am a6.heap.size 52 [.int .i64 a1, .int .i64 a8, .int .u64 a0, .int .i64 a4, .slice a2 a5 a3, .slice a9 aa ab] := a7.seti 5 rfl bd
  refine ⟨a1, a8, a0, a4, a2, a5, a3, a9, aa, ab, ⟨a7.celli 0 rfl rfl, a7.celli 1 rfl rfl, a7.celli 2 rfl rfl, a7.celli 3 rfl rfl, a7.celli 4 rfl rfl, a7.celli 5 rfl rfl, trivial⟩, ?_⟩
  have h := h am au
  refine h.mono fun bk bq h => ?_
  obtain ⟨af, he, h⟩ := h
  refine ⟨af, he, ?_⟩
  refine h.mono fun bo bn h => ?_
  obtain ⟨ak, ai, he, h⟩ := h
  refine ⟨ak, ai, he, ?_⟩
  refine bif_fo (fun b9 => ?_) (fun b9 => ?_)
  ·have h := h.2 (beq_f b9)
   exact h
  have h := h.1 (beq_t b9)
  refine bif_fo (fun av => ?_) (fun av => ?_)
  ·have h := h.2 (beq_f av)
   exact h
  have h := h.1 (beq_t av)
  refine bif_fo (fun b1 => ?_) (fun b1 => ?_)
  ·have h := h.2 (beq_f b1)
   exact h
  have h := h.1 (beq_t b1)
  refine bif_fo (fun bb => ?_) (fun bb => ?_)
  ·have h := h.2 (beq_f bb)
   exact h
  have h := h.1 (beq_t bb)
  refine bif_fo (fun ar => ?_) (fun ar => ?_)
  ·have h := h.2 (beq_f ar)
   exact h
  have h := h.1 (beq_t ar)
  refine bif_fo (fun az => ?_) (fun az => ?_)
  ·have h := h.2 (bne_f az)
   exact h
  have h := h.1 (bne_t az)
  refine h.mono fun br bp h => ?_
  obtain ⟨ae, he, h⟩ := h
  refine ⟨ae, he, ?_⟩
  exact h

theorem cachettelaw13_alive.go  {R : Value → World → Prop} {w : World} (h : cachettelaw13_alive.N  R w) : Calls Try.prog 5 #[] w fun e w' => ∃ v, e = .returned v ∧ R v w' := cachettelaw13_alive.ok  (cachettelaw13_alive.up  h)
end Go.Proofs.Ytaifegpikhjiiaa

/- Epochs: the law's world in memory, and all that stands in it. -/
set_option linter.unusedVariables false
set_option linter.unusedSimpArgs false
set_option maxRecDepth 20000
set_option maxHeartbeats 4000000
namespace Go.Proofs.Ytaifegpikhjiiaa
open Go Go.Mx Go.Proofs
structure WD where
  k : Nat
  j : Nat
  pub : Nat → Int
  rq : Nat → Option Nat
  mq : Nat → Option Nat
  sm : MS
  tm : MS
  sec : Nat → Int
  last : Int
def pB (x : Option Nat) : Value := .pointer (x.map blk)
def WD.V (X : WD) (sa : Option Addr) (sc : Nat) (ta : Option Addr) (tc : Nat) : List Value :=
  [.pointer (some (blk X.k)), .pointer (some (blk X.j)), u64V (X.pub 0), u64V (X.pub 1), u64V (X.pub 2), u64V (X.pub 3), pB (X.rq 0), pB (X.rq 1), pB (X.rq 2), pB (X.rq 3), pB (X.mq 0), pB (X.mq 1), pB (X.mq 2), pB (X.mq 3),
   .slice sa X.sm.ml.length sc, .int .i64 X.sm.ep, .slice ta X.tm.ml.length tc, .int .i64 X.tm.ep, u64V (X.sec 0), u64V (X.sec 1), u64V (X.sec 2), u64V (X.sec 3), .int .u64 X.last]
def updF {α : Type} (f : Nat → α) (i : Nat) (x : α) : Nat → α := fun n => if n = i then x else f n
theorem updF_self {α : Type} (f : Nat → α) (i : Nat) (x : α) : updF f i x i = x := if_pos rfl
theorem updF_ne {α : Type} (f : Nat → α) {i n : Nat} (x : α) (h : n ≠ i) : updF f i x n = f n := if_neg h
structure WG (w : World) (o : Own) (q : Nat) (X : WD) : Prop where
  mem : ∃ sa sc ta tc, Blk w q 48 (X.V sa sc ta tc) ∧ Row w o sa (X.sm.ml.flatMap Mem.C) ∧ Row w o ta (X.tm.ml.flatMap Mem.C) ∧ X.tm.ml.length ≤ tc
  tg : o q = some q
section
variable {w w' w1 w2 : World} {o o' o1 : Own} {q k p N m i : Nat} {K : Nat → Prop} {X : WD} {a : Option Addr} {c : Nat}
theorem adr (q a i : Nat) : ((blk q).add a).add (Int.toNat (i : Int) * 1) = ⟨q, a + i, none⟩ := by
  rw [add_add, Int.toNat_natCast, Nat.mul_one]
  unfold blk Addr.add
  simp
  omega
theorem adr0 (q a i : Nat) : (((blk q).add a).add (Int.toNat (i : Int) * 1)).add 0 = ⟨q, a + i, none⟩ := by rw [adr]; rfl
theorem Blk.apart {t t' : TypeId} {cs cs' : List Value} (h : Blk w p t cs) (k : Blk w q t' cs') (hn : t ≠ t') : p ≠ q := fun e => by
  subst e
  have : some (Obj.cells cs.toArray t) = some (Obj.cells cs'.toArray t') := h.symm.trans k
  cases this; exact hn rfl
theorem WG.lt (h : WG w o q X) : q < w.heap.size := by
  obtain ⟨sa, sc, ta, tc, hb, _⟩ := h.mem
  exact hb.lt
theorem WG.step (h : WG w o q X) (s : Step K w o w' o') (hk : ¬ K q) : WG w' o' q X := by
  obtain ⟨⟨sa, sc, ta, tc, hb, h1, h2, h3⟩, tg⟩ := h
  exact ⟨⟨sa, sc, ta, tc, s.blk hb tg hk, h1.step s, h2.step s, h3⟩, by rw [s.own hb.lt]; exact tg⟩
theorem WG.at (h : WG w o q X) {v : Value} {ad : Addr} (ha : ad = ⟨q, i, none⟩) (hv : ∀ sa sc ta tc, (X.V sa sc ta tc)[i]? = some v) : w.cell? ad = some v := by
  obtain ⟨sa, sc, ta, tc, hb, _⟩ := h.mem
  exact hb.celli i ha (hv sa sc ta tc)
theorem WG.can (h : WG w o q X) {ad : Addr} (ha : ad = ⟨q, i, none⟩) (hi : i < 23) : canStore w ad := by
  obtain ⟨sa, sc, ta, tc, hb, _⟩ := h.mem
  have hl : i < (X.V sa sc ta tc).length := hi
  exact hb.cani i ha (List.getElem?_eq_getElem hl)
theorem V_pub (hi : i < 4) (sa : Option Addr) (sc : Nat) (ta : Option Addr) (tc : Nat) : (X.V sa sc ta tc)[2 + i]? = some (u64V (X.pub i)) := match i, hi with | 0, _ => rfl | 1, _ => rfl | 2, _ => rfl | 3, _ => rfl
theorem V_ring (hi : i < 4) (sa : Option Addr) (sc : Nat) (ta : Option Addr) (tc : Nat) : (X.V sa sc ta tc)[6 + i]? = some (pB (X.rq i)) := match i, hi with | 0, _ => rfl | 1, _ => rfl | 2, _ => rfl | 3, _ => rfl
theorem S_pub (hi : i < 4) (x : Int) (sa : Option Addr) (sc : Nat) (ta : Option Addr) (tc : Nat) : (X.V sa sc ta tc).set (2 + i) (u64V x) = ({ X with pub := updF X.pub i x } : WD).V sa sc ta tc := match i, hi with | 0, _ => rfl | 1, _ => rfl | 2, _ => rfl | 3, _ => rfl
theorem S_ring (hi : i < 4) (x : Option Nat) (sa : Option Addr) (sc : Nat) (ta : Option Addr) (tc : Nat) : (X.V sa sc ta tc).set (6 + i) (pB x) = ({ X with rq := updF X.rq i x } : WD).V sa sc ta tc := match i, hi with | 0, _ => rfl | 1, _ => rfl | 2, _ => rfl | 3, _ => rfl
theorem S_model (hi : i < 4) (x : Option Nat) (sa : Option Addr) (sc : Nat) (ta : Option Addr) (tc : Nat) : (X.V sa sc ta tc).set (10 + i) (pB x) = ({ X with mq := updF X.mq i x } : WD).V sa sc ta tc := match i, hi with | 0, _ => rfl | 1, _ => rfl | 2, _ => rfl | 3, _ => rfl
theorem S_sec (hi : i < 4) (x : Int) (sa : Option Addr) (sc : Nat) (ta : Option Addr) (tc : Nat) : (X.V sa sc ta tc).set (18 + i) (u64V x) = ({ X with sec := updF X.sec i x } : WD).V sa sc ta tc := match i, hi with | 0, _ => rfl | 1, _ => rfl | 2, _ => rfl | 3, _ => rfl
theorem S_last (x : Int) (sa : Option Addr) (sc : Nat) (ta : Option Addr) (tc : Nat) : (X.V sa sc ta tc).set 22 (.int .u64 x) = ({ X with last := x } : WD).V sa sc ta tc := rfl
theorem WG.set (h : WG w o q X) (ok : Tags w o) {X' : WD} {v : Value} {ad : Addr} (ha : ad = ⟨q, i, none⟩) (hs : X'.sm = X.sm) (ht : X'.tm = X.tm) (hv : ∀ sa sc ta tc, (X.V sa sc ta tc).set i v = X'.V sa sc ta tc) (e : w' = w.setCell ad v) :
    Step (fun j => j = q) w o w' (grow w o) ∧ WG w' (grow w o) q X' := by
  obtain ⟨⟨sa, sc, ta, tc, hb, h1, h2, h3⟩, tg⟩ := h
  have X3 : Ext (fun b => b = q) w w' := (Ext.refl (fun b => b = q) w).x_set (q := q) (i := i) ha (.inl rfl) e
  have s3 : Step (fun j => j = q) w o w' (grow w o) := Step.of_ext X3 ok fun b hb _ => by subst hb; exact tg
  have b3 := hb.seti i ha e
  rw [hv] at b3
  exact ⟨s3, ⟨⟨sa, sc, ta, tc, b3, by rw [hs]; exact h1.step s3, by rw [ht]; exact h2.step s3, by rw [ht]; exact h3⟩, by rw [s3.own hb.lt]; exact tg⟩⟩
theorem WG.setS (h : WG w o q X) (ok : Tags w o) {s : MS} {a : Option Addr} {c : Nat} (hr : Row w o a (s.ml.flatMap Mem.C)) (e1 : w1 = w.setCell (((blk q).add 14).add 0) (.slice a s.ml.length c)) (e2 : w2 = w1.setCell (((blk q).add 14).add 1) (.int .i64 s.ep)) :
    canStore w1 (((blk q).add 14).add 1) ∧ Step (fun j => j = q) w o w2 (grow w o) ∧ WG w2 (grow w o) q { X with sm := s } := by
  obtain ⟨⟨sa, sc, ta, tc, hb, h1, h2, h3⟩, tg⟩ := h
  have X3 : Ext (fun b => b = q) w w2 := ((Ext.refl (fun b => b = q) w).x_set (q := q) (i := 14) rfl (.inl rfl) e1).x_set (q := q) (i := 15) rfl (.inl rfl) e2
  have s3 : Step (fun j => j = q) w o w2 (grow w o) := Step.of_ext X3 ok fun b hb _ => by subst hb; exact tg
  have b1 := hb.seti 14 rfl e1
  have b3 := b1.seti 15 rfl e2
  exact ⟨b1.cani 15 rfl rfl, s3, ⟨⟨a, c, ta, tc, b3, hr.step s3, h2.step s3, h3⟩, by rw [s3.own hb.lt]; exact tg⟩⟩
theorem WG.setT (h : WG w o q X) (ok : Tags w o) {s : MS} {a : Option Addr} {c : Nat} (hr : Row w o a (s.ml.flatMap Mem.C)) (hcc : s.ml.length ≤ c) (e1 : w1 = w.setCell (((blk q).add 16).add 0) (.slice a s.ml.length c)) (e2 : w2 = w1.setCell (((blk q).add 16).add 1) (.int .i64 s.ep)) :
    canStore w1 (((blk q).add 16).add 1) ∧ Step (fun j => j = q) w o w2 (grow w o) ∧ WG w2 (grow w o) q { X with tm := s } := by
  obtain ⟨⟨sa, sc, ta, tc, hb, h1, h2, h3⟩, tg⟩ := h
  have X3 : Ext (fun b => b = q) w w2 := ((Ext.refl (fun b => b = q) w).x_set (q := q) (i := 16) rfl (.inl rfl) e1).x_set (q := q) (i := 17) rfl (.inl rfl) e2
  have s3 : Step (fun j => j = q) w o w2 (grow w o) := Step.of_ext X3 ok fun b hb _ => by subst hb; exact tg
  have b1 := hb.seti 16 rfl e1
  have b3 := b1.seti 17 rfl e2
  exact ⟨b1.cani 17 rfl rfl, s3, ⟨⟨sa, sc, a, c, b3, h1.step s3, hr.step s3, hcc⟩, by rw [s3.own hb.lt]; exact tg⟩⟩
theorem WG.s (h : WG w o q X) : ∃ a c, cellsAt w ((blk q).add 14) [.slice a X.sm.ml.length c, .int .i64 X.sm.ep] 0 ∧ Row w o a (X.sm.ml.flatMap Mem.C) := by
  obtain ⟨sa, sc, ta, tc, hb, h1, _⟩ := h.mem
  exact ⟨sa, sc, ⟨hb.celli 14 rfl rfl, hb.celli 15 rfl rfl, trivial⟩, h1⟩
theorem WG.t (h : WG w o q X) : ∃ a c, cellsAt w ((blk q).add 16) [.slice a X.tm.ml.length c, .int .i64 X.tm.ep] 0 ∧ Row w o a (X.tm.ml.flatMap Mem.C) ∧ X.tm.ml.length ≤ c := by
  obtain ⟨sa, sc, ta, tc, hb, _, h1, h2⟩ := h.mem
  exact ⟨ta, tc, ⟨hb.celli 16 rfl rfl, hb.celli 17 rfl rfl, trivial⟩, h1, h2⟩
theorem POrc.typ {S : OS} (h : POrc w o k S) : ∃ cs, Blk w k 117 cs := by
  obtain ⟨g, rfl, h1, _⟩ := h
  obtain ⟨da, dc, hb, _⟩ := h1.st
  exact ⟨_, hb⟩
theorem Rof.typ {S : OS} {n : Nat} (h : Rof w o k S n) : ∃ cs, Blk w k 82 cs := by
  obtain ⟨d, R, ⟨R', _, h1⟩, _⟩ := h.ex
  obtain ⟨da, dc, la, lc, hb, _⟩ := h1.at_
  exact ⟨_, hb⟩
theorem WG.typ (h : WG w o q X) : ∃ cs, Blk w q 48 cs := by
  obtain ⟨sa, sc, ta, tc, hb, _⟩ := h.mem
  exact ⟨_, hb⟩
theorem EG.typ {R : RS} (h : EG w o q k R) : ∃ cs, Blk w q 93 cs := by
  obtain ⟨ka, kc, oa, oc, ol, hb, _⟩ := h.mem
  exact ⟨_, hb⟩
theorem MG.typ {R : RS} (h : MG w o q R) : ∃ cs, Blk w q 85 cs := by
  obtain ⟨ka, kc, oa, oc, ol, hb, _⟩ := h.mem
  exact ⟨_, hb⟩
theorem EG.diff {R R' : RS} {k' q' : Nat} (h : EG w o q k R) (h' : EG w o q' k' R') (hn : R.who ≠ R'.who) : q ≠ q' := fun e => by
  subst e
  have e2 := h.who.symm.trans h'.who
  simp at e2
  exact hn e2
end
structure All (w : World) (o : Own) (q : Nat) (X : WD) (S T : OS) (n : Nat) (R M : Nat → RS) : Prop where
  wd : WG w o q X
  orc : POrc w o X.k S
  rof : Rof w o X.j T n
  ring : ∀ i, i < 4 → ∃ r, X.rq i = some r ∧ EG w o r X.k (R i) ∧ (R i).who = i
  model : ∀ i, i < 4 → ∃ r, X.mq i = some r ∧ MG w o r (M i) ∧ (M i).who = i
section
variable {w w' w1 w2 : World} {o o' o1 : Own} {q k p N m n i : Nat} {K : Nat → Prop} {X : WD} {S T : OS} {R M : Nat → RS}
theorem All.no (h : All w o q X S T n R M) (s : Step no w o w' o') : All w' o' q X S T n R M :=
  ⟨h.wd.step s id, h.orc.step s id, h.rof.step s id, fun i hi => by obtain ⟨r, e, g, hw⟩ := h.ring i hi; exact ⟨r, e, g.step s id, hw⟩, fun i hi => by obtain ⟨r, e, g, hw⟩ := h.model i hi; exact ⟨r, e, g.step s id, hw⟩⟩
theorem All.toOrc (h : All w o q X S T n R M) (s : Step (fun j => j = X.k) w o w' o') {S' : OS} (hP : POrc w' o' X.k S') : All w' o' q X S' T n R M := by
  obtain ⟨_, bk⟩ := h.orc.typ
  refine ⟨h.wd.step s ?_, hP, h.rof.step s ?_, fun i hi => ?_, fun i hi => ?_⟩
  · obtain ⟨_, b⟩ := h.wd.typ; exact Blk.apart b bk (by decide)
  · obtain ⟨_, b⟩ := h.rof.typ; exact Blk.apart b bk (by decide)
  · obtain ⟨r, e, g, hw⟩ := h.ring i hi
    obtain ⟨_, b⟩ := g.typ
    exact ⟨r, e, g.step s (Blk.apart b bk (by decide)), hw⟩
  · obtain ⟨r, e, g, hw⟩ := h.model i hi
    obtain ⟨_, b⟩ := g.typ
    exact ⟨r, e, g.step s (Blk.apart b bk (by decide)), hw⟩
theorem All.toWd (h : All w o q X S T n R M) (s : Step (fun j => j = q) w o w' o') {X' : WD} (hk : X'.k = X.k) (hj : X'.j = X.j) (hr : X'.rq = X.rq) (hm : X'.mq = X.mq) (hP : WG w' o' q X') : All w' o' q X' S T n R M := by
  obtain ⟨_, bk⟩ := h.wd.typ
  refine ⟨hP, ?_, ?_, fun i hi => ?_, fun i hi => ?_⟩
  · obtain ⟨_, b⟩ := h.orc.typ; rw [hk]; exact h.orc.step s (Blk.apart b bk (by decide))
  · obtain ⟨_, b⟩ := h.rof.typ; rw [hj]; exact h.rof.step s (Blk.apart b bk (by decide))
  · obtain ⟨r, e, g, hw⟩ := h.ring i hi
    obtain ⟨_, b⟩ := g.typ
    exact ⟨r, by rw [hr]; exact e, by rw [hk]; exact g.step s (Blk.apart b bk (by decide)), hw⟩
  · obtain ⟨r, e, g, hw⟩ := h.model i hi
    obtain ⟨_, b⟩ := g.typ
    exact ⟨r, by rw [hm]; exact e, g.step s (Blk.apart b bk (by decide)), hw⟩
theorem All.toRing (h : All w o q X S T n R M) (hi : i < 4) {r : Nat} (hr : X.rq i = some r) (s : Step (fun j => j = r) w o w' o') {R' : RS} (hw : R'.who = i) (hP : EG w' o' r X.k R') : All w' o' q X S T n (updF R i R') M := by
  obtain ⟨r', e', g', hw'⟩ := h.ring i hi
  rw [hr] at e'; cases e'
  obtain ⟨_, bk⟩ := g'.typ
  refine ⟨h.wd.step s ?_, h.orc.step s ?_, h.rof.step s ?_, fun m hm => ?_, fun m hm => ?_⟩
  · obtain ⟨_, b⟩ := h.wd.typ; exact Blk.apart b bk (by decide)
  · obtain ⟨_, b⟩ := h.orc.typ; exact Blk.apart b bk (by decide)
  · obtain ⟨_, b⟩ := h.rof.typ; exact Blk.apart b bk (by decide)
  · by_cases hmi : m = i
    · subst hmi; exact ⟨r, hr, by rw [updF_self]; exact hP, by rw [updF_self]; exact hw⟩
    · obtain ⟨r2, e, g, hw2⟩ := h.ring m hm
      rw [updF_ne _ _ hmi]
      exact ⟨r2, e, g.step s (g.diff g' (by rw [hw2, hw']; omega)), hw2⟩
  · obtain ⟨r2, e, g, hw2⟩ := h.model m hm
    obtain ⟨_, b⟩ := g.typ
    exact ⟨r2, e, g.step s (Blk.apart b bk (by decide)), hw2⟩
end
end Go.Proofs.Ytaifegpikhjiiaa

/- Epochs: newWorld. -/
set_option linter.unusedVariables false
set_option linter.unusedSimpArgs false
set_option maxRecDepth 20000
set_option maxHeartbeats 4000000
namespace Go.Proofs.Ytaifegpikhjiiaa
open Go Go.Mx Go.Proofs
theorem pair_sealed (S : OS) : (pairOf S).2.sealed = S.sealed := by
  obtain ⟨c1, c2, c3, c4, c5, c6, c7, c8⟩ := freshOf_frame S
  obtain ⟨d1, d2, d3, d4, d5, d6, d7, d8⟩ := freshOf_frame { (freshOf S).2 with secrets := badd S.secrets (freshOf S).1 }
  show (freshOf { (freshOf S).2 with secrets := badd S.secrets (freshOf S).1 }).2.sealed = _
  rw [d7]; exact c7
theorem pair_wrapped (S : OS) : (pairOf S).2.wrapped = S.wrapped := by
  obtain ⟨c1, c2, c3, c4, c5, c6, c7, c8⟩ := freshOf_frame S
  obtain ⟨d1, d2, d3, d4, d5, d6, d7, d8⟩ := freshOf_frame { (freshOf S).2 with secrets := badd S.secrets (freshOf S).1 }
  show (freshOf { (freshOf S).2 with secrets := badd S.secrets (freshOf S).1 }).2.wrapped = _
  rw [d8]; exact c8
structure NW (w : World) (o : Own) (q : Nat) (X : WD) (S : OS) (n : Nat) (R : Nat → RS) : Prop where
  all : All w o q X S S n R R
  inv : OInv S
  used : S.used.length ≤ n
  pub : ∀ i, i < 4 → alook S.publics (X.pub i) = some (X.sec i)
  secs : ∀ i m, i < 4 → m < 4 → i ≠ m → X.sec i ≠ X.sec m
  sealed : S.sealed = []
  wrapped : S.wrapped = []
  ring : ∀ i, i < 4 → R i = ⟨i, X.sec i, [], []⟩
  sm : X.sm = newM (X.pub 0)
  tm : X.tm = newM (X.pub 0)
  last : X.last = 0
def NI (w0 : World) (o0 : Own) (q k j m : Nat) (vs : List Value) (w : World) : Prop :=
  ∃ (i : Nat) (X : WD) (S : OS) (o : Own), vs = [.int .i64 i] ∧ i ≤ 4 ∧ m = 4 - i ∧ Step no w0 o0 w o ∧ WG w o q X ∧ POrc w o k S ∧ Rof w o j S (2 * i) ∧ X.k = k ∧ X.j = j ∧ X.sm = MS.z ∧ X.tm = MS.z ∧ X.last = 0 ∧ (S.sealed = [] ∧ S.wrapped = []) ∧
    (∀ n, n < i → alook S.publics (X.pub n) = some (X.sec n)) ∧ (∀ n n', n < i → n' < i → n ≠ n' → X.sec n ≠ X.sec n') ∧
    (∀ n, n < i → ∃ r, X.rq n = some r ∧ EG w o r k ⟨n, X.sec n, [], []⟩) ∧ (∀ n, n < i → ∃ r, X.mq n = some r ∧ MG w o r ⟨n, X.sec n, [], []⟩)
section
variable {w w' : World} {o o' : Own}
theorem newWorld_spec (ok : Tags w o) {da : Option Addr} {dc : Nat} {d : List Int} (hd : Row w o da (d.map u64V)) (hc : d.length ≤ dc) (hr : ∀ x ∈ d, 0 ≤ x ∧ x < 18446744073709551616) (hl : d.length ≤ 1000) :
    Calls Try.prog 6 #[.slice da d.length dc] w (fun x w' => ∃ q o' X S R, x = .returned (.pointer (some (blk q))) ∧ Step no w o w' o' ∧ NW w' o' q X S 8 R) := by
  refine (cachettelaw13_newWorld.go da d.length dc (R := fun v w' => ∃ q o' X S R, v = .pointer (some (blk q)) ∧ Step no w o w' o' ∧ NW w' o' q X S 8 R) ?_).mono fun x w' ⟨v, he, q, o', X, S, R, hv, h⟩ => ⟨q, o', X, S, R, by rw [he, hv], h⟩
  unfold cachettelaw13_newWorld.N
  refine (NewO ok hd.1 (by omega)).mono fun x w4 ⟨k, o4, he, hk, s4, P4⟩ => ⟨_, he, fun w5 q5 X5 b5 hq5 hq5' => ?_⟩
  obtain ⟨o5, s5, Q5⟩ := Rof.init X5 b5 hq5 hq5' s4.ok (hd.step s4) hc hr
  intro w7 q8 X7 b8 hq8 hq8'
  have s7 : Step no w5 o5 w7 (tag (grow w5 o5) q8 q8) := (Step.of_no X7 s5.ok).tag hq8 hq8'
  have s17 := (s4.trans s5).trans s7
  have e4 := s4.size
  have e5 := s5.size
  refine ⟨NI w o q8 k q5, 4, ⟨0, ⟨k, q5, fun _ => 0, fun _ => none, fun _ => none, MS.z, MS.z, fun _ => 0, 0⟩, OS.init d, _, rfl, by omega, rfl, s17, ⟨⟨none, 0, none, 0, b8, Row.nil _ _ _, Row.nil _ _ _, Nat.le_refl _⟩, tag_self⟩, (P4.step s5 id).step s7 id, Q5.step s7 id, rfl, rfl, rfl, rfl, rfl, ⟨rfl, rfl⟩,
    fun n h => absurd h (Nat.not_lt_zero _), fun n n' h => absurd h (Nat.not_lt_zero _), fun n h => absurd h (Nat.not_lt_zero _), fun n h => absurd h (Nat.not_lt_zero _)⟩, ?_⟩
  rintro m w12 i9 ⟨i, X, S, o12, hv, hi4, rfl, s12, W12, P12, Q12, hk', hj', hsm, htm, hla, hse, hpub, hsec, hrg, hmd⟩
  cases hv
  have hu := Q12.len
  refine ⟨fun hi => ?_, fun hi => ?_⟩
  · have hi : i < 4 := by omega
    refine ⟨_, W12.at (i := 0) rfl fun _ _ _ _ => rfl, ?_⟩
    rw [hk']
    refine (PairO P12 s12.ok Q12.inv.ok (by omega)).mono fun x w19 ⟨o19, he, s19, P19⟩ => ⟨_, _, he, ?_⟩
    obtain ⟨_, bk⟩ := P12.typ
    obtain ⟨_, bj⟩ := Q12.typ
    obtain ⟨_, bq⟩ := W12.typ
    have W19 := W12.step s19 (Blk.apart bq bk (by decide))
    have Q19 := Q12.step s19 (Blk.apart bj bk (by decide))
    have hrg19 : ∀ n, n < i → ∃ r, X.rq n = some r ∧ EG w19 o19 r k ⟨n, X.sec n, [], []⟩ := fun n hn => by
      obtain ⟨r, e, g⟩ := hrg n hn
      obtain ⟨_, b⟩ := g.typ
      exact ⟨r, e, g.step s19 (Blk.apart b bk (by decide))⟩
    have hmd19 : ∀ n, n < i → ∃ r, X.mq n = some r ∧ MG w19 o19 r ⟨n, X.sec n, [], []⟩ := fun n hn => by
      obtain ⟨r, e, g⟩ := hmd n hn
      obtain ⟨_, b⟩ := g.typ
      exact ⟨r, e, g.step s19 (Blk.apart b bk (by decide))⟩
    refine ⟨_, W19.at (i := 1) rfl fun _ _ _ _ => rfl, ?_⟩
    rw [hj']
    refine (Q19.pair (by omega)).mono fun x w25 ⟨o25, he, s25, Q25⟩ => ⟨_, _, he, by omega, by omega, ?_⟩
    obtain ⟨_, bj⟩ := Q19.typ
    obtain ⟨_, bq⟩ := W19.typ
    obtain ⟨_, bk⟩ := P19.typ
    have W25 := W19.step s25 (Blk.apart bq bj (by decide))
    have P25 := P19.step s25 (Blk.apart bk bj (by decide))
    have hrg25 : ∀ n, n < i → ∃ r, X.rq n = some r ∧ EG w25 o25 r k ⟨n, X.sec n, [], []⟩ := fun n hn => by
      obtain ⟨r, e, g⟩ := hrg19 n hn
      obtain ⟨_, b⟩ := g.typ
      exact ⟨r, e, g.step s25 (Blk.apart b bj (by decide))⟩
    have hmd25 : ∀ n, n < i → ∃ r, X.mq n = some r ∧ MG w25 o25 r ⟨n, X.sec n, [], []⟩ := fun n hn => by
      obtain ⟨r, e, g⟩ := hmd19 n hn
      obtain ⟨_, b⟩ := g.typ
      exact ⟨r, e, g.step s25 (Blk.apart b bj (by decide))⟩
    refine ⟨W25.can (adr0 _ _ _) (by omega), thenW_in fun w26 e26 => ⟨by omega, by omega, ?_⟩⟩
    obtain ⟨s26, W26⟩ := W25.set s25.ok (adr0 _ _ _) (X' := { X with pub := updF X.pub i (pairOf S).1.2 }) rfl rfl (fun sa sc ta tc => S_pub hi _ sa sc ta tc) e26
    refine ⟨W26.can (adr0 _ _ _) (by omega), thenW_in fun w27 e27 => ?_⟩
    obtain ⟨s27, W27⟩ := W26.set s26.ok (adr0 _ _ _) (X' := { X with pub := updF X.pub i (pairOf S).1.2, sec := updF X.sec i (pairOf S).1.1 }) rfl rfl (fun sa sc ta tc => S_sec hi _ sa sc ta tc) e27
    obtain ⟨_, bq⟩ := W25.typ
    obtain ⟨_, bj⟩ := Q25.typ
    obtain ⟨_, bk⟩ := P25.typ
    have s2527 := s26.trans s27
    have hkq := Blk.apart bk bq (by decide)
    have hjq := Blk.apart bj bq (by decide)
    have P27 := P25.step s2527 hkq
    have Q27 := Q25.step s2527 hjq
    refine ⟨_, W27.at (i := 0) rfl fun _ _ _ _ => rfl, ?_⟩
    show Calls _ _ #[.pointer (some (blk X.k)), _, _] _ _
    rw [hk']
    refine (rNew_spec13 s27.ok (by omega) (by omega) k).mono fun x w33 ⟨r, o33, he, hr33, s33, E33⟩ => ⟨_, _, he, fun hn => absurd rfl hn, fun _ => ⟨fun hn => (by cases hn), fun _ => ⟨by omega, by omega, ?_⟩⟩⟩
    have W33 := W27.step s33 id
    refine ⟨W33.can (adr0 _ _ _) (by omega), thenW_in fun w36 e36 => ?_⟩
    obtain ⟨s36, W36⟩ := W33.set s33.ok (adr0 _ _ _) (X' := { X with pub := updF X.pub i (pairOf S).1.2, sec := updF X.sec i (pairOf S).1.1, rq := updF X.rq i (some r) }) rfl rfl (fun sa sc ta tc => S_ring hi (some r) sa sc ta tc) e36
    intro w37 q38 X37 b38 hq38 hq38'
    obtain ⟨s37, M37⟩ := MG.init s36.ok X37 b38 hq38 hq38'
    have W37 := W36.step s37 id
    refine ⟨by omega, by omega, W37.can (adr0 _ _ _) (by omega), thenW_in fun w39 e39 => ⟨by omega, by omega, 4 - (i + 1), by omega, ?_⟩⟩
    obtain ⟨s39, W39⟩ := W37.set s37.ok (adr0 _ _ _) (X' := { X with pub := updF X.pub i (pairOf S).1.2, sec := updF X.sec i (pairOf S).1.1, rq := updF X.rq i (some r), mq := updF X.mq i (some q38) }) rfl rfl (fun sa sc ta tc => S_model hi (some q38) sa sc ta tc) e39
    have hEq : r ≠ q8 := by
      obtain ⟨_, b⟩ := E33.typ
      obtain ⟨_, b2⟩ := W33.typ
      exact Blk.apart b b2 (by decide)
    have hMq : q38 ≠ q8 := by
      obtain ⟨_, b⟩ := M37.typ
      obtain ⟨_, b2⟩ := W37.typ
      exact Blk.apart b b2 (by decide)
    have E39 : EG w39 _ r k ⟨i, (pairOf S).1.1, [], []⟩ := ((E33.step s36 hEq).step s37 id).step s39 hEq
    have M39 := M37.step s39 hMq
    have P39 := ((P27.step s33 id).step s36 hkq).step s37 id |>.step s39 hkq
    have Q39 := ((Q27.step s33 id).step s36 hjq).step s37 id |>.step s39 hjq
    have i7 := s12.size
    have i8 : w.heap.size ≤ k := hk
    have i9 : w.heap.size ≤ q5 := by omega
    have i10 : w.heap.size ≤ q8 := by omega
    have sAll : Step no w o w39 _ := (((((s12.trans' s19 fun a ha => .inr (by rw [ha]; exact i8)).trans' s25 fun a ha => .inr (by rw [ha]; exact i9)).trans' s2527 fun a ha => .inr (by rw [ha]; exact i10)).trans s33).trans' s36 fun a ha => .inr (by rw [ha]; exact i10)).trans s37 |>.trans' s39 fun a ha => .inr (by rw [ha]; exact i10)
    obtain ⟨p1, p2, p3, p4, p5, p6, _⟩ := pair_inv Q12.inv
    refine ⟨i + 1, _, (pairOf S).2, _, rfl, by omega, rfl, sAll, W39, P39, Q39, hk', hj', hsm, htm, hla, ⟨by rw [pair_sealed]; exact hse.1, by rw [pair_wrapped]; exact hse.2⟩, fun n hn => ?_, fun n n' hn hn' hnn => ?_, fun n hn => ?_, fun n hn => ?_⟩
    · by_cases hni : n = i
      · subst hni
        show alook _ (updF _ _ _ _) = some (updF _ _ _ _)
        rw [updF_self, updF_self]; exact p3
      · show alook _ (updF _ _ _ _) = some (updF _ _ _ _)
        rw [updF_ne _ _ hni, updF_ne _ _ hni]; exact p2.publics _ _ (hpub n (by omega))
    · show updF _ _ _ _ ≠ updF _ _ _ _
      have hin : ∀ m, m < i → X.sec m ≠ (pairOf S).1.1 := fun m hm e => p6 (by rw [← e]; exact Q12.inv.ps _ _ (hpub m hm))
      by_cases hni : n = i
      · subst hni
        rw [updF_self, updF_ne _ _ (Ne.symm hnn)]
        exact fun e => hin n' (by omega) e.symm
      · by_cases hni' : n' = i
        · subst hni'
          rw [updF_self, updF_ne _ _ hni]
          exact hin n (by omega)
        · rw [updF_ne _ _ hni, updF_ne _ _ hni']
          exact hsec n n' (by omega) (by omega) hnn
    · by_cases hni : n = i
      · subst hni
        refine ⟨r, updF_self _ _ _, ?_⟩
        show EG _ _ _ _ ⟨_, updF _ _ _ _, _, _⟩
        rw [updF_self]; exact E39
      · obtain ⟨r', e', g'⟩ := hrg25 n (by omega)
        refine ⟨r', by show updF _ _ _ _ = _; rw [updF_ne _ _ hni]; exact e', ?_⟩
        show EG _ _ _ _ ⟨_, updF _ _ _ _, _, _⟩
        rw [updF_ne _ _ hni]
        obtain ⟨_, b⟩ := g'.typ
        have hn8 : r' ≠ q8 := Blk.apart b bq (by decide)
        exact ((((g'.step s2527 hn8).step s33 id).step s36 hn8).step s37 id).step s39 hn8
    · by_cases hni : n = i
      · subst hni
        refine ⟨q38, updF_self _ _ _, ?_⟩
        show MG _ _ _ ⟨_, updF _ _ _ _, _, _⟩
        rw [updF_self]; exact M39
      · obtain ⟨r', e', g'⟩ := hmd25 n (by omega)
        refine ⟨r', by show updF _ _ _ _ = _; rw [updF_ne _ _ hni]; exact e', ?_⟩
        show MG _ _ _ ⟨_, updF _ _ _ _, _, _⟩
        rw [updF_ne _ _ hni]
        obtain ⟨_, b⟩ := g'.typ
        have hn8 : r' ≠ q8 := Blk.apart b bq (by decide)
        exact ((((g'.step s2527 hn8).step s33 id).step s36 hn8).step s37 id).step s39 hn8
  · have hi : i = 4 := by omega
    subst hi
    refine ⟨_, W12.at (i := 2) rfl fun _ _ _ _ => rfl, (mNew_spec s12.ok _).mono fun x w46 ⟨o46, a46, c46, he, s46, r46, hc46⟩ => ⟨_, _, _, _, he, ?_⟩⟩
    have W46 := W12.step s46 id
    refine ⟨W46.can (i := 14) rfl (by omega), thenW_in fun w47 e47 => ?_⟩
    refine ⟨(W46.setS s46.ok r46 e47 rfl).1, thenW_in fun w48 e48 => ?_⟩
    obtain ⟨_, s48, W48⟩ := W46.setS s46.ok r46 e47 e48
    refine ⟨_, W48.at (i := 2) rfl fun _ _ _ _ => rfl, (rNew_spec s48.ok _).mono fun x w54 ⟨o54, a54, c54, he, s54, r54, hc54⟩ => ⟨_, _, _, _, he, ?_⟩⟩
    have W54 := W48.step s54 id
    refine ⟨W54.can (i := 16) rfl (by omega), thenW_in fun w55 e55 => ?_⟩
    refine ⟨(W54.setT s54.ok r54 hc54 e55 rfl).1, thenW_in fun w56 e56 => ?_⟩
    obtain ⟨_, s56, W56⟩ := W54.setT s54.ok r54 hc54 e55 e56
    have i10 : w.heap.size ≤ q8 := by omega
    have sAll : Step no w o w56 _ := (((s12.trans s46).trans' s48 fun a ha => .inr (by rw [ha]; exact i10)).trans s54).trans' s56 fun a ha => .inr (by rw [ha]; exact i10)
    have A12 : All w12 o12 q8 X S S 8 (fun i => ⟨i, X.sec i, [], []⟩) (fun i => ⟨i, X.sec i, [], []⟩) :=
      ⟨W12, by rw [hk']; exact P12, by rw [hj']; exact Q12, fun n hn => by obtain ⟨r, e, g⟩ := hrg n hn; exact ⟨r, e, by rw [hk']; exact g, rfl⟩, fun n hn => by obtain ⟨r, e, g⟩ := hmd n hn; exact ⟨r, e, g, rfl⟩⟩
    have A48 := (A12.no s46).toWd s48 (X' := { X with sm := newM (X.pub 0) }) rfl rfl rfl rfl W48
    have A56 := (A48.no s54).toWd s56 (X' := { X with sm := newM (X.pub 0), tm := newM (X.pub 0) }) rfl rfl rfl rfl W56
    exact ⟨q8, _, _, S, _, rfl, sAll, A56, Q12.inv, by omega, hpub, hsec, hse.1, hse.2, fun n hn => rfl, rfl, rfl, hla⟩
end
end Go.Proofs.Ytaifegpikhjiiaa

/- Epochs: world.do for invitations and revocations. -/
set_option linter.unusedVariables false
set_option linter.unusedSimpArgs false
set_option maxRecDepth 20000
set_option maxHeartbeats 4000000
namespace Go.Proofs.Ytaifegpikhjiiaa
open Go Go.Mx Go.Proofs
def doTail (q : Nat) (kd who pub : Int) (p49 p50 : Nat) (La : Option Addr) (Ln Lc : Nat) (E1 ap : Int) (R : Value → World → Prop) (ww76 : World) : Prop :=
  ∃ (tL52a : Option Addr) (tL52n : Nat) (tL52c : Nat) (tEpoch53 : Int), cellsAt ww76 ((blk q).add 16) [.slice tL52a tL52n tL52c, .int .i64 tEpoch53] 0 ∧
  ∀ (ww55 : World) (L54 : List Nat), Ext no ww76 ww55 → Priv ww76 ww55 L54 →
  Calls Try.prog 14 #[.agg #[.slice tL52a tL52n tL52c, .int .i64 tEpoch53], .agg #[.int .i64 kd, .int .i64 who, .int .u64 pub, .int .i64 0, .slice none 0 0, .slice none 0 0]] ww55 fun ee59 ww60 => ∃ (L56a : Option Addr) (L56n : Nat) (L56c : Nat) (Epoch57 : Int) (apply58 : Int), ee59 = .returned (.tuple #[.agg #[.slice L56a L56n L56c, .int .i64 Epoch57], .int .i64 apply58]) ∧
  Keep L54 ww55 ww60 ∧
  Keep [p49, p50] ww55 ww60 ∧
  (ap ≠ apply58 →
    ∀ (ww66 : World), Ext (fun b => b ∈ L54) ww60 ww66 →
    R (.bool false) ww66) ∧
  (ap = apply58 →
    (apply58 = 0 →
      ∀ (ww73 : World) (p68 : Nat), Ext (fun b => b ∈ L54) ww60 ww73 → PrivJ L54 ww60 ww73 [p68] →
      canStore ww73 (((blk q).add 14).add 0) ∧
      (∀ p ∈ [p49, p68], p ≠ Addr.block ((blk q).add 14)) ∧
      thenW (ww73.setCell (((blk q).add 14).add 0) (.slice La Ln Lc)) fun ww69 =>
      canStore ww69 (((blk q).add 14).add 1) ∧
      thenW (ww69.setCell (((blk q).add 14).add 1) (.int .i64 E1)) fun ww70 =>
      canStore ww70 (((blk q).add 16).add 0) ∧
      (∀ p ∈ [p49], p ≠ Addr.block ((blk q).add 16)) ∧
      thenW (ww70.setCell (((blk q).add 16).add 0) (.slice L56a L56n L56c)) fun ww71 =>
      canStore ww71 (((blk q).add 16).add 1) ∧
      thenW (ww71.setCell (((blk q).add 16).add 1) (.int .i64 Epoch57)) fun ww72 =>
      R (.bool true) ww72) ∧
    (apply58 ≠ 0 →
      ∀ (ww75 : World), Ext (fun b => b ∈ L54) ww60 ww75 →
      R (.bool true) ww75))
def doBody (q : Nat) (kd who pub : Int) (R : Value → World → Prop) (w : World) : Prop :=
  ∃ (sL24a : Option Addr) (sL24n : Nat) (sL24c : Nat) (sEpoch25 : Int), cellsAt w ((blk q).add 14) [.slice sL24a sL24n sL24c, .int .i64 sEpoch25] 0 ∧
  (∀ (ww27 : World) (L26 : List Nat), Ext no w ww27 → Priv w ww27 L26 →
  Calls Try.prog 26 #[.agg #[.int .i64 kd, .int .i64 who, .int .u64 pub, .int .i64 0, .slice none 0 0, .slice none 0 0]] ww27 fun ee34 ww35 => ∃ (Kind28 : Int) (Who29 : Int) (Public30 : Int) (Limit31 : Int) (Wraps32a : Option Addr) (Wraps32n : Nat) (Wraps32c : Nat) (Old33a : Option Addr) (Old33n : Nat) (Old33c : Nat), ee34 = .returned (.agg #[.int .i64 Kind28, .int .i64 Who29, .int .u64 Public30, .int .i64 Limit31, .slice Wraps32a Wraps32n Wraps32c, .slice Old33a Old33n Old33c]) ∧
  Keep L26 ww27 ww35 ∧
  cellsAt ww35 ((blk q).add 14) [.slice sL24a sL24n sL24c, .int .i64 sEpoch25] 0 ∧
  (∀ (ww38 : World) (L37 : List Nat), Ext (fun b => b ∈ L26) ww35 ww38 → PrivJ L26 ww35 ww38 L37 →
  Calls Try.prog 10 #[.agg #[.slice sL24a sL24n sL24c, .int .i64 sEpoch25], .agg #[.int .i64 Kind28, .int .i64 Who29, .int .u64 Public30, .int .i64 Limit31, .slice Wraps32a Wraps32n Wraps32c, .slice Old33a Old33n Old33c]] ww38 fun ee42 ww43 => ∃ (L39a : Option Addr) (L39n : Nat) (L39c : Nat) (Epoch40 : Int) (apply41 : Int), ee42 = .returned (.tuple #[.agg #[.slice L39a L39n L39c, .int .i64 Epoch40], .int .i64 apply41]) ∧
  Keep L37 ww38 ww43 ∧
  ∀ (ww76 : World) (p49 : Nat) (p50 : Nat), Ext (fun b => b ∈ L37) ww43 ww76 → PrivJ L37 ww43 ww76 [p49, p50] →
  doTail q kd who pub p49 p50 L39a L39n L39c Epoch40 apply41 R ww76) ∧
  (∀ (ww78 : World) (p39 : Nat) (p40 : Nat), Ext (fun b => b ∈ L26) ww35 ww78 → PrivJ L26 ww35 ww78 [p39, p40] →
  cellsAt ww78 ((blk q).add 14) [.slice sL24a sL24n sL24c, .int .i64 sEpoch25] 0 ∧
  ∀ (ww43 : World) (L42 : List Nat), Ext no ww78 ww43 → Priv ww78 ww43 L42 →
  Calls Try.prog 10 #[.agg #[.slice sL24a sL24n sL24c, .int .i64 sEpoch25], .agg #[.int .i64 Kind28, .int .i64 Who29, .int .u64 Public30, .int .i64 Limit31, .slice Wraps32a Wraps32n Wraps32c, .slice Old33a Old33n Old33c]] ww43 fun ee47 ww48 => ∃ (L44a : Option Addr) (L44n : Nat) (L44c : Nat) (Epoch45 : Int) (apply46 : Int), ee47 = .returned (.tuple #[.agg #[.slice L44a L44n L44c, .int .i64 Epoch45], .int .i64 apply46]) ∧
  Keep L42 ww43 ww48 ∧
  Keep [p39, p40] ww43 ww48 ∧
  ∀ (ww77 : World), Ext (fun b => b ∈ L42) ww48 ww77 →
  ∀ (ww51 : World), Ext (fun b => b = p40) ww77 ww51 →
  doTail q kd who pub p39 p40 L44a L44n L44c Epoch45 apply46 R ww51)) ∧
  (∀ (ww28 : World) (L27 : List Nat), Ext no w ww28 → Priv w ww28 L27 →
  Calls Try.prog 26 #[.agg #[.int .i64 kd, .int .i64 who, .int .u64 pub, .int .i64 0, .slice none 0 0, .slice none 0 0]] ww28 fun ee35 ww36 => ∃ (Kind29 : Int) (Who30 : Int) (Public31 : Int) (Limit32 : Int) (Wraps33a : Option Addr) (Wraps33n : Nat) (Wraps33c : Nat) (Old34a : Option Addr) (Old34n : Nat) (Old34c : Nat), ee35 = .returned (.agg #[.int .i64 Kind29, .int .i64 Who30, .int .u64 Public31, .int .i64 Limit32, .slice Wraps33a Wraps33n Wraps33c, .slice Old34a Old34n Old34c]) ∧
  Keep L27 ww28 ww36 ∧
  cellsAt ww36 ((blk q).add 14) [.slice sL24a sL24n sL24c, .int .i64 sEpoch25] 0 ∧
  ∀ (ww39 : World) (L38 : List Nat), Ext (fun b => b ∈ L27) ww36 ww39 → PrivJ L27 ww36 ww39 L38 →
  Calls Try.prog 10 #[.agg #[.slice sL24a sL24n sL24c, .int .i64 sEpoch25], .agg #[.int .i64 Kind29, .int .i64 Who30, .int .u64 Public31, .int .i64 Limit32, .slice Wraps33a Wraps33n Wraps33c, .slice Old34a Old34n Old34c]] ww39 fun ee43 ww44 => ∃ (L40a : Option Addr) (L40n : Nat) (L40c : Nat) (Epoch41 : Int) (apply42 : Int), ee43 = .returned (.tuple #[.agg #[.slice L40a L40n L40c, .int .i64 Epoch41], .int .i64 apply42]) ∧
  Keep L38 ww39 ww44 ∧
  ∀ (ww76 : World) (p49 : Nat) (p50 : Nat), Ext (fun b => b ∈ L38) ww44 ww76 → PrivJ L38 ww44 ww76 [p49, p50] →
  doTail q kd who pub p49 p50 L40a L40n L40c Epoch41 apply42 R ww76)
def doX (X : WD) (c : Chg) : WD := if (applyM X.sm c).2 = 0 then { X with sm := (applyM X.sm c).1, tm := (applyM X.sm c).1 } else X
structure Under (q : Nat) (X : WD) (N : Nat) : Prop where
  q : q < N
  k : X.k < N
  j : X.j < N
  r : ∀ i, i < 4 → ∀ r, X.rq i = some r → r < N
  m : ∀ i, i < 4 → ∀ r, X.mq i = some r → r < N
section
variable {w w' w1 w2 : World} {o o' o1 : Own} {q k p N m n i : Nat} {K : Nat → Prop} {X : WD} {S T : OS} {R M : Nat → RS}
theorem Step.anyK (h : Step no w o w' o') : Step K w o w' o' := h.mono fun _ h _ => h.elim
theorem All.under (h : All w o q X S T n R M) : Under q X w.heap.size :=
  ⟨h.wd.lt, h.orc.lt, h.rof.lt, fun i hi r hr => by obtain ⟨r', e, g, _⟩ := h.ring i hi; rw [hr] at e; cases e; exact g.lt, fun i hi r hr => by obtain ⟨r', e, g, _⟩ := h.model i hi; rw [hr] at e; cases e; exact g.lt⟩
theorem All.far (h : All w o q X S T n R M) (u : Under q X N) (s : Step K w o w' o') (hk : ∀ j, K j → N ≤ j) : All w' o' q X S T n R M :=
  ⟨h.wd.step s fun e => by have := hk _ e; have := u.q; omega, h.orc.step s fun e => by have := hk _ e; have := u.k; omega, h.rof.step s fun e => by have := hk _ e; have := u.j; omega,
   fun i hi => by obtain ⟨r, e, g, hw⟩ := h.ring i hi; exact ⟨r, e, g.step s fun e' => by have := hk _ e'; have := u.r i hi r e; omega, hw⟩,
   fun i hi => by obtain ⟨r, e, g, hw⟩ := h.model i hi; exact ⟨r, e, g.step s fun e' => by have := hk _ e'; have := u.m i hi r e; omega, hw⟩⟩
theorem WG.cells (h : WG w o q X) (s : Step K w o w' o') (hk : ¬ K q) {cs : List Value} {d : Nat} (hc : cellsAt w ((blk q).add d) cs 0) : cellsAt w' ((blk q).add d) cs 0 :=
  cellsAt_ext s.ext (fun hm => by
    obtain ⟨k, e, hk'⟩ : ∃ k, o ((blk q).add d).block = some k ∧ K k := hm
    have e2 : ((blk q).add d).block = q := by unfold blk Addr.add; split <;> rfl
    rw [e2, h.tg] at e; cases e; exact hk hk') hc
theorem doTail_ok (A : All w o q X S T n R M) (ok : Tags w o) (u : Under q X N) {p1 p2 : Nat} (hM : Mine [p1, p2] w o) (h1 : N ≤ p1) (h2 : N ≤ p2) (hN : N ≤ w.heap.size) (hst : X.tm = X.sm) (hs : X.sm.ok) {kd who pub : Int} {La : Option Addr} {Lc : Nat}
    (hrow : Row w o La ((applyM X.sm ⟨kd, who, pub, 0, [], []⟩).1.ml.flatMap Mem.C)) {Φ : Value → World → Prop}
    (hR : ∀ w' o', Step (fun j => j = q ∨ N ≤ j) w o w' o' → All w' o' q (doX X ⟨kd, who, pub, 0, [], []⟩) S T n R M → Φ (.bool true) w') :
    doTail q kd who pub p1 p2 La (applyM X.sm ⟨kd, who, pub, 0, [], []⟩).1.ml.length Lc (applyM X.sm ⟨kd, who, pub, 0, [], []⟩).1.ep (applyM X.sm ⟨kd, who, pub, 0, [], []⟩).2 Φ w := by
  obtain ⟨ta, tc, hct, htr, htc⟩ := A.wd.t
  unfold doTail
  refine ⟨ta, _, tc, _, hct, fun w55 L54 X55 hp55 => ?_⟩
  obtain ⟨s55, M55⟩ := Step.priv X55 hp55 ok
  have A55 := A.no s55
  refine (rApply_spec (cg := ⟨kd, who, pub, 0, [], []⟩) (l := []) (wa := none) (wc := 0) (oa := none) (oc := 0) (htr.step s55) s55.ok (by rw [hst]; exact hs) htc (Row.nil _ _ _) rfl (by decide) (show (0 : Nat) < 1000000 by decide)).mono fun x w60 ⟨o60, a60, c60, he, s60, r60, hc60⟩ => ?_
  rw [hst] at he r60 hc60
  refine ⟨_, _, _, _, _, he, M55.keep s60 (fun _ _ => id), ((hM.step s55).keep s60 fun _ _ => id), fun hn => absurd rfl hn, fun _ => ⟨fun h0 w73 p68 X73 hp73 => ?_, fun hn w75 X75 => ?_⟩⟩
  · have A60 := A55.no s60
    obtain ⟨s73, M73⟩ := Step.join X73 s60.ok (M55.step s60) hp73
    have hL : ∀ j, j ∈ L54 → N ≤ j := fun j hj => by have := (hp55 j hj).1; omega
    have A73 := A60.far u s73 hL
    have r73 := r60.step s73
    have h68 : N ≤ p68 := by
      rcases (hp73 p68 (by simp)).1 with h | h
      · exact hL _ h
      · have := s55.size; have := s60.size; omega
    have hqN := u.q
    have hb : Addr.block ((blk q).add 14) = q := rfl
    have hb2 : Addr.block ((blk q).add 16) = q := rfl
    refine ⟨A73.wd.can (i := 14) rfl (by omega), fun p hp e => ?_, thenW_in fun w69 e69 => ?_⟩
    · rw [hb] at e; subst e
      simp at hp
      omega
    have hrow73 := ((hrow.step s55).step s60).step s73
    refine ⟨(A73.wd.setS s73.ok hrow73 e69 rfl).1, thenW_in fun w70 e70 => ?_⟩
    obtain ⟨_, s70, W70⟩ := A73.wd.setS s73.ok hrow73 e69 e70
    have A70 := A73.toWd s70 (X' := { X with sm := (applyM X.sm ⟨kd, who, pub, 0, [], []⟩).1 }) rfl rfl rfl rfl W70
    have r70 := r73.step s70
    refine ⟨A70.wd.can (i := 16) rfl (by omega), fun p hp e => ?_, thenW_in fun w71 e71 => ?_⟩
    · rw [hb2] at e; subst e
      simp at hp
      omega
    refine ⟨(A70.wd.setT s70.ok r70 hc60 e71 rfl).1, thenW_in fun w72 e72 => ?_⟩
    obtain ⟨_, s72, W72⟩ := A70.wd.setT s70.ok r70 hc60 e71 e72
    have A72 := A70.toWd s72 (X' := { X with sm := (applyM X.sm ⟨kd, who, pub, 0, [], []⟩).1, tm := (applyM X.sm ⟨kd, who, pub, 0, [], []⟩).1 }) rfl rfl rfl rfl W72
    refine hR w72 _ (((((Step.anyK (K := fun j => j = q ∨ N ≤ j) s55).trans' s60 fun j h => h.elim).trans' s73 fun j h => .inl (.inr (hL j h))).trans' s70 fun j h => .inl (.inl h)).trans' s72 fun j h => .inl (.inl h)) ?_
    unfold doX
    rw [if_pos h0]
    exact A72
  · have hL : ∀ j, j ∈ L54 → N ≤ j := fun j hj => by have := (hp55 j hj).1; omega
    have A60 := A55.no s60
    have s75 := Step.joins X75 s60.ok (M55.step s60)
    refine hR w75 _ (((Step.anyK (K := fun j => j = q ∨ N ≤ j) s55).trans' s60 fun j h => h.elim).trans' s75 fun j h => .inl (.inr (hL j h))) ?_
    unfold doX
    rw [if_neg hn]
    exact A60.far u s75 hL
theorem doBody_ok (A : All w o q X S T n R M) (ok : Tags w o) (hst : X.tm = X.sm) (hs : X.sm.ok) {kd who pub : Int} {Φ : Value → World → Prop}
    (hR : ∀ w' o', Step (fun j => j = q) w o w' o' → All w' o' q (doX X ⟨kd, who, pub, 0, [], []⟩) S T n R M → Φ (.bool true) w') : doBody q kd who pub Φ w := by
  have u := A.under
  have hqN := u.q
  obtain ⟨sa, sc, hcs, hsr⟩ := A.wd.s
  unfold doBody
  have fin : ∀ {w1 : World} {o1 : Own}, Step (fun j => w.heap.size ≤ j) w o w1 o1 → ∀ w' o', Step (fun j => j = q ∨ w.heap.size ≤ j) w1 o1 w' o' → All w' o' q (doX X ⟨kd, who, pub, 0, [], []⟩) S T n R M → Φ (.bool true) w' := fun s1 w' o' s2 A2 =>
    hR w' o' (((s1.mono (K1 := fun j => j = q) fun j h1 h2 => by omega).trans' s2 fun j h => h.elim (fun e => .inl e) fun e => .inr e)) A2
  refine ⟨sa, _, sc, _, hcs, fun w27 L26 X27 hp27 => ?_, fun w28 L27 X28 hp28 => ?_⟩
  · obtain ⟨s27, M27⟩ := Step.priv X27 hp27 ok
    have A27 := A.no s27
    have hL : ∀ j, j ∈ L26 → w.heap.size ≤ j := fun j hj => (hp27 j hj).1
    refine (Own_spec (cg := ⟨kd, who, pub, 0, [], []⟩) (l := []) (wa := none) (wc := 0) (oa := none) (oc := 0) s27.ok (Row.nil _ _ _) rfl (by decide)).mono fun x w35 ⟨o35, wa, wc, he, s35, r35, hwc⟩ => ⟨_, _, _, _, _, _, _, _, _, _, he, M27.keep s35 (fun _ _ => id), A27.wd.cells s35 id (A.wd.cells s27 id hcs), fun w38 L37 X38 hp38 => ?_, fun w78 p39 p40 X78 hp78 => ?_⟩
    · obtain ⟨s38, M38⟩ := Step.join X38 s35.ok (M27.step s35) hp38
      have A38 := (A27.no s35).far u s38 hL
      have hL37 : ∀ j, j ∈ L37 → w.heap.size ≤ j := fun j hj => by
        rcases (hp38 j hj).1 with h | h
        · exact hL _ h
        · have := s27.size; have := s35.size; omega
      refine (Apply_spec (cg := ⟨kd, who, pub, 0, [], []⟩) (l := []) (((hsr.step s27).step s35).step s38) s38.ok hs (Row.nil _ _ _) rfl (by decide) (show (0 : Nat) < 1000000 by decide)).mono fun x w43 ⟨o43, a43, c43, he, s43, r43, hc43⟩ => ⟨_, _, _, _, _, he, M38.keep s43 (fun _ _ => id), fun w76 p49 p50 X76 hp76 => ?_⟩
      obtain ⟨s76, M76⟩ := Step.join X76 s43.ok (M38.step s43) hp76
      have A76 := (A38.no s43).far u s76 hL37
      have hge : ∀ p, p ∈ [p49, p50] → w.heap.size ≤ p := fun p hp => by
        rcases (hp76 p hp).1 with h | h
        · exact hL37 _ h
        · have := s27.size; have := s35.size; have := s38.size; have := s43.size; omega
      exact doTail_ok A76 s76.ok u M76 (hge _ (by simp)) (hge _ (by simp)) (by have := s27.size; have := s35.size; have := s38.size; have := s43.size; have := s76.size; omega) hst hs (r43.step s76)
        (fin ((((Step.anyK (K := fun j => w.heap.size ≤ j) s27).trans' s35 fun j h => h.elim).trans' s38 fun j h => .inl (hL j h)).trans' s43 (fun j h => h.elim) |>.trans' s76 fun j h => .inl (hL37 j h)))
    · obtain ⟨s78, M78⟩ := Step.join X78 s35.ok (M27.step s35) hp78
      have A78 := (A27.no s35).far u s78 hL
      have hge : ∀ p, p ∈ [p39, p40] → w.heap.size ≤ p := fun p hp => by
        rcases (hp78 p hp).1 with h | h
        · exact hL _ h
        · have := s27.size; have := s35.size; omega
      refine ⟨(A27.no s35).wd.cells s78 (fun h => by have := hL _ h; omega) (A27.wd.cells s35 id (A.wd.cells s27 id hcs)), fun w43 L42 X43 hp43 => ?_⟩
      obtain ⟨s43, M43⟩ := Step.priv X43 hp43 s78.ok
      have hL42 : ∀ j, j ∈ L42 → w.heap.size ≤ j := fun j hj => by have := (hp43 j hj).1; have := s27.size; have := s35.size; have := s78.size; omega
      refine (Apply_spec (cg := ⟨kd, who, pub, 0, [], []⟩) (l := []) ((((hsr.step s27).step s35).step s78).step s43) s43.ok hs (Row.nil _ _ _) rfl (by decide) (show (0 : Nat) < 1000000 by decide)).mono fun x w48 ⟨o48, a48, c48, he, s48, r48, hc48⟩ => ⟨_, _, _, _, _, he, M43.keep s48 (fun _ _ => id), (M78.step s43).keep s48 (fun _ _ => id), fun w77 X77 w51 X51 => ?_⟩
      have s77 := Step.joins X77 s48.ok (M43.step s48)
      have M77 := (((M78.step s43).step s48).step s77)
      have s51 : Step (fun j => j ∈ [p40]) w77 _ w51 _ := Step.stores X51 s77.ok (M77.sub (M := [p40]) (by simp)) (fun b hb => by simp [hb])
      have A51 := (((A78.no s43).no s48).far u s77 hL42).far u s51 (fun j hj => hge j (by simp at hj; simp [hj]))
      exact doTail_ok A51 s51.ok u (M77.step s51) (hge _ (by simp)) (hge _ (by simp)) (by have := s27.size; have := s35.size; have := s78.size; have := s43.size; have := s48.size; have := s77.size; have := s51.size; omega) hst hs ((r48.step s77).step s51)
        (fin (((((((Step.anyK (K := fun j => w.heap.size ≤ j) s27).trans' s35 fun j h => h.elim).trans' s78 fun j h => .inl (hL j h)).trans' s43 (fun j h => h.elim)).trans' s48 (fun j h => h.elim)).trans' s77 fun j h => .inl (hL42 j h)).trans' s51 fun j hj => .inl (hge j (by simp at hj; simp [hj]))))
  · obtain ⟨s28, M28⟩ := Step.priv X28 hp28 ok
    have A28 := A.no s28
    have hL : ∀ j, j ∈ L27 → w.heap.size ≤ j := fun j hj => (hp28 j hj).1
    refine (Own_spec (cg := ⟨kd, who, pub, 0, [], []⟩) (l := []) (wa := none) (wc := 0) (oa := none) (oc := 0) s28.ok (Row.nil _ _ _) rfl (by decide)).mono fun x w36 ⟨o36, wa, wc, he, s36, r36, hwc⟩ => ⟨_, _, _, _, _, _, _, _, _, _, he, M28.keep s36 (fun _ _ => id), A28.wd.cells s36 id (A.wd.cells s28 id hcs), fun w39 L38 X39 hp39 => ?_⟩
    obtain ⟨s39, M39⟩ := Step.join X39 s36.ok (M28.step s36) hp39
    have A39 := (A28.no s36).far u s39 hL
    have hL38 : ∀ j, j ∈ L38 → w.heap.size ≤ j := fun j hj => by
      rcases (hp39 j hj).1 with h | h
      · exact hL _ h
      · have := s28.size; have := s36.size; omega
    refine (Apply_spec (cg := ⟨kd, who, pub, 0, [], []⟩) (l := []) (((hsr.step s28).step s36).step s39) s39.ok hs (Row.nil _ _ _) rfl (by decide) (show (0 : Nat) < 1000000 by decide)).mono fun x w44 ⟨o44, a44, c44, he, s44, r44, hc44⟩ => ⟨_, _, _, _, _, he, M39.keep s44 (fun _ _ => id), fun w76 p49 p50 X76 hp76 => ?_⟩
    obtain ⟨s76, M76⟩ := Step.join X76 s44.ok (M39.step s44) hp76
    have A76 := (A39.no s44).far u s76 hL38
    have hge : ∀ p, p ∈ [p49, p50] → w.heap.size ≤ p := fun p hp => by
      rcases (hp76 p hp).1 with h | h
      · exact hL38 _ h
      · have := s28.size; have := s36.size; have := s39.size; have := s44.size; omega
    exact doTail_ok A76 s76.ok u M76 (hge _ (by simp)) (hge _ (by simp)) (by have := s28.size; have := s36.size; have := s39.size; have := s44.size; have := s76.size; omega) hst hs (r44.step s76)
      (fin ((((Step.anyK (K := fun j => w.heap.size ≤ j) s28).trans' s36 fun j h => h.elim).trans' s39 fun j h => .inl (hL j h)).trans' s44 (fun j h => h.elim) |>.trans' s76 fun j h => .inl (hL38 j h)))
theorem do2_spec (A : All w o q X S T n R M) (ok : Tags w o) (hst : X.tm = X.sm) (hs : X.sm.ok) {who pub : Int} {wa oa : Option Addr} {wn wc on oc : Nat} :
    Calls Try.prog 7 #[.pointer (some (blk q)), .agg #[.int .i64 2, .int .i64 who, .int .u64 pub, .slice wa wn wc, .slice oa on oc]] w (fun x w' => ∃ o', x = .returned (.bool true) ∧ Step (fun j => j = q) w o w' o' ∧ All w' o' q (doX X ⟨2, who, 0, 0, [], []⟩) S T n R M) := by
  refine (do2.go (some (blk q)) who pub wa wn wc oa on oc (R := fun v w' => ∃ o', v = .bool true ∧ Step (fun j => j = q) w o w' o' ∧ All w' o' q (doX X ⟨2, who, 0, 0, [], []⟩) S T n R M) ?_).mono fun x w' ⟨v, he, o', hv, h⟩ => ⟨o', by rw [he, hv], h⟩
  unfold do2.N
  exact ⟨_, rfl, doBody_ok (kd := 2) (who := who) (pub := 0) (Φ := fun v w' => ∃ o', v = .bool true ∧ Step (fun j => j = q) w o w' o' ∧ All w' o' q (doX X ⟨2, who, 0, 0, [], []⟩) S T n R M) A ok hst hs fun w' o' s A' => ⟨o', rfl, s, A'⟩⟩
theorem do0_spec (A : All w o q X S T n R M) (ok : Tags w o) (hst : X.tm = X.sm) (hs : X.sm.ok) {i : Nat} (hi : i < 4) {pub : Int} {wa oa : Option Addr} {wn wc on oc : Nat} :
    Calls Try.prog 7 #[.pointer (some (blk q)), .agg #[.int .i64 0, .int .i64 i, .int .u64 pub, .slice wa wn wc, .slice oa on oc]] w (fun x w' => ∃ o', x = .returned (.bool true) ∧ Step (fun j => j = q) w o w' o' ∧ All w' o' q (doX X ⟨1, i, X.pub i, 0, [], []⟩) S T n R M) := by
  refine (do0.go (some (blk q)) i pub wa wn wc oa on oc (decide_eq_true (by omega)) (decide_eq_true (by omega)) (R := fun v w' => ∃ o', v = .bool true ∧ Step (fun j => j = q) w o w' o' ∧ All w' o' q (doX X ⟨1, i, X.pub i, 0, [], []⟩) S T n R M) ?_).mono fun x w' ⟨v, he, o', hv, h⟩ => ⟨o', by rw [he, hv], h⟩
  unfold do0.N
  refine ⟨_, rfl, by omega, by omega, X.pub i, A.wd.at (adr _ _ _) fun sa sc ta tc => V_pub hi sa sc ta tc, ?_⟩
  exact doBody_ok (kd := 1) (who := i) (pub := X.pub i) (Φ := fun v w' => ∃ o', v = .bool true ∧ Step (fun j => j = q) w o w' o' ∧ All w' o' q (doX X ⟨1, i, X.pub i, 0, [], []⟩) S T n R M) A ok hst hs fun w' o' s A' => ⟨o', rfl, s, A'⟩
end
end Go.Proofs.Ytaifegpikhjiiaa

/- Epochs, plainly: what stays true of the rings. -/
set_option linter.unusedVariables false
set_option linter.unusedSimpArgs false
set_option maxRecDepth 20000
set_option maxHeartbeats 4000000
namespace Go.Proofs.Ytaifegpikhjiiaa
open Go Go.Mx Go.Proofs
structure PI (X : WD) (S : OS) (R : Nat → RS) (K : List Int) (O : List (List UInt8)) : Prop where
  ki : KI S
  pub : ∀ i, i < 4 → alook S.publics (X.pub i) = some (X.sec i)
  st : X.tm = X.sm
  ok : X.sm.ok
  mem : ∀ m ∈ X.sm.ml, ∃ i : Nat, i < 4 ∧ m.who = i ∧ m.pub = X.pub i
  fr : ∀ m ∈ X.sm.ml, m.fr ≤ X.sm.ep + 1
  zero : ∃ m ∈ X.sm.ml, m.who = 0 ∧ m.to_ = -1
  ep : (K.length : Int) = X.sm.ep + 1
  ch : Chain S K O
  last : X.last = K.getLast?.getD 0
  ring : ∀ i : Nat, i < 4 → (R i).who = i ∧ (R i).secret = X.sec i ∧ (R i).olds = O ∧ ∃ m, m ≤ K.length ∧ (R i).keys = mkK K m K.length
theorem NW.pi {w : World} {o : Own} {q n : Nat} {X : WD} {S : OS} {R : Nat → RS} (h : NW w o q X S n R) : PI X S R [] [] := by
  refine ⟨⟨h.inv, fun x s e => (by rw [h.sealed] at e; cases e), fun x s e => (by rw [h.wrapped] at e; cases e), fun x s e => (by rw [h.sealed] at e; cases e)⟩, h.pub, h.tm.trans h.sm.symm, by rw [h.sm]; exact newM_ok _, fun m hm => ?_, fun m hm => ?_, ?_, ?_, ⟨rfl, fun x hx => (by cases hx), fun e he => absurd he (by simp), fun b hb => (by cases hb)⟩, h.last, fun i hi => ?_⟩
  · rw [h.sm] at hm
    simp [newM] at hm
    exact ⟨0, by omega, by rw [hm]; rfl, by rw [hm]⟩
  · rw [h.sm] at hm ⊢
    simp [newM] at hm
    rw [hm]; show (0 : Int) ≤ -1 + 1; decide
  · rw [h.sm]; exact ⟨_, List.mem_singleton.2 rfl, rfl, rfl⟩
  · rw [h.sm]; rfl
  · rw [h.ring i hi]; exact ⟨rfl, rfl, rfl, 0, Nat.le_refl _, rfl⟩
theorem PI.ne {X : WD} {S : OS} {R : Nat → RS} {K : List Int} {O : List (List UInt8)} (h : PI X S R K O) : nowM X.sm.ml ≠ [] := fun e => by
  obtain ⟨m, hm, _, ht⟩ := h.zero
  have : m ∈ nowM X.sm.ml := by unfold nowM; simp [hm, ht]
  rw [e] at this; cases this
theorem PI.known {X : WD} {S : OS} {R : Nat → RS} {K : List Int} {O : List (List UInt8)} (h : PI X S R K O) : ∀ m ∈ nowM X.sm.ml, (alook S.publics m.pub).isSome := fun m hm => by
  obtain ⟨i, hi, _, e⟩ := h.mem m (nowM_sub hm).1
  rw [e, h.pub i hi]; rfl
theorem PI.doX0 {X : WD} {S : OS} {R : Nat → RS} {K : List Int} {O : List (List UInt8)} (h : PI X S R K O) {i : Nat} (hi : i < 4) : PI (doX X ⟨1, i, X.pub i, 0, [], []⟩) S R K O := by
  unfold doX
  by_cases ha : (applyM X.sm ⟨1, i, X.pub i, 0, [], []⟩).2 = 0
  · rw [if_pos ha]
    obtain ⟨hr, hh⟩ := apply_out ha
    have hok := applyM_ok h.ok ha
    rcases hh with ⟨_, h1, e⟩ | ⟨h2, _⟩ | ⟨h2, _⟩
    · obtain ⟨q1, q2⟩ := invite_out h1
      rw [e, q2] at hok ⊢
      refine ⟨h.ki, h.pub, rfl, hok, fun m hm => ?_, fun m hm => ?_, ?_, h.ep, h.ch, h.last, h.ring⟩
      · rcases List.mem_append.1 hm with hm | hm
        · exact h.mem m (List.mem_of_mem_take hm)
        · rcases List.mem_cons.1 hm with rfl | hm
          · exact ⟨i, hi, rfl, rfl⟩
          · exact h.mem m (List.mem_of_mem_drop hm)
      · rcases List.mem_append.1 hm with hm | hm
        · exact h.fr m (List.mem_of_mem_take hm)
        · rcases List.mem_cons.1 hm with rfl | hm
          · exact Int.le_refl _
          · exact h.fr m (List.mem_of_mem_drop hm)
      · obtain ⟨m, hm, z⟩ := h.zero
        refine ⟨m, ?_, z⟩
        rw [← List.take_append_drop (findI X.sm.ml (i : Int)) X.sm.ml] at hm
        rcases List.mem_append.1 hm with hm | hm
        · exact List.mem_append_left _ hm
        · exact List.mem_append_right _ (List.mem_cons_of_mem _ hm)
    · exact absurd h2 (by show ¬ ((1 : Int) = 2); decide)
    · exact absurd rfl h2
  · rw [if_neg ha]; exact h
theorem PI.doX2 {X : WD} {S : OS} {R : Nat → RS} {K : List Int} {O : List (List UInt8)} (h : PI X S R K O) (who : Int) : PI (doX X ⟨2, who, 0, 0, [], []⟩) S R K O := by
  unfold doX
  by_cases ha : (applyM X.sm ⟨2, who, 0, 0, [], []⟩).2 = 0
  · rw [if_pos ha]
    obtain ⟨hr, hh⟩ := apply_out ha
    have hok := applyM_ok h.ok ha
    rcases hh with ⟨h2, _⟩ | ⟨_, h1, e⟩ | ⟨_, h2, _⟩
    · exact absurd h2 (by show ¬ ((2 : Int) = 1); decide)
    · obtain ⟨m, q1, q2, q3, q4⟩ := revoke_out h1
      have hw0 : who ≠ 0 := fun e0 => by
        subst e0
        unfold rightM at hr
        simp at hr
      rw [e, q4] at hok ⊢
      have hmm := List.mem_of_getElem? q1
      refine ⟨h.ki, h.pub, rfl, hok, fun x hx => ?_, fun x hx => ?_, ?_, h.ep, h.ch, h.last, h.ring⟩
      · rcases mem_set hx with hx | rfl
        · exact h.mem x hx
        · exact h.mem m hmm
      · rcases mem_set hx with hx | rfl
        · exact h.fr x hx
        · exact h.fr m hmm
      · obtain ⟨z, hz, z1, z2⟩ := h.zero
        refine ⟨z, ?_, z1, z2⟩
        obtain ⟨d, hd⟩ := List.getElem?_of_mem hz
        have hne : findI X.sm.ml who ≠ d := fun e' => by
          subst e'
          rw [show findI X.sm.ml (⟨2, who, 0, 0, [], []⟩ : Chg).who = findI X.sm.ml who from rfl, hd] at q1
          cases q1
          exact hw0 (q2.symm.trans z1)
        refine List.mem_of_getElem? (i := d) ?_
        show (X.sm.ml.set (findI X.sm.ml who) _)[d]? = _
        rw [List.getElem?_set_ne hne]; exact hd
    · exact absurd rfl h2
  · rw [if_neg ha]; exact h
theorem PI.begin {X : WD} {S : OS} {R : Nat → RS} {K : List Int} {O : List (List UInt8)} (h : PI X S R K O) (hl : S.used.length < 10000000) : BK S X.sm X.last := beginK_plain h.ki h.ok h.known h.ne hl
theorem PI.last_rng {X : WD} {S : OS} {R : Nat → RS} {K : List Int} {O : List (List UInt8)} (h : PI X S R K O) : 0 ≤ X.last ∧ X.last < 18446744073709551616 := by
  rw [h.last]
  cases hk : K.getLast? with
  | none => exact ⟨by decide, by decide⟩
  | some x => have := h.ch.nz x (List.mem_of_getLast? hk); exact ⟨by show 0 ≤ x; omega, by show x < _; omega⟩
theorem PI.chain {X : WD} {S : OS} {R : Nat → RS} {K : List Int} {O : List (List UInt8)} (h : PI X S R K O) (hl : S.used.length < 10000000) (hold : (beginK S X.sm X.last).1.old.length < 1000000) :
    Chain (beginK S X.sm X.last).2.2 (K ++ [(beginK S X.sm X.last).2.1]) (O ++ [(beginK S X.sm X.last).1.old]) := by
  have B := h.begin hl
  have hlen := h.ch.len
  have hfit := B.ki.inv.fit (by have := B.len; omega) B.us
  refine ⟨by simp [hlen], fun x hx => ?_, fun e he => ?_, fun b hb => ?_⟩
  · rcases List.mem_append.1 hx with hx | hx
    · exact h.ch.nz x hx
    · have := B.nz
      simp at hx; subst hx
      omega
  · have he : e + 1 < K.length + 1 := by simpa using he
    by_cases hee : e + 1 < K.length
    · rw [List.getElem?_append_left hee, List.getElem?_append_left (by omega), List.getElem?_append_left (by omega)]
      exact B.le.open (h.ch.link e hee)
    · have hee : e + 1 = K.length := by omega
      have hep : 0 ≤ X.sm.ep := by have := h.ep; omega
      have hop := B.opens hep
      have e1 : (K ++ [(beginK S X.sm X.last).2.1])[e + 1]?.getD 0 = (beginK S X.sm X.last).2.1 := by rw [hee]; simp
      have e2 : (O ++ [(beginK S X.sm X.last).1.old])[e + 1]?.getD [] = (beginK S X.sm X.last).1.old := by rw [hee, ← hlen]; simp
      have e3 : (K ++ [(beginK S X.sm X.last).2.1])[e]?.getD 0 = X.last := by
        rw [List.getElem?_append_left (by omega), h.last, List.getLast?_eq_getElem?, show K.length - 1 = e by omega]
      rw [e1, e2, e3, show ((e + 1 : Nat) : Int) = X.sm.ep + 1 by have := h.ep; omega]
      exact hop
  · rcases List.mem_append.1 hb with hb | hb
    · exact h.ch.short b hb
    · simp at hb; subst hb; exact hold
theorem PI.in_ {X : WD} {S : OS} {R : Nat → RS} {K : List Int} {O : List (List UInt8)} (h : PI X S R K O) (hl : S.used.length < 10000000) (hold : (beginK S X.sm X.last).1.old.length < 1000000) (hep : X.sm.ep + 1 < 20) {i : Nat} (hi : i < 4) (hm : ∃ m ∈ nowM X.sm.ml, m.who = i) :
    learnK (beginK S X.sm X.last).2.2 (R i) (beginK S X.sm X.last).1 = ({ R i with keys := K ++ [(beginK S X.sm X.last).2.1], olds := O ++ [(beginK S X.sm X.last).1.old] }, 0) := by
  have B := h.begin hl
  have C := h.chain hl hold
  obtain ⟨r1, r2, r3, m, hm', r4⟩ := h.ring i hi
  have hkl : (R i).keys.length = K.length := by rw [r4, mkK_length]
  have ht := B.told (R := R i) (by rw [r1]; exact hm) fun m' hm2 hw => by
    obtain ⟨d, hd, e1, e2⟩ := h.mem m' (nowM_sub hm2).1
    have : d = i := by rw [r1, e1] at hw; omega
    subst this
    rw [e2, r2]; exact h.pub d hd
  unfold learnK
  rw [if_neg (by rw [B.kd, B.right]; simp), if_neg (by have := h.ep; omega), ht, hkl, r3, r4]
  dsimp only
  rw [mkK_push K m hm', back_full C m K.length (by simp)]
theorem PI.out_ {X : WD} {S : OS} {R : Nat → RS} {K : List Int} {O : List (List UInt8)} (h : PI X S R K O) (hl : S.used.length < 10000000) (hep : X.sm.ep + 1 < 20) {i : Nat} (hi : i < 4) (hm : ∀ m ∈ nowM X.sm.ml, m.who ≠ i) :
    ∃ m, m ≤ K.length ∧ learnK (beginK S X.sm X.last).2.2 (R i) (beginK S X.sm X.last).1 = ({ R i with keys := mkK (K ++ [(beginK S X.sm X.last).2.1]) m (K.length + 1), olds := O ++ [(beginK S X.sm X.last).1.old] }, 11) := by
  have B := h.begin hl
  obtain ⟨r1, r2, r3, m, hm', r4⟩ := h.ring i hi
  have hkl : (R i).keys.length = K.length := by rw [r4, mkK_length]
  have ht := B.other (R := R i) (by rw [r1]; exact hm)
  refine ⟨m, hm', ?_⟩
  unfold learnK
  rw [if_neg (by rw [B.kd, B.right]; simp), if_neg (by have := h.ep; omega), ht, hkl, r3, r4]
  dsimp only
  rw [mkK_zero K m hm' (beginK S X.sm X.last).2.1]
  have hb : backK (beginK S X.sm X.last).2.2 (O ++ [(beginK S X.sm X.last).1.old]) K.length (mkK (K ++ [(beginK S X.sm X.last).2.1]) m (K.length + 1)) = mkK (K ++ [(beginK S X.sm X.last).2.1]) m (K.length + 1) := by
    cases hK : K.length with
    | zero => rfl
    | succ e =>
      unfold backK
      rw [if_neg]
      rintro ⟨⟨h1, _⟩, _⟩
      rw [mkK_get (by simp; omega), if_neg (by omega)] at h1
      exact h1 rfl
  rw [hb]
theorem PI.next {X : WD} {S : OS} {R R' : Nat → RS} {K : List Int} {O : List (List UInt8)} (h : PI X S R K O) (hl : S.used.length < 10000000) (hold : (beginK S X.sm X.last).1.old.length < 1000000) (hep : X.sm.ep + 1 < 20)
    (hR : ∀ i, i < 4 → R' i = (learnK (beginK S X.sm X.last).2.2 (R i) (beginK S X.sm X.last).1).1) :
    PI { X with last := (beginK S X.sm X.last).2.1, sm := ⟨X.sm.ml, X.sm.ep + 1⟩, tm := ⟨X.sm.ml, X.sm.ep + 1⟩ } (beginK S X.sm X.last).2.2 R' (K ++ [(beginK S X.sm X.last).2.1]) (O ++ [(beginK S X.sm X.last).1.old]) := by
  have B := h.begin hl
  have he := h.ep
  have h0 := h.ok.ep0
  refine ⟨B.ki, fun i hi => by rw [B.le.pb]; exact h.pub i hi, rfl, ⟨h.ok.sorted, h.ok.who, by show -1 ≤ X.sm.ep + 1; omega, hep⟩, h.mem, fun m hm => by have := h.fr m hm; show m.fr ≤ X.sm.ep + 1 + 1; omega, h.zero, by simp; omega, h.chain hl hold, by simp, fun i hi => ?_⟩
  rw [hR i hi]
  obtain ⟨r1, r2, r3, _⟩ := h.ring i hi
  by_cases hm : ∃ m ∈ nowM X.sm.ml, m.who = i
  · rw [h.in_ hl hold hep hi hm]
    exact ⟨r1, r2, rfl, K.length + 1, by simp, by simp [mkK_full]⟩
  · obtain ⟨m, hm', e⟩ := h.out_ hl hep hi fun m hm1 hm2 => hm ⟨m, hm1, hm2⟩
    rw [e]
    exact ⟨r1, r2, rfl, m, by simp; omega, by simp⟩
theorem keyK_full {R : RS} {K : List Int} {e : Nat} (hk : R.keys = K) (he : e < K.length) (hz : ∀ x ∈ K, 0 < x ∧ x < 18446744073709551616) : keyK R e = (K[e]?.getD 0, 0) := by
  unfold keyK
  have := hz _ (List.getElem_mem he)
  rw [hk, if_neg (by omega), Int.toNat_natCast, if_neg (by rw [List.getElem?_eq_getElem he]; show ¬ (K[e] = 0); omega)]
theorem keyK_zero {R : RS} {K : List Int} {m e : Nat} (hk : R.keys = mkK K m (e + 1)) (hm : m ≤ e) (he : e < K.length) : keyK R e = (0, 11) := by
  unfold keyK
  rw [hk, if_neg (by rw [mkK_length]; omega), Int.toNat_natCast, if_pos (by rw [mkK_get he, if_neg (by omega)])]
end Go.Proofs.Ytaifegpikhjiiaa

/- Epochs: light, alive; the acts that are handed in. -/
set_option linter.unusedVariables false
set_option linter.unusedSimpArgs false
set_option maxRecDepth 20000
set_option maxHeartbeats 4000000
namespace Go.Proofs.Ytaifegpikhjiiaa
open Go Go.Mx Go.Proofs
structure EO where
  kd : Int
  who : Int
  pub : Int
  wa : Option Addr
  wc : Nat
  l : List Wr
  oa : Option Addr
  oc : Nat
  old : List UInt8
def EO.C (p : EO) : List Value := [.int .i64 p.kd, .int .i64 p.who, .int .u64 p.pub, .slice p.wa p.l.length p.wc, .slice p.oa p.old.length p.oc]
theorem EO.len (p : EO) : p.C.length = 5 := rfl
structure EO.good (W : World) (p : EO) : Prop where
  ws : RowAt W p.wa (p.l.flatMap Wr.C)
theorem opens_eo : Opens Try.prog 31 fun W cs => ∃ p : EO, cs = p.C ∧ p.good W :=
  (opens_seq (qs := [(1, _), (1, _), (1, _), (1, _), (1, _)]) (size := 5) Try.underlying31 (by kernel_rfl)
    ⟨⟨rfl, by kernel_rfl, opens_int Try.underlying3⟩, ⟨rfl, by kernel_rfl, opens_int Try.underlying3⟩, ⟨rfl, by kernel_rfl, opens_int Try.underlying27⟩,
     ⟨rfl, by kernel_rfl, opens_rows (size := 2) Try.underlying28 (by kernel_rfl) opens_wrap⟩, ⟨rfl, by kernel_rfl, opens_bytes Try.underlying29 (by kernel_rfl) Try.underlying5⟩, rfl⟩).mono
    fun W cs ⟨_, _, e0, _, ⟨kd, q0, _⟩, _, _, e1, _, ⟨who, q1, fw⟩, _, _, e2, _, ⟨pub, q2, fp⟩, _, _, e4, _, ⟨wa, wc, l, q4, lw, _, rw_, gw⟩, _, _, e5, _, ⟨oa, oc, old, q5, lo, _, ro⟩, q6⟩ => by
      subst q0; subst q1; subst q2; subst q4; subst q5; subst q6; subst e5; subst e4; subst e2; subst e1; subst e0
      exact ⟨⟨kd, who, pub, wa, wc, l, oa, oc, old⟩, rfl, ⟨rw_⟩⟩
def EOsQ (W : World) (cs : List Value) : Prop := ∃ (a : Option Addr) (c : Nat) (l : List EO), cs = [.slice a l.length c] ∧ l.length ≤ c ∧ c ≤ maxLen ∧ RowAt W a (l.flatMap EO.C) ∧ ∀ x ∈ l, x.good W
theorem opens_eos : Opens Try.prog 62 EOsQ := opens_rows (size := 5) Try.underlying62 (by kernel_rfl) opens_eo
theorem light13_spec {W : World} {da la : Option Addr} {dn dc lc : Nat} {l : List EO} (hl : RowAt W la (l.flatMap EO.C)) (hg : ∀ p ∈ l, p.good W) :
    Calls Try.prog 13 #[.slice da dn dc, .slice la l.length lc] W (fun e w' => ∃ b : Bool, e = .returned (.bool b) ∧ w' = W ∧ (b = true → dn ≤ 50 ∧ l.length ≤ 40)) := by
  refine (cachettelaw13_light.go da dn dc la l.length lc (R := fun v w' => ∃ b : Bool, v = .bool b ∧ w' = W ∧ (b = true → dn ≤ 50 ∧ l.length ≤ 40)) ?_).mono fun x w' ⟨v, he, b, hv, h⟩ => ⟨b, by rw [he, hv], h⟩
  unfold cachettelaw13_light.N
  have no : ∃ b : Bool, Value.bool false = .bool b ∧ W = W ∧ (b = true → dn ≤ 50 ∧ l.length ≤ 40) := ⟨false, rfl, rfl, fun h => by cases h⟩
  refine ⟨fun _ => no, fun h1 => ⟨fun _ => no, fun h2 => ?_⟩⟩
  refine ⟨fun q vs w1 => ∃ t : Nat, vs = [.int .i64 t] ∧ q + t = l.length ∧ w1 = W, l.length, ⟨0, rfl, rfl, rfl⟩, ?_⟩
  rintro q w1 i ⟨t, hi, hq, rfl⟩
  simp only [List.cons.injEq, Value.int.injEq, true_and, and_true] at hi
  subst hi
  refine ⟨fun ht => ?_, fun ht => ⟨true, rfl, rfl, fun _ => ⟨by omega, by omega⟩⟩⟩
  have htl : t < l.length := by omega
  have hgt : l[t]? = some l[t] := List.getElem?_eq_getElem htl
  have hws := (hg _ (List.getElem_mem htl)).ws
  obtain ⟨ad, rfl⟩ := hl.faddr EO.len (by decide) htl
  generalize l[t] = x at *
  have c4 := hl.fcell EO.len hgt 3 (v := .slice x.wa x.l.length x.wc) rfl
  have c5 := hl.fcell EO.len hgt 4 (v := .slice x.oa x.old.length x.oc) rfl
  refine ⟨ad, rfl, by omega, by omega, _, _, _, by rw [Int.toNat_natCast]; exact c4, fun _ => no, fun hA => ⟨by omega, by omega, _, _, _, by rw [Int.toNat_natCast]; exact c5, fun _ => no, fun hB => ?_⟩⟩
  refine ⟨fun q2 vs w1' => ∃ u : Nat, vs = [.int .i64 u] ∧ q2 + u = x.l.length ∧ w1' = w1, x.l.length, ⟨0, rfl, rfl, rfl⟩, ?_⟩
  rintro q2 w1' i ⟨u, hi, hq2, rfl⟩
  simp only [List.cons.injEq, Value.int.injEq, true_and, and_true] at hi
  subst hi
  refine ⟨by omega, by omega, _, _, _, by rw [Int.toNat_natCast]; exact c4, fun hu => ?_, fun hu => ⟨by omega, by omega, q - 1, by omega, t + 1, rfl, by omega, rfl⟩⟩
  have hul : u < x.l.length := by omega
  have hgu : x.l[u]? = some x.l[u] := List.getElem?_eq_getElem hul
  generalize x.l[u] = y at *
  obtain ⟨bd, hbd⟩ := hws.faddr Wr.len (by decide) hul
  have c1 := (hbd ▸ hws).fcell Wr.len hgu 1 (v := .slice y.a y.b.length y.c) rfl
  exact ⟨by omega, by omega, _, _, _, by rw [Int.toNat_natCast]; exact c4, bd, hbd, by omega, by omega, _, _, _, by rw [Int.toNat_natCast]; exact c1, fun _ => no, fun hb => ⟨by omega, by omega, q2 - 1, by omega, u + 1, rfl, by omega, rfl⟩⟩
theorem alive13 {w : World} {o : Own} (ok : Tags w o) : Calls Try.prog 5 #[] w (fun x w' => ∃ o', x = .returned (.bool true) ∧ Step no w o w' o') := by
  refine (cachettelaw13_alive.go (R := fun v w' => ∃ o', v = .bool true ∧ Step no w o w' o') ?_).mono fun x w' ⟨v, he, o', hv, h⟩ => ⟨o', by rw [he, hv], h⟩
  unfold cachettelaw13_alive.N
  refine (NewO (a := none) (c := 0) (l := []) ok (RowAt.nil _ _) (by decide)).mono fun x w3 ⟨k, o3, he, hk, s3, P3⟩ => ⟨_, he, ?_⟩
  have hI : OInv (OS.init []) := OInv.init fun d h => by cases h
  refine (PairO P3 s3.ok hI.ok (by decide)).mono fun x w7 ⟨o7, he, s7, P7⟩ => ⟨_, _, he, ?_⟩
  obtain ⟨p1, p2, p3, p4, p5, p6, _⟩ := pair_inv hI
  have hse : (pairOf (OS.init [])).2.sealed = [] := pair_sealed _
  have hwr : (pairOf (OS.init [])).2.wrapped = [] := pair_wrapped _
  have hused := (pairOf_ok hI.ok).2
  generalize (pairOf (OS.init [])).1.1 = s at *
  generalize (pairOf (OS.init [])).1.2 = p at *
  generalize (pairOf (OS.init [])).2 = S at *
  have hki : KI S := ⟨p1, fun x s e => (by rw [hse] at e; cases e), fun x s e => (by rw [hwr] at e; cases e), fun x s e => (by rw [hse] at e; cases e)⟩
  refine (rNew_spec13 s7.ok (who := 0) (by decide) (by decide) k).mono fun x w11 ⟨r, o11, he, hr, s11, E11⟩ => ⟨_, _, he, ?_⟩
  refine (mNew_spec s11.ok p).mono fun x w15 ⟨o15, a, c, he, s15, r15, hc⟩ => ⟨_, _, _, _, he, ?_⟩
  have hnow : nowM (newM p).ml = [⟨0, p, 0, -1, 0⟩] := rfl
  have hpub : ∀ m ∈ nowM (newM p).ml, alook S.publics m.pub = some s := fun m hm => by
    rw [hnow] at hm; rw [List.mem_singleton.1 hm]; exact p3
  have hlen : S.used.length ≤ 2 := hused
  have B := beginK_plain (s := newM p) (last := 0) hki (newM_ok p) (fun m hm => by rw [hpub m hm]; rfl) (by rw [hnow]; simp) (by omega)
  have P15 := (P7.step s11 id).step s15 id
  refine (Begin_spec (s := newM p) (last := 0) P15 s15.ok p1.ok (by omega) r15 (newM_ok p) (by decide) (by decide) (fun m hm => by rw [hpub m hm]; rfl) (by rw [hnow]; simp)).mono fun x w25 ⟨o25, wa, wc, oa, oc, l, he, s25, P25, C25, hlw, hlo⟩ => ⟨_, _, _, _, _, _, _, _, _, _, _, _, he, fun w32 X32 => ?_⟩
  have s32 := Step.of_no X32 s25.ok
  have E15 := E11.step s15 id
  have hrk : r ≠ k := by
    obtain ⟨_, b⟩ := E15.typ
    obtain ⟨_, b2⟩ := P15.typ
    exact Blk.apart b b2 (by decide)
  have E32 := (E15.step s25 hrk).step s32 id
  have P32 := P25.step s32 id
  have ht := B.told (R := ⟨0, s, [], []⟩) ⟨⟨0, p, 0, -1, 0⟩, by rw [hnow]; simp, rfl⟩ fun m hm _ => hpub m hm
  refine (Learn_spec E32 P32 s32.ok hrk B.ki.sh rfl (show (0 : Nat) < 1000 by decide) (fun b h => by cases h) (C25.step s32)).mono fun x w36 ⟨he, o36, s36, E36⟩ => ⟨_, he, ?_⟩
  have hL : learnK (beginK S (newM p) 0).2.2 ⟨0, s, [], []⟩ (beginK S (newM p) 0).1 = (⟨0, s, [(beginK S (newM p) 0).2.1], [(beginK S (newM p) 0).1.old]⟩, 0) := by
    unfold learnK
    rw [if_neg (by rw [B.kd, B.right]; simp), if_neg (by show ¬ (20 ≤ 0); decide), ht]; rfl
  rw [hL] at E36 ⊢
  have hK : keyK ⟨0, s, [(beginK S (newM p) 0).2.1], [(beginK S (newM p) 0).1.old]⟩ 0 = ((beginK S (newM p) 0).2.1, 0) := by
    unfold keyK
    rw [if_neg (by show ¬ ((0 : Int) < 0 ∨ ((1 : Nat) : Int) ≤ 0); decide), if_neg (by exact B.nz)]; rfl
  refine (gKey_spec E36 0).mono fun x w40 ⟨he, hw⟩ => ⟨_, _, he, ?_⟩
  subst hw
  rw [hK]
  refine ⟨fun _ => ⟨fun _ => ⟨fun _ => ⟨fun _ => ⟨fun _ => ⟨fun _ => ?_, fun h => absurd h B.nz⟩, fun h => absurd rfl h⟩, fun h => absurd rfl h⟩, fun h => absurd rfl h⟩, fun h => absurd rfl h⟩, fun h => absurd rfl h⟩
  refine (gCount_spec E36).mono fun x w49 ⟨he, hw⟩ => ⟨_, he, ?_⟩
  subst hw
  refine ⟨_, rfl, ((((s3.trans' s7 fun j hj => .inr (by rw [hj]; exact hk)).trans s11).trans s15).trans' s25 fun j hj => .inr (by rw [hj]; exact hk)).trans s32 |>.trans' s36 fun j hj => .inr ?_⟩
  have := s3.size
  have := s7.size
  omega
end Go.Proofs.Ytaifegpikhjiiaa

/- Epochs: what EpochsShared does behind an epoch. -/
set_option linter.unusedVariables false
set_option linter.unusedSimpArgs false
set_option maxRecDepth 20000
set_option maxHeartbeats 4000000
namespace Go.Proofs.Ytaifegpikhjiiaa
open Go Go.Mx Go.Proofs
def shTail (q : Nat) (Kind96 Who97 Public98 Limit99 : Int) (Wraps100a : Option Addr) (Wraps100n Wraps100c : Nat) (Old101a : Option Addr) (Old101n Old101c : Nat) (beginv102 : Int) (L131a : Option Addr) (L131n L131c : Nat) (Epoch132 : Int) (a123a : Option Addr) (a123n a123c : Nat) (p119 p148 : Nat) (Ta : Option Addr) (Tn Tc : Nat) (E2 : Int) (I0 : Nat → List Value → World → Prop) (m17 : Nat) (i15 : Int) (R : Value → World → Prop) (ww295 : World) : Prop :=
  canStore ww295 (((blk q).add 16).add 0) ∧
  (∀ p ∈ [p119, p148], p ≠ Addr.block ((blk q).add 16)) ∧
  thenW (ww295.setCell (((blk q).add 16).add 0) (.slice Ta Tn Tc)) fun ww177 =>
  canStore ww177 (((blk q).add 16).add 1) ∧
  thenW (ww177.setCell (((blk q).add 16).add 1) (.int .i64 E2)) fun ww178 =>
  ∃ (I2 : Nat → List Value → World → Prop) (m180 : Nat), I2 m180 [.int .i64 0] ww178 ∧ ∀ (m181 : Nat) (ww182 : World) (n179 : Int), I2 m181 [.int .i64 n179] ww182 →
  (n179 < 4 →
    Calls Try.prog 16 #[.agg #[.slice L131a L131n L131c, .int .i64 Epoch132], .int .i64 n179] ww182 fun ee190 ww191 => ∃ (Who184 : Int) (Public185 : Int) (From186 : Int) (To187 : Int) (Limit188 : Int) (find189 : Bool), ee190 = .returned (.tuple #[.agg #[.int .i64 Who184, .int .u64 Public185, .int .i64 From186, .int .i64 To187, .int .i64 Limit188], .bool find189]) ∧
    Keep [p119, p148] ww182 ww191 ∧
    (find189 = true →
      (To187 = (-1) →
        0 ≤ (n179 : Int) ∧ (n179 : Int) < (4 : Int) ∧
        ∃ (x202 : Option Addr), ww191.cell? (((blk q).add 6).add (Int.toNat n179 * 1)) = some (.pointer x202) ∧
        ∀ (ww200 : World), Ext no ww191 ww200 →
        Calls Try.prog 11 #[.pointer x202, .agg #[.int .i64 Kind96, .int .i64 Who97, .int .u64 Public98, .int .i64 Limit99, .slice Wraps100a Wraps100n Wraps100c, .slice Old101a Old101n Old101c]] ww200 fun ee205 ww206 => ∃ (learn204 : Int), ee205 = .returned (.int .i64 learn204) ∧
        Keep [p119, p148] ww200 ww206 ∧
        0 ≤ (n179 : Int) ∧ (n179 : Int) < (4 : Int) ∧
        ∃ (x209 : Option Addr), ww206.cell? (((blk q).add 6).add (Int.toNat n179 * 1)) = some (.pointer x209) ∧
        ∀ (ww207 : World), Ext no ww206 ww207 →
        Calls Try.prog 8 #[.pointer x209, .int .i64 Epoch132] ww207 fun ee212 ww213 => ∃ (key210 : Int) (key211 : Int), ee212 = .returned (.tuple #[.int .u64 key210, .int .i64 key211]) ∧
        Keep [p119, p148] ww207 ww213 ∧
        (From186 ≤ Epoch132 →
          (learn204 ≠ 0 →
            R (.bool false) ww213) ∧
          (learn204 = 0 →
            (key211 ≠ 0 →
              R (.bool false) ww213) ∧
            (key211 = 0 →
              (key210 ≠ beginv102 →
                R (.bool false) ww213) ∧
              (key210 = beginv102 →
                ∃ (I4 : Nat → List Value → World → Prop) (m219 : Nat), I4 m219 [.int .i64 0] ww213 ∧ ∀ (m220 : Nat) (ww221 : World) (h218 : Int), I4 m220 [.int .i64 h218] ww221 →
                (h218 < (a123n : Int) →
                  0 ≤ (n179 : Int) ∧ (n179 : Int) < (4 : Int) ∧
                  ∃ (x224 : Option Addr), ww221.cell? (((blk q).add 6).add (Int.toNat n179 * 1)) = some (.pointer x224) ∧
                  Calls Try.prog 8 #[.pointer x224, .int .i64 h218] ww221 fun ee227 ww228 => ∃ (key225 : Int) (key226 : Int), ee227 = .returned (.tuple #[.int .u64 key225, .int .i64 key226]) ∧
                  Keep [p119, p148] ww221 ww228 ∧
                  (key226 ≠ 0 →
                    R (.bool false) ww228) ∧
                  (key226 = 0 →
                    ∃ a230 : Addr, a123a = some a230 ∧
                    0 ≤ (h218 : Int) ∧ (h218 : Int) < (a123n : Int) ∧
                    ∃ (x232 : Int), ww228.cell? (a230.add (Int.toNat h218 * 1)) = some (.int .u64 x232) ∧
                    (key225 ≠ x232 →
                      R (.bool false) ww228) ∧
                    (key225 = x232 →
                      (-9223372036854775808 : Int) ≤ (h218 + 1) ∧ (h218 + 1) < 9223372036854775808 ∧
                      ∃ m234, m234 < m220 ∧ I4 m234 [.int .i64 (h218 + 1)] ww228))) ∧
                ((a123n : Int) ≤ h218 →
                  (-9223372036854775808 : Int) ≤ (n179 + 1) ∧ (n179 + 1) < 9223372036854775808 ∧
                  ∃ m235, m235 < m181 ∧ I2 m235 [.int .i64 (n179 + 1)] ww221))))) ∧
        (Epoch132 < From186 →
          (learn204 ≠ 11 →
            R (.bool false) ww213) ∧
          (learn204 = 11 →
            (key211 ≠ 11 →
              R (.bool false) ww213) ∧
            (key211 = 11 →
              (key210 ≠ 0 →
                R (.bool false) ww213) ∧
              (key210 = 0 →
                ∃ (I4 : Nat → List Value → World → Prop) (m240 : Nat), I4 m240 [.int .i64 0] ww213 ∧ ∀ (m241 : Nat) (ww242 : World) (h239 : Int), I4 m241 [.int .i64 h239] ww242 →
                (h239 < (a123n : Int) →
                  (-9223372036854775808 : Int) ≤ (n179 + 1) ∧ (n179 + 1) < 9223372036854775808 ∧
                  ∃ m244, m244 < m181 ∧ I2 m244 [.int .i64 (n179 + 1)] ww242) ∧
                ((a123n : Int) ≤ h239 →
                  (-9223372036854775808 : Int) ≤ (n179 + 1) ∧ (n179 + 1) < 9223372036854775808 ∧
                  ∃ m245, m245 < m181 ∧ I2 m245 [.int .i64 (n179 + 1)] ww242)))))) ∧
      (To187 ≠ (-1) →
        0 ≤ (n179 : Int) ∧ (n179 : Int) < (4 : Int) ∧
        ∃ (x248 : Option Addr), ww191.cell? (((blk q).add 6).add (Int.toNat n179 * 1)) = some (.pointer x248) ∧
        ∀ (ww246 : World), Ext no ww191 ww246 →
        Calls Try.prog 11 #[.pointer x248, .agg #[.int .i64 Kind96, .int .i64 Who97, .int .u64 Public98, .int .i64 Limit99, .slice Wraps100a Wraps100n Wraps100c, .slice Old101a Old101n Old101c]] ww246 fun ee251 ww252 => ∃ (learn250 : Int), ee251 = .returned (.int .i64 learn250) ∧
        Keep [p119, p148] ww246 ww252 ∧
        0 ≤ (n179 : Int) ∧ (n179 : Int) < (4 : Int) ∧
        ∃ (x255 : Option Addr), ww252.cell? (((blk q).add 6).add (Int.toNat n179 * 1)) = some (.pointer x255) ∧
        ∀ (ww253 : World), Ext no ww252 ww253 →
        Calls Try.prog 8 #[.pointer x255, .int .i64 Epoch132] ww253 fun ee258 ww259 => ∃ (key256 : Int) (key257 : Int), ee258 = .returned (.tuple #[.int .u64 key256, .int .i64 key257]) ∧
        Keep [p119, p148] ww253 ww259 ∧
        (learn250 ≠ 11 →
          R (.bool false) ww259) ∧
        (learn250 = 11 →
          (key257 ≠ 11 →
            R (.bool false) ww259) ∧
          (key257 = 11 →
            (key256 ≠ 0 →
              R (.bool false) ww259) ∧
            (key256 = 0 →
              ∃ (I4 : Nat → List Value → World → Prop) (m264 : Nat), I4 m264 [.int .i64 0] ww259 ∧ ∀ (m265 : Nat) (ww266 : World) (h263 : Int), I4 m265 [.int .i64 h263] ww266 →
              (h263 < (a123n : Int) →
                (-9223372036854775808 : Int) ≤ (n179 + 1) ∧ (n179 + 1) < 9223372036854775808 ∧
                ∃ m268, m268 < m181 ∧ I2 m268 [.int .i64 (n179 + 1)] ww266) ∧
              ((a123n : Int) ≤ h263 →
                (-9223372036854775808 : Int) ≤ (n179 + 1) ∧ (n179 + 1) < 9223372036854775808 ∧
                ∃ m269, m269 < m181 ∧ I2 m269 [.int .i64 (n179 + 1)] ww266)))))) ∧
    (find189 = false →
      0 ≤ (n179 : Int) ∧ (n179 : Int) < (4 : Int) ∧
      ∃ (x272 : Option Addr), ww191.cell? (((blk q).add 6).add (Int.toNat n179 * 1)) = some (.pointer x272) ∧
      ∀ (ww270 : World), Ext no ww191 ww270 →
      Calls Try.prog 11 #[.pointer x272, .agg #[.int .i64 Kind96, .int .i64 Who97, .int .u64 Public98, .int .i64 Limit99, .slice Wraps100a Wraps100n Wraps100c, .slice Old101a Old101n Old101c]] ww270 fun ee275 ww276 => ∃ (learn274 : Int), ee275 = .returned (.int .i64 learn274) ∧
      Keep [p119, p148] ww270 ww276 ∧
      0 ≤ (n179 : Int) ∧ (n179 : Int) < (4 : Int) ∧
      ∃ (x279 : Option Addr), ww276.cell? (((blk q).add 6).add (Int.toNat n179 * 1)) = some (.pointer x279) ∧
      ∀ (ww277 : World), Ext no ww276 ww277 →
      Calls Try.prog 8 #[.pointer x279, .int .i64 Epoch132] ww277 fun ee282 ww283 => ∃ (key280 : Int) (key281 : Int), ee282 = .returned (.tuple #[.int .u64 key280, .int .i64 key281]) ∧
      Keep [p119, p148] ww277 ww283 ∧
      (learn274 ≠ 11 →
        R (.bool false) ww283) ∧
      (learn274 = 11 →
        (key281 ≠ 11 →
          R (.bool false) ww283) ∧
        (key281 = 11 →
          (key280 ≠ 0 →
            R (.bool false) ww283) ∧
          (key280 = 0 →
            ∃ (I4 : Nat → List Value → World → Prop) (m288 : Nat), I4 m288 [.int .i64 0] ww283 ∧ ∀ (m289 : Nat) (ww290 : World) (h287 : Int), I4 m289 [.int .i64 h287] ww290 →
            (h287 < (a123n : Int) →
              (-9223372036854775808 : Int) ≤ (n179 + 1) ∧ (n179 + 1) < 9223372036854775808 ∧
              ∃ m292, m292 < m181 ∧ I2 m292 [.int .i64 (n179 + 1)] ww290) ∧
            ((a123n : Int) ≤ h287 →
              (-9223372036854775808 : Int) ≤ (n179 + 1) ∧ (n179 + 1) < 9223372036854775808 ∧
              ∃ m293, m293 < m181 ∧ I2 m293 [.int .i64 (n179 + 1)] ww290)))))) ∧
  ((4 : Int) ≤ n179 →
    (-9223372036854775808 : Int) ≤ (i15 + 1) ∧ (i15 + 1) < 9223372036854775808 ∧
    ∃ m294, m294 < m17 ∧ I0 m294 [.slice a123a a123n a123c, .int .i64 (i15 + 1)] ww182)
def shMid (q : Nat) (Kind96 Who97 Public98 Limit99 : Int) (Wraps100a : Option Addr) (Wraps100n Wraps100c : Nat) (Old101a : Option Addr) (Old101n Old101c : Nat) (beginv102 : Int) (L131a : Option Addr) (L131n L131c : Nat) (Epoch132 : Int) (a123a : Option Addr) (a123n a123c : Nat) (p119 p148 : Nat) (I0 : Nat → List Value → World → Prop) (m17 : Nat) (i15 : Int) (R : Value → World → Prop) (ww150 : World) : Prop :=
  ∃ (tL153a : Option Addr) (tL153n : Nat) (tL153c : Nat) (tEpoch154 : Int), cellsAt ww150 ((blk q).add 16) [.slice tL153a tL153n tL153c, .int .i64 tEpoch154] 0 ∧
  (∀ (ww156 : World) (L155 : List Nat), Ext no ww150 ww156 → Priv ww150 ww156 L155 →
  Calls Try.prog 15 #[.agg #[.int .i64 Kind96, .int .i64 Who97, .int .u64 Public98, .int .i64 Limit99, .slice Wraps100a Wraps100n Wraps100c, .slice Old101a Old101n Old101c]] ww156 fun ee163 ww164 => ∃ (Kind157 : Int) (Who158 : Int) (Public159 : Int) (Limit160 : Int) (Wraps161a : Option Addr) (Wraps161n : Nat) (Wraps161c : Nat) (Old162a : Option Addr) (Old162n : Nat) (Old162c : Nat), ee163 = .returned (.agg #[.int .i64 Kind157, .int .i64 Who158, .int .u64 Public159, .int .i64 Limit160, .slice Wraps161a Wraps161n Wraps161c, .slice Old162a Old162n Old162c]) ∧
  Keep L155 ww156 ww164 ∧
  Keep [p119, p148] ww156 ww164 ∧
  cellsAt ww164 ((blk q).add 16) [.slice tL153a tL153n tL153c, .int .i64 tEpoch154] 0 ∧
  (∀ (ww167 : World) (L166 : List Nat), Ext (fun b => b ∈ L155) ww164 ww167 → PrivJ L155 ww164 ww167 L166 →
  Calls Try.prog 14 #[.agg #[.slice tL153a tL153n tL153c, .int .i64 tEpoch154], .agg #[.int .i64 Kind157, .int .i64 Who158, .int .u64 Public159, .int .i64 Limit160, .slice Wraps161a Wraps161n Wraps161c, .slice Old162a Old162n Old162c]] ww167 fun ee171 ww172 => ∃ (L168a : Option Addr) (L168n : Nat) (L168c : Nat) (Epoch169 : Int) (apply170 : Int), ee171 = .returned (.tuple #[.agg #[.slice L168a L168n L168c, .int .i64 Epoch169], .int .i64 apply170]) ∧
  Keep L166 ww167 ww172 ∧
  Keep [p119, p148] ww167 ww172 ∧
  ∀ (ww295 : World), Ext (fun b => b ∈ L166) ww172 ww295 →
  shTail q Kind96 Who97 Public98 Limit99 Wraps100a Wraps100n Wraps100c Old101a Old101n Old101c beginv102 L131a L131n L131c Epoch132 a123a a123n a123c p119 p148 L168a L168n L168c Epoch169 I0 m17 i15 R ww295) ∧
  (∀ (ww297 : World) (p167 : Nat), Ext (fun b => b ∈ L155) ww164 ww297 → PrivJ L155 ww164 ww297 [p167] →
  cellsAt ww297 ((blk q).add 16) [.slice tL153a tL153n tL153c, .int .i64 tEpoch154] 0 ∧
  ∀ (ww170 : World) (L169 : List Nat), Ext no ww297 ww170 → Priv ww297 ww170 L169 →
  Calls Try.prog 14 #[.agg #[.slice tL153a tL153n tL153c, .int .i64 tEpoch154], .agg #[.int .i64 Kind157, .int .i64 Who158, .int .u64 Public159, .int .i64 Limit160, .slice Wraps161a Wraps161n Wraps161c, .slice Old162a Old162n Old162c]] ww170 fun ee174 ww175 => ∃ (L171a : Option Addr) (L171n : Nat) (L171c : Nat) (Epoch172 : Int) (apply173 : Int), ee174 = .returned (.tuple #[.agg #[.slice L171a L171n L171c, .int .i64 Epoch172], .int .i64 apply173]) ∧
  Keep L169 ww170 ww175 ∧
  Keep [p119, p148, p167] ww170 ww175 ∧
  ∀ (ww296 : World), Ext (fun b => b ∈ L169) ww175 ww296 →
  ∀ (ww177 : World), Ext (fun b => b = p167) ww296 ww177 →
  shTail q Kind96 Who97 Public98 Limit99 Wraps100a Wraps100n Wraps100c Old101a Old101n Old101c beginv102 L131a L131n L131c Epoch132 a123a a123n a123c p119 p148 L171a L171n L171c Epoch172 I0 m17 i15 R ww177)) ∧
  (∀ (ww157 : World) (L156 : List Nat), Ext no ww150 ww157 → Priv ww150 ww157 L156 →
  Calls Try.prog 15 #[.agg #[.int .i64 Kind96, .int .i64 Who97, .int .u64 Public98, .int .i64 Limit99, .slice Wraps100a Wraps100n Wraps100c, .slice Old101a Old101n Old101c]] ww157 fun ee164 ww165 => ∃ (Kind158 : Int) (Who159 : Int) (Public160 : Int) (Limit161 : Int) (Wraps162a : Option Addr) (Wraps162n : Nat) (Wraps162c : Nat) (Old163a : Option Addr) (Old163n : Nat) (Old163c : Nat), ee164 = .returned (.agg #[.int .i64 Kind158, .int .i64 Who159, .int .u64 Public160, .int .i64 Limit161, .slice Wraps162a Wraps162n Wraps162c, .slice Old163a Old163n Old163c]) ∧
  Keep L156 ww157 ww165 ∧
  Keep [p119, p148] ww157 ww165 ∧
  cellsAt ww165 ((blk q).add 16) [.slice tL153a tL153n tL153c, .int .i64 tEpoch154] 0 ∧
  ∀ (ww168 : World) (L167 : List Nat), Ext (fun b => b ∈ L156) ww165 ww168 → PrivJ L156 ww165 ww168 L167 →
  Calls Try.prog 14 #[.agg #[.slice tL153a tL153n tL153c, .int .i64 tEpoch154], .agg #[.int .i64 Kind158, .int .i64 Who159, .int .u64 Public160, .int .i64 Limit161, .slice Wraps162a Wraps162n Wraps162c, .slice Old163a Old163n Old163c]] ww168 fun ee172 ww173 => ∃ (L169a : Option Addr) (L169n : Nat) (L169c : Nat) (Epoch170 : Int) (apply171 : Int), ee172 = .returned (.tuple #[.agg #[.slice L169a L169n L169c, .int .i64 Epoch170], .int .i64 apply171]) ∧
  Keep L167 ww168 ww173 ∧
  Keep [p119, p148] ww168 ww173 ∧
  ∀ (ww295 : World), Ext (fun b => b ∈ L167) ww173 ww295 →
  shTail q Kind96 Who97 Public98 Limit99 Wraps100a Wraps100n Wraps100c Old101a Old101n Old101c beginv102 L131a L131n L131c Epoch132 a123a a123n a123c p119 p148 L169a L169n L169c Epoch170 I0 m17 i15 R ww295)
abbrev allK : Nat → Prop := fun _ => True
structure Off (b : Nat) (q : Nat) (X : WD) : Prop where
  q : b ≠ q
  k : b ≠ X.k
  j : b ≠ X.j
  r : ∀ i, i < 4 → ∀ r, X.rq i = some r → b ≠ r
  m : ∀ i, i < 4 → ∀ r, X.mq i = some r → b ≠ r
section
variable {w w' w1 w2 : World} {o o' o1 : Own} {q k p N m n i b : Nat} {K : Nat → Prop} {X : WD} {S T : OS} {R M : Nat → RS}
theorem sTop (h : Step K w o w' o') : Step allK w o w' o' := h.mono fun _ _ _ => trivial
def shLK (q n : Nat) (cg : Chg) (wa : Option Addr) (wc : Nat) (oa : Option Addr) (oc : Nat) (E : Int) (p1 p2 : Nat) (REST : Int → Int → Int → World → Prop) (w : World) : Prop :=
  0 ≤ (n : Int) ∧ (n : Int) < (4 : Int) ∧
  ∃ (x202 : Option Addr), w.cell? (((blk q).add 6).add (Int.toNat n * 1)) = some (.pointer x202) ∧
  ∀ (ww200 : World), Ext no w ww200 →
  Calls Try.prog 11 #[.pointer x202, .agg #[.int .i64 cg.kd, .int .i64 cg.who, .int .u64 cg.pub, .int .i64 cg.lim, .slice wa cg.ws.length wc, .slice oa cg.old.length oc]] ww200 fun ee205 ww206 => ∃ (learn204 : Int), ee205 = .returned (.int .i64 learn204) ∧
  Keep [p1, p2] ww200 ww206 ∧
  0 ≤ (n : Int) ∧ (n : Int) < (4 : Int) ∧
  ∃ (x209 : Option Addr), ww206.cell? (((blk q).add 6).add (Int.toNat n * 1)) = some (.pointer x209) ∧
  ∀ (ww207 : World), Ext no ww206 ww207 →
  Calls Try.prog 8 #[.pointer x209, .int .i64 E] ww207 fun ee212 ww213 => ∃ (key210 : Int) (key211 : Int), ee212 = .returned (.tuple #[.int .u64 key210, .int .i64 key211]) ∧
  Keep [p1, p2] ww207 ww213 ∧
  REST learn204 key210 key211 ww213
theorem All.ringCell (A : All w o q X S T n R M) (hi : i < 4) {r : Nat} (hr : X.rq i = some r) : w.cell? (((blk q).add 6).add (Int.toNat (i : Int) * 1)) = some (.pointer (some (blk r))) := by
  have h := A.wd.at (adr q 6 i) fun sa sc ta tc => V_ring hi sa sc ta tc
  rw [hr] at h; exact h
theorem shLK_ok {T : OS} {nn : Nat} (A : All w o q X S T nn R M) (ok : Tags w o) (hn : n < 4) {cg : Chg} {wa oa : Option Addr} {wc oc : Nat} {l : List Wr} (hC : CH w o cg wa wc l oa oc) (hS : Short S) (hl : (R n).keys.length = (R n).olds.length) (h1 : (R n).keys.length < 1000)
    (hol : ∀ b ∈ (R n).olds, b.length < 1000000) {p1 p2 : Nat} (hM : Mine [p1, p2] w o) (hF1 : ∀ r, X.rq n = some r → r ≠ p1 ∧ r ≠ p2) {E : Int} {REST : Int → Int → Int → World → Prop}
    (hR : ∀ w' o', Step (fun j => X.rq n = some j) w o w' o' → All w' o' q X S T nn (updF R n (learnK S (R n) cg).1) M → REST (learnK S (R n) cg).2 (keyK (learnK S (R n) cg).1 E).1 (keyK (learnK S (R n) cg).1 E).2 w') :
    shLK q n cg wa wc oa oc E p1 p2 REST w := by
  obtain ⟨r, e, g, hw⟩ := A.ring n hn
  refine ⟨by omega, by omega, _, A.ringCell hn e, fun w200 X200 => ?_⟩
  have s200 := Step.of_no X200 ok
  have A200 := A.no s200
  obtain ⟨r', e', g', _⟩ := A200.ring n hn
  rw [e] at e'; cases e'
  have hrk : r ≠ X.k := by
    obtain ⟨_, b1⟩ := g'.typ
    obtain ⟨_, b2⟩ := A200.orc.typ
    exact Blk.apart b1 b2 (by decide)
  obtain ⟨f1, f2⟩ := hF1 r e
  refine (Learn_spec g' A200.orc s200.ok hrk hS hl h1 hol (hC.step s200)).mono fun x w206 ⟨he, o206, s206, E206⟩ => ⟨_, he, (hM.step s200).keep s206 (fun p hp hk => by simp at hp; omega), by omega, by omega, some (blk r), ?_⟩
  have hw' : (learnK S (R n) cg).1.who = n := by
    rw [← hw]; unfold learnK; split
    · rfl
    · split <;> rfl
  have A206 := A200.toRing hn e s206 hw' E206
  refine ⟨A206.ringCell hn e, fun w207 X207 => ?_⟩
  have s207 := Step.of_no X207 s206.ok
  have A207 := A206.no s207
  obtain ⟨r2, e2, g2, _⟩ := A207.ring n hn
  rw [e] at e2; cases e2
  rw [updF_self] at g2
  refine (gKey_spec g2 E).mono fun x w213 ⟨he, hww⟩ => ⟨_, _, he, ?_⟩
  subst hww
  have sA : Step (fun j => X.rq n = some j) w o w206 o206 := (Step.anyK s200).trans' s206 fun j hj => .inl (by rw [hj]; exact e)
  have sB : Step (fun j => X.rq n = some j) w o _ _ := sA.trans' s207 fun j h => h.elim
  exact ⟨Keep.refl _ _, hR _ _ sB A207⟩
theorem loop0 {I2 : Nat → List Value → World → Prop} {m181 c : Nat} {n : Int} (h0 : -9223372036854775808 ≤ n + 1) (h1 : n + 1 < 9223372036854775808) (h : ∃ m, m < m181 ∧ I2 m [.int .i64 (n + 1)] w) :
    ∃ (I4 : Nat → List Value → World → Prop) (m240 : Nat), I4 m240 [.int .i64 0] w ∧ ∀ (m241 : Nat) (ww242 : World) (h239 : Int), I4 m241 [.int .i64 h239] ww242 →
      (h239 < (c : Int) → (-9223372036854775808 : Int) ≤ (n + 1) ∧ (n + 1) < 9223372036854775808 ∧ ∃ m244, m244 < m181 ∧ I2 m244 [.int .i64 (n + 1)] ww242) ∧
      ((c : Int) ≤ h239 → (-9223372036854775808 : Int) ≤ (n + 1) ∧ (n + 1) < 9223372036854775808 ∧ ∃ m245, m245 < m181 ∧ I2 m245 [.int .i64 (n + 1)] ww242) :=
  ⟨fun _ _ w1 => w1 = w, 0, rfl, fun _ w1 _ e => by subst e; exact ⟨fun _ => ⟨h0, h1, h⟩, fun _ => ⟨h0, h1, h⟩⟩⟩
theorem now_of_find {ml : List Mem} {x : Int} (h : (findM ml x).2 = true) (ht : (findM ml x).1.to_ = -1) : ∃ m ∈ nowM ml, m.who = x := by
  obtain ⟨h1, h2⟩ := findM_mem h
  exact ⟨_, by unfold nowM; simp [h1, ht], h2⟩
theorem not_now {ml : List Mem} (hs : Sorted ml) {x : Int} (h : (findM ml x).2 = false ∨ (findM ml x).1.to_ ≠ -1) : ∀ m ∈ nowM ml, m.who ≠ x := fun m hm hw => by
  obtain ⟨h1, h2⟩ := nowM_sub hm
  have := findM_some hs h1
  rw [hw] at this
  rw [this] at h
  rcases h with h | h
  · cases h
  · exact h h2
theorem krw_at {a : Option Addr} {c : Nat} {l : List Int} (h : KRw w o b a c l) (hi : i < l.length) : ∃ ad, a = some ad ∧ w.cell? (ad.add (i * 1)) = some (.int .u64 (l[i]?.getD 0)) := by
  have hr := h.row
  obtain ⟨ad, rfl⟩ := hr.addr fun e => by rw [List.map_eq_nil_iff.1 e] at hi; simp at hi
  refine ⟨ad, rfl, ?_⟩
  rw [Nat.mul_one]
  refine hr.at_ ?_
  rw [List.getElem?_map, List.getElem?_eq_getElem hi]; rfl
def ShI (w : World) (o : Own) (q b : Nat) (X X2 : WD) (S' T : OS) (nn : Nat) (R M : Nat → RS) (cg : Chg) (wa : Option Addr) (wc : Nat) (l : List Wr) (oa : Option Addr) (oc : Nat) (La ka : Option Addr) (kc : Nat) (Kn : List Int) (p1 p2 : Nat) (m : Nat) (vs : List Value) (w' : World) : Prop :=
  ∃ (t : Nat) (o' : Own) (R' : Nat → RS), vs = [.int .i64 t] ∧ m + t = 4 ∧ Step allK w o w' o' ∧ All w' o' q X2 S' T nn R' M ∧ (∀ i, R' i = if i < t then (learnK S' (R i) cg).1 else R i) ∧ KRw w' o' b ka kc Kn ∧ CH w' o' cg wa wc l oa oc ∧ Row w' o' La (X.sm.ml.flatMap Mem.C) ∧ Mine [p1, p2] w' o'
theorem shTail_ok {K : List Int} {O : List (List UInt8)} (P : PI X S R K O) (hl : S.used.length < 10000000) (hep : X.sm.ep + 1 < 20) {wa oa : Option Addr} {wc oc : Nat} {l : List Wr} {nn : Nat}
    (A : All w o q { X with last := (beginK S X.sm X.last).2.1, sm := ⟨X.sm.ml, X.sm.ep + 1⟩ } (beginK S X.sm X.last).2.2 T nn R M) (ok : Tags w o) (hC : CH w o (beginK S X.sm X.last).1 wa wc l oa oc) {La Ta : Option Addr} {Lc Tc : Nat}
    (hrow : Row w o La (X.sm.ml.flatMap Mem.C)) (hrt : Row w o Ta (X.sm.ml.flatMap Mem.C)) (hTc : X.sm.ml.length ≤ Tc) {ka : Option Addr} {kc : Nat} (hk : KRw w o b ka kc (K ++ [(beginK S X.sm X.last).2.1])) (hb : Off b q X) {p1 p2 : Nat} (hM : Mine [p1, p2] w o)
    (u : Under q X N) (h1 : N ≤ p1) (h2 : N ≤ p2) {I0 : Nat → List Value → World → Prop} {m17 : Nat} {i15 : Int} (hi0 : 0 ≤ i15) (hi1 : i15 < 1000) {Φ : Value → World → Prop}
    (hI : ∀ w' o' R', Step allK w o w' o' → All w' o' q { X with last := (beginK S X.sm X.last).2.1, sm := ⟨X.sm.ml, X.sm.ep + 1⟩, tm := ⟨X.sm.ml, X.sm.ep + 1⟩ } (beginK S X.sm X.last).2.2 T nn R' M → (∀ i, i < 4 → R' i = (learnK (beginK S X.sm X.last).2.2 (R i) (beginK S X.sm X.last).1).1) →
      KRw w' o' b ka kc (K ++ [(beginK S X.sm X.last).2.1]) → ∃ m, m < m17 ∧ I0 m [.slice ka (K ++ [(beginK S X.sm X.last).2.1]).length kc, .int .i64 (i15 + 1)] w') :
    shTail q (beginK S X.sm X.last).1.kd (beginK S X.sm X.last).1.who (beginK S X.sm X.last).1.pub (beginK S X.sm X.last).1.lim wa (beginK S X.sm X.last).1.ws.length wc oa (beginK S X.sm X.last).1.old.length oc (beginK S X.sm X.last).2.1 La X.sm.ml.length Lc (X.sm.ep + 1)
      ka (K ++ [(beginK S X.sm X.last).2.1]).length kc p1 p2 Ta X.sm.ml.length Tc (X.sm.ep + 1) I0 m17 i15 Φ w := by
  have B := P.begin hl
  have hold := hC.ol
  have hsh := B.ki.sh
  have C := P.chain hl hold
  have hin := @PI.in_ X S R K O P hl hold hep
  have hout := @PI.out_ X S R K O P hl hep
  have hfr := P.fr
  have hle := P.ok.le
  have hep0 := P.ok.ep0
  have hKe := P.ep
  have hPr := P.ring
  have hOl := P.ch.len
  have hshort := P.ch.short
  have hsorted := P.ok.sorted
  have hqN := u.q
  unfold shTail
  generalize (beginK S X.sm X.last).2.1 = key at *
  generalize (beginK S X.sm X.last).2.2 = S' at *
  generalize (beginK S X.sm X.last).1 = cg at *
  refine ⟨A.wd.can (i := 16) rfl (by omega), fun p hp e => ?_, thenW_in fun w177 e177 => ?_⟩
  · rw [show Addr.block ((blk q).add 16) = q from rfl] at e; subst e
    simp at hp
    omega
  refine ⟨(A.wd.setT ok (s := ⟨X.sm.ml, X.sm.ep + 1⟩) hrt hTc e177 rfl).1, thenW_in fun w178 e178 => ?_⟩
  obtain ⟨_, s178, W178⟩ := A.wd.setT ok (s := ⟨X.sm.ml, X.sm.ep + 1⟩) hrt hTc e177 e178
  have A178 := A.toWd s178 (X' := { X with last := key, sm := ⟨X.sm.ml, X.sm.ep + 1⟩, tm := ⟨X.sm.ml, X.sm.ep + 1⟩ }) rfl rfl rfl rfl W178
  have k178 := hk.step s178 hb.q
  refine ⟨ShI w o q b X { X with last := key, sm := ⟨X.sm.ml, X.sm.ep + 1⟩, tm := ⟨X.sm.ml, X.sm.ep + 1⟩ } S' T nn R M cg wa wc l oa oc La ka kc (K ++ [key]) p1 p2, 4,
    ⟨0, _, R, rfl, rfl, sTop s178, A178, fun i => by rw [if_neg (Nat.not_lt_zero _)], k178, hC.step s178, hrow.step s178, hM.step s178⟩, ?_⟩
  rintro m181 w182 n179 ⟨t, o182, R', hv, hm, s182, A182, hR', k182, C182, r182, M182⟩
  cases hv
  refine ⟨fun ht => ?_, fun ht => ?_⟩
  · have ht : t < 4 := by omega
    refine (Find_spec r182 s182.ok hsorted (by omega) (X.sm.ep + 1) (t : Int)).mono fun x w191 ⟨he, o191, s191⟩ => ⟨_, _, _, _, _, _, he, M182.keep s191 (fun _ _ => id), ?_⟩
    have A191 := A182.no s191
    have hRt : R' t = R t := by rw [hR' t, if_neg (Nat.lt_irrefl _)]
    obtain ⟨r1, r2, r3, m0, hm0, r4⟩ := hPr t ht
    have hlk : (R t).keys.length = K.length := by rw [r4, mkK_length]
    have nextI : ∀ w' o', Step (fun j => X.rq t = some j) w191 o191 w' o' → All w' o' q { X with last := key, sm := ⟨X.sm.ml, X.sm.ep + 1⟩, tm := ⟨X.sm.ml, X.sm.ep + 1⟩ } S' T nn (updF R' t (learnK S' (R' t) cg).1) M →
        ∃ m, m < m181 ∧ ShI w o q b X { X with last := key, sm := ⟨X.sm.ml, X.sm.ep + 1⟩, tm := ⟨X.sm.ml, X.sm.ep + 1⟩ } S' T nn R M cg wa wc l oa oc La ka kc (K ++ [key]) p1 p2 m [.int .i64 ((t : Int) + 1)] w' := fun w' o' s' A' =>
      ⟨m181 - 1, by omega, t + 1, o', _, rfl, by omega, (s182.trans (sTop s191)).trans (sTop s'), A', fun i => by
        by_cases hit : i = t
        · subst hit; rw [updF_self, hRt, if_pos (by omega)]
        · rw [updF_ne _ _ hit, hR' i]
          by_cases h : i < t
          · rw [if_pos h, if_pos (by omega)]
          · rw [if_neg h, if_neg (by omega)], (k182.step s191 id).step s' (fun e => hb.r t ht _ e rfl), (C182.step s191).step s', (r182.step s191).step s', (M182.step s191).step s'⟩
    have lk : ∀ (REST : Int → Int → Int → World → Prop), (∀ w' o', Step (fun j => X.rq t = some j) w191 o191 w' o' → All w' o' q { X with last := key, sm := ⟨X.sm.ml, X.sm.ep + 1⟩, tm := ⟨X.sm.ml, X.sm.ep + 1⟩ } S' T nn (updF R' t (learnK S' (R' t) cg).1) M → REST (learnK S' (R t) cg).2 (keyK (learnK S' (R t) cg).1 (X.sm.ep + 1)).1 (keyK (learnK S' (R t) cg).1 (X.sm.ep + 1)).2 w') →
        shLK q t cg wa wc oa oc (X.sm.ep + 1) p1 p2 REST w191 := fun REST hREST =>
      shLK_ok A191 s191.ok ht (C182.step s191) hsh (by rw [hRt, hlk, r3]; exact hOl.symm) (by rw [hRt, hlk]; omega) (by rw [hRt, r3]; exact hshort) (M182.step s191) (fun r hr => by have := u.r t ht r hr; omega) (fun w' o' s' A' => by
        have h := hREST w' o' s' A'
        rw [hRt]; exact h)
    have outC : (∀ m ∈ nowM X.sm.ml, m.who ≠ t) → (learnK S' (R t) cg).2 = 11 ∧ keyK (learnK S' (R t) cg).1 (X.sm.ep + 1) = (0, 11) := fun hno => by
      obtain ⟨m1, hm1, e⟩ := hout ht hno
      rw [e]
      refine ⟨rfl, ?_⟩
      have : ((K.length : Nat) : Int) = X.sm.ep + 1 := hKe
      rw [← this]
      exact keyK_zero (K := K ++ [key]) rfl hm1 (by simp)
    refine ⟨fun hf => ⟨fun hto => ?_, fun hto => ?_⟩, fun hf => ?_⟩
    · have hnow := now_of_find hf hto
      have hlin := hin ht hnow
      refine lk _ fun w' o' s' A' => ⟨fun hfe => ?_, fun hfe => ?_⟩
      · rw [hlin]
        have hKK : ∀ e, e < (K ++ [key]).length → keyK { R t with keys := K ++ [key], olds := O ++ [cg.old] } (e : Int) = ((K ++ [key])[e]?.getD 0, 0) := fun e he => keyK_full (K := K ++ [key]) rfl he C.nz
        have hKe2 : keyK { R t with keys := K ++ [key], olds := O ++ [cg.old] } (X.sm.ep + 1) = (key, 0) := by
          rw [← hKe, hKK K.length (by simp)]; simp
        rw [hKe2]
        refine ⟨fun h => absurd rfl h, fun _ => ⟨fun h => absurd rfl h, fun _ => ⟨fun h => absurd rfl h, fun _ => ?_⟩⟩⟩
        refine ⟨fun m4 vs w1 => ∃ h : Nat, vs = [.int .i64 h] ∧ m4 + h = (K ++ [key]).length ∧ w1 = w', (K ++ [key]).length, ⟨0, rfl, rfl, rfl⟩, ?_⟩
        rintro m4 w1 h218 ⟨h, hv, hm4, rfl⟩
        cases hv
        refine ⟨fun hh => ?_, fun hh => ⟨by omega, by omega, nextI _ _ s' A'⟩⟩
        have hh : h < (K ++ [key]).length := by omega
        have hKl : (K ++ [key]).length = K.length + 1 := by simp
        obtain ⟨r, e, g, hw⟩ := A'.ring t ht
        rw [updF_self, hRt, hlin] at g
        refine ⟨by omega, by omega, _, A'.ringCell ht e, ?_⟩
        refine (gKey_spec g (h : Int)).mono fun x w228 ⟨he, hww⟩ => ⟨_, _, he, ?_⟩
        subst hww
        rw [hKK h hh]
        refine ⟨Keep.refl _ _, fun hz => absurd rfl hz, fun _ => ?_⟩
        have k' := (k182.step s191 id).step s' (fun e => hb.r t ht _ e rfl)
        obtain ⟨ad, ha, hc⟩ := krw_at k' hh
        refine ⟨ad, ha, by omega, by omega, _, by rw [Int.toNat_natCast]; exact hc, fun hz => absurd rfl hz, fun _ => ⟨by omega, by omega, m4 - 1, by omega, h + 1, rfl, by omega, rfl⟩⟩
      · have := hfr _ (findM_mem hf).1
        exfalso; omega
    · obtain ⟨e1, e2⟩ := outC (not_now hsorted (.inr hto))
      refine lk _ fun w' o' s' A' => ?_
      rw [e1, e2]
      exact ⟨fun h => absurd rfl h, fun _ => ⟨fun h => absurd rfl h, fun _ => ⟨fun h => absurd rfl h, fun _ => loop0 (by omega) (by omega) (nextI _ _ s' A')⟩⟩⟩
    · obtain ⟨e1, e2⟩ := outC (not_now hsorted (.inl hf))
      refine lk _ fun w' o' s' A' => ?_
      rw [e1, e2]
      exact ⟨fun h => absurd rfl h, fun _ => ⟨fun h => absurd rfl h, fun _ => ⟨fun h => absurd rfl h, fun _ => loop0 (by omega) (by omega) (nextI _ _ s' A')⟩⟩⟩
  · obtain rfl : t = 4 := by omega
    exact ⟨by omega, by omega, hI _ _ R' s182 A182 (fun i hi => by rw [hR' i, if_pos hi]) k182⟩
end
end Go.Proofs.Ytaifegpikhjiiaa

/- Epochs: a change brought back, and two changes compared (as in MemT and MemW). -/
set_option linter.unusedVariables false
set_option linter.unusedSimpArgs false
set_option maxRecDepth 20000
set_option maxHeartbeats 4000000
namespace Go.Proofs.Ytaifegpikhjiiaa
open Go Go.Mx Go.Proofs
section
variable {w w' w1 : World} {o o' o1 : Own} {a : Option Addr} {c N : Nat} {l : List Wr} {cs : List Value} {cg : Chg} {wa oa : Option Addr} {wc oc : Nat}
abbrev VRow (N : Nat) (w : World) (o : Own) (a : Option Addr) (c : Nat) (l : List Wr) : Prop := LRow 119 2 N w o a l.length c (l.flatMap Wr.C)
theorem Back_spec (ok : Tags w o) (hr : Row w o wa (l.flatMap Wr.C)) (hw : cg.ws = l.map Wr.p) (hl : l.length < 1000000) :
    Calls Try.prog 15 #[chgV cg wa wc oa oc] w (fun x w' => ∃ o' wa' wc', x = .returned (chgV cg wa' wc' oa oc) ∧ Step no w o w' o' ∧ Row w' o' wa' (l.flatMap Wr.C) ∧ l.length ≤ wc') := by
  have hlen : cg.ws.length = l.length := by rw [hw]; simp
  refine (cachettelaw12_Back.go cg.kd cg.who cg.pub cg.lim wa cg.ws.length wc oa cg.old.length oc (R := fun v w' => ∃ o' wa' wc', v = (chgV cg wa' wc' oa oc) ∧ Step no w o w' o' ∧ Row w' o' wa' (l.flatMap Wr.C) ∧ l.length ≤ wc') ?_).mono fun x w' ⟨v, he, o', a', c', hv, hw⟩ => ⟨o', a', c', by rw [he, hv], hw⟩
  unfold cachettelaw12_Back.N
  intro w15 p16 p17 p18 X15 hp
  obtain ⟨s15, M15⟩ := Step.priv X15 hp ok
  have g : ∀ p ∈ [p16, p17, p18], w.heap.size ≤ p := fun p h => (hp p h).1
  have hM15 : ∀ p ∈ [p16, p17, p18], p < w15.heap.size := fun p h => M15.lt h
  rw [hlen]
  refine ⟨fun m vs w1 => ∃ (t : Nat) (a1 : Option Addr) (c1 : Nat) (o1 : Own), vs = [.int .i64 t, .int .i64 0, .int .i64 0, .int .u64 0, .int .i64 0, .slice none 0 0, .slice none 0 0, .int .i64 cg.kd, .int .i64 cg.who, .int .u64 cg.pub, .int .i64 cg.lim, .slice a1 (l.take t).length c1, .slice oa cg.old.length oc] ∧ m + t = l.length ∧ Step no w o w1 o1 ∧ Step (fun j => w15.heap.size ≤ j ∨ j ∈ [p16, p17, p18]) w15 (tags w o [p16, p17, p18]) w1 o1 ∧ VRow w15.heap.size w1 o1 a1 c1 (l.take t), l.length, ⟨0, none, 0, _, rfl, rfl, s15, Step.refl _ s15.ok, LRow.nil _ _ _ _ _⟩, ?_⟩
  intro m w1 i0 k1 k2 k3 k4 k5a k5n k5c k6a k6n k6c k7 k8 k9 k10 k11a k11n k11c k12a k12n k12c hI
  obtain ⟨t, a1, c1, o1, hi, hm, s1, s15', r1⟩ := hI
  simp only [List.cons.injEq, Value.slice.injEq, Value.int.injEq, true_and, and_true] at hi
  obtain ⟨rfl, rfl, rfl, rfl, rfl, ⟨rfl, rfl, rfl⟩, ⟨rfl, rfl, rfl⟩, rfl, rfl, rfl, rfl, ⟨rfl, rfl, rfl⟩, ⟨rfl, rfl, rfl⟩⟩ := hi
  have M1 := M15.step s15'
  refine ⟨fun ht => ?_, fun ht w53 X53 => ?_⟩
  · have htl : t < l.length := by omega
    have hg : l[t]? = some l[t] := List.getElem?_eq_getElem htl
    have htk : l.take (t + 1) = l.take t ++ [l[t]] := by rw [List.take_add_one, hg]; rfl
    generalize l[t] = x at *
    obtain ⟨ad, rfl⟩ := hr.1.faddr Wr.len (by decide) htl
    have hr1 := (hr.step s1).1
    refine ⟨ad, rfl, by omega, by omega, x.who, by rw [Int.toNat_natCast]; exact hr1.fcell Wr.len hg 0 rfl, by omega, by omega, x.a, x.b.length, x.c, by rw [Int.toNat_natCast]; exact hr1.fcell Wr.len hg 1 rfl, fun w42 q43 X42 hb hq hq' => ?_⟩
    have s42 := Step.of_no X42 s1.ok
    have r42 : VRow w15.heap.size w42 _ k11a k11c (l.take t) := LRow.step r1 s42 fun k h => h.elim
    obtain ⟨i, hi, hz, hsz, hby⟩ := info_of inf119
    have h15 := s15'.size
    obtain ⟨a', c', w45, o45, hrun, s45, hrow, _⟩ := LRow.push (ty := 28) Try.underlying28 hi hz hsz hby rfl (by decide) r42 s42.ok (p := q43) (by omega) hq' (xa := some (blk q43)) (m := 1) (xc := 1) (news := x.C) rfl (RowAt.of_blk hb) (fun u hu => by
      simp only [Wr.C, List.mem_cons, List.not_mem_nil, or_false] at hu
      rcases hu with rfl | rfl <;> rfl) (by rw [List.length_take]; omega) (by rw [List.length_take]; omega)
    refine ⟨a', _, c', w45, hrun, (M1.step s42).keep s45 (fun p hp' => by have := hM15 p hp'; omega), by omega, by omega, fun w46 X46 => ?_⟩
    have s46 := Step.stores X46 s45.ok ((((M1.step s42).step s45)).sub (M := [p18]) (by simp)) (by simp)
    have r46 := hrow.step s46 fun k hk => .inl (hM15 k (by simp at hk ⊢; omega))
    have h15w := s15.size
    have hcells : (l.take t).flatMap Wr.C ++ x.C = (l.take (t + 1)).flatMap Wr.C := by rw [htk]; simp
    have hlen2 : (l.take t).length + 1 = (l.take (t + 1)).length := by rw [htk]; simp
    rw [hcells, hlen2] at r46
    refine ⟨m - 1, by omega, t + 1, a', c', _, by rw [← hlen2]; rfl, by omega, ((s1.trans s42).trans' s45 fun j hj => .inr (by omega)).trans' s46 fun j hj => .inr (g j (by simp at hj ⊢; omega)), (s15'.trans (s42.none.trans (s45.mono fun j hj _ => .inl hj))).trans (s46.mono fun j hj _ => .inr (by simp at hj ⊢; omega)), r46⟩
  · have htt : t = l.length := by omega
    subst htt
    rw [List.take_length] at r1 ⊢
    have s53 := Step.stores X53 s1.ok (M1.sub (M := [p17]) (by simp)) (by simp)
    have sF : Step no w o w53 _ := s1.trans' s53 fun j hj => .inr (g j (by simp at hj ⊢; omega))
    have r53 : VRow w15.heap.size w53 _ k11a k11c l := LRow.step r1 s53 fun k hk => .inl (hM15 k (by simp at hk ⊢; omega))
    refine ⟨_, k11a, k11c, ?_, noStep (K := no) sF, r53.give sF s15.size, r53.le⟩
    unfold chgV
    rw [hlen]
end
end Go.Proofs.Ytaifegpikhjiiaa

/- Epochs: what EpochsShared does between an epoch's change and the rings. -/
set_option linter.unusedVariables false
set_option linter.unusedSimpArgs false
set_option maxRecDepth 20000
set_option maxHeartbeats 4000000
namespace Go.Proofs.Ytaifegpikhjiiaa
open Go Go.Mx Go.Proofs
section
variable {w w' w1 w2 : World} {o o' o1 : Own} {q k p N m n i b : Nat} {K : Nat → Prop} {X : WD} {S T : OS} {R M : Nat → RS}
theorem shMid_ok {K : List Int} {O : List (List UInt8)} (P : PI X S R K O) (hl : S.used.length < 10000000) (hep : X.sm.ep + 1 < 20) {wa oa : Option Addr} {wc oc : Nat} {l : List Wr} {nn : Nat}
    (A : All w o q { X with last := (beginK S X.sm X.last).2.1, sm := ⟨X.sm.ml, X.sm.ep + 1⟩ } (beginK S X.sm X.last).2.2 T nn R M) (ok : Tags w o) (hC : CH w o (beginK S X.sm X.last).1 wa wc l oa oc) {La : Option Addr} {Lc : Nat}
    (hrow : Row w o La (X.sm.ml.flatMap Mem.C)) {ka : Option Addr} {kc : Nat} (hk : KRw w o b ka kc (K ++ [(beginK S X.sm X.last).2.1])) (hb : Off b q X) (hbN : b < N) {p1 p2 : Nat} (hM : Mine [p1, p2] w o)
    (u : Under q X N) (h1 : N ≤ p1) (h2 : N ≤ p2) (hN : N ≤ w.heap.size) {I0 : Nat → List Value → World → Prop} {m17 : Nat} {i15 : Int} (hi0 : 0 ≤ i15) (hi1 : i15 < 1000) {Φ : Value → World → Prop}
    (hI : ∀ w' o' R', Step allK w o w' o' → All w' o' q { X with last := (beginK S X.sm X.last).2.1, sm := ⟨X.sm.ml, X.sm.ep + 1⟩, tm := ⟨X.sm.ml, X.sm.ep + 1⟩ } (beginK S X.sm X.last).2.2 T nn R' M → (∀ i, i < 4 → R' i = (learnK (beginK S X.sm X.last).2.2 (R i) (beginK S X.sm X.last).1).1) →
      KRw w' o' b ka kc (K ++ [(beginK S X.sm X.last).2.1]) → ∃ m, m < m17 ∧ I0 m [.slice ka (K ++ [(beginK S X.sm X.last).2.1]).length kc, .int .i64 (i15 + 1)] w') :
    shMid q (beginK S X.sm X.last).1.kd (beginK S X.sm X.last).1.who (beginK S X.sm X.last).1.pub (beginK S X.sm X.last).1.lim wa (beginK S X.sm X.last).1.ws.length wc oa (beginK S X.sm X.last).1.old.length oc (beginK S X.sm X.last).2.1 La X.sm.ml.length Lc (X.sm.ep + 1)
      ka (K ++ [(beginK S X.sm X.last).2.1]).length kc p1 p2 I0 m17 i15 Φ w := by
  have B := P.begin hl
  have happ : applyM X.sm (beginK S X.sm X.last).1 = (⟨X.sm.ml, X.sm.ep + 1⟩, 0) := by rw [B.app, if_neg (by omega)]
  have hqN := u.q
  have u2 : Under q { X with last := (beginK S X.sm X.last).2.1, sm := ⟨X.sm.ml, X.sm.ep + 1⟩ } N := ⟨u.q, u.k, u.j, u.r, u.m⟩
  obtain ⟨ta, tc, hct, htr, htc⟩ := A.wd.t
  have hst : ({ X with last := (beginK S X.sm X.last).2.1, sm := ⟨X.sm.ml, X.sm.ep + 1⟩ } : WD).tm = X.sm := P.st
  rw [hst] at hct htr htc
  have tail : ∀ {w2 : World} {o2 : Own} {Ta : Option Addr} {Tc : Nat}, Step (fun j => N ≤ j) w o w2 o2 → Mine [p1, p2] w2 o2 → Row w2 o2 Ta (X.sm.ml.flatMap Mem.C) → X.sm.ml.length ≤ Tc →
      shTail q (beginK S X.sm X.last).1.kd (beginK S X.sm X.last).1.who (beginK S X.sm X.last).1.pub (beginK S X.sm X.last).1.lim wa (beginK S X.sm X.last).1.ws.length wc oa (beginK S X.sm X.last).1.old.length oc (beginK S X.sm X.last).2.1 La X.sm.ml.length Lc (X.sm.ep + 1)
      ka (K ++ [(beginK S X.sm X.last).2.1]).length kc p1 p2 Ta X.sm.ml.length Tc (X.sm.ep + 1) I0 m17 i15 Φ w2 := fun s M2 r c =>
    shTail_ok P hl hep (A.far u2 s fun _ h => h) s.ok (hC.step s) (hrow.step s) r c (hk.step s fun h => by omega) hb M2 u h1 h2 hi0 hi1 fun w' o' R' s' => hI w' o' R' ((sTop s).trans s')
  unfold shMid
  refine ⟨ta, _, tc, _, hct, fun w156 L155 X156 hp156 => ?_, fun w157 L156 X157 hp157 => ?_⟩
  · obtain ⟨s156, M156⟩ := Step.priv X156 hp156 ok
    have A156 := A.no s156
    have hL : ∀ j, j ∈ L155 → N ≤ j := fun j hj => by have := (hp156 j hj).1; omega
    refine (Back_spec s156.ok ((hC.step s156).ws) hC.m.symm hC.n).mono fun x w164 ⟨o164, wa', wc', he, s164, r164, hwc⟩ => ⟨_, _, _, _, _, _, _, _, _, _, he, M156.keep s164 (fun _ _ => id), ((hM.step s156).keep s164 fun _ _ => id), A156.wd.cells s164 id (A.wd.cells s156 id hct), fun w167 L166 X167 hp167 => ?_, fun w297 p167 X297 hp297 => ?_⟩
    · obtain ⟨s167, M167⟩ := Step.join X167 s164.ok (M156.step s164) hp167
      have hL166 : ∀ j, j ∈ L166 → N ≤ j := fun j hj => by
        rcases (hp167 j hj).1 with h | h
        · exact hL _ h
        · have := s156.size; have := s164.size; omega
      have sA : Step (fun j => N ≤ j) w o w167 _ := ((Step.anyK s156).trans' s164 fun j h => h.elim).trans' s167 fun j h => .inl (hL j h)
      refine (rApply_spec (cg := (beginK S X.sm X.last).1) (((htr.step s156).step s164).step s167) s167.ok P.ok htc (r164.step s167) hC.m hC.n hC.ol).mono fun x w172 ⟨o172, a172, c172, he, s172, r172, hc172⟩ => ?_
      rw [happ] at he r172 hc172
      refine ⟨_, _, _, _, _, he, M167.keep s172 (fun _ _ => id), (((hM.step s156).step s164).step s167).keep s172 (fun _ _ => id), fun w295 X295 => ?_⟩
      have s295 := Step.joins X295 s172.ok (M167.step s172)
      have sB : Step (fun j => N ≤ j) w o w295 _ := (sA.trans' s172 fun j h => h.elim).trans' s295 fun j h => .inl (hL166 j h)
      exact tail sB (hM.step sB) (r172.step s295) hc172
    · obtain ⟨s297, M297⟩ := Step.join X297 s164.ok (M156.step s164) hp297
      have hge : N ≤ p167 := by
        rcases (hp297 p167 (by simp)).1 with h | h
        · exact hL _ h
        · have := s156.size; have := s164.size; omega
      have sA : Step (fun j => N ≤ j) w o w297 _ := ((Step.anyK s156).trans' s164 fun j h => h.elim).trans' s297 fun j h => .inl (hL j h)
      refine ⟨(A156.no s164).wd.cells s297 (fun h => by have := hL _ h; omega) (A156.wd.cells s164 id (A.wd.cells s156 id hct)), fun w170 L169 X170 hp170 => ?_⟩
      obtain ⟨s170, M170⟩ := Step.priv X170 hp170 s297.ok
      have hL169 : ∀ j, j ∈ L169 → N ≤ j := fun j hj => by have := (hp170 j hj).1; have := sA.size; omega
      have sA2 : Step (fun j => N ≤ j) w o w170 _ := sA.trans' s170 fun j h => h.elim
      refine (rApply_spec (cg := (beginK S X.sm X.last).1) ((((htr.step s156).step s164).step s297).step s170) s170.ok P.ok htc ((r164.step s297).step s170) hC.m hC.n hC.ol).mono fun x w175 ⟨o175, a175, c175, he, s175, r175, hc175⟩ => ?_
      rw [happ] at he r175 hc175
      have M3 : Mine [p1, p2, p167] w170 _ := fun p hp => by
        rcases List.mem_cons.1 hp with rfl | hp
        · exact (hM.step sA2) _ (by simp)
        · rcases List.mem_cons.1 hp with rfl | hp
          · exact (hM.step sA2) _ (by simp)
          · exact (M297.step s170) _ hp
      refine ⟨_, _, _, _, _, he, M170.keep s175 (fun _ _ => id), M3.keep s175 (fun _ _ => id), fun w296 X296 w177 X177 => ?_⟩
      have s296 := Step.joins X296 s175.ok (M170.step s175)
      have s177 : Step (fun j => j ∈ [p167]) w296 _ w177 _ := Step.stores X177 s296.ok (((M3.step s175).step s296).sub (M := [p167]) (by simp)) (fun b hb => by simp [hb])
      have sB : Step (fun j => N ≤ j) w o w177 _ := ((sA2.trans' s175 fun j h => h.elim).trans' s296 fun j h => .inl (hL169 j h)).trans' s177 fun j hj => .inl (by simp at hj; rw [hj]; exact hge)
      exact tail sB (hM.step sB) ((r175.step s296).step s177) hc175
  · obtain ⟨s157, M157⟩ := Step.priv X157 hp157 ok
    have A157 := A.no s157
    have hL : ∀ j, j ∈ L156 → N ≤ j := fun j hj => by have := (hp157 j hj).1; omega
    refine (Back_spec s157.ok ((hC.step s157).ws) hC.m.symm hC.n).mono fun x w165 ⟨o165, wa', wc', he, s165, r165, hwc⟩ => ⟨_, _, _, _, _, _, _, _, _, _, he, M157.keep s165 (fun _ _ => id), ((hM.step s157).keep s165 fun _ _ => id), A157.wd.cells s165 id (A.wd.cells s157 id hct), fun w168 L167 X168 hp168 => ?_⟩
    obtain ⟨s168, M168⟩ := Step.join X168 s165.ok (M157.step s165) hp168
    have hL167 : ∀ j, j ∈ L167 → N ≤ j := fun j hj => by
      rcases (hp168 j hj).1 with h | h
      · exact hL _ h
      · have := s157.size; have := s165.size; omega
    have sA : Step (fun j => N ≤ j) w o w168 _ := ((Step.anyK s157).trans' s165 fun j h => h.elim).trans' s168 fun j h => .inl (hL j h)
    refine (rApply_spec (cg := (beginK S X.sm X.last).1) (((htr.step s157).step s165).step s168) s168.ok P.ok htc (r165.step s168) hC.m hC.n hC.ol).mono fun x w173 ⟨o173, a173, c173, he, s173, r173, hc173⟩ => ?_
    rw [happ] at he r173 hc173
    refine ⟨_, _, _, _, _, he, M168.keep s173 (fun _ _ => id), (((hM.step s157).step s165).step s168).keep s173 (fun _ _ => id), fun w295 X295 => ?_⟩
    have s295 := Step.joins X295 s173.ok (M168.step s173)
    have sB : Step (fun j => N ≤ j) w o w295 _ := (sA.trans' s173 fun j h => h.elim).trans' s295 fun j h => .inl (hL167 j h)
    exact tail sB (hM.step sB) (r173.step s295) hc173
end
end Go.Proofs.Ytaifegpikhjiiaa
