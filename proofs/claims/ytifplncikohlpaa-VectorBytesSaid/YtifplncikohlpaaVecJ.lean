/- VectorBytes: what the law's function answers. -/
import Derived.Test.YtifplncikohlpaaVecI
import Derived.Test.YtifplncikohlpaaVecG
set_option linter.unusedVariables false
set_option linter.unusedSimpArgs false
set_option maxRecDepth 20000
namespace Go.Proofs.Ytifplncikohlpaa
open Go Go.Mx Go.Proofs
open W (OwnB Rd GivesW numR countR doneR)
/-- cachetteref05.Take -/
def rTake5.M (r1 : Option Addr) (R : Value → World → Prop) (w : World) : Prop :=
  Calls Try.prog 40 #[.pointer r1, .int .i64 8] w fun ee3 ww4 => ∃ (count2 : Int), ee3 = .returned (.int .i64 count2) ∧
  ∃ (I0 : Nat → List Value → World → Prop) (m7 : Nat), I0 m7 [.slice none 0 0, .int .i64 0] ww4 ∧ ∀ (m8 : Nat) (ww9 : World) (outv5a : Option Addr) (outv5n : Nat) (outv5c : Nat) (i6 : Int), I0 m8 [.slice outv5a outv5n outv5c, .int .i64 i6] ww9 →
  bif decide (i6 < count2) then (
  r1.elim False fun a10 =>
  ∃ (Kv11 : Int), ww9.cell? (a10.add 1) = some (.int .i64 Kv11) ∧
  bif Kv11 == 0 then (
  Calls Try.prog 40 #[.pointer r1, .int .i64 7] ww9 fun ee13 ww14 => ∃ (count12 : Int), ee13 = .returned (.int .i64 count12) ∧
  Calls Try.prog 40 #[.pointer r1, .int .i64 200] ww14 fun ee16 ww17 => ∃ (count15 : Int), ee16 = .returned (.int .i64 count15) ∧
  Calls Try.prog 41 #[.pointer r1] ww17 fun ee19 ww20 => ∃ (num18 : Int), ee19 = .returned (.int .u64 num18) ∧
  thenW (ww20.alloc (.cells #[.int .i64 count12, .int .i64 count15, .int .u64 num18] 44)) fun ww21 =>
  ∃ (a22a : Option Addr) (a22n : Nat) (a22c : Nat) (ww23 : World), (Builtin.append_ #[22, 22] 22 #[.slice outv5a outv5n outv5c, .slice (some (blk ww20.heap.size)) 1 1]).run Try.prog ww21 = .ok (.slice a22a a22n a22c) ww23 ∧
  ∃ m24, m24 < m8 ∧ I0 m24 [.slice a22a a22n a22c, .int .i64 (IntKind.i64.wrap (i6 + 1))] ww23) else (
  R (.slice outv5a outv5n outv5c) ww9)) else (
  R (.slice outv5a outv5n outv5c) ww9)

theorem rTake5.eq (r1 : Option Addr) (R : Value → World → Prop) (w : World) : mfunc Try.prog [(0, [0, 3], [(4, (.one .slice)), (5, (.one (.int .i64)))])] 29 [.pointer r1] R w = rTake5.M r1 R w := by kernel_rfl
theorem rTake5.ok (r1 : Option Addr) {R : Value → World → Prop} {w : World} (h : rTake5.M r1 R w) : Calls Try.prog 29 #[.pointer r1] w fun e w' => ∃ v, e = .returned v ∧ R v w' :=
  mfunc_ok follows (H := [(0, [0, 3], [(4, (.one .slice)), (5, (.one (.int .i64)))])]) (args := [.pointer r1]) (by rw [rTake5.eq]; exact h)

/-- cachetteref05.Read -/
def rRead5.M (b1a : Option Addr) (b1n : Nat) (b1c : Nat) (R : Value → World → Prop) (w : World) : Prop :=
  thenW (w.alloc (.cells #[.slice b1a b1n b1c, .int .i64 0] 60)) fun ww2 =>
  Calls Try.prog 29 #[.pointer (some (blk w.heap.size))] ww2 fun ee4 ww5 => ∃ (take3a : Option Addr) (take3n : Nat) (take3c : Nat), ee4 = .returned (.slice take3a take3n take3c) ∧
  Calls Try.prog 30 #[.pointer (some (blk w.heap.size))] ww5 fun ee7 ww8 => ∃ (done6 : Int), ee7 = .returned (.int .i64 done6) ∧
  bif done6 != 0 then (
  R (.tuple #[.slice none 0 0, .int .i64 done6]) ww8) else (
  Calls Try.prog 23 #[.slice take3a take3n take3c] ww8 fun ee10 ww11 => ∃ (right9 : Bool), ee10 = .returned (.bool right9) ∧
  bif !right9 then (
  R (.tuple #[.slice none 0 0, .int .i64 4]) ww11) else (
  R (.tuple #[.slice take3a take3n take3c, .int .i64 0]) ww11))

theorem rRead5.eq (b1a : Option Addr) (b1n : Nat) (b1c : Nat) (R : Value → World → Prop) (w : World) : mfunc Try.prog [] 14 [.slice b1a b1n b1c] R w = rRead5.M b1a b1n b1c R w := by kernel_rfl
theorem rRead5.ok (b1a : Option Addr) (b1n : Nat) (b1c : Nat) {R : Value → World → Prop} {w : World} (h : rRead5.M b1a b1n b1c R w) : Calls Try.prog 14 #[.slice b1a b1n b1c] w fun e w' => ∃ v, e = .returned v ∧ R v w' :=
  mfunc_ok follows (H := []) (args := [.slice b1a b1n b1c]) (by rw [rRead5.eq]; exact h)

/-- cachettelaw05.VectorBytes -/
def lBytes.M (v1a : Option Addr) (v1n : Nat) (v1c : Nat) (b2a : Option Addr) (b2n : Nat) (b2c : Nat) (R : Value → World → Prop) (w : World) : Prop :=
  thenW (w.alloc (.cells #[.slice v1a v1n v1c] 22)) fun ww3 =>
  Calls Try.prog 6 #[.slice (some (blk w.heap.size)) 1 1] ww3 fun ee5 ww6 => ∃ (light4 : Bool), ee5 = .returned (.bool light4) ∧
  bif !light4 then (
  Calls Try.prog 7 #[] ww6 fun ee8 ww9 => ∃ (alive7 : Bool), ee8 = .returned (.bool alive7) ∧
  R (.bool alive7) ww9) else (
  bif decide ((b2n : Int) > 500) then (
  Calls Try.prog 7 #[] ww6 fun ee11 ww12 => ∃ (alive10 : Bool), ee11 = .returned (.bool alive10) ∧
  R (.bool alive10) ww12) else (
  Calls Try.prog 11 #[.slice v1a v1n v1c] ww6 fun ee15 ww16 => ∃ (bytes13a : Option Addr) (bytes13n : Nat) (bytes13c : Nat) (bytes14 : Int), ee15 = .returned (.tuple #[.slice bytes13a bytes13n bytes13c, .int .i64 bytes14]) ∧
  Calls Try.prog 12 #[.slice v1a v1n v1c] ww16 fun ee19 ww20 => ∃ (bytes17a : Option Addr) (bytes17n : Nat) (bytes17c : Nat) (bytes18 : Int), ee19 = .returned (.tuple #[.slice bytes17a bytes17n bytes17c, .int .i64 bytes18]) ∧
  Calls Try.prog 13 #[.slice b2a b2n b2c] ww20 fun ee23 ww24 => ∃ (read21a : Option Addr) (read21n : Nat) (read21c : Nat) (read22 : Int), ee23 = .returned (.tuple #[.slice read21a read21n read21c, .int .i64 read22]) ∧
  Calls Try.prog 14 #[.slice b2a b2n b2c] ww24 fun ee27 ww28 => ∃ (read25a : Option Addr) (read25n : Nat) (read25c : Nat) (read26 : Int), ee27 = .returned (.tuple #[.slice read25a read25n read25c, .int .i64 read26]) ∧
  Calls Try.prog 15 #[.slice bytes13a bytes13n bytes13c, .slice bytes17a bytes17n bytes17c] ww28 fun ee30 ww31 => ∃ (same29 : Bool), ee30 = .returned (.bool same29) ∧
  bif same29 then (
  bif bytes14 == bytes18 then (
  Calls Try.prog 16 #[.slice read21a read21n read21c, .slice read25a read25n read25c] ww31 fun ee33 ww34 => ∃ (same32 : Bool), ee33 = .returned (.bool same32) ∧
  bif same32 then (
  bif read22 == read26 then (
  Calls Try.prog 7 #[] ww34 fun ee36 ww37 => ∃ (alive35 : Bool), ee36 = .returned (.bool alive35) ∧
  R (.bool alive35) ww37) else (
  R (.bool false) ww34)) else (
  R (.bool false) ww34)) else (
  R (.bool false) ww31)) else (
  R (.bool false) ww31)))

theorem lBytes.eq (v1a : Option Addr) (v1n : Nat) (v1c : Nat) (b2a : Option Addr) (b2n : Nat) (b2c : Nat) (R : Value → World → Prop) (w : World) : mfunc Try.prog [] 4 [.slice v1a v1n v1c, .slice b2a b2n b2c] R w = lBytes.M v1a v1n v1c b2a b2n b2c R w := by kernel_rfl
theorem lBytes.ok (v1a : Option Addr) (v1n : Nat) (v1c : Nat) (b2a : Option Addr) (b2n : Nat) (b2c : Nat) {R : Value → World → Prop} {w : World} (h : lBytes.M v1a v1n v1c b2a b2n b2c R w) : Calls Try.prog 4 #[.slice v1a v1n v1c, .slice b2a b2n b2c] w fun e w' => ∃ v, e = .returned v ∧ R v w' :=
  mfunc_ok follows (H := []) (args := [.slice v1a v1n v1c, .slice b2a b2n b2c]) (by rw [lBytes.eq]; exact h)


/-- the reference stops where something is wrong. -/
def takeF : Nat → List Hd → List UInt8 × Int → List Hd × (List UInt8 × Int)
  | 0, hs, s => (hs, s)
  | n + 1, hs, s =>
    if s.2 = 0 then takeF n (hs ++ [(((countR 7 s).1 : Int), (((countR 200 (countR 7 s).2).1 : Int), ((numR (countR 200 (countR 7 s).2).2).1 : Int)))]) (numR (countR 200 (countR 7 s).2).2).2 else (hs, s)
theorem numR_stuck {s : List UInt8 × Int} (h : s.2 ≠ 0) : numR s = (0, s) := by unfold numR; rw [if_neg h]
theorem countR_stuck {s : List UInt8 × Int} {m : Int} (h : s.2 ≠ 0) : countR m s = (0, s) := by
  unfold countR; rw [numR_stuck h, if_neg h]
theorem readF_stuck : ∀ (n : Nat) (hs : List Hd) (s : List UInt8 × Int), s.2 ≠ 0 → (readF n hs s).2 = s
  | 0, hs, s, h => rfl
  | n + 1, hs, s, h => by
    simp only [readF]
    rw [countR_stuck h]
    simp only []
    rw [countR_stuck h]
    simp only []
    rw [numR_stuck h]
    exact readF_stuck n _ s h
theorem take_read : ∀ (n : Nat) (hs : List Hd) (s : List UInt8 × Int), ((readF n hs s).2.2 = 0 → takeF n hs s = readF n hs s) ∧ ((readF n hs s).2.2 ≠ 0 → (takeF n hs s).2.2 = (readF n hs s).2.2)
  | 0, hs, s => ⟨fun _ => rfl, fun _ => rfl⟩
  | n + 1, hs, s => by
    by_cases h : s.2 = 0
    · have ih := take_read n (hs ++ [(((countR 7 s).1 : Int), (((countR 200 (countR 7 s).2).1 : Int), ((numR (countR 200 (countR 7 s).2).2).1 : Int)))]) (numR (countR 200 (countR 7 s).2).2).2
      simp only [takeF, readF]
      rw [if_pos h]
      exact ih
    · have hst := readF_stuck (n + 1) hs s h
      simp only [takeF]
      rw [if_neg h, hst]
      exact ⟨fun e => absurd e h, fun _ => rfl⟩
def takeAll (b : List UInt8) : List Hd × (List UInt8 × Int) := takeF (countR 8 (b, 0)).1 [] (countR 8 (b, 0)).2
def refV (b : List UInt8) : List Hd × Int :=
  if doneR (takeAll b).2 ≠ 0 then ([], doneR (takeAll b).2) else if rightV (takeAll b).1 then ((takeAll b).1, 0) else ([], 4)
theorem refV_eq (b : List UInt8) : refV b = readV b := by
  obtain ⟨h1, h2⟩ := take_read (countR 8 (b, 0)).1 [] (countR 8 (b, 0)).2
  unfold refV readV takeAll readAll
  by_cases h : (readF (countR 8 (b, 0)).1 [] (countR 8 (b, 0)).2).2.2 = 0
  · rw [h1 h]
  · have h3 := h2 h
    have e1 : doneR (takeF (countR 8 (b, 0)).1 [] (countR 8 (b, 0)).2).2 = (readF (countR 8 (b, 0)).1 [] (countR 8 (b, 0)).2).2.2 := by unfold doneR; rw [h3, if_neg h]
    have e2 : doneR (readF (countR 8 (b, 0)).1 [] (countR 8 (b, 0)).2).2 = (readF (countR 8 (b, 0)).1 [] (countR 8 (b, 0)).2).2.2 := by unfold doneR; rw [if_neg h]
    rw [e1, e2, if_pos h, if_pos h]
section
variable {w w' : World} {a : Option Addr} {c : Nat} {p : Nat}
theorem rTake_spec {b : List UInt8} (hR4 : RdR w p b 0) (hl : b.length < 1000000) :
    Calls Try.prog 29 #[.pointer (some (blk p))] w (fun e w' => ∃ ra rc, e = .returned (.slice ra (takeAll b).1.length rc) ∧ OwnH (p + 1) w' ra rc (takeAll b).1 ∧ RdR w' p (takeAll b).2.1 (takeAll b).2.2 ∧ Ext (fun q => p ≤ q) w w' ∧ (takeAll b).1.length ≤ 8) := by
  refine (rTake5.ok _ (R := fun v w' => ∃ ra rc, v = .slice ra (takeAll b).1.length rc ∧ OwnH (p + 1) w' ra rc (takeAll b).1 ∧ RdR w' p (takeAll b).2.1 (takeAll b).2.2 ∧ Ext (fun q => p ≤ q) w w' ∧ (takeAll b).1.length ≤ 8) ?_).mono fun e w' ⟨v, he, ra, rc, hv, hw⟩ => ⟨ra, rc, by rw [he, hv], hw⟩
  unfold rTake5.M
  have up : ∀ {w1 w2 : World}, Ext (fun q => p ≤ q) w w1 → Ext (fun b => b = p) w1 w2 → Ext (fun q => p ≤ q) w w2 := fun h k => h.trans (k.mono fun q hq _ => by omega)
  refine (rCount_spec hR4 hl (m := 8) (by decide) (by decide)).mono fun e w7 ⟨he, hR7, x7'⟩ => ⟨_, he, ?_⟩
  have x7 := up (Ext.refl _ _) x7'
  have hn8 := count_le 8 (b, 0) (by decide)
  have hcl : (countR 8 (b, 0)).2.1.length ≤ b.length := W.countR_len 8 (b, 0)
  refine ⟨fun k vs w1 => ∃ (t : Nat) (va : Option Addr) (vc : Nat) (l : List Hd) (s : List UInt8 × Int), vs = [.slice va l.length vc, .int .i64 t] ∧ k + t = (countR 8 (b, 0)).1 ∧ l.length = t ∧ RdR w1 p s.1 s.2 ∧ s.1.length ≤ b.length ∧ OwnH (p + 1) w1 va vc l ∧ (∀ ad, va = some ad → ad.block ≠ p) ∧ takeF k l s = takeAll b ∧ Ext (fun q => p ≤ q) w w1, (countR 8 (b, 0)).1,
    ⟨0, none, 0, [], (countR 8 (b, 0)).2, rfl, rfl, rfl, hR7, hcl, ⟨owns_nil _ _ _, fun ad ha => by cases ha⟩, (fun ad ha => by cases ha), rfl, x7⟩, ?_⟩
  rintro k w12 v0 n0 c0 i ⟨t, va, vc, l, s, hvs, hk, hlt2, hR, hsl, hO, hOp, hF, hx⟩
  simp only [List.cons.injEq, Value.int.injEq, Value.slice.injEq, true_and, and_true] at hvs
  obtain ⟨⟨rfl, rfl, rfl⟩, rfl⟩ := hvs
  cases k with
  | zero =>
    rw [show decide ((t : Int) < ((countR 8 (b, 0)).1 : Int)) = false by simp; omega, cond_false]
    simp only [takeF] at hF
    rw [← hF]
    exact ⟨_, _, rfl, hO, hR, hx, by show l.length ≤ 8; omega⟩
  | succ k =>
    rw [show decide ((t : Int) < ((countR 8 (b, 0)).1 : Int)) = true by simp; omega, cond_true]
    obtain ⟨ar, cr, g1, _⟩ := id hR
    refine ⟨_, g1.cella (i := 1) rfl, ?_⟩
    simp only [takeF] at hF
    by_cases hs0 : s.2 = 0
    · rw [beq_iff_eq.2 hs0, cond_true]
      rw [if_pos hs0] at hF
      refine (rCount_spec hR (Nat.lt_of_le_of_lt hsl hl) (m := 7) (by decide) (by decide)).mono fun e w16 ⟨he, hR16, x16'⟩ => ⟨_, he, ?_⟩
      have l16 : (countR 7 (s.1, s.2)).2.1.length ≤ s.1.length := W.countR_len 7 (s.1, s.2)
      have hO16 := hO.ext x16' hOp
      refine (rCount_spec hR16 (Nat.lt_of_le_of_lt (Nat.le_trans l16 hsl) hl) (m := 200) (by decide) (by decide)).mono fun e w20 ⟨he, hR20, x20'⟩ => ⟨_, he, ?_⟩
      have l20 : (countR 200 (countR 7 (s.1, s.2)).2).2.1.length ≤ (countR 7 (s.1, s.2)).2.1.length := W.countR_len 200 (countR 7 (s.1, s.2)).2
      have hO20 := hO16.ext x20' hOp
      refine (rRNum_spec hR20 (Nat.lt_of_le_of_lt (Nat.le_trans l20 (Nat.le_trans l16 hsl)) hl)).mono fun e w24 ⟨he, hR24, x24'⟩ => ⟨_, he, ?_⟩
      have l24 : (numR (countR 200 (countR 7 (s.1, s.2)).2).2).2.1.length ≤ (countR 200 (countR 7 (s.1, s.2)).2).2.1.length := W.numR_len (countR 200 (countR 7 (s.1, s.2)).2).2
      have hO24 := hO20.ext x24' hOp
      have x24 := up (up (up hx x16') x20') x24'
      refine thenW_in fun w29 h29 => ?_
      have x29' : Ext no w24 w29 := by subst h29; exact (Ext.refl _ _).alloc _
      have hb29 : Blk w29 w24.heap.size 44 (hdC ((countR 7 (s.1, s.2)).1, (countR 200 (countR 7 (s.1, s.2)).2).1, (numR (countR 200 (countR 7 (s.1, s.2)).2).2).1)) := by subst h29; exact Blk.new _ _ _
      have hpl : p < w24.heap.size := RdR.lt hR24
      obtain ⟨a', c', w31, hrun, hO31, x31', hblk⟩ := (hO24.ext x29' (fun _ _ h => h)).push (ty := 22) Try.underlying22 (by have := x29'.size; omega) (by omega) (RowAt.of_blk hb29)
      have hsz := x29'.size
      have hR31 := RdR.up (RdR.no hR24 x29') x31' fun q hq => by have := hq.1; omega
      refine ⟨a', _, c', w31, hrun, k, by omega, t + 1, a', c', _, (numR (countR 200 (countR 7 (s.1, s.2)).2).2).2, ?_, by omega, ?_, hR31, by omega, hO31, fun ad ha => ?_, hF, (x24.trans x29'.none).trans (x31'.mono fun q hq _ => by have := hq.1; omega)⟩
      · rw [w64 (by omega) (by omega), List.length_append]; rfl
      · rw [List.length_append]; simp; omega
      · rcases hblk ad ha with ⟨b0, hb0, e0⟩ | h
        · rw [e0]; exact hOp b0 hb0
        · omega
    · rw [beq_eq_false_iff_ne.2 hs0, cond_false]
      rw [if_neg hs0] at hF
      rw [← hF]
      exact ⟨_, _, rfl, hO, hR, hx, by show l.length ≤ 8; omega⟩
theorem rRead_spec {b : List UInt8} (hr : RowAt w a (bytesV b)) (hc : b.length ≤ c) (hl : b.length < 1000000) :
    Calls Try.prog 14 #[.slice a b.length c] w (fun e w' => ∃ ra rc, e = .returned (.tuple #[.slice ra (readV b).1.length rc, .int .i64 (readV b).2]) ∧ OwnH w.heap.size w' ra rc (readV b).1 ∧ Ext no w w') := by
  rw [← refV_eq]
  refine (rRead5.ok _ _ _ (R := fun v w' => ∃ ra rc, v = .tuple #[.slice ra (refV b).1.length rc, .int .i64 (refV b).2] ∧ OwnH w.heap.size w' ra rc (refV b).1 ∧ Ext no w w') ?_).mono fun e w' ⟨v, he, ra, rc, hv, hw⟩ => ⟨ra, rc, by rw [he, hv], hw⟩
  unfold rRead5.M
  refine thenW_in fun w2 h2 => ?_
  have x2 : Ext no w w2 := by subst h2; exact (Ext.refl _ _).alloc _
  have hb2 : Blk w2 w.heap.size 60 [.slice a b.length c, .int .i64 0] := by subst h2; exact Blk.new _ _ _
  have hR2 : RdR w2 w.heap.size b 0 := ⟨a, c, hb2, hc, hr.no x2, fun h0 ad ha => hr.lt h0 ha⟩
  refine (rTake_spec hR2 hl).mono fun e w5 ⟨ra, rc, he, hO, hR5, x5', hl8⟩ => ⟨ra, _, rc, he, ?_⟩
  have x5 : Ext no w w5 := x2.then x5' fun q hq => .inr hq
  have nilH : ∀ w1, OwnH w.heap.size w1 none 0 [] := fun w1 => ⟨owns_nil _ _ _, fun ad ha => by cases ha⟩
  refine (rDone_spec hR5).mono fun e w8 ⟨he, hw⟩ => ⟨_, he, ?_⟩
  subst hw
  unfold refV
  by_cases hd : doneR ((takeAll b).2.1, (takeAll b).2.2) ≠ 0
  · rw [show (doneR ((takeAll b).2.1, (takeAll b).2.2) != 0) = true by simpa using hd, cond_true, if_pos hd]
    exact ⟨none, 0, rfl, nilH _, x5⟩
  · rw [show (doneR ((takeAll b).2.1, (takeAll b).2.2) != 0) = false by simpa using hd, cond_false, if_neg hd]
    refine (rRight_spec hO.row (by omega)).mono fun e w38 ⟨he, x38⟩ => ⟨_, he, ?_⟩
    by_cases hri : rightV (takeAll b).1 = true
    · rw [hri, Bool.not_true, cond_false, if_pos rfl]
      exact ⟨_, _, rfl, (hO.ext x38 (fun _ _ h => h)).mono (by omega), x5.trans x38⟩
    · rw [show rightV (takeAll b).1 = false by simpa using hri, Bool.not_false, cond_true, if_neg (by decide)]
      exact ⟨none, 0, rfl, nilH _, x5.trans x38⟩
end
end Go.Proofs.Ytifplncikohlpaa
