/- Frames: predicates of the reader's parts. -/
import Derived.Test.YtoempemllkebkaaZD
import Derived.ArgAppend
import Derived.Test.YtoempemllkebkaaZB
import Derived.Test.YtoempemllkebkaaZC
import Derived.Laws.StructEq
import Derived.Test.YtoempemllkebkaaZA
set_option linter.unusedVariables false
set_option linter.unusedSimpArgs false
set_option maxRecDepth 100000
set_option maxHeartbeats 4000000
namespace Go.Proofs.Ytoempemllkebkaa
open Go Go.Mx Go.Proofs
def Q0D.M (r1 al : Option Addr) (R : RW) (w : World) : Prop :=
 thenW (w.alloc (.cells #[.pointer al] 118)) fun ai =>
 r1.elim False fun a4 =>
 ∃ (a6 : Option Addr), ai.cell? (a4.add 0) = some (.pointer a6) ∧
 Calls Try.prog 55 #[.pointer a6, .int .i64 4000] ai fun ak ad => ∃ (a7 : Option Addr) (a5 a3 : Nat), ak = .returned (.slice a7 a5 a3) ∧
 thenW (ad.alloc (.cells #[.slice none 0 0] 25)) fun ag =>
 Q01 ag ((blk ad.heap.size).add 0) ∧
 thenW (ag.setCell ((blk ad.heap.size).add 0) (.slice a7 a5 a3)) fun a8 =>
 r1.elim False fun aj =>
 ∃ (a2 : Option Addr) (a1 a0 : Nat), a8.cell? (aj.add 21) = some (.slice a2 a1 a0) ∧
 thenW (a8.alloc (.cells #[.func (.func 97) #[] #[.pointer (some (blk ad.heap.size)), .pointer (some (blk w.heap.size))]] 1)) fun ae =>
 ∃ (aa : Option Addr) (ac ab : Nat) (a9 : World), (Builtin.append_ #[70, 70] 70 #[.slice a2 a1 a0, .slice (some (blk a8.heap.size)) 1 1]).run Try.prog ae = .ok (.slice aa ac ab) a9 ∧
 r1.elim False fun ah =>
 Q01 a9 ((ah.add 21).add 0) ∧
 thenW (a9.setCell ((ah.add 21).add 0) (.slice aa ac ab)) fun af =>
 R (.tuple #[]) af

theorem Q0D.ok (r1 a0 : Option Addr) {R : RW} {w : World} (h : Q0D.M r1 a0 R w) : Calls Try.prog 91 #[.pointer r1, .pointer a0] w fun e w' => ∃ v, e = .returned v ∧ R v w' :=
  Q08 follows (H := []) (args := [.pointer r1, .pointer a0]) (cast (by kernel_rfl) h)

def Q0D.N (r1 al : Option Addr) (R : RW) (w : World) : Prop :=
 ∀ (ah : World) (q4 : Nat), Ext no w ah → Blk ah q4 118 [.pointer al] → w.heap.size ≤ q4 → q4 < ah.heap.size →
 ∃ a5 : Addr, r1 = some a5 ∧
 ∃ (a4 : Option Addr), ah.cell? (a5.add 0) = some (.pointer a4) ∧
 Calls Try.prog 55 #[.pointer a4, .int .i64 4000] ah fun ak ag => ∃ (a6 : Option Addr) (a3 a7 : Nat), ak = .returned (.slice a6 a3 a7) ∧
 ∀ (a8 : World) (ac : Nat), Ext no ag a8 → Blk a8 ac 25 [.slice none 0 0] → ag.heap.size ≤ ac → ac < a8.heap.size →
 Q01 a8 ((blk ac).add 0) ∧
 thenW (a8.setCell ((blk ac).add 0) (.slice a6 a3 a7)) fun aa =>
 ∃ (a0 : Option Addr) (a2 a1 : Nat), aa.cell? (a5.add 21) = some (.slice a0 a2 a1) ∧
 ∀ (a9 : World) (ai : Nat), Ext no aa a9 → Blk a9 ai 1 [.func (.func 97) #[] #[.pointer (some (blk ac)), .pointer (some (blk q4))]] → aa.heap.size ≤ ai → ai < a9.heap.size →
 ∃ (af : Option Addr) (ad ae : Nat) (ab : World), (Builtin.append_ #[70, 70] 70 #[.slice a0 a2 a1, .slice (some (blk ai)) 1 1]).run Try.prog a9 = .ok (.slice af ad ae) ab ∧
 Q01 ab ((a5.add 21).add 0) ∧
 thenW (ab.setCell ((a5.add 21).add 0) (.slice af ad ae)) fun aj =>
 R (.tuple #[]) aj

theorem Q0D.up (r1 ak : Option Addr) {R : RW} {w : World} (h : Q0D.N r1 ak R w) : Q0D.M r1 ak R w := by
  unfold Q0D.M
  unfold Q0D.N at h
  refine Q02 fun am e3 => ?_
  have h := h am w.heap.size ((Ext.refl no w).x_alloc e3) (Blk.of_new e3) ((Ext.refl no w)).size (Q0N e3)
  obtain ⟨a5, aa, h⟩ := h
  refine Q0L aa ?_
  obtain ⟨a4, al, h⟩ := h
  refine ⟨a4, al, ?_⟩
  refine h.mono fun aq a8 h => ?_
  obtain ⟨a6, a3, a7, he, h⟩ := h
  refine ⟨a6, a3, a7, he, ?_⟩
  refine Q02 fun ai ac => ?_
  have h := h ai a8.heap.size ((Ext.refl no a8).x_alloc ac) (Blk.of_new ac) ((Ext.refl no a8)).size (Q0N ac)
  obtain ⟨hcs, h⟩ := h
  refine ⟨hcs, Q02 fun a9 ap => ?_⟩
  replace h := Q1j h ap
  refine Q0L aa ?_
  obtain ⟨a0, a2, a1, ae, h⟩ := h
  refine ⟨a0, a2, a1, ae, ?_⟩
  refine Q02 fun ag aj => ?_
  have h := h ag a9.heap.size ((Ext.refl no a9).x_alloc aj) (Blk.of_new aj) ((Ext.refl no a9)).size (Q0N aj)
  obtain ⟨af, ab, ad, ah, hr, h⟩ := h
  refine ⟨af, ab, ad, ah, hr, ?_⟩
  refine Q0L aa ?_
  obtain ⟨hcs, h⟩ := h
  refine ⟨hcs, Q02 fun ao an => ?_⟩
  replace h := Q1j h an
  exact h

theorem Q0D.go (r1 a0 : Option Addr) {R : RW} {w : World} (h : Q0D.N r1 a0 R w) : Calls Try.prog 91 #[.pointer r1, .pointer a0] w fun e w' => ∃ v, e = .returned v ∧ R v w' := Q0D.ok r1 a0 (Q0D.up r1 a0 h)
abbrev Q0k.J1 (ac : Addr) (R : RW) (ab : World) : Prop :=
 ∃ (an : Option Addr), ab.cell? ac = some (.pointer an) ∧
 an.elim False fun ap =>
 ∃ (a5 : Option Addr), ab.cell? (ap.add 0) = some (.pointer a5) ∧
 Calls Try.prog 55 #[.pointer a5, .int .i64 4000] ab fun ak a9 => ∃ (a6 : Option Addr) (a3 a4 : Nat), ak = .returned (.slice a6 a3 a4) ∧
 thenW (a9.alloc (.cells #[.slice none 0 0] 25)) fun ae =>
 Q01 ae ((blk a9.heap.size).add 0) ∧
 thenW (ae.setCell ((blk a9.heap.size).add 0) (.slice a6 a3 a4)) fun al =>
 thenW (al.drew) fun a7 =>
 ∃ (ah : Option Addr), a7.cell? ac = some (.pointer ah) ∧
 ∃ (aj : Option Addr), a7.cell? ac = some (.pointer aj) ∧
 aj.elim False fun ao =>
 ∃ (a2 : Option Addr) (a0 a1 : Nat), a7.cell? (ao.add 21) = some (.slice a2 a0 a1) ∧
 thenW (a7.alloc (.cells #[.func (.func 92) #[] #[.pointer (some (blk a9.heap.size)), .pointer (some ac)]] 1)) fun a8 =>
 a8.cell? (ao.add 21) = some (.slice a2 a0 a1) ∧
 a8.cell? ac = some (.pointer aj) ∧
 a8.cell? ac = some (.pointer ah) ∧
 ∃ (ad : Option Addr) (af ag : Nat) (aa : World), (Builtin.append_ #[70, 70] 70 #[.slice a2 a0 a1, .slice (some (blk a7.heap.size)) 1 1]).run Try.prog a8 = .ok (.slice ad af ag) aa ∧
 aa.cell? ac = some (.pointer ah) ∧
 ah.elim False fun am =>
 Q01 aa ((am.add 21).add 0) ∧
 thenW (aa.setCell ((am.add 21).add 0) (.slice ad af ag)) fun ai =>
 R (.tuple #[]) ai

def Q0k.M (r1 : Option Addr) (R : RW) (w : World) : Prop :=
 thenW (w.alloc (.cells #[.pointer r1] 67)) fun a7 =>
 thenW (a7.drew) fun a3 =>
 ∃ (x4 : Option Addr), a3.cell? (blk w.heap.size) = some (.pointer x4) ∧
 ∃ (x5 : Option Addr), a3.cell? (blk w.heap.size) = some (.pointer x5) ∧
 x5.elim False fun a6 =>
 ∃ (a0 : Option Addr), a3.cell? (a6.add 0) = some (.pointer a0) ∧
 Calls Try.prog 54 #[.pointer a0, .int .i64 7] a3 fun a8 a2 => ∃ (a1 : Int), a8 = .returned (.int .i64 a1) ∧
 a2.cell? (blk w.heap.size) = some (.pointer x4) ∧
 x4.elim False fun a5 =>
 Q01 a2 (((a5.add 1).add 17).add 0) ∧
 thenW (a2.setCell (((a5.add 1).add 17).add 0) (.int .i64 a1)) fun a4 =>
 Q0k.J1 (blk w.heap.size) R a4

theorem Q0k.ok (r1 : Option Addr) {R : RW} {w : World} (h : Q0k.M r1 R w) : Calls Try.prog 78 #[.pointer r1] w fun e w' => ∃ v, e = .returned v ∧ R v w' :=
  Q08 follows (H := []) (args := [.pointer r1]) (cast (by kernel_rfl) h)

def Q0k.N (r1 : Option Addr) (R : RW) (w : World) : Prop :=
 ∀ (ae : World) (q3 : Nat), Ext no w ae → Blk ae q3 67 [.pointer r1] → w.heap.size ≤ q3 → q3 < ae.heap.size →
 ∃ (x6 : Option Addr), ae.cell? (blk q3) = some (.pointer x6) ∧
 ∃ (x8 : Option Addr), ae.cell? (blk q3) = some (.pointer x8) ∧
 ∃ a9 : Addr, x8 = some a9 ∧
 ∃ (a4 : Option Addr), ae.cell? (a9.add 0) = some (.pointer a4) ∧
 ∀ (az : World), Ext no ae az →
 Calls Try.prog 54 #[.pointer a4, .int .i64 7] az fun au ag => ∃ (aa : Int), au = .returned (.int .i64 aa) ∧
 ag.cell? (blk q3) = some (.pointer x6) ∧
 ∃ ao : Addr, x6 = some ao ∧
 Q01 ag (((ao.add 1).add 17).add 0) ∧
 thenW (ag.setCell (((ao.add 1).add 17).add 0) (.int .i64 aa)) fun af =>
 ∃ (ax : Option Addr), af.cell? (blk q3) = some (.pointer ax) ∧
 ∃ ay : Addr, ax = some ay ∧
 ∃ (a5 : Option Addr), af.cell? (ay.add 0) = some (.pointer a5) ∧
 Calls Try.prog 55 #[.pointer a5, .int .i64 4000] af fun ap ak => ∃ (a3 : Option Addr) (a6 a7 : Nat), ap = .returned (.slice a3 a6 a7) ∧
 ∀ (ab : World) (ah : Nat), Ext no ak ab → Blk ab ah 25 [.slice none 0 0] → ak.heap.size ≤ ah → ah < ab.heap.size →
 Q01 ab ((blk ah).add 0) ∧
 thenW (ab.setCell ((blk ah).add 0) (.slice a3 a6 a7)) fun ac =>
 ∃ (am : Option Addr), ac.cell? (blk q3) = some (.pointer am) ∧
 ∃ (aw : Option Addr), ac.cell? (blk q3) = some (.pointer aw) ∧
 ∃ aq : Addr, aw = some aq ∧
 ∃ (a0 : Option Addr) (a1 a2 : Nat), ac.cell? (aq.add 21) = some (.slice a0 a1 a2) ∧
 ∀ (a8 : World) (an : Nat), Ext no ac a8 → Blk a8 an 1 [.func (.func 92) #[] #[.pointer (some (blk ah)), .pointer (some (blk q3))]] → ac.heap.size ≤ an → an < a8.heap.size →
 a8.cell? (aq.add 21) = some (.slice a0 a1 a2) ∧
 a8.cell? (blk q3) = some (.pointer aw) ∧
 a8.cell? (blk q3) = some (.pointer am) ∧
 ∃ (aj : Option Addr) (ai al : Nat) (ad : World), (Builtin.append_ #[70, 70] 70 #[.slice a0 a1 a2, .slice (some (blk an)) 1 1]).run Try.prog a8 = .ok (.slice aj ai al) ad ∧
 ad.cell? (blk q3) = some (.pointer am) ∧
 ∃ ar : Addr, am = some ar ∧
 Q01 ad ((ar.add 21).add 0) ∧
 thenW (ad.setCell ((ar.add 21).add 0) (.slice aj ai al)) fun av =>
 R (.tuple #[]) av

theorem Q0k.up (r1 : Option Addr) {R : RW} {w : World} (h : Q0k.N r1 R w) : Q0k.M r1 R w := by
  unfold Q0k.M
  unfold Q0k.N at h
  refine Q02 fun b4 e2 => ?_
  have h := h b4 w.heap.size ((Ext.refl no w).x_alloc e2) (Blk.of_new e2) ((Ext.refl no w)).size (Q0N e2)
  refine Q02 fun bi e4 => ?_
  have ac := (Ext.refl no b4).x_drew e4
  obtain ⟨x6, b9, h⟩ := h
  refine ⟨x6, (ac).cell b9 id, ?_⟩
  obtain ⟨x8, b6, h⟩ := h
  refine ⟨x8, (ac).cell b6 id, ?_⟩
  obtain ⟨a9, bj, h⟩ := h
  refine Q0L bj ?_
  obtain ⟨a3, b2, h⟩ := h
  refine ⟨a3, (ac).cell b2 id, ?_⟩
  have h := h bi ac
  refine h.mono fun bf bk h => ?_
  obtain ⟨aa, he, h⟩ := h
  refine ⟨aa, he, ?_⟩
  obtain ⟨ag, h⟩ := h
  refine ⟨ag, ?_⟩
  obtain ⟨bl, aq, h⟩ := h
  refine Q0L aq ?_
  obtain ⟨hcs, h⟩ := h
  refine ⟨hcs, Q02 fun bg bd => ?_⟩
  replace h := Q1j h bd
  first | unfold Q0k.J1 | skip
  obtain ⟨b7, ay, h⟩ := h
  refine ⟨b7, ay, ?_⟩
  obtain ⟨bo, ad, h⟩ := h
  refine Q0L ad ?_
  obtain ⟨a6, aw, h⟩ := h
  refine ⟨a6, aw, ?_⟩
  refine h.mono fun bc ab h => ?_
  obtain ⟨a1, a7, a8, he, h⟩ := h
  refine ⟨a1, a7, a8, he, ?_⟩
  refine Q02 fun b0 au => ?_
  have h := h b0 ab.heap.size ((Ext.refl no ab).x_alloc au) (Blk.of_new au) ((Ext.refl no ab)).size (Q0N au)
  obtain ⟨hcs, h⟩ := h
  refine ⟨hcs, Q02 fun b1 b8 => ?_⟩
  replace h := Q1j h b8
  refine Q02 fun ax be => ?_
  have a4 := (Ext.refl no b1).x_drew be
  obtain ⟨b5, an, h⟩ := h
  refine ⟨b5, (a4).cell an id, ?_⟩
  obtain ⟨bb, am, h⟩ := h
  refine ⟨bb, (a4).cell am id, ?_⟩
  obtain ⟨bm, ae, h⟩ := h
  refine Q0L ae ?_
  obtain ⟨a0, a2, a5, aj, h⟩ := h
  refine ⟨a0, a2, a5, (a4).cell aj id, ?_⟩
  refine Q02 fun al ao => ?_
  have h := h al ax.heap.size (a4.x_alloc ao) (Blk.of_new ao) (a4).size (Q0N ao)
  obtain ⟨av, ar, af, h⟩ := h
  refine ⟨av, ar, af, ?_⟩
  obtain ⟨ai, ah, b3, az, hr, h⟩ := h
  refine ⟨ai, ah, b3, az, hr, ?_⟩
  obtain ⟨ap, h⟩ := h
  refine ⟨ap, ?_⟩
  obtain ⟨bn, ak, h⟩ := h
  refine Q0L ak ?_
  obtain ⟨hcs, h⟩ := h
  refine ⟨hcs, Q02 fun bh ba => ?_⟩
  replace h := Q1j h ba
  exact h

theorem Q0k.go (r1 : Option Addr) {R : RW} {w : World} (h : Q0k.N r1 R w) : Calls Try.prog 78 #[.pointer r1] w fun e w' => ∃ v, e = .returned v ∧ R v w' := Q0k.ok r1 (Q0k.up r1 h)
def Q0K.M (r1 : Option Addr) (R : RW) (w : World) : Prop :=
 r1.elim False fun a2 =>
 Calls Try.prog 91 #[.pointer r1, .pointer (some ((a2.add 1).add 1))] w fun a1 a0 => a1 = .returned (.tuple #[]) ∧
 R (.tuple #[]) a0

theorem Q0K.ok (r1 : Option Addr) {R : RW} {w : World} (h : Q0K.M r1 R w) : Calls Try.prog 77 #[.pointer r1] w fun e w' => ∃ v, e = .returned v ∧ R v w' :=
  Q08 follows (H := []) (args := [.pointer r1]) (cast (by kernel_rfl) h)

def Q0K.N (r1 : Option Addr) (R : RW) (w : World) : Prop :=
 ∃ a2 : Addr, r1 = some a2 ∧
 Calls Try.prog 91 #[.pointer r1, .pointer (some ((a2.add 1).add 1))] w fun a1 a0 => a1 = .returned (.tuple #[]) ∧
 R (.tuple #[]) a0

theorem Q0K.up (r1 : Option Addr) {R : RW} {w : World} (h : Q0K.N r1 R w) : Q0K.M r1 R w := by
  unfold Q0K.M
  unfold Q0K.N at h
  obtain ⟨a2, a0, h⟩ := h
  refine Q0L a0 ?_
  refine h.mono fun a3 a1 h => ?_
  obtain ⟨he, h⟩ := h
  refine ⟨he, ?_⟩
  exact h

theorem Q0K.go (r1 : Option Addr) {R : RW} {w : World} (h : Q0K.N r1 R w) : Calls Try.prog 77 #[.pointer r1] w fun e w' => ∃ v, e = .returned v ∧ R v w' := Q0K.ok r1 (Q0K.up r1 h)
def Q0J.M (r1 : Option Addr) (R : RW) (w : World) : Prop :=
 Calls Try.prog 77 #[.pointer r1] w fun a2 a0 => a2 = .returned (.tuple #[]) ∧
 r1.elim False fun a4 =>
 Calls Try.prog 91 #[.pointer r1, .pointer (some ((a4.add 1).add 9))] a0 fun a1 a3 => a1 = .returned (.tuple #[]) ∧
 R (.tuple #[]) a3

theorem Q0J.ok (r1 : Option Addr) {R : RW} {w : World} (h : Q0J.M r1 R w) : Calls Try.prog 80 #[.pointer r1] w fun e w' => ∃ v, e = .returned v ∧ R v w' :=
  Q08 follows (H := []) (args := [.pointer r1]) (cast (by kernel_rfl) h)

def Q0J.N (r1 : Option Addr) (R : RW) (w : World) : Prop :=
 Calls Try.prog 77 #[.pointer r1] w fun a2 a0 => a2 = .returned (.tuple #[]) ∧
 ∃ a4 : Addr, r1 = some a4 ∧
 Calls Try.prog 91 #[.pointer r1, .pointer (some ((a4.add 1).add 9))] a0 fun a1 a3 => a1 = .returned (.tuple #[]) ∧
 R (.tuple #[]) a3

theorem Q0J.up (r1 : Option Addr) {R : RW} {w : World} (h : Q0J.N r1 R w) : Q0J.M r1 R w := by
  unfold Q0J.M
  unfold Q0J.N at h
  refine h.mono fun a2 a1 h => ?_
  obtain ⟨he, h⟩ := h
  refine ⟨he, ?_⟩
  obtain ⟨a4, a0, h⟩ := h
  refine Q0L a0 ?_
  refine h.mono fun a5 a3 h => ?_
  obtain ⟨he, h⟩ := h
  refine ⟨he, ?_⟩
  exact h

theorem Q0J.go (r1 : Option Addr) {R : RW} {w : World} (h : Q0J.N r1 R w) : Calls Try.prog 80 #[.pointer r1] w fun e w' => ∃ v, e = .returned v ∧ R v w' := Q0J.ok r1 (Q0J.up r1 h)
def Q0E.M (r1 : Option Addr) (R : RW) (w : World) : Prop :=
 Calls Try.prog 78 #[.pointer r1] w fun a7 a3 => a7 = .returned (.tuple #[]) ∧
 r1.elim False fun a4 =>
 ∃ (a0 : Option Addr), a3.cell? (a4.add 0) = some (.pointer a0) ∧
 Calls Try.prog 71 #[.pointer a0] a3 fun a6 a5 => ∃ (a1 : Int), a6 = .returned (.int .u64 a1) ∧
 r1.elim False fun a9 =>
 Q01 a5 (((a9.add 1).add 19).add 0) ∧
 thenW (a5.setCell (((a9.add 1).add 19).add 0) (.int .u64 a1)) fun a2 =>
 R (.tuple #[]) a2

theorem Q0E.ok (r1 : Option Addr) {R : RW} {w : World} (h : Q0E.M r1 R w) : Calls Try.prog 79 #[.pointer r1] w fun e w' => ∃ v, e = .returned v ∧ R v w' :=
  Q08 follows (H := []) (args := [.pointer r1]) (cast (by kernel_rfl) h)

def Q0E.N (r1 : Option Addr) (R : RW) (w : World) : Prop :=
 Calls Try.prog 78 #[.pointer r1] w fun a6 a3 => a6 = .returned (.tuple #[]) ∧
 ∃ a4 : Addr, r1 = some a4 ∧
 ∃ (a0 : Option Addr), a3.cell? (a4.add 0) = some (.pointer a0) ∧
 Calls Try.prog 71 #[.pointer a0] a3 fun a7 a5 => ∃ (a1 : Int), a7 = .returned (.int .u64 a1) ∧
 Q01 a5 (((a4.add 1).add 19).add 0) ∧
 thenW (a5.setCell (((a4.add 1).add 19).add 0) (.int .u64 a1)) fun a2 =>
 R (.tuple #[]) a2

theorem Q0E.up (r1 : Option Addr) {R : RW} {w : World} (h : Q0E.N r1 R w) : Q0E.M r1 R w := by
  unfold Q0E.M
  unfold Q0E.N at h
  refine h.mono fun a9 a7 h => ?_
  obtain ⟨he, h⟩ := h
  refine ⟨he, ?_⟩
  obtain ⟨a4, a2, h⟩ := h
  refine Q0L a2 ?_
  obtain ⟨a0, a3, h⟩ := h
  refine ⟨a0, a3, ?_⟩
  refine h.mono fun aa a8 h => ?_
  obtain ⟨a1, he, h⟩ := h
  refine ⟨a1, he, ?_⟩
  refine Q0L a2 ?_
  obtain ⟨hcs, h⟩ := h
  refine ⟨hcs, Q02 fun a5 a6 => ?_⟩
  replace h := Q1j h a6
  exact h

theorem Q0E.go (r1 : Option Addr) {R : RW} {w : World} (h : Q0E.N r1 R w) : Calls Try.prog 79 #[.pointer r1] w fun e w' => ∃ v, e = .returned v ∧ R v w' := Q0E.ok r1 (Q0E.up r1 h)
def Q0I.M (r1 : Option Addr) (n2 : Int) (R : RW) (w : World) : Prop :=
 bif n2 == 1 then (
 R (.func (.func 77) #[.pointer r1] #[]) w) else (
 bif n2 == 2 then (
 R (.func (.func 78) #[.pointer r1] #[]) w) else (
 bif n2 == 3 then (
 R (.func (.func 79) #[.pointer r1] #[]) w) else (
 bif n2 == 4 then (
 R (.func (.func 80) #[.pointer r1] #[]) w) else (
 R (.func (.func 81) #[] #[]) w))))

theorem Q0I.ok (r1 : Option Addr) (n2 : Int) {R : RW} {w : World} (h : Q0I.M r1 n2 R w) : Calls Try.prog 60 #[.pointer r1, .int .i64 n2] w fun e w' => ∃ v, e = .returned v ∧ R v w' :=
  Q08 follows (H := []) (args := [.pointer r1, .int .i64 n2]) (cast (by kernel_rfl) h)

def Q0I.N (r1 : Option Addr) (n2 : Int) (R : RW) (w : World) : Prop :=
 (n2 = 1 →
 R (.func (.func 77) #[.pointer r1] #[]) w) ∧
 (n2 ≠ 1 →
 (n2 = 2 →
 R (.func (.func 78) #[.pointer r1] #[]) w) ∧
 (n2 ≠ 2 →
 (n2 = 3 →
 R (.func (.func 79) #[.pointer r1] #[]) w) ∧
 (n2 ≠ 3 →
 (n2 = 4 →
 R (.func (.func 80) #[.pointer r1] #[]) w) ∧
 (n2 ≠ 4 →
 R (.func (.func 81) #[] #[]) w))))

theorem Q0I.up (r1 : Option Addr) (n2 : Int) {R : RW} {w : World} (h : Q0I.N r1 n2 R w) : Q0I.M r1 n2 R w := by
  unfold Q0I.M
  unfold Q0I.N at h
  refine bif_of (fun c3 => ?_) (fun c3 => ?_)
  ·have h := h.1 (beq_t c3)
   exact h
  have h := h.2 (beq_f c3)
  refine bif_of (fun c4 => ?_) (fun c4 => ?_)
  ·have h := h.1 (beq_t c4)
   exact h
  have h := h.2 (beq_f c4)
  refine bif_of (fun c5 => ?_) (fun c5 => ?_)
  ·have h := h.1 (beq_t c5)
   exact h
  have h := h.2 (beq_f c5)
  refine bif_of (fun c6 => ?_) (fun c6 => ?_)
  ·have h := h.1 (beq_t c6)
   exact h
  have h := h.2 (beq_f c6)
  exact h

theorem Q0I.go (r1 : Option Addr) (n2 : Int) {R : RW} {w : World} (h : Q0I.N r1 n2 R w) : Calls Try.prog 60 #[.pointer r1, .int .i64 n2] w fun e w' => ∃ v, e = .returned v ∧ R v w' := Q0I.ok r1 n2 (Q0I.up r1 n2 h)
def Q0B.M  (R : RW) (w : World) : Prop :=
 R (.tuple #[]) w

theorem Q0B.ok  {R : RW} {w : World} (h : Q0B.M  R w) : Calls Try.prog 81 #[] w fun e w' => ∃ v, e = .returned v ∧ R v w' :=
  Q08 follows (H := []) (args := []) (cast (by kernel_rfl) h)

def Q0B.N  (R : RW) (w : World) : Prop :=
 R (.tuple #[]) w

theorem Q0B.up  {R : RW} {w : World} (h : Q0B.N  R w) : Q0B.M  R w := by
  unfold Q0B.M
  unfold Q0B.N at h
  exact h

theorem Q0B.go  {R : RW} {w : World} (h : Q0B.N  R w) : Calls Try.prog 81 #[] w fun e w' => ∃ v, e = .returned v ∧ R v w' := Q0B.ok  (Q0B.up  h)
def Q17.M (ay : Option Addr) (az b0 : Nat) (ag ah an ao ap al : Int) (ai : Option Addr) (am ak : Nat) (aq : Int) (R : RW) (w : World) : Prop :=
 thenW (w.alloc (.cells #[.int .i64 ag, .int .i64 ah, .int .u64 an, .int .i64 ao, .int .i64 ap, .int .i64 al, .slice ai am ak, .int .u64 aq] 27)) fun ar =>
 ∃ (a0 a5 ac ad ae a6 : Int) (aa : Option Addr) (a1 a2 : Nat) (af : Int), cellsAt ar (blk w.heap.size) [.int .i64 a0, .int .i64 a5, .int .u64 ac, .int .i64 ad, .int .i64 ae, .int .i64 a6, .slice aa a1 a2, .int .u64 af] 0 ∧
 Calls Try.prog 58 #[.agg #[.int .i64 a0, .int .i64 a5, .int .u64 ac, .int .i64 ad, .int .i64 ae, .int .i64 a6, .slice aa a1 a2, .int .u64 af]] ar fun au ax => ∃ (a4 : Option Addr) (a7 a8 : Nat) (aj : Int), au = .returned (.tuple #[.slice a4 a7 a8, .int .i64 aj]) ∧
 Calls Try.prog 29 #[.slice ay az b0, .slice a4 a7 a8] ax fun av aw => ∃ (a3 : Option Addr) (a9 ab : Nat), av = .returned (.slice a3 a9 ab) ∧
 R (.slice a3 a9 ab) aw

theorem Q17.ok (aa : Option Addr) (ac ab : Nat) (a0 a1 a6 a7 a8 a4 : Int) (a5 : Option Addr) (a2 a3 : Nat) (a9 : Int) {R : RW} {w : World} (h : Q17.M aa ac ab a0 a1 a6 a7 a8 a4 a5 a2 a3 a9 R w) : Calls Try.prog 27 #[.slice aa ac ab, .agg #[.int .i64 a0, .int .i64 a1, .int .u64 a6, .int .i64 a7, .int .i64 a8, .int .i64 a4, .slice a5 a2 a3, .int .u64 a9]] w fun e w' => ∃ v, e = .returned v ∧ R v w' :=
  Q08 follows (H := []) (args := [.slice aa ac ab, .agg #[.int .i64 a0, .int .i64 a1, .int .u64 a6, .int .i64 a7, .int .i64 a8, .int .i64 a4, .slice a5 a2 a3, .int .u64 a9]]) (cast (by kernel_rfl) h)

def Q17.N (am : Option Addr) (an ao : Nat) (a6 a8 ad ae af ab : Int) (a9 : Option Addr) (ac aa : Nat) (ag : Int) (R : RW) (w : World) : Prop :=
 ∀ (ah : World), Ext no w ah →
 Calls Try.prog 58 #[.agg #[.int .i64 a6, .int .i64 a8, .int .u64 ad, .int .i64 ae, .int .i64 af, .int .i64 ab, .slice a9 ac aa, .int .u64 ag]] ah fun ak al => ∃ (a0 : Option Addr) (a5 a3 : Nat) (a7 : Int), ak = .returned (.tuple #[.slice a0 a5 a3, .int .i64 a7]) ∧
 Calls Try.prog 29 #[.slice am an ao, .slice a0 a5 a3] al fun aj ai => ∃ (a4 : Option Addr) (a1 a2 : Nat), aj = .returned (.slice a4 a1 a2) ∧
 R (.slice a4 a1 a2) ai

theorem Q17.up (ak : Option Addr) (al am : Nat) (a0 a1 a6 a7 ac a4 : Int) (a2 : Option Addr) (a5 a3 : Nat) (ad : Int) {R : RW} {w : World} (h : Q17.N ak al am a0 a1 a6 a7 ac a4 a2 a5 a3 ad R w) : Q17.M ak al am a0 a1 a6 a7 ac a4 a2 a5 a3 ad R w := by
  unfold Q17.M
  unfold Q17.N at h
  refine Q02 fun aj an => ?_
  have ah := Blk.of_new an
  have au := ((Ext.refl no w)).size
  have ai := (Ext.refl no w).x_alloc an
  refine ⟨a0, a1, a6, a7, ac, a4, a2, a5, a3, ad, ⟨ah.celli 0 rfl rfl, ah.celli 1 rfl rfl, ah.celli 2 rfl rfl, ah.celli 3 rfl rfl, ah.celli 4 rfl rfl, ah.celli 5 rfl rfl, ah.celli 6 rfl rfl, ah.celli 7 rfl rfl, trivial⟩, ?_⟩
  have h := h aj ai
  refine h.mono fun aq ar h => ?_
  obtain ⟨a8, af, ab, ag, he, h⟩ := h
  refine ⟨a8, af, ab, ag, he, ?_⟩
  refine h.mono fun ap ao h => ?_
  obtain ⟨ae, a9, aa, he, h⟩ := h
  refine ⟨ae, a9, aa, he, ?_⟩
  exact h

theorem Q17.go (aa : Option Addr) (ac ab : Nat) (a0 a1 a6 a7 a8 a4 : Int) (a5 : Option Addr) (a2 a3 : Nat) (a9 : Int) {R : RW} {w : World} (h : Q17.N aa ac ab a0 a1 a6 a7 a8 a4 a5 a2 a3 a9 R w) : Calls Try.prog 27 #[.slice aa ac ab, .agg #[.int .i64 a0, .int .i64 a1, .int .u64 a6, .int .i64 a7, .int .i64 a8, .int .i64 a4, .slice a5 a2 a3, .int .u64 a9]] w fun e w' => ∃ v, e = .returned v ∧ R v w' := Q17.ok aa ac ab a0 a1 a6 a7 a8 a4 a5 a2 a3 a9 (Q17.up aa ac ab a0 a1 a6 a7 a8 a4 a5 a2 a3 a9 h)
def Q0O.M (b0 b5 b8 bc bb b4 : Int) (b6 : Option Addr) (b3 b7 : Nat) (b9 : Int) (R : RW) (w : World) : Prop :=
 thenW (w.alloc (.cells #[.int .i64 b0, .int .i64 b5, .int .u64 b8, .int .i64 bc, .int .i64 bb, .int .i64 b4, .slice b6 b3 b7, .int .u64 b9] 27)) fun be =>
 thenW (be.alloc (.cells #[.int .i64 0, .int .i64 0, .int .i64 0, .int .u64 0, .int .i64 0, .int .i64 0, .int .i64 0, .slice none 0 0, .int .u64 0, .int .i64 0, .int .i64 0, .int .u64 0, .int .i64 0, .int .i64 0, .int .i64 0, .slice none 0 0, .int .u64 0, .int .i64 0, .slice none 0 0, .int .u64 0] 38)) fun ba =>
 ∃ (aj ao av az b1 ap : Int) (au : Option Addr) (am an : Nat) (b2 : Int), cellsAt ba (blk w.heap.size) [.int .i64 aj, .int .i64 ao, .int .u64 av, .int .i64 az, .int .i64 b1, .int .i64 ap, .slice au am an, .int .u64 b2] 0 ∧
 putsK ba (blk be.heap.size) [.int .i64 1, .int .i64 aj, .int .i64 ao, .int .u64 av, .int .i64 az, .int .i64 b1, .int .i64 ap, .slice au am an, .int .u64 b2, .int .i64 0, .int .i64 0, .int .u64 0, .int .i64 0, .int .i64 0, .int .i64 0, .slice none 0 0, .int .u64 0, .int .i64 0, .slice none 0 0, .int .u64 0] 0 fun bd =>
 ∃ (ai a0 aa ad al ag a8 : Int) (a9 : Option Addr) (ab a2 : Nat) (ak a1 a7 ac ah af a6 : Int) (a5 : Option Addr) (a3 a4 : Nat) (ae aq : Int) (ax : Option Addr) (ay aw : Nat) (ar : Int), cellsAt bd (blk be.heap.size) [.int .i64 ai, .int .i64 a0, .int .i64 aa, .int .u64 ad, .int .i64 al, .int .i64 ag, .int .i64 a8, .slice a9 ab a2, .int .u64 ak, .int .i64 a1, .int .i64 a7, .int .u64 ac, .int .i64 ah, .int .i64 af, .int .i64 a6, .slice a5 a3 a4, .int .u64 ae, .int .i64 aq, .slice ax ay aw, .int .u64 ar] 0 ∧
 R (.agg #[.int .i64 ai, .int .i64 a0, .int .i64 aa, .int .u64 ad, .int .i64 al, .int .i64 ag, .int .i64 a8, .slice a9 ab a2, .int .u64 ak, .int .i64 a1, .int .i64 a7, .int .u64 ac, .int .i64 ah, .int .i64 af, .int .i64 a6, .slice a5 a3 a4, .int .u64 ae, .int .i64 aq, .slice ax ay aw, .int .u64 ar]) bd

theorem Q0O.ok (a0 a4 a6 a7 a8 a1 : Int) (a3 : Option Addr) (a2 a5 : Nat) (a9 : Int) {R : RW} {w : World} (h : Q0O.M a0 a4 a6 a7 a8 a1 a3 a2 a5 a9 R w) : Calls Try.prog 20 #[.agg #[.int .i64 a0, .int .i64 a4, .int .u64 a6, .int .i64 a7, .int .i64 a8, .int .i64 a1, .slice a3 a2 a5, .int .u64 a9]] w fun e w' => ∃ v, e = .returned v ∧ R v w' :=
  Q08 follows (H := []) (args := [.agg #[.int .i64 a0, .int .i64 a4, .int .u64 a6, .int .i64 a7, .int .i64 a8, .int .i64 a1, .slice a3 a2 a5, .int .u64 a9]]) (cast (by kernel_rfl) h)

def Q0O.N (a0 a4 a6 a8 a9 a1 : Int) (a3 : Option Addr) (a2 a5 : Nat) (aa : Int) (R : RW) (w : World) : Prop :=
 ∀ (a7 : World), Ext no w a7 →
 R (.agg #[.int .i64 1, .int .i64 a0, .int .i64 a4, .int .u64 a6, .int .i64 a8, .int .i64 a9, .int .i64 a1, .slice a3 a2 a5, .int .u64 aa, .int .i64 0, .int .i64 0, .int .u64 0, .int .i64 0, .int .i64 0, .int .i64 0, .slice none 0 0, .int .u64 0, .int .i64 0, .slice none 0 0, .int .u64 0]) a7

theorem Q0O.up (a0 a3 a7 aa a9 a2 : Int) (a4 : Option Addr) (a1 a5 : Nat) (a8 : Int) {R : RW} {w : World} (h : Q0O.N a0 a3 a7 aa a9 a2 a4 a1 a5 a8 R w) : Q0O.M a0 a3 a7 aa a9 a2 a4 a1 a5 a8 R w := by
  unfold Q0O.M
  unfold Q0O.N at h
  refine Q02 fun am e9 => ?_
  have ab := Blk.of_new e9
  have an := ((Ext.refl no w)).size
  have ah := (Ext.refl no w).x_alloc e9
  refine Q02 fun ak ac => ?_
  have a6 := Blk.of_new ac
  have al := (ah).size
  have ag := Nat.ne_of_lt ab.lt
  have ab := ab.x_alloc ac
  have ad := ah.x_alloc ac
  refine ⟨a0, a3, a7, aa, a9, a2, a4, a1, a5, a8, ⟨ab.celli 0 rfl rfl, ab.celli 1 rfl rfl, ab.celli 2 rfl rfl, ab.celli 3 rfl rfl, ab.celli 4 rfl rfl, ab.celli 5 rfl rfl, ab.celli 6 rfl rfl, ab.celli 7 rfl rfl, trivial⟩, ?_⟩
  refine Q0a (k := 0) (j := 0) a6 (by exact Nat.le_of_ble_eq_true rfl) fun af aj ai => ?_
  have ae := ad.x_puts aj (.inr al)
  have a6 := Q0e ai rfl
  refine ⟨1, a0, a3, a7, aa, a9, a2, a4, a1, a5, a8, 0, 0, 0, 0, 0, 0, none, 0, 0, 0, 0, none, 0, 0, 0, ⟨a6.celli 0 rfl rfl, a6.celli 1 rfl rfl, a6.celli 2 rfl rfl, a6.celli 3 rfl rfl, a6.celli 4 rfl rfl, a6.celli 5 rfl rfl, a6.celli 6 rfl rfl, a6.celli 7 rfl rfl, a6.celli 8 rfl rfl, a6.celli 9 rfl rfl, a6.celli 10 rfl rfl, a6.celli 11 rfl rfl, a6.celli 12 rfl rfl, a6.celli 13 rfl rfl, a6.celli 14 rfl rfl, a6.celli 15 rfl rfl, a6.celli 16 rfl rfl, a6.celli 17 rfl rfl, a6.celli 18 rfl rfl, a6.celli 19 rfl rfl, trivial⟩, ?_⟩
  have h := h af ae
  exact h

theorem Q0O.go (a0 a4 a6 a7 a8 a1 : Int) (a3 : Option Addr) (a2 a5 : Nat) (a9 : Int) {R : RW} {w : World} (h : Q0O.N a0 a4 a6 a7 a8 a1 a3 a2 a5 a9 R w) : Calls Try.prog 20 #[.agg #[.int .i64 a0, .int .i64 a4, .int .u64 a6, .int .i64 a7, .int .i64 a8, .int .i64 a1, .slice a3 a2 a5, .int .u64 a9]] w fun e w' => ∃ v, e = .returned v ∧ R v w' := Q0O.ok a0 a4 a6 a7 a8 a1 a3 a2 a5 a9 (Q0O.up a0 a4 a6 a7 a8 a1 a3 a2 a5 a9 h)
theorem Q0O.run (a0 a4 a6 a7 a8 a1 : Int) (a3 : Option Addr) (a2 a5 : Nat) (a9 : Int) {V : Value} {Q : World → Prop} {w : World} (h : Q0O.N a0 a4 a6 a7 a8 a1 a3 a2 a5 a9 (fun v w' => v = V ∧ Q w') w) : Calls Try.prog 20 #[.agg #[.int .i64 a0, .int .i64 a4, .int .u64 a6, .int .i64 a7, .int .i64 a8, .int .i64 a1, .slice a3 a2 a5, .int .u64 a9]] w (Ret V Q) := (Q0O.go a0 a4 a6 a7 a8 a1 a3 a2 a5 a9 h).mono fun e w' ⟨v, he, hv, hq⟩ => ⟨by rw [he, hv], hq⟩

def Q0U.M (cs b9 bw cf cn ct bz : Int) (bp : Option Addr) (bj bm : Nat) (cm ap b6 bv cg c7 bc : Int) (bd : Option Addr) (b0 b2 : Nat) (c8 cp : Int) (cu : Option Addr) (d2 d1 : Nat) (cq c9 aq b7 bh cd cc b4 : Int) (bf : Option Addr) (be b3 : Nat) (cb ar b8 bk ca ch ba : Int) (b1 : Option Addr) (bb b5 : Nat) (ce cr : Int) (cx : Option Addr) (cw d4 : Nat) (co : Int) (R : RW) (w : World) : Prop :=
 thenW (w.alloc (.cells #[.int .i64 cs, .int .i64 b9, .int .i64 bw, .int .u64 cf, .int .i64 cn, .int .i64 ct, .int .i64 bz, .slice bp bj bm, .int .u64 cm, .int .i64 ap, .int .i64 b6, .int .u64 bv, .int .i64 cg, .int .i64 c7, .int .i64 bc, .slice bd b0 b2, .int .u64 c8, .int .i64 cp, .slice cu d2 d1, .int .u64 cq] 38)) fun au =>
 thenW (au.alloc (.cells #[.int .i64 c9, .int .i64 aq, .int .i64 b7, .int .u64 bh, .int .i64 cd, .int .i64 cc, .int .i64 b4, .slice bf be b3, .int .u64 cb, .int .i64 ar, .int .i64 b8, .int .u64 bk, .int .i64 ca, .int .i64 ch, .int .i64 ba, .slice b1 bb b5, .int .u64 ce, .int .i64 cr, .slice cx cw d4, .int .u64 co] 38)) fun a0 =>
 ∃ (c4 : Int), a0.cell? ((blk w.heap.size).add 0) = some (.int .i64 c4) ∧
 ∃ (bx : Int), a0.cell? ((blk au.heap.size).add 0) = some (.int .i64 bx) ∧
 bif c4 == bx then (
 ∃ (cl : Int), a0.cell? ((blk w.heap.size).add 17) = some (.int .i64 cl) ∧
 ∃ (ci : Int), a0.cell? ((blk au.heap.size).add 17) = some (.int .i64 ci) ∧
 bif cl == ci then (
 ∃ (ck : Int), a0.cell? ((blk w.heap.size).add 19) = some (.int .u64 ck) ∧
 ∃ (cj : Int), a0.cell? ((blk au.heap.size).add 19) = some (.int .u64 cj) ∧
 bif ck == cj then (
 ∃ (a2 ag av c2 bl al : Int) (ak : Option Addr) (ae ab : Nat) (bq : Int), cellsAt a0 ((blk w.heap.size).add 1) [.int .i64 a2, .int .i64 ag, .int .u64 av, .int .i64 c2, .int .i64 bl, .int .i64 al, .slice ak ae ab, .int .u64 bq] 0 ∧
 ∃ (a1 af ay c3 br an : Int) (a7 : Option Addr) (a9 a6 : Nat) (bi : Int), cellsAt a0 ((blk au.heap.size).add 1) [.int .i64 a1, .int .i64 af, .int .u64 ay, .int .i64 c3, .int .i64 br, .int .i64 an, .slice a7 a9 a6, .int .u64 bi] 0 ∧
 Calls Try.prog 30 #[.agg #[.int .i64 a2, .int .i64 ag, .int .u64 av, .int .i64 c2, .int .i64 bl, .int .i64 al, .slice ak ae ab, .int .u64 bq], .agg #[.int .i64 a1, .int .i64 af, .int .u64 ay, .int .i64 c3, .int .i64 br, .int .i64 an, .slice a7 a9 a6, .int .u64 bi]] a0 fun d8 c5 => ∃ (bn : Bool), d8 = .returned (.bool bn) ∧
 bif bn then (
 ∃ (a3 a5 ax bs bu am : Int) (ad : Option Addr) (ah ac : Nat) (c1 : Int), cellsAt c5 ((blk w.heap.size).add 9) [.int .i64 a3, .int .i64 a5, .int .u64 ax, .int .i64 bs, .int .i64 bu, .int .i64 am, .slice ad ah ac, .int .u64 c1] 0 ∧
 ∃ (a4 aa az c0 bg ao : Int) (ai : Option Addr) (a8 aj : Nat) (bt : Int), cellsAt c5 ((blk au.heap.size).add 9) [.int .i64 a4, .int .i64 aa, .int .u64 az, .int .i64 c0, .int .i64 bg, .int .i64 ao, .slice ai a8 aj, .int .u64 bt] 0 ∧
 Calls Try.prog 30 #[.agg #[.int .i64 a3, .int .i64 a5, .int .u64 ax, .int .i64 bs, .int .i64 bu, .int .i64 am, .slice ad ah ac, .int .u64 c1], .agg #[.int .i64 a4, .int .i64 aa, .int .u64 az, .int .i64 c0, .int .i64 bg, .int .i64 ao, .slice ai a8 aj, .int .u64 bt]] c5 fun d6 c6 => ∃ (bo : Bool), d6 = .returned (.bool bo) ∧
 bif bo then (
 ∃ (d5 : Option Addr) (cz d3 : Nat), c6.cell? ((blk w.heap.size).add 18) = some (.slice d5 cz d3) ∧
 ∃ (cy : Option Addr) (d0 cv : Nat), c6.cell? ((blk au.heap.size).add 18) = some (.slice cy d0 cv) ∧
 Calls Try.prog 31 #[.slice d5 cz d3, .slice cy d0 cv] c6 fun d9 d7 => ∃ (aw : Bool), d9 = .returned (.bool aw) ∧
 R (.bool aw) d7) else (
 R (.bool false) c6)) else (
 R (.bool false) c5)) else (
 R (.bool false) a0)) else (
 R (.bool false) a0)) else (
 R (.bool false) a0)

theorem Q0U.ok (b7 ai an b0 bb b8 aq : Int) (ao : Option Addr) (ap al : Nat) (b4 a1 af am b3 b2 a4 : Int) (aa : Option Addr) (a3 a5 : Nat) (au ba : Int) (bg : Option Addr) (bh bf : Nat) (b6 b1 a0 ag ak ay aw a7 : Int) (ae : Option Addr) (ad a6 : Nat) (av a2 ah aj ar ax a9 : Int) (a8 : Option Addr) (ac ab : Nat) (az b9 : Int) (bc : Option Addr) (bd be : Nat) (b5 : Int) {R : RW} {w : World} (h : Q0U.M b7 ai an b0 bb b8 aq ao ap al b4 a1 af am b3 b2 a4 aa a3 a5 au ba bg bh bf b6 b1 a0 ag ak ay aw a7 ae ad a6 av a2 ah aj ar ax a9 a8 ac ab az b9 bc bd be b5 R w) : Calls Try.prog 12 #[.agg #[.int .i64 b7, .int .i64 ai, .int .i64 an, .int .u64 b0, .int .i64 bb, .int .i64 b8, .int .i64 aq, .slice ao ap al, .int .u64 b4, .int .i64 a1, .int .i64 af, .int .u64 am, .int .i64 b3, .int .i64 b2, .int .i64 a4, .slice aa a3 a5, .int .u64 au, .int .i64 ba, .slice bg bh bf, .int .u64 b6], .agg #[.int .i64 b1, .int .i64 a0, .int .i64 ag, .int .u64 ak, .int .i64 ay, .int .i64 aw, .int .i64 a7, .slice ae ad a6, .int .u64 av, .int .i64 a2, .int .i64 ah, .int .u64 aj, .int .i64 ar, .int .i64 ax, .int .i64 a9, .slice a8 ac ab, .int .u64 az, .int .i64 b9, .slice bc bd be, .int .u64 b5]] w fun e w' => ∃ v, e = .returned v ∧ R v w' :=
  Q08 follows (H := []) (args := [.agg #[.int .i64 b7, .int .i64 ai, .int .i64 an, .int .u64 b0, .int .i64 bb, .int .i64 b8, .int .i64 aq, .slice ao ap al, .int .u64 b4, .int .i64 a1, .int .i64 af, .int .u64 am, .int .i64 b3, .int .i64 b2, .int .i64 a4, .slice aa a3 a5, .int .u64 au, .int .i64 ba, .slice bg bh bf, .int .u64 b6], .agg #[.int .i64 b1, .int .i64 a0, .int .i64 ag, .int .u64 ak, .int .i64 ay, .int .i64 aw, .int .i64 a7, .slice ae ad a6, .int .u64 av, .int .i64 a2, .int .i64 ah, .int .u64 aj, .int .i64 ar, .int .i64 ax, .int .i64 a9, .slice a8 ac ab, .int .u64 az, .int .i64 b9, .slice bc bd be, .int .u64 b5]]) (cast (by kernel_rfl) h)

def Q0U.N (ar an ax bb bg bf b2 : Int) (b0 : Option Addr) (b1 av : Nat) (be a2 aj aw b4 bd a9 : Int) (af : Option Addr) (a8 aa : Nat) (b5 az : Int) (bm : Option Addr) (bn bl : Nat) (aq a6 a1 ak au b9 b7 ac : Int) (ai : Option Addr) (ah ab : Nat) (b6 a3 am ap b3 b8 ae : Int) (ad : Option Addr) (al ag : Nat) (ba ay : Int) (bi : Option Addr) (bj bk : Nat) (ao : Int) (R : RW) (w : World) : Prop :=
 (ar = a6 →
 (az = ay →
 (aq = ao →
 ∀ (a0 : World) (bq bo : Nat), Ext no w a0 → Priv w a0 [bq, bo] →
 Calls Try.prog 30 #[.agg #[.int .i64 an, .int .i64 ax, .int .u64 bb, .int .i64 bg, .int .i64 bf, .int .i64 b2, .slice b0 b1 av, .int .u64 be], .agg #[.int .i64 a1, .int .i64 ak, .int .u64 au, .int .i64 b9, .int .i64 b7, .int .i64 ac, .slice ai ah ab, .int .u64 b6]] a0 fun br bc => ∃ (a5 : Bool), br = .returned (.bool a5) ∧
 Keep [bq, bo] a0 bc ∧
 (a5 = true →
 Calls Try.prog 30 #[.agg #[.int .i64 a2, .int .i64 aj, .int .u64 aw, .int .i64 b4, .int .i64 bd, .int .i64 a9, .slice af a8 aa, .int .u64 b5], .agg #[.int .i64 a3, .int .i64 am, .int .u64 ap, .int .i64 b3, .int .i64 b8, .int .i64 ae, .slice ad al ag, .int .u64 ba]] bc fun bp bh => ∃ (a4 : Bool), bp = .returned (.bool a4) ∧
 Keep [bq, bo] bc bh ∧
 (a4 = true →
 Calls Try.prog 31 #[.slice bm bn bl, .slice bi bj bk] bh fun bs bt => ∃ (a7 : Bool), bs = .returned (.bool a7) ∧
 R (.bool a7) bt) ∧
 (a4 = false →
 R (.bool false) bh)) ∧
 (a5 = false →
 R (.bool false) bc)) ∧
 (aq ≠ ao →
 ∀ (a0 : World), Ext no w a0 →
 R (.bool false) a0)) ∧
 (az ≠ ay →
 ∀ (a0 : World), Ext no w a0 →
 R (.bool false) a0)) ∧
 (ar ≠ a6 →
 ∀ (a0 : World), Ext no w a0 →
 R (.bool false) a0)

theorem Q0U.up (bc ad ar b3 b7 bd au : Int) (ap : Option Addr) (am ao : Nat) (b6 a0 aa aq b4 av ag : Int) (ah : Option Addr) (a4 a6 : Nat) (aw b9 : Int) (be : Option Addr) (bi bh : Nat) (ba ax a1 ab al b1 b0 a8 : Int) (aj : Option Addr) (ai a7 : Nat) (az a2 ac an ay b5 ae : Int) (a5 : Option Addr) (af a9 : Nat) (b2 bb : Int) (bg : Option Addr) (bf bj : Nat) (b8 : Int) {R : RW} {w : World} (h : Q0U.N bc ad ar b3 b7 bd au ap am ao b6 a0 aa aq b4 av ag ah a4 a6 aw b9 be bi bh ba ax a1 ab al b1 b0 a8 aj ai a7 az a2 ac an ay b5 ae a5 af a9 b2 bb bg bf bj b8 R w) : Q0U.M bc ad ar b3 b7 bd au ap am ao b6 a0 aa aq b4 av ag ah a4 a6 aw b9 be bi bh ba ax a1 ab al b1 b0 a8 aj ai a7 az a2 ac an ay b5 ae a5 af a9 b2 bb bg bf bj b8 R w := by
  unfold Q0U.M
  unfold Q0U.N at h
  refine Q02 fun bq bx => ?_
  have a3 := Blk.of_new bx
  have c3 := ((Ext.refl no w)).size
  have bp := (Ext.refl no w).x_alloc bx
  refine Q02 fun bk bs => ?_
  have ak := Blk.of_new bs
  have c6 := (bp).size
  have bz := Nat.ne_of_lt a3.lt
  have a3 := a3.x_alloc bs
  have bm := bp.x_alloc bs
  refine ⟨bc, a3.celli 0 rfl rfl, ?_⟩
  refine ⟨ax, ak.celli 0 rfl rfl, ?_⟩
  refine bif_fo (fun br => ?_) (fun br => ?_)
  ·have h := h.2 (beq_f br)
   have h := h bk bm
   exact h
  have h := h.1 (beq_t br)
  refine ⟨b9, a3.celli 17 rfl rfl, ?_⟩
  refine ⟨bb, ak.celli 17 rfl rfl, ?_⟩
  refine bif_fo (fun bt => ?_) (fun bt => ?_)
  ·have h := h.2 (beq_f bt)
   have h := h bk bm
   exact h
  have h := h.1 (beq_t bt)
  refine ⟨ba, a3.celli 19 rfl rfl, ?_⟩
  refine ⟨b8, ak.celli 19 rfl rfl, ?_⟩
  refine bif_fo (fun bv => ?_) (fun bv => ?_)
  ·have h := h.2 (beq_f bv)
   have h := h bk bm
   exact h
  have h := h.1 (beq_t bv)
  refine ⟨ad, ar, b3, b7, bd, au, ap, am, ao, b6, ⟨a3.celli 1 rfl rfl, a3.celli 2 rfl rfl, a3.celli 3 rfl rfl, a3.celli 4 rfl rfl, a3.celli 5 rfl rfl, a3.celli 6 rfl rfl, a3.celli 7 rfl rfl, a3.celli 8 rfl rfl, trivial⟩, ?_⟩
  refine ⟨a1, ab, al, b1, b0, a8, aj, ai, a7, az, ⟨ak.celli 1 rfl rfl, ak.celli 2 rfl rfl, ak.celli 3 rfl rfl, ak.celli 4 rfl rfl, ak.celli 5 rfl rfl, ak.celli 6 rfl rfl, ak.celli 7 rfl rfl, ak.celli 8 rfl rfl, trivial⟩, ?_⟩
  have h := h bk (w.heap.size) (bq.heap.size) bm (Priv.cons c3 a3.lt (Priv.cons c6 ak.lt Priv.nil))
  refine h.mono fun c1 c4 h => ?_
  obtain ⟨bn, he, hk, h⟩ := h
  refine ⟨bn, he, ?_⟩
  have a3 := hk.blk a3 (by simp)
  have ak := hk.blk ak (by simp)
  refine bif_fo (fun bu => ?_) (fun bu => ?_)
  ·have h := h.2 bu
   exact h
  have h := h.1 bu
  refine ⟨a0, aa, aq, b4, av, ag, ah, a4, a6, aw, ⟨a3.celli 9 rfl rfl, a3.celli 10 rfl rfl, a3.celli 11 rfl rfl, a3.celli 12 rfl rfl, a3.celli 13 rfl rfl, a3.celli 14 rfl rfl, a3.celli 15 rfl rfl, a3.celli 16 rfl rfl, trivial⟩, ?_⟩
  refine ⟨a2, ac, an, ay, b5, ae, a5, af, a9, b2, ⟨ak.celli 9 rfl rfl, ak.celli 10 rfl rfl, ak.celli 11 rfl rfl, ak.celli 12 rfl rfl, ak.celli 13 rfl rfl, ak.celli 14 rfl rfl, ak.celli 15 rfl rfl, ak.celli 16 rfl rfl, trivial⟩, ?_⟩
  refine h.mono fun c0 c7 h => ?_
  obtain ⟨bo, he, hk, h⟩ := h
  refine ⟨bo, he, ?_⟩
  have a3 := hk.blk a3 (by simp)
  have ak := hk.blk ak (by simp)
  refine bif_fo (fun bw => ?_) (fun bw => ?_)
  ·have h := h.2 bw
   exact h
  have h := h.1 bw
  refine ⟨be, bi, bh, a3.celli 18 rfl rfl, ?_⟩
  refine ⟨bg, bf, bj, ak.celli 18 rfl rfl, ?_⟩
  refine h.mono fun c2 c5 h => ?_
  obtain ⟨bl, he, h⟩ := h
  refine ⟨bl, he, ?_⟩
  exact h

theorem Q0U.go (b7 ai an b0 bb b8 aq : Int) (ao : Option Addr) (ap al : Nat) (b4 a1 af am b3 b2 a4 : Int) (aa : Option Addr) (a3 a5 : Nat) (au ba : Int) (bg : Option Addr) (bh bf : Nat) (b6 b1 a0 ag ak ay aw a7 : Int) (ae : Option Addr) (ad a6 : Nat) (av a2 ah aj ar ax a9 : Int) (a8 : Option Addr) (ac ab : Nat) (az b9 : Int) (bc : Option Addr) (bd be : Nat) (b5 : Int) {R : RW} {w : World} (h : Q0U.N b7 ai an b0 bb b8 aq ao ap al b4 a1 af am b3 b2 a4 aa a3 a5 au ba bg bh bf b6 b1 a0 ag ak ay aw a7 ae ad a6 av a2 ah aj ar ax a9 a8 ac ab az b9 bc bd be b5 R w) : Calls Try.prog 12 #[.agg #[.int .i64 b7, .int .i64 ai, .int .i64 an, .int .u64 b0, .int .i64 bb, .int .i64 b8, .int .i64 aq, .slice ao ap al, .int .u64 b4, .int .i64 a1, .int .i64 af, .int .u64 am, .int .i64 b3, .int .i64 b2, .int .i64 a4, .slice aa a3 a5, .int .u64 au, .int .i64 ba, .slice bg bh bf, .int .u64 b6], .agg #[.int .i64 b1, .int .i64 a0, .int .i64 ag, .int .u64 ak, .int .i64 ay, .int .i64 aw, .int .i64 a7, .slice ae ad a6, .int .u64 av, .int .i64 a2, .int .i64 ah, .int .u64 aj, .int .i64 ar, .int .i64 ax, .int .i64 a9, .slice a8 ac ab, .int .u64 az, .int .i64 b9, .slice bc bd be, .int .u64 b5]] w fun e w' => ∃ v, e = .returned v ∧ R v w' := Q0U.ok b7 ai an b0 bb b8 aq ao ap al b4 a1 af am b3 b2 a4 aa a3 a5 au ba bg bh bf b6 b1 a0 ag ak ay aw a7 ae ad a6 av a2 ah aj ar ax a9 a8 ac ab az b9 bc bd be b5 (Q0U.up b7 ai an b0 bb b8 aq ao ap al b4 a1 af am b3 b2 a4 aa a3 a5 au ba bg bh bf b6 b1 a0 ag ak ay aw a7 ae ad a6 av a2 ah aj ar ax a9 a8 ac ab az b9 bc bd be b5 h)
theorem Q0U.run (b7 ai an b0 bb b8 aq : Int) (ao : Option Addr) (ap al : Nat) (b4 a1 af am b3 b2 a4 : Int) (aa : Option Addr) (a3 a5 : Nat) (au ba : Int) (bg : Option Addr) (bh bf : Nat) (b6 b1 a0 ag ak ay aw a7 : Int) (ae : Option Addr) (ad a6 : Nat) (av a2 ah aj ar ax a9 : Int) (a8 : Option Addr) (ac ab : Nat) (az b9 : Int) (bc : Option Addr) (bd be : Nat) (b5 : Int) {V : Value} {Q : World → Prop} {w : World} (h : Q0U.N b7 ai an b0 bb b8 aq ao ap al b4 a1 af am b3 b2 a4 aa a3 a5 au ba bg bh bf b6 b1 a0 ag ak ay aw a7 ae ad a6 av a2 ah aj ar ax a9 a8 ac ab az b9 bc bd be b5 (fun v w' => v = V ∧ Q w') w) : Calls Try.prog 12 #[.agg #[.int .i64 b7, .int .i64 ai, .int .i64 an, .int .u64 b0, .int .i64 bb, .int .i64 b8, .int .i64 aq, .slice ao ap al, .int .u64 b4, .int .i64 a1, .int .i64 af, .int .u64 am, .int .i64 b3, .int .i64 b2, .int .i64 a4, .slice aa a3 a5, .int .u64 au, .int .i64 ba, .slice bg bh bf, .int .u64 b6], .agg #[.int .i64 b1, .int .i64 a0, .int .i64 ag, .int .u64 ak, .int .i64 ay, .int .i64 aw, .int .i64 a7, .slice ae ad a6, .int .u64 av, .int .i64 a2, .int .i64 ah, .int .u64 aj, .int .i64 ar, .int .i64 ax, .int .i64 a9, .slice a8 ac ab, .int .u64 az, .int .i64 b9, .slice bc bd be, .int .u64 b5]] w (Ret V Q) := (Q0U.go b7 ai an b0 bb b8 aq ao ap al b4 a1 af am b3 b2 a4 aa a3 a5 au ba bg bh bf b6 b1 a0 ag ak ay aw a7 ae ad a6 av a2 ah aj ar ax a9 a8 ac ab az b9 bc bd be b5 h).mono fun e w' ⟨v, he, hv, hq⟩ => ⟨by rw [he, hv], hq⟩

abbrev Q0V.J1 (an : Option Addr) (af : Nat) (R : RW) (ai : World) : Prop :=
 Calls Try.prog 26 #[.slice none 0 0, .int .u64 (IntKind.u64.wrap (af : Int))] ai fun ae ag => ∃ (a5 : Option Addr) (a3 a4 : Nat), ae = .returned (.slice a5 a3 a4) ∧
 ∃ (I0 : Nat → List Value → World → Prop) (am : Nat), I0 am [.slice a5 a3 a4, .int .i64 0] ag ∧ ∀ (ak : Nat) (a6 : World) (a7 : Option Addr) (a9 a8 : Nat) (aa : Int), I0 ak [.slice a7 a9 a8, .int .i64 aa] a6 →
 bif decide (aa < (af : Int)) then (
 an.elim False fun ao =>
 0 ≤ (aa : Int) ∧ (aa : Int) < (af : Int) ∧
 ∃ (ad : Option Addr) (ab ac : Nat), a6.cell? (ao.add (Int.toNat aa * 1)) = some (.slice ad ab ac) ∧
 Calls Try.prog 29 #[.slice a7 a9 a8, .slice ad ab ac] a6 fun ah aj => ∃ (a1 : Option Addr) (a2 a0 : Nat), ah = .returned (.slice a1 a2 a0) ∧
 ∃ al, al < ak ∧ I0 al [.slice a1 a2 a0, .int .i64 (IntKind.i64.wrap (aa + 1))] aj) else (
 R (.tuple #[.slice a7 a9 a8, .int .i64 0]) a6)

def Q0V.M (a2 : Option Addr) (a1 a4 : Nat) (R : RW) (w : World) : Prop :=
 bif decide ((a1 : Int) > 1000) then (
 R (.tuple #[.slice none 0 0, .int .i64 3]) w) else (
 Calls Try.prog 52 #[.slice a2 a1 a4, .func (.func 53) #[] #[]] w fun a5 a3 => ∃ (a0 : Bool), a5 = .returned (.bool a0) ∧
 bif a0 then (
 R (.tuple #[.slice none 0 0, .int .i64 3]) a3) else (
 Q0V.J1 a2 a1 R a3))

theorem Q0V.ok (a1 : Option Addr) (a0 a2 : Nat) {R : RW} {w : World} (h : Q0V.M a1 a0 a2 R w) : Calls Try.prog 21 #[.slice a1 a0 a2] w fun e w' => ∃ v, e = .returned v ∧ R v w' :=
  Q08 follows (H := [(0, [18, 19], [(4, (.one .slice)), (20, (.one (.int .i64)))])]) (args := [.slice a1 a0 a2]) (cast (by kernel_rfl) h)

def Q0V.N (ai : Option Addr) (ab ao : Nat) (R : RW) (w : World) : Prop :=
 ((ab : Int) > 1000 →
 R (.tuple #[.slice none 0 0, .int .i64 3]) w) ∧
 ((ab : Int) ≤ 1000 →
 Calls Try.prog 52 #[.slice ai ab ao, .func (.func 53) #[] #[]] w fun aq al => ∃ (a0 : Bool), aq = .returned (.bool a0) ∧
 (a0 = true →
 R (.tuple #[.slice none 0 0, .int .i64 3]) al) ∧
 (a0 = false →
 Calls Try.prog 26 #[.slice none 0 0, .int .u64 (IntKind.u64.wrap (ab : Int))] al fun ap an => ∃ (a6 : Option Addr) (a7 a8 : Nat), ap = .returned (.slice a6 a7 a8) ∧
 ∃ (I0 : Nat → List Value → World → Prop) (ar : Nat), I0 ar [.slice a6 a7 a8, .int .i64 0] an ∧ ∀ (aj : Nat) (a5 : World) (aa : Option Addr) (ac a9 : Nat) (a4 : Int), I0 aj [.slice aa ac a9, .int .i64 a4] a5 →
 (a4 < (ab : Int) →
 ∃ ak : Addr, ai = some ak ∧
 0 ≤ (a4 : Int) ∧ (a4 : Int) < (ab : Int) ∧
 ∃ (ae : Option Addr) (af ad : Nat), a5.cell? (ak.add (Int.toNat a4 * 1)) = some (.slice ae af ad) ∧
 Calls Try.prog 29 #[.slice aa ac a9, .slice ae af ad] a5 fun ag ah => ∃ (a1 : Option Addr) (a2 a3 : Nat), ag = .returned (.slice a1 a2 a3) ∧
 (-9223372036854775808 : Int) ≤ (a4 + 1) ∧ (a4 + 1) < 9223372036854775808 ∧
 ∃ am, am < aj ∧ I0 am [.slice a1 a2 a3, .int .i64 (a4 + 1)] ah) ∧
 ((ab : Int) ≤ a4 →
 R (.tuple #[.slice aa ac a9, .int .i64 0]) a5)))

theorem Q0V.up (ai : Option Addr) (aj ah : Nat) {R : RW} {w : World} (h : Q0V.N ai aj ah R w) : Q0V.M ai aj ah R w := by
  unfold Q0V.M
  unfold Q0V.N at h
  refine bif_of (fun c2 => ?_) (fun c2 => ?_)
  ·have h := h.1 (of_decide_eq_true c2)
   exact h
  have h := h.2 (Int.not_lt.1 (of_decide_eq_false c2))
  refine h.mono fun b0 az h => ?_
  obtain ⟨a0, he, h⟩ := h
  refine ⟨a0, he, ?_⟩
  refine bif_of (fun c6 => ?_) (fun c6 => ?_)
  ·have h := h.1 c6
   exact h
  have h := h.2 c6
  first | unfold Q0V.J1 | skip
  refine h.mono fun ax aw h => ?_
  obtain ⟨a4, a5, a6, he, h⟩ := h
  refine ⟨a4, a5, a6, he, ?_⟩
  obtain ⟨I0, ar, h0, h⟩ := h
  refine ⟨I0, ar, h0, fun am ag ae ac a9 au hI => ?_⟩
  have h := h am ag ae ac a9 au hI
  refine bif_fo (fun aa => ?_) (fun aa => ?_)
  ·have h := h.2 (Int.not_lt.1 (of_decide_eq_false aa))
   exact h
  have h := h.1 (of_decide_eq_true aa)
  obtain ⟨ay, ad, h⟩ := h
  refine Q0L ad ?_
  obtain ⟨ak, ao, h⟩ := h
  refine ⟨ak, ao, ?_⟩
  obtain ⟨a8, af, a7, ab, h⟩ := h
  refine ⟨a8, af, a7, ab, ?_⟩
  refine h.mono fun al an h => ?_
  obtain ⟨a1, a2, a3, he, h⟩ := h
  refine ⟨a1, a2, a3, he, ?_⟩
  obtain ⟨ap, av, h⟩ := h
  try rw [w64 ap av]
  obtain ⟨aq, hk, h⟩ := h
  exact ⟨aq, hk, h⟩

theorem Q0V.go (a1 : Option Addr) (a0 a2 : Nat) {R : RW} {w : World} (h : Q0V.N a1 a0 a2 R w) : Calls Try.prog 21 #[.slice a1 a0 a2] w fun e w' => ∃ v, e = .returned v ∧ R v w' := Q0V.ok a1 a0 a2 (Q0V.up a1 a0 a2 h)
def Q0A.M (ad aj an aq ap ai : Int) (al : Option Addr) (ah am : Nat) (ao : Int) (R : RW) (w : World) : Prop :=
 thenW (w.alloc (.cells #[.int .i64 ad, .int .i64 aj, .int .u64 an, .int .i64 aq, .int .i64 ap, .int .i64 ai, .slice al ah am, .int .u64 ao] 27)) fun ax =>
 ∃ (a0 a9 ac ae af a5 : Int) (a8 : Option Addr) (a6 a3 : Nat) (ag : Int), cellsAt ax (blk w.heap.size) [.int .i64 a0, .int .i64 a9, .int .u64 ac, .int .i64 ae, .int .i64 af, .int .i64 a5, .slice a8 a6 a3, .int .u64 ag] 0 ∧
 Calls Try.prog 64 #[.agg #[.int .i64 a0, .int .i64 a9, .int .u64 ac, .int .i64 ae, .int .i64 af, .int .i64 a5, .slice a8 a6 a3, .int .u64 ag]] ax fun au aw => ∃ (a1 : Option Addr) (a7 ab : Nat) (ak : Int), au = .returned (.tuple #[.slice a1 a7 ab, .int .i64 ak]) ∧
 Calls Try.prog 42 #[.slice a1 a7 ab] aw fun ar av => ∃ (aa : Option Addr) (a4 a2 : Nat), ar = .returned (.slice aa a4 a2) ∧
 R (.slice aa a4 a2) av

theorem Q0A.ok (a0 a4 a6 a7 a8 a1 : Int) (a3 : Option Addr) (a2 a5 : Nat) (a9 : Int) {R : RW} {w : World} (h : Q0A.M a0 a4 a6 a7 a8 a1 a3 a2 a5 a9 R w) : Calls Try.prog 41 #[.agg #[.int .i64 a0, .int .i64 a4, .int .u64 a6, .int .i64 a7, .int .i64 a8, .int .i64 a1, .slice a3 a2 a5, .int .u64 a9]] w fun e w' => ∃ v, e = .returned v ∧ R v w' :=
  Q08 follows (H := []) (args := [.agg #[.int .i64 a0, .int .i64 a4, .int .u64 a6, .int .i64 a7, .int .i64 a8, .int .i64 a1, .slice a3 a2 a5, .int .u64 a9]]) (cast (by kernel_rfl) h)

def Q0A.N (a6 a9 ad ag af a8 : Int) (aa : Option Addr) (a7 ac : Nat) (ae : Int) (R : RW) (w : World) : Prop :=
 ∀ (al : World), Ext no w al →
 Calls Try.prog 64 #[.agg #[.int .i64 a6, .int .i64 a9, .int .u64 ad, .int .i64 ag, .int .i64 af, .int .i64 a8, .slice aa a7 ac, .int .u64 ae]] al fun ai ak => ∃ (a4 : Option Addr) (a3 a0 : Nat) (ab : Int), ai = .returned (.tuple #[.slice a4 a3 a0, .int .i64 ab]) ∧
 Calls Try.prog 42 #[.slice a4 a3 a0] ak fun ah aj => ∃ (a5 : Option Addr) (a1 a2 : Nat), ah = .returned (.slice a5 a1 a2) ∧
 R (.slice a5 a1 a2) aj

theorem Q0A.up (a0 a3 a6 ae aa a2 : Int) (a4 : Option Addr) (a1 a5 : Nat) (a8 : Int) {R : RW} {w : World} (h : Q0A.N a0 a3 a6 ae aa a2 a4 a1 a5 a8 R w) : Q0A.M a0 a3 a6 ae aa a2 a4 a1 a5 a8 R w := by
  unfold Q0A.M
  unfold Q0A.N at h
  refine Q02 fun ai e9 => ?_
  have ah := Blk.of_new e9
  have ao := ((Ext.refl no w)).size
  have aj := (Ext.refl no w).x_alloc e9
  refine ⟨a0, a3, a6, ae, aa, a2, a4, a1, a5, a8, ⟨ah.celli 0 rfl rfl, ah.celli 1 rfl rfl, ah.celli 2 rfl rfl, ah.celli 3 rfl rfl, ah.celli 4 rfl rfl, ah.celli 5 rfl rfl, ah.celli 6 rfl rfl, ah.celli 7 rfl rfl, trivial⟩, ?_⟩
  have h := h ai aj
  refine h.mono fun al an h => ?_
  obtain ⟨ad, ac, a7, ag, he, h⟩ := h
  refine ⟨ad, ac, a7, ag, he, ?_⟩
  refine h.mono fun ak am h => ?_
  obtain ⟨af, a9, ab, he, h⟩ := h
  refine ⟨af, a9, ab, he, ?_⟩
  exact h

theorem Q0A.go (a0 a4 a6 a7 a8 a1 : Int) (a3 : Option Addr) (a2 a5 : Nat) (a9 : Int) {R : RW} {w : World} (h : Q0A.N a0 a4 a6 a7 a8 a1 a3 a2 a5 a9 R w) : Calls Try.prog 41 #[.agg #[.int .i64 a0, .int .i64 a4, .int .u64 a6, .int .i64 a7, .int .i64 a8, .int .i64 a1, .slice a3 a2 a5, .int .u64 a9]] w fun e w' => ∃ v, e = .returned v ∧ R v w' := Q0A.ok a0 a4 a6 a7 a8 a1 a3 a2 a5 a9 (Q0A.up a0 a4 a6 a7 a8 a1 a3 a2 a5 a9 h)
end Go.Proofs.Ytoempemllkebkaa
set_option linter.unusedSectionVars false
namespace Go.Mx
def SeqQ : List (Nat × (World → List Value → Prop)) → World → List Value → Prop
  | [], _, cs => cs = []
  | q :: r, W, cs => ∃ x y, cs = x ++ y ∧ x.length = q.1 ∧ q.2 W x ∧ SeqQ r W y
def Q2k (P : Program) : List Field → Nat → List (Nat × (World → List Value → Prop)) → Nat → Prop
  | [], off, [], size => off = size
  | f :: r, off, q :: s, size => (f.offset = off ∧ P.cellsOf f.type = q.1 ∧ Opens P f.type q.2) ∧ Q2k P r (off + q.1) s size
  | _, _, _, _ => False
theorem seq_of {P : Program} {W : World} {cs : List Value} : ∀ {l : List Field} {off : Nat} {qs : List (Nat × (World → List Value → Prop))} {size : Nat}, Q2k P l off qs size → cs.length = size →
    (∀ (i : Nat) (f : Field), l[i]? = some f → ∀ Q, Opens P f.type Q → Q W ((cs.drop f.offset).take (P.cellsOf f.type))) → off ≤ cs.length → (∀ q ∈ qs, True) → SeqQ qs W (cs.drop off)
  | [], off, [], size, h, hl, _, _, _ => by
    simp only [Q2k] at h
    simp only [SeqQ]
    exact List.drop_eq_nil_of_le (by omega)
  | f :: r, off, q :: s, size, h, hl, hf, hle, _ => by
    obtain ⟨⟨h1, h2, h3⟩, h4⟩ := h
    have h0 := hf 0 f rfl q.2 h3
    rw [h1, h2] at h0
    have hsz : ∀ {l : List Field} {off : Nat} {qs : List (Nat × (World → List Value → Prop))}, Q2k P l off qs size → off ≤ size := by
      intro l
      induction l with
      | nil => intro off qs h; cases qs with | nil => exact Nat.le_of_eq h | cons _ _ => exact h.elim
      | cons f r ih => intro off qs h; cases qs with | nil => exact h.elim | cons q s => have := ih h.2; omega
    have hle2 := hsz h4
    refine ⟨(cs.drop off).take q.1, cs.drop (off + q.1), ?_, ?_, h0, ?_⟩
    · rw [← List.drop_drop, List.take_append_drop]
    · rw [List.length_take, List.length_drop]; omega
    · exact seq_of h4 hl (fun i f hi => hf (i + 1) f (by simpa using hi)) (by omega) (fun _ _ => trivial)
  | [], _, _ :: _, _, h, _, _, _, _ => h.elim
  | _ :: _, _, [], _, h, _, _, _, _ => h.elim
theorem Q5f {P : Program} {t : TypeId} {fs : Array Field} {size : Nat} {qs : List (Nat × (World → List Value → Prop))} (ht : P.underlying t = some (.struct fs)) (hs : P.cellsOf t = size) (h : Q2k P fs.toList 0 qs size) : Opens P t (SeqQ qs) :=
  (Q1v ht hs).mono fun W cs ⟨hl, hf⟩ => seq_of (off := 0) h hl (fun i f hi => hf i f (by rw [← Array.getElem?_toList]; exact hi)) (Nat.zero_le _) fun _ _ => trivial
section
variable {α : Type} {f : α → List Value} {n : Nat} {w : World} {a : Option Addr} {l : List α}
end
end Go.Mx
namespace Go.Mx
section
variable {K K1 : Nat → Prop} {w w1 w' w0 : World} {o o1 o' o0 : Own} {p q j k N : Nat} {e : TypeId} {size n c : Nat} {a : Option Addr} {cs : List Value}
end
end Go.Mx
namespace Go.Mx
open Go
section
variable {P : Program} {w w' : World} {q k : Nat} {t e : TypeId} {cs vs : List Value}
theorem Grows.ne {w : World} {o : Own} {sz n c g b : Nat} {a : Option Addr} {cs' : List Value} (h : Grows e sz w o g a n c cs) (hb : Blk w b t cs') (hte : t ≠ e) : ∀ ad, a = some ad → ad.block ≠ b := by
  intro ad ha hq
  rcases h.own.2 with ⟨hv, h0⟩ | ⟨q, cap, cur, hv, hle, hgb, _⟩
  · cases hv; cases ha
  · cases hv; cases ha
    simp only at hq
    subst hq
    unfold Blk at hb
    rw [hb] at hgb
    cases hgb
    exact hte rfl
end
end Go.Mx
set_option maxRecDepth 20000
namespace Go.Proofs.Ytoempemllkebkaa
open Go Go.Mx Go.Proofs
open W (OwnB Rd numR countR doneR)
theorem inf1 : (Try.prog.info? 1).map (fun i => (i.zero, i.size, i.bytes)) = some (some (.nilFunc), 1, 8) := by kernel_rfl
def FP.zero : FP := ⟨Fr.zero, none, 0, none, 0, none, 0⟩
structure FP.own (w : World) (o : Own) (x : FP) : Prop where
  e : Row w o x.ea (bytesV x.r.e.body)
  f : Row w o x.fa (bytesV x.r.f.body)
  v : Row w o x.va (hsC x.r.v)
def rgC (p : Nat) (x : FP) (la : Option Addr) (n c : Nat) : List Value := .pointer (some (blk p)) :: (x.C ++ [.slice la n c])
structure RG (w : World) (o : Own) (p q : Nat) (bs : List UInt8) (k : Int) (x : FP) (L : List Value) : Prop where
  rd : Rd w p bs k
  mem : ∃ la lc, Blk w q 72 (rgC p x la L.length lc) ∧ Go.Mx.Grows 1 1 w o q la L.length lc L ∧ (∀ ad, la = some ad → p < ad.block)
  tp : o p = some p
  tq : o q = some q
  pq : p < q
  ok : x.own w o
  fl : bs.length < 1000000
section
variable {w w' w1 : World} {o o' o1 : Own} {p q b t : Nat} {bs : List UInt8} {k : Int} {x : FP} {L : List Value} {K : Nat → Prop}
theorem FP.own.at (h : x.own w o) : x.at w := ⟨h.e.1, h.f.1, h.v.1⟩
theorem FP.own.step (h : x.own w o) (s : Step K w o w' o') : x.own w' o' := ⟨h.e.step s, h.f.step s, h.v.step s⟩
theorem FP.own.zero (w : World) (o : Own) : FP.zero.own w o := ⟨Row.nil _ _ _, Row.nil _ _ _, Row.nil _ _ _⟩
theorem RG.lt (h : RG w o p q bs k x L) : q < w.heap.size := by obtain ⟨_, _, b, _⟩ := h.mem; exact b.lt
theorem RG.no (h : RG w o p q bs k x L) (s : Step no w o w' o') (X : Ext no w w') : RG w' o' p q bs k x L := by
  obtain ⟨la, lc, b, g, hl⟩ := h.mem
  exact ⟨h.rd.no X, ⟨la, lc, s.blk b h.tq id, g.step s id, hl⟩, by rw [s.own h.rd.lt]; exact h.tp, by rw [s.own b.lt]; exact h.tq, h.pq, h.ok.step s, h.fl⟩
theorem RG.read (h : RG w o p q bs k x L) (ok : Tags w o) (X : Ext (fun b => b = p) w w') {bs' : List UInt8} {k' : Int} (hr : Rd w' p bs' k') (hl : bs'.length ≤ bs.length) :
    Step (fun j => j = p) w o w' (grow w o) ∧ RG w' (grow w o) p q bs' k' x L := by
  obtain ⟨la, lc, b, g, hla⟩ := h.mem
  have s : Step (fun j => j = p) w o w' (grow w o) := Step.of_ext X ok fun b hb _ => by subst hb; exact h.tp
  have hqp : q ≠ p := by have := h.pq; omega
  exact ⟨s, hr, ⟨la, lc, s.blk b h.tq hqp, g.step s hqp, hla⟩, by rw [s.own h.rd.lt]; exact h.tp, by rw [s.own b.lt]; exact h.tq, h.pq, h.ok.step s, by have := h.fl; omega⟩
theorem RG.put (h : RG w o p q bs k x L) (ok : Tags w o) (X : Ext (fun b => b = q) w w') {x' : FP} {la : Option Addr} {lc : Nat} (b : Blk w q 72 (rgC p x la L.length lc)) (b' : Blk w' q 72 (rgC p x' la L.length lc)) (hx : x'.own w' (grow w o)) :
    Step (fun j => j = q) w o w' (grow w o) ∧ RG w' (grow w o) p q bs k x' L := by
  obtain ⟨la0, lc0, b0, g, hla⟩ := h.mem
  have hc := (b0.celli (a := (blk q).add 21) 21 rfl (show (rgC p x la0 L.length lc0)[21]? = some (.slice la0 L.length lc0) from rfl)).symm.trans (b.celli (a := (blk q).add 21) 21 rfl (show (rgC p x la L.length lc)[21]? = some (.slice la L.length lc) from rfl))
  cases hc
  have s : Step (fun j => j = q) w o w' (grow w o) := Step.of_ext X ok fun b hb _ => by subst hb; exact h.tq
  have hgq : ∀ ad, la = some ad → ad.block ≠ q := g.ne b (by decide)
  exact ⟨s, h.rd.up X fun b hb => by subst hb; exact h.pq, ⟨la, lc, b', g.keep X hgq fun b hb => grow_lt hb, hla⟩, by rw [s.own h.rd.lt]; exact h.tp, by rw [s.own b.lt]; exact h.tq, h.pq, hx, h.fl⟩
theorem RG.far (h : RG w o p q bs k x L) {m : Nat → Prop} (s : Step K w o w' o') (X : Ext m w w') (hm : ∀ b, m b → q < b) (hk : ¬ K q) : RG w' o' p q bs k x L := by
  obtain ⟨la, lc, b, g, hl⟩ := h.mem
  exact ⟨h.rd.up X fun b hb => by have := hm b hb; have := h.pq; omega, ⟨la, lc, s.blk b h.tq hk, g.step s hk, hl⟩, by rw [s.own h.rd.lt]; exact h.tp, by rw [s.own b.lt]; exact h.tq, h.pq, h.ok.step s, h.fl⟩
theorem RG.later (h : RG w o p q bs k x L) (ok : Tags w o) (hL : L.length < 100) {v : Value} {qb : Nat} (hv : v.oneCell' = true) (hb : Blk w qb 1 [v]) {la : Option Addr} {n lc : Nat} (hc : w.cell? ((blk q).add 21) = some (.slice la n lc)) :
    ∃ a' c' w1, (Builtin.append_ #[70, 70] 70 #[.slice la n lc, .slice (some (blk qb)) 1 1]).run Try.prog w = .ok (.slice a' (L.length + 1) c') w1 ∧ Ext (fun b => ∃ ad, la = some ad ∧ b = ad.block) w w1 ∧ Q01 w1 (((blk q).add 21).add 0) ∧
      (∀ w', w' = w1.setCell (((blk q).add 21).add 0) (.slice a' (L.length + 1) c') → ∃ o', Step (fun j => j = q) w o w' o' ∧ RG w' o' p q bs k x (L ++ [v])) := by
  obtain ⟨la0, lc0, b, g, hla⟩ := h.mem
  have hc' := hc.symm.trans (b.celli (a := (blk q).add 21) 21 rfl (show (rgC p x la0 L.length lc0)[21]? = some (.slice la0 L.length lc0) from rfl))
  cases hc'
  obtain ⟨i, hi, hz, hs, hby⟩ := info_of inf1
  obtain ⟨a', c', w1, o1, r1, s1, g1, e1, e2⟩ := g.push (P := Try.prog) (ty := 70) Try.underlying70 hi hz hs hby (by rfl) (by decide) ok b.lt (xa := some (blk qb)) (m := 1) (xc := 1) (news := [v]) (by rfl) (RowAt.of_blk hb) (fun u hu => by rw [List.mem_singleton.1 hu]; exact hv) (by omega) (by omega)
  have hgq : ∀ ad, la = some ad → ad.block ≠ q := g.ne b (by decide)
  have hbk : w1.heap[q]? = w.heap[q]? := e1 q b.lt fun ad ha e => hgq ad ha e.symm
  have b1 : Blk w1 q 72 (rgC p x la L.length lc) := by unfold Blk at b ⊢; rw [hbk]; exact b
  have X1 : Ext (fun b => ∃ ad, la = some ad ∧ b = ad.block) w w1 := ⟨s1.ext.os, s1.ext.tape, s1.ext.output, s1.ext.size, fun b hb hn => e1 b hb fun ad ha hb' => hn ⟨ad, ha, hb'⟩⟩
  refine ⟨a', c', w1, r1, X1, b1.cani 21 rfl rfl, fun w' e => ?_⟩
  have X2 : Ext (fun b => b = q) w1 w' := (Ext.refl (fun b => b = q) w1).x_set (q := q) (i := 21) rfl (.inl rfl) e
  have tq1 : o1 q = some q := by rw [s1.own b.lt]; exact h.tq
  have s2 : Step (fun j => j = q) w1 o1 w' (grow w1 o1) := Step.of_ext X2 s1.ok fun b hb _ => by subst hb; exact tq1
  have b2 := b1.seti 21 rfl e
  have hgq1 : ∀ ad, a' = some ad → ad.block ≠ q := fun ad ha => by
    rcases e2 ad ha with ⟨b0, hb0, e⟩ | e
    · rw [e]; exact hgq b0 hb0
    · rw [e]; have := b.lt; omega
  refine ⟨_, s1.trans s2, ?_, ⟨a', c', ?_, ?_, fun ad ha => ?_⟩, ?_, ?_, h.pq, (h.ok.step s1).step s2, h.fl⟩
  · exact (h.rd.up X1 fun b ⟨ad, ha, hb⟩ => by rw [hb]; exact hla ad ha).up X2 fun b hb => by subst hb; exact h.pq
  · rw [List.length_append]; exact b2
  · rw [List.length_append]; exact g1.keep X2 hgq1 fun b hb => grow_lt hb
  · rcases e2 ad ha with ⟨b0, hb0, e⟩ | e
    · rw [e]; exact hla b0 hb0
    · rw [e]; exact h.rd.lt
  · rw [s2.own (Nat.lt_of_lt_of_le h.rd.lt X1.size), s1.own h.rd.lt]; exact h.tp
  · rw [s2.own (Nat.lt_of_lt_of_le b.lt X1.size)]; exact tq1
theorem RG.ptr (h : RG w o p q bs k x L) : w.cell? ((blk q).add 0) = some (.pointer (some (blk p))) := by
  obtain ⟨la, lc, b, _⟩ := h.mem
  exact b.celli 0 rfl rfl
theorem RG.laterC (h : RG w o p q bs k x L) : ∃ la lc, w.cell? ((blk q).add 21) = some (.slice la L.length lc) ∧ RowAt w la L := by
  obtain ⟨la, lc, b, g, _⟩ := h.mem
  exact ⟨la, lc, b.celli 21 rfl rfl, g.row⟩
/-! ### the parts that are looked at in the end -/
def toV (q : Nat) : Nat → Value
  | 0 => .pointer (some (((blk q).add 1).add 1))
  | 1 => .pointer (some (((blk q).add 1).add 9))
  | _ => .pointer (some (blk q))
def toF : Nat → Nat
  | 0 => 97
  | 1 => 97
  | _ => 92
def toT : Nat → Nat
  | 0 => 118
  | 1 => 118
  | _ => 67
def Tk (w : World) (o : Own) (q : Nat) (v : Value) (c : Nat × List UInt8) : Prop :=
  ∃ (b t : Nat) (xa : Option Addr) (xc : Nat), v = .func (.func (toF c.1)) #[] #[.pointer (some (blk b)), .pointer (some (blk t))] ∧ Blk w b 25 [.slice xa c.2.length xc] ∧ o b = some b ∧ Row w o xa (bytesV c.2) ∧ c.2.length ≤ xc ∧ c.2.length < 1000000 ∧ Blk w t (toT c.1) [toV q c.1] ∧ o t = none
theorem free_of {tt : TypeId} {cs : List Value} (hb : Blk w b tt cs) (ho : o b = none) (s : Step K w o w' o') : Blk w' b tt cs ∧ o' b = none := by
  have e : w'.heap[b]? = w.heap[b]? := s.at hb.lt fun k hk => by rw [ho] at hk; cases hk
  exact ⟨by unfold Blk at hb ⊢; rw [e]; exact hb, by rw [s.own hb.lt]; exact ho⟩
theorem Tk.step {v : Value} {c : Nat × List UInt8} (h : Tk w o q v c) (s : Step K w o w' o') (hk : ∀ b cs, Blk w b 25 cs → ¬ K b) : Tk w' o' q v c := by
  obtain ⟨b, t, xa, xc, e, hb, tb, hr, hc, hl, ht, tt⟩ := h
  obtain ⟨ht', tt'⟩ := free_of ht tt s
  exact ⟨b, t, xa, xc, e, s.blk hb tb (hk _ _ hb), by rw [s.own hb.lt]; exact tb, hr.step s, hc, hl, ht', tt'⟩
def Fr.put (f : Fr) (c : Nat × List UInt8) : Fr × Int :=
  match c.1 with
  | 0 => ({ f with e := (readE c.2).1 }, (readE c.2).2)
  | 1 => ({ f with f := (readE c.2).1 }, (readE c.2).2)
  | _ => ({ f with v := (readV c.2).1 }, (readV c.2).2)
end
abbrev kindP (k : Int) : PanicEntry := { v := .iface 33 (.int .i64 k), recovered := false }
theorem Q2l (k : Int) (w : World) : Calls Try.prog 61 #[.int .i64 k] w fun e w' => (k = 0 ∧ e = .returned (.tuple #[]) ∧ w' = w) ∨ (k ≠ 0 ∧ e = .panicked [kindP k] ∧ w' = w) := by
  refine (frmMust.ok k (Φ := fun ch w' => k ≠ 0 ∧ ch = [kindP k] ∧ w' = w) (R := fun v w' => k = 0 ∧ v = .tuple #[] ∧ w' = w) ?_).mono fun e w' h => ?_
  · unfold frmMust.M
    by_cases hk : k = 0
    · subst hk; exact ⟨rfl, rfl, rfl⟩
    · rw [show (k != 0) = true by simpa using hk, cond_true]
      exact ⟨hk, rfl, rfl⟩
  · rcases h with ⟨v, he, hk, hv, hw⟩ | ⟨ch, he, hk, hc, hw⟩
    · exact .inl ⟨hk, by rw [he, hv], hw⟩
    · exact .inr ⟨hk, by rw [he, hc], hw⟩
open W (OwnB Rd numR countR doneR)
section
variable {w w' w1 : World} {o o' o1 : Own} {p q b t : Nat} {bs : List UInt8} {k : Int} {x : FP} {L : List Value} {K : Nat → Prop}
def LkR (w : World) (o : Own) (p q : Nat) (bs : List UInt8) (k : Int) (x : FP) (L : List Value) (r : Fr × Int) (e : Ending) (w' : World) : Prop :=
  ∃ o' x', Step (fun j => j = q) w o w' o' ∧ RG w' o' p q bs k x' L ∧ (∃ la lc, w.cell? ((blk q).add 21) = some (.slice la L.length lc) ∧ w'.cell? ((blk q).add 21) = some (.slice la L.length lc)) ∧ ((r.2 = 0 ∧ e = .returned (.tuple #[]) ∧ x'.r = r.1) ∨ (r.2 ≠ 0 ∧ e = .panicked [kindP r.2]))
theorem lkR_of {r : Fr × Int} {e : Ending} (h : (∃ v, e = .returned v ∧ (v = .tuple #[] ∧ LkR w o p q bs k x L r (.returned (.tuple #[])) w')) ∨ ∃ ch, e = .panicked ch ∧ (ch = [kindP r.2] ∧ LkR w o p q bs k x L r (.panicked [kindP r.2]) w')) : LkR w o p q bs k x L r e w' := by
  rcases h with ⟨v, he, hv, h⟩ | ⟨ch, he, hc, h⟩
  · rw [he, hv]; exact h
  · rw [he, hc]; exact h
theorem look0 (A : RG w o p q bs k x L) (ok : Tags w o) {c : List UInt8} {b t : Nat} {xa : Option Addr} {xc : Nat} (hb : Blk w b 25 [.slice xa c.length xc]) (hr : Row w o xa (bytesV c)) (hc : c.length ≤ xc) (hl : c.length < 1000000) (ht : Blk w t (toT 0) [toV q 0]) (tt : o t = none) :
    Calls Try.prog 97 #[.pointer (some (blk b)), .pointer (some (blk t))] w (LkR w o p q bs k x L (x.r.put (0, c))) := by
  refine (frmEnt.ok (blk b) (blk t) (Φ := fun ch w' => ch = [kindP (x.r.put (0, c)).2] ∧ LkR w o p q bs k x L (x.r.put (0, c)) (.panicked [kindP (x.r.put (0, c)).2]) w') (R := fun v w' => v = .tuple #[] ∧ LkR w o p q bs k x L (x.r.put (0, c)) (.returned (.tuple #[])) w') ?_).mono fun e w' h => lkR_of h
  unfold frmEnt.M
  refine ⟨_, _, _, hb.celli 0 rfl rfl, ?_⟩
  refine (Read_spec hr.1 hc hl).mono fun e w14 ⟨ea, ec, he, hrow, hfr, X14⟩ => .inl ⟨_, _, _, _, _, _, _, _, _, _, _, he, Q02 fun w16 e16 => ?_⟩
  have s14 := Step.of_no X14 ok
  have A14 := A.no s14 X14
  have b16 : Blk w16 w14.heap.size 27 [.int .i64 0, .int .i64 0, .int .u64 0, .int .i64 0, .int .i64 0, .int .i64 0, .slice none 0 0, .int .u64 0] := by subst e16; exact Blk.new _ _ _
  have X16 : Ext no w14 w16 := by subst e16; exact (Ext.refl _ _).alloc _
  obtain ⟨z, hz⟩ : ∃ z, w14.heap.size = z := ⟨_, rfl⟩
  rw [hz] at b16 ⊢
  have s16 := (Step.of_no X16 s14.ok).tag (p := z) (j := z) (by omega) b16.lt
  have A16 := A14.no s16 X16
  have hqz : q < z := by have := A14.lt; omega
  refine Q0a (k := 0) b16 (by show 0 + 0 + 8 ≤ 8; decide) fun w17 X17 b17 => ?_
  have s17 : Step (fun j => j = z) w16 _ w17 _ := Step.of_ext X17 s16.ok fun b hb _ => by subst hb; exact Q1k
  have A17 := A16.far s17 X17 (fun b hb => by omega) (fun e => by omega)
  have b17' : Blk w17 z 27 (entC (readE c).1 ea ec) := b17
  obtain ⟨la, lc, bq0, _, _⟩ := id A.mem
  have bq14 := s14.blk bq0 A.tq id
  have bq16 := s16.blk bq14 A14.tq id
  have bq := s17.blk bq16 A16.tq (fun e => by omega)
  have hs : Step (fun j => j = q) w o w17 _ := ((s14.none.trans s16.none).trans' s17 fun j hj => .inr (by rw [hj, ← hz]; exact X14.size))
  refine (Q2l (readE c).2 w17).mono fun e w19 h => ?_
  rcases h with ⟨hk, he, hw⟩ | ⟨hk, he, hw⟩
  · subst hw
    obtain ⟨ht14, tt14⟩ := free_of ht tt s14
    obtain ⟨ht16, tt16⟩ := free_of ht14 tt14 s16
    obtain ⟨ht17, tt17⟩ := free_of ht16 tt16 s17
    refine .inl ⟨he, _, ht17.celli 0 rfl rfl, _, _, _, _, _, _, _, _, _, _, ⟨b17'.celli 0 rfl rfl, b17'.celli 1 rfl rfl, b17'.celli 2 rfl rfl, b17'.celli 3 rfl rfl, b17'.celli 4 rfl rfl, b17'.celli 5 rfl rfl, b17'.celli 6 rfl rfl, b17'.celli 7 rfl rfl, trivial⟩, ?_⟩
    show putsK w19 ((blk q).add 2) [.int .i64 _, .int .i64 _, .int .u64 _, .int .i64 _, .int .i64 _, .int .i64 _, .slice _ _ _, .int .u64 _] 0 _
    refine Q0a (k := 2) bq (by show 2 + 0 + 8 ≤ 22; decide) fun w38 X38 b38 => ⟨rfl, ?_⟩
    have hrow0 : Row w14 (grow w o) ea (bytesV (readE c).1.body) := Row.fresh hrow fun ad ha => hfr ad ha
    have s38 : Step (fun j => j = q) w19 _ w38 _ := Step.of_ext X38 s17.ok fun b hb _ => by subst hb; exact A17.tq
    have b38' : Blk w38 q 72 (rgC p { x with r := { x.r with e := (readE c).1 }, ea := ea, ec := ec } la L.length lc) := b38
    obtain ⟨s38', A38⟩ := A17.put s17.ok X38 (x' := { x with r := { x.r with e := (readE c).1 }, ea := ea, ec := ec }) bq b38' ⟨((hrow0.step s16).step s17).step s38, A17.ok.f.step s38, A17.ok.v.step s38⟩
    exact ⟨_, _, hs.trans s38', A38, ⟨la, lc, bq0.celli 21 rfl rfl, b38'.celli 21 rfl rfl⟩, .inl ⟨hk, rfl, rfl⟩⟩
  · subst hw
    exact .inr ⟨_, he, rfl, _, x, hs, A17, ⟨la, lc, bq0.celli 21 rfl rfl, bq.celli 21 rfl rfl⟩, .inr ⟨hk, rfl⟩⟩
theorem look1 (A : RG w o p q bs k x L) (ok : Tags w o) {c : List UInt8} {b t : Nat} {xa : Option Addr} {xc : Nat} (hb : Blk w b 25 [.slice xa c.length xc]) (hr : Row w o xa (bytesV c)) (hc : c.length ≤ xc) (hl : c.length < 1000000) (ht : Blk w t (toT 1) [toV q 1]) (tt : o t = none) :
    Calls Try.prog 97 #[.pointer (some (blk b)), .pointer (some (blk t))] w (LkR w o p q bs k x L (x.r.put (1, c))) := by
  refine (frmEnt.ok (blk b) (blk t) (Φ := fun ch w' => ch = [kindP (x.r.put (1, c)).2] ∧ LkR w o p q bs k x L (x.r.put (1, c)) (.panicked [kindP (x.r.put (1, c)).2]) w') (R := fun v w' => v = .tuple #[] ∧ LkR w o p q bs k x L (x.r.put (1, c)) (.returned (.tuple #[])) w') ?_).mono fun e w' h => lkR_of h
  unfold frmEnt.M
  refine ⟨_, _, _, hb.celli 0 rfl rfl, ?_⟩
  refine (Read_spec hr.1 hc hl).mono fun e w14 ⟨ea, ec, he, hrow, hfr, X14⟩ => .inl ⟨_, _, _, _, _, _, _, _, _, _, _, he, Q02 fun w16 e16 => ?_⟩
  have s14 := Step.of_no X14 ok
  have A14 := A.no s14 X14
  have b16 : Blk w16 w14.heap.size 27 [.int .i64 0, .int .i64 0, .int .u64 0, .int .i64 0, .int .i64 0, .int .i64 0, .slice none 0 0, .int .u64 0] := by subst e16; exact Blk.new _ _ _
  have X16 : Ext no w14 w16 := by subst e16; exact (Ext.refl _ _).alloc _
  obtain ⟨z, hz⟩ : ∃ z, w14.heap.size = z := ⟨_, rfl⟩
  rw [hz] at b16 ⊢
  have s16 := (Step.of_no X16 s14.ok).tag (p := z) (j := z) (by omega) b16.lt
  have A16 := A14.no s16 X16
  have hqz : q < z := by have := A14.lt; omega
  refine Q0a (k := 0) b16 (by show 0 + 0 + 8 ≤ 8; decide) fun w17 X17 b17 => ?_
  have s17 : Step (fun j => j = z) w16 _ w17 _ := Step.of_ext X17 s16.ok fun b hb _ => by subst hb; exact Q1k
  have A17 := A16.far s17 X17 (fun b hb => by omega) (fun e => by omega)
  have b17' : Blk w17 z 27 (entC (readE c).1 ea ec) := b17
  obtain ⟨la, lc, bq0, _, _⟩ := id A.mem
  have bq14 := s14.blk bq0 A.tq id
  have bq16 := s16.blk bq14 A14.tq id
  have bq := s17.blk bq16 A16.tq (fun e => by omega)
  have hs : Step (fun j => j = q) w o w17 _ := ((s14.none.trans s16.none).trans' s17 fun j hj => .inr (by rw [hj, ← hz]; exact X14.size))
  refine (Q2l (readE c).2 w17).mono fun e w19 h => ?_
  rcases h with ⟨hk, he, hw⟩ | ⟨hk, he, hw⟩
  · subst hw
    obtain ⟨ht14, tt14⟩ := free_of ht tt s14
    obtain ⟨ht16, tt16⟩ := free_of ht14 tt14 s16
    obtain ⟨ht17, tt17⟩ := free_of ht16 tt16 s17
    refine .inl ⟨he, _, ht17.celli 0 rfl rfl, _, _, _, _, _, _, _, _, _, _, ⟨b17'.celli 0 rfl rfl, b17'.celli 1 rfl rfl, b17'.celli 2 rfl rfl, b17'.celli 3 rfl rfl, b17'.celli 4 rfl rfl, b17'.celli 5 rfl rfl, b17'.celli 6 rfl rfl, b17'.celli 7 rfl rfl, trivial⟩, ?_⟩
    show putsK w19 ((blk q).add 10) [.int .i64 _, .int .i64 _, .int .u64 _, .int .i64 _, .int .i64 _, .int .i64 _, .slice _ _ _, .int .u64 _] 0 _
    refine Q0a (k := 10) bq (by show 10 + 0 + 8 ≤ 22; decide) fun w38 X38 b38 => ⟨rfl, ?_⟩
    have hrow0 : Row w14 (grow w o) ea (bytesV (readE c).1.body) := Row.fresh hrow fun ad ha => hfr ad ha
    have s38 : Step (fun j => j = q) w19 _ w38 _ := Step.of_ext X38 s17.ok fun b hb _ => by subst hb; exact A17.tq
    have b38' : Blk w38 q 72 (rgC p { x with r := { x.r with f := (readE c).1 }, fa := ea, fc := ec } la L.length lc) := b38
    obtain ⟨s38', A38⟩ := A17.put s17.ok X38 (x' := { x with r := { x.r with f := (readE c).1 }, fa := ea, fc := ec }) bq b38' ⟨A17.ok.e.step s38, ((hrow0.step s16).step s17).step s38, A17.ok.v.step s38⟩
    exact ⟨_, _, hs.trans s38', A38, ⟨la, lc, bq0.celli 21 rfl rfl, b38'.celli 21 rfl rfl⟩, .inl ⟨hk, rfl, rfl⟩⟩
  · subst hw
    exact .inr ⟨_, he, rfl, _, x, hs, A17, ⟨la, lc, bq0.celli 21 rfl rfl, bq.celli 21 rfl rfl⟩, .inr ⟨hk, rfl⟩⟩
theorem look2 (A : RG w o p q bs k x L) (ok : Tags w o) {c : List UInt8} {b t : Nat} {xa : Option Addr} {xc : Nat} (hb : Blk w b 25 [.slice xa c.length xc]) (hr : Row w o xa (bytesV c)) (hc : c.length ≤ xc) (hl : c.length < 1000000) (ht : Blk w t (toT 2) [toV q 2]) (tt : o t = none) :
    Calls Try.prog 92 #[.pointer (some (blk b)), .pointer (some (blk t))] w (LkR w o p q bs k x L (x.r.put (2, c))) := by
  refine (frmVec.ok (blk b) (blk t) (Φ := fun ch w' => ch = [kindP (x.r.put (2, c)).2] ∧ LkR w o p q bs k x L (x.r.put (2, c)) (.panicked [kindP (x.r.put (2, c)).2]) w') (R := fun v w' => v = .tuple #[] ∧ LkR w o p q bs k x L (x.r.put (2, c)) (.returned (.tuple #[])) w') ?_).mono fun e w' h => lkR_of h
  unfold frmVec.M
  refine ⟨_, _, _, hb.celli 0 rfl rfl, ?_⟩
  refine (Q4M hr.1 hc hl).mono fun e w14 ⟨ra, rc, he, hO, X14⟩ => .inl ⟨_, _, _, _, he, ?_⟩
  have s14 := Step.of_no X14 ok
  have A14 := A.no s14 X14
  obtain ⟨la, lc, bq0, _, _⟩ := id A.mem
  have bq := s14.blk bq0 A.tq id
  refine (Q2l (readV c).2 w14).mono fun e w19 h => ?_
  rcases h with ⟨hk, he, hw⟩ | ⟨hk, he, hw⟩
  · subst hw
    obtain ⟨ht14, tt14⟩ := free_of ht tt s14
    refine .inl ⟨he, _, ht14.celli 0 rfl rfl, ?_⟩
    show Q01 w19 ((blk q).add 19) ∧ thenW (w19.setCell ((blk q).add 19) _) _
    refine ⟨bq.cani 19 rfl rfl, Q02 fun w38 e38 => ⟨rfl, ?_⟩⟩
    have X38 : Ext (fun b => b = q) w19 w38 := (Ext.refl (fun b => b = q) w19).x_set (q := q) (i := 19) rfl (.inl rfl) e38
    have b38 := bq.seti 19 rfl e38
    have hrow0 : Row w19 (grow w o) ra (hsC (readV c).1) := Row.fresh hO.row fun ad ha => (hO.fr ad ha).1
    have s38 : Step (fun j => j = q) w19 _ w38 _ := Step.of_ext X38 s14.ok fun b hb _ => by subst hb; exact A14.tq
    obtain ⟨s38', A38⟩ := A14.put s14.ok X38 (x' := { x with r := { x.r with v := (readV c).1 }, va := ra, vc := rc }) bq b38 ⟨A14.ok.e.step s38, A14.ok.f.step s38, hrow0.step s38⟩
    exact ⟨_, _, s14.none.trans s38', A38, ⟨la, lc, bq0.celli 21 rfl rfl, b38.celli 21 rfl rfl⟩, .inl ⟨hk, rfl, rfl⟩⟩
  · subst hw
    exact .inr ⟨_, he, rfl, _, x, s14.none, A14, ⟨la, lc, bq0.celli 21 rfl rfl, bq.celli 21 rfl rfl⟩, .inr ⟨hk, rfl⟩⟩
theorem Q56 (A : RG w o p q bs k x L) (ok : Tags w o) {c : Nat × List UInt8} {v : Value} (T : Tk w o q v c) :
    ∃ kk ff gg, v = .func (.func kk) ff gg ∧ enters Try.prog kk = true ∧ Calls Try.prog kk (ff.toList ++ ([] : List Value) ++ gg.toList).toArray w (LkR w o p q bs k x L (x.r.put c)) := by
  obtain ⟨b, t, xa, xc, e, hb, tb, hr, hc, hl, ht, tt⟩ := T
  obtain ⟨i, c⟩ := c
  match i with
  | 0 => exact ⟨_, _, _, e, by kernel_rfl, look0 A ok hb hr hc hl ht tt⟩
  | 1 => exact ⟨_, _, _, e, by kernel_rfl, look1 A ok hb hr hc hl ht tt⟩
  | n + 2 => exact ⟨_, _, _, e, by kernel_rfl, look2 A ok hb hr hc hl ht tt⟩
end
open W (OwnB Rd numR countR doneR)
section
variable {w w' w1 : World} {o o' o1 : Own} {p q b t : Nat} {bs : List UInt8} {k : Int} {x : FP} {L : List Value} {K : Nat → Prop}
abbrev PQ (p q : Nat) : Nat → Prop := fun j => j = p ∨ j = q
def Tks (w : World) (o : Own) (q : Nat) (L : List Value) (l : List (Nat × List UInt8)) : Prop := L.length = l.length ∧ ∀ (i : Nat) (v : Value) (c : Nat × List UInt8), L[i]? = some v → l[i]? = some c → Tk w o q v c
theorem Tks.nil (w : World) (o : Own) (q : Nat) : Tks w o q [] [] := ⟨rfl, fun i v c h => by simp at h⟩
theorem Tks.step {l : List (Nat × List UInt8)} (h : Tks w o q L l) (s : Step K w o w' o') (hk : ∀ b cs, Blk w b 25 cs → ¬ K b) : Tks w' o' q L l := ⟨h.1, fun i v c h1 h2 => (h.2 i v c h1 h2).step s hk⟩
theorem Tks.push {l : List (Nat × List UInt8)} (h : Tks w o q L l) {v : Value} {c : Nat × List UInt8} (hv : Tk w o q v c) : Tks w o q (L ++ [v]) (l ++ [c]) := by
  refine ⟨by simp [h.1], fun i u d h1 h2 => ?_⟩
  by_cases hi : i < L.length
  · rw [List.getElem?_append_left hi] at h1
    rw [List.getElem?_append_left (by rw [← h.1]; exact hi)] at h2
    exact h.2 i u d h1 h2
  · rw [List.getElem?_append_right (by omega)] at h1
    rw [List.getElem?_append_right (by rw [← h.1]; omega), ← h.1] at h2
    cases hj : i - L.length with
    | zero => rw [hj] at h1 h2; simp at h1 h2; subst h1; subst h2; exact hv
    | succ n => rw [hj] at h1; simp at h1
theorem RG.notB (A : RG w o p q bs k x L) : ∀ b cs, Blk w b 25 cs → ¬ PQ p q b := fun b cs hb h => by
  rcases h with h | h
  · subst h
    obtain ⟨a, c, h1, _⟩ := A.rd
    have : some (Obj.cells cs.toArray 25) = some (Obj.cells _ 100) := hb.symm.trans h1
    cases this
  · subst h
    obtain ⟨la, lc, h1, _⟩ := A.mem
    have : some (Obj.cells cs.toArray 25) = some (Obj.cells _ 72) := hb.symm.trans h1
    cases this
def PtR (w : World) (o : Own) (p q : Nat) (s : RS) (f : Fr) (l : List (Nat × List UInt8)) (e : Ending) (w' : World) : Prop :=
  e = .returned (.tuple #[]) ∧ ∃ o' x' L', Step (PQ p q) w o w' o' ∧ RG w' o' p q s.1 s.2 x' L' ∧ Tks w' o' q L' l ∧ x'.r = f
theorem Q3i (A : RG w o p q bs k x L) (ok : Tags w o) (hL : L.length < 50) {i t : Nat} (ht : Blk w t (toT i) [toV q i]) (tt : o t = none) {Φ : World → Prop}
    (hΦ : ∀ w' o' v, Step (PQ p q) w o w' o' → RG w' o' p q (bytesR 4000 (bs, k)).2.1 (bytesR 4000 (bs, k)).2.2 x (L ++ [v]) → Tk w' o' q v (i, (bytesR 4000 (bs, k)).1) → Φ w') :
    Calls Try.prog 55 #[.pointer (some (blk p)), .int .i64 4000] w fun ee9 ww10 => ∃ (bytes8a : Option Addr) (bytes8n bytes8c : Nat), ee9 = .returned (.slice bytes8a bytes8n bytes8c) ∧
      ∀ (ww11 : World) (q12 : Nat), Ext no ww10 ww11 → Blk ww11 q12 25 [.slice none 0 0] → ww10.heap.size ≤ q12 → q12 < ww11.heap.size →
      Q01 ww11 ((blk q12).add 0) ∧
      thenW (ww11.setCell ((blk q12).add 0) (.slice bytes8a bytes8n bytes8c)) fun ww13 => Blk ww13 t (toT i) [toV q i] ∧
      ∃ (later15a : Option Addr) (later15n later15c : Nat), ww13.cell? ((blk q).add 21) = some (.slice later15a later15n later15c) ∧
      ∀ (ww16 : World) (q17 : Nat), Ext no ww13 ww16 → Blk ww16 q17 1 [.func (.func (toF i)) #[] #[.pointer (some (blk q12)), .pointer (some (blk t))]] → ww13.heap.size ≤ q17 → q17 < ww16.heap.size →
      Blk ww16 t (toT i) [toV q i] ∧ ww16.cell? ((blk q).add 21) = some (.slice later15a later15n later15c) ∧
      ∃ (a18a : Option Addr) (a18n a18c : Nat) (ww19 : World), (Builtin.append_ #[70, 70] 70 #[.slice later15a later15n later15c, .slice (some (blk q17)) 1 1]).run Try.prog ww16 = .ok (.slice a18a a18n a18c) ww19 ∧ Blk ww19 t (toT i) [toV q i] ∧
      Q01 ww19 (((blk q).add 21).add 0) ∧
      thenW (ww19.setCell (((blk q).add 21).add 0) (.slice a18a a18n a18c)) Φ := by
  refine (Q2P A.rd A.fl (m := 4000) (by decide)).mono fun e w10 ⟨xa, xc, he, hO, hr, X10⟩ => ⟨_, _, _, he, fun w11 q12 X11 b11 hq12 hq12' => ?_⟩
  have hl := Q1o 4000 (bs, k)
  obtain ⟨s10, A10⟩ := A.read ok X10 hr hl.1
  have hrow : Row w10 (grow w o) xa (bytesV (bytesR 4000 (bs, k)).1) := Row.fresh hO.row fun ad ha => (hO.fr ad ha).1
  have s11 := (Step.of_no X11 s10.ok).tag (p := q12) (j := q12) hq12 hq12'
  have z10 := X10.size
  have z11 := X11.size
  have hqlt := A.lt
  have A11 := A10.far s11 X11 (fun b hb => hb.elim) id
  refine ⟨b11.cani 0 rfl rfl, Q02 fun w13 e13 => ?_⟩
  have X13 : Ext (fun b => b = q12) w11 w13 := (Ext.refl (fun b => b = q12) w11).x_set (q := q12) (i := 0) rfl (.inl rfl) e13
  have s13 : Step (fun j => j = q12) w11 _ w13 _ := Step.of_ext X13 s11.ok fun b hb _ => by subst hb; exact Q1k
  have A13 := A11.far s13 X13 (fun b hb => by omega) (fun e => by omega)
  have b13 : Blk w13 q12 25 [.slice xa (bytesR 4000 (bs, k)).1.length xc] := b11.seti 0 rfl e13
  have t13 := (s13.own b11.lt).trans (show _ = some q12 from Q1k)
  obtain ⟨la, lc, bq, gq, _⟩ := id A13.mem
  obtain ⟨ht10, tt10⟩ := free_of ht tt s10
  obtain ⟨ht11, tt11⟩ := free_of ht10 tt10 s11
  obtain ⟨ht13, tt13⟩ := free_of ht11 tt11 s13
  refine ⟨ht13, la, _, lc, bq.celli 21 rfl rfl, fun w16 q17 X16 b16 hq17 hq17' => ?_⟩
  have s16 := Step.of_no X16 s13.ok
  have A16 := A13.no s16 X16
  have bq16 := s16.blk bq A13.tq id
  have gq16 := gq.step s16 id
  have hc16 : w16.cell? ((blk q).add 21) = some (.slice la L.length lc) := bq16.celli 21 rfl rfl
  obtain ⟨ht16, tt16⟩ := free_of ht13 tt13 s16
  obtain ⟨a', c', w19, hr19, hX19, hcan, hfin⟩ := A16.later s16.ok (by omega) rfl b16 hc16
  have hti : toT i ≠ 1 := by
    match i with
    | 0 => decide
    | 1 => decide
    | n + 2 => exact (by decide : (67 : Nat) ≠ 1)
  have ht19 : Blk w19 t (toT i) [toV q i] := ht16.ext hX19 fun ⟨ad, ha, e⟩ => gq16.ne ht16 hti ad ha e.symm
  refine ⟨ht16, hc16, a', _, c', w19, hr19, ht19, hcan, Q02 fun w20 e20 => ?_⟩
  obtain ⟨o20, s20, A20⟩ := hfin w20 e20
  obtain ⟨ht20, tt20⟩ := free_of ht16 tt16 s20
  have hS : Step (PQ p q) w o w20 o20 := ((((s10.mono fun j hj _ => (.inl hj : PQ p q j)).trans s11.none).trans' s13 fun j hj => .inr (by rw [hj]; omega)).trans s16.none).trans (s20.mono fun j hj _ => .inr hj)
  have b16' := s16.blk b13 t13 id
  have t16 := (s16.own b13.lt).trans t13
  refine hΦ w20 o20 _ hS A20 ⟨q12, t, xa, xc, rfl, s20.blk b16' t16 (fun e => by omega), by rw [s20.own b16'.lt]; exact t16, (((hrow.step s11).step s13).step s16).step s20, hO.le, by have := A.fl; have h2 : (bytesR 4000 (bs, k)).1.length ≤ bs.length := hl.2; show (bytesR 4000 (bs, k)).1.length < 1000000; omega, ht20, tt20⟩
theorem Q2Q (A : RG w o p q bs k x L) (ok : Tags w o) (hL : L.length < 50) {l : List (Nat × List UInt8)} (T : Tks w o q L l) {i : Nat} {to : Addr} (hi : i < 2) (hto : toV q i = .pointer (some to)) :
    Calls Try.prog 91 #[.pointer (some (blk q)), .pointer (some to)] w (PtR w o p q (bytesR 4000 (bs, k)).2 x.r (l ++ [(i, (bytesR 4000 (bs, k)).1)])) := by
  refine (Q0D.go _ _ (R := fun v w' => v = .tuple #[] ∧ PtR w o p q (bytesR 4000 (bs, k)).2 x.r (l ++ [(i, (bytesR 4000 (bs, k)).1)]) (.returned (.tuple #[])) w') ?_).mono fun e w' ⟨v, he, hv, h⟩ => by rw [he, hv]; exact h
  unfold Q0D.N
  intro w3 q4 X3 b3 hq4 hq4'
  have s3 := Step.of_no X3 ok
  have A3 := A.no s3 X3
  have T3 := T.step s3 fun _ _ _ => id
  have ht : Blk w3 q4 (toT i) [toV q i] := by
    rw [hto]
    match i, hi with
    | 0, _ => exact b3
    | 1, _ => exact b3
  have hF : toF i = 97 := match i, hi with | 0, _ => rfl | 1, _ => rfl
  refine ⟨_, rfl, _, A3.ptr, ?_⟩
  have key := Q3i A3 s3.ok hL ht (grow_ge hq4) (Φ := fun w' => (.tuple #[] : Value) = .tuple #[] ∧ PtR w o p q (bytesR 4000 (bs, k)).2 x.r (l ++ [(i, (bytesR 4000 (bs, k)).1)]) (.returned (.tuple #[])) w') fun w' o' v s R tk => ⟨rfl, rfl, o', x, L ++ [v], s3.none.trans s, R, (T3.step s A3.notB).push tk, rfl⟩
  rw [hF] at key
  refine key.mono fun e w10 ⟨a, n, c, he, h⟩ => ⟨a, n, c, he, fun w11 q12 X b h1 h2 => ?_⟩
  obtain ⟨c1, h⟩ := h w11 q12 X b h1 h2
  obtain ⟨_, la, ln, lc, hc, h⟩ := h
  refine ⟨c1, la, ln, lc, hc, fun w16 q17 X b h1 h2 => ?_⟩
  obtain ⟨_, _, a', n', c', w19, hr, _, hcan, h⟩ := h w16 q17 X b h1 h2
  exact ⟨a', n', c', w19, hr, hcan, h⟩
theorem RG.set (A : RG w o p q bs k x L) (ok : Tags w o) {x' : FP} {ad : Addr} {i : Nat} {v : Value} (ha : ad = ⟨q, i, none⟩) (hc : ∀ la lc, (rgC p x la L.length lc).set i v = rgC p x' la L.length lc) (hi : i < 22) (hx : x'.r.e = x.r.e ∧ x'.ea = x.ea ∧ x'.r.f = x.r.f ∧ x'.fa = x.fa ∧ x'.r.v = x.r.v ∧ x'.va = x.va) :
    Q01 w ad ∧ ∀ w', w' = w.setCell ad v → Step (fun j => j = q) w o w' (grow w o) ∧ RG w' (grow w o) p q bs k x' L := by
  obtain ⟨la, lc, bq, _, _⟩ := id A.mem
  have hl : (rgC p x la L.length lc).length = 22 := rfl
  refine ⟨bq.cani i ha (List.getElem?_eq_getElem (by omega)), fun w' e => ?_⟩
  have X : Ext (fun b => b = q) w w' := (Ext.refl (fun b => b = q) w).x_set (q := q) (i := i) ha (.inl rfl) e
  have b' := bq.seti i ha e
  rw [hc] at b'
  have s : Step (fun j => j = q) w o w' (grow w o) := Step.of_ext X ok fun b hb _ => by subst hb; exact A.tq
  obtain ⟨h1, h2, h3, h4, h5, h6⟩ := hx
  exact A.put ok X bq b' ⟨by rw [h1, h2]; exact A.ok.e.step s, by rw [h3, h4]; exact A.ok.f.step s, by rw [h5, h6]; exact A.ok.v.step s⟩
theorem Q2C (A : RG w o p q bs k x L) (ok : Tags w o) (hL : L.length < 50) {l : List (Nat × List UInt8)} (T : Tks w o q L l) :
    Calls Try.prog 78 #[.pointer (some (blk q))] w (PtR w o p q (bytesR 4000 (countR 7 (bs, k)).2).2 { x.r with who := (countR 7 (bs, k)).1 } (l ++ [(2, (bytesR 4000 (countR 7 (bs, k)).2).1)])) := by
  refine (Q0k.go _ (R := fun v w' => v = .tuple #[] ∧ PtR w o p q (bytesR 4000 (countR 7 (bs, k)).2).2 { x.r with who := (countR 7 (bs, k)).1 } (l ++ [(2, (bytesR 4000 (countR 7 (bs, k)).2).1)]) (.returned (.tuple #[])) w') ?_).mono fun e w' ⟨v, he, hv, h⟩ => by rw [he, hv]; exact h
  unfold Q0k.N
  intro w2 q3 X2 b2 hq3 hq3'
  have s2 := Step.of_no X2 ok
  have A2 := A.no s2 X2
  have T2 := T.step s2 fun _ _ _ => id
  have tq3 : grow w o q3 = none := grow_ge hq3
  have c2 : w2.cell? (blk q3) = some (.pointer (some (blk q))) := b2.celli 0 rfl rfl
  refine ⟨_, c2, _, c2, _, rfl, _, A2.ptr, fun w4 X4 => ?_⟩
  have s4 := Step.of_no X4 s2.ok
  have A4 := A2.no s4 X4
  have T4 := T2.step s4 fun _ _ _ => id
  obtain ⟨b4, t4⟩ := free_of b2 tq3 s4
  refine (W.Count_spec A4.rd A4.fl (m := 7) (by decide)).mono fun e w14 ⟨he, hr, X14⟩ => ⟨_, he, ?_⟩
  obtain ⟨s14, A14⟩ := A4.read s4.ok X14 hr (W.countR_len 7 (bs, k))
  have T14 := T4.step s14 fun b cs hb h => A4.notB b cs hb (.inl h)
  obtain ⟨b14, t14⟩ := free_of b4 t4 s14
  refine ⟨b14.celli 0 rfl rfl, _, rfl, ?_⟩
  obtain ⟨can17, set17⟩ := A14.set s14.ok (x' := { x with r := { x.r with who := (countR 7 (bs, k)).1 } }) (ad := (((blk q).add 1).add 17).add 0) (i := 18) (v := .int .i64 (countR 7 (bs, k)).1) rfl (fun _ _ => rfl) (by decide) ⟨rfl, rfl, rfl, rfl, rfl, rfl⟩
  refine ⟨can17, Q02 fun w17 e17 => ?_⟩
  obtain ⟨s17, A17⟩ := set17 w17 e17
  have T17 := T14.step s17 fun b cs hb h => A14.notB b cs hb (.inr h)
  obtain ⟨b17, t17⟩ := free_of b14 t14 s17
  have c17 : w17.cell? (blk q3) = some (.pointer (some (blk q))) := b17.celli 0 rfl rfl
  refine ⟨_, c17, _, rfl, _, A17.ptr, ?_⟩
  have S17 : Step (PQ p q) w o w17 _ := ((s2.none.trans s4.none).trans (s14.mono fun j hj _ => (.inl hj : PQ p q j))).trans (s17.mono fun j hj _ => .inr hj)
  have key := Q3i A17 s17.ok hL (i := 2) b17 t17 (Φ := fun w' => (.tuple #[] : Value) = .tuple #[] ∧ PtR w o p q (bytesR 4000 (countR 7 (bs, k)).2).2 { x.r with who := (countR 7 (bs, k)).1 } (l ++ [(2, (bytesR 4000 (countR 7 (bs, k)).2).1)]) (.returned (.tuple #[])) w') fun w' o' v s R tk => ⟨rfl, rfl, o', _, L ++ [v], S17.trans s, R, (T17.step s A17.notB).push tk, rfl⟩
  refine key.mono fun e w25 ⟨a, n, c, he, h⟩ => ⟨a, n, c, he, fun w26 q27 X b h1 h2 => ?_⟩
  obtain ⟨c1, h⟩ := h w26 q27 X b h1 h2
  refine ⟨c1, Q02 fun w28 e28 => ?_⟩
  subst e28
  obtain ⟨b28, la, ln, lc, hc, h⟩ := h
  have c28 : World.cell? _ (blk q3) = some (.pointer (some (blk q))) := b28.celli 0 rfl rfl
  refine ⟨_, c28, _, c28, _, rfl, la, ln, lc, hc, fun w37 q38 X b h1 h2 => ?_⟩
  obtain ⟨b37, hc37, a', n', c', w43, hr, b43, hcan, h⟩ := h w37 q38 X b h1 h2
  have c37 : World.cell? _ (blk q3) = some (.pointer (some (blk q))) := b37.celli 0 rfl rfl
  exact ⟨hc37, c37, c37, a', n', c', w43, hr, b43.celli 0 rfl rfl, _, rfl, hcan, h⟩
theorem Q3W (A : RG w o p q bs k x L) (ok : Tags w o) (hL : L.length < 50) {l : List (Nat × List UInt8)} (T : Tks w o q L l) :
    Calls Try.prog 77 #[.pointer (some (blk q))] w (PtR w o p q (bytesR 4000 (bs, k)).2 x.r (l ++ [(0, (bytesR 4000 (bs, k)).1)])) := by
  refine (Q0K.go _ (R := fun v w' => v = .tuple #[] ∧ PtR w o p q (bytesR 4000 (bs, k)).2 x.r (l ++ [(0, (bytesR 4000 (bs, k)).1)]) (.returned (.tuple #[])) w') ?_).mono fun e w' ⟨v, he, hv, h⟩ => by rw [he, hv]; exact h
  unfold Q0K.N
  exact ⟨_, rfl, (Q2Q A ok hL T (i := 0) (by decide) rfl).mono fun e w' h => ⟨h.1, rfl, rfl, h.2⟩⟩
theorem Q4E (A : RG w o p q bs k x L) (ok : Tags w o) (hL : L.length < 49) {l : List (Nat × List UInt8)} (T : Tks w o q L l) :
    Calls Try.prog 80 #[.pointer (some (blk q))] w (PtR w o p q (bytesR 4000 (bytesR 4000 (bs, k)).2).2 x.r (l ++ [(0, (bytesR 4000 (bs, k)).1)] ++ [(1, (bytesR 4000 (bytesR 4000 (bs, k)).2).1)])) := by
  refine (Q0J.go _ (R := fun v w' => v = .tuple #[] ∧ PtR w o p q (bytesR 4000 (bytesR 4000 (bs, k)).2).2 x.r (l ++ [(0, (bytesR 4000 (bs, k)).1)] ++ [(1, (bytesR 4000 (bytesR 4000 (bs, k)).2).1)]) (.returned (.tuple #[])) w') ?_).mono fun e w' ⟨v, he, hv, h⟩ => by rw [he, hv]; exact h
  unfold Q0J.N
  refine (Q3W A ok (by omega) T).mono fun e w' ⟨he, o', x', L', s, A', T', hx⟩ => ⟨he, _, rfl, ?_⟩
  have hl' := T'.1
  have hl := T.1
  rw [List.length_append] at hl'
  refine (Q2Q A' s.ok (by simp at hl'; omega) T' (i := 1) (by decide) rfl).mono fun e w2 ⟨he, o2, x2, L2, s2, A2, T2, hx2⟩ => ⟨he, rfl, rfl, o2, x2, L2, s.trans s2, A2, T2, hx2.trans hx⟩
theorem Q46 (A : RG w o p q bs k x L) (ok : Tags w o) (hL : L.length < 49) {l : List (Nat × List UInt8)} (T : Tks w o q L l) :
    Calls Try.prog 79 #[.pointer (some (blk q))] w (PtR w o p q (numR (bytesR 4000 (countR 7 (bs, k)).2).2).2 { x.r with who := (countR 7 (bs, k)).1, sg := (numR (bytesR 4000 (countR 7 (bs, k)).2).2).1 } (l ++ [(2, (bytesR 4000 (countR 7 (bs, k)).2).1)])) := by
  refine (Q0E.go _ (R := fun v w' => v = .tuple #[] ∧ PtR w o p q (numR (bytesR 4000 (countR 7 (bs, k)).2).2).2 { x.r with who := (countR 7 (bs, k)).1, sg := (numR (bytesR 4000 (countR 7 (bs, k)).2).2).1 } (l ++ [(2, (bytesR 4000 (countR 7 (bs, k)).2).1)]) (.returned (.tuple #[])) w') ?_).mono fun e w' ⟨v, he, hv, h⟩ => by rw [he, hv]; exact h
  unfold Q0E.N
  refine (Q2C A ok (by omega) T).mono fun e w3 ⟨he, o3, x3, L3, s3, A3, T3, hx⟩ => ⟨he, _, rfl, _, A3.ptr, ?_⟩
  refine (W.RNum_spec A3.rd A3.fl).mono fun e w9 ⟨he, hr, X9⟩ => ⟨_, he, ?_⟩
  obtain ⟨s9, A9⟩ := A3.read s3.ok X9 hr (W.numR_len _)
  have T9 := T3.step s9 fun b cs hb h => A3.notB b cs hb (.inl h)
  obtain ⟨can, set⟩ := A9.set s9.ok (x' := { x3 with r := { x3.r with sg := (numR (bytesR 4000 (countR 7 (bs, k)).2).2).1 } }) (ad := (((blk q).add 1).add 19).add 0) (i := 20) (v := .int .u64 (numR (bytesR 4000 (countR 7 (bs, k)).2).2).1) rfl (fun _ _ => rfl) (by decide) ⟨rfl, rfl, rfl, rfl, rfl, rfl⟩
  refine ⟨can, Q02 fun w10 e10 => ?_⟩
  obtain ⟨s10, A10⟩ := set w10 e10
  refine ⟨rfl, rfl, _, _, L3, (s3.trans (s9.mono fun j hj _ => (.inl hj : PQ p q j))).trans (s10.mono fun j hj _ => .inr hj), A10, T9.step s10 fun b cs hb h => A9.notB b cs hb (.inr h), ?_⟩
  dsimp only
  rw [hx]
end
open W (OwnB Rd numR countR doneR)
def kdS (n : Nat) (s : RS) : RS :=
  if n = 1 then (bytesR 4000 s).2 else if n = 2 then (bytesR 4000 (countR 7 s).2).2 else if n = 3 then (numR (bytesR 4000 (countR 7 s).2).2).2 else if n = 4 then (bytesR 4000 (bytesR 4000 s).2).2 else s
def kdF (n : Nat) (f : Fr) (s : RS) : Fr :=
  if n = 2 then { f with who := (countR 7 s).1 } else if n = 3 then { f with who := (countR 7 s).1, sg := (numR (bytesR 4000 (countR 7 s).2).2).1 } else f
def kdL (n : Nat) (s : RS) : List (Nat × List UInt8) :=
  if n = 1 then [(0, (bytesR 4000 s).1)] else if n = 2 then [(2, (bytesR 4000 (countR 7 s).2).1)] else if n = 3 then [(2, (bytesR 4000 (countR 7 s).2).1)] else if n = 4 then [(0, (bytesR 4000 s).1), (1, (bytesR 4000 (bytesR 4000 s).2).1)] else []
def looks : List (Nat × List UInt8) → Fr → Fr × Int
  | [], f => (f, 0)
  | c :: r, f => if (f.put c).2 = 0 then looks r (f.put c).1 else (Fr.zero, (f.put c).2)
def frStart (b : List UInt8) : Fr := kdF (countR 4 (b, 0)).1 { Fr.zero with kd := (countR 4 (b, 0)).1 } (countR 4 (b, 0)).2
def frLooks (b : List UInt8) : Fr × Int := looks (kdL (countR 4 (b, 0)).1 (countR 4 (b, 0)).2) (frStart b)
def frDone (b : List UInt8) : Int := doneR (kdS (countR 4 (b, 0)).1 (countR 4 (b, 0)).2)
def readW (b : List UInt8) : Fr × Int :=
  if frDone b ≠ 0 then (Fr.zero, frDone b) else if (frLooks b).2 ≠ 0 then (Fr.zero, (frLooks b).2) else if frOK (frLooks b).1 = true then ((frLooks b).1, 0) else (Fr.zero, 4)
section
variable {w w' w1 : World} {o o' o1 : Own} {p q b t : Nat} {bs : List UInt8} {k : Int} {x : FP} {L : List Value} {K : Nat → Prop}
theorem Q58 (A : RG w o p q bs k x []) (ok : Tags w o) (n : Nat) :
    Calls Try.prog 60 #[.pointer (some (blk q)), .int .i64 n] w fun e w' => w' = w ∧ ∃ kk ff gg, e = .returned (.func (.func kk) ff gg) ∧ enters Try.prog kk = true ∧ Calls Try.prog kk (ff.toList ++ ([] : List Value) ++ gg.toList).toArray w (PtR w o p q (kdS n (bs, k)) (kdF n x.r (bs, k)) (kdL n (bs, k))) := by
  refine (Q0I.go _ _ (R := fun v w' => w' = w ∧ ∃ kk ff gg, v = .func (.func kk) ff gg ∧ enters Try.prog kk = true ∧ Calls Try.prog kk (ff.toList ++ ([] : List Value) ++ gg.toList).toArray w (PtR w o p q (kdS n (bs, k)) (kdF n x.r (bs, k)) (kdL n (bs, k)))) ?_).mono fun e w' ⟨v, he, hw, kk, ff, gg, hv, h⟩ => ⟨hw, kk, ff, gg, by rw [he, hv], h⟩
  unfold Q0I.N
  have T0 := Tks.nil w o q
  refine ⟨fun h => ⟨rfl, _, _, _, rfl, by kernel_rfl, ?_⟩, fun h1 => ⟨fun h => ⟨rfl, _, _, _, rfl, by kernel_rfl, ?_⟩, fun h2 => ⟨fun h => ⟨rfl, _, _, _, rfl, by kernel_rfl, ?_⟩, fun h3 => ⟨fun h => ⟨rfl, _, _, _, rfl, by kernel_rfl, ?_⟩, fun h4 => ⟨rfl, _, _, _, rfl, by kernel_rfl, ?_⟩⟩⟩⟩⟩
  · obtain rfl : n = 1 := by omega
    exact Q3W A ok (by decide) T0
  · obtain rfl : n = 2 := by omega
    exact Q2C A ok (by decide) T0
  · obtain rfl : n = 3 := by omega
    exact Q46 A ok (by decide) T0
  · obtain rfl : n = 4 := by omega
    exact Q4E A ok (by decide) T0
  · have e1 : kdS n (bs, k) = (bs, k) := by unfold kdS; rw [if_neg (by omega), if_neg (by omega), if_neg (by omega), if_neg (by omega)]
    have e2 : kdF n x.r (bs, k) = x.r := by unfold kdF; rw [if_neg (by omega), if_neg (by omega)]
    have e3 : kdL n (bs, k) = [] := by unfold kdL; rw [if_neg (by omega), if_neg (by omega), if_neg (by omega), if_neg (by omega)]
    rw [e1, e2, e3]
    refine (Q0B.go (R := fun v w' => v = .tuple #[] ∧ PtR w o p q (bs, k) x.r [] (.returned (.tuple #[])) w') ?_).mono fun e w' ⟨v, he, hv, h⟩ => by rw [he, hv]; exact h
    unfold Q0B.N
    exact ⟨rfl, rfl, o, x, [], Step.refl _ ok, A, T0, rfl⟩
theorem Q5g (n : Nat) (s : RS) : (kdL n s).length < 50 := by
  unfold kdL
  repeat' split
  all_goals (simp only [List.length_cons, List.length_nil]; decide)
theorem Q3A (b : List UInt8) : (readV b).1.length ≤ 8 := by
  by_cases h : (readV b).2 = 0
  · exact Q1P (Q2t h).1
  · rw [Q4Q h]; exact Nat.zero_le _
theorem put_v (f : Fr) (c : Nat × List UInt8) (h : f.v.length ≤ 8) : (f.put c).1.v.length ≤ 8 := by
  obtain ⟨i, c⟩ := c
  match i with
  | 0 => exact h
  | 1 => exact h
  | n + 2 => exact Q3A c
theorem looks_v : ∀ (l : List (Nat × List UInt8)) (f : Fr), f.v.length ≤ 8 → (looks l f).1.v.length ≤ 8
  | [], f, h => h
  | c :: r, f, h => by
    unfold looks
    split
    · exact looks_v r _ (put_v f c h)
    · exact Nat.zero_le _
theorem start_v (b : List UInt8) : (frStart b).v.length ≤ 8 := by
  unfold frStart kdF
  repeat' split
  all_goals exact Nat.zero_le _
def WhR (w : World) (o : Own) (p q : Nat) (r : Fr × Int) (e : Ending) (w' : World) : Prop :=
  ∃ o', Step (PQ p q) w o w' o' ∧ ((r.2 = 0 ∧ ∃ x' : FP, e = .returned x'.V ∧ x'.r = r.1 ∧ x'.own w' o') ∨ (r.2 ≠ 0 ∧ e = .panicked [kindP r.2]))
theorem Q4G {b : List UInt8} (A : RG w o p q b 0 FP.zero []) (ok : Tags w o) : Calls Try.prog 34 #[.pointer (some (blk q))] w (WhR w o p q (readW b)) := by
  refine (Q2L.ok _ (Φ := fun ch w' => (readW b).2 ≠ 0 ∧ ch = [kindP (readW b).2] ∧ ∃ o', Step (PQ p q) w o w' o') (R := fun v w' => (readW b).2 = 0 ∧ ∃ o' x', Step (PQ p q) w o w' o' ∧ v = FP.V x' ∧ x'.r = (readW b).1 ∧ x'.own w' o') ?_).mono fun e w' h => ?_
  rotate_left
  · rcases h with ⟨v, he, hz, o', x', s, hv, hx, hr⟩ | ⟨ch, he, hz, hc, o', s⟩
    · exact ⟨o', s, .inl ⟨hz, x', by rw [he, hv], hx, hr⟩⟩
    · exact ⟨o', s, .inr ⟨hz, by rw [he, hc]⟩⟩
  unfold Q2L.M
  refine Q02 fun w2 e2 => ?_
  have X2 : Ext no w w2 := by subst e2; exact (Ext.refl _ _).alloc _
  have b2 : Blk w2 w.heap.size 38 FP.zero.C := by subst e2; exact Blk.new _ _ _
  obtain ⟨z, hz⟩ : ∃ z, w.heap.size = z := ⟨_, rfl⟩
  rw [hz] at b2 ⊢
  have s2 := (Step.of_no X2 ok).tag (p := z) (j := z) (by omega) b2.lt
  have A2 := A.far s2 X2 (fun b hb => hb.elim) id
  have hqz : q < z := by have := A.lt; omega
  have t2 : tag (grow w o) z z z = some z := Q1k
  refine ⟨_, A2.ptr, ?_⟩
  refine (W.Count_spec A2.rd A2.fl (m := 4) (by decide)).mono fun e w7 ⟨he, hr, X7⟩ => .inl ⟨_, he, ?_⟩
  obtain ⟨s7, A7⟩ := A2.read s2.ok X7 hr (W.countR_len 4 (b, 0))
  obtain ⟨can, set⟩ := A7.set s7.ok (x' := { FP.zero with r := { Fr.zero with kd := (countR 4 (b, 0)).1 } }) (ad := (((blk q).add 1).add 0).add 0) (i := 1) (v := .int .i64 (countR 4 (b, 0)).1) rfl (fun _ _ => rfl) (by decide) ⟨rfl, rfl, rfl, rfl, rfl, rfl⟩
  refine ⟨can, Q02 fun w10 e10 => ?_⟩
  obtain ⟨s10, A10⟩ := set w10 e10
  obtain ⟨la0, lc0, bq10, _, _⟩ := id A10.mem
  refine ⟨_, bq10.celli 1 rfl rfl, ?_⟩
  refine (Q58 A10 s10.ok (countR 4 (b, 0)).1).mono fun e w15 ⟨hw, kk, ff, gg, he, hen, hcall⟩ => .inl ⟨kk, ff, gg, he, ?_⟩
  subst hw
  rw [hen, cond_true]
  refine hcall.mono fun e w18 ⟨he, o18, x18, L, s18, A18, T18, hx18⟩ => .inl ⟨he, ?_⟩
  have hx18 : x18.r = frStart b := hx18
  have A18 : RG w18 o18 p q (kdS (countR 4 (b, 0)).1 (countR 4 (b, 0)).2).1 (kdS (countR 4 (b, 0)).1 (countR 4 (b, 0)).2).2 x18 L := A18
  have T18 : Tks w18 o18 q L (kdL (countR 4 (b, 0)).1 (countR 4 (b, 0)).2) := T18
  have hLl : L.length < 50 := by rw [T18.1]; exact Q5g _ _
  have S18 : Step (PQ p q) w o w18 o18 := (((s2.none.trans (s7.mono fun j hj _ => (.inl hj : PQ p q j))).trans (s10.mono fun j hj _ => .inr hj)).trans s18)
  have bz7 := s7.blk b2 t2 (fun e => by have := A.pq; omega)
  have tz7 := (s7.own b2.lt).trans t2
  have bz10 := s10.blk bz7 tz7 (fun e => by omega)
  have tz10 := (s10.own bz7.lt).trans tz7
  have hzPQ : ¬ PQ p q z := fun e => by have := A.pq; rcases e with e | e <;> omega
  have bz18 := s18.blk bz10 tz10 hzPQ
  have tz18 := (s18.own bz10.lt).trans tz10
  refine ⟨_, A18.ptr, ?_⟩
  refine (W.Done_spec A18.rd).mono fun e w24 ⟨he, hw⟩ => .inl ⟨_, he, ?_⟩
  subst hw
  refine (Q2l _ w24).mono fun e w27 h => ?_
  rcases h with ⟨hk, he, hw⟩ | ⟨hk, he, hw⟩
  rotate_left
  · subst hw
    have hd : frDone b ≠ 0 := hk
    have hr : readW b = (Fr.zero, frDone b) := by unfold readW; rw [if_pos hd]
    rw [hr]
    exact .inr ⟨_, he, hd, rfl, _, S18⟩
  subst hw
  have hd : frDone b = 0 := hk
  obtain ⟨la, lc, hcl, _⟩ := A18.laterC
  refine .inl ⟨he, la, _, lc, hcl, ?_⟩
  refine ⟨fun m vs w1 => ∃ (t : Nat) (o1 : Own) (x1 : FP), vs = [.int .i64 t] ∧ m + t = L.length ∧ Step (PQ p q) w o w1 o1 ∧ RG w1 o1 p q (kdS (countR 4 (b, 0)).1 (countR 4 (b, 0)).2).1 (kdS (countR 4 (b, 0)).1 (countR 4 (b, 0)).2).2 x1 L ∧ Tks w1 o1 q L (kdL (countR 4 (b, 0)).1 (countR 4 (b, 0)).2) ∧
    w1.cell? ((blk q).add 21) = some (.slice la L.length lc) ∧ Blk w1 z 38 FP.zero.C ∧ o1 z = some z ∧ frLooks b = looks ((kdL (countR 4 (b, 0)).1 (countR 4 (b, 0)).2).drop t) x1.r, L.length, ⟨0, o18, x18, rfl, rfl, S18, A18, T18, hcl, bz18, tz18, by rw [hx18]; rfl⟩, ?_⟩
  rintro m w34 i ⟨t, o34, x34, hv, hm, S34, A34, T34, hc34, bz34, tz34, hlk⟩
  cases hv
  by_cases ht : t < L.length
  · rw [show decide ((t : Int) < (L.length : Int)) = true by simpa using ht, cond_true]
    obtain ⟨la', lc', hc', hrow⟩ := A34.laterC
    have := hc34.symm.trans hc'
    cases this
    have hg : L[t]? = some L[t] := List.getElem?_eq_getElem ht
    have hlen := T34.1
    have hgl : (kdL (countR 4 (b, 0)).1 (countR 4 (b, 0)).2)[t]? = some ((kdL (countR 4 (b, 0)).1 (countR 4 (b, 0)).2)[t]'(by omega)) := List.getElem?_eq_getElem (by omega)
    obtain ⟨ad, had, hcell⟩ := hrow t _ hg
    subst had
    have hTk := T34.2 t _ _ hg hgl
    obtain ⟨kk, ff, gg, hv, hen, hcall⟩ := Q56 A34 S34.ok hTk
    refine ⟨by omega, by omega, kk, ff, gg, by rw [Int.toNat_natCast, Nat.mul_one, hcell, hv], ?_⟩
    rw [hen, cond_true]
    have hdrop : (kdL (countR 4 (b, 0)).1 (countR 4 (b, 0)).2).drop t = (kdL (countR 4 (b, 0)).1 (countR 4 (b, 0)).2)[t]'(by omega) :: (kdL (countR 4 (b, 0)).1 (countR 4 (b, 0)).2).drop (t + 1) := List.drop_eq_getElem_cons (by omega)
    rw [hdrop] at hlk
    generalize (kdL (countR 4 (b, 0)).1 (countR 4 (b, 0)).2)[t]'(by omega) = c at *
    refine hcall.mono fun e w38 ⟨o38, x38, s38, A38, ⟨la2, lc2, hca, hcb⟩, h⟩ => ?_
    have hz38 : ¬ (fun j => j = q) z := fun e => by
      have e : z = q := e
      omega
    rcases h with ⟨hk, he, hx⟩ | ⟨hk, he⟩
    · refine .inl ⟨he, m - 1, by omega, t + 1, o38, x38, ?_, by omega, S34.trans (s38.mono fun j hj _ => .inr hj), A38, T34.step s38 fun b cs hb h => A34.notB b cs hb (.inr h), ?_, s38.blk bz34 tz34 hz38, by rw [s38.own bz34.lt]; exact tz34, ?_⟩
      · rw [w64 (by omega) (by omega)]; rfl
      · rw [hc34] at hca; cases hca; exact hcb
      · rw [hlk]
        show (if (x34.r.put c).2 = 0 then _ else _) = _
        rw [if_pos hk, hx]
    · have hl : frLooks b = (Fr.zero, (x34.r.put c).2) := by
        rw [hlk]
        show (if (x34.r.put c).2 = 0 then _ else _) = _
        rw [if_neg hk]
      have hr : readW b = (Fr.zero, (x34.r.put c).2) := by unfold readW; rw [if_neg (by rw [hd]; exact fun h => h rfl), hl, if_pos hk]
      rw [hr]
      exact .inr ⟨_, he, hk, rfl, o38, S34.trans (s38.mono fun j hj _ => .inr hj)⟩
  · rw [show decide ((t : Int) < (L.length : Int)) = false by simp; omega, cond_false]
    have hlen := T34.1
    have hlk : frLooks b = (x34.r, 0) := by rw [hlk, List.drop_eq_nil_of_le (by omega)]; rfl
    obtain ⟨la3, lc3, bq34, _, _⟩ := id A34.mem
    have cells : ∀ {w' : World}, Blk w' q 72 (rgC p x34 la3 L.length lc3) → cellsAt w' ((blk q).add 1) x34.C 0 := fun {w'} bb => ⟨bb.celli 1 rfl rfl, bb.celli 2 rfl rfl, bb.celli 3 rfl rfl, bb.celli 4 rfl rfl, bb.celli 5 rfl rfl, bb.celli 6 rfl rfl, bb.celli 7 rfl rfl, bb.celli 8 rfl rfl, bb.celli 9 rfl rfl, bb.celli 10 rfl rfl, bb.celli 11 rfl rfl, bb.celli 12 rfl rfl, bb.celli 13 rfl rfl, bb.celli 14 rfl rfl, bb.celli 15 rfl rfl, bb.celli 16 rfl rfl, bb.celli 17 rfl rfl, bb.celli 18 rfl rfl, bb.celli 19 rfl rfl, bb.celli 20 rfl rfl, trivial⟩
    refine ⟨_, _, _, _, _, _, _, _, _, _, _, _, _, _, _, _, _, _, _, _, _, _, _, _, _, _, cells bq34, ?_⟩
    have hvl : x34.r.v.length < 1000000 := by
      have h1 := looks_v (kdL (countR 4 (b, 0)).1 (countR 4 (b, 0)).2) (frStart b) (start_v b)
      have h2 : (frLooks b).1.v.length ≤ 8 := h1
      rw [hlk] at h2
      have h2 : x34.r.v.length ≤ 8 := h2
      omega
    have hrd : ¬ frDone b ≠ 0 := by rw [hd]; exact fun h => h rfl
    refine (Q2d A34.ok.at hvl).mono fun e w64 ⟨he, X64⟩ => .inl ⟨_, he, ?_⟩
    have s64 := Step.of_no X64 S34.ok
    have A64 := A34.no s64 X64
    by_cases hok : frOK x34.r = true
    · rw [hok, Bool.not_true, cond_false]
      have bq64 := s64.blk bq34 A34.tq id
      have bz64 := s64.blk bz34 tz34 id
      have tz64 := (s64.own bz34.lt).trans tz34
      refine ⟨_, _, _, _, _, _, _, _, _, _, _, _, _, _, _, _, _, _, _, _, _, _, _, _, _, _, cells bq64, ?_⟩
      refine Q0a (k := 0) bz64 (by show 0 + 0 + 20 ≤ 20; decide) fun w87 X87 b87 => ?_
      have b87' : Blk w87 z 38 x34.C := Q0e b87 rfl
      have s87 : Step (fun j => j = z) w64 _ w87 _ := Step.of_ext X87 s64.ok fun b hb _ => by subst hb; exact tz64
      have hr : readW b = (x34.r, 0) := by unfold readW; rw [if_neg hrd, hlk, if_neg (fun h => h rfl), if_pos hok]
      rw [hr]
      exact ⟨_, _, _, _, _, _, _, _, _, _, _, _, _, _, _, _, _, _, _, _, _, _, _, _, _, _, ⟨b87'.celli 0 rfl rfl, b87'.celli 1 rfl rfl, b87'.celli 2 rfl rfl, b87'.celli 3 rfl rfl, b87'.celli 4 rfl rfl, b87'.celli 5 rfl rfl, b87'.celli 6 rfl rfl, b87'.celli 7 rfl rfl, b87'.celli 8 rfl rfl, b87'.celli 9 rfl rfl, b87'.celli 10 rfl rfl, b87'.celli 11 rfl rfl, b87'.celli 12 rfl rfl, b87'.celli 13 rfl rfl, b87'.celli 14 rfl rfl, b87'.celli 15 rfl rfl, b87'.celli 16 rfl rfl, b87'.celli 17 rfl rfl, b87'.celli 18 rfl rfl, b87'.celli 19 rfl rfl, trivial⟩,
        rfl, _, x34, (S34.trans s64.none).trans' s87 fun j hj => .inr (by rw [hj]; omega), rfl, rfl, (A34.ok.step s64).step s87⟩
    · have hok : frOK x34.r = false := by simpa using hok
      rw [hok, Bool.not_false, cond_true]
      have hr : readW b = (Fr.zero, 4) := by unfold readW; rw [if_neg hrd, hlk, if_neg (fun h => h rfl), hok]; rfl
      rw [hr]
      exact ⟨by decide, rfl, _, S34.trans s64.none⟩
end
open W (OwnB Rd numR countR doneR)
theorem Q5t (v : Value) (w : World) : (binOp .neq 20 (.iface 33 v) .nilIface).run Try.prog w = .ok (.bool true) w := by
  have h : ∀ d, (Op.equalIn (d + 1) 20 (.iface 33 v) .nilIface).run Try.prog w = .ok false w := fun d => by simp [Op.equalIn, run_underlying' Try.underlying20]
  have h2 : (Op.equal 20 (.iface 33 v) .nilIface).run Try.prog w = .ok false w := h _
  have e : binOp .neq 20 (.iface 33 v) .nilIface = (do pure (.bool (!(← Op.equal 20 (.iface 33 v) .nilIface)))) := rfl
  rw [e]
  simp [h2]
theorem Q3a (v : Value) (w : World) : (Instr.typeAssert (.iface 33 v) 20 33 false).run Try.prog w = .ok v w := by
  simp [Instr.typeAssert, run_underlying' Try.underlying33]
section
variable {w w' w1 : World} {o o' o1 : Own} {p q z y b t : Nat} {bs : List UInt8} {k : Int} {x : FP} {L : List Value} {K : Nat → Prop}
theorem cellsFr {t : TypeId} (bb : Blk w z t x.C) : cellsAt w (blk z) x.C 0 := ⟨bb.celli 0 rfl rfl, bb.celli 1 rfl rfl, bb.celli 2 rfl rfl, bb.celli 3 rfl rfl, bb.celli 4 rfl rfl, bb.celli 5 rfl rfl, bb.celli 6 rfl rfl, bb.celli 7 rfl rfl, bb.celli 8 rfl rfl, bb.celli 9 rfl rfl, bb.celli 10 rfl rfl, bb.celli 11 rfl rfl, bb.celli 12 rfl rfl, bb.celli 13 rfl rfl, bb.celli 14 rfl rfl, bb.celli 15 rfl rfl, bb.celli 16 rfl rfl, bb.celli 17 rfl rfl, bb.celli 18 rfl rfl, bb.celli 19 rfl rfl, trivial⟩
theorem Q4d (bz : Blk w z 38 x.C) (by_ : Blk w y 33 [.int .i64 k]) (hzy : z ≠ y) (j : Int) :
    CallsD Try.prog 32 #[.pointer (some (blk z)), .pointer (some (blk y))] (.panicking [kindP j]) w fun e u' w' => ∃ v, e = .returned v ∧ settle u' = .returning ∧ Ext (fun b => b = z ∨ b = y) w w' ∧ Blk w' z 38 FP.zero.C ∧ Blk w' y 33 [.int .i64 j] := by
  refine (frmBack.ok (blk z) (blk y) j (R := fun v u' w' => settle u' = .returning ∧ Ext (fun b => b = z ∨ b = y) w w' ∧ Blk w' z 38 FP.zero.C ∧ Blk w' y 33 [.int .i64 j]) ?_).mono fun e u' w' ⟨v, he, h⟩ => ⟨v, he, h⟩
  unfold frmBack.M
  refine ⟨true, Q5t _ _, ?_⟩
  rw [cond_true]
  refine Q02 fun w4 e4 => ?_
  have X4 : Ext (fun b => b = z ∨ b = y) w w4 := (Ext.refl _ w).x_drew e4
  have bz4 := bz.x_drew e4
  have by4 := by_.x_drew e4
  refine ⟨j, Q3a _ _, ?_⟩
  show putsK w4 ((blk z).add 0) FP.zero.C 0 _
  refine Q0a (k := 0) bz4 (by show 0 + 0 + 20 ≤ 20; decide) fun w25 X25 b25 => ⟨Q3a _ _, ?_⟩
  have b25' : Blk w25 z 38 FP.zero.C := Q0e b25 rfl
  have by25 := by4.ext X25 (fun e => hzy e.symm)
  refine ⟨by25.cani 0 rfl rfl, Q02 fun w26 e26 => ⟨rfl, ?_, ?_, by25.seti 0 rfl e26⟩⟩
  · exact (X4.trans (X25.mono fun b hb _ => .inl hb)).x_set (q := y) (i := 0) rfl (.inl (.inr rfl)) e26
  · have X26 : Ext (fun b => b = y) w25 w26 := (Ext.refl (fun b => b = y) w25).x_set (q := y) (i := 0) rfl (.inl rfl) e26
    exact b25'.ext X26 hzy
theorem Q45 (w : World) : CallsD Try.prog 32 #[.pointer (some (blk z)), .pointer (some (blk y))] .returning w fun e u' w' => ∃ v, e = .returned v ∧ settle u' = .returning ∧ w' = w := by
  refine (frmDone.ok (blk z) (blk y) (R := fun v u' w' => settle u' = .returning ∧ w' = w) ?_).mono fun e u' w' ⟨v, he, h⟩ => ⟨v, he, h⟩
  unfold frmDone.M
  exact ⟨rfl, rfl⟩
def readFr (b : List UInt8) : Fr × Int := if b.length > 4000 then (Fr.zero, 3) else readW b
theorem Q39 {a : Option Addr} {c : Nat} {b : List UInt8} (h : RowAt w a (bytesV b)) (hc : b.length ≤ c) :
    Calls Try.prog 13 #[.slice a b.length c] w fun e w' => ∃ x' : FP, e = .returned (.tuple #[x'.V, .int .i64 (readFr b).2]) ∧ x'.r = (readFr b).1 ∧ x'.at w' ∧ Ext no w w' := by
  refine (frmRead.ok a b.length c (R := fun v w' => ∃ x' : FP, v = .tuple #[x'.V, .int .i64 (readFr b).2] ∧ x'.r = (readFr b).1 ∧ x'.at w' ∧ Ext no w w') ?_).mono fun e w' ⟨v, he, x', hv, h⟩ => ⟨x', by rw [he, hv], h⟩
  unfold frmRead.M
  have tg0 : Tags w fun _ => none := fun b j _ h => by cases h
  have fin : ∀ {w1 : World} {o1 : Own}, Step no w (fun _ => none) w1 o1 → Ext no w w1 := fun {w1 o1} s => s.ext.mono fun b ⟨_, h, _⟩ _ => by cases h
  refine Q02 fun w2 e2 => Q02 fun w3 e3 => ?_
  obtain ⟨z, hz⟩ : ∃ z, w.heap.size = z := ⟨_, rfl⟩
  obtain ⟨y, hy⟩ : ∃ y, w2.heap.size = y := ⟨_, rfl⟩
  have X2 : Ext no w w2 := by subst e2; exact (Ext.refl _ _).alloc _
  have b2 : Blk w2 w.heap.size 38 FP.zero.C := by subst e2; exact Blk.new _ _ _
  have X3 : Ext no w2 w3 := by subst e3; exact (Ext.refl _ _).alloc _
  have b3 : Blk w3 w2.heap.size 33 [.int .i64 0] := by subst e3; exact Blk.new _ _ _
  rw [hz] at b2
  rw [hy] at b3
  rw [hz, hy]
  have s2 := (Step.of_no X2 tg0).tag (p := z) (j := z) (by omega) b2.lt
  have s3 := (Step.of_no X3 s2.ok).tag (p := y) (j := y) (by omega) b3.lt
  have hzy : z ≠ y := by have := b2.lt; omega
  have bz3 : Blk w3 z 38 FP.zero.C := b2.ext X3 id
  have tz3 : tag (grow w2 (tag (grow w fun _ => none) z z)) y y z = some z := by rw [tag_ne hzy, grow_lt b2.lt]; exact Q1k
  have ty3 : tag (grow w2 (tag (grow w fun _ => none) z z)) y y y = some y := Q1k
  have S3 := s2.trans s3
  generalize tag (grow w2 (tag (grow w fun _ => none) z z)) y y = o3 at *
  by_cases hl : b.length > 4000
  · rw [show decide ((b.length : Int) > 4000) = true from decide_eq_true (by omega), cond_true]
    have hr : readFr b = (Fr.zero, 3) := by unfold readFr; rw [if_pos hl]
    refine ⟨_, _, _, _, _, _, _, _, _, _, _, _, _, _, _, _, _, _, _, _, _, _, _, _, _, _, cellsFr bz3, ?_⟩
    show putsK w3 ((blk z).add 0) FP.zero.C 0 _
    refine Q0a (k := 0) bz3 (by show 0 + 0 + 20 ≤ 20; decide) fun w24 X24 b24 => ?_
    have b24' : Blk w24 z 38 FP.zero.C := Q0e b24 rfl
    have by24 := b3.ext X24 (fun e => hzy e.symm)
    refine ⟨by24.cani 0 rfl rfl, Q02 fun w25 e25 => ?_⟩
    have X25 : Ext (fun b => b = y) w24 w25 := (Ext.refl (fun b => b = y) w24).x_set (q := y) (i := 0) rfl (.inl rfl) e25
    have b25 := b24'.ext X25 hzy
    refine ⟨_, _, _, _, _, _, _, _, _, _, _, _, _, _, _, _, _, _, _, _, _, _, _, _, _, _, cellsFr b25, 3, (by24.seti 0 rfl e25).celli 0 rfl rfl, FP.zero, by rw [hr]; rfl, by rw [hr]; rfl, ⟨RowAt.nil _ _, RowAt.nil _ _, RowAt.nil _ _⟩, ?_⟩
    have Y3 := fin S3
    exact (Y3.then X24 fun b hb => .inr (by omega)).then X25 fun b hb => .inr (by have := X2.size; omega)
  · rw [show decide ((b.length : Int) > 4000) = false from decide_eq_false (by omega), cond_false]
    have hr : readFr b = readW b := by unfold readFr; rw [if_neg hl]
    refine (W.Read_spec (h.no (fin S3)) hc).mono fun e w55 ⟨p, he, hR, hp, X55⟩ => .inl ⟨_, he, Q02 fun w57 e57 => ?_⟩
    have s55 := (Step.of_no X55 S3.ok).tag (p := p) (j := p) hp hR.lt
    have X57 : Ext no w55 w57 := by subst e57; exact (Ext.refl _ _).alloc _
    have b57 : Blk w57 w55.heap.size 72 (rgC p FP.zero none 0 0) := by subst e57; exact Blk.new _ _ _
    obtain ⟨q, hq⟩ : ∃ q, w55.heap.size = q := ⟨_, rfl⟩
    rw [hq] at b57 ⊢
    have s57 := (Step.of_no X57 s55.ok).tag (p := q) (j := q) (by omega) b57.lt
    have hpq : p < q := by have := hR.lt; omega
    have hyp : y < p := by have := b3.lt; omega
    have hzp : z < p := by have := bz3.lt; omega
    have tp57 : tag (grow w55 (tag (grow w3 o3) p p)) q q p = some p := by rw [tag_ne (by omega), grow_lt hR.lt]; exact Q1k
    have A57 : RG w57 (tag (grow w55 (tag (grow w3 o3) p p)) q q) p q b 0 FP.zero [] :=
      ⟨hR.no X57, ⟨none, 0, b57, Go.Mx.Grows.nil _ _ _ _ _, fun ad ha => by cases ha⟩, tp57, Q1k, hpq, FP.own.zero _ _, by omega⟩
    have S57 := (S3.trans s55).trans s57
    have bz57 := (bz3.ext X55 id).ext X57 id
    have by57 := (b3.ext X55 id).ext X57 id
    have l3 := bz3.lt
    have l3' := b3.lt
    have l55 : z < w55.heap.size := Nat.lt_of_lt_of_le l3 X55.size
    have l55' : y < w55.heap.size := Nat.lt_of_lt_of_le l3' X55.size
    have tz57 : tag (grow w55 (tag (grow w3 o3) p p)) q q z = some z := by rw [tag_ne (by omega), grow_lt l55, tag_ne (by omega), grow_lt l3]; exact tz3
    have ty57 : tag (grow w55 (tag (grow w3 o3) p p)) q q y = some y := by rw [tag_ne (by omega), grow_lt l55', tag_ne (by omega), grow_lt l3']; exact ty3
    generalize tag (grow w55 (tag (grow w3 o3) p p)) q q = o57 at *
    refine (Q4G A57 S57.ok).mono fun e w79 ⟨o79, s79, hor⟩ => ?_
    have hz79 : ¬ PQ p q z := fun e => by rcases e with e | e <;> omega
    have hy79 : ¬ PQ p q y := fun e => by rcases e with e | e <;> omega
    have bz79 := s79.blk bz57 tz57 hz79
    have by79 := s79.blk by57 ty57 hy79
    have tz79 := (s79.own bz57.lt).trans tz57
    have ty79 := (s79.own by57.lt).trans ty57
    have S79 : Step no w (fun _ => none) w79 o79 := S57.trans' s79 fun j hj => .inr (by rcases hj with e | e <;> omega)
    have Y79 := fin S79
    rcases hor with ⟨hk, x', he, hx, hown⟩ | ⟨hk, he⟩
    · refine .inl ⟨_, _, _, _, _, _, _, _, _, _, _, _, _, _, _, _, _, _, _, _, _, _, _, _, _, _, he, ?_⟩
      show putsK w79 ((blk z).add 0) x'.C 0 _
      refine Q0a (k := 0) bz79 (by show 0 + 0 + 20 ≤ 20; decide) fun w81 X81 b81 => ?_
      have b81' : Blk w81 z 38 x'.C := Q0e b81 rfl
      have by81 := by79.ext X81 (fun e => hzy e.symm)
      refine ⟨by81.cani 0 rfl rfl, Q02 fun w82 e82 => ?_⟩
      have X82 : Ext (fun b => b = y) w81 w82 := (Ext.refl (fun b => b = y) w81).x_set (q := y) (i := 0) rfl (.inl rfl) e82
      have b82 := b81'.ext X82 hzy
      have s81 : Step (fun j => j = z) w79 o79 w81 _ := Step.of_ext X81 S79.ok fun b hb _ => by subst hb; exact tz79
      have s82 : Step (fun j => j = y) w81 _ w82 _ := Step.of_ext X82 s81.ok fun b hb _ => by subst hb; rw [s81.own by79.lt]; exact ty79
      have hat := ((hown.step s81).step s82).at
      refine (Q45 (z := z) (y := y) w82).mono fun e u' w49 ⟨v, he, hs, hw⟩ => ⟨v, he, hs, ?_⟩
      subst hw
      refine ⟨_, _, _, _, _, _, _, _, _, _, _, _, _, _, _, _, _, _, _, _, _, _, _, _, _, _, cellsFr b82, 0, (by81.seti 0 rfl e82).celli 0 rfl rfl, x', by rw [hr, hk]; rfl, by rw [hr]; exact hx, hat, ?_⟩
      exact (Y79.then X81 fun b hb => .inr (by omega)).then X82 fun b hb => .inr (by have := X2.size; omega)
    · refine .inr ⟨_, he, ?_⟩
      refine (Q4d bz79 by79 hzy (readW b).2).mono fun e u' w49 ⟨v, he, hs, X49, b49, by49⟩ => ⟨v, he, hs, ?_⟩
      have hfz : (readW b).1 = Fr.zero := by
        unfold readW at hk ⊢
        split
        · rfl
        · split
          · rfl
          · split
            · rename_i h1 h2 h3
              rw [if_neg h1, if_neg h2, if_pos h3] at hk
              exact absurd rfl hk
            · rfl
      refine ⟨_, _, _, _, _, _, _, _, _, _, _, _, _, _, _, _, _, _, _, _, _, _, _, _, _, _, cellsFr b49, _, by49.celli 0 rfl rfl, FP.zero, by rw [hr]; rfl, by rw [hr, hfz]; rfl, ⟨RowAt.nil _ _, RowAt.nil _ _, RowAt.nil _ _⟩, ?_⟩
      exact Y79.then X49 fun b hb => .inr (by have := X2.size; rcases hb with hb | hb <;> omega)
end
open W (OwnB Rd numR countR doneR)
def encE (e : Ent) : List UInt8 := numL (bytesL e).length ++ bytesL e
def encV (v : List Hd) : List UInt8 := numL (vecL v).length ++ vecL v
def frP (x : Fr) : List UInt8 :=
  if x.kd = 1 then encE x.e else if x.kd = 4 then encE x.e ++ encE x.f else if x.kd = 3 then numL x.who.toNat ++ encV x.v ++ numL x.sg.toNat else numL x.who.toNat ++ encV x.v
def frL (x : Fr) : List UInt8 := numL x.kd.toNat ++ frP x
def frK (x : Fr) : List UInt8 × Int := if frOK x = false then ([], 1) else if (frL x).length > 4000 then ([], 3) else (frL x, 0)
structure Fr.fit (x : Fr) : Prop where
  e : x.e.fit
  f : x.f.fit
  v : ∀ h ∈ x.v, 0 ≤ h.2.2 ∧ h.2.2 < 18446744073709551616
  sg : 0 ≤ x.sg ∧ x.sg < 18446744073709551616
theorem ent_len {e : Ent} (h : Q0u e = true) : (bytesL e).length ≤ 1180 := by
  have := ((Q19 e).1 h).2.2.2.2.2.2.2.2.2.1
  have := Q5l e
  omega
theorem Q2H {e : Ent} (h : Q0u e = true) : (encE e).length ≤ 1190 := by
  have := ent_len h
  have := W.numL_le (bytesL e).length
  unfold encE; rw [List.length_append]; omega
theorem vec_len {v : List Hd} (h : rightV v = true) : (vecL v).length ≤ 250 := by
  have := Q1P h
  have h1 := W.numL_le v.length
  have h2 := hdsL_le v
  unfold vecL; rw [List.length_append]; omega
theorem Q4o {v : List Hd} (h : rightV v = true) : (encV v).length ≤ 260 := by
  have := vec_len h
  have := W.numL_le (vecL v).length
  unfold encV; rw [List.length_append]; omega
theorem frOK_kd {x : Fr} (h : frOK x = true) : x.kd = 1 ∨ x.kd = 2 ∨ x.kd = 3 ∨ x.kd = 4 := by
  unfold frOK at h
  by_cases h1 : x.kd = 1
  · exact .inl h1
  by_cases h2 : x.kd = 2
  · exact .inr (.inl h2)
  by_cases h3 : x.kd = 3
  · exact .inr (.inr (.inl h3))
  by_cases h4 : x.kd = 4
  · exact .inr (.inr (.inr h4))
  rw [if_neg h1, if_neg h2, if_neg h3, if_neg h4] at h; cases h
theorem frOK_e {x : Fr} (h : frOK x = true) (hk : x.kd = 1 ∨ x.kd = 4) : Q0u x.e = true := by
  unfold frOK at h
  rcases hk with hk | hk
  · rw [if_pos hk, Bool.and_eq_true] at h; exact h.1
  · rw [if_neg (by omega), if_neg (by omega), if_neg (by omega), if_pos hk, Bool.and_eq_true] at h; exact h.1
theorem frOK_f {x : Fr} (h : frOK x = true) (hk : x.kd = 4) : Q0u x.f = true := by
  unfold frOK at h
  rw [if_neg (by omega), if_neg (by omega), if_neg (by omega), if_pos hk, Bool.and_eq_true, Bool.and_eq_true] at h; exact h.2.1
theorem frOK_v {x : Fr} (h : frOK x = true) (hk : x.kd = 2 ∨ x.kd = 3) : 0 ≤ x.who ∧ x.who < 8 ∧ rightV x.v = true := by
  unfold frOK at h
  rcases hk with hk | hk
  · rw [if_neg (by omega), if_pos hk] at h
    simp only [Bool.and_eq_true, decide_eq_true_eq] at h
    exact ⟨h.2.2.1, h.2.2.2.1, h.2.2.2.2.1⟩
  · rw [if_neg (by omega), if_neg (by omega), if_pos hk] at h
    simp only [Bool.and_eq_true, decide_eq_true_eq] at h
    exact ⟨h.2.2.1, h.2.2.2.1, h.2.2.2.2⟩
theorem vnat {v : List Hd} (hf : ∀ h ∈ v, 0 ≤ h.2.2 ∧ h.2.2 < 18446744073709551616) : rightV v = true → ∀ h ∈ v, natH h := fun hr h hh => Q5m (Q1u hr h hh) (hf h hh)
theorem frOK_1 {x : Fr} (h : frOK x = true) (hk : x.kd = 1) : Q0u x.e = true ∧ x.f = Ent.zero ∧ x.who = 0 ∧ x.v = [] ∧ x.sg = 0 := by
  unfold frOK at h
  rw [if_pos hk] at h
  simp only [Bool.and_eq_true, decide_eq_true_eq] at h
  exact ⟨h.1, h.2.1, h.2.2.1, List.eq_nil_of_length_eq_zero h.2.2.2.1, h.2.2.2.2⟩
theorem frOK_2 {x : Fr} (h : frOK x = true) (hk : x.kd = 2) : x.e = Ent.zero ∧ x.f = Ent.zero ∧ 0 ≤ x.who ∧ x.who < 8 ∧ rightV x.v = true ∧ x.sg = 0 := by
  unfold frOK at h
  rw [if_neg (by omega), if_pos hk] at h
  simp only [Bool.and_eq_true, decide_eq_true_eq] at h
  exact h
theorem frOK_3 {x : Fr} (h : frOK x = true) (hk : x.kd = 3) : x.e = Ent.zero ∧ x.f = Ent.zero ∧ 0 ≤ x.who ∧ x.who < 8 ∧ rightV x.v = true := by
  unfold frOK at h
  rw [if_neg (by omega), if_neg (by omega), if_pos hk] at h
  simp only [Bool.and_eq_true, decide_eq_true_eq] at h
  exact h
theorem frOK_4 {x : Fr} (h : frOK x = true) (hk : x.kd = 4) : Q0u x.e = true ∧ Q0u x.f = true ∧ x.who = 0 ∧ x.v = [] ∧ x.sg = 0 := by
  unfold frOK at h
  rw [if_neg (by omega), if_neg (by omega), if_neg (by omega), if_pos hk] at h
  simp only [Bool.and_eq_true, decide_eq_true_eq] at h
  exact ⟨h.1, h.2.1, h.2.2.1, List.eq_nil_of_length_eq_zero h.2.2.2.1, h.2.2.2.2⟩
theorem Q1p {i : Nat} {c : List UInt8} {f : Fr} (h : (f.put (i, c)).2 = 0) : looks [(i, c)] f = ((f.put (i, c)).1, 0) := by
  unfold looks; rw [if_pos h]; rfl
theorem Q2O {c : Nat × List UInt8} {l : List (Nat × List UInt8)} {f : Fr} (h : (f.put c).2 = 0) : looks (c :: l) f = looks l (f.put c).1 := by
  rw [looks, if_pos h]
theorem Q1s {c : Nat × List UInt8} {l : List (Nat × List UInt8)} {f : Fr} (h : (looks (c :: l) f).2 = 0) : (f.put c).2 = 0 ∧ looks (c :: l) f = looks l (f.put c).1 := by
  by_cases h0 : (f.put c).2 = 0
  · exact ⟨h0, Q2O h0⟩
  · rw [looks, if_neg h0] at h; exact absurd h h0
theorem put_kd (f : Fr) (c : Nat × List UInt8) : (f.put c).1.kd = f.kd := by
  obtain ⟨i, c⟩ := c
  match i with
  | 0 => rfl
  | 1 => rfl
  | n + 2 => rfl
theorem Q4f : ∀ (l : List (Nat × List UInt8)) (f : Fr), (looks l f).2 = 0 → (looks l f).1.kd = f.kd
  | [], f, _ => rfl
  | c :: r, f, h => by
    obtain ⟨_, h2⟩ := Q1s h
    rw [h2] at h ⊢
    rw [Q4f r _ h, put_kd]
theorem Q5x {x : Fr} (hk : frOK x = true) (hf : x.fit) (r : List UInt8) :
    kdS x.kd.toNat (frP x ++ r, 0) = (r, 0) ∧ looks (kdL x.kd.toNat (frP x ++ r, 0)) (kdF x.kd.toNat { Fr.zero with kd := x.kd } (frP x ++ r, 0)) = (x, 0) := by
  have hkd := frOK_kd hk
  obtain ⟨kd, e, f, who, v, sg⟩ := x
  obtain ⟨fe, ff, fv, fs⟩ := hf
  simp only at fe ff fv fs hkd
  rcases hkd with h | h | h | h <;> subst h
  · obtain ⟨h1, h2, h3, h4, h5⟩ := frOK_1 hk rfl
    simp only at h1 h2 h3 h4 h5
    subst h2; subst h3; subst h4; subst h5
    have hl := ent_len h1
    have q := Q1f (x := bytesL e) (m := 4000) (by omega) (by omega) r
    have ep : frP ⟨1, e, Ent.zero, 0, [], 0⟩ ++ r = numL (bytesL e).length ++ (bytesL e ++ r) := by
      show (numL (bytesL e).length ++ bytesL e) ++ r = _
      rw [List.append_assoc]
    rw [ep]
    refine ⟨?_, ?_⟩
    · show (bytesR 4000 _).2 = _
      rw [q]
    · show looks [(0, (bytesR 4000 _).1)] ⟨1, Ent.zero, Ent.zero, 0, [], 0⟩ = _
      rw [q]
      have hr := Q2c h1 fe
      have hp : Fr.put ⟨1, Ent.zero, Ent.zero, 0, [], 0⟩ (0, bytesL e) = (⟨1, e, Ent.zero, 0, [], 0⟩, 0) := by
        show ((⟨1, (readE (bytesL e)).1, Ent.zero, 0, [], 0⟩ : Fr), (readE (bytesL e)).2) = _
        rw [hr]
      rw [Q1p (by show (Fr.put _ (0, bytesL e)).2 = 0; rw [hp]), hp]
  · obtain ⟨h1, h2, h3, h4, h5, h6⟩ := frOK_2 hk rfl
    simp only at h1 h2 h3 h4 h5 h6
    subst h1; subst h2; subst h6
    have hl := vec_len h5
    have q1 := W.countR_write (n := who.toNat) (m := 7) (by omega) (by omega) (numL (vecL v).length ++ (vecL v ++ r))
    have q := Q1f (x := vecL v) (m := 4000) (by omega) (by omega) r
    have ep : frP ⟨2, Ent.zero, Ent.zero, who, v, 0⟩ ++ r = numL who.toNat ++ (numL (vecL v).length ++ (vecL v ++ r)) := by
      show (numL who.toNat ++ (numL (vecL v).length ++ vecL v)) ++ r = _
      simp only [List.append_assoc]
    rw [ep]
    refine ⟨?_, ?_⟩
    · show (bytesR 4000 (countR 7 _).2).2 = _
      rw [q1, q]
    · show looks [(2, (bytesR 4000 (countR 7 _).2).1)] ⟨2, Ent.zero, Ent.zero, ((countR 7 _).1 : Nat), [], 0⟩ = _
      rw [q1, q]
      have hr := Q3b h5 fv
      have hp : Fr.put ⟨2, Ent.zero, Ent.zero, (who.toNat : Nat), [], 0⟩ (2, vecL v) = (⟨2, Ent.zero, Ent.zero, who, v, 0⟩, 0) := by
        show ((⟨2, Ent.zero, Ent.zero, (who.toNat : Nat), (readV (vecL v)).1, 0⟩ : Fr), (readV (vecL v)).2) = _
        rw [hr, Int.toNat_of_nonneg h3]
      rw [Q1p (by show (Fr.put _ (2, vecL v)).2 = 0; rw [hp]), hp]
  · obtain ⟨h1, h2, h3, h4, h5⟩ := frOK_3 hk rfl
    simp only at h1 h2 h3 h4 h5
    subst h1; subst h2
    have hl := vec_len h5
    have q1 := W.countR_write (n := who.toNat) (m := 7) (by omega) (by omega) (numL (vecL v).length ++ (vecL v ++ (numL sg.toNat ++ r)))
    have q := Q1f (x := vecL v) (m := 4000) (by omega) (by omega) (numL sg.toNat ++ r)
    have q3 := W.numR_write (n := sg.toNat) (by omega) r
    have ep : frP ⟨3, Ent.zero, Ent.zero, who, v, sg⟩ ++ r = numL who.toNat ++ (numL (vecL v).length ++ (vecL v ++ (numL sg.toNat ++ r))) := by
      show (numL who.toNat ++ (numL (vecL v).length ++ vecL v) ++ numL sg.toNat) ++ r = _
      simp only [List.append_assoc]
    rw [ep]
    refine ⟨?_, ?_⟩
    · show (numR (bytesR 4000 (countR 7 _).2).2).2 = _
      rw [q1, q, q3]
    · show looks [(2, (bytesR 4000 (countR 7 _).2).1)] ⟨3, Ent.zero, Ent.zero, ((countR 7 _).1 : Nat), [], ((numR (bytesR 4000 (countR 7 _).2).2).1 : Nat)⟩ = _
      rw [q1, q, q3]
      have hr := Q3b h5 fv
      have hp : Fr.put ⟨3, Ent.zero, Ent.zero, (who.toNat : Nat), [], (sg.toNat : Nat)⟩ (2, vecL v) = (⟨3, Ent.zero, Ent.zero, who, v, sg⟩, 0) := by
        show ((⟨3, Ent.zero, Ent.zero, (who.toNat : Nat), (readV (vecL v)).1, (sg.toNat : Nat)⟩ : Fr), (readV (vecL v)).2) = _
        rw [hr, Int.toNat_of_nonneg h3, Int.toNat_of_nonneg fs.1]
      rw [Q1p (by show (Fr.put _ (2, vecL v)).2 = 0; rw [hp]), hp]
  · obtain ⟨h1, h2, h3, h4, h5⟩ := frOK_4 hk rfl
    simp only at h1 h2 h3 h4 h5
    subst h3; subst h4; subst h5
    have hl := ent_len h1
    have hl2 := ent_len h2
    have q := Q1f (x := bytesL e) (m := 4000) (by omega) (by omega) (numL (bytesL f).length ++ (bytesL f ++ r))
    have q2 := Q1f (x := bytesL f) (m := 4000) (by omega) (by omega) r
    have ep : frP ⟨4, e, f, 0, [], 0⟩ ++ r = numL (bytesL e).length ++ (bytesL e ++ (numL (bytesL f).length ++ (bytesL f ++ r))) := by
      show ((numL (bytesL e).length ++ bytesL e) ++ (numL (bytesL f).length ++ bytesL f)) ++ r = _
      simp only [List.append_assoc]
    rw [ep]
    refine ⟨?_, ?_⟩
    · show (bytesR 4000 (bytesR 4000 _).2).2 = _
      rw [q, q2]
    · show looks [(0, (bytesR 4000 _).1), (1, (bytesR 4000 (bytesR 4000 _).2).1)] ⟨4, Ent.zero, Ent.zero, 0, [], 0⟩ = _
      rw [q, q2]
      have hr := Q2c h1 fe
      have hr2 := Q2c h2 ff
      have hp : Fr.put ⟨4, Ent.zero, Ent.zero, 0, [], 0⟩ (0, bytesL e) = (⟨4, e, Ent.zero, 0, [], 0⟩, 0) := by
        show ((⟨4, (readE (bytesL e)).1, Ent.zero, 0, [], 0⟩ : Fr), (readE (bytesL e)).2) = _
        rw [hr]
      have hp2 : Fr.put ⟨4, e, Ent.zero, 0, [], 0⟩ (1, bytesL f) = (⟨4, e, f, 0, [], 0⟩, 0) := by
        show ((⟨4, e, (readE (bytesL f)).1, 0, [], 0⟩ : Fr), (readE (bytesL f)).2) = _
        rw [hr2]
      rw [Q2O (by show (Fr.put _ (0, bytesL e)).2 = 0; rw [hp]), hp, Q1p (by show (Fr.put _ (1, bytesL f)).2 = 0; rw [hp2]), hp2]
theorem Q4Y {x : Fr} (hk : frOK x = true) (hf : x.fit) (r : List UInt8) : readW (frL x ++ r) = if r.length > 0 then (Fr.zero, 4) else (x, 0) := by
  have hkd := frOK_kd hk
  have q : countR 4 (frL x ++ r, 0) = (x.kd.toNat, (frP x ++ r, 0)) := by
    unfold frL
    rw [List.append_assoc]
    exact W.countR_write (by omega) (by omega) _
  obtain ⟨k1, k2⟩ := Q5x hk hf r
  have hd : frDone (frL x ++ r) = doneR (r, 0) := by unfold frDone; rw [q]; simp only; rw [k1]
  have hL : frLooks (frL x ++ r) = (x, 0) := by
    unfold frLooks frStart
    rw [q]
    simp only
    rw [show ((x.kd.toNat : Nat) : Int) = x.kd by omega]
    exact k2
  unfold readW
  rw [hd, hL]
  by_cases h : r.length > 0
  · rw [if_pos h, show doneR (r, 0) = 4 by unfold doneR; rw [if_pos rfl, if_pos h]]; rfl
  · rw [if_neg h, show doneR (r, 0) = 0 by unfold doneR; rw [if_pos rfl, if_neg h], if_neg (fun h => h rfl), if_neg (fun h => h rfl), if_pos hk]
theorem Q1Z : Ent.zero.fit := ⟨by decide, by decide, by decide, by decide⟩
theorem put0 (f : Fr) (c : List UInt8) : f.put (0, c) = ({ f with e := (readE c).1 }, (readE c).2) := rfl
theorem put1 (f : Fr) (c : List UInt8) : f.put (1, c) = ({ f with f := (readE c).1 }, (readE c).2) := rfl
theorem put2 (f : Fr) (c : List UInt8) : f.put (2, c) = ({ f with v := (readV c).1 }, (readV c).2) := rfl
theorem Q4U {b : List UInt8} (h : (readW b).2 = 0) : frL (readW b).1 = b ∧ frOK (readW b).1 = true ∧ (readW b).1.fit := by
  have hd : frDone b = 0 := Decidable.byContradiction fun hd => by unfold readW at h; rw [if_pos hd] at h; exact hd h
  have hl : (frLooks b).2 = 0 := Decidable.byContradiction fun hl => by unfold readW at h; rw [if_neg (fun h => h hd), if_pos hl] at h; exact hl h
  have hk : frOK (frLooks b).1 = true := by
    cases hk : frOK (frLooks b).1 with
    | true => rfl
    | false => unfold readW at h; rw [if_neg (fun h => h hd), if_neg (fun h => h hl), hk] at h; exact absurd (show (4 : Int) = 0 from h) (by decide)
  have e : readW b = ((frLooks b).1, 0) := by unfold readW; rw [if_neg (fun h => h hd), if_neg (fun h => h hl), if_pos hk]
  rw [e]
  refine (?_ : frL (frLooks b).1 = b ∧ frOK (frLooks b).1 = true ∧ (frLooks b).1.fit)
  have hs := Q3k hd
  have hck := frOK_kd hk
  have hg : (countR 4 (b, 0)).2.2 = 0 → b = numL (countR 4 (b, 0)).1 ++ (countR 4 (b, 0)).2.1 := fun h => (W.countR_good h).2
  have hkk : (frLooks b).1.kd = ((countR 4 (b, 0)).1 : Nat) := by
    unfold frLooks at hl ⊢
    rw [Q4f _ _ hl]
    unfold frStart kdF
    repeat' split
    all_goals rfl
  unfold frLooks frStart at hl hk hkk hck ⊢
  generalize (countR 4 (b, 0)).2 = s at *
  generalize (countR 4 (b, 0)).1 = n at *
  have hn : n = 1 ∨ n = 2 ∨ n = 3 ∨ n = 4 := by omega
  clear hkk hck
  rcases hn with h | h | h | h <;> subst h
  · have hs : (bytesR 4000 s).2 = ([], 0) := hs
    have hl : (looks [(0, (bytesR 4000 s).1)] ⟨1, Ent.zero, Ent.zero, 0, [], 0⟩).2 = 0 := hl
    have hk : frOK (looks [(0, (bytesR 4000 s).1)] ⟨1, Ent.zero, Ent.zero, 0, [], 0⟩).1 = true := hk
    show frL (looks [(0, (bytesR 4000 s).1)] ⟨1, Ent.zero, Ent.zero, 0, [], 0⟩).1 = b ∧ frOK (looks [(0, (bytesR 4000 s).1)] ⟨1, Ent.zero, Ent.zero, 0, [], 0⟩).1 = true ∧ (looks [(0, (bytesR 4000 s).1)] ⟨1, Ent.zero, Ent.zero, 0, [], 0⟩).1.fit
    refine ⟨?_, hk, ?_⟩
    all_goals
      obtain ⟨g1, g2⟩ := Q1n (m := 4000) (s := s) (by rw [hs])
      obtain ⟨l1, l2⟩ := Q1s hl
      rw [put0] at l1
      obtain ⟨e1, e2, e3⟩ := Q22 l1
      rw [l2, put0]
    · rw [hg g1, g2, hs]
      show numL 1 ++ (numL (bytesL (readE (bytesR 4000 s).1).1).length ++ bytesL (readE (bytesR 4000 s).1).1) = _
      rw [e1, List.append_nil]
    · exact ⟨e3, Q1Z, fun _ h => (by cases h), ⟨Int.le_refl 0, (by decide : (0 : Int) < 18446744073709551616)⟩⟩
  · have hs : (bytesR 4000 (countR 7 s).2).2 = ([], 0) := hs
    have hl : (looks [(2, (bytesR 4000 (countR 7 s).2).1)] ⟨2, Ent.zero, Ent.zero, ((countR 7 s).1 : Nat), [], 0⟩).2 = 0 := hl
    have hk : frOK (looks [(2, (bytesR 4000 (countR 7 s).2).1)] ⟨2, Ent.zero, Ent.zero, ((countR 7 s).1 : Nat), [], 0⟩).1 = true := hk
    show frL (looks [(2, (bytesR 4000 (countR 7 s).2).1)] ⟨2, Ent.zero, Ent.zero, ((countR 7 s).1 : Nat), [], 0⟩).1 = b ∧ frOK (looks [(2, (bytesR 4000 (countR 7 s).2).1)] ⟨2, Ent.zero, Ent.zero, ((countR 7 s).1 : Nat), [], 0⟩).1 = true ∧ (looks [(2, (bytesR 4000 (countR 7 s).2).1)] ⟨2, Ent.zero, Ent.zero, ((countR 7 s).1 : Nat), [], 0⟩).1.fit
    refine ⟨?_, hk, ?_⟩
    all_goals
      obtain ⟨g1, g2⟩ := Q1n (m := 4000) (s := (countR 7 s).2) (by rw [hs])
      obtain ⟨k1, k2⟩ := W.countR_good (m := 7) (s := s) g1
      obtain ⟨l1, l2⟩ := Q1s hl
      rw [put2] at l1
      obtain ⟨e1, e2, e3⟩ := Q2t l1
      rw [l2, put2]
    · rw [hg k1, k2, g2, hs]
      show numL 2 ++ (numL (((countR 7 s).1 : Nat) : Int).toNat ++ (numL (vecL (readV (bytesR 4000 (countR 7 s).2).1).1).length ++ vecL (readV (bytesR 4000 (countR 7 s).2).1).1)) = _
      rw [e2, List.append_nil, Int.toNat_natCast]
    · exact ⟨Q1Z, Q1Z, fun q hq => (e3 q hq).2.2.2.2, ⟨Int.le_refl 0, (by decide : (0 : Int) < 18446744073709551616)⟩⟩
  · have hs : (numR (bytesR 4000 (countR 7 s).2).2).2 = ([], 0) := hs
    have hl : (looks [(2, (bytesR 4000 (countR 7 s).2).1)] ⟨3, Ent.zero, Ent.zero, ((countR 7 s).1 : Nat), [], ((numR (bytesR 4000 (countR 7 s).2).2).1 : Nat)⟩).2 = 0 := hl
    have hk : frOK (looks [(2, (bytesR 4000 (countR 7 s).2).1)] ⟨3, Ent.zero, Ent.zero, ((countR 7 s).1 : Nat), [], ((numR (bytesR 4000 (countR 7 s).2).2).1 : Nat)⟩).1 = true := hk
    show frL (looks [(2, (bytesR 4000 (countR 7 s).2).1)] ⟨3, Ent.zero, Ent.zero, ((countR 7 s).1 : Nat), [], ((numR (bytesR 4000 (countR 7 s).2).2).1 : Nat)⟩).1 = b ∧ frOK (looks [(2, (bytesR 4000 (countR 7 s).2).1)] ⟨3, Ent.zero, Ent.zero, ((countR 7 s).1 : Nat), [], ((numR (bytesR 4000 (countR 7 s).2).2).1 : Nat)⟩).1 = true ∧ (looks [(2, (bytesR 4000 (countR 7 s).2).1)] ⟨3, Ent.zero, Ent.zero, ((countR 7 s).1 : Nat), [], ((numR (bytesR 4000 (countR 7 s).2).2).1 : Nat)⟩).1.fit
    refine ⟨?_, hk, ?_⟩
    all_goals
      obtain ⟨n1, n2⟩ := W.numR_good (s := (bytesR 4000 (countR 7 s).2).2) (by rw [hs])
      obtain ⟨g1, g2⟩ := Q1n (m := 4000) (s := (countR 7 s).2) n1
      obtain ⟨k1, k2⟩ := W.countR_good (m := 7) (s := s) g1
      obtain ⟨l1, l2⟩ := Q1s hl
      rw [put2] at l1
      obtain ⟨e1, e2, e3⟩ := Q2t l1
      rw [l2, put2]
    · rw [hg k1, k2, g2, n2, hs]
      show numL 3 ++ (numL (((countR 7 s).1 : Nat) : Int).toNat ++ (numL (vecL (readV (bytesR 4000 (countR 7 s).2).1).1).length ++ vecL (readV (bytesR 4000 (countR 7 s).2).1).1) ++ numL (((numR (bytesR 4000 (countR 7 s).2).2).1 : Nat) : Int).toNat) = _
      rw [e2, List.append_nil, Int.toNat_natCast, Int.toNat_natCast]
      simp only [List.append_assoc]
    · exact ⟨Q1Z, Q1Z, fun q hq => (e3 q hq).2.2.2.2, Int.natCast_nonneg _, Int.ofNat_lt.2 (W.numR_lt _)⟩
  · have hs : (bytesR 4000 (bytesR 4000 s).2).2 = ([], 0) := hs
    have hl : (looks [(0, (bytesR 4000 s).1), (1, (bytesR 4000 (bytesR 4000 s).2).1)] ⟨4, Ent.zero, Ent.zero, 0, [], 0⟩).2 = 0 := hl
    have hk : frOK (looks [(0, (bytesR 4000 s).1), (1, (bytesR 4000 (bytesR 4000 s).2).1)] ⟨4, Ent.zero, Ent.zero, 0, [], 0⟩).1 = true := hk
    show frL (looks [(0, (bytesR 4000 s).1), (1, (bytesR 4000 (bytesR 4000 s).2).1)] ⟨4, Ent.zero, Ent.zero, 0, [], 0⟩).1 = b ∧ frOK (looks [(0, (bytesR 4000 s).1), (1, (bytesR 4000 (bytesR 4000 s).2).1)] ⟨4, Ent.zero, Ent.zero, 0, [], 0⟩).1 = true ∧ (looks [(0, (bytesR 4000 s).1), (1, (bytesR 4000 (bytesR 4000 s).2).1)] ⟨4, Ent.zero, Ent.zero, 0, [], 0⟩).1.fit
    refine ⟨?_, hk, ?_⟩
    all_goals
      obtain ⟨g1, g2⟩ := Q1n (m := 4000) (s := (bytesR 4000 s).2) (by rw [hs])
      obtain ⟨k1, k2⟩ := Q1n (m := 4000) (s := s) g1
      obtain ⟨l1, l2⟩ := Q1s hl
      rw [l2] at hl
      obtain ⟨l3, l4⟩ := Q1s hl
      rw [put0] at l1
      rw [put0, put1] at l3
      obtain ⟨e1, e2, e3⟩ := Q22 l1
      obtain ⟨e4, e5, e6⟩ := Q22 l3
      rw [l2, l4, put0, put1]
    · rw [hg k1, k2, g2, hs]
      show numL 4 ++ ((numL (bytesL (readE (bytesR 4000 s).1).1).length ++ bytesL (readE (bytesR 4000 s).1).1) ++ (numL (bytesL (readE (bytesR 4000 (bytesR 4000 s).2).1).1).length ++ bytesL (readE (bytesR 4000 (bytesR 4000 s).2).1).1)) = _
      rw [e1, e4, List.append_nil]
      simp only [List.append_assoc]
    · exact ⟨e3, e6, fun _ h => (by cases h), ⟨Int.le_refl 0, (by decide : (0 : Int) < 18446744073709551616)⟩⟩
theorem Q4T {b : List UInt8} (hk : (readW b).2 ≠ 0) : (readW b).1 = Fr.zero := by
  unfold readW at hk ⊢
  split
  · rfl
  · split
    · rfl
    · split
      · rename_i h1 h2 h3
        rw [if_neg h1, if_neg h2, if_pos h3] at hk
        exact absurd rfl hk
      · rfl
theorem Q44 {b : List UInt8} (hk : (readFr b).2 ≠ 0) : (readFr b).1 = Fr.zero := by
  unfold readFr at hk ⊢
  split
  · rfl
  · rename_i h; rw [if_neg h] at hk; exact Q4T hk
theorem Q3V {x : Fr} (hk : frOK x = true) (hf : x.fit) (hl : (frL x).length ≤ 4000) : readFr (frL x) = (x, 0) := by
  unfold readFr
  rw [if_neg (by omega)]
  have := Q4Y hk hf []
  rw [List.append_nil] at this
  rw [this]; rfl
theorem Q3Z {b : List UInt8} (h : (readFr b).2 = 0) : frL (readFr b).1 = b ∧ frOK (readFr b).1 = true ∧ (readFr b).1.fit ∧ b.length ≤ 4000 := by
  unfold readFr at h ⊢
  by_cases hl : b.length > 4000
  · rw [if_pos hl] at h; exact absurd h (by decide)
  · rw [if_neg hl] at h ⊢
    obtain ⟨h1, h2, h3⟩ := Q4U h
    exact ⟨h1, h2, h3, by omega⟩
set_option maxRecDepth 100000
abbrev Q0Q.J1 (bt : Addr) (R : RW) (bv : World) : Prop :=
 ∃ (bd : Int), bv.cell? (bt.add 0) = some (.int .i64 bd) ∧
 Calls Try.prog 26 #[.slice none 0 0, .int .u64 (IntKind.u64.wrap bd)] bv fun c5 aj => ∃ (aa : Option Addr) (a9 ab : Nat), c5 = .returned (.slice aa a9 ab) ∧
 ∃ (b0 : Int), aj.cell? (bt.add 0) = some (.int .i64 b0) ∧
 bif b0 == 1 then (
 ∃ (ae an b2 bk bc af : Int) (ao : Option Addr) (ak ag : Nat) (be : Int), cellsAt aj (bt.add 1) [.int .i64 ae, .int .i64 an, .int .u64 b2, .int .i64 bk, .int .i64 bc, .int .i64 af, .slice ao ak ag, .int .u64 be] 0 ∧
 Calls Try.prog 27 #[.slice aa a9 ab, .agg #[.int .i64 ae, .int .i64 an, .int .u64 b2, .int .i64 bk, .int .i64 bc, .int .i64 af, .slice ao ak ag, .int .u64 be]] aj fun c6 c2 => ∃ (bh : Option Addr) (aw ba : Nat), c6 = .returned (.slice bh aw ba) ∧
 bif decide ((aw : Int) > 4000) then (
 R (.tuple #[.slice none 0 0, .int .i64 3]) c2) else (
 R (.tuple #[.slice bh aw ba, .int .i64 0]) c2)) else (
 bif b0 == 4 then (
 thenW (aj.drew) fun bq =>
 ∃ (ac ar b4 bm b6 am : Int) (aq : Option Addr) (ai au : Nat) (b9 : Int), cellsAt bq (bt.add 1) [.int .i64 ac, .int .i64 ar, .int .u64 b4, .int .i64 bm, .int .i64 b6, .int .i64 am, .slice aq ai au, .int .u64 b9] 0 ∧
 ∃ (a1 a7 ad ay b1 a2 : Int) (a3 : Option Addr) (a5 a4 : Nat) (az : Int), cellsAt bq (bt.add 9) [.int .i64 a1, .int .i64 a7, .int .u64 ad, .int .i64 ay, .int .i64 b1, .int .i64 a2, .slice a3 a5 a4, .int .u64 az] 0 ∧
 Calls Try.prog 27 #[.slice aa a9 ab, .agg #[.int .i64 ac, .int .i64 ar, .int .u64 b4, .int .i64 bm, .int .i64 b6, .int .i64 am, .slice aq ai au, .int .u64 b9]] bq fun cc bz => ∃ (bg : Option Addr) (bj b7 : Nat), cc = .returned (.slice bg bj b7) ∧
 cellsAt bz (bt.add 9) [.int .i64 a1, .int .i64 a7, .int .u64 ad, .int .i64 ay, .int .i64 b1, .int .i64 a2, .slice a3 a5 a4, .int .u64 az] 0 ∧
 Calls Try.prog 27 #[.slice bg bj b7, .agg #[.int .i64 a1, .int .i64 a7, .int .u64 ad, .int .i64 ay, .int .i64 b1, .int .i64 a2, .slice a3 a5 a4, .int .u64 az]] bz fun c8 c1 => ∃ (bo : Option Addr) (av bf : Nat), c8 = .returned (.slice bo av bf) ∧
 bif decide ((av : Int) > 4000) then (
 R (.tuple #[.slice none 0 0, .int .i64 3]) c1) else (
 R (.tuple #[.slice bo av bf, .int .i64 0]) c1)) else (
 ∃ (bw : Option Addr) (c0 c3 : Nat), aj.cell? (bt.add 18) = some (.slice bw c0 c3) ∧
 Calls Try.prog 28 #[.slice bw c0 c3] aj fun cb bu => ∃ (ap : Option Addr) (al ah : Nat) (bp : Int), cb = .returned (.tuple #[.slice ap al ah, .int .i64 bp]) ∧
 ∃ (bs : Int), bu.cell? (bt.add 17) = some (.int .i64 bs) ∧
 Calls Try.prog 26 #[.slice aa a9 ab, .int .u64 (IntKind.u64.wrap bs)] bu fun c4 c9 => ∃ (bb : Option Addr) (bi b8 : Nat), c4 = .returned (.slice bb bi b8) ∧
 Calls Try.prog 29 #[.slice bb bi b8, .slice ap al ah] c9 fun c7 b3 => ∃ (a6 : Option Addr) (a0 a8 : Nat), c7 = .returned (.slice a6 a0 a8) ∧
 ∃ (bl : Int), b3.cell? (bt.add 0) = some (.int .i64 bl) ∧
 bif bl == 3 then (
 ∃ (br : Int), b3.cell? (bt.add 19) = some (.int .u64 br) ∧
 Calls Try.prog 26 #[.slice a6 a0 a8, .int .u64 br] b3 fun ca bx => ∃ (b5 : Option Addr) (ax bn : Nat), ca = .returned (.slice b5 ax bn) ∧
 bif decide ((ax : Int) > 4000) then (
 R (.tuple #[.slice none 0 0, .int .i64 3]) bx) else (
 R (.tuple #[.slice b5 ax bn, .int .i64 0]) bx)) else (
 bif decide ((a0 : Int) > 4000) then (
 R (.tuple #[.slice none 0 0, .int .i64 3]) b3) else (
 R (.tuple #[.slice a6 a0 a8, .int .i64 0]) b3))))

def Q0Q.M (bc aq ay b4 bf bd b1 : Int) (az : Option Addr) (b0 av : Nat) (ba ae au aw b6 b5 ao : Int) (ar : Option Addr) (an ap : Nat) (b3 be : Int) (bj : Option Addr) (bk bi : Nat) (bb : Int) (R : RW) (w : World) : Prop :=
 thenW (w.alloc (.cells #[.int .i64 bc, .int .i64 aq, .int .i64 ay, .int .u64 b4, .int .i64 bf, .int .i64 bd, .int .i64 b1, .slice az b0 av, .int .u64 ba, .int .i64 ae, .int .i64 au, .int .u64 aw, .int .i64 b6, .int .i64 b5, .int .i64 ao, .slice ar an ap, .int .u64 b3, .int .i64 be, .slice bj bk bi, .int .u64 bb] 38)) fun bh =>
 ∃ (aj a1 a2 ad af al aa : Int) (a5 : Option Addr) (ab a4 : Nat) (am a0 a3 ac ag ah a8 : Int) (a6 : Option Addr) (a9 a7 : Nat) (ai b2 : Int) (b7 : Option Addr) (b8 b9 : Nat) (ax : Int), cellsAt bh (blk w.heap.size) [.int .i64 aj, .int .i64 a1, .int .i64 a2, .int .u64 ad, .int .i64 af, .int .i64 al, .int .i64 aa, .slice a5 ab a4, .int .u64 am, .int .i64 a0, .int .i64 a3, .int .u64 ac, .int .i64 ag, .int .i64 ah, .int .i64 a8, .slice a6 a9 a7, .int .u64 ai, .int .i64 b2, .slice b7 b8 b9, .int .u64 ax] 0 ∧
 Calls Try.prog 16 #[.agg #[.int .i64 aj, .int .i64 a1, .int .i64 a2, .int .u64 ad, .int .i64 af, .int .i64 al, .int .i64 aa, .slice a5 ab a4, .int .u64 am, .int .i64 a0, .int .i64 a3, .int .u64 ac, .int .i64 ag, .int .i64 ah, .int .i64 a8, .slice a6 a9 a7, .int .u64 ai, .int .i64 b2, .slice b7 b8 b9, .int .u64 ax]] bh fun bl bg => ∃ (ak : Bool), bl = .returned (.bool ak) ∧
 bif !ak then (
 R (.tuple #[.slice none 0 0, .int .i64 1]) bg) else (
 Q0Q.J1 (blk w.heap.size) R bg)

theorem Q0Q.ok (aj a6 a9 ae am ak ac : Int) (aa : Option Addr) (ab a7 : Nat) (ah a0 a5 a8 ag af a2 : Int) (a4 : Option Addr) (a1 a3 : Nat) (ad al : Int) (ao : Option Addr) (ap an : Nat) (ai : Int) {R : RW} {w : World} (h : Q0Q.M aj a6 a9 ae am ak ac aa ab a7 ah a0 a5 a8 ag af a2 a4 a1 a3 ad al ao ap an ai R w) : Calls Try.prog 9 #[.agg #[.int .i64 aj, .int .i64 a6, .int .i64 a9, .int .u64 ae, .int .i64 am, .int .i64 ak, .int .i64 ac, .slice aa ab a7, .int .u64 ah, .int .i64 a0, .int .i64 a5, .int .u64 a8, .int .i64 ag, .int .i64 af, .int .i64 a2, .slice a4 a1 a3, .int .u64 ad, .int .i64 al, .slice ao ap an, .int .u64 ai]] w fun e w' => ∃ v, e = .returned v ∧ R v w' :=
  Q08 follows (H := []) (args := [.agg #[.int .i64 aj, .int .i64 a6, .int .i64 a9, .int .u64 ae, .int .i64 am, .int .i64 ak, .int .i64 ac, .slice aa ab a7, .int .u64 ah, .int .i64 a0, .int .i64 a5, .int .u64 a8, .int .i64 ag, .int .i64 af, .int .i64 a2, .slice a4 a1 a3, .int .u64 ad, .int .i64 al, .slice ao ap an, .int .u64 ai]]) (cast (by kernel_rfl) h)

def Q0Q.N (a0 a2 a7 ak aw av aa : Int) (a8 : Option Addr) (a9 a6 : Nat) (au a3 af ar az ay ac : Int) (ae : Option Addr) (ab ad : Nat) (ax bb : Int) (bk : Option Addr) (bl bj : Nat) (b2 : Int) (R : RW) (w : World) : Prop :=
 ∀ (bf : World) (bp : Nat), Ext no w bf → Priv w bf [bp] →
 Calls Try.prog 16 #[.agg #[.int .i64 a0, .int .i64 a2, .int .i64 a7, .int .u64 ak, .int .i64 aw, .int .i64 av, .int .i64 aa, .slice a8 a9 a6, .int .u64 au, .int .i64 a3, .int .i64 af, .int .u64 ar, .int .i64 az, .int .i64 ay, .int .i64 ac, .slice ae ab ad, .int .u64 ax, .int .i64 bb, .slice bk bl bj, .int .u64 b2]] bf fun bz bh => ∃ (ag : Bool), bz = .returned (.bool ag) ∧
 Keep [bp] bf bh ∧
 (ag = false →
 R (.tuple #[.slice none 0 0, .int .i64 1]) bh) ∧
 (ag = true →
 Calls Try.prog 26 #[.slice none 0 0, .int .u64 (IntKind.u64.wrap a0)] bh fun c0 bc => ∃ (aj : Option Addr) (am al : Nat), c0 = .returned (.slice aj am al) ∧
 Keep [bp] bh bc ∧
 (a0 = 1 →
 Calls Try.prog 27 #[.slice aj am al, .agg #[.int .i64 a2, .int .i64 a7, .int .u64 ak, .int .i64 aw, .int .i64 av, .int .i64 aa, .slice a8 a9 a6, .int .u64 au]] bc fun c2 bq => ∃ (b7 : Option Addr) (ai b5 : Nat), c2 = .returned (.slice b7 ai b5) ∧
 ((ai : Int) > 4000 →
 R (.tuple #[.slice none 0 0, .int .i64 3]) bq) ∧
 ((ai : Int) ≤ 4000 →
 R (.tuple #[.slice b7 ai b5, .int .i64 0]) bq)) ∧
 (a0 ≠ 1 →
 (a0 = 4 →
 ∀ (bm : World), Ext no bc bm →
 Calls Try.prog 27 #[.slice aj am al, .agg #[.int .i64 a2, .int .i64 a7, .int .u64 ak, .int .i64 aw, .int .i64 av, .int .i64 aa, .slice a8 a9 a6, .int .u64 au]] bm fun bu bt => ∃ (b0 : Option Addr) (b1 ba : Nat), bu = .returned (.slice b0 b1 ba) ∧
 Keep [bp] bm bt ∧
 Calls Try.prog 27 #[.slice b0 b1 ba, .agg #[.int .i64 a3, .int .i64 af, .int .u64 ar, .int .i64 az, .int .i64 ay, .int .i64 ac, .slice ae ab ad, .int .u64 ax]] bt fun bv bs => ∃ (b6 : Option Addr) (ah b4 : Nat), bv = .returned (.slice b6 ah b4) ∧
 ((ah : Int) > 4000 →
 R (.tuple #[.slice none 0 0, .int .i64 3]) bs) ∧
 ((ah : Int) ≤ 4000 →
 R (.tuple #[.slice b6 ah b4, .int .i64 0]) bs)) ∧
 (a0 ≠ 4 →
 Calls Try.prog 28 #[.slice bk bl bj] bc fun bw bn => ∃ (ap : Option Addr) (ao aq : Nat) (bg : Int), bw = .returned (.tuple #[.slice ap ao aq, .int .i64 bg]) ∧
 Keep [bp] bc bn ∧
 Calls Try.prog 26 #[.slice aj am al, .int .u64 (IntKind.u64.wrap bb)] bn fun c1 bo => ∃ (b8 : Option Addr) (b3 be : Nat), c1 = .returned (.slice b8 b3 be) ∧
 Keep [bp] bn bo ∧
 Calls Try.prog 29 #[.slice b8 b3 be, .slice ap ao aq] bo fun bx bi => ∃ (a5 : Option Addr) (a1 a4 : Nat), bx = .returned (.slice a5 a1 a4) ∧
 Keep [bp] bo bi ∧
 (a0 = 3 →
 Calls Try.prog 26 #[.slice a5 a1 a4, .int .u64 b2] bi fun c3 br => ∃ (bd : Option Addr) (an b9 : Nat), c3 = .returned (.slice bd an b9) ∧
 ((an : Int) > 4000 →
 R (.tuple #[.slice none 0 0, .int .i64 3]) br) ∧
 ((an : Int) ≤ 4000 →
 R (.tuple #[.slice bd an b9, .int .i64 0]) br)) ∧
 (a0 ≠ 3 →
 ((a1 : Int) > 4000 →
 R (.tuple #[.slice none 0 0, .int .i64 3]) bi) ∧
 ((a1 : Int) ≤ 4000 →
 R (.tuple #[.slice a5 a1 a4, .int .i64 0]) bi)))))

theorem Q0Q.up (af a1 a6 ad ak al a7 : Int) (a5 : Option Addr) (a3 a4 : Nat) (aj a2 aa ae ai ag ab : Int) (ac : Option Addr) (a8 a9 : Nat) (ah am : Int) (ao : Option Addr) (aq ap : Nat) (an : Int) {R : RW} {w : World} (h : Q0Q.N af a1 a6 ad ak al a7 a5 a3 a4 aj a2 aa ae ai ag ab ac a8 a9 ah am ao aq ap an R w) : Q0Q.M af a1 a6 ad ak al a7 a5 a3 a4 aj a2 aa ae ai ag ab ac a8 a9 ah am ao aq ap an R w := by
  unfold Q0Q.M
  unfold Q0Q.N at h
  refine Q02 fun bq bx => ?_
  have a0 := Blk.of_new bx
  have c6 := ((Ext.refl no w)).size
  have bn := (Ext.refl no w).x_alloc bx
  refine ⟨af, a1, a6, ad, ak, al, a7, a5, a3, a4, aj, a2, aa, ae, ai, ag, ab, ac, a8, a9, ah, am, ao, aq, ap, an, ⟨a0.celli 0 rfl rfl, a0.celli 1 rfl rfl, a0.celli 2 rfl rfl, a0.celli 3 rfl rfl, a0.celli 4 rfl rfl, a0.celli 5 rfl rfl, a0.celli 6 rfl rfl, a0.celli 7 rfl rfl, a0.celli 8 rfl rfl, a0.celli 9 rfl rfl, a0.celli 10 rfl rfl, a0.celli 11 rfl rfl, a0.celli 12 rfl rfl, a0.celli 13 rfl rfl, a0.celli 14 rfl rfl, a0.celli 15 rfl rfl, a0.celli 16 rfl rfl, a0.celli 17 rfl rfl, a0.celli 18 rfl rfl, a0.celli 19 rfl rfl, trivial⟩, ?_⟩
  have h := h bq (w.heap.size) bn (Priv.cons c6 a0.lt Priv.nil)
  refine h.mono fun cf cd h => ?_
  obtain ⟨b0, he, hk, h⟩ := h
  refine ⟨b0, he, ?_⟩
  have a0 := hk.blk a0 (by simp)
  refine bif_of (fun bo => ?_) (fun bo => ?_)
  ·have h := h.1 (not_t bo)
   exact h
  have h := h.2 (not_f bo)
  first | unfold Q0Q.J1 | skip
  refine ⟨af, a0.celli 0 rfl rfl, ?_⟩
  refine h.mono fun cc bp h => ?_
  obtain ⟨b1, b4, bd, he, hk, h⟩ := h
  refine ⟨b1, b4, bd, he, ?_⟩
  have a0 := hk.blk a0 (by simp)
  refine ⟨af, a0.celli 0 rfl rfl, ?_⟩
  refine bif_of (fun bu => ?_) (fun bu => ?_)
  ·have h := h.1 (beq_t bu)
   refine ⟨a1, a6, ad, ak, al, a7, a5, a3, a4, aj, ⟨a0.celli 1 rfl rfl, a0.celli 2 rfl rfl, a0.celli 3 rfl rfl, a0.celli 4 rfl rfl, a0.celli 5 rfl rfl, a0.celli 6 rfl rfl, a0.celli 7 rfl rfl, a0.celli 8 rfl rfl, trivial⟩, ?_⟩
   refine h.mono fun cg cb h => ?_
   obtain ⟨b2, bc, b9, he, h⟩ := h
   refine ⟨b2, bc, b9, he, ?_⟩
   refine bif_of (fun bt => ?_) (fun bt => ?_)
   ·have h := h.1 (of_decide_eq_true bt)
    exact h
   have h := h.2 (Int.not_lt.1 (of_decide_eq_false bt))
   exact h
  have h := h.2 (beq_f bu)
  refine bif_of (fun bs => ?_) (fun bs => ?_)
  ·have h := h.1 (beq_t bs)
   refine Q02 fun bk bw => ?_
   have bj := (Ext.refl no bp).x_drew bw
   have a0 := a0.x_drew bw
   refine ⟨a1, a6, ad, ak, al, a7, a5, a3, a4, aj, ⟨a0.celli 1 rfl rfl, a0.celli 2 rfl rfl, a0.celli 3 rfl rfl, a0.celli 4 rfl rfl, a0.celli 5 rfl rfl, a0.celli 6 rfl rfl, a0.celli 7 rfl rfl, a0.celli 8 rfl rfl, trivial⟩, ?_⟩
   refine ⟨a2, aa, ae, ai, ag, ab, ac, a8, a9, ah, ⟨a0.celli 9 rfl rfl, a0.celli 10 rfl rfl, a0.celli 11 rfl rfl, a0.celli 12 rfl rfl, a0.celli 13 rfl rfl, a0.celli 14 rfl rfl, a0.celli 15 rfl rfl, a0.celli 16 rfl rfl, trivial⟩, ?_⟩
   have h := h bk bj
   refine h.mono fun bz c7 h => ?_
   obtain ⟨b8, b6, bf, he, hk, h⟩ := h
   refine ⟨b8, b6, bf, he, ?_⟩
   have a0 := hk.blk a0 (by simp)
   refine ⟨⟨a0.celli 9 rfl rfl, a0.celli 10 rfl rfl, a0.celli 11 rfl rfl, a0.celli 12 rfl rfl, a0.celli 13 rfl rfl, a0.celli 14 rfl rfl, a0.celli 15 rfl rfl, a0.celli 16 rfl rfl, trivial⟩, ?_⟩
   refine h.mono fun c5 c3 h => ?_
   obtain ⟨ba, bb, bh, he, h⟩ := h
   refine ⟨ba, bb, bh, he, ?_⟩
   refine bif_of (fun bl => ?_) (fun bl => ?_)
   ·have h := h.1 (of_decide_eq_true bl)
    exact h
   have h := h.2 (Int.not_lt.1 (of_decide_eq_false bl))
   exact h
  have h := h.2 (beq_f bs)
  refine ⟨ao, aq, ap, a0.celli 18 rfl rfl, ?_⟩
  refine h.mono fun ce c1 h => ?_
  obtain ⟨ar, ax, au, az, he, hk, h⟩ := h
  refine ⟨ar, ax, au, az, he, ?_⟩
  have a0 := hk.blk a0 (by simp)
  refine ⟨am, a0.celli 17 rfl rfl, ?_⟩
  refine h.mono fun c4 c8 h => ?_
  obtain ⟨b3, b7, bi, he, hk, h⟩ := h
  refine ⟨b3, b7, bi, he, ?_⟩
  have a0 := hk.blk a0 (by simp)
  refine h.mono fun c0 c9 h => ?_
  obtain ⟨aw, av, ay, he, hk, h⟩ := h
  refine ⟨aw, av, ay, he, ?_⟩
  have a0 := hk.blk a0 (by simp)
  refine ⟨af, a0.celli 0 rfl rfl, ?_⟩
  refine bif_fo (fun bv => ?_) (fun bv => ?_)
  ·have h := h.2 (beq_f bv)
   refine bif_of (fun bm => ?_) (fun bm => ?_)
   ·have h := h.1 (of_decide_eq_true bm)
    exact h
   have h := h.2 (Int.not_lt.1 (of_decide_eq_false bm))
   exact h
  have h := h.1 (beq_t bv)
  refine ⟨an, a0.celli 19 rfl rfl, ?_⟩
  refine h.mono fun ca c2 h => ?_
  obtain ⟨b5, bg, be, he, h⟩ := h
  refine ⟨b5, bg, be, he, ?_⟩
  refine bif_of (fun br => ?_) (fun br => ?_)
  ·have h := h.1 (of_decide_eq_true br)
   exact h
  have h := h.2 (Int.not_lt.1 (of_decide_eq_false br))
  exact h

theorem Q0Q.go (aj a6 a9 ae am ak ac : Int) (aa : Option Addr) (ab a7 : Nat) (ah a0 a5 a8 ag af a2 : Int) (a4 : Option Addr) (a1 a3 : Nat) (ad al : Int) (ao : Option Addr) (ap an : Nat) (ai : Int) {R : RW} {w : World} (h : Q0Q.N aj a6 a9 ae am ak ac aa ab a7 ah a0 a5 a8 ag af a2 a4 a1 a3 ad al ao ap an ai R w) : Calls Try.prog 9 #[.agg #[.int .i64 aj, .int .i64 a6, .int .i64 a9, .int .u64 ae, .int .i64 am, .int .i64 ak, .int .i64 ac, .slice aa ab a7, .int .u64 ah, .int .i64 a0, .int .i64 a5, .int .u64 a8, .int .i64 ag, .int .i64 af, .int .i64 a2, .slice a4 a1 a3, .int .u64 ad, .int .i64 al, .slice ao ap an, .int .u64 ai]] w fun e w' => ∃ v, e = .returned v ∧ R v w' := Q0Q.ok aj a6 a9 ae am ak ac aa ab a7 ah a0 a5 a8 ag af a2 a4 a1 a3 ad al ao ap an ai (Q0Q.up aj a6 a9 ae am ak ac aa ab a7 ah a0 a5 a8 ag af a2 a4 a1 a3 ad al ao ap an ai h)
set_option maxRecDepth 20000
open W (OwnB Rd numR countR doneR)
section
variable {w w' : World} {x y : FP} {e f : Ent} {a ba : Option Addr} {c bc : Nat} {bs : List UInt8}
theorem Q3x (h : RowAt w a (bytesV bs)) (hl : bs.length ≤ 100000) (hr : Q0u e = true) (hf : e.fit) (hb : RowAt w ba (bytesV e.body)) :
    Calls Try.prog 27 #[.slice a bs.length c, entV e ba bc] w (fun x w' => ∃ a' c', x = .returned (.slice a' (bs ++ encE e).length c') ∧ OwnB w.heap.size w' a' c' (bs ++ encE e) ∧ Ext no w w') := by
  refine (Q17.go a bs.length c e.w e.i e.pv e.t e.tw e.ep ba e.body.length bc e.sg (R := fun v w' => ∃ a' c', v = (.slice a' (bs ++ encE e).length c') ∧ OwnB w.heap.size w' a' c' (bs ++ encE e) ∧ Ext no w w') ?_).mono fun x w' ⟨v, he, a, c, hv, hw⟩ => ⟨a, c, by rw [he, hv], hw⟩
  unfold Q17.N
  intro w10 X10
  refine (Q4c (fun _ => hf) (hb.no X10)).mono fun x w15 ⟨X15, hor⟩ => ?_
  rcases hor with ⟨hn, _⟩ | ⟨_, a1, c1, he, hO⟩
  · rw [hr] at hn; cases hn
  refine ⟨a1, _, c1, _, he, ?_⟩
  have X := X10.trans X15
  have hel := ent_len hr
  refine (W.Bytes_spec (h.no X) (by omega) hO.row (by omega)).mono fun x w18 ⟨a2, c2, he, hO2, X18⟩ => ⟨a2, _, c2, he, a2, c2, ?_, ?_, X.trans X18⟩
  · unfold encE; rw [List.append_assoc]
  · unfold encE; rw [← List.append_assoc]; exact OwnB.up hO2 X.size
theorem Q4B {z : Fr} (hz : x.r = z) (h : x.at w) (hf : x.r.fit) (hl : x.r.v.length ≤ 1000) :
    Calls Try.prog 9 #[x.V] w (fun u w' => ∃ a c, u = .returned (.tuple #[.slice a (frK z).1.length c, .int .i64 (frK z).2]) ∧ OwnB w.heap.size w' a c (frK z).1 ∧ Ext no w w') := by
  obtain ⟨⟨kd, e, f, who, v, sg⟩, ea, ec, fa, fc, va, vc⟩ := x
  have hx : Fr.mk kd e f who v sg = z := hz
  obtain ⟨he, hf1, hv⟩ := id h
  obtain ⟨fe, ff, fv, fs⟩ := hf
  have he : RowAt w ea (bytesV e.body) := he
  have hf1 : RowAt w fa (bytesV f.body) := hf1
  have hv : RowAt w va (hsC v) := hv
  have fe : e.fit := fe
  have ff : f.fit := ff
  have fv : ∀ h ∈ v, 0 ≤ h.2.2 ∧ h.2.2 < 18446744073709551616 := fv
  have fs : 0 ≤ sg ∧ sg < 18446744073709551616 := fs
  have hl : v.length ≤ 1000 := hl
  have hR : ∀ {l : List UInt8} {a : Option Addr} {c : Nat} {w2 : World}, frOK z = true → l = frL z → OwnB w.heap.size w2 a c l → Ext no w w2 →
      (((l.length : Int) > 4000 → (∃ a c, (.tuple #[.slice none 0 0, .int .i64 3] : Value) = (.tuple #[.slice a (frK z).1.length c, .int .i64 (frK z).2]) ∧ OwnB w.heap.size w2 a c (frK z).1 ∧ Ext no w w2)) ∧
       ((l.length : Int) ≤ 4000 → (∃ a' c', (.tuple #[.slice a l.length c, .int .i64 0] : Value) = (.tuple #[.slice a' (frK z).1.length c', .int .i64 (frK z).2]) ∧ OwnB w.heap.size w2 a' c' (frK z).1 ∧ Ext no w w2))) := fun {l a c w2} hk hl hO X => by
    subst hl
    refine ⟨fun hg => ?_, fun hg => ?_⟩
    · have e : frK z = ([], 3) := by unfold frK; rw [hk, if_neg (by decide), if_pos (by omega)]
      rw [e]; exact ⟨none, 0, rfl, OwnB.nil _ _, X⟩
    · have e : frK z = (frL z, 0) := by unfold frK; rw [hk, if_neg (by decide), if_neg (by omega)]
      rw [e]; exact ⟨a, c, rfl, hO, X⟩
  refine (Q0Q.go kd e.w e.i e.pv e.t e.tw e.ep ea e.body.length ec e.sg f.w f.i f.pv f.t f.tw f.ep fa f.body.length fc f.sg who va v.length vc sg (R := fun u w' => ∃ a c, u = (.tuple #[.slice a (frK z).1.length c, .int .i64 (frK z).2]) ∧ OwnB w.heap.size w' a c (frK z).1 ∧ Ext no w w') ?_).mono fun u w' ⟨v, he, a, c, hv, hw⟩ => ⟨a, c, by rw [he, hv], hw⟩
  unfold Q0Q.N
  intro w21 p22 X21 hp
  have at21 := h.no X21
  refine (Q2d at21 (by show v.length < 1000000; omega)).mono fun u w25 ⟨hu, X25⟩ => ⟨_, hu, X25.kept, fun hk => ?_, fun hk => ?_⟩
  · have hk : frOK ⟨kd, e, f, who, v, sg⟩ = false := hk
    rw [hx] at hk
    have ek : frK z = ([], 1) := by unfold frK; rw [if_pos hk]
    rw [ek]; exact ⟨none, 0, rfl, OwnB.nil _ _, X21.trans X25⟩
  have hk : frOK ⟨kd, e, f, who, v, sg⟩ = true := hk
  have hkd := frOK_kd hk
  simp only at hkd
  have hle := fun h => frOK_e hk h
  have hlf := fun h => frOK_f hk h
  have hlv := fun h => frOK_v hk h
  simp only at hle hlf hlv
  have Y25 := X21.trans X25
  rw [wu64 (n := kd) (by omega) (by omega)]
  have ekd : kd = ((kd.toNat : Nat) : Int) := by omega
  have key : ∀ {K : Int}, K = kd → Calls Try.prog 26 #[.slice none 0 0, .int .u64 K] w25 (fun e w' => ∃ a' c', e = .returned (.slice a' (numL kd.toNat).length c') ∧ OwnB w25.heap.size w' a' c' (numL kd.toNat) ∧ Ext no w25 w') := fun {K} hK => by
    rw [hK, ekd]
    exact W.Num_spec (bs := []) (c := 0) (RowAt.nil _ _) (by simp) (n := kd.toNat) (by omega)
  refine (key rfl).mono fun u w29 ⟨a1, c1, hu, hO1, X29⟩ => ⟨a1, _, c1, hu, X29.kept, fun k1 => ?_, fun k1 => ⟨fun k4 w36 X36 => ?_, fun k4 => ?_⟩⟩
  all_goals have Y29 := Y25.trans X29
  all_goals have n1 := W.numL_le kd.toNat
  · have hre := hle (.inl k1)
    refine (Q3x (e := e) hO1.row (by omega) hre fe (he.no Y29)).mono fun u w33 ⟨a2, c2, hu, hO2, X33⟩ => ⟨a2, _, c2, hu, ?_⟩
    exact hR (hx ▸ hk) (by rw [← hx]; unfold frL frP; rw [if_pos k1]) (OwnB.up hO2 Y29.size) (Y29.trans X33)
  · have hre := hle (.inr k4)
    have hrf := hlf k4
    have Y36 := Y29.trans X36
    refine (Q3x (e := e) (hO1.row.no X36) (by omega) hre fe (he.no Y36)).mono fun u w39 ⟨a2, c2, hu, hO2, X39⟩ => ⟨a2, _, c2, hu, X39.kept, ?_⟩
    have Y39 := Y36.trans X39
    have l2 := Q2H hre
    refine (Q3x (e := f) hO2.row (by rw [List.length_append]; omega) hrf ff (hf1.no Y39)).mono fun u w42 ⟨a3, c3, hu, hO3, X42⟩ => ⟨a3, _, c3, hu, ?_⟩
    exact hR (hx ▸ hk) (by rw [← hx]; unfold frL frP; rw [if_neg k1, if_pos k4, List.append_assoc]) (OwnB.up hO3 Y39.size) (Y39.trans X42)
  · obtain ⟨w0, w8, hrv⟩ := hlv (by omega)
    have ewho : who = ((who.toNat : Nat) : Int) := by omega
    refine (Q48 (hv.no Y29) hl (vnat fv)).mono fun u w47 ⟨X47, hor⟩ => ?_
    rcases hor with ⟨hn, _⟩ | ⟨_, a2, c2, hu, hO2⟩
    · rw [hrv] at hn; cases hn
    refine ⟨a2, _, c2, _, hu, X47.kept, ?_⟩
    rw [wu64 (n := who) (by omega) (by omega)]
    have key2 : ∀ {K : Int}, K = who → Calls Try.prog 26 #[.slice a1 (numL kd.toNat).length c1, .int .u64 K] w47 (fun e w' => ∃ a' c', e = .returned (.slice a' (numL kd.toNat ++ numL who.toNat).length c') ∧ OwnB w47.heap.size w' a' c' (numL kd.toNat ++ numL who.toNat) ∧ Ext no w47 w') := fun {K} hK => by
      rw [hK, ewho]
      exact W.Num_spec (hO1.row.no X47) (by omega) (n := who.toNat) (by omega)
    have n2 := W.numL_le who.toNat
    have n3 := vec_len hrv
    have Y47 := Y29.trans X47
    refine (key2 rfl).mono fun u w50 ⟨a3, c3, hu, hO3, X50⟩ => ⟨a3, _, c3, hu, X50.kept, ?_⟩
    have Y50 := Y47.trans X50
    refine (W.Bytes_spec hO3.row (by rw [List.length_append]; omega) (hO2.row.no X50) (by omega)).mono fun u w53 ⟨a4, c4, hu, hO4, X53⟩ => ⟨a4, _, c4, hu, X53.kept, fun k3 => ?_, fun k3 => ?_⟩
    all_goals have Y53 := Y50.trans X53
    · have n4 := W.numL_le (vecL v).length
      have esg : sg = ((sg.toNat : Nat) : Int) := by omega
      have key3 : ∀ {K : Int}, K = sg → Calls Try.prog 26 #[.slice a4 (numL kd.toNat ++ numL who.toNat ++ numL (vecL v).length ++ vecL v).length c4, .int .u64 K] w53 (fun e w' => ∃ a' c', e = .returned (.slice a' (numL kd.toNat ++ numL who.toNat ++ numL (vecL v).length ++ vecL v ++ numL sg.toNat).length c') ∧ OwnB w53.heap.size w' a' c' (numL kd.toNat ++ numL who.toNat ++ numL (vecL v).length ++ vecL v ++ numL sg.toNat) ∧ Ext no w53 w') := fun {K} hK => by
        rw [hK, esg]
        exact W.Num_spec hO4.row (by simp only [List.length_append]; omega) (n := sg.toNat) (by omega)
      refine (key3 rfl).mono fun u w57 ⟨a5, c5, hu, hO5, X57⟩ => ⟨a5, _, c5, hu, ?_⟩
      exact hR (hx ▸ hk) (by rw [← hx]; unfold frL frP encV; rw [if_neg k1, if_neg k4, if_pos k3]; simp only [List.append_assoc]) (OwnB.up hO5 Y53.size) (Y53.trans X57)
    · exact hR (hx ▸ hk) (by rw [← hx]; unfold frL frP encV; rw [if_neg k1, if_neg k4, if_neg k3]; simp only [List.append_assoc]) (OwnB.up hO4 Y50.size) Y53
theorem Q2D (h : x.at w) (hf : x.r.fit) (hl : x.r.v.length ≤ 1000) :
    Calls Try.prog 9 #[x.V] w (fun u w' => ∃ a c, u = .returned (.tuple #[.slice a (frK x.r).1.length c, .int .i64 (frK x.r).2]) ∧ OwnB w.heap.size w' a c (frK x.r).1 ∧ Ext no w w') := Q4B rfl h hf hl
end
set_option maxRecDepth 100000
def Q0l.M  (R : RW) (w : World) : Prop :=
 thenW (w.alloc (.cells #[.int .u8 97] 5)) fun cs =>
 ∃ (cn : Option Addr) (co cp : Nat) (cg : World), (convert 25 25 (.slice (some (blk w.heap.size)) 1 1)).run Try.prog cs = .ok (.slice cn co cp) cg ∧
 thenW (cg.alloc (.cells #[.slice cn co cp, .slice none 0 0] 25)) fun ct =>
 Calls Try.prog 21 #[.slice (some (blk cg.heap.size)) 2 2] ct fun cr cq => ∃ (bo : Option Addr) (bn b6 : Nat) (bz : Int), cr = .returned (.tuple #[.slice bo bn b6, .int .i64 bz]) ∧
 thenW (cq.alloc (.cells #[.int .u8 120] 5)) fun cu =>
 ∃ (c4 : Option Addr) (cc c7 : Nat) (bt : World), (convert 25 25 (.slice (some (blk cq.heap.size)) 1 1)).run Try.prog cu = .ok (.slice c4 cc c7) bt ∧
 thenW (bt.alloc (.cells #[.int .i64 0, .int .i64 0, .int .u64 0, .int .i64 0, .int .i64 0, .int .i64 0, .slice none 0 0, .int .u64 0] 27)) fun cl =>
 putsK cl (blk bt.heap.size) [.int .i64 1, .int .i64 0, .int .u64 0, .int .i64 5, .int .i64 1, .int .i64 0, .slice c4 cc c7, .int .u64 9] 0 fun ca =>
 ∃ (a4 a6 b2 bf bj a9 : Int) (aw : Option Addr) (aj aa : Nat) (bs : Int), cellsAt ca (blk bt.heap.size) [.int .i64 a4, .int .i64 a6, .int .u64 b2, .int .i64 bf, .int .i64 bj, .int .i64 a9, .slice aw aj aa, .int .u64 bs] 0 ∧
 Calls Try.prog 20 #[.agg #[.int .i64 a4, .int .i64 a6, .int .u64 b2, .int .i64 bf, .int .i64 bj, .int .i64 a9, .slice aw aj aa, .int .u64 bs]] ca fun ci ch => ∃ (bb a3 au b4 ba bg ad : Int) (ag : Option Addr) (aq ae : Nat) (b7 a0 ak b1 bh bk ax : Int) (am : Option Addr) (ac ap : Nat) (bp c1 : Int) (c3 : Option Addr) (c9 cb : Nat) (bv : Int), ci = .returned (.agg #[.int .i64 bb, .int .i64 a3, .int .i64 au, .int .u64 b4, .int .i64 ba, .int .i64 bg, .int .i64 ad, .slice ag aq ae, .int .u64 b7, .int .i64 a0, .int .i64 ak, .int .u64 b1, .int .i64 bh, .int .i64 bk, .int .i64 ax, .slice am ac ap, .int .u64 bp, .int .i64 c1, .slice c3 c9 cb, .int .u64 bv]) ∧
 Calls Try.prog 9 #[.agg #[.int .i64 bb, .int .i64 a3, .int .i64 au, .int .u64 b4, .int .i64 ba, .int .i64 bg, .int .i64 ad, .slice ag aq ae, .int .u64 b7, .int .i64 a0, .int .i64 ak, .int .u64 b1, .int .i64 bh, .int .i64 bk, .int .i64 ax, .slice am ac ap, .int .u64 bp, .int .i64 c1, .slice c3 c9 cb, .int .u64 bv]] ch fun ck ce => ∃ (a7 : Option Addr) (al a8 : Nat) (b3 : Int), ck = .returned (.tuple #[.slice a7 al a8, .int .i64 b3]) ∧
 Calls Try.prog 13 #[.slice a7 al a8] ce fun cj bu => ∃ (b8 a2 an b0 br bd ar : Int) (ao : Option Addr) (ai ab : Nat) (bi a1 ah b5 b9 be af : Int) (a5 : Option Addr) (av ay : Nat) (bq c0 : Int) (c5 : Option Addr) (c8 c6 : Nat) (bw bm : Int), cj = .returned (.tuple #[.agg #[.int .i64 b8, .int .i64 a2, .int .i64 an, .int .u64 b0, .int .i64 br, .int .i64 bd, .int .i64 ar, .slice ao ai ab, .int .u64 bi, .int .i64 a1, .int .i64 ah, .int .u64 b5, .int .i64 b9, .int .i64 be, .int .i64 af, .slice a5 av ay, .int .u64 bq, .int .i64 c0, .slice c5 c8 c6, .int .u64 bw], .int .i64 bm]) ∧
 thenW (bu.alloc (.cells #[.int .i64 0, .int .i64 0, .int .i64 0, .int .u64 0, .int .i64 0, .int .i64 0, .int .i64 0, .slice none 0 0, .int .u64 0, .int .i64 0, .int .i64 0, .int .u64 0, .int .i64 0, .int .i64 0, .int .i64 0, .slice none 0 0, .int .u64 0, .int .i64 0, .slice none 0 0, .int .u64 0] 38)) fun cf =>
 putsK cf (blk bu.heap.size) [.int .i64 b8, .int .i64 a2, .int .i64 an, .int .u64 b0, .int .i64 br, .int .i64 bd, .int .i64 ar, .slice ao ai ab, .int .u64 bi, .int .i64 a1, .int .i64 ah, .int .u64 b5, .int .i64 b9, .int .i64 be, .int .i64 af, .slice a5 av ay, .int .u64 bq, .int .i64 c0, .slice c5 c8 c6, .int .u64 bw] 0 fun c2 =>
 bif bz == 0 then (
 thenW (c2.alloc (.cells #[.int .u8 2, .int .u8 1, .int .u8 97, .int .u8 0] 5)) fun cd =>
 Calls Try.prog 11 #[.slice bo bn b6, .slice (some (blk c2.heap.size)) 4 4] cd fun cm az => ∃ (bc : Bool), cm = .returned (.bool bc) ∧
 bif bc then (
 bif b3 == 0 then (
 bif bm == 0 then (
 ∃ (bl : Int), az.cell? ((blk bu.heap.size).add 0) = some (.int .i64 bl) ∧
 bif bl == 1 then (
 ∃ (bx : Int), az.cell? (((blk bu.heap.size).add 1).add 7) = some (.int .u64 bx) ∧
 R (.bool (bx == 9)) az) else (
 R (.bool false) az)) else (
 R (.bool false) az)) else (
 R (.bool false) az)) else (
 R (.bool false) az)) else (
 R (.bool false) c2)

theorem Q0l.ok  {R : RW} {w : World} (h : Q0l.M  R w) : Calls Try.prog 8 #[] w fun e w' => ∃ v, e = .returned v ∧ R v w' :=
  Q08 follows (H := []) (args := []) (cast (by kernel_rfl) h)

def Q0l.N  (R : RW) (w : World) : Prop :=
 ∀ (c2 : World) (q2 : Nat), Ext no w c2 → Blk c2 q2 5 [.int .u8 97] → w.heap.size ≤ q2 → q2 < c2.heap.size →
 ∃ (cg : Option Addr) (cf ch : Nat) (cd : World), (convert 25 25 (.slice (some (blk q2)) 1 1)).run Try.prog c2 = .ok (.slice cg cf ch) cd ∧
 ∀ (c4 : World) (q6 : Nat), Ext no cd c4 → Blk c4 q6 25 [.slice cg cf ch, .slice none 0 0] → cd.heap.size ≤ q6 → q6 < c4.heap.size →
 Calls Try.prog 21 #[.slice (some (blk q6)) 2 2] c4 fun cj bo => ∃ (b9 : Option Addr) (aw ao : Nat) (ba : Int), cj = .returned (.tuple #[.slice b9 aw ao, .int .i64 ba]) ∧
 ∀ (be : World) (c3 : Nat), Ext no bo be → Blk be c3 5 [.int .u8 120] → bo.heap.size ≤ c3 → c3 < be.heap.size →
 ∃ (bq : Option Addr) (bz bt : Nat) (bs : World), (convert 25 25 (.slice (some (blk c3)) 1 1)).run Try.prog be = .ok (.slice bq bz bt) bs ∧
 ∀ (bp : World), Ext no bs bp →
 Calls Try.prog 20 #[.agg #[.int .i64 1, .int .i64 0, .int .u64 0, .int .i64 5, .int .i64 1, .int .i64 0, .slice bq bz bt, .int .u64 9]] bp fun c5 c7 => ∃ (au a0 ab aj av bc ac : Int) (a8 : Option Addr) (ad af : Nat) (ap a1 a4 ak ax ar a5 : Int) (a7 : Option Addr) (a9 ae : Nat) (b4 bh : Int) (br : Option Addr) (bu bw : Nat) (bi : Int), c5 = .returned (.agg #[.int .i64 au, .int .i64 a0, .int .i64 ab, .int .u64 aj, .int .i64 av, .int .i64 bc, .int .i64 ac, .slice a8 ad af, .int .u64 ap, .int .i64 a1, .int .i64 a4, .int .u64 ak, .int .i64 ax, .int .i64 ar, .int .i64 a5, .slice a7 a9 ae, .int .u64 b4, .int .i64 bh, .slice br bu bw, .int .u64 bi]) ∧
 Calls Try.prog 9 #[.agg #[.int .i64 au, .int .i64 a0, .int .i64 ab, .int .u64 aj, .int .i64 av, .int .i64 bc, .int .i64 ac, .slice a8 ad af, .int .u64 ap, .int .i64 a1, .int .i64 a4, .int .u64 ak, .int .i64 ax, .int .i64 ar, .int .i64 a5, .slice a7 a9 ae, .int .u64 b4, .int .i64 bh, .slice br bu bw, .int .u64 bi]] c7 fun ca c9 => ∃ (aa : Option Addr) (a6 a3 : Nat) (a2 : Int), ca = .returned (.tuple #[.slice aa a6 a3, .int .i64 a2]) ∧
 Calls Try.prog 13 #[.slice aa a6 a3] c9 fun c6 bf => ∃ (ai al b2 bd bn bm b6 : Int) (b7 : Option Addr) (b3 az : Nat) (b0 am b8 bg bk bl bb : Int) (aq : Option Addr) (b1 b5 : Nat) (bj c1 : Int) (cc : Option Addr) (c8 ce : Nat) (bv ag : Int), c6 = .returned (.tuple #[.agg #[.int .i64 ai, .int .i64 al, .int .i64 b2, .int .u64 bd, .int .i64 bn, .int .i64 bm, .int .i64 b6, .slice b7 b3 az, .int .u64 b0, .int .i64 am, .int .i64 b8, .int .u64 bg, .int .i64 bk, .int .i64 bl, .int .i64 bb, .slice aq b1 b5, .int .u64 bj, .int .i64 c1, .slice cc c8 ce, .int .u64 bv], .int .i64 ag]) ∧
 (ba = 0 →
 ∀ (ay : World) (c0 ci : Nat), Ext no bf ay → Blk ay c0 5 [.int .u8 2, .int .u8 1, .int .u8 97, .int .u8 0] → bf.heap.size ≤ c0 → c0 < ay.heap.size → Privq bf c0 [ci] →
 Calls Try.prog 11 #[.slice b9 aw ao, .slice (some (blk c0)) 4 4] ay fun cb an => ∃ (ah : Bool), cb = .returned (.bool ah) ∧
 Keep [ci] ay an ∧
 (ah = true →
 (a2 = 0 →
 (ag = 0 →
 (ai = 1 →
 R (.bool (b0 == 9)) an) ∧
 (ai ≠ 1 →
 R (.bool false) an)) ∧
 (ag ≠ 0 →
 R (.bool false) an)) ∧
 (a2 ≠ 0 →
 R (.bool false) an)) ∧
 (ah = false →
 R (.bool false) an)) ∧
 (ba ≠ 0 →
 ∀ (bx : World), Ext no bf bx →
 R (.bool false) bx)

theorem Q0l.up  {R : RW} {w : World} (h : Q0l.N  R w) : Q0l.M  R w := by
  unfold Q0l.M
  unfold Q0l.N at h
  refine Q02 fun cs e1 => ?_
  have h := h cs w.heap.size ((Ext.refl no w).x_alloc e1) (Blk.of_new e1) ((Ext.refl no w)).size (Q0N e1)
  obtain ⟨d1, co, d2, bx, hr, h⟩ := h
  refine ⟨d1, co, d2, bx, hr, ?_⟩
  refine Q02 fun cz e5 => ?_
  have h := h cz bx.heap.size ((Ext.refl no bx).x_alloc e5) (Blk.of_new e5) ((Ext.refl no bx)).size (Q0N e5)
  refine h.mono fun d4 b4 h => ?_
  obtain ⟨bl, bb, b2, bv, he, h⟩ := h
  refine ⟨bl, bb, b2, bv, he, ?_⟩
  refine Q02 fun c5 c9 => ?_
  have h := h c5 b4.heap.size ((Ext.refl no b4).x_alloc c9) (Blk.of_new c9) ((Ext.refl no b4)).size (Q0N c9)
  obtain ⟨bo, bt, bp, b6, hr, h⟩ := h
  refine ⟨bo, bt, bp, b6, hr, ?_⟩
  refine Q02 fun cn ch => ?_
  have av := Blk.of_new ch
  have cr := ((Ext.refl no b6)).size
  have c4 := (Ext.refl no b6).x_alloc ch
  refine Q0a (k := 0) (j := 0) av (by exact Nat.le_of_ble_eq_true rfl) fun c3 d0 cu => ?_
  have bz := c4.x_puts d0 (.inr cr)
  have av := Q0e cu rfl
  refine ⟨1, 0, 0, 5, 1, 0, bo, bt, bp, 9, ⟨av.celli 0 rfl rfl, av.celli 1 rfl rfl, av.celli 2 rfl rfl, av.celli 3 rfl rfl, av.celli 4 rfl rfl, av.celli 5 rfl rfl, av.celli 6 rfl rfl, av.celli 7 rfl rfl, trivial⟩, ?_⟩
  have h := h c3 bz
  refine h.mono fun ck ct h => ?_
  obtain ⟨b7, a1, am, az, ba, bm, ao, ab, ap, ar, b3, a3, a6, b0, bc, b5, a7, aa, ah, aq, bi, bn, c6, ca, cd, bs, he, h⟩ := h
  refine ⟨b7, a1, am, az, ba, bm, ao, ab, ap, ar, b3, a3, a6, b0, bc, b5, a7, aa, ah, aq, bi, bn, c6, ca, cd, bs, he, ?_⟩
  refine h.mono fun cx cv h => ?_
  obtain ⟨ak, a8, a4, aw, he, h⟩ := h
  refine ⟨ak, a8, a4, aw, he, ?_⟩
  refine h.mono fun cm bd h => ?_
  obtain ⟨ag, a0, ae, ax, bk, bj, aj, al, af, a9, ac, a2, an, b1, be, bg, au, a5, ad, ai, b8, bu, ce, cc, cg, bq, b9, he, h⟩ := h
  refine ⟨ag, a0, ae, ax, bk, bj, aj, al, af, a9, ac, a2, an, b1, be, bg, au, a5, ad, ai, b8, bu, ce, cc, cg, bq, b9, he, ?_⟩
  refine Q02 fun cl ci => ?_
  have ay := Blk.of_new ci
  have cj := ((Ext.refl no bd)).size
  have c1 := (Ext.refl no bd).x_alloc ci
  refine Q0a (k := 0) (j := 0) ay (by exact Nat.le_of_ble_eq_true rfl) fun br cp cq => ?_
  have bh := c1.x_puts cp (.inr cj)
  have ay := Q0e cq rfl
  refine bif_fo (fun c0 => ?_) (fun c0 => ?_)
  ·have h := h.2 (beq_f c0)
   have h := h br bh
   exact h
  have h := h.1 (beq_t c0)
  refine Q02 fun cb bw => ?_
  have d3 := ay.lt
  have ay := ay.x_alloc bw
  have h := h cb br.heap.size (bd.heap.size) (bh.x_alloc bw) (Blk.of_new bw) (bh).size (Q0N bw) (Privq.cons cj d3 Privq.nil)
  refine h.mono fun cy cw h => ?_
  obtain ⟨bf, he, hk, h⟩ := h
  refine ⟨bf, he, ?_⟩
  have ay := hk.blk ay (by simp)
  refine bif_fo (fun c8 => ?_) (fun c8 => ?_)
  ·have h := h.2 c8
   exact h
  have h := h.1 c8
  refine bif_fo (fun c2 => ?_) (fun c2 => ?_)
  ·have h := h.2 (beq_f c2)
   exact h
  have h := h.1 (beq_t c2)
  refine bif_fo (fun c7 => ?_) (fun c7 => ?_)
  ·have h := h.2 (beq_f c7)
   exact h
  have h := h.1 (beq_t c7)
  refine ⟨ag, ay.celli 0 rfl rfl, ?_⟩
  refine bif_fo (fun cf => ?_) (fun cf => ?_)
  ·have h := h.2 (beq_f cf)
   exact h
  have h := h.1 (beq_t cf)
  refine ⟨ac, ay.celli 8 rfl rfl, ?_⟩
  exact h

theorem Q0l.go  {R : RW} {w : World} (h : Q0l.N  R w) : Calls Try.prog 8 #[] w fun e w' => ∃ v, e = .returned v ∧ R v w' := Q0l.ok  (Q0l.up  h)
theorem Q0l.run  {V : Value} {Q : World → Prop} {w : World} (h : Q0l.N  (fun v w' => v = V ∧ Q w') w) : Calls Try.prog 8 #[] w (Ret V Q) := (Q0l.go  h).mono fun e w' ⟨v, he, hv, hq⟩ => ⟨by rw [he, hv], hq⟩
def Q0n.M (aq a9 ac ak av ar af : Int) (ad : Option Addr) (ae aa : Nat) (ao a0 a8 ab an al a4 : Int) (a7 : Option Addr) (a3 a6 : Nat) (ah au : Int) (ax : Option Addr) (az aw : Nat) (ap : Int) (R : RW) (w : World) : Prop :=
 thenW (w.alloc (.cells #[.int .i64 aq, .int .i64 a9, .int .i64 ac, .int .u64 ak, .int .i64 av, .int .i64 ar, .int .i64 af, .slice ad ae aa, .int .u64 ao, .int .i64 a0, .int .i64 a8, .int .u64 ab, .int .i64 an, .int .i64 al, .int .i64 a4, .slice a7 a3 a6, .int .u64 ah, .int .i64 au, .slice ax az aw, .int .u64 ap] 30)) fun a5 =>
 ∃ (am : Option Addr) (a2 ai : Nat), a5.cell? (((blk w.heap.size).add 1).add 6) = some (.slice am a2 ai) ∧
 bif decide ((a2 : Int) ≤ 1500) then (
 ∃ (aj : Option Addr) (a1 ag : Nat), a5.cell? (((blk w.heap.size).add 9).add 6) = some (.slice aj a1 ag) ∧
 bif decide ((a1 : Int) ≤ 1500) then (
 ∃ (b1 : Option Addr) (ay b0 : Nat), a5.cell? ((blk w.heap.size).add 18) = some (.slice b1 ay b0) ∧
 R (.bool (decide ((ay : Int) ≤ 30))) a5) else (
 R (.bool false) a5)) else (
 R (.bool false) a5)

theorem Q0n.ok (aj a6 a9 ae am ak ac : Int) (aa : Option Addr) (ab a7 : Nat) (ah a0 a5 a8 ag af a2 : Int) (a4 : Option Addr) (a1 a3 : Nat) (ad al : Int) (ao : Option Addr) (ap an : Nat) (ai : Int) {R : RW} {w : World} (h : Q0n.M aj a6 a9 ae am ak ac aa ab a7 ah a0 a5 a8 ag af a2 a4 a1 a3 ad al ao ap an ai R w) : Calls Try.prog 7 #[.agg #[.int .i64 aj, .int .i64 a6, .int .i64 a9, .int .u64 ae, .int .i64 am, .int .i64 ak, .int .i64 ac, .slice aa ab a7, .int .u64 ah, .int .i64 a0, .int .i64 a5, .int .u64 a8, .int .i64 ag, .int .i64 af, .int .i64 a2, .slice a4 a1 a3, .int .u64 ad, .int .i64 al, .slice ao ap an, .int .u64 ai]] w fun e w' => ∃ v, e = .returned v ∧ R v w' :=
  Q08 follows (H := []) (args := [.agg #[.int .i64 aj, .int .i64 a6, .int .i64 a9, .int .u64 ae, .int .i64 am, .int .i64 ak, .int .i64 ac, .slice aa ab a7, .int .u64 ah, .int .i64 a0, .int .i64 a5, .int .u64 a8, .int .i64 ag, .int .i64 af, .int .i64 a2, .slice a4 a1 a3, .int .u64 ad, .int .i64 al, .slice ao ap an, .int .u64 ai]]) (cast (by kernel_rfl) h)

def Q0n.N (al a8 ab ag ao am ae : Int) (ac : Option Addr) (a2 a9 : Nat) (aj a3 a7 aa ai ah a4 : Int) (a6 : Option Addr) (a0 a5 : Nat) (af an : Int) (aq : Option Addr) (ad ap : Nat) (ak : Int) (R : RW) (w : World) : Prop :=
 ((a2 : Int) ≤ 1500 →
 ((a0 : Int) ≤ 1500 →
 ∀ (a1 : World), Ext no w a1 →
 R (.bool (decide ((ad : Int) ≤ 30))) a1) ∧
 ((1500 : Int) < (a0 : Int) →
 ∀ (a1 : World), Ext no w a1 →
 R (.bool false) a1)) ∧
 ((1500 : Int) < (a2 : Int) →
 ∀ (a1 : World), Ext no w a1 →
 R (.bool false) a1)

theorem Q0n.up (aj a9 ab ae ap ak ac : Int) (a5 : Option Addr) (a6 a4 : Nat) (ah a3 a8 aa ag af a7 : Int) (a2 : Option Addr) (a0 a1 : Nat) (ad an : Int) (am : Option Addr) (ao al : Nat) (ai : Int) {R : RW} {w : World} (h : Q0n.N aj a9 ab ae ap ak ac a5 a6 a4 ah a3 a8 aa ag af a7 a2 a0 a1 ad an am ao al ai R w) : Q0n.M aj a9 ab ae ap ak ac a5 a6 a4 ah a3 a8 aa ag af a7 a2 a0 a1 ad an am ao al ai R w := by
  unfold Q0n.M
  unfold Q0n.N at h
  refine Q02 fun ar ax => ?_
  have av := Blk.of_new ax
  have ay := ((Ext.refl no w)).size
  have aq := (Ext.refl no w).x_alloc ax
  refine ⟨a5, a6, a4, av.celli 7 rfl rfl, ?_⟩
  refine bif_fo (fun aw => ?_) (fun aw => ?_)
  ·have h := h.2 (Int.not_le.1 (of_decide_eq_false aw))
   have h := h ar aq
   exact h
  have h := h.1 (of_decide_eq_true aw)
  refine ⟨a2, a0, a1, av.celli 15 rfl rfl, ?_⟩
  refine bif_fo (fun au => ?_) (fun au => ?_)
  ·have h := h.2 (Int.not_le.1 (of_decide_eq_false au))
   have h := h ar aq
   exact h
  have h := h.1 (of_decide_eq_true au)
  refine ⟨am, ao, al, av.celli 18 rfl rfl, ?_⟩
  have h := h ar aq
  exact h

theorem Q0n.go (aj a6 a9 ae am ak ac : Int) (aa : Option Addr) (ab a7 : Nat) (ah a0 a5 a8 ag af a2 : Int) (a4 : Option Addr) (a1 a3 : Nat) (ad al : Int) (ao : Option Addr) (ap an : Nat) (ai : Int) {R : RW} {w : World} (h : Q0n.N aj a6 a9 ae am ak ac aa ab a7 ah a0 a5 a8 ag af a2 a4 a1 a3 ad al ao ap an ai R w) : Calls Try.prog 7 #[.agg #[.int .i64 aj, .int .i64 a6, .int .i64 a9, .int .u64 ae, .int .i64 am, .int .i64 ak, .int .i64 ac, .slice aa ab a7, .int .u64 ah, .int .i64 a0, .int .i64 a5, .int .u64 a8, .int .i64 ag, .int .i64 af, .int .i64 a2, .slice a4 a1 a3, .int .u64 ad, .int .i64 al, .slice ao ap an, .int .u64 ai]] w fun e w' => ∃ v, e = .returned v ∧ R v w' := Q0n.ok aj a6 a9 ae am ak ac aa ab a7 ah a0 a5 a8 ag af a2 a4 a1 a3 ad al ao ap an ai (Q0n.up aj a6 a9 ae am ak ac aa ab a7 ah a0 a5 a8 ag af a2 a4 a1 a3 ad al ao ap an ai h)
theorem Q0n.run (aj a6 a9 ae am ak ac : Int) (aa : Option Addr) (ab a7 : Nat) (ah a0 a5 a8 ag af a2 : Int) (a4 : Option Addr) (a1 a3 : Nat) (ad al : Int) (ao : Option Addr) (ap an : Nat) (ai : Int) {V : Value} {Q : World → Prop} {w : World} (h : Q0n.N aj a6 a9 ae am ak ac aa ab a7 ah a0 a5 a8 ag af a2 a4 a1 a3 ad al ao ap an ai (fun v w' => v = V ∧ Q w') w) : Calls Try.prog 7 #[.agg #[.int .i64 aj, .int .i64 a6, .int .i64 a9, .int .u64 ae, .int .i64 am, .int .i64 ak, .int .i64 ac, .slice aa ab a7, .int .u64 ah, .int .i64 a0, .int .i64 a5, .int .u64 a8, .int .i64 ag, .int .i64 af, .int .i64 a2, .slice a4 a1 a3, .int .u64 ad, .int .i64 al, .slice ao ap an, .int .u64 ai]] w (Ret V Q) := (Q0n.go aj a6 a9 ae am ak ac aa ab a7 ah a0 a5 a8 ag af a2 a4 a1 a3 ad al ao ap an ai h).mono fun e w' ⟨v, he, hv, hq⟩ => ⟨by rw [he, hv], hq⟩

def Q0w.M (c3 bb bm bt bz c4 bn : Int) (bk : Option Addr) (bg bj : Nat) (bx b2 ba bl bu br bc : Int) (bd : Option Addr) (b8 b9 : Nat) (bs c0 : Int) (c7 : Option Addr) (cb ca : Nat) (c1 : Int) (R : RW) (w : World) : Prop :=
 thenW (w.alloc (.cells #[.int .i64 c3, .int .i64 bb, .int .i64 bm, .int .u64 bt, .int .i64 bz, .int .i64 c4, .int .i64 bn, .slice bk bg bj, .int .u64 bx, .int .i64 b2, .int .i64 ba, .int .u64 bl, .int .i64 bu, .int .i64 br, .int .i64 bc, .slice bd b8 b9, .int .u64 bs, .int .i64 c0, .slice c7 cb ca, .int .u64 c1] 30)) fun c2 =>
 thenW (c2.alloc (.cells #[.int .i64 0, .int .i64 0, .int .i64 0, .int .u64 0, .int .i64 0, .int .i64 0, .int .i64 0, .slice none 0 0, .int .u64 0, .int .i64 0, .int .i64 0, .int .u64 0, .int .i64 0, .int .i64 0, .int .i64 0, .slice none 0 0, .int .u64 0, .int .i64 0, .slice none 0 0, .int .u64 0] 38)) fun b1 =>
 ∃ (bo : Int), b1.cell? ((blk w.heap.size).add 0) = some (.int .i64 bo) ∧
 ∃ (ah ao b3 bh bq ax : Int) (ay : Option Addr) (b0 ar : Nat) (bf : Int), cellsAt b1 ((blk w.heap.size).add 1) [.int .i64 ah, .int .i64 ao, .int .u64 b3, .int .i64 bh, .int .i64 bq, .int .i64 ax, .slice ay b0 ar, .int .u64 bf] 0 ∧
 ∃ (aj au b7 bi bp av : Int) (aw : Option Addr) (ap az : Nat) (be : Int), cellsAt b1 ((blk w.heap.size).add 9) [.int .i64 aj, .int .i64 au, .int .u64 b7, .int .i64 bi, .int .i64 bp, .int .i64 av, .slice aw ap az, .int .u64 be] 0 ∧
 ∃ (bv : Int), b1.cell? ((blk w.heap.size).add 17) = some (.int .i64 bv) ∧
 ∃ (c6 : Option Addr) (c8 c5 : Nat), b1.cell? ((blk w.heap.size).add 18) = some (.slice c6 c8 c5) ∧
 ∃ (bw : Int), b1.cell? ((blk w.heap.size).add 19) = some (.int .u64 bw) ∧
 putsK b1 (blk c2.heap.size) [.int .i64 bo, .int .i64 ah, .int .i64 ao, .int .u64 b3, .int .i64 bh, .int .i64 bq, .int .i64 ax, .slice ay b0 ar, .int .u64 bf, .int .i64 aj, .int .i64 au, .int .u64 b7, .int .i64 bi, .int .i64 bp, .int .i64 av, .slice aw ap az, .int .u64 be, .int .i64 bv, .slice c6 c8 c5, .int .u64 bw] 0 fun c9 =>
 ∃ (ag a0 aa ac ai af a9 : Int) (a7 : Option Addr) (a8 a2 : Nat) (am a1 a5 ad al ak a6 : Int) (a3 : Option Addr) (a4 ab : Nat) (ae aq : Int) (b4 : Option Addr) (b6 b5 : Nat) (an : Int), cellsAt c9 (blk c2.heap.size) [.int .i64 ag, .int .i64 a0, .int .i64 aa, .int .u64 ac, .int .i64 ai, .int .i64 af, .int .i64 a9, .slice a7 a8 a2, .int .u64 am, .int .i64 a1, .int .i64 a5, .int .u64 ad, .int .i64 al, .int .i64 ak, .int .i64 a6, .slice a3 a4 ab, .int .u64 ae, .int .i64 aq, .slice b4 b6 b5, .int .u64 an] 0 ∧
 R (.agg #[.int .i64 ag, .int .i64 a0, .int .i64 aa, .int .u64 ac, .int .i64 ai, .int .i64 af, .int .i64 a9, .slice a7 a8 a2, .int .u64 am, .int .i64 a1, .int .i64 a5, .int .u64 ad, .int .i64 al, .int .i64 ak, .int .i64 a6, .slice a3 a4 ab, .int .u64 ae, .int .i64 aq, .slice b4 b6 b5, .int .u64 an]) c9

theorem Q0w.ok (aj a6 a9 ae am ak ac : Int) (aa : Option Addr) (ab a7 : Nat) (ah a0 a5 a8 ag af a2 : Int) (a4 : Option Addr) (a1 a3 : Nat) (ad al : Int) (ao : Option Addr) (ap an : Nat) (ai : Int) {R : RW} {w : World} (h : Q0w.M aj a6 a9 ae am ak ac aa ab a7 ah a0 a5 a8 ag af a2 a4 a1 a3 ad al ao ap an ai R w) : Calls Try.prog 10 #[.agg #[.int .i64 aj, .int .i64 a6, .int .i64 a9, .int .u64 ae, .int .i64 am, .int .i64 ak, .int .i64 ac, .slice aa ab a7, .int .u64 ah, .int .i64 a0, .int .i64 a5, .int .u64 a8, .int .i64 ag, .int .i64 af, .int .i64 a2, .slice a4 a1 a3, .int .u64 ad, .int .i64 al, .slice ao ap an, .int .u64 ai]] w fun e w' => ∃ v, e = .returned v ∧ R v w' :=
  Q08 follows (H := []) (args := [.agg #[.int .i64 aj, .int .i64 a6, .int .i64 a9, .int .u64 ae, .int .i64 am, .int .i64 ak, .int .i64 ac, .slice aa ab a7, .int .u64 ah, .int .i64 a0, .int .i64 a5, .int .u64 a8, .int .i64 ag, .int .i64 af, .int .i64 a2, .slice a4 a1 a3, .int .u64 ad, .int .i64 al, .slice ao ap an, .int .u64 ai]]) (cast (by kernel_rfl) h)

def Q0w.N (aj a6 a9 ae am ak ac : Int) (aa : Option Addr) (ab a7 : Nat) (ah a0 a5 a8 ag af a2 : Int) (a4 : Option Addr) (a1 a3 : Nat) (ad al : Int) (ap : Option Addr) (aq ao : Nat) (ai : Int) (R : RW) (w : World) : Prop :=
 ∀ (an : World), Ext no w an →
 R (.agg #[.int .i64 aj, .int .i64 a6, .int .i64 a9, .int .u64 ae, .int .i64 am, .int .i64 ak, .int .i64 ac, .slice aa ab a7, .int .u64 ah, .int .i64 a0, .int .i64 a5, .int .u64 a8, .int .i64 ag, .int .i64 af, .int .i64 a2, .slice a4 a1 a3, .int .u64 ad, .int .i64 al, .slice ap aq ao, .int .u64 ai]) an

theorem Q0w.up (al a6 a9 ae ao am ac : Int) (aa : Option Addr) (ab a7 : Nat) (aj a0 a5 a8 ag af a2 : Int) (a4 : Option Addr) (a1 a3 : Nat) (ad an : Int) (aq : Option Addr) (ar ap : Nat) (ak : Int) {R : RW} {w : World} (h : Q0w.N al a6 a9 ae ao am ac aa ab a7 aj a0 a5 a8 ag af a2 a4 a1 a3 ad an aq ar ap ak R w) : Q0w.M al a6 a9 ae ao am ac aa ab a7 aj a0 a5 a8 ag af a2 a4 a1 a3 ad an aq ar ap ak R w := by
  unfold Q0w.M
  unfold Q0w.N at h
  refine Q02 fun b2 b0 => ?_
  have ah := Blk.of_new b0
  have b6 := ((Ext.refl no w)).size
  have au := (Ext.refl no w).x_alloc b0
  refine Q02 fun b5 av => ?_
  have ai := Blk.of_new av
  have b3 := (au).size
  have az := Nat.ne_of_lt ah.lt
  have ah := ah.x_alloc av
  have ax := au.x_alloc av
  refine ⟨al, ah.celli 0 rfl rfl, ?_⟩
  refine ⟨a6, a9, ae, ao, am, ac, aa, ab, a7, aj, ⟨ah.celli 1 rfl rfl, ah.celli 2 rfl rfl, ah.celli 3 rfl rfl, ah.celli 4 rfl rfl, ah.celli 5 rfl rfl, ah.celli 6 rfl rfl, ah.celli 7 rfl rfl, ah.celli 8 rfl rfl, trivial⟩, ?_⟩
  refine ⟨a0, a5, a8, ag, af, a2, a4, a1, a3, ad, ⟨ah.celli 9 rfl rfl, ah.celli 10 rfl rfl, ah.celli 11 rfl rfl, ah.celli 12 rfl rfl, ah.celli 13 rfl rfl, ah.celli 14 rfl rfl, ah.celli 15 rfl rfl, ah.celli 16 rfl rfl, trivial⟩, ?_⟩
  refine ⟨an, ah.celli 17 rfl rfl, ?_⟩
  refine ⟨aq, ar, ap, ah.celli 18 rfl rfl, ?_⟩
  refine ⟨ak, ah.celli 19 rfl rfl, ?_⟩
  refine Q0a (k := 0) (j := 0) ai (by exact Nat.le_of_ble_eq_true rfl) fun aw b4 b1 => ?_
  have ay := ax.x_puts b4 (.inr b3)
  have ai := Q0e b1 rfl
  refine ⟨al, a6, a9, ae, ao, am, ac, aa, ab, a7, aj, a0, a5, a8, ag, af, a2, a4, a1, a3, ad, an, aq, ar, ap, ak, ⟨ai.celli 0 rfl rfl, ai.celli 1 rfl rfl, ai.celli 2 rfl rfl, ai.celli 3 rfl rfl, ai.celli 4 rfl rfl, ai.celli 5 rfl rfl, ai.celli 6 rfl rfl, ai.celli 7 rfl rfl, ai.celli 8 rfl rfl, ai.celli 9 rfl rfl, ai.celli 10 rfl rfl, ai.celli 11 rfl rfl, ai.celli 12 rfl rfl, ai.celli 13 rfl rfl, ai.celli 14 rfl rfl, ai.celli 15 rfl rfl, ai.celli 16 rfl rfl, ai.celli 17 rfl rfl, ai.celli 18 rfl rfl, ai.celli 19 rfl rfl, trivial⟩, ?_⟩
  have h := h aw ay
  exact h

theorem Q0w.go (aj a6 a9 ae am ak ac : Int) (aa : Option Addr) (ab a7 : Nat) (ah a0 a5 a8 ag af a2 : Int) (a4 : Option Addr) (a1 a3 : Nat) (ad al : Int) (ao : Option Addr) (ap an : Nat) (ai : Int) {R : RW} {w : World} (h : Q0w.N aj a6 a9 ae am ak ac aa ab a7 ah a0 a5 a8 ag af a2 a4 a1 a3 ad al ao ap an ai R w) : Calls Try.prog 10 #[.agg #[.int .i64 aj, .int .i64 a6, .int .i64 a9, .int .u64 ae, .int .i64 am, .int .i64 ak, .int .i64 ac, .slice aa ab a7, .int .u64 ah, .int .i64 a0, .int .i64 a5, .int .u64 a8, .int .i64 ag, .int .i64 af, .int .i64 a2, .slice a4 a1 a3, .int .u64 ad, .int .i64 al, .slice ao ap an, .int .u64 ai]] w fun e w' => ∃ v, e = .returned v ∧ R v w' := Q0w.ok aj a6 a9 ae am ak ac aa ab a7 ah a0 a5 a8 ag af a2 a4 a1 a3 ad al ao ap an ai (Q0w.up aj a6 a9 ae am ak ac aa ab a7 ah a0 a5 a8 ag af a2 a4 a1 a3 ad al ao ap an ai h)
theorem Q0w.run (aj a6 a9 ae am ak ac : Int) (aa : Option Addr) (ab a7 : Nat) (ah a0 a5 a8 ag af a2 : Int) (a4 : Option Addr) (a1 a3 : Nat) (ad al : Int) (ao : Option Addr) (ap an : Nat) (ai : Int) {V : Value} {Q : World → Prop} {w : World} (h : Q0w.N aj a6 a9 ae am ak ac aa ab a7 ah a0 a5 a8 ag af a2 a4 a1 a3 ad al ao ap an ai (fun v w' => v = V ∧ Q w') w) : Calls Try.prog 10 #[.agg #[.int .i64 aj, .int .i64 a6, .int .i64 a9, .int .u64 ae, .int .i64 am, .int .i64 ak, .int .i64 ac, .slice aa ab a7, .int .u64 ah, .int .i64 a0, .int .i64 a5, .int .u64 a8, .int .i64 ag, .int .i64 af, .int .i64 a2, .slice a4 a1 a3, .int .u64 ad, .int .i64 al, .slice ao ap an, .int .u64 ai]] w (Ret V Q) := (Q0w.go aj a6 a9 ae am ak ac aa ab a7 ah a0 a5 a8 ag af a2 a4 a1 a3 ad al ao ap an ai h).mono fun e w' ⟨v, he, hv, hq⟩ => ⟨by rw [he, hv], hq⟩

def Q0s.M (c3 bb bm bt bz c4 bn : Int) (bk : Option Addr) (bg bj : Nat) (bx b2 ba bl bu br bc : Int) (bd : Option Addr) (b8 b9 : Nat) (bs c0 : Int) (c7 : Option Addr) (cb ca : Nat) (c1 : Int) (R : RW) (w : World) : Prop :=
 thenW (w.alloc (.cells #[.int .i64 c3, .int .i64 bb, .int .i64 bm, .int .u64 bt, .int .i64 bz, .int .i64 c4, .int .i64 bn, .slice bk bg bj, .int .u64 bx, .int .i64 b2, .int .i64 ba, .int .u64 bl, .int .i64 bu, .int .i64 br, .int .i64 bc, .slice bd b8 b9, .int .u64 bs, .int .i64 c0, .slice c7 cb ca, .int .u64 c1] 38)) fun c2 =>
 thenW (c2.alloc (.cells #[.int .i64 0, .int .i64 0, .int .i64 0, .int .u64 0, .int .i64 0, .int .i64 0, .int .i64 0, .slice none 0 0, .int .u64 0, .int .i64 0, .int .i64 0, .int .u64 0, .int .i64 0, .int .i64 0, .int .i64 0, .slice none 0 0, .int .u64 0, .int .i64 0, .slice none 0 0, .int .u64 0] 30)) fun b1 =>
 ∃ (bo : Int), b1.cell? ((blk w.heap.size).add 0) = some (.int .i64 bo) ∧
 ∃ (ah ao b3 bh bq ax : Int) (ay : Option Addr) (b0 ar : Nat) (bf : Int), cellsAt b1 ((blk w.heap.size).add 1) [.int .i64 ah, .int .i64 ao, .int .u64 b3, .int .i64 bh, .int .i64 bq, .int .i64 ax, .slice ay b0 ar, .int .u64 bf] 0 ∧
 ∃ (aj au b7 bi bp av : Int) (aw : Option Addr) (ap az : Nat) (be : Int), cellsAt b1 ((blk w.heap.size).add 9) [.int .i64 aj, .int .i64 au, .int .u64 b7, .int .i64 bi, .int .i64 bp, .int .i64 av, .slice aw ap az, .int .u64 be] 0 ∧
 ∃ (bv : Int), b1.cell? ((blk w.heap.size).add 17) = some (.int .i64 bv) ∧
 ∃ (c6 : Option Addr) (c8 c5 : Nat), b1.cell? ((blk w.heap.size).add 18) = some (.slice c6 c8 c5) ∧
 ∃ (bw : Int), b1.cell? ((blk w.heap.size).add 19) = some (.int .u64 bw) ∧
 putsK b1 (blk c2.heap.size) [.int .i64 bo, .int .i64 ah, .int .i64 ao, .int .u64 b3, .int .i64 bh, .int .i64 bq, .int .i64 ax, .slice ay b0 ar, .int .u64 bf, .int .i64 aj, .int .i64 au, .int .u64 b7, .int .i64 bi, .int .i64 bp, .int .i64 av, .slice aw ap az, .int .u64 be, .int .i64 bv, .slice c6 c8 c5, .int .u64 bw] 0 fun c9 =>
 ∃ (ag a0 aa ac ai af a9 : Int) (a7 : Option Addr) (a8 a2 : Nat) (am a1 a5 ad al ak a6 : Int) (a3 : Option Addr) (a4 ab : Nat) (ae aq : Int) (b4 : Option Addr) (b6 b5 : Nat) (an : Int), cellsAt c9 (blk c2.heap.size) [.int .i64 ag, .int .i64 a0, .int .i64 aa, .int .u64 ac, .int .i64 ai, .int .i64 af, .int .i64 a9, .slice a7 a8 a2, .int .u64 am, .int .i64 a1, .int .i64 a5, .int .u64 ad, .int .i64 al, .int .i64 ak, .int .i64 a6, .slice a3 a4 ab, .int .u64 ae, .int .i64 aq, .slice b4 b6 b5, .int .u64 an] 0 ∧
 R (.agg #[.int .i64 ag, .int .i64 a0, .int .i64 aa, .int .u64 ac, .int .i64 ai, .int .i64 af, .int .i64 a9, .slice a7 a8 a2, .int .u64 am, .int .i64 a1, .int .i64 a5, .int .u64 ad, .int .i64 al, .int .i64 ak, .int .i64 a6, .slice a3 a4 ab, .int .u64 ae, .int .i64 aq, .slice b4 b6 b5, .int .u64 an]) c9

theorem Q0s.ok (aj a6 a9 ae am ak ac : Int) (aa : Option Addr) (ab a7 : Nat) (ah a0 a5 a8 ag af a2 : Int) (a4 : Option Addr) (a1 a3 : Nat) (ad al : Int) (ao : Option Addr) (ap an : Nat) (ai : Int) {R : RW} {w : World} (h : Q0s.M aj a6 a9 ae am ak ac aa ab a7 ah a0 a5 a8 ag af a2 a4 a1 a3 ad al ao ap an ai R w) : Calls Try.prog 15 #[.agg #[.int .i64 aj, .int .i64 a6, .int .i64 a9, .int .u64 ae, .int .i64 am, .int .i64 ak, .int .i64 ac, .slice aa ab a7, .int .u64 ah, .int .i64 a0, .int .i64 a5, .int .u64 a8, .int .i64 ag, .int .i64 af, .int .i64 a2, .slice a4 a1 a3, .int .u64 ad, .int .i64 al, .slice ao ap an, .int .u64 ai]] w fun e w' => ∃ v, e = .returned v ∧ R v w' :=
  Q08 follows (H := []) (args := [.agg #[.int .i64 aj, .int .i64 a6, .int .i64 a9, .int .u64 ae, .int .i64 am, .int .i64 ak, .int .i64 ac, .slice aa ab a7, .int .u64 ah, .int .i64 a0, .int .i64 a5, .int .u64 a8, .int .i64 ag, .int .i64 af, .int .i64 a2, .slice a4 a1 a3, .int .u64 ad, .int .i64 al, .slice ao ap an, .int .u64 ai]]) (cast (by kernel_rfl) h)

def Q0s.N (aj a6 a9 ae am ak ac : Int) (aa : Option Addr) (ab a7 : Nat) (ah a0 a5 a8 ag af a2 : Int) (a4 : Option Addr) (a1 a3 : Nat) (ad al : Int) (ap : Option Addr) (aq ao : Nat) (ai : Int) (R : RW) (w : World) : Prop :=
 ∀ (an : World), Ext no w an →
 R (.agg #[.int .i64 aj, .int .i64 a6, .int .i64 a9, .int .u64 ae, .int .i64 am, .int .i64 ak, .int .i64 ac, .slice aa ab a7, .int .u64 ah, .int .i64 a0, .int .i64 a5, .int .u64 a8, .int .i64 ag, .int .i64 af, .int .i64 a2, .slice a4 a1 a3, .int .u64 ad, .int .i64 al, .slice ap aq ao, .int .u64 ai]) an

theorem Q0s.up (al a6 a9 ae ao am ac : Int) (aa : Option Addr) (ab a7 : Nat) (aj a0 a5 a8 ag af a2 : Int) (a4 : Option Addr) (a1 a3 : Nat) (ad an : Int) (aq : Option Addr) (ar ap : Nat) (ak : Int) {R : RW} {w : World} (h : Q0s.N al a6 a9 ae ao am ac aa ab a7 aj a0 a5 a8 ag af a2 a4 a1 a3 ad an aq ar ap ak R w) : Q0s.M al a6 a9 ae ao am ac aa ab a7 aj a0 a5 a8 ag af a2 a4 a1 a3 ad an aq ar ap ak R w := by
  unfold Q0s.M
  unfold Q0s.N at h
  refine Q02 fun b2 b0 => ?_
  have ah := Blk.of_new b0
  have b6 := ((Ext.refl no w)).size
  have au := (Ext.refl no w).x_alloc b0
  refine Q02 fun b5 av => ?_
  have ai := Blk.of_new av
  have b3 := (au).size
  have az := Nat.ne_of_lt ah.lt
  have ah := ah.x_alloc av
  have ax := au.x_alloc av
  refine ⟨al, ah.celli 0 rfl rfl, ?_⟩
  refine ⟨a6, a9, ae, ao, am, ac, aa, ab, a7, aj, ⟨ah.celli 1 rfl rfl, ah.celli 2 rfl rfl, ah.celli 3 rfl rfl, ah.celli 4 rfl rfl, ah.celli 5 rfl rfl, ah.celli 6 rfl rfl, ah.celli 7 rfl rfl, ah.celli 8 rfl rfl, trivial⟩, ?_⟩
  refine ⟨a0, a5, a8, ag, af, a2, a4, a1, a3, ad, ⟨ah.celli 9 rfl rfl, ah.celli 10 rfl rfl, ah.celli 11 rfl rfl, ah.celli 12 rfl rfl, ah.celli 13 rfl rfl, ah.celli 14 rfl rfl, ah.celli 15 rfl rfl, ah.celli 16 rfl rfl, trivial⟩, ?_⟩
  refine ⟨an, ah.celli 17 rfl rfl, ?_⟩
  refine ⟨aq, ar, ap, ah.celli 18 rfl rfl, ?_⟩
  refine ⟨ak, ah.celli 19 rfl rfl, ?_⟩
  refine Q0a (k := 0) (j := 0) ai (by exact Nat.le_of_ble_eq_true rfl) fun aw b4 b1 => ?_
  have ay := ax.x_puts b4 (.inr b3)
  have ai := Q0e b1 rfl
  refine ⟨al, a6, a9, ae, ao, am, ac, aa, ab, a7, aj, a0, a5, a8, ag, af, a2, a4, a1, a3, ad, an, aq, ar, ap, ak, ⟨ai.celli 0 rfl rfl, ai.celli 1 rfl rfl, ai.celli 2 rfl rfl, ai.celli 3 rfl rfl, ai.celli 4 rfl rfl, ai.celli 5 rfl rfl, ai.celli 6 rfl rfl, ai.celli 7 rfl rfl, ai.celli 8 rfl rfl, ai.celli 9 rfl rfl, ai.celli 10 rfl rfl, ai.celli 11 rfl rfl, ai.celli 12 rfl rfl, ai.celli 13 rfl rfl, ai.celli 14 rfl rfl, ai.celli 15 rfl rfl, ai.celli 16 rfl rfl, ai.celli 17 rfl rfl, ai.celli 18 rfl rfl, ai.celli 19 rfl rfl, trivial⟩, ?_⟩
  have h := h aw ay
  exact h

theorem Q0s.go (aj a6 a9 ae am ak ac : Int) (aa : Option Addr) (ab a7 : Nat) (ah a0 a5 a8 ag af a2 : Int) (a4 : Option Addr) (a1 a3 : Nat) (ad al : Int) (ao : Option Addr) (ap an : Nat) (ai : Int) {R : RW} {w : World} (h : Q0s.N aj a6 a9 ae am ak ac aa ab a7 ah a0 a5 a8 ag af a2 a4 a1 a3 ad al ao ap an ai R w) : Calls Try.prog 15 #[.agg #[.int .i64 aj, .int .i64 a6, .int .i64 a9, .int .u64 ae, .int .i64 am, .int .i64 ak, .int .i64 ac, .slice aa ab a7, .int .u64 ah, .int .i64 a0, .int .i64 a5, .int .u64 a8, .int .i64 ag, .int .i64 af, .int .i64 a2, .slice a4 a1 a3, .int .u64 ad, .int .i64 al, .slice ao ap an, .int .u64 ai]] w fun e w' => ∃ v, e = .returned v ∧ R v w' := Q0s.ok aj a6 a9 ae am ak ac aa ab a7 ah a0 a5 a8 ag af a2 a4 a1 a3 ad al ao ap an ai (Q0s.up aj a6 a9 ae am ak ac aa ab a7 ah a0 a5 a8 ag af a2 a4 a1 a3 ad al ao ap an ai h)
theorem Q0s.run (aj a6 a9 ae am ak ac : Int) (aa : Option Addr) (ab a7 : Nat) (ah a0 a5 a8 ag af a2 : Int) (a4 : Option Addr) (a1 a3 : Nat) (ad al : Int) (ao : Option Addr) (ap an : Nat) (ai : Int) {V : Value} {Q : World → Prop} {w : World} (h : Q0s.N aj a6 a9 ae am ak ac aa ab a7 ah a0 a5 a8 ag af a2 a4 a1 a3 ad al ao ap an ai (fun v w' => v = V ∧ Q w') w) : Calls Try.prog 15 #[.agg #[.int .i64 aj, .int .i64 a6, .int .i64 a9, .int .u64 ae, .int .i64 am, .int .i64 ak, .int .i64 ac, .slice aa ab a7, .int .u64 ah, .int .i64 a0, .int .i64 a5, .int .u64 a8, .int .i64 ag, .int .i64 af, .int .i64 a2, .slice a4 a1 a3, .int .u64 ad, .int .i64 al, .slice ao ap an, .int .u64 ai]] w (Ret V Q) := (Q0s.go aj a6 a9 ae am ak ac aa ab a7 ah a0 a5 a8 ag af a2 a4 a1 a3 ad al ao ap an ai h).mono fun e w' ⟨v, he, hv, hq⟩ => ⟨by rw [he, hv], hq⟩
theorem eqT66 (x0 x1 x2 y0 y1 y2 : Int) (w : World) : (Op.equalIn 10000 66 (.agg #[.int .i64 x0, .int .i64 x1, .int .u64 x2]) (.agg #[.int .i64 y0, .int .i64 y1, .int .u64 y2])).run Try.prog w = .ok (decide (x0 = y0 ∧ x1 = y1 ∧ x2 = y2)) w := by
  obtain ⟨f0, f1, f2, ht, n0, o0, p0, u0, n1, o1, p1, u1, n2, o2, p2, u2, hp⟩ : ∃ f0 f1 f2, Try.prog.underlying 66 = some (.struct #[f0, f1, f2]) ∧ f0.name ≠ "_" ∧ f0.offset = 0 ∧ Try.prog.plainKey f0.type = true ∧ Try.prog.underlying f0.type = some (.int .i64) ∧ f1.name ≠ "_" ∧ f1.offset = 1 ∧ Try.prog.plainKey f1.type = true ∧ Try.prog.underlying f1.type = some (.int .i64) ∧ f2.name ≠ "_" ∧ f2.offset = 2 ∧ Try.prog.plainKey f2.type = true ∧ Try.prog.underlying f2.type = some (.int .u64) ∧ Try.prog.stoodInHeld 66 = false :=
    ⟨_, _, _, Try.underlying66, by decide, rfl, by kernel_rfl, by kernel_rfl, by decide, rfl, by kernel_rfl, by kernel_rfl, by decide, rfl, by kernel_rfl, by kernel_rfl, by kernel_rfl⟩
  have hf : Try.prog.fieldsOf 66 = #[f0, f1, f2] := by simp [Program.fieldsOf, ht]
  rw [show (10000 : Nat) = 9998 + 1 + 1 from rfl, run_equalIn_struct w (9998 + 1) _ _ _ (by rw [hf]; exact ht) hp, hf]
  show (Op.eqFields (9998 + 1) _ _ [f0, f1, f2]).run Try.prog w = _
  rw [W.eqf_step n0 (run_part_plain w p0 (by rw [o0]; rfl)) (run_part_plain w p0 (by rw [o0]; rfl)) (run_equalIn_int w _ _ _ _ _ _ u0), W.eqf_step n1 (run_part_plain w p1 (by rw [o1]; rfl)) (run_part_plain w p1 (by rw [o1]; rfl)) (run_equalIn_int w _ _ _ _ _ _ u1), W.eqf_step n2 (run_part_plain w p2 (by rw [o2]; rfl)) (run_part_plain w p2 (by rw [o2]; rfl)) (run_equalIn_int w _ _ _ _ _ _ u2)]
  by_cases e0 : x0 = y0 <;> by_cases e1 : x1 = y1 <;> by_cases e2 : x2 = y2 <;> simp [e0, e1, e2, Op.eqFields]
theorem Q5C (x0 x1 x2 y0 y1 y2 : Int) (w : World) : (binOp .neq 66 (.agg #[.int .i64 x0, .int .i64 x1, .int .u64 x2]) (.agg #[.int .i64 y0, .int .i64 y1, .int .u64 y2])).run Try.prog w = .ok (.bool (!decide (x0 = y0 ∧ x1 = y1 ∧ x2 = y2))) w := by rw [run_neq_struct, eqT66]; rfl

def Q05.M (ae : Option Addr) (a7 ah : Nat) (af : Option Addr) (aa ag : Nat) (R : RW) (w : World) : Prop :=
 bif (a7 : Int) != (aa : Int) then (
 R (.bool false) w) else (
 ∃ (I0 : Nat → List Value → World → Prop) (m4 : Nat), I0 m4 [.int .i64 0] w ∧ ∀ (m5 : Nat) (a9 : World) (t3 : Int), I0 m5 [.int .i64 t3] a9 →
 bif decide (t3 < (a7 : Int)) then (
 thenW (a9.drew) fun a6 =>
 ae.elim False fun a8 =>
 0 ≤ (t3 : Int) ∧ (t3 : Int) < (a7 : Int) ∧
 ∃ (a1 a3 a4 : Int), cellsAt a6 (a8.add (Int.toNat t3 * 3)) [.int .i64 a1, .int .i64 a3, .int .u64 a4] 0 ∧
 af.elim False fun ad =>
 0 ≤ (t3 : Int) ∧ (t3 : Int) < (aa : Int) ∧
 ∃ (a0 a5 a2 : Int), cellsAt a6 (ad.add (Int.toNat t3 * 3)) [.int .i64 a0, .int .i64 a5, .int .u64 a2] 0 ∧
 ∃ (ac : Bool), (binOp .neq 66 (.agg #[.int .i64 a1, .int .i64 a3, .int .u64 a4]) (.agg #[.int .i64 a0, .int .i64 a5, .int .u64 a2])).run Try.prog a6 = .ok (.bool ac) a6 ∧
 bif ac then (
 R (.bool false) a6) else (
 ∃ ab, ab < m5 ∧ I0 ab [.int .i64 (IntKind.i64.wrap (t3 + 1))] a6)) else (
 R (.bool true) a9))

theorem Q05.ok (a3 : Option Addr) (a4 a2 : Nat) (a5 : Option Addr) (a0 a1 : Nat) {R : RW} {w : World} (h : Q05.M a3 a4 a2 a5 a0 a1 R w) : Calls Try.prog 31 #[.slice a3 a4 a2, .slice a5 a0 a1] w fun e w' => ∃ v, e = .returned v ∧ R v w' :=
  Q08 follows (H := [(0, [0, 1, 12], [(13, (.one (.int .i64)))])]) (args := [.slice a3 a4 a2, .slice a5 a0 a1]) (cast (by kernel_rfl) h)

def Q05.N (ad : Option Addr) (a8 ag : Nat) (ae : Option Addr) (a9 af : Nat) (R : RW) (w : World) : Prop :=
 ((a8 : Int) ≠ (a9 : Int) →
 R (.bool false) w) ∧
 ((a8 : Int) = (a9 : Int) →
 ∃ (I0 : Nat → List Value → World → Prop) (m5 : Nat), I0 m5 [.int .i64 0] w ∧ ∀ (m6 : Nat) (a6 : World) (t4 : Int), I0 m6 [.int .i64 t4] a6 →
 (t4 < (a8 : Int) →
 ∃ ab : Addr, ad = some ab ∧
 0 ≤ (t4 : Int) ∧ (t4 : Int) < (a8 : Int) ∧
 ∃ (a0 a2 a3 : Int), cellsAt a6 (ab.add (Int.toNat t4 * 3)) [.int .i64 a0, .int .i64 a2, .int .u64 a3] 0 ∧
 ∃ ac : Addr, ae = some ac ∧
 0 ≤ (t4 : Int) ∧ (t4 : Int) < (a9 : Int) ∧
 ∃ (a1 a4 a5 : Int), cellsAt a6 (ac.add (Int.toNat t4 * 3)) [.int .i64 a1, .int .i64 a4, .int .u64 a5] 0 ∧
 (¬ (a0 = a1 ∧ a2 = a4 ∧ a3 = a5) →
 ∀ (a7 : World), Ext no a6 a7 →
 R (.bool false) a7) ∧
 (a0 = a1 ∧ a2 = a4 ∧ a3 = a5 →
 (-9223372036854775808 : Int) ≤ (t4 + 1) ∧ (t4 + 1) < 9223372036854775808 ∧
 ∀ (a7 : World), Ext no a6 a7 →
 ∃ aa, aa < m6 ∧ I0 aa [.int .i64 (t4 + 1)] a7)) ∧
 ((a8 : Int) ≤ t4 →
 R (.bool true) a6))

theorem Q05.up (af : Option Addr) (ah aj : Nat) (al : Option Addr) (ag ai : Nat) {R : RW} {w : World} (h : Q05.N af ah aj al ag ai R w) : Q05.M af ah aj al ag ai R w := by
  unfold Q05.M
  unfold Q05.N at h
  refine bif_of (fun c3 => ?_) (fun c3 => ?_)
  ·have h := h.1 (bne_t c3)
   exact h
  have h := h.2 (bne_f c3)
  obtain ⟨I0, m5, h0, h⟩ := h
  refine ⟨I0, m5, h0, fun m6 ak t4 hI => ?_⟩
  have h := h m6 ak t4 hI
  refine bif_fo (fun c8 => ?_) (fun c8 => ?_)
  ·have h := h.2 (Int.not_lt.1 (of_decide_eq_false c8))
   exact h
  have h := h.1 (of_decide_eq_true c8)
  refine Q02 fun ae e9 => ?_
  have a6 := (Ext.refl no ak).x_drew e9
  obtain ⟨aq, ad, h⟩ := h
  refine Q0L ad ?_
  obtain ⟨a7, a9, h⟩ := h
  refine ⟨a7, a9, ?_⟩
  obtain ⟨a0, a2, a4, ab, h⟩ := h
  refine ⟨a0, a2, a4, Q2x (a6) ab, ?_⟩
  obtain ⟨ap, a8, h⟩ := h
  refine Q0L a8 ?_
  obtain ⟨a7, a9, h⟩ := h
  refine ⟨a7, a9, ?_⟩
  obtain ⟨a1, a5, a3, aa, h⟩ := h
  refine ⟨a1, a5, a3, Q2x (a6) aa, ?_⟩
  refine ⟨_, Q5C a0 a2 a4 a1 a5 a3 _, ?_⟩
  refine bif_of (fun ac => ?_) (fun ac => ?_)
  ·have h := h.1 (of_decide_eq_false (not_t ac))
   have h := h ae a6
   exact h
  have h := h.2 (of_decide_eq_true (not_f ac))
  obtain ⟨am, ao, h⟩ := h
  try rw [w64 am ao]
  have h := h ae a6
  obtain ⟨an, hk, h⟩ := h
  exact ⟨an, hk, h⟩

theorem Q05.go (a3 : Option Addr) (a4 a2 : Nat) (a5 : Option Addr) (a0 a1 : Nat) {R : RW} {w : World} (h : Q05.N a3 a4 a2 a5 a0 a1 R w) : Calls Try.prog 31 #[.slice a3 a4 a2, .slice a5 a0 a1] w fun e w' => ∃ v, e = .returned v ∧ R v w' := Q05.ok a3 a4 a2 a5 a0 a1 (Q05.up a3 a4 a2 a5 a0 a1 h)
theorem Q05.run (a3 : Option Addr) (a4 a2 : Nat) (a5 : Option Addr) (a0 a1 : Nat) {V : Value} {Q : World → Prop} {w : World} (h : Q05.N a3 a4 a2 a5 a0 a1 (fun v w' => v = V ∧ Q w') w) : Calls Try.prog 31 #[.slice a3 a4 a2, .slice a5 a0 a1] w (Ret V Q) := (Q05.go a3 a4 a2 a5 a0 a1 h).mono fun e w' ⟨v, he, hv, hq⟩ => ⟨by rw [he, hv], hq⟩
def Q07.M (a4 : Option Addr) (a5 a3 a6 : Nat) (a2 a7 : Array Value) (R : RW) (w : World) : Prop :=
 Calls Try.prog 70 #[.slice a4 a5 a3, .func (.func a6) a2 a7] w fun a8 a1 => ∃ (a0 : Int), a8 = .returned (.int .i64 a0) ∧
 R (.bool (decide (a0 ≥ 0))) a1

theorem Q07.ok (a2 : Option Addr) (a3 a1 a4 : Nat) (a0 a5 : Array Value) {R : RW} {w : World} (h : Q07.M a2 a3 a1 a4 a0 a5 R w) : Calls Try.prog 52 #[.slice a2 a3 a1, .func (.func a4) a0 a5] w fun e w' => ∃ v, e = .returned v ∧ R v w' :=
  Q08 follows (H := []) (args := [.slice a2 a3 a1, .func (.func a4) a0 a5]) (cast (by kernel_rfl) h)

def Q07.N (a4 : Option Addr) (a5 a3 a6 : Nat) (a2 a7 : Array Value) (R : RW) (w : World) : Prop :=
 Calls Try.prog 70 #[.slice a4 a5 a3, .func (.func a6) a2 a7] w fun a8 a1 => ∃ (a0 : Int), a8 = .returned (.int .i64 a0) ∧
 R (.bool (decide (a0 ≥ 0))) a1

theorem Q07.up (a3 : Option Addr) (a4 a2 a5 : Nat) (a1 a6 : Array Value) {R : RW} {w : World} (h : Q07.N a3 a4 a2 a5 a1 a6 R w) : Q07.M a3 a4 a2 a5 a1 a6 R w := by
  unfold Q07.M
  unfold Q07.N at h
  refine h.mono fun a8 a7 h => ?_
  obtain ⟨a0, he, h⟩ := h
  refine ⟨a0, he, ?_⟩
  exact h

theorem Q07.go (a2 : Option Addr) (a3 a1 a4 : Nat) (a0 a5 : Array Value) {R : RW} {w : World} (h : Q07.N a2 a3 a1 a4 a0 a5 R w) : Calls Try.prog 52 #[.slice a2 a3 a1, .func (.func a4) a0 a5] w fun e w' => ∃ v, e = .returned v ∧ R v w' := Q07.ok a2 a3 a1 a4 a0 a5 (Q07.up a2 a3 a1 a4 a0 a5 h)
theorem Q07.run (a2 : Option Addr) (a3 a1 a4 : Nat) (a0 a5 : Array Value) {V : Value} {Q : World → Prop} {w : World} (h : Q07.N a2 a3 a1 a4 a0 a5 (fun v w' => v = V ∧ Q w') w) : Calls Try.prog 52 #[.slice a2 a3 a1, .func (.func a4) a0 a5] w (Ret V Q) := (Q07.go a2 a3 a1 a4 a0 a5 h).mono fun e w' ⟨v, he, hv, hq⟩ => ⟨by rw [he, hv], hq⟩

def Q0f.M (ae : Option Addr) (ab af a8 : Nat) (aa ac : Array Value) (R : RW) (w : World) : Prop :=
 ∃ (I0 : Nat → List Value → World → Prop) (m4 : Nat), I0 m4 [.int .i64 0] w ∧ ∀ (m5 : Nat) (a2 : World) (t3 : Int), I0 m5 [.int .i64 t3] a2 →
 bif decide (t3 < (ab : Int)) then (
 ae.elim False fun a7 =>
 0 ≤ (t3 : Int) ∧ (t3 : Int) < (ab : Int) ∧
 ∃ (a5 : Option Addr) (a4 a3 : Nat), a2.cell? (a7.add (Int.toNat t3 * 1)) = some (.slice a5 a4 a3) ∧
 bif enters Try.prog a8 then Calls Try.prog a8 (aa.toList ++ ([.slice a5 a4 a3] : List Value) ++ ac.toList).toArray a2 (fun a6 a1 => ∃ (r9 : Bool), a6 = .returned (.bool r9) ∧
 bif r9 then (
 R (.int .i64 t3) a1) else (
 ∃ a9, a9 < m5 ∧ I0 a9 [.int .i64 (IntKind.i64.wrap (t3 + 1))] a1)) else (∃ (r9 : Bool) (a0 : World), (Q2s a8 (aa.toList ++ ([.slice a5 a4 a3] : List Value) ++ ac.toList).toArray).run Try.prog a2 = .ok (.bool r9) a0 ∧
 bif r9 then (
 R (.int .i64 t3) a0) else (
 ∃ ad, ad < m5 ∧ I0 ad [.int .i64 (IntKind.i64.wrap (t3 + 1))] a0))) else (
 R (.int .i64 (-1)) a2)

theorem Q0f.ok (a2 : Option Addr) (a3 a1 a4 : Nat) (a0 a5 : Array Value) {R : RW} {w : World} (h : Q0f.M a2 a3 a1 a4 a0 a5 R w) : Calls Try.prog 70 #[.slice a2 a3 a1, .func (.func a4) a0 a5] w fun e w' => ∃ v, e = .returned v ∧ R v w' :=
  Q08 follows (H := [(0, [0, 1, 7], [(8, (.one (.int .i64)))])]) (args := [.slice a2 a3 a1, .func (.func a4) a0 a5]) (cast (by kernel_rfl) h)

def Q0f.N (ac : Option Addr) (a6 ae a9 : Nat) (ab ad : Array Value) (R : RW) (w : World) : Prop :=
 ∃ (I0 : Nat → List Value → World → Prop) (m4 : Nat), I0 m4 [.int .i64 0] w ∧ ∀ (m5 : Nat) (a4 : World) (t3 : Int), I0 m5 [.int .i64 t3] a4 →
 (t3 < (a6 : Int) →
 ∃ a8 : Addr, ac = some a8 ∧
 0 ≤ (t3 : Int) ∧ (t3 : Int) < (a6 : Int) ∧
 ∃ (a1 : Option Addr) (a3 a0 : Nat), a4.cell? (a8.add (Int.toNat t3 * 1)) = some (.slice a1 a3 a0) ∧
 enters Try.prog a9 = true ∧ Calls Try.prog a9 (ab.toList ++ ([.slice a1 a3 a0] : List Value) ++ ad.toList).toArray a4 (fun a7 a2 => ∃ (a5 : Bool), a7 = .returned (.bool a5) ∧
 (a5 = true →
 R (.int .i64 t3) a2) ∧
 (a5 = false →
 (-9223372036854775808 : Int) ≤ (t3 + 1) ∧ (t3 + 1) < 9223372036854775808 ∧
 ∃ aa, aa < m5 ∧ I0 aa [.int .i64 (t3 + 1)] a2))) ∧
 ((a6 : Int) ≤ t3 →
 R (.int .i64 (-1)) a4)

theorem Q0f.up (a4 : Option Addr) (a6 a9 aa : Nat) (a7 a5 : Array Value) {R : RW} {w : World} (h : Q0f.N a4 a6 a9 aa a7 a5 R w) : Q0f.M a4 a6 a9 aa a7 a5 R w := by
  unfold Q0f.M
  unfold Q0f.N at h
  obtain ⟨I0, m4, h0, h⟩ := h
  refine ⟨I0, m4, h0, fun m5 ah t3 hI => ?_⟩
  have h := h m5 ah t3 hI
  refine bif_fo (fun c7 => ?_) (fun c7 => ?_)
  ·have h := h.2 (Int.not_lt.1 (of_decide_eq_false c7))
   exact h
  have h := h.1 (of_decide_eq_true c7)
  obtain ⟨a8, ak, h⟩ := h
  refine Q0L ak ?_
  obtain ⟨ac, ag, h⟩ := h
  refine ⟨ac, ag, ?_⟩
  obtain ⟨a1, a2, a0, ab, h⟩ := h
  refine ⟨a1, a2, a0, ab, ?_⟩
  obtain ⟨hen, h⟩ := h
  refine bif_tt hen ?_
  refine h.mono fun ae aj h => ?_
  obtain ⟨ad, he, h⟩ := h
  refine ⟨ad, he, ?_⟩
  refine bif_of (fun a3 => ?_) (fun a3 => ?_)
  ·have h := h.1 a3
   exact h
  have h := h.2 a3
  obtain ⟨ai, al, h⟩ := h
  try rw [w64 ai al]
  obtain ⟨af, hk, h⟩ := h
  exact ⟨af, hk, h⟩

theorem Q0f.go (a2 : Option Addr) (a3 a1 a4 : Nat) (a0 a5 : Array Value) {R : RW} {w : World} (h : Q0f.N a2 a3 a1 a4 a0 a5 R w) : Calls Try.prog 70 #[.slice a2 a3 a1, .func (.func a4) a0 a5] w fun e w' => ∃ v, e = .returned v ∧ R v w' := Q0f.ok a2 a3 a1 a4 a0 a5 (Q0f.up a2 a3 a1 a4 a0 a5 h)
def Q0M.M (a1 : Option Addr) (a0 a2 : Nat) (R : RW) (w : World) : Prop :=
 R (.bool (decide ((a0 : Int) > 4000))) w

theorem Q0M.ok (a1 : Option Addr) (a0 a2 : Nat) {R : RW} {w : World} (h : Q0M.M a1 a0 a2 R w) : Calls Try.prog 53 #[.slice a1 a0 a2] w fun e w' => ∃ v, e = .returned v ∧ R v w' :=
  Q08 follows (H := []) (args := [.slice a1 a0 a2]) (cast (by kernel_rfl) h)

def Q0M.N (a1 : Option Addr) (a0 a2 : Nat) (R : RW) (w : World) : Prop :=
 R (.bool (decide ((a0 : Int) > 4000))) w

theorem Q0M.up (a1 : Option Addr) (a0 a2 : Nat) {R : RW} {w : World} (h : Q0M.N a1 a0 a2 R w) : Q0M.M a1 a0 a2 R w := by
  unfold Q0M.M
  unfold Q0M.N at h
  exact h

theorem Q0M.go (a1 : Option Addr) (a0 a2 : Nat) {R : RW} {w : World} (h : Q0M.N a1 a0 a2 R w) : Calls Try.prog 53 #[.slice a1 a0 a2] w fun e w' => ∃ v, e = .returned v ∧ R v w' := Q0M.ok a1 a0 a2 (Q0M.up a1 a0 a2 h)
theorem Q0M.run (a1 : Option Addr) (a0 a2 : Nat) {V : Value} {Q : World → Prop} {w : World} (h : Q0M.N a1 a0 a2 (fun v w' => v = V ∧ Q w') w) : Calls Try.prog 53 #[.slice a1 a0 a2] w (Ret V Q) := (Q0M.go a1 a0 a2 h).mono fun e w' ⟨v, he, hv, hq⟩ => ⟨by rw [he, hv], hq⟩
set_option maxRecDepth 20000
open W (OwnB Rd numR countR doneR)
section
variable {w w' : World} {x y : FP} {a b : Option Addr} {c d : Nat} {hs gs : List Hd}
theorem Q3Y (ha : RowAt w a (hsC hs)) (hb : RowAt w b (hsC gs)) (hl : hs.length < 1000000) :
    Calls Try.prog 31 #[.slice a hs.length c, .slice b gs.length d] w (Ret (.bool (decide (hs = gs))) fun w' => Ext no w w') := by
  refine Q05.run _ _ _ _ _ _ ?_
  unfold Q05.N
  refine ⟨fun h => ⟨by rw [decide_eq_false fun e => h (by rw [e])], Ext.refl _ _⟩, fun h => ?_⟩
  have hlen : hs.length = gs.length := by omega
  refine ⟨fun m vs w1 => ∃ t : Nat, vs = [.int .i64 t] ∧ m + t = hs.length ∧ Ext no w w1 ∧ hs.take t = gs.take t, hs.length, ⟨0, rfl, rfl, Ext.refl _ _, rfl⟩, ?_⟩
  rintro m w7 i ⟨t, hi, hm, X7, ht7⟩
  simp only [List.cons.injEq, Value.int.injEq, true_and, and_true] at hi
  subst hi
  refine ⟨fun ht => ?_, fun ht => ⟨?_, X7⟩⟩
  · have htl : t < hs.length := by omega
    have htg : t < gs.length := by omega
    have ha7 := ha.no X7
    have hb7 := hb.no X7
    obtain ⟨ad, rfl⟩ := ha7.addr (hsC_ne (by intro e; subst e; simp at htl))
    obtain ⟨bd, rfl⟩ := hb7.addr (hsC_ne (by intro e; subst e; simp at htg))
    have g1 : hs[t]? = some hs[t] := List.getElem?_eq_getElem htl
    have g2 : gs[t]? = some gs[t] := List.getElem?_eq_getElem htg
    generalize hs[t] = u at *
    generalize gs[t] = v at *
    refine ⟨ad, rfl, by omega, by omega, u.1, u.2.1, u.2.2, by rw [Int.toNat_natCast]; exact hs_at ha7 g1, bd, rfl, by omega, by omega, v.1, v.2.1, v.2.2, by rw [Int.toNat_natCast]; exact hs_at hb7 g2, fun hne w9 X9 => ⟨?_, X7.trans X9⟩, fun he => ⟨by omega, by omega, fun w9 X9 => ⟨m - 1, by omega, t + 1, rfl, by omega, X7.trans X9, ?_⟩⟩⟩
    · rw [decide_eq_false fun e => hne (by rw [e, g2] at g1; cases g1; exact ⟨rfl, rfl, rfl⟩)]
    · have : u = v := Prod.ext he.1 (Prod.ext he.2.1 he.2.2)
      rw [List.take_add_one, List.take_add_one, ht7, g1, g2, this]
  · rw [List.take_of_length_le (by omega), List.take_of_length_le (by omega)] at ht7
    rw [decide_eq_true ht7]
theorem Q4w (hx : x.at w) (hy : y.at w) (hlv : x.r.v.length < 1000000) : Calls Try.prog 12 #[x.V, y.V] w (Ret (.bool (frSame x.r y.r)) fun w' => Ext no w w') := by
  obtain ⟨⟨kd, e, f, who, v, sg⟩, ea, ec, fa, fc, va, vc⟩ := x
  obtain ⟨⟨kd', e', f', who', v', sg'⟩, ea', ec', fa', fc', va', vc'⟩ := y
  refine Q0U.run kd e.w e.i e.pv e.t e.tw e.ep ea e.body.length ec e.sg f.w f.i f.pv f.t f.tw f.ep fa f.body.length fc f.sg who va v.length vc sg kd' e'.w e'.i e'.pv e'.t e'.tw e'.ep ea' e'.body.length ec' e'.sg f'.w f'.i f'.pv f'.t f'.tw f'.ep fa' f'.body.length fc' f'.sg who' va' v'.length vc' sg' ?_
  unfold Q0U.N
  have leaf : ∀ {b : Bool} {w2 : World}, (b = true ↔ (Fr.mk kd e f who v sg) = ⟨kd', e', f', who', v', sg'⟩) → Ext no w w2 → Value.bool b = Value.bool (frSame ⟨kd, e, f, who, v, sg⟩ ⟨kd', e', f', who', v', sg'⟩) ∧ Ext no w w2 := fun {b} {w2} h X => ⟨by
    congr 1
    rw [Bool.eq_iff_iff, h]
    unfold frSame; rw [decide_eq_true_eq], X⟩
  refine ⟨fun h1 => ⟨fun h2 => ⟨fun h3 w2 p46 p47 X hp => ?_, fun h w2 X => leaf (by simp [h]) X⟩, fun h w2 X => leaf (by simp [h]) X⟩, fun h w2 X => leaf (by simp [h]) X⟩
  refine (Q2r (e := e) (f := e') (hx.e.no X) (hy.e.no X)).mono fun u w3 ⟨hx3, X3⟩ => ⟨_, hx3, X3.kept, fun h4 => ?_, fun h => leaf ?_ (X.trans X3)⟩
  · have X3 := X.trans X3
    refine (Q2r (e := f) (f := f') (hx.f.no X3) (hy.f.no X3)).mono fun u w4 ⟨hx4, X4⟩ => ⟨_, hx4, X4.kept, fun h5 => ?_, fun h => leaf ?_ (X3.trans X4)⟩
    · have X4 := X3.trans X4
      refine (Q3Y (hx.v.no X4) (hy.v.no X4) hlv).mono fun u w5 ⟨hx5, X5⟩ => ⟨_, hx5, leaf ?_ (X4.trans X5)⟩
      rw [decide_eq_true_eq] at h4 h5 ⊢
      rw [Fr.mk.injEq]
      exact ⟨fun h => ⟨h1, h4, h5, h2, h, h3⟩, fun h => h.2.2.2.2.1⟩
    · simp at h; simp [h]
  · simp at h; simp [h]
def FP.ofE (e : Ent) (a : Option Addr) (c : Nat) : FP := ⟨⟨1, e, Ent.zero, 0, [], 0⟩, a, c, none, 0, none, 0⟩
theorem Q2T (e : Ent) (a : Option Addr) (c : Nat) : Calls Try.prog 20 #[entV e a c] w (Ret (FP.ofE e a c).V fun w' => Ext no w w') := by
  refine Q0O.run e.w e.i e.pv e.t e.tw e.ep a e.body.length c e.sg ?_
  unfold Q0O.N
  exact fun w2 X => ⟨rfl, X⟩
def frLight (r : Fr) : Bool := decide (r.e.body.length ≤ 1500 ∧ r.f.body.length ≤ 1500 ∧ r.v.length ≤ 30)
theorem Q2E (x : FP) : Calls Try.prog 7 #[x.V] w (Ret (.bool (frLight x.r)) fun w' => Ext no w w') := by
  obtain ⟨⟨kd, e, f, who, v, sg⟩, ea, ec, fa, fc, va, vc⟩ := x
  refine Q0n.run kd e.w e.i e.pv e.t e.tw e.ep ea e.body.length ec e.sg f.w f.i f.pv f.t f.tw f.ep fa f.body.length fc f.sg who va v.length vc sg ?_
  unfold Q0n.N
  have leaf : ∀ {b : Bool} {w2 : World}, (b = true ↔ (e.body.length ≤ 1500 ∧ f.body.length ≤ 1500 ∧ v.length ≤ 30)) → Ext no w w2 → Value.bool b = Value.bool (frLight ⟨kd, e, f, who, v, sg⟩) ∧ Ext no w w2 := fun {b} {w2} h X => ⟨by
    congr 1
    rw [Bool.eq_iff_iff, h]
    unfold frLight; rw [decide_eq_true_eq], X⟩
  refine ⟨fun h1 => ⟨fun h2 w2 X => leaf ?_ X, fun h2 w2 X => leaf ?_ X⟩, fun h1 w2 X => leaf ?_ X⟩
  · rw [decide_eq_true_eq]; omega
  · constructor
    · intro h; cases h
    · intro h; omega
  · constructor
    · intro h; cases h
    · intro h; omega
theorem Q21 (x : FP) : Calls Try.prog 10 #[x.V] w (Ret x.V fun w' => Ext no w w') := by
  obtain ⟨⟨kd, e, f, who, v, sg⟩, ea, ec, fa, fc, va, vc⟩ := x
  refine Q0w.run kd e.w e.i e.pv e.t e.tw e.ep ea e.body.length ec e.sg f.w f.i f.pv f.t f.tw f.ep fa f.body.length fc f.sg who va v.length vc sg ?_
  unfold Q0w.N
  exact fun w2 X => ⟨rfl, X⟩
theorem Q2Y (x : FP) : Calls Try.prog 15 #[x.V] w (Ret x.V fun w' => Ext no w w') := by
  obtain ⟨⟨kd, e, f, who, v, sg⟩, ea, ec, fa, fc, va, vc⟩ := x
  refine Q0s.run kd e.w e.i e.pv e.t e.tw e.ep ea e.body.length ec e.sg f.w f.i f.pv f.t f.tw f.ep fa f.body.length fc f.sg who va v.length vc sg ?_
  unfold Q0s.N
  exact fun w2 X => ⟨rfl, X⟩
end
/-! ### many parts as one -/
def encB (b : List UInt8) : List UInt8 := numL b.length ++ b
def joinL (l : List (List UInt8)) : List UInt8 := numL l.length ++ l.flatMap encB
def bigs (l : List (List UInt8)) : Bool := l.any fun b => decide (b.length > 4000)
def joinK (l : List (List UInt8)) : List UInt8 × Int := if l.length > 1000 ∨ bigs l = true then ([], 3) else (joinL l, 0)
def joinT (l : List (List UInt8)) (t : Nat) : List UInt8 := numL l.length ++ (l.take t).flatMap encB
theorem Q5a (l : List (List UInt8)) : joinT l l.length = joinL l := by unfold joinT joinL; rw [List.take_length]
theorem Q4e (l : List (List UInt8)) (t : Nat) : (joinT l t).length ≤ (joinL l).length := by
  have e : l.flatMap encB = (l.take t).flatMap encB ++ (l.drop t).flatMap encB := by rw [← List.flatMap_append, List.take_append_drop]
  unfold joinT joinL
  rw [e]
  simp only [List.length_append]; omega
theorem Q4S {l : List (List UInt8)} {t : Nat} {x : List UInt8} (h : l[t]? = some x) : joinT l (t + 1) = joinT l t ++ encB x := by
  unfold joinT
  rw [List.take_add_one, h]
  simp
structure BsAt (w : World) (a : Option Addr) (c : Nat) (l : List BS) : Prop where
  row : RowAt w a (l.map BS.v)
  oks : ∀ x ∈ l, RowAt w x.a (bytesV x.bs) ∧ x.bs.length ≤ x.c
  le : l.length ≤ c
section
variable {w w' : World} {x y : FP} {a b : Option Addr} {c d : Nat} {l : List BS}
theorem BsAt.no (h : BsAt w a c l) (X : Ext no w w') : BsAt w' a c l := ⟨h.row.no X, fun x hx => ⟨(h.oks x hx).1.no X, (h.oks x hx).2⟩, h.le⟩
theorem BsAt.cell (h : BsAt w a c l) {i : Nat} {x : BS} (hi : l[i]? = some x) : ∃ ad, a = some ad ∧ w.cell? (ad.add (i * 1)) = some (.slice x.a x.bs.length x.c) := by
  obtain ⟨ad, ha, hc⟩ := h.row i x.v (by rw [List.getElem?_map, hi]; rfl)
  exact ⟨ad, ha, by rw [Nat.mul_one]; exact hc⟩
theorem Q4K (x : BS) : Calls Try.prog 53 #[.slice x.a x.bs.length x.c] w (Ret (.bool (decide (x.bs.length > 4000))) fun w' => w' = w) := by
  refine Q0M.run _ _ _ ?_
  unfold Q0M.N
  exact ⟨by rw [show decide ((x.bs.length : Int) > 4000) = decide (x.bs.length > 4000) by rw [decide_eq_decide]; omega], rfl⟩
theorem Q4r {l : List BS} : bigs (l.map BS.bs) = true ↔ ∃ x ∈ l, x.bs.length > 4000 := by
  unfold bigs
  rw [List.any_eq_true]
  constructor
  · rintro ⟨b, hb, h⟩
    obtain ⟨x, hx, rfl⟩ := List.mem_map.1 hb
    exact ⟨x, hx, of_decide_eq_true h⟩
  · rintro ⟨x, hx, h⟩
    exact ⟨_, List.mem_map.2 ⟨x, hx, rfl⟩, decide_eq_true h⟩
theorem Q5o {l : List BS} (h : ∀ (i : Nat) (x : BS), l[i]? = some x → x.bs.length ≤ 4000) : bigs (l.map BS.bs) = false := by
  cases hb : bigs (l.map BS.bs) with
  | false => rfl
  | true =>
    obtain ⟨x, hx, hl⟩ := Q4r.1 hb
    obtain ⟨i, hi⟩ := List.mem_iff_getElem?.1 hx
    have := h i x hi
    omega
theorem Q47 (h : BsAt w a c l) (hl : l.length < 1000000) :
    Calls Try.prog 70 #[.slice a l.length c, .func (.func 53) #[] #[]] w fun e w' => ∃ i : Int, e = .returned (.int .i64 i) ∧ decide (i ≥ 0) = bigs (l.map BS.bs) ∧ w' = w := by
  refine (Q0f.go a l.length c _ _ _ (R := fun v w' => ∃ i : Int, v = .int .i64 i ∧ decide (i ≥ 0) = bigs (l.map BS.bs) ∧ w' = w) ?_).mono fun e w' ⟨v, he, i, hv, hw⟩ => ⟨i, by rw [he, hv], hw⟩
  unfold Q0f.N
  refine ⟨fun m vs w1 => ∃ t : Nat, vs = [.int .i64 t] ∧ m + t = l.length ∧ w1 = w ∧ ∀ i x, i < t → l[i]? = some x → x.bs.length ≤ 4000, l.length, ⟨0, rfl, rfl, rfl, fun i x h => absurd h (by omega)⟩, ?_⟩
  rintro m w6 i ⟨t, hi, hm, rfl, hn⟩
  simp only [List.cons.injEq, Value.int.injEq, true_and, and_true] at hi
  subst hi
  refine ⟨fun ht => ?_, fun ht => ?_⟩
  · have htl : t < l.length := by omega
    have hg : l[t]? = some l[t] := List.getElem?_eq_getElem htl
    generalize l[t] = x at *
    obtain ⟨ad, ha, hc⟩ := h.cell hg
    refine ⟨ad, ha, by omega, by omega, x.a, x.bs.length, x.c, by rw [Int.toNat_natCast]; exact hc, by kernel_rfl, ?_⟩
    refine Calls.mono (Q4K x) fun u w14 ⟨he, hw⟩ => ⟨_, he, fun hy => ?_, fun hno => ⟨by omega, by omega, m - 1, by omega, t + 1, rfl, by omega, hw, fun i y hi hy => ?_⟩⟩
    · refine ⟨_, rfl, ?_, hw⟩
      rw [Q4r.2 ⟨x, List.mem_of_getElem? hg, of_decide_eq_true hy⟩, decide_eq_true (by omega)]
    · by_cases hit : i = t
      · subst hit
        rw [hg] at hy
        cases hy
        have := of_decide_eq_false hno
        omega
      · exact hn i y (by omega) hy
  · refine ⟨_, rfl, ?_, rfl⟩
    rw [Q5o fun i x hx => hn i x (by have := (List.getElem?_eq_some_iff.1 hx).1; omega) hx]; rfl
theorem Q3w (h : BsAt w a c l) (hl : l.length < 1000000) :
    Calls Try.prog 52 #[.slice a l.length c, .func (.func 53) #[] #[]] w (Ret (.bool (bigs (l.map BS.bs))) fun w' => w' = w) := by
  refine Q07.run _ _ _ _ _ _ ?_
  unfold Q07.N
  exact (Q47 h hl).mono fun e w' ⟨i, he, hi, hw⟩ => ⟨i, he, by rw [hi], hw⟩
theorem Q4D (h : BsAt w a c l) (hl : l.length < 1000000) (hz : l.length ≤ 1000 → bigs (l.map BS.bs) = false → (joinL (l.map BS.bs)).length ≤ 900000) :
    Calls Try.prog 21 #[.slice a l.length c] w (fun e w' => ∃ a' c', e = .returned (.tuple #[.slice a' (joinK (l.map BS.bs)).1.length c', .int .i64 (joinK (l.map BS.bs)).2]) ∧ OwnB w.heap.size w' a' c' (joinK (l.map BS.bs)).1 ∧ Ext no w w') := by
  refine (Q0V.go a l.length c (R := fun v w' => ∃ a' c', v = (.tuple #[.slice a' (joinK (l.map BS.bs)).1.length c', .int .i64 (joinK (l.map BS.bs)).2]) ∧ OwnB w.heap.size w' a' c' (joinK (l.map BS.bs)).1 ∧ Ext no w w') ?_).mono fun e w' ⟨v, he, a', c', hv, hw⟩ => ⟨a', c', by rw [he, hv], hw⟩
  unfold Q0V.N
  have leaf : ∀ {w2 : World}, joinK (l.map BS.bs) = ([], 3) → Ext no w w2 → ∃ a' c', (.tuple #[.slice none 0 0, .int .i64 3] : Value) = (.tuple #[.slice a' (joinK (l.map BS.bs)).1.length c', .int .i64 (joinK (l.map BS.bs)).2]) ∧ OwnB w.heap.size w2 a' c' (joinK (l.map BS.bs)).1 ∧ Ext no w w2 := fun {w2} e X => by
    rw [e]; exact ⟨none, 0, rfl, OwnB.nil _ _, X⟩
  refine ⟨fun hg => leaf (by unfold joinK; rw [if_pos (.inl (by rw [List.length_map]; omega))]) (Ext.refl _ _), fun hg => ?_⟩
  refine (Q3w h hl).mono fun u w5 ⟨he, hw⟩ => ⟨_, he, fun hb => leaf (by unfold joinK; rw [if_pos (.inr hb)]) (by rw [hw]; exact Ext.refl _ _), fun hb => ?_⟩
  subst hw
  have hk : joinK (l.map BS.bs) = (joinL (l.map BS.bs), 0) := by unfold joinK; rw [if_neg (by rw [List.length_map, hb]; simp; omega)]
  rw [hk]
  have hz := hz (by omega) hb
  rw [wu64 (n := (l.length : Int)) (by omega) (by omega)]
  refine (W.Num_spec (bs := []) (c := 0) (RowAt.nil _ _) (by simp) (n := l.length) (by omega)).mono fun u w9 ⟨a1, c1, he, hO1, X9⟩ => ⟨a1, _, c1, he, ?_⟩
  have e0 : joinT (l.map BS.bs) 0 = [] ++ numL l.length := by unfold joinT; simp
  refine ⟨fun m vs w1 => ∃ (t : Nat) (a1 : Option Addr) (c1 : Nat), vs = [.slice a1 (joinT (l.map BS.bs) t).length c1, .int .i64 t] ∧ m + t = l.length ∧ OwnB w5.heap.size w1 a1 c1 (joinT (l.map BS.bs) t) ∧ Ext no w5 w1, l.length, ⟨0, a1, c1, by rw [e0]; rfl, rfl, by rw [e0]; exact hO1, X9⟩, ?_⟩
  rintro m w14 ba bn bc i ⟨t, a2, c2, hv, hm, hO, X⟩
  simp only [List.cons.injEq, Value.slice.injEq, Value.int.injEq, true_and, and_true] at hv
  obtain ⟨⟨rfl, rfl, rfl⟩, rfl⟩ := hv
  have hlt := Q4e (l.map BS.bs) t
  refine ⟨fun ht => ?_, fun ht => ?_⟩
  · have htl : t < l.length := by omega
    have hg : l[t]? = some l[t] := List.getElem?_eq_getElem htl
    generalize l[t] = x at *
    have h14 := h.no X
    obtain ⟨ad, ha, hc⟩ := h14.cell hg
    obtain ⟨hx1, hx2⟩ := h14.oks x (List.mem_of_getElem? hg)
    have hm2 : (l.map BS.bs)[t]? = some x.bs := by rw [List.getElem?_map, hg]; rfl
    have est := Q4S hm2
    have hlt2 := Q4e (l.map BS.bs) (t + 1)
    rw [est] at hlt2
    unfold encB at est hlt2
    simp only [List.length_append] at hlt2
    refine ⟨ad, ha, by omega, by omega, x.a, x.bs.length, x.c, by rw [Int.toNat_natCast]; exact hc, ?_⟩
    refine (W.Bytes_spec hO.row (by omega) hx1 (by omega)).mono fun u w21 ⟨a3, c3, he, hO3, X21⟩ => ⟨a3, _, c3, he, by omega, by omega, m - 1, by omega, t + 1, a3, c3, ?_, by omega, ?_, X.trans X21⟩
    · rw [est, List.append_assoc]; rfl
    · rw [est, ← List.append_assoc]; exact OwnB.up hO3 X.size
  · obtain rfl : t = l.length := by omega
    rw [show l.length = (l.map BS.bs).length by rw [List.length_map], Q5a] at hO ⊢
    exact ⟨ba, bc, rfl, hO, X⟩
theorem Q3U (w : World) : Calls Try.prog 8 #[] w (Ret (.bool true) fun w' => Ext no w w') := by
  refine Q0l.run ?_
  unfold Q0l.N
  intro w1 q2 X1 hb1 hq1 hq1'
  obtain ⟨w4, hr4, hrow4, X4⟩ := litB Try.underlying25 Try.underlying5 [97] X1 hb1 hq1
  refine ⟨_, _, _, w4, hr4, fun w5 q6 X5 hb5 hq6 hq6' => ?_⟩
  have hJ : joinK [[97], []] = ([2, 1, 97, 0], 0) := by decide
  have hat : BsAt w5 (some (blk q6)) 2 [⟨some (blk q2), 1, [97]⟩, ⟨none, 0, []⟩] := ⟨RowAt.of_blk hb5, fun x hx => by
    simp only [List.mem_cons, List.not_mem_nil, or_false] at hx
    rcases hx with rfl | rfl
    · exact ⟨hrow4.no X5, Nat.le_refl _⟩
    · exact ⟨RowAt.nil _ _, Nat.le_refl _⟩, Nat.le_refl _⟩
  refine (Q4D hat (show (2 : Nat) < 1000000 by decide) (fun _ _ => show (joinL [[97], []]).length ≤ 900000 by decide)).mono fun u w10 ⟨a1, c1, he, hO, X10⟩ => ?_
  rw [show ([⟨some (blk q2), 1, [97]⟩, ⟨none, 0, []⟩] : List BS).map BS.bs = [[97], []] from rfl, hJ] at he hO
  refine ⟨_, _, _, _, he, fun w11 q12 X11 hb11 hq12 hq12' => ?_⟩
  have Y10 := (X4.trans X5).trans X10
  obtain ⟨w14, hr14, hrow14, X14⟩ := litB Try.underlying25 Try.underlying5 [120] X11 hb11 hq12
  refine ⟨_, _, _, w14, hr14, fun w16 X16 => ?_⟩
  have hE : frOK ⟨1, ⟨1, 0, 0, 5, 1, 0, [120], 9⟩, Ent.zero, 0, [], 0⟩ = true := by decide
  have hf : Fr.fit ⟨1, ⟨1, 0, 0, 5, 1, 0, [120], 9⟩, Ent.zero, 0, [], 0⟩ := ⟨⟨by decide, by decide, by decide, by decide⟩, Q1Z, fun _ h => (by cases h), by decide⟩
  have hL : frL ⟨1, ⟨1, 0, 0, 5, 1, 0, [120], 9⟩, Ent.zero, 0, [], 0⟩ = [1, 9, 1, 0, 0, 10, 1, 0, 1, 120, 9] := by decide
  have hK : frK ⟨1, ⟨1, 0, 0, 5, 1, 0, [120], 9⟩, Ent.zero, 0, [], 0⟩ = ([1, 9, 1, 0, 0, 10, 1, 0, 1, 120, 9], 0) := by unfold frK; rw [hE, hL]; rfl
  have Y16 := (Y10.trans X14).trans X16
  refine (Q2T ⟨1, 0, 0, 5, 1, 0, [120], 9⟩ (some (blk q12)) 1).mono fun u w39 ⟨he, X39⟩ => ⟨_, _, _, _, _, _, _, _, _, _, _, _, _, _, _, _, _, _, _, _, _, _, _, _, _, _, he, ?_⟩
  have hat2 : (FP.ofE ⟨1, 0, 0, 5, 1, 0, [120], 9⟩ (some (blk q12)) 1).at w39 := ⟨(hrow14.no X16).no X39, RowAt.nil _ _, RowAt.nil _ _⟩
  refine (Q2D hat2 hf (show (0 : Nat) ≤ 1000 by decide)).mono fun u w43 ⟨a2, c2, he, hO2, X43⟩ => ?_
  rw [show (FP.ofE ⟨1, 0, 0, 5, 1, 0, [120], 9⟩ (some (blk q12)) 1).r = ⟨1, ⟨1, 0, 0, 5, 1, 0, [120], 9⟩, Ent.zero, 0, [], 0⟩ from rfl, hK] at he hO2
  refine ⟨_, _, _, _, he, ?_⟩
  have hrd := Q3V hE hf (by rw [hL]; decide)
  rw [hL] at hrd
  refine (Q39 hO2.row hO2.le).mono fun u w66 ⟨x', he, hx, hxa, X66⟩ => ?_
  rw [hrd] at he hx
  refine ⟨_, _, _, _, _, _, _, _, _, _, _, _, _, _, _, _, _, _, _, _, _, _, _, _, _, _, _, he, fun _ => ?_, fun h => absurd rfl h⟩
  intro w70 q71 p72 X70 hb70 hq70 hq70' hp
  have Y := (((Y16.trans X39).trans X43).trans X66).trans X70
  have hOr : RowAt w70 a1 (bytesV [2, 1, 97, 0]) := hO.row.no (((((X14.trans X16).trans X39).trans X43).trans X66).trans X70)
  refine (W.sameB_spec (x := [2, 1, 97, 0]) (y := [2, 1, 97, 0]) (d := 4) hOr (RowAt.of_blk hb70) (by decide)).mono fun u w75 ⟨he, X75⟩ => ⟨_, he, X75.kept, fun _ => ⟨fun _ => ⟨fun _ => ⟨fun _ => ⟨?_, Y.trans X75⟩, fun h => absurd (by rw [hx]) h⟩, fun h => absurd rfl h⟩, fun h => absurd rfl h⟩, fun h => ?_⟩
  · rw [hx]; rfl
  · simp at h
end
end Go.Proofs.Ytoempemllkebkaa