/- ForkcheckFinds. -/
import Derived.Test.YtlfijjmjmgobhaaFckD
import Derived.Test.YtlfijjmjmgobhaaEntI
set_option linter.unusedVariables false
set_option linter.unusedSimpArgs false
set_option maxRecDepth 20000
set_option maxHeartbeats 2000000
namespace Go.Proofs.Ytlfijjmjmgobhaa
open Go Go.Mx Go.Proofs
open W (OwnB GivesW numR countR doneR zig unzig intR)
/-- forkcheck.Find -/
def forkcheck_Find.M (a1a : Option Addr) (a1n : Nat) (a1c : Nat) (b2a : Option Addr) (b2n : Nat) (b2c : Nat) (R : Value → World → Prop) (w : World) : Prop :=
  thenW (w.alloc (.cells #[.int .i64 0, .int .i64 0, .int .u64 0, .int .i64 0, .int .i64 0, .int .i64 0, .slice none 0 0, .int .u64 0, .int .i64 0, .int .i64 0, .int .u64 0, .int .i64 0, .int .i64 0, .int .i64 0, .slice none 0 0, .int .u64 0] 48)) fun ww3 =>
  ∃ (I0 : Nat → List Value → World → Prop) (m5 : Nat), I0 m5 [.int .i64 0] ww3 ∧ ∀ (m6 : Nat) (ww7 : World) (t4 : Int), I0 m6 [.int .i64 t4] ww7 →
  bif decide (t4 < (if ((b2n : Int) : Int) < (a1n : Int) then (b2n : Int) else (a1n : Int))) then (
  thenW (ww7.drew) fun ww8 =>
  a1a.elim False fun a9 =>
  0 ≤ (t4 : Int) ∧ (t4 : Int) < (a1n : Int) ∧
  ∃ (xWriter10 : Int) (xIndex11 : Int) (xPrev12 : Int) (xAtT13 : Int) (xAtW14 : Int) (xEpoch15 : Int) (xBody16a : Option Addr) (xBody16n : Nat) (xBody16c : Nat) (xSig17 : Int), cellsAt ww8 (a9.add (Int.toNat t4 * 8)) [.int .i64 xWriter10, .int .i64 xIndex11, .int .u64 xPrev12, .int .i64 xAtT13, .int .i64 xAtW14, .int .i64 xEpoch15, .slice xBody16a xBody16n xBody16c, .int .u64 xSig17] 0 ∧
  b2a.elim False fun a18 =>
  0 ≤ (t4 : Int) ∧ (t4 : Int) < (b2n : Int) ∧
  ∃ (xWriter19 : Int) (xIndex20 : Int) (xPrev21 : Int) (xAtT22 : Int) (xAtW23 : Int) (xEpoch24 : Int) (xBody25a : Option Addr) (xBody25n : Nat) (xBody25c : Nat) (xSig26 : Int), cellsAt ww8 (a18.add (Int.toNat t4 * 8)) [.int .i64 xWriter19, .int .i64 xIndex20, .int .u64 xPrev21, .int .i64 xAtT22, .int .i64 xAtW23, .int .i64 xEpoch24, .slice xBody25a xBody25n xBody25c, .int .u64 xSig26] 0 ∧
  Calls Try.prog 59 #[.agg #[.int .i64 xWriter10, .int .i64 xIndex11, .int .u64 xPrev12, .int .i64 xAtT13, .int .i64 xAtW14, .int .i64 xEpoch15, .slice xBody16a xBody16n xBody16c, .int .u64 xSig17], .agg #[.int .i64 xWriter19, .int .i64 xIndex20, .int .u64 xPrev21, .int .i64 xAtT22, .int .i64 xAtW23, .int .i64 xEpoch24, .slice xBody25a xBody25n xBody25c, .int .u64 xSig26]] ww8 fun ee28 ww29 => ∃ (same27 : Bool), ee28 = .returned (.bool same27) ∧
  bif !same27 then (
  thenW (ww29.drew) fun ww30 =>
  a1a.elim False fun a31 =>
  0 ≤ (t4 : Int) ∧ (t4 : Int) < (a1n : Int) ∧
  ∃ (xWriter32 : Int) (xIndex33 : Int) (xPrev34 : Int) (xAtT35 : Int) (xAtW36 : Int) (xEpoch37 : Int) (xBody38a : Option Addr) (xBody38n : Nat) (xBody38c : Nat) (xSig39 : Int), cellsAt ww30 (a31.add (Int.toNat t4 * 8)) [.int .i64 xWriter32, .int .i64 xIndex33, .int .u64 xPrev34, .int .i64 xAtT35, .int .i64 xAtW36, .int .i64 xEpoch37, .slice xBody38a xBody38n xBody38c, .int .u64 xSig39] 0 ∧
  b2a.elim False fun a40 =>
  0 ≤ (t4 : Int) ∧ (t4 : Int) < (b2n : Int) ∧
  ∃ (xWriter41 : Int) (xIndex42 : Int) (xPrev43 : Int) (xAtT44 : Int) (xAtW45 : Int) (xEpoch46 : Int) (xBody47a : Option Addr) (xBody47n : Nat) (xBody47c : Nat) (xSig48 : Int), cellsAt ww30 (a40.add (Int.toNat t4 * 8)) [.int .i64 xWriter41, .int .i64 xIndex42, .int .u64 xPrev43, .int .i64 xAtT44, .int .i64 xAtW45, .int .i64 xEpoch46, .slice xBody47a xBody47n xBody47c, .int .u64 xSig48] 0 ∧
  Calls Try.prog 60 #[.agg #[.int .i64 xWriter32, .int .i64 xIndex33, .int .u64 xPrev34, .int .i64 xAtT35, .int .i64 xAtW36, .int .i64 xEpoch37, .slice xBody38a xBody38n xBody38c, .int .u64 xSig39]] ww30 fun ee57 ww58 => ∃ (Writer49 : Int) (Index50 : Int) (Prev51 : Int) (AtT52 : Int) (AtW53 : Int) (Epoch54 : Int) (Body55a : Option Addr) (Body55n : Nat) (Body55c : Nat) (Sig56 : Int), ee57 = .returned (.agg #[.int .i64 Writer49, .int .i64 Index50, .int .u64 Prev51, .int .i64 AtT52, .int .i64 AtW53, .int .i64 Epoch54, .slice Body55a Body55n Body55c, .int .u64 Sig56]) ∧
  cellsAt ww58 (a40.add (Int.toNat t4 * 8)) [.int .i64 xWriter41, .int .i64 xIndex42, .int .u64 xPrev43, .int .i64 xAtT44, .int .i64 xAtW45, .int .i64 xEpoch46, .slice xBody47a xBody47n xBody47c, .int .u64 xSig48] 0 ∧
  Calls Try.prog 60 #[.agg #[.int .i64 xWriter41, .int .i64 xIndex42, .int .u64 xPrev43, .int .i64 xAtT44, .int .i64 xAtW45, .int .i64 xEpoch46, .slice xBody47a xBody47n xBody47c, .int .u64 xSig48]] ww58 fun ee67 ww68 => ∃ (Writer59 : Int) (Index60 : Int) (Prev61 : Int) (AtT62 : Int) (AtW63 : Int) (Epoch64 : Int) (Body65a : Option Addr) (Body65n : Nat) (Body65c : Nat) (Sig66 : Int), ee67 = .returned (.agg #[.int .i64 Writer59, .int .i64 Index60, .int .u64 Prev61, .int .i64 AtT62, .int .i64 AtW63, .int .i64 Epoch64, .slice Body65a Body65n Body65c, .int .u64 Sig66]) ∧
  canStore ww68 ((blk w.heap.size).add 0) ∧
  thenW (ww68.setCell ((blk w.heap.size).add 0) (.int .i64 Writer49)) fun ww69 =>
  canStore ww69 ((blk w.heap.size).add 1) ∧
  thenW (ww69.setCell ((blk w.heap.size).add 1) (.int .i64 Index50)) fun ww70 =>
  canStore ww70 ((blk w.heap.size).add 2) ∧
  thenW (ww70.setCell ((blk w.heap.size).add 2) (.int .u64 Prev51)) fun ww71 =>
  canStore ww71 ((blk w.heap.size).add 3) ∧
  thenW (ww71.setCell ((blk w.heap.size).add 3) (.int .i64 AtT52)) fun ww72 =>
  canStore ww72 ((blk w.heap.size).add 4) ∧
  thenW (ww72.setCell ((blk w.heap.size).add 4) (.int .i64 AtW53)) fun ww73 =>
  canStore ww73 ((blk w.heap.size).add 5) ∧
  thenW (ww73.setCell ((blk w.heap.size).add 5) (.int .i64 Epoch54)) fun ww74 =>
  canStore ww74 ((blk w.heap.size).add 6) ∧
  thenW (ww74.setCell ((blk w.heap.size).add 6) (.slice Body55a Body55n Body55c)) fun ww75 =>
  canStore ww75 ((blk w.heap.size).add 7) ∧
  thenW (ww75.setCell ((blk w.heap.size).add 7) (.int .u64 Sig56)) fun ww76 =>
  canStore ww76 ((blk w.heap.size).add 8) ∧
  thenW (ww76.setCell ((blk w.heap.size).add 8) (.int .i64 Writer59)) fun ww77 =>
  canStore ww77 ((blk w.heap.size).add 9) ∧
  thenW (ww77.setCell ((blk w.heap.size).add 9) (.int .i64 Index60)) fun ww78 =>
  canStore ww78 ((blk w.heap.size).add 10) ∧
  thenW (ww78.setCell ((blk w.heap.size).add 10) (.int .u64 Prev61)) fun ww79 =>
  canStore ww79 ((blk w.heap.size).add 11) ∧
  thenW (ww79.setCell ((blk w.heap.size).add 11) (.int .i64 AtT62)) fun ww80 =>
  canStore ww80 ((blk w.heap.size).add 12) ∧
  thenW (ww80.setCell ((blk w.heap.size).add 12) (.int .i64 AtW63)) fun ww81 =>
  canStore ww81 ((blk w.heap.size).add 13) ∧
  thenW (ww81.setCell ((blk w.heap.size).add 13) (.int .i64 Epoch64)) fun ww82 =>
  canStore ww82 ((blk w.heap.size).add 14) ∧
  thenW (ww82.setCell ((blk w.heap.size).add 14) (.slice Body65a Body65n Body65c)) fun ww83 =>
  canStore ww83 ((blk w.heap.size).add 15) ∧
  thenW (ww83.setCell ((blk w.heap.size).add 15) (.int .u64 Sig66)) fun ww84 =>
  ∃ (resAWriter85 : Int) (resAIndex86 : Int) (resAPrev87 : Int) (resAAtT88 : Int) (resAAtW89 : Int) (resAEpoch90 : Int) (resABody91a : Option Addr) (resABody91n : Nat) (resABody91c : Nat) (resASig92 : Int) (resBWriter93 : Int) (resBIndex94 : Int) (resBPrev95 : Int) (resBAtT96 : Int) (resBAtW97 : Int) (resBEpoch98 : Int) (resBBody99a : Option Addr) (resBBody99n : Nat) (resBBody99c : Nat) (resBSig100 : Int), cellsAt ww84 (blk w.heap.size) [.int .i64 resAWriter85, .int .i64 resAIndex86, .int .u64 resAPrev87, .int .i64 resAAtT88, .int .i64 resAAtW89, .int .i64 resAEpoch90, .slice resABody91a resABody91n resABody91c, .int .u64 resASig92, .int .i64 resBWriter93, .int .i64 resBIndex94, .int .u64 resBPrev95, .int .i64 resBAtT96, .int .i64 resBAtW97, .int .i64 resBEpoch98, .slice resBBody99a resBBody99n resBBody99c, .int .u64 resBSig100] 0 ∧
  R (.tuple #[.agg #[.int .i64 resAWriter85, .int .i64 resAIndex86, .int .u64 resAPrev87, .int .i64 resAAtT88, .int .i64 resAAtW89, .int .i64 resAEpoch90, .slice resABody91a resABody91n resABody91c, .int .u64 resASig92, .int .i64 resBWriter93, .int .i64 resBIndex94, .int .u64 resBPrev95, .int .i64 resBAtT96, .int .i64 resBAtW97, .int .i64 resBEpoch98, .slice resBBody99a resBBody99n resBBody99c, .int .u64 resBSig100], .bool true]) ww84) else (
  ∃ m101, m101 < m6 ∧ I0 m101 [.int .i64 (IntKind.i64.wrap (t4 + 1))] ww29)) else (
  ∃ (xAWriter102 : Int) (xAIndex103 : Int) (xAPrev104 : Int) (xAAtT105 : Int) (xAAtW106 : Int) (xAEpoch107 : Int) (xABody108a : Option Addr) (xABody108n : Nat) (xABody108c : Nat) (xASig109 : Int) (xBWriter110 : Int) (xBIndex111 : Int) (xBPrev112 : Int) (xBAtT113 : Int) (xBAtW114 : Int) (xBEpoch115 : Int) (xBBody116a : Option Addr) (xBBody116n : Nat) (xBBody116c : Nat) (xBSig117 : Int), cellsAt ww7 (blk w.heap.size) [.int .i64 xAWriter102, .int .i64 xAIndex103, .int .u64 xAPrev104, .int .i64 xAAtT105, .int .i64 xAAtW106, .int .i64 xAEpoch107, .slice xABody108a xABody108n xABody108c, .int .u64 xASig109, .int .i64 xBWriter110, .int .i64 xBIndex111, .int .u64 xBPrev112, .int .i64 xBAtT113, .int .i64 xBAtW114, .int .i64 xBEpoch115, .slice xBBody116a xBBody116n xBBody116c, .int .u64 xBSig117] 0 ∧
  canStore ww7 ((blk w.heap.size).add 0) ∧
  thenW (ww7.setCell ((blk w.heap.size).add 0) (.int .i64 xAWriter102)) fun ww118 =>
  canStore ww118 ((blk w.heap.size).add 1) ∧
  thenW (ww118.setCell ((blk w.heap.size).add 1) (.int .i64 xAIndex103)) fun ww119 =>
  canStore ww119 ((blk w.heap.size).add 2) ∧
  thenW (ww119.setCell ((blk w.heap.size).add 2) (.int .u64 xAPrev104)) fun ww120 =>
  canStore ww120 ((blk w.heap.size).add 3) ∧
  thenW (ww120.setCell ((blk w.heap.size).add 3) (.int .i64 xAAtT105)) fun ww121 =>
  canStore ww121 ((blk w.heap.size).add 4) ∧
  thenW (ww121.setCell ((blk w.heap.size).add 4) (.int .i64 xAAtW106)) fun ww122 =>
  canStore ww122 ((blk w.heap.size).add 5) ∧
  thenW (ww122.setCell ((blk w.heap.size).add 5) (.int .i64 xAEpoch107)) fun ww123 =>
  canStore ww123 ((blk w.heap.size).add 6) ∧
  thenW (ww123.setCell ((blk w.heap.size).add 6) (.slice xABody108a xABody108n xABody108c)) fun ww124 =>
  canStore ww124 ((blk w.heap.size).add 7) ∧
  thenW (ww124.setCell ((blk w.heap.size).add 7) (.int .u64 xASig109)) fun ww125 =>
  canStore ww125 ((blk w.heap.size).add 8) ∧
  thenW (ww125.setCell ((blk w.heap.size).add 8) (.int .i64 xBWriter110)) fun ww126 =>
  canStore ww126 ((blk w.heap.size).add 9) ∧
  thenW (ww126.setCell ((blk w.heap.size).add 9) (.int .i64 xBIndex111)) fun ww127 =>
  canStore ww127 ((blk w.heap.size).add 10) ∧
  thenW (ww127.setCell ((blk w.heap.size).add 10) (.int .u64 xBPrev112)) fun ww128 =>
  canStore ww128 ((blk w.heap.size).add 11) ∧
  thenW (ww128.setCell ((blk w.heap.size).add 11) (.int .i64 xBAtT113)) fun ww129 =>
  canStore ww129 ((blk w.heap.size).add 12) ∧
  thenW (ww129.setCell ((blk w.heap.size).add 12) (.int .i64 xBAtW114)) fun ww130 =>
  canStore ww130 ((blk w.heap.size).add 13) ∧
  thenW (ww130.setCell ((blk w.heap.size).add 13) (.int .i64 xBEpoch115)) fun ww131 =>
  canStore ww131 ((blk w.heap.size).add 14) ∧
  thenW (ww131.setCell ((blk w.heap.size).add 14) (.slice xBBody116a xBBody116n xBBody116c)) fun ww132 =>
  canStore ww132 ((blk w.heap.size).add 15) ∧
  thenW (ww132.setCell ((blk w.heap.size).add 15) (.int .u64 xBSig117)) fun ww133 =>
  ∃ (resAWriter134 : Int) (resAIndex135 : Int) (resAPrev136 : Int) (resAAtT137 : Int) (resAAtW138 : Int) (resAEpoch139 : Int) (resABody140a : Option Addr) (resABody140n : Nat) (resABody140c : Nat) (resASig141 : Int) (resBWriter142 : Int) (resBIndex143 : Int) (resBPrev144 : Int) (resBAtT145 : Int) (resBAtW146 : Int) (resBEpoch147 : Int) (resBBody148a : Option Addr) (resBBody148n : Nat) (resBBody148c : Nat) (resBSig149 : Int), cellsAt ww133 (blk w.heap.size) [.int .i64 resAWriter134, .int .i64 resAIndex135, .int .u64 resAPrev136, .int .i64 resAAtT137, .int .i64 resAAtW138, .int .i64 resAEpoch139, .slice resABody140a resABody140n resABody140c, .int .u64 resASig141, .int .i64 resBWriter142, .int .i64 resBIndex143, .int .u64 resBPrev144, .int .i64 resBAtT145, .int .i64 resBAtW146, .int .i64 resBEpoch147, .slice resBBody148a resBBody148n resBBody148c, .int .u64 resBSig149] 0 ∧
  R (.tuple #[.agg #[.int .i64 resAWriter134, .int .i64 resAIndex135, .int .u64 resAPrev136, .int .i64 resAAtT137, .int .i64 resAAtW138, .int .i64 resAEpoch139, .slice resABody140a resABody140n resABody140c, .int .u64 resASig141, .int .i64 resBWriter142, .int .i64 resBIndex143, .int .u64 resBPrev144, .int .i64 resBAtT145, .int .i64 resBAtW146, .int .i64 resBEpoch147, .slice resBBody148a resBBody148n resBBody148c, .int .u64 resBSig149], .bool false]) ww133)

theorem forkcheck_Find.eq (a1a : Option Addr) (a1n : Nat) (a1c : Nat) (b2a : Option Addr) (b2n : Nat) (b2c : Nat) (R : Value → World → Prop) (w : World) : mfunc Try.prog [(0, [0, 1, 4, 11], [(12, (.one (.int .i64)))])] 18 [.slice a1a a1n a1c, .slice b2a b2n b2c] R w = forkcheck_Find.M a1a a1n a1c b2a b2n b2c R w := by kernel_rfl
theorem forkcheck_Find.ok (a1a : Option Addr) (a1n : Nat) (a1c : Nat) (b2a : Option Addr) (b2n : Nat) (b2c : Nat) {R : Value → World → Prop} {w : World} (h : forkcheck_Find.M a1a a1n a1c b2a b2n b2c R w) : Calls Try.prog 18 #[.slice a1a a1n a1c, .slice b2a b2n b2c] w fun e w' => ∃ v, e = .returned v ∧ R v w' :=
  mfunc_ok follows (H := [(0, [0, 1, 4, 11], [(12, (.one (.int .i64)))])]) (args := [.slice a1a a1n a1c, .slice b2a b2n b2c]) (by rw [forkcheck_Find.eq]; exact h)

def forkcheck_Find.N (a1a : Option Addr) (a1n : Nat) (a1c : Nat) (b2a : Option Addr) (b2n : Nat) (b2c : Nat) (R : Value → World → Prop) (w : World) : Prop :=
  ∀ (ww3 : World) (p4 : Nat), Ext no w ww3 → Priv w ww3 [p4] →
  ∃ (I0 : Nat → List Value → World → Prop) (m22 : Nat), I0 m22 [.int .i64 0, .int .i64 0, .int .i64 0, .int .u64 0, .int .i64 0, .int .i64 0, .int .i64 0, .slice none 0 0, .int .u64 0, .int .i64 0, .int .i64 0, .int .u64 0, .int .i64 0, .int .i64 0, .int .i64 0, .slice none 0 0, .int .u64 0] ww3 ∧ ∀ (m23 : Nat) (ww24 : World) (t5 : Int) (AWriter6 : Int) (AIndex7 : Int) (APrev8 : Int) (AAtT9 : Int) (AAtW10 : Int) (AEpoch11 : Int) (ABody12a : Option Addr) (ABody12n : Nat) (ABody12c : Nat) (ASig13 : Int) (BWriter14 : Int) (BIndex15 : Int) (BPrev16 : Int) (BAtT17 : Int) (BAtW18 : Int) (BEpoch19 : Int) (BBody20a : Option Addr) (BBody20n : Nat) (BBody20c : Nat) (BSig21 : Int), I0 m23 [.int .i64 t5, .int .i64 AWriter6, .int .i64 AIndex7, .int .u64 APrev8, .int .i64 AAtT9, .int .i64 AAtW10, .int .i64 AEpoch11, .slice ABody12a ABody12n ABody12c, .int .u64 ASig13, .int .i64 BWriter14, .int .i64 BIndex15, .int .u64 BPrev16, .int .i64 BAtT17, .int .i64 BAtW18, .int .i64 BEpoch19, .slice BBody20a BBody20n BBody20c, .int .u64 BSig21] ww24 →
  (t5 < (if ((b2n : Int) : Int) < (a1n : Int) then (b2n : Int) else (a1n : Int)) →
    ∃ a27 : Addr, a1a = some a27 ∧
    0 ≤ (t5 : Int) ∧ (t5 : Int) < (a1n : Int) ∧
    ∃ (xWriter29 : Int) (xIndex30 : Int) (xPrev31 : Int) (xAtT32 : Int) (xAtW33 : Int) (xEpoch34 : Int) (xBody35a : Option Addr) (xBody35n : Nat) (xBody35c : Nat) (xSig36 : Int), cellsAt ww24 (a27.add (Int.toNat t5 * 8)) [.int .i64 xWriter29, .int .i64 xIndex30, .int .u64 xPrev31, .int .i64 xAtT32, .int .i64 xAtW33, .int .i64 xEpoch34, .slice xBody35a xBody35n xBody35c, .int .u64 xSig36] 0 ∧
    ∃ a37 : Addr, b2a = some a37 ∧
    0 ≤ (t5 : Int) ∧ (t5 : Int) < (b2n : Int) ∧
    ∃ (xWriter39 : Int) (xIndex40 : Int) (xPrev41 : Int) (xAtT42 : Int) (xAtW43 : Int) (xEpoch44 : Int) (xBody45a : Option Addr) (xBody45n : Nat) (xBody45c : Nat) (xSig46 : Int), cellsAt ww24 (a37.add (Int.toNat t5 * 8)) [.int .i64 xWriter39, .int .i64 xIndex40, .int .u64 xPrev41, .int .i64 xAtT42, .int .i64 xAtW43, .int .i64 xEpoch44, .slice xBody45a xBody45n xBody45c, .int .u64 xSig46] 0 ∧
    ∀ (ww26 : World), Ext no ww24 ww26 →
    Calls Try.prog 59 #[.agg #[.int .i64 xWriter29, .int .i64 xIndex30, .int .u64 xPrev31, .int .i64 xAtT32, .int .i64 xAtW33, .int .i64 xEpoch34, .slice xBody35a xBody35n xBody35c, .int .u64 xSig36], .agg #[.int .i64 xWriter39, .int .i64 xIndex40, .int .u64 xPrev41, .int .i64 xAtT42, .int .i64 xAtW43, .int .i64 xEpoch44, .slice xBody45a xBody45n xBody45c, .int .u64 xSig46]] ww26 fun ee48 ww49 => ∃ (same47 : Bool), ee48 = .returned (.bool same47) ∧
    Keep [p4] ww26 ww49 ∧
    (same47 = false →
      0 ≤ (t5 : Int) ∧ (t5 : Int) < (a1n : Int) ∧
      ∃ (xWriter53 : Int) (xIndex54 : Int) (xPrev55 : Int) (xAtT56 : Int) (xAtW57 : Int) (xEpoch58 : Int) (xBody59a : Option Addr) (xBody59n : Nat) (xBody59c : Nat) (xSig60 : Int), cellsAt ww49 (a27.add (Int.toNat t5 * 8)) [.int .i64 xWriter53, .int .i64 xIndex54, .int .u64 xPrev55, .int .i64 xAtT56, .int .i64 xAtW57, .int .i64 xEpoch58, .slice xBody59a xBody59n xBody59c, .int .u64 xSig60] 0 ∧
      0 ≤ (t5 : Int) ∧ (t5 : Int) < (b2n : Int) ∧
      ∃ (xWriter62 : Int) (xIndex63 : Int) (xPrev64 : Int) (xAtT65 : Int) (xAtW66 : Int) (xEpoch67 : Int) (xBody68a : Option Addr) (xBody68n : Nat) (xBody68c : Nat) (xSig69 : Int), cellsAt ww49 (a37.add (Int.toNat t5 * 8)) [.int .i64 xWriter62, .int .i64 xIndex63, .int .u64 xPrev64, .int .i64 xAtT65, .int .i64 xAtW66, .int .i64 xEpoch67, .slice xBody68a xBody68n xBody68c, .int .u64 xSig69] 0 ∧
      ∀ (ww51 : World), Ext no ww49 ww51 →
      Calls Try.prog 60 #[.agg #[.int .i64 xWriter53, .int .i64 xIndex54, .int .u64 xPrev55, .int .i64 xAtT56, .int .i64 xAtW57, .int .i64 xEpoch58, .slice xBody59a xBody59n xBody59c, .int .u64 xSig60]] ww51 fun ee78 ww79 => ∃ (Writer70 : Int) (Index71 : Int) (Prev72 : Int) (AtT73 : Int) (AtW74 : Int) (Epoch75 : Int) (Body76a : Option Addr) (Body76n : Nat) (Body76c : Nat) (Sig77 : Int), ee78 = .returned (.agg #[.int .i64 Writer70, .int .i64 Index71, .int .u64 Prev72, .int .i64 AtT73, .int .i64 AtW74, .int .i64 Epoch75, .slice Body76a Body76n Body76c, .int .u64 Sig77]) ∧
      Keep [p4] ww51 ww79 ∧
      cellsAt ww79 (a37.add (Int.toNat t5 * 8)) [.int .i64 xWriter62, .int .i64 xIndex63, .int .u64 xPrev64, .int .i64 xAtT65, .int .i64 xAtW66, .int .i64 xEpoch67, .slice xBody68a xBody68n xBody68c, .int .u64 xSig69] 0 ∧
      Calls Try.prog 60 #[.agg #[.int .i64 xWriter62, .int .i64 xIndex63, .int .u64 xPrev64, .int .i64 xAtT65, .int .i64 xAtW66, .int .i64 xEpoch67, .slice xBody68a xBody68n xBody68c, .int .u64 xSig69]] ww79 fun ee89 ww90 => ∃ (Writer81 : Int) (Index82 : Int) (Prev83 : Int) (AtT84 : Int) (AtW85 : Int) (Epoch86 : Int) (Body87a : Option Addr) (Body87n : Nat) (Body87c : Nat) (Sig88 : Int), ee89 = .returned (.agg #[.int .i64 Writer81, .int .i64 Index82, .int .u64 Prev83, .int .i64 AtT84, .int .i64 AtW85, .int .i64 Epoch86, .slice Body87a Body87n Body87c, .int .u64 Sig88]) ∧
      Keep [p4] ww79 ww90 ∧
      ∀ (ww106 : World), Ext (fun b => b = p4) ww90 ww106 →
      R (.tuple #[.agg #[.int .i64 Writer70, .int .i64 Index71, .int .u64 Prev72, .int .i64 AtT73, .int .i64 AtW74, .int .i64 Epoch75, .slice Body76a Body76n Body76c, .int .u64 Sig77, .int .i64 Writer81, .int .i64 Index82, .int .u64 Prev83, .int .i64 AtT84, .int .i64 AtW85, .int .i64 Epoch86, .slice Body87a Body87n Body87c, .int .u64 Sig88], .bool true]) ww106) ∧
    (same47 = true →
      (-9223372036854775808 : Int) ≤ (t5 + 1) ∧ (t5 + 1) < 9223372036854775808 ∧
      ∃ m107, m107 < m23 ∧ I0 m107 [.int .i64 (t5 + 1), .int .i64 AWriter6, .int .i64 AIndex7, .int .u64 APrev8, .int .i64 AAtT9, .int .i64 AAtW10, .int .i64 AEpoch11, .slice ABody12a ABody12n ABody12c, .int .u64 ASig13, .int .i64 BWriter14, .int .i64 BIndex15, .int .u64 BPrev16, .int .i64 BAtT17, .int .i64 BAtW18, .int .i64 BEpoch19, .slice BBody20a BBody20n BBody20c, .int .u64 BSig21] ww49)) ∧
  ((if ((b2n : Int) : Int) < (a1n : Int) then (b2n : Int) else (a1n : Int)) ≤ t5 →
    ∀ (ww123 : World), Ext (fun b => b = p4) ww24 ww123 →
    R (.tuple #[.agg #[.int .i64 AWriter6, .int .i64 AIndex7, .int .u64 APrev8, .int .i64 AAtT9, .int .i64 AAtW10, .int .i64 AEpoch11, .slice ABody12a ABody12n ABody12c, .int .u64 ASig13, .int .i64 BWriter14, .int .i64 BIndex15, .int .u64 BPrev16, .int .i64 BAtT17, .int .i64 BAtW18, .int .i64 BEpoch19, .slice BBody20a BBody20n BBody20c, .int .u64 BSig21], .bool false]) ww123)

theorem forkcheck_Find.up (a1a : Option Addr) (a1n : Nat) (a1c : Nat) (b2a : Option Addr) (b2n : Nat) (b2c : Nat) {R : Value → World → Prop} {w : World} (h : forkcheck_Find.N a1a a1n a1c b2a b2n b2c R w) : forkcheck_Find.M a1a a1n a1c b2a b2n b2c R w := by
  unfold forkcheck_Find.M
  unfold forkcheck_Find.N at h
  refine thenW_in fun ww3 e3 => ?_
  have hb1 := Blk.of_new e3
  have hg1 := ((Ext.refl no w)).size
  have hx3 := (Ext.refl no w).x_alloc e3
  have h := h ww3 (w.heap.size) hx3 (Priv.cons hg1 hb1.lt Priv.nil)
  obtain ⟨I0, m22, h0, h⟩ := h
  refine ⟨fun k vs ww => ∃ (AWriter6 : Int) (AIndex7 : Int) (APrev8 : Int) (AAtT9 : Int) (AAtW10 : Int) (AEpoch11 : Int) (ABody12a : Option Addr) (ABody12n : Nat) (ABody12c : Nat) (ASig13 : Int) (BWriter14 : Int) (BIndex15 : Int) (BPrev16 : Int) (BAtT17 : Int) (BAtW18 : Int) (BEpoch19 : Int) (BBody20a : Option Addr) (BBody20n : Nat) (BBody20c : Nat) (BSig21 : Int), Blk ww w.heap.size 48 [.int .i64 AWriter6, .int .i64 AIndex7, .int .u64 APrev8, .int .i64 AAtT9, .int .i64 AAtW10, .int .i64 AEpoch11, .slice ABody12a ABody12n ABody12c, .int .u64 ASig13, .int .i64 BWriter14, .int .i64 BIndex15, .int .u64 BPrev16, .int .i64 BAtT17, .int .i64 BAtW18, .int .i64 BEpoch19, .slice BBody20a BBody20n BBody20c, .int .u64 BSig21] ∧ I0 k (vs ++ [.int .i64 AWriter6, .int .i64 AIndex7, .int .u64 APrev8, .int .i64 AAtT9, .int .i64 AAtW10, .int .i64 AEpoch11, .slice ABody12a ABody12n ABody12c, .int .u64 ASig13, .int .i64 BWriter14, .int .i64 BIndex15, .int .u64 BPrev16, .int .i64 BAtT17, .int .i64 BAtW18, .int .i64 BEpoch19, .slice BBody20a BBody20n BBody20c, .int .u64 BSig21]) ww, m22, ⟨0, 0, 0, 0, 0, 0, none, 0, 0, 0, 0, 0, 0, 0, 0, 0, none, 0, 0, 0, hb1, h0⟩, fun m23 ww24 t5 hI => ?_⟩
  obtain ⟨AWriter6, AIndex7, APrev8, AAtT9, AAtW10, AEpoch11, ABody12a, ABody12n, ABody12c, ASig13, BWriter14, BIndex15, BPrev16, BAtT17, BAtW18, BEpoch19, BBody20a, BBody20n, BBody20c, BSig21, hb1, hI⟩ := hI
  have h := h m23 ww24 t5 AWriter6 AIndex7 APrev8 AAtT9 AAtW10 AEpoch11 ABody12a ABody12n ABody12c ASig13 BWriter14 BIndex15 BPrev16 BAtT17 BAtW18 BEpoch19 BBody20a BBody20n BBody20c BSig21 hI
  refine bif_of (fun c25 => ?_) (fun c25 => ?_)
  · have h := h.1 (of_decide_eq_true c25)
    refine thenW_in fun ww26 e26 => ?_
    have hx26 := (Ext.refl no ww24).x_drew e26
    have hb1 := hb1.x_drew e26
    obtain ⟨a27, ha27, h⟩ := h
    refine elim_some ha27 ?_
    obtain ⟨hq1, hq2, h⟩ := h
    refine ⟨hq1, hq2, ?_⟩
    obtain ⟨xWriter29, xIndex30, xPrev31, xAtT32, xAtW33, xEpoch34, xBody35a, xBody35n, xBody35c, xSig36, hc28, h⟩ := h
    refine ⟨xWriter29, xIndex30, xPrev31, xAtT32, xAtW33, xEpoch34, xBody35a, xBody35n, xBody35c, xSig36, cellsAt_no (hx26) hc28, ?_⟩
    obtain ⟨a37, ha37, h⟩ := h
    refine elim_some ha37 ?_
    obtain ⟨hq1, hq2, h⟩ := h
    refine ⟨hq1, hq2, ?_⟩
    obtain ⟨xWriter39, xIndex40, xPrev41, xAtT42, xAtW43, xEpoch44, xBody45a, xBody45n, xBody45c, xSig46, hc38, h⟩ := h
    refine ⟨xWriter39, xIndex40, xPrev41, xAtT42, xAtW43, xEpoch44, xBody45a, xBody45n, xBody45c, xSig46, cellsAt_no (hx26) hc38, ?_⟩
    have h := h ww26 hx26
    refine h.mono fun ee48 ww49 h => ?_
    obtain ⟨same47, he, hk, h⟩ := h
    refine ⟨same47, he, ?_⟩
    have hb1 := hk.blk hb1 (by simp)
    refine bif_of (fun c50 => ?_) (fun c50 => ?_)
    · have h := h.1 (not_t c50)
      refine thenW_in fun ww51 e51 => ?_
      have hx51 := (Ext.refl no ww49).x_drew e51
      have hb1 := hb1.x_drew e51
      refine elim_some ha27 ?_
      obtain ⟨hq1, hq2, h⟩ := h
      refine ⟨hq1, hq2, ?_⟩
      obtain ⟨xWriter53, xIndex54, xPrev55, xAtT56, xAtW57, xEpoch58, xBody59a, xBody59n, xBody59c, xSig60, hc52, h⟩ := h
      refine ⟨xWriter53, xIndex54, xPrev55, xAtT56, xAtW57, xEpoch58, xBody59a, xBody59n, xBody59c, xSig60, cellsAt_no (hx51) hc52, ?_⟩
      refine elim_some ha37 ?_
      obtain ⟨hq1, hq2, h⟩ := h
      refine ⟨hq1, hq2, ?_⟩
      obtain ⟨xWriter62, xIndex63, xPrev64, xAtT65, xAtW66, xEpoch67, xBody68a, xBody68n, xBody68c, xSig69, hc61, h⟩ := h
      refine ⟨xWriter62, xIndex63, xPrev64, xAtT65, xAtW66, xEpoch67, xBody68a, xBody68n, xBody68c, xSig69, cellsAt_no (hx51) hc61, ?_⟩
      have h := h ww51 hx51
      refine h.mono fun ee78 ww79 h => ?_
      obtain ⟨Writer70, Index71, Prev72, AtT73, AtW74, Epoch75, Body76a, Body76n, Body76c, Sig77, he, hk, h⟩ := h
      refine ⟨Writer70, Index71, Prev72, AtT73, AtW74, Epoch75, Body76a, Body76n, Body76c, Sig77, he, ?_⟩
      have hb1 := hk.blk hb1 (by simp)
      obtain ⟨ho80, h⟩ := h
      refine ⟨ho80, ?_⟩
      refine h.mono fun ee89 ww90 h => ?_
      obtain ⟨Writer81, Index82, Prev83, AtT84, AtW85, Epoch86, Body87a, Body87n, Body87c, Sig88, he, hk, h⟩ := h
      refine ⟨Writer81, Index82, Prev83, AtT84, AtW85, Epoch86, Body87a, Body87n, Body87c, Sig88, he, ?_⟩
      have hb1 := hk.blk hb1 (by simp)
      have hm106 : Ext (fun b => b = w.heap.size) ww90 ww90 := ((Ext.refl no ww90)).none
      refine ⟨hb1.cani 0 rfl rfl, thenW_in fun ww91 e91 => ?_⟩
      have hx91 := hm106.x_set (q := w.heap.size) (i := 0) rfl (.inl rfl) e91
      have hb1 : Blk ww91 w.heap.size 48 [.int .i64 Writer70, .int .i64 AIndex7, .int .u64 APrev8, .int .i64 AAtT9, .int .i64 AAtW10, .int .i64 AEpoch11, .slice ABody12a ABody12n ABody12c, .int .u64 ASig13, .int .i64 BWriter14, .int .i64 BIndex15, .int .u64 BPrev16, .int .i64 BAtT17, .int .i64 BAtW18, .int .i64 BEpoch19, .slice BBody20a BBody20n BBody20c, .int .u64 BSig21] := hb1.seti 0 rfl e91
      refine ⟨hb1.cani 1 rfl rfl, thenW_in fun ww92 e92 => ?_⟩
      have hx92 := hx91.x_set (q := w.heap.size) (i := 1) rfl (.inl rfl) e92
      have hb1 : Blk ww92 w.heap.size 48 [.int .i64 Writer70, .int .i64 Index71, .int .u64 APrev8, .int .i64 AAtT9, .int .i64 AAtW10, .int .i64 AEpoch11, .slice ABody12a ABody12n ABody12c, .int .u64 ASig13, .int .i64 BWriter14, .int .i64 BIndex15, .int .u64 BPrev16, .int .i64 BAtT17, .int .i64 BAtW18, .int .i64 BEpoch19, .slice BBody20a BBody20n BBody20c, .int .u64 BSig21] := hb1.seti 1 rfl e92
      refine ⟨hb1.cani 2 rfl rfl, thenW_in fun ww93 e93 => ?_⟩
      have hx93 := hx92.x_set (q := w.heap.size) (i := 2) rfl (.inl rfl) e93
      have hb1 : Blk ww93 w.heap.size 48 [.int .i64 Writer70, .int .i64 Index71, .int .u64 Prev72, .int .i64 AAtT9, .int .i64 AAtW10, .int .i64 AEpoch11, .slice ABody12a ABody12n ABody12c, .int .u64 ASig13, .int .i64 BWriter14, .int .i64 BIndex15, .int .u64 BPrev16, .int .i64 BAtT17, .int .i64 BAtW18, .int .i64 BEpoch19, .slice BBody20a BBody20n BBody20c, .int .u64 BSig21] := hb1.seti 2 rfl e93
      refine ⟨hb1.cani 3 rfl rfl, thenW_in fun ww94 e94 => ?_⟩
      have hx94 := hx93.x_set (q := w.heap.size) (i := 3) rfl (.inl rfl) e94
      have hb1 : Blk ww94 w.heap.size 48 [.int .i64 Writer70, .int .i64 Index71, .int .u64 Prev72, .int .i64 AtT73, .int .i64 AAtW10, .int .i64 AEpoch11, .slice ABody12a ABody12n ABody12c, .int .u64 ASig13, .int .i64 BWriter14, .int .i64 BIndex15, .int .u64 BPrev16, .int .i64 BAtT17, .int .i64 BAtW18, .int .i64 BEpoch19, .slice BBody20a BBody20n BBody20c, .int .u64 BSig21] := hb1.seti 3 rfl e94
      refine ⟨hb1.cani 4 rfl rfl, thenW_in fun ww95 e95 => ?_⟩
      have hx95 := hx94.x_set (q := w.heap.size) (i := 4) rfl (.inl rfl) e95
      have hb1 : Blk ww95 w.heap.size 48 [.int .i64 Writer70, .int .i64 Index71, .int .u64 Prev72, .int .i64 AtT73, .int .i64 AtW74, .int .i64 AEpoch11, .slice ABody12a ABody12n ABody12c, .int .u64 ASig13, .int .i64 BWriter14, .int .i64 BIndex15, .int .u64 BPrev16, .int .i64 BAtT17, .int .i64 BAtW18, .int .i64 BEpoch19, .slice BBody20a BBody20n BBody20c, .int .u64 BSig21] := hb1.seti 4 rfl e95
      refine ⟨hb1.cani 5 rfl rfl, thenW_in fun ww96 e96 => ?_⟩
      have hx96 := hx95.x_set (q := w.heap.size) (i := 5) rfl (.inl rfl) e96
      have hb1 : Blk ww96 w.heap.size 48 [.int .i64 Writer70, .int .i64 Index71, .int .u64 Prev72, .int .i64 AtT73, .int .i64 AtW74, .int .i64 Epoch75, .slice ABody12a ABody12n ABody12c, .int .u64 ASig13, .int .i64 BWriter14, .int .i64 BIndex15, .int .u64 BPrev16, .int .i64 BAtT17, .int .i64 BAtW18, .int .i64 BEpoch19, .slice BBody20a BBody20n BBody20c, .int .u64 BSig21] := hb1.seti 5 rfl e96
      refine ⟨hb1.cani 6 rfl rfl, thenW_in fun ww97 e97 => ?_⟩
      have hx97 := hx96.x_set (q := w.heap.size) (i := 6) rfl (.inl rfl) e97
      have hb1 : Blk ww97 w.heap.size 48 [.int .i64 Writer70, .int .i64 Index71, .int .u64 Prev72, .int .i64 AtT73, .int .i64 AtW74, .int .i64 Epoch75, .slice Body76a Body76n Body76c, .int .u64 ASig13, .int .i64 BWriter14, .int .i64 BIndex15, .int .u64 BPrev16, .int .i64 BAtT17, .int .i64 BAtW18, .int .i64 BEpoch19, .slice BBody20a BBody20n BBody20c, .int .u64 BSig21] := hb1.seti 6 rfl e97
      refine ⟨hb1.cani 7 rfl rfl, thenW_in fun ww98 e98 => ?_⟩
      have hx98 := hx97.x_set (q := w.heap.size) (i := 7) rfl (.inl rfl) e98
      have hb1 : Blk ww98 w.heap.size 48 [.int .i64 Writer70, .int .i64 Index71, .int .u64 Prev72, .int .i64 AtT73, .int .i64 AtW74, .int .i64 Epoch75, .slice Body76a Body76n Body76c, .int .u64 Sig77, .int .i64 BWriter14, .int .i64 BIndex15, .int .u64 BPrev16, .int .i64 BAtT17, .int .i64 BAtW18, .int .i64 BEpoch19, .slice BBody20a BBody20n BBody20c, .int .u64 BSig21] := hb1.seti 7 rfl e98
      refine ⟨hb1.cani 8 rfl rfl, thenW_in fun ww99 e99 => ?_⟩
      have hx99 := hx98.x_set (q := w.heap.size) (i := 8) rfl (.inl rfl) e99
      have hb1 : Blk ww99 w.heap.size 48 [.int .i64 Writer70, .int .i64 Index71, .int .u64 Prev72, .int .i64 AtT73, .int .i64 AtW74, .int .i64 Epoch75, .slice Body76a Body76n Body76c, .int .u64 Sig77, .int .i64 Writer81, .int .i64 BIndex15, .int .u64 BPrev16, .int .i64 BAtT17, .int .i64 BAtW18, .int .i64 BEpoch19, .slice BBody20a BBody20n BBody20c, .int .u64 BSig21] := hb1.seti 8 rfl e99
      refine ⟨hb1.cani 9 rfl rfl, thenW_in fun ww100 e100 => ?_⟩
      have hx100 := hx99.x_set (q := w.heap.size) (i := 9) rfl (.inl rfl) e100
      have hb1 : Blk ww100 w.heap.size 48 [.int .i64 Writer70, .int .i64 Index71, .int .u64 Prev72, .int .i64 AtT73, .int .i64 AtW74, .int .i64 Epoch75, .slice Body76a Body76n Body76c, .int .u64 Sig77, .int .i64 Writer81, .int .i64 Index82, .int .u64 BPrev16, .int .i64 BAtT17, .int .i64 BAtW18, .int .i64 BEpoch19, .slice BBody20a BBody20n BBody20c, .int .u64 BSig21] := hb1.seti 9 rfl e100
      refine ⟨hb1.cani 10 rfl rfl, thenW_in fun ww101 e101 => ?_⟩
      have hx101 := hx100.x_set (q := w.heap.size) (i := 10) rfl (.inl rfl) e101
      have hb1 : Blk ww101 w.heap.size 48 [.int .i64 Writer70, .int .i64 Index71, .int .u64 Prev72, .int .i64 AtT73, .int .i64 AtW74, .int .i64 Epoch75, .slice Body76a Body76n Body76c, .int .u64 Sig77, .int .i64 Writer81, .int .i64 Index82, .int .u64 Prev83, .int .i64 BAtT17, .int .i64 BAtW18, .int .i64 BEpoch19, .slice BBody20a BBody20n BBody20c, .int .u64 BSig21] := hb1.seti 10 rfl e101
      refine ⟨hb1.cani 11 rfl rfl, thenW_in fun ww102 e102 => ?_⟩
      have hx102 := hx101.x_set (q := w.heap.size) (i := 11) rfl (.inl rfl) e102
      have hb1 : Blk ww102 w.heap.size 48 [.int .i64 Writer70, .int .i64 Index71, .int .u64 Prev72, .int .i64 AtT73, .int .i64 AtW74, .int .i64 Epoch75, .slice Body76a Body76n Body76c, .int .u64 Sig77, .int .i64 Writer81, .int .i64 Index82, .int .u64 Prev83, .int .i64 AtT84, .int .i64 BAtW18, .int .i64 BEpoch19, .slice BBody20a BBody20n BBody20c, .int .u64 BSig21] := hb1.seti 11 rfl e102
      refine ⟨hb1.cani 12 rfl rfl, thenW_in fun ww103 e103 => ?_⟩
      have hx103 := hx102.x_set (q := w.heap.size) (i := 12) rfl (.inl rfl) e103
      have hb1 : Blk ww103 w.heap.size 48 [.int .i64 Writer70, .int .i64 Index71, .int .u64 Prev72, .int .i64 AtT73, .int .i64 AtW74, .int .i64 Epoch75, .slice Body76a Body76n Body76c, .int .u64 Sig77, .int .i64 Writer81, .int .i64 Index82, .int .u64 Prev83, .int .i64 AtT84, .int .i64 AtW85, .int .i64 BEpoch19, .slice BBody20a BBody20n BBody20c, .int .u64 BSig21] := hb1.seti 12 rfl e103
      refine ⟨hb1.cani 13 rfl rfl, thenW_in fun ww104 e104 => ?_⟩
      have hx104 := hx103.x_set (q := w.heap.size) (i := 13) rfl (.inl rfl) e104
      have hb1 : Blk ww104 w.heap.size 48 [.int .i64 Writer70, .int .i64 Index71, .int .u64 Prev72, .int .i64 AtT73, .int .i64 AtW74, .int .i64 Epoch75, .slice Body76a Body76n Body76c, .int .u64 Sig77, .int .i64 Writer81, .int .i64 Index82, .int .u64 Prev83, .int .i64 AtT84, .int .i64 AtW85, .int .i64 Epoch86, .slice BBody20a BBody20n BBody20c, .int .u64 BSig21] := hb1.seti 13 rfl e104
      refine ⟨hb1.cani 14 rfl rfl, thenW_in fun ww105 e105 => ?_⟩
      have hx105 := hx104.x_set (q := w.heap.size) (i := 14) rfl (.inl rfl) e105
      have hb1 : Blk ww105 w.heap.size 48 [.int .i64 Writer70, .int .i64 Index71, .int .u64 Prev72, .int .i64 AtT73, .int .i64 AtW74, .int .i64 Epoch75, .slice Body76a Body76n Body76c, .int .u64 Sig77, .int .i64 Writer81, .int .i64 Index82, .int .u64 Prev83, .int .i64 AtT84, .int .i64 AtW85, .int .i64 Epoch86, .slice Body87a Body87n Body87c, .int .u64 BSig21] := hb1.seti 14 rfl e105
      refine ⟨hb1.cani 15 rfl rfl, thenW_in fun ww106 e106 => ?_⟩
      have hx106 := hx105.x_set (q := w.heap.size) (i := 15) rfl (.inl rfl) e106
      have hb1 : Blk ww106 w.heap.size 48 [.int .i64 Writer70, .int .i64 Index71, .int .u64 Prev72, .int .i64 AtT73, .int .i64 AtW74, .int .i64 Epoch75, .slice Body76a Body76n Body76c, .int .u64 Sig77, .int .i64 Writer81, .int .i64 Index82, .int .u64 Prev83, .int .i64 AtT84, .int .i64 AtW85, .int .i64 Epoch86, .slice Body87a Body87n Body87c, .int .u64 Sig88] := hb1.seti 15 rfl e106
      refine ⟨Writer70, Index71, Prev72, AtT73, AtW74, Epoch75, Body76a, Body76n, Body76c, Sig77, Writer81, Index82, Prev83, AtT84, AtW85, Epoch86, Body87a, Body87n, Body87c, Sig88, ⟨hb1.celli 0 rfl rfl, hb1.celli 1 rfl rfl, hb1.celli 2 rfl rfl, hb1.celli 3 rfl rfl, hb1.celli 4 rfl rfl, hb1.celli 5 rfl rfl, hb1.celli 6 rfl rfl, hb1.celli 7 rfl rfl, hb1.celli 8 rfl rfl, hb1.celli 9 rfl rfl, hb1.celli 10 rfl rfl, hb1.celli 11 rfl rfl, hb1.celli 12 rfl rfl, hb1.celli 13 rfl rfl, hb1.celli 14 rfl rfl, hb1.celli 15 rfl rfl, trivial⟩, ?_⟩
      have h := h ww106 hx106
      exact h
    · have h := h.2 (not_f c50)
      obtain ⟨hw1, hw2, h⟩ := h
      try rw [w64 hw1 hw2]
      obtain ⟨m107, hk, h⟩ := h
      exact ⟨m107, hk, AWriter6, AIndex7, APrev8, AAtT9, AAtW10, AEpoch11, ABody12a, ABody12n, ABody12c, ASig13, BWriter14, BIndex15, BPrev16, BAtT17, BAtW18, BEpoch19, BBody20a, BBody20n, BBody20c, BSig21, hb1, h⟩
  · have h := h.2 (Int.not_lt.1 (of_decide_eq_false c25))
    refine ⟨AWriter6, AIndex7, APrev8, AAtT9, AAtW10, AEpoch11, ABody12a, ABody12n, ABody12c, ASig13, BWriter14, BIndex15, BPrev16, BAtT17, BAtW18, BEpoch19, BBody20a, BBody20n, BBody20c, BSig21, ⟨hb1.celli 0 rfl rfl, hb1.celli 1 rfl rfl, hb1.celli 2 rfl rfl, hb1.celli 3 rfl rfl, hb1.celli 4 rfl rfl, hb1.celli 5 rfl rfl, hb1.celli 6 rfl rfl, hb1.celli 7 rfl rfl, hb1.celli 8 rfl rfl, hb1.celli 9 rfl rfl, hb1.celli 10 rfl rfl, hb1.celli 11 rfl rfl, hb1.celli 12 rfl rfl, hb1.celli 13 rfl rfl, hb1.celli 14 rfl rfl, hb1.celli 15 rfl rfl, trivial⟩, ?_⟩
    have hm123 : Ext (fun b => b = w.heap.size) ww24 ww24 := ((Ext.refl no ww24)).none
    refine ⟨hb1.cani 0 rfl rfl, thenW_in fun ww108 e108 => ?_⟩
    have hx108 := hm123.x_set (q := w.heap.size) (i := 0) rfl (.inl rfl) e108
    have hb1 : Blk ww108 w.heap.size 48 [.int .i64 AWriter6, .int .i64 AIndex7, .int .u64 APrev8, .int .i64 AAtT9, .int .i64 AAtW10, .int .i64 AEpoch11, .slice ABody12a ABody12n ABody12c, .int .u64 ASig13, .int .i64 BWriter14, .int .i64 BIndex15, .int .u64 BPrev16, .int .i64 BAtT17, .int .i64 BAtW18, .int .i64 BEpoch19, .slice BBody20a BBody20n BBody20c, .int .u64 BSig21] := hb1.seti 0 rfl e108
    refine ⟨hb1.cani 1 rfl rfl, thenW_in fun ww109 e109 => ?_⟩
    have hx109 := hx108.x_set (q := w.heap.size) (i := 1) rfl (.inl rfl) e109
    have hb1 : Blk ww109 w.heap.size 48 [.int .i64 AWriter6, .int .i64 AIndex7, .int .u64 APrev8, .int .i64 AAtT9, .int .i64 AAtW10, .int .i64 AEpoch11, .slice ABody12a ABody12n ABody12c, .int .u64 ASig13, .int .i64 BWriter14, .int .i64 BIndex15, .int .u64 BPrev16, .int .i64 BAtT17, .int .i64 BAtW18, .int .i64 BEpoch19, .slice BBody20a BBody20n BBody20c, .int .u64 BSig21] := hb1.seti 1 rfl e109
    refine ⟨hb1.cani 2 rfl rfl, thenW_in fun ww110 e110 => ?_⟩
    have hx110 := hx109.x_set (q := w.heap.size) (i := 2) rfl (.inl rfl) e110
    have hb1 : Blk ww110 w.heap.size 48 [.int .i64 AWriter6, .int .i64 AIndex7, .int .u64 APrev8, .int .i64 AAtT9, .int .i64 AAtW10, .int .i64 AEpoch11, .slice ABody12a ABody12n ABody12c, .int .u64 ASig13, .int .i64 BWriter14, .int .i64 BIndex15, .int .u64 BPrev16, .int .i64 BAtT17, .int .i64 BAtW18, .int .i64 BEpoch19, .slice BBody20a BBody20n BBody20c, .int .u64 BSig21] := hb1.seti 2 rfl e110
    refine ⟨hb1.cani 3 rfl rfl, thenW_in fun ww111 e111 => ?_⟩
    have hx111 := hx110.x_set (q := w.heap.size) (i := 3) rfl (.inl rfl) e111
    have hb1 : Blk ww111 w.heap.size 48 [.int .i64 AWriter6, .int .i64 AIndex7, .int .u64 APrev8, .int .i64 AAtT9, .int .i64 AAtW10, .int .i64 AEpoch11, .slice ABody12a ABody12n ABody12c, .int .u64 ASig13, .int .i64 BWriter14, .int .i64 BIndex15, .int .u64 BPrev16, .int .i64 BAtT17, .int .i64 BAtW18, .int .i64 BEpoch19, .slice BBody20a BBody20n BBody20c, .int .u64 BSig21] := hb1.seti 3 rfl e111
    refine ⟨hb1.cani 4 rfl rfl, thenW_in fun ww112 e112 => ?_⟩
    have hx112 := hx111.x_set (q := w.heap.size) (i := 4) rfl (.inl rfl) e112
    have hb1 : Blk ww112 w.heap.size 48 [.int .i64 AWriter6, .int .i64 AIndex7, .int .u64 APrev8, .int .i64 AAtT9, .int .i64 AAtW10, .int .i64 AEpoch11, .slice ABody12a ABody12n ABody12c, .int .u64 ASig13, .int .i64 BWriter14, .int .i64 BIndex15, .int .u64 BPrev16, .int .i64 BAtT17, .int .i64 BAtW18, .int .i64 BEpoch19, .slice BBody20a BBody20n BBody20c, .int .u64 BSig21] := hb1.seti 4 rfl e112
    refine ⟨hb1.cani 5 rfl rfl, thenW_in fun ww113 e113 => ?_⟩
    have hx113 := hx112.x_set (q := w.heap.size) (i := 5) rfl (.inl rfl) e113
    have hb1 : Blk ww113 w.heap.size 48 [.int .i64 AWriter6, .int .i64 AIndex7, .int .u64 APrev8, .int .i64 AAtT9, .int .i64 AAtW10, .int .i64 AEpoch11, .slice ABody12a ABody12n ABody12c, .int .u64 ASig13, .int .i64 BWriter14, .int .i64 BIndex15, .int .u64 BPrev16, .int .i64 BAtT17, .int .i64 BAtW18, .int .i64 BEpoch19, .slice BBody20a BBody20n BBody20c, .int .u64 BSig21] := hb1.seti 5 rfl e113
    refine ⟨hb1.cani 6 rfl rfl, thenW_in fun ww114 e114 => ?_⟩
    have hx114 := hx113.x_set (q := w.heap.size) (i := 6) rfl (.inl rfl) e114
    have hb1 : Blk ww114 w.heap.size 48 [.int .i64 AWriter6, .int .i64 AIndex7, .int .u64 APrev8, .int .i64 AAtT9, .int .i64 AAtW10, .int .i64 AEpoch11, .slice ABody12a ABody12n ABody12c, .int .u64 ASig13, .int .i64 BWriter14, .int .i64 BIndex15, .int .u64 BPrev16, .int .i64 BAtT17, .int .i64 BAtW18, .int .i64 BEpoch19, .slice BBody20a BBody20n BBody20c, .int .u64 BSig21] := hb1.seti 6 rfl e114
    refine ⟨hb1.cani 7 rfl rfl, thenW_in fun ww115 e115 => ?_⟩
    have hx115 := hx114.x_set (q := w.heap.size) (i := 7) rfl (.inl rfl) e115
    have hb1 : Blk ww115 w.heap.size 48 [.int .i64 AWriter6, .int .i64 AIndex7, .int .u64 APrev8, .int .i64 AAtT9, .int .i64 AAtW10, .int .i64 AEpoch11, .slice ABody12a ABody12n ABody12c, .int .u64 ASig13, .int .i64 BWriter14, .int .i64 BIndex15, .int .u64 BPrev16, .int .i64 BAtT17, .int .i64 BAtW18, .int .i64 BEpoch19, .slice BBody20a BBody20n BBody20c, .int .u64 BSig21] := hb1.seti 7 rfl e115
    refine ⟨hb1.cani 8 rfl rfl, thenW_in fun ww116 e116 => ?_⟩
    have hx116 := hx115.x_set (q := w.heap.size) (i := 8) rfl (.inl rfl) e116
    have hb1 : Blk ww116 w.heap.size 48 [.int .i64 AWriter6, .int .i64 AIndex7, .int .u64 APrev8, .int .i64 AAtT9, .int .i64 AAtW10, .int .i64 AEpoch11, .slice ABody12a ABody12n ABody12c, .int .u64 ASig13, .int .i64 BWriter14, .int .i64 BIndex15, .int .u64 BPrev16, .int .i64 BAtT17, .int .i64 BAtW18, .int .i64 BEpoch19, .slice BBody20a BBody20n BBody20c, .int .u64 BSig21] := hb1.seti 8 rfl e116
    refine ⟨hb1.cani 9 rfl rfl, thenW_in fun ww117 e117 => ?_⟩
    have hx117 := hx116.x_set (q := w.heap.size) (i := 9) rfl (.inl rfl) e117
    have hb1 : Blk ww117 w.heap.size 48 [.int .i64 AWriter6, .int .i64 AIndex7, .int .u64 APrev8, .int .i64 AAtT9, .int .i64 AAtW10, .int .i64 AEpoch11, .slice ABody12a ABody12n ABody12c, .int .u64 ASig13, .int .i64 BWriter14, .int .i64 BIndex15, .int .u64 BPrev16, .int .i64 BAtT17, .int .i64 BAtW18, .int .i64 BEpoch19, .slice BBody20a BBody20n BBody20c, .int .u64 BSig21] := hb1.seti 9 rfl e117
    refine ⟨hb1.cani 10 rfl rfl, thenW_in fun ww118 e118 => ?_⟩
    have hx118 := hx117.x_set (q := w.heap.size) (i := 10) rfl (.inl rfl) e118
    have hb1 : Blk ww118 w.heap.size 48 [.int .i64 AWriter6, .int .i64 AIndex7, .int .u64 APrev8, .int .i64 AAtT9, .int .i64 AAtW10, .int .i64 AEpoch11, .slice ABody12a ABody12n ABody12c, .int .u64 ASig13, .int .i64 BWriter14, .int .i64 BIndex15, .int .u64 BPrev16, .int .i64 BAtT17, .int .i64 BAtW18, .int .i64 BEpoch19, .slice BBody20a BBody20n BBody20c, .int .u64 BSig21] := hb1.seti 10 rfl e118
    refine ⟨hb1.cani 11 rfl rfl, thenW_in fun ww119 e119 => ?_⟩
    have hx119 := hx118.x_set (q := w.heap.size) (i := 11) rfl (.inl rfl) e119
    have hb1 : Blk ww119 w.heap.size 48 [.int .i64 AWriter6, .int .i64 AIndex7, .int .u64 APrev8, .int .i64 AAtT9, .int .i64 AAtW10, .int .i64 AEpoch11, .slice ABody12a ABody12n ABody12c, .int .u64 ASig13, .int .i64 BWriter14, .int .i64 BIndex15, .int .u64 BPrev16, .int .i64 BAtT17, .int .i64 BAtW18, .int .i64 BEpoch19, .slice BBody20a BBody20n BBody20c, .int .u64 BSig21] := hb1.seti 11 rfl e119
    refine ⟨hb1.cani 12 rfl rfl, thenW_in fun ww120 e120 => ?_⟩
    have hx120 := hx119.x_set (q := w.heap.size) (i := 12) rfl (.inl rfl) e120
    have hb1 : Blk ww120 w.heap.size 48 [.int .i64 AWriter6, .int .i64 AIndex7, .int .u64 APrev8, .int .i64 AAtT9, .int .i64 AAtW10, .int .i64 AEpoch11, .slice ABody12a ABody12n ABody12c, .int .u64 ASig13, .int .i64 BWriter14, .int .i64 BIndex15, .int .u64 BPrev16, .int .i64 BAtT17, .int .i64 BAtW18, .int .i64 BEpoch19, .slice BBody20a BBody20n BBody20c, .int .u64 BSig21] := hb1.seti 12 rfl e120
    refine ⟨hb1.cani 13 rfl rfl, thenW_in fun ww121 e121 => ?_⟩
    have hx121 := hx120.x_set (q := w.heap.size) (i := 13) rfl (.inl rfl) e121
    have hb1 : Blk ww121 w.heap.size 48 [.int .i64 AWriter6, .int .i64 AIndex7, .int .u64 APrev8, .int .i64 AAtT9, .int .i64 AAtW10, .int .i64 AEpoch11, .slice ABody12a ABody12n ABody12c, .int .u64 ASig13, .int .i64 BWriter14, .int .i64 BIndex15, .int .u64 BPrev16, .int .i64 BAtT17, .int .i64 BAtW18, .int .i64 BEpoch19, .slice BBody20a BBody20n BBody20c, .int .u64 BSig21] := hb1.seti 13 rfl e121
    refine ⟨hb1.cani 14 rfl rfl, thenW_in fun ww122 e122 => ?_⟩
    have hx122 := hx121.x_set (q := w.heap.size) (i := 14) rfl (.inl rfl) e122
    have hb1 : Blk ww122 w.heap.size 48 [.int .i64 AWriter6, .int .i64 AIndex7, .int .u64 APrev8, .int .i64 AAtT9, .int .i64 AAtW10, .int .i64 AEpoch11, .slice ABody12a ABody12n ABody12c, .int .u64 ASig13, .int .i64 BWriter14, .int .i64 BIndex15, .int .u64 BPrev16, .int .i64 BAtT17, .int .i64 BAtW18, .int .i64 BEpoch19, .slice BBody20a BBody20n BBody20c, .int .u64 BSig21] := hb1.seti 14 rfl e122
    refine ⟨hb1.cani 15 rfl rfl, thenW_in fun ww123 e123 => ?_⟩
    have hx123 := hx122.x_set (q := w.heap.size) (i := 15) rfl (.inl rfl) e123
    have hb1 : Blk ww123 w.heap.size 48 [.int .i64 AWriter6, .int .i64 AIndex7, .int .u64 APrev8, .int .i64 AAtT9, .int .i64 AAtW10, .int .i64 AEpoch11, .slice ABody12a ABody12n ABody12c, .int .u64 ASig13, .int .i64 BWriter14, .int .i64 BIndex15, .int .u64 BPrev16, .int .i64 BAtT17, .int .i64 BAtW18, .int .i64 BEpoch19, .slice BBody20a BBody20n BBody20c, .int .u64 BSig21] := hb1.seti 15 rfl e123
    refine ⟨AWriter6, AIndex7, APrev8, AAtT9, AAtW10, AEpoch11, ABody12a, ABody12n, ABody12c, ASig13, BWriter14, BIndex15, BPrev16, BAtT17, BAtW18, BEpoch19, BBody20a, BBody20n, BBody20c, BSig21, ⟨hb1.celli 0 rfl rfl, hb1.celli 1 rfl rfl, hb1.celli 2 rfl rfl, hb1.celli 3 rfl rfl, hb1.celli 4 rfl rfl, hb1.celli 5 rfl rfl, hb1.celli 6 rfl rfl, hb1.celli 7 rfl rfl, hb1.celli 8 rfl rfl, hb1.celli 9 rfl rfl, hb1.celli 10 rfl rfl, hb1.celli 11 rfl rfl, hb1.celli 12 rfl rfl, hb1.celli 13 rfl rfl, hb1.celli 14 rfl rfl, hb1.celli 15 rfl rfl, trivial⟩, ?_⟩
    have h := h ww123 hx123
    exact h

theorem forkcheck_Find.go (a1a : Option Addr) (a1n : Nat) (a1c : Nat) (b2a : Option Addr) (b2n : Nat) (b2c : Nat) {R : Value → World → Prop} {w : World} (h : forkcheck_Find.N a1a a1n a1c b2a b2n b2c R w) : Calls Try.prog 18 #[.slice a1a a1n a1c, .slice b2a b2n b2c] w fun e w' => ∃ v, e = .returned v ∧ R v w' := forkcheck_Find.ok a1a a1n a1c b2a b2n b2c (forkcheck_Find.up a1a a1n a1c b2a b2n b2c h)
theorem forkcheck_Find.run (a1a : Option Addr) (a1n : Nat) (a1c : Nat) (b2a : Option Addr) (b2n : Nat) (b2c : Nat) {V : Value} {Q : World → Prop} {w : World} (h : forkcheck_Find.N a1a a1n a1c b2a b2n b2c (fun v w' => v = V ∧ Q w') w) : Calls Try.prog 18 #[.slice a1a a1n a1c, .slice b2a b2n b2c] w (Ret V Q) := (forkcheck_Find.go a1a a1n a1c b2a b2n b2c h).mono fun e w' ⟨v, he, hv, hq⟩ => ⟨by rw [he, hv], hq⟩

/-- cachetteref23.Find -/
def cachetteref23_Find.M (a1a : Option Addr) (a1n : Nat) (a1c : Nat) (b2a : Option Addr) (b2n : Nat) (b2c : Nat) (R : Value → World → Prop) (w : World) : Prop :=
  thenW (w.alloc (.cells #[.int .i64 0, .int .i64 0, .int .u64 0, .int .i64 0, .int .i64 0, .int .i64 0, .slice none 0 0, .int .u64 0, .int .i64 0, .int .i64 0, .int .u64 0, .int .i64 0, .int .i64 0, .int .i64 0, .slice none 0 0, .int .u64 0] 50)) fun ww3 =>
  ∃ (I0 : Nat → List Value → World → Prop) (m5 : Nat), I0 m5 [.int .i64 0] ww3 ∧ ∀ (m6 : Nat) (ww7 : World) (i4 : Int), I0 m6 [.int .i64 i4] ww7 →
  bif decide (i4 < (a1n : Int)) then (
  bif decide (i4 < (b2n : Int)) then (
  thenW (ww7.drew) fun ww8 =>
  a1a.elim False fun a9 =>
  0 ≤ (i4 : Int) ∧ (i4 : Int) < (a1n : Int) ∧
  ∃ (xWriter10 : Int) (xIndex11 : Int) (xPrev12 : Int) (xAtT13 : Int) (xAtW14 : Int) (xEpoch15 : Int) (xBody16a : Option Addr) (xBody16n : Nat) (xBody16c : Nat) (xSig17 : Int), cellsAt ww8 (a9.add (Int.toNat i4 * 8)) [.int .i64 xWriter10, .int .i64 xIndex11, .int .u64 xPrev12, .int .i64 xAtT13, .int .i64 xAtW14, .int .i64 xEpoch15, .slice xBody16a xBody16n xBody16c, .int .u64 xSig17] 0 ∧
  b2a.elim False fun a18 =>
  0 ≤ (i4 : Int) ∧ (i4 : Int) < (b2n : Int) ∧
  ∃ (xWriter19 : Int) (xIndex20 : Int) (xPrev21 : Int) (xAtT22 : Int) (xAtW23 : Int) (xEpoch24 : Int) (xBody25a : Option Addr) (xBody25n : Nat) (xBody25c : Nat) (xSig26 : Int), cellsAt ww8 (a18.add (Int.toNat i4 * 8)) [.int .i64 xWriter19, .int .i64 xIndex20, .int .u64 xPrev21, .int .i64 xAtT22, .int .i64 xAtW23, .int .i64 xEpoch24, .slice xBody25a xBody25n xBody25c, .int .u64 xSig26] 0 ∧
  Calls Try.prog 15 #[.agg #[.int .i64 xWriter10, .int .i64 xIndex11, .int .u64 xPrev12, .int .i64 xAtT13, .int .i64 xAtW14, .int .i64 xEpoch15, .slice xBody16a xBody16n xBody16c, .int .u64 xSig17], .agg #[.int .i64 xWriter19, .int .i64 xIndex20, .int .u64 xPrev21, .int .i64 xAtT22, .int .i64 xAtW23, .int .i64 xEpoch24, .slice xBody25a xBody25n xBody25c, .int .u64 xSig26]] ww8 fun ee28 ww29 => ∃ (same27 : Bool), ee28 = .returned (.bool same27) ∧
  bif !same27 then (
  thenW (ww29.drew) fun ww30 =>
  a1a.elim False fun a31 =>
  0 ≤ (i4 : Int) ∧ (i4 : Int) < (a1n : Int) ∧
  ∃ (xWriter32 : Int) (xIndex33 : Int) (xPrev34 : Int) (xAtT35 : Int) (xAtW36 : Int) (xEpoch37 : Int) (xBody38a : Option Addr) (xBody38n : Nat) (xBody38c : Nat) (xSig39 : Int), cellsAt ww30 (a31.add (Int.toNat i4 * 8)) [.int .i64 xWriter32, .int .i64 xIndex33, .int .u64 xPrev34, .int .i64 xAtT35, .int .i64 xAtW36, .int .i64 xEpoch37, .slice xBody38a xBody38n xBody38c, .int .u64 xSig39] 0 ∧
  b2a.elim False fun a40 =>
  0 ≤ (i4 : Int) ∧ (i4 : Int) < (b2n : Int) ∧
  ∃ (xWriter41 : Int) (xIndex42 : Int) (xPrev43 : Int) (xAtT44 : Int) (xAtW45 : Int) (xEpoch46 : Int) (xBody47a : Option Addr) (xBody47n : Nat) (xBody47c : Nat) (xSig48 : Int), cellsAt ww30 (a40.add (Int.toNat i4 * 8)) [.int .i64 xWriter41, .int .i64 xIndex42, .int .u64 xPrev43, .int .i64 xAtT44, .int .i64 xAtW45, .int .i64 xEpoch46, .slice xBody47a xBody47n xBody47c, .int .u64 xSig48] 0 ∧
  canStore ww30 ((blk w.heap.size).add 0) ∧
  thenW (ww30.setCell ((blk w.heap.size).add 0) (.int .i64 xWriter32)) fun ww49 =>
  canStore ww49 ((blk w.heap.size).add 1) ∧
  thenW (ww49.setCell ((blk w.heap.size).add 1) (.int .i64 xIndex33)) fun ww50 =>
  canStore ww50 ((blk w.heap.size).add 2) ∧
  thenW (ww50.setCell ((blk w.heap.size).add 2) (.int .u64 xPrev34)) fun ww51 =>
  canStore ww51 ((blk w.heap.size).add 3) ∧
  thenW (ww51.setCell ((blk w.heap.size).add 3) (.int .i64 xAtT35)) fun ww52 =>
  canStore ww52 ((blk w.heap.size).add 4) ∧
  thenW (ww52.setCell ((blk w.heap.size).add 4) (.int .i64 xAtW36)) fun ww53 =>
  canStore ww53 ((blk w.heap.size).add 5) ∧
  thenW (ww53.setCell ((blk w.heap.size).add 5) (.int .i64 xEpoch37)) fun ww54 =>
  canStore ww54 ((blk w.heap.size).add 6) ∧
  thenW (ww54.setCell ((blk w.heap.size).add 6) (.slice xBody38a xBody38n xBody38c)) fun ww55 =>
  canStore ww55 ((blk w.heap.size).add 7) ∧
  thenW (ww55.setCell ((blk w.heap.size).add 7) (.int .u64 xSig39)) fun ww56 =>
  canStore ww56 ((blk w.heap.size).add 8) ∧
  thenW (ww56.setCell ((blk w.heap.size).add 8) (.int .i64 xWriter41)) fun ww57 =>
  canStore ww57 ((blk w.heap.size).add 9) ∧
  thenW (ww57.setCell ((blk w.heap.size).add 9) (.int .i64 xIndex42)) fun ww58 =>
  canStore ww58 ((blk w.heap.size).add 10) ∧
  thenW (ww58.setCell ((blk w.heap.size).add 10) (.int .u64 xPrev43)) fun ww59 =>
  canStore ww59 ((blk w.heap.size).add 11) ∧
  thenW (ww59.setCell ((blk w.heap.size).add 11) (.int .i64 xAtT44)) fun ww60 =>
  canStore ww60 ((blk w.heap.size).add 12) ∧
  thenW (ww60.setCell ((blk w.heap.size).add 12) (.int .i64 xAtW45)) fun ww61 =>
  canStore ww61 ((blk w.heap.size).add 13) ∧
  thenW (ww61.setCell ((blk w.heap.size).add 13) (.int .i64 xEpoch46)) fun ww62 =>
  canStore ww62 ((blk w.heap.size).add 14) ∧
  thenW (ww62.setCell ((blk w.heap.size).add 14) (.slice xBody47a xBody47n xBody47c)) fun ww63 =>
  canStore ww63 ((blk w.heap.size).add 15) ∧
  thenW (ww63.setCell ((blk w.heap.size).add 15) (.int .u64 xSig48)) fun ww64 =>
  ∃ (resAWriter65 : Int) (resAIndex66 : Int) (resAPrev67 : Int) (resAAtT68 : Int) (resAAtW69 : Int) (resAEpoch70 : Int) (resABody71a : Option Addr) (resABody71n : Nat) (resABody71c : Nat) (resASig72 : Int) (resBWriter73 : Int) (resBIndex74 : Int) (resBPrev75 : Int) (resBAtT76 : Int) (resBAtW77 : Int) (resBEpoch78 : Int) (resBBody79a : Option Addr) (resBBody79n : Nat) (resBBody79c : Nat) (resBSig80 : Int), cellsAt ww64 (blk w.heap.size) [.int .i64 resAWriter65, .int .i64 resAIndex66, .int .u64 resAPrev67, .int .i64 resAAtT68, .int .i64 resAAtW69, .int .i64 resAEpoch70, .slice resABody71a resABody71n resABody71c, .int .u64 resASig72, .int .i64 resBWriter73, .int .i64 resBIndex74, .int .u64 resBPrev75, .int .i64 resBAtT76, .int .i64 resBAtW77, .int .i64 resBEpoch78, .slice resBBody79a resBBody79n resBBody79c, .int .u64 resBSig80] 0 ∧
  R (.tuple #[.agg #[.int .i64 resAWriter65, .int .i64 resAIndex66, .int .u64 resAPrev67, .int .i64 resAAtT68, .int .i64 resAAtW69, .int .i64 resAEpoch70, .slice resABody71a resABody71n resABody71c, .int .u64 resASig72, .int .i64 resBWriter73, .int .i64 resBIndex74, .int .u64 resBPrev75, .int .i64 resBAtT76, .int .i64 resBAtW77, .int .i64 resBEpoch78, .slice resBBody79a resBBody79n resBBody79c, .int .u64 resBSig80], .bool true]) ww64) else (
  ∃ m81, m81 < m6 ∧ I0 m81 [.int .i64 (IntKind.i64.wrap (i4 + 1))] ww29)) else (
  canStore ww7 ((blk w.heap.size).add 0) ∧
  thenW (ww7.setCell ((blk w.heap.size).add 0) (.int .i64 0)) fun ww82 =>
  canStore ww82 ((blk w.heap.size).add 1) ∧
  thenW (ww82.setCell ((blk w.heap.size).add 1) (.int .i64 0)) fun ww83 =>
  canStore ww83 ((blk w.heap.size).add 2) ∧
  thenW (ww83.setCell ((blk w.heap.size).add 2) (.int .u64 0)) fun ww84 =>
  canStore ww84 ((blk w.heap.size).add 3) ∧
  thenW (ww84.setCell ((blk w.heap.size).add 3) (.int .i64 0)) fun ww85 =>
  canStore ww85 ((blk w.heap.size).add 4) ∧
  thenW (ww85.setCell ((blk w.heap.size).add 4) (.int .i64 0)) fun ww86 =>
  canStore ww86 ((blk w.heap.size).add 5) ∧
  thenW (ww86.setCell ((blk w.heap.size).add 5) (.int .i64 0)) fun ww87 =>
  canStore ww87 ((blk w.heap.size).add 6) ∧
  thenW (ww87.setCell ((blk w.heap.size).add 6) (.slice none 0 0)) fun ww88 =>
  canStore ww88 ((blk w.heap.size).add 7) ∧
  thenW (ww88.setCell ((blk w.heap.size).add 7) (.int .u64 0)) fun ww89 =>
  canStore ww89 ((blk w.heap.size).add 8) ∧
  thenW (ww89.setCell ((blk w.heap.size).add 8) (.int .i64 0)) fun ww90 =>
  canStore ww90 ((blk w.heap.size).add 9) ∧
  thenW (ww90.setCell ((blk w.heap.size).add 9) (.int .i64 0)) fun ww91 =>
  canStore ww91 ((blk w.heap.size).add 10) ∧
  thenW (ww91.setCell ((blk w.heap.size).add 10) (.int .u64 0)) fun ww92 =>
  canStore ww92 ((blk w.heap.size).add 11) ∧
  thenW (ww92.setCell ((blk w.heap.size).add 11) (.int .i64 0)) fun ww93 =>
  canStore ww93 ((blk w.heap.size).add 12) ∧
  thenW (ww93.setCell ((blk w.heap.size).add 12) (.int .i64 0)) fun ww94 =>
  canStore ww94 ((blk w.heap.size).add 13) ∧
  thenW (ww94.setCell ((blk w.heap.size).add 13) (.int .i64 0)) fun ww95 =>
  canStore ww95 ((blk w.heap.size).add 14) ∧
  thenW (ww95.setCell ((blk w.heap.size).add 14) (.slice none 0 0)) fun ww96 =>
  canStore ww96 ((blk w.heap.size).add 15) ∧
  thenW (ww96.setCell ((blk w.heap.size).add 15) (.int .u64 0)) fun ww97 =>
  ∃ (resAWriter98 : Int) (resAIndex99 : Int) (resAPrev100 : Int) (resAAtT101 : Int) (resAAtW102 : Int) (resAEpoch103 : Int) (resABody104a : Option Addr) (resABody104n : Nat) (resABody104c : Nat) (resASig105 : Int) (resBWriter106 : Int) (resBIndex107 : Int) (resBPrev108 : Int) (resBAtT109 : Int) (resBAtW110 : Int) (resBEpoch111 : Int) (resBBody112a : Option Addr) (resBBody112n : Nat) (resBBody112c : Nat) (resBSig113 : Int), cellsAt ww97 (blk w.heap.size) [.int .i64 resAWriter98, .int .i64 resAIndex99, .int .u64 resAPrev100, .int .i64 resAAtT101, .int .i64 resAAtW102, .int .i64 resAEpoch103, .slice resABody104a resABody104n resABody104c, .int .u64 resASig105, .int .i64 resBWriter106, .int .i64 resBIndex107, .int .u64 resBPrev108, .int .i64 resBAtT109, .int .i64 resBAtW110, .int .i64 resBEpoch111, .slice resBBody112a resBBody112n resBBody112c, .int .u64 resBSig113] 0 ∧
  R (.tuple #[.agg #[.int .i64 resAWriter98, .int .i64 resAIndex99, .int .u64 resAPrev100, .int .i64 resAAtT101, .int .i64 resAAtW102, .int .i64 resAEpoch103, .slice resABody104a resABody104n resABody104c, .int .u64 resASig105, .int .i64 resBWriter106, .int .i64 resBIndex107, .int .u64 resBPrev108, .int .i64 resBAtT109, .int .i64 resBAtW110, .int .i64 resBEpoch111, .slice resBBody112a resBBody112n resBBody112c, .int .u64 resBSig113], .bool false]) ww97)) else (
  canStore ww7 ((blk w.heap.size).add 0) ∧
  thenW (ww7.setCell ((blk w.heap.size).add 0) (.int .i64 0)) fun ww114 =>
  canStore ww114 ((blk w.heap.size).add 1) ∧
  thenW (ww114.setCell ((blk w.heap.size).add 1) (.int .i64 0)) fun ww115 =>
  canStore ww115 ((blk w.heap.size).add 2) ∧
  thenW (ww115.setCell ((blk w.heap.size).add 2) (.int .u64 0)) fun ww116 =>
  canStore ww116 ((blk w.heap.size).add 3) ∧
  thenW (ww116.setCell ((blk w.heap.size).add 3) (.int .i64 0)) fun ww117 =>
  canStore ww117 ((blk w.heap.size).add 4) ∧
  thenW (ww117.setCell ((blk w.heap.size).add 4) (.int .i64 0)) fun ww118 =>
  canStore ww118 ((blk w.heap.size).add 5) ∧
  thenW (ww118.setCell ((blk w.heap.size).add 5) (.int .i64 0)) fun ww119 =>
  canStore ww119 ((blk w.heap.size).add 6) ∧
  thenW (ww119.setCell ((blk w.heap.size).add 6) (.slice none 0 0)) fun ww120 =>
  canStore ww120 ((blk w.heap.size).add 7) ∧
  thenW (ww120.setCell ((blk w.heap.size).add 7) (.int .u64 0)) fun ww121 =>
  canStore ww121 ((blk w.heap.size).add 8) ∧
  thenW (ww121.setCell ((blk w.heap.size).add 8) (.int .i64 0)) fun ww122 =>
  canStore ww122 ((blk w.heap.size).add 9) ∧
  thenW (ww122.setCell ((blk w.heap.size).add 9) (.int .i64 0)) fun ww123 =>
  canStore ww123 ((blk w.heap.size).add 10) ∧
  thenW (ww123.setCell ((blk w.heap.size).add 10) (.int .u64 0)) fun ww124 =>
  canStore ww124 ((blk w.heap.size).add 11) ∧
  thenW (ww124.setCell ((blk w.heap.size).add 11) (.int .i64 0)) fun ww125 =>
  canStore ww125 ((blk w.heap.size).add 12) ∧
  thenW (ww125.setCell ((blk w.heap.size).add 12) (.int .i64 0)) fun ww126 =>
  canStore ww126 ((blk w.heap.size).add 13) ∧
  thenW (ww126.setCell ((blk w.heap.size).add 13) (.int .i64 0)) fun ww127 =>
  canStore ww127 ((blk w.heap.size).add 14) ∧
  thenW (ww127.setCell ((blk w.heap.size).add 14) (.slice none 0 0)) fun ww128 =>
  canStore ww128 ((blk w.heap.size).add 15) ∧
  thenW (ww128.setCell ((blk w.heap.size).add 15) (.int .u64 0)) fun ww129 =>
  ∃ (resAWriter130 : Int) (resAIndex131 : Int) (resAPrev132 : Int) (resAAtT133 : Int) (resAAtW134 : Int) (resAEpoch135 : Int) (resABody136a : Option Addr) (resABody136n : Nat) (resABody136c : Nat) (resASig137 : Int) (resBWriter138 : Int) (resBIndex139 : Int) (resBPrev140 : Int) (resBAtT141 : Int) (resBAtW142 : Int) (resBEpoch143 : Int) (resBBody144a : Option Addr) (resBBody144n : Nat) (resBBody144c : Nat) (resBSig145 : Int), cellsAt ww129 (blk w.heap.size) [.int .i64 resAWriter130, .int .i64 resAIndex131, .int .u64 resAPrev132, .int .i64 resAAtT133, .int .i64 resAAtW134, .int .i64 resAEpoch135, .slice resABody136a resABody136n resABody136c, .int .u64 resASig137, .int .i64 resBWriter138, .int .i64 resBIndex139, .int .u64 resBPrev140, .int .i64 resBAtT141, .int .i64 resBAtW142, .int .i64 resBEpoch143, .slice resBBody144a resBBody144n resBBody144c, .int .u64 resBSig145] 0 ∧
  R (.tuple #[.agg #[.int .i64 resAWriter130, .int .i64 resAIndex131, .int .u64 resAPrev132, .int .i64 resAAtT133, .int .i64 resAAtW134, .int .i64 resAEpoch135, .slice resABody136a resABody136n resABody136c, .int .u64 resASig137, .int .i64 resBWriter138, .int .i64 resBIndex139, .int .u64 resBPrev140, .int .i64 resBAtT141, .int .i64 resBAtW142, .int .i64 resBEpoch143, .slice resBBody144a resBBody144n resBBody144c, .int .u64 resBSig145], .bool false]) ww129)

theorem cachetteref23_Find.eq (a1a : Option Addr) (a1n : Nat) (a1c : Nat) (b2a : Option Addr) (b2n : Nat) (b2c : Nat) (R : Value → World → Prop) (w : World) : mfunc Try.prog [(0, [0, 1, 4], [(6, (.one (.int .i64)))])] 19 [.slice a1a a1n a1c, .slice b2a b2n b2c] R w = cachetteref23_Find.M a1a a1n a1c b2a b2n b2c R w := by kernel_rfl
theorem cachetteref23_Find.ok (a1a : Option Addr) (a1n : Nat) (a1c : Nat) (b2a : Option Addr) (b2n : Nat) (b2c : Nat) {R : Value → World → Prop} {w : World} (h : cachetteref23_Find.M a1a a1n a1c b2a b2n b2c R w) : Calls Try.prog 19 #[.slice a1a a1n a1c, .slice b2a b2n b2c] w fun e w' => ∃ v, e = .returned v ∧ R v w' :=
  mfunc_ok follows (H := [(0, [0, 1, 4], [(6, (.one (.int .i64)))])]) (args := [.slice a1a a1n a1c, .slice b2a b2n b2c]) (by rw [cachetteref23_Find.eq]; exact h)

def cachetteref23_Find.N (a1a : Option Addr) (a1n : Nat) (a1c : Nat) (b2a : Option Addr) (b2n : Nat) (b2c : Nat) (R : Value → World → Prop) (w : World) : Prop :=
  ∀ (ww3 : World) (p4 : Nat), Ext no w ww3 → Priv w ww3 [p4] →
  ∃ (I0 : Nat → List Value → World → Prop) (m22 : Nat), I0 m22 [.int .i64 0, .int .i64 0, .int .i64 0, .int .u64 0, .int .i64 0, .int .i64 0, .int .i64 0, .slice none 0 0, .int .u64 0, .int .i64 0, .int .i64 0, .int .u64 0, .int .i64 0, .int .i64 0, .int .i64 0, .slice none 0 0, .int .u64 0] ww3 ∧ ∀ (m23 : Nat) (ww24 : World) (i5 : Int) (AWriter6 : Int) (AIndex7 : Int) (APrev8 : Int) (AAtT9 : Int) (AAtW10 : Int) (AEpoch11 : Int) (ABody12a : Option Addr) (ABody12n : Nat) (ABody12c : Nat) (ASig13 : Int) (BWriter14 : Int) (BIndex15 : Int) (BPrev16 : Int) (BAtT17 : Int) (BAtW18 : Int) (BEpoch19 : Int) (BBody20a : Option Addr) (BBody20n : Nat) (BBody20c : Nat) (BSig21 : Int), I0 m23 [.int .i64 i5, .int .i64 AWriter6, .int .i64 AIndex7, .int .u64 APrev8, .int .i64 AAtT9, .int .i64 AAtW10, .int .i64 AEpoch11, .slice ABody12a ABody12n ABody12c, .int .u64 ASig13, .int .i64 BWriter14, .int .i64 BIndex15, .int .u64 BPrev16, .int .i64 BAtT17, .int .i64 BAtW18, .int .i64 BEpoch19, .slice BBody20a BBody20n BBody20c, .int .u64 BSig21] ww24 →
  (i5 < (a1n : Int) →
    (i5 < (b2n : Int) →
      ∃ a28 : Addr, a1a = some a28 ∧
      0 ≤ (i5 : Int) ∧ (i5 : Int) < (a1n : Int) ∧
      ∃ (xWriter30 : Int) (xIndex31 : Int) (xPrev32 : Int) (xAtT33 : Int) (xAtW34 : Int) (xEpoch35 : Int) (xBody36a : Option Addr) (xBody36n : Nat) (xBody36c : Nat) (xSig37 : Int), cellsAt ww24 (a28.add (Int.toNat i5 * 8)) [.int .i64 xWriter30, .int .i64 xIndex31, .int .u64 xPrev32, .int .i64 xAtT33, .int .i64 xAtW34, .int .i64 xEpoch35, .slice xBody36a xBody36n xBody36c, .int .u64 xSig37] 0 ∧
      ∃ a38 : Addr, b2a = some a38 ∧
      0 ≤ (i5 : Int) ∧ (i5 : Int) < (b2n : Int) ∧
      ∃ (xWriter40 : Int) (xIndex41 : Int) (xPrev42 : Int) (xAtT43 : Int) (xAtW44 : Int) (xEpoch45 : Int) (xBody46a : Option Addr) (xBody46n : Nat) (xBody46c : Nat) (xSig47 : Int), cellsAt ww24 (a38.add (Int.toNat i5 * 8)) [.int .i64 xWriter40, .int .i64 xIndex41, .int .u64 xPrev42, .int .i64 xAtT43, .int .i64 xAtW44, .int .i64 xEpoch45, .slice xBody46a xBody46n xBody46c, .int .u64 xSig47] 0 ∧
      ∀ (ww27 : World), Ext no ww24 ww27 →
      Calls Try.prog 15 #[.agg #[.int .i64 xWriter30, .int .i64 xIndex31, .int .u64 xPrev32, .int .i64 xAtT33, .int .i64 xAtW34, .int .i64 xEpoch35, .slice xBody36a xBody36n xBody36c, .int .u64 xSig37], .agg #[.int .i64 xWriter40, .int .i64 xIndex41, .int .u64 xPrev42, .int .i64 xAtT43, .int .i64 xAtW44, .int .i64 xEpoch45, .slice xBody46a xBody46n xBody46c, .int .u64 xSig47]] ww27 fun ee49 ww50 => ∃ (same48 : Bool), ee49 = .returned (.bool same48) ∧
      Keep [p4] ww27 ww50 ∧
      (same48 = false →
        0 ≤ (i5 : Int) ∧ (i5 : Int) < (a1n : Int) ∧
        ∃ (xWriter54 : Int) (xIndex55 : Int) (xPrev56 : Int) (xAtT57 : Int) (xAtW58 : Int) (xEpoch59 : Int) (xBody60a : Option Addr) (xBody60n : Nat) (xBody60c : Nat) (xSig61 : Int), cellsAt ww50 (a28.add (Int.toNat i5 * 8)) [.int .i64 xWriter54, .int .i64 xIndex55, .int .u64 xPrev56, .int .i64 xAtT57, .int .i64 xAtW58, .int .i64 xEpoch59, .slice xBody60a xBody60n xBody60c, .int .u64 xSig61] 0 ∧
        0 ≤ (i5 : Int) ∧ (i5 : Int) < (b2n : Int) ∧
        ∃ (xWriter63 : Int) (xIndex64 : Int) (xPrev65 : Int) (xAtT66 : Int) (xAtW67 : Int) (xEpoch68 : Int) (xBody69a : Option Addr) (xBody69n : Nat) (xBody69c : Nat) (xSig70 : Int), cellsAt ww50 (a38.add (Int.toNat i5 * 8)) [.int .i64 xWriter63, .int .i64 xIndex64, .int .u64 xPrev65, .int .i64 xAtT66, .int .i64 xAtW67, .int .i64 xEpoch68, .slice xBody69a xBody69n xBody69c, .int .u64 xSig70] 0 ∧
        ∀ (ww86 : World), Ext (fun b => b = p4) ww50 ww86 →
        R (.tuple #[.agg #[.int .i64 xWriter54, .int .i64 xIndex55, .int .u64 xPrev56, .int .i64 xAtT57, .int .i64 xAtW58, .int .i64 xEpoch59, .slice xBody60a xBody60n xBody60c, .int .u64 xSig61, .int .i64 xWriter63, .int .i64 xIndex64, .int .u64 xPrev65, .int .i64 xAtT66, .int .i64 xAtW67, .int .i64 xEpoch68, .slice xBody69a xBody69n xBody69c, .int .u64 xSig70], .bool true]) ww86) ∧
      (same48 = true →
        (-9223372036854775808 : Int) ≤ (i5 + 1) ∧ (i5 + 1) < 9223372036854775808 ∧
        ∃ m87, m87 < m23 ∧ I0 m87 [.int .i64 (i5 + 1), .int .i64 AWriter6, .int .i64 AIndex7, .int .u64 APrev8, .int .i64 AAtT9, .int .i64 AAtW10, .int .i64 AEpoch11, .slice ABody12a ABody12n ABody12c, .int .u64 ASig13, .int .i64 BWriter14, .int .i64 BIndex15, .int .u64 BPrev16, .int .i64 BAtT17, .int .i64 BAtW18, .int .i64 BEpoch19, .slice BBody20a BBody20n BBody20c, .int .u64 BSig21] ww50)) ∧
    ((b2n : Int) ≤ i5 →
      ∀ (ww103 : World), Ext (fun b => b = p4) ww24 ww103 →
      R (.tuple #[.agg #[.int .i64 0, .int .i64 0, .int .u64 0, .int .i64 0, .int .i64 0, .int .i64 0, .slice none 0 0, .int .u64 0, .int .i64 0, .int .i64 0, .int .u64 0, .int .i64 0, .int .i64 0, .int .i64 0, .slice none 0 0, .int .u64 0], .bool false]) ww103)) ∧
  ((a1n : Int) ≤ i5 →
    ∀ (ww119 : World), Ext (fun b => b = p4) ww24 ww119 →
    R (.tuple #[.agg #[.int .i64 0, .int .i64 0, .int .u64 0, .int .i64 0, .int .i64 0, .int .i64 0, .slice none 0 0, .int .u64 0, .int .i64 0, .int .i64 0, .int .u64 0, .int .i64 0, .int .i64 0, .int .i64 0, .slice none 0 0, .int .u64 0], .bool false]) ww119)

theorem cachetteref23_Find.up (a1a : Option Addr) (a1n : Nat) (a1c : Nat) (b2a : Option Addr) (b2n : Nat) (b2c : Nat) {R : Value → World → Prop} {w : World} (h : cachetteref23_Find.N a1a a1n a1c b2a b2n b2c R w) : cachetteref23_Find.M a1a a1n a1c b2a b2n b2c R w := by
  unfold cachetteref23_Find.M
  unfold cachetteref23_Find.N at h
  refine thenW_in fun ww3 e3 => ?_
  have hb1 := Blk.of_new e3
  have hg1 := ((Ext.refl no w)).size
  have hx3 := (Ext.refl no w).x_alloc e3
  have h := h ww3 (w.heap.size) hx3 (Priv.cons hg1 hb1.lt Priv.nil)
  obtain ⟨I0, m22, h0, h⟩ := h
  refine ⟨fun k vs ww => ∃ (AWriter6 : Int) (AIndex7 : Int) (APrev8 : Int) (AAtT9 : Int) (AAtW10 : Int) (AEpoch11 : Int) (ABody12a : Option Addr) (ABody12n : Nat) (ABody12c : Nat) (ASig13 : Int) (BWriter14 : Int) (BIndex15 : Int) (BPrev16 : Int) (BAtT17 : Int) (BAtW18 : Int) (BEpoch19 : Int) (BBody20a : Option Addr) (BBody20n : Nat) (BBody20c : Nat) (BSig21 : Int), Blk ww w.heap.size 50 [.int .i64 AWriter6, .int .i64 AIndex7, .int .u64 APrev8, .int .i64 AAtT9, .int .i64 AAtW10, .int .i64 AEpoch11, .slice ABody12a ABody12n ABody12c, .int .u64 ASig13, .int .i64 BWriter14, .int .i64 BIndex15, .int .u64 BPrev16, .int .i64 BAtT17, .int .i64 BAtW18, .int .i64 BEpoch19, .slice BBody20a BBody20n BBody20c, .int .u64 BSig21] ∧ I0 k (vs ++ [.int .i64 AWriter6, .int .i64 AIndex7, .int .u64 APrev8, .int .i64 AAtT9, .int .i64 AAtW10, .int .i64 AEpoch11, .slice ABody12a ABody12n ABody12c, .int .u64 ASig13, .int .i64 BWriter14, .int .i64 BIndex15, .int .u64 BPrev16, .int .i64 BAtT17, .int .i64 BAtW18, .int .i64 BEpoch19, .slice BBody20a BBody20n BBody20c, .int .u64 BSig21]) ww, m22, ⟨0, 0, 0, 0, 0, 0, none, 0, 0, 0, 0, 0, 0, 0, 0, 0, none, 0, 0, 0, hb1, h0⟩, fun m23 ww24 i5 hI => ?_⟩
  obtain ⟨AWriter6, AIndex7, APrev8, AAtT9, AAtW10, AEpoch11, ABody12a, ABody12n, ABody12c, ASig13, BWriter14, BIndex15, BPrev16, BAtT17, BAtW18, BEpoch19, BBody20a, BBody20n, BBody20c, BSig21, hb1, hI⟩ := hI
  have h := h m23 ww24 i5 AWriter6 AIndex7 APrev8 AAtT9 AAtW10 AEpoch11 ABody12a ABody12n ABody12c ASig13 BWriter14 BIndex15 BPrev16 BAtT17 BAtW18 BEpoch19 BBody20a BBody20n BBody20c BSig21 hI
  refine bif_of (fun c25 => ?_) (fun c25 => ?_)
  · have h := h.1 (of_decide_eq_true c25)
    refine bif_of (fun c26 => ?_) (fun c26 => ?_)
    · have h := h.1 (of_decide_eq_true c26)
      refine thenW_in fun ww27 e27 => ?_
      have hx27 := (Ext.refl no ww24).x_drew e27
      have hb1 := hb1.x_drew e27
      obtain ⟨a28, ha28, h⟩ := h
      refine elim_some ha28 ?_
      obtain ⟨hq1, hq2, h⟩ := h
      refine ⟨hq1, hq2, ?_⟩
      obtain ⟨xWriter30, xIndex31, xPrev32, xAtT33, xAtW34, xEpoch35, xBody36a, xBody36n, xBody36c, xSig37, hc29, h⟩ := h
      refine ⟨xWriter30, xIndex31, xPrev32, xAtT33, xAtW34, xEpoch35, xBody36a, xBody36n, xBody36c, xSig37, cellsAt_no (hx27) hc29, ?_⟩
      obtain ⟨a38, ha38, h⟩ := h
      refine elim_some ha38 ?_
      obtain ⟨hq1, hq2, h⟩ := h
      refine ⟨hq1, hq2, ?_⟩
      obtain ⟨xWriter40, xIndex41, xPrev42, xAtT43, xAtW44, xEpoch45, xBody46a, xBody46n, xBody46c, xSig47, hc39, h⟩ := h
      refine ⟨xWriter40, xIndex41, xPrev42, xAtT43, xAtW44, xEpoch45, xBody46a, xBody46n, xBody46c, xSig47, cellsAt_no (hx27) hc39, ?_⟩
      have h := h ww27 hx27
      refine h.mono fun ee49 ww50 h => ?_
      obtain ⟨same48, he, hk, h⟩ := h
      refine ⟨same48, he, ?_⟩
      have hb1 := hk.blk hb1 (by simp)
      refine bif_of (fun c51 => ?_) (fun c51 => ?_)
      · have h := h.1 (not_t c51)
        refine thenW_in fun ww52 e52 => ?_
        have hx52 := (Ext.refl no ww50).x_drew e52
        have hb1 := hb1.x_drew e52
        refine elim_some ha28 ?_
        obtain ⟨hq1, hq2, h⟩ := h
        refine ⟨hq1, hq2, ?_⟩
        obtain ⟨xWriter54, xIndex55, xPrev56, xAtT57, xAtW58, xEpoch59, xBody60a, xBody60n, xBody60c, xSig61, hc53, h⟩ := h
        refine ⟨xWriter54, xIndex55, xPrev56, xAtT57, xAtW58, xEpoch59, xBody60a, xBody60n, xBody60c, xSig61, cellsAt_no (hx52) hc53, ?_⟩
        refine elim_some ha38 ?_
        obtain ⟨hq1, hq2, h⟩ := h
        refine ⟨hq1, hq2, ?_⟩
        obtain ⟨xWriter63, xIndex64, xPrev65, xAtT66, xAtW67, xEpoch68, xBody69a, xBody69n, xBody69c, xSig70, hc62, h⟩ := h
        refine ⟨xWriter63, xIndex64, xPrev65, xAtT66, xAtW67, xEpoch68, xBody69a, xBody69n, xBody69c, xSig70, cellsAt_no (hx52) hc62, ?_⟩
        have hm86 : Ext (fun b => b = w.heap.size) ww50 ww52 := (hx52).none
        refine ⟨hb1.cani 0 rfl rfl, thenW_in fun ww71 e71 => ?_⟩
        have hx71 := hm86.x_set (q := w.heap.size) (i := 0) rfl (.inl rfl) e71
        have hb1 : Blk ww71 w.heap.size 50 [.int .i64 xWriter54, .int .i64 AIndex7, .int .u64 APrev8, .int .i64 AAtT9, .int .i64 AAtW10, .int .i64 AEpoch11, .slice ABody12a ABody12n ABody12c, .int .u64 ASig13, .int .i64 BWriter14, .int .i64 BIndex15, .int .u64 BPrev16, .int .i64 BAtT17, .int .i64 BAtW18, .int .i64 BEpoch19, .slice BBody20a BBody20n BBody20c, .int .u64 BSig21] := hb1.seti 0 rfl e71
        refine ⟨hb1.cani 1 rfl rfl, thenW_in fun ww72 e72 => ?_⟩
        have hx72 := hx71.x_set (q := w.heap.size) (i := 1) rfl (.inl rfl) e72
        have hb1 : Blk ww72 w.heap.size 50 [.int .i64 xWriter54, .int .i64 xIndex55, .int .u64 APrev8, .int .i64 AAtT9, .int .i64 AAtW10, .int .i64 AEpoch11, .slice ABody12a ABody12n ABody12c, .int .u64 ASig13, .int .i64 BWriter14, .int .i64 BIndex15, .int .u64 BPrev16, .int .i64 BAtT17, .int .i64 BAtW18, .int .i64 BEpoch19, .slice BBody20a BBody20n BBody20c, .int .u64 BSig21] := hb1.seti 1 rfl e72
        refine ⟨hb1.cani 2 rfl rfl, thenW_in fun ww73 e73 => ?_⟩
        have hx73 := hx72.x_set (q := w.heap.size) (i := 2) rfl (.inl rfl) e73
        have hb1 : Blk ww73 w.heap.size 50 [.int .i64 xWriter54, .int .i64 xIndex55, .int .u64 xPrev56, .int .i64 AAtT9, .int .i64 AAtW10, .int .i64 AEpoch11, .slice ABody12a ABody12n ABody12c, .int .u64 ASig13, .int .i64 BWriter14, .int .i64 BIndex15, .int .u64 BPrev16, .int .i64 BAtT17, .int .i64 BAtW18, .int .i64 BEpoch19, .slice BBody20a BBody20n BBody20c, .int .u64 BSig21] := hb1.seti 2 rfl e73
        refine ⟨hb1.cani 3 rfl rfl, thenW_in fun ww74 e74 => ?_⟩
        have hx74 := hx73.x_set (q := w.heap.size) (i := 3) rfl (.inl rfl) e74
        have hb1 : Blk ww74 w.heap.size 50 [.int .i64 xWriter54, .int .i64 xIndex55, .int .u64 xPrev56, .int .i64 xAtT57, .int .i64 AAtW10, .int .i64 AEpoch11, .slice ABody12a ABody12n ABody12c, .int .u64 ASig13, .int .i64 BWriter14, .int .i64 BIndex15, .int .u64 BPrev16, .int .i64 BAtT17, .int .i64 BAtW18, .int .i64 BEpoch19, .slice BBody20a BBody20n BBody20c, .int .u64 BSig21] := hb1.seti 3 rfl e74
        refine ⟨hb1.cani 4 rfl rfl, thenW_in fun ww75 e75 => ?_⟩
        have hx75 := hx74.x_set (q := w.heap.size) (i := 4) rfl (.inl rfl) e75
        have hb1 : Blk ww75 w.heap.size 50 [.int .i64 xWriter54, .int .i64 xIndex55, .int .u64 xPrev56, .int .i64 xAtT57, .int .i64 xAtW58, .int .i64 AEpoch11, .slice ABody12a ABody12n ABody12c, .int .u64 ASig13, .int .i64 BWriter14, .int .i64 BIndex15, .int .u64 BPrev16, .int .i64 BAtT17, .int .i64 BAtW18, .int .i64 BEpoch19, .slice BBody20a BBody20n BBody20c, .int .u64 BSig21] := hb1.seti 4 rfl e75
        refine ⟨hb1.cani 5 rfl rfl, thenW_in fun ww76 e76 => ?_⟩
        have hx76 := hx75.x_set (q := w.heap.size) (i := 5) rfl (.inl rfl) e76
        have hb1 : Blk ww76 w.heap.size 50 [.int .i64 xWriter54, .int .i64 xIndex55, .int .u64 xPrev56, .int .i64 xAtT57, .int .i64 xAtW58, .int .i64 xEpoch59, .slice ABody12a ABody12n ABody12c, .int .u64 ASig13, .int .i64 BWriter14, .int .i64 BIndex15, .int .u64 BPrev16, .int .i64 BAtT17, .int .i64 BAtW18, .int .i64 BEpoch19, .slice BBody20a BBody20n BBody20c, .int .u64 BSig21] := hb1.seti 5 rfl e76
        refine ⟨hb1.cani 6 rfl rfl, thenW_in fun ww77 e77 => ?_⟩
        have hx77 := hx76.x_set (q := w.heap.size) (i := 6) rfl (.inl rfl) e77
        have hb1 : Blk ww77 w.heap.size 50 [.int .i64 xWriter54, .int .i64 xIndex55, .int .u64 xPrev56, .int .i64 xAtT57, .int .i64 xAtW58, .int .i64 xEpoch59, .slice xBody60a xBody60n xBody60c, .int .u64 ASig13, .int .i64 BWriter14, .int .i64 BIndex15, .int .u64 BPrev16, .int .i64 BAtT17, .int .i64 BAtW18, .int .i64 BEpoch19, .slice BBody20a BBody20n BBody20c, .int .u64 BSig21] := hb1.seti 6 rfl e77
        refine ⟨hb1.cani 7 rfl rfl, thenW_in fun ww78 e78 => ?_⟩
        have hx78 := hx77.x_set (q := w.heap.size) (i := 7) rfl (.inl rfl) e78
        have hb1 : Blk ww78 w.heap.size 50 [.int .i64 xWriter54, .int .i64 xIndex55, .int .u64 xPrev56, .int .i64 xAtT57, .int .i64 xAtW58, .int .i64 xEpoch59, .slice xBody60a xBody60n xBody60c, .int .u64 xSig61, .int .i64 BWriter14, .int .i64 BIndex15, .int .u64 BPrev16, .int .i64 BAtT17, .int .i64 BAtW18, .int .i64 BEpoch19, .slice BBody20a BBody20n BBody20c, .int .u64 BSig21] := hb1.seti 7 rfl e78
        refine ⟨hb1.cani 8 rfl rfl, thenW_in fun ww79 e79 => ?_⟩
        have hx79 := hx78.x_set (q := w.heap.size) (i := 8) rfl (.inl rfl) e79
        have hb1 : Blk ww79 w.heap.size 50 [.int .i64 xWriter54, .int .i64 xIndex55, .int .u64 xPrev56, .int .i64 xAtT57, .int .i64 xAtW58, .int .i64 xEpoch59, .slice xBody60a xBody60n xBody60c, .int .u64 xSig61, .int .i64 xWriter63, .int .i64 BIndex15, .int .u64 BPrev16, .int .i64 BAtT17, .int .i64 BAtW18, .int .i64 BEpoch19, .slice BBody20a BBody20n BBody20c, .int .u64 BSig21] := hb1.seti 8 rfl e79
        refine ⟨hb1.cani 9 rfl rfl, thenW_in fun ww80 e80 => ?_⟩
        have hx80 := hx79.x_set (q := w.heap.size) (i := 9) rfl (.inl rfl) e80
        have hb1 : Blk ww80 w.heap.size 50 [.int .i64 xWriter54, .int .i64 xIndex55, .int .u64 xPrev56, .int .i64 xAtT57, .int .i64 xAtW58, .int .i64 xEpoch59, .slice xBody60a xBody60n xBody60c, .int .u64 xSig61, .int .i64 xWriter63, .int .i64 xIndex64, .int .u64 BPrev16, .int .i64 BAtT17, .int .i64 BAtW18, .int .i64 BEpoch19, .slice BBody20a BBody20n BBody20c, .int .u64 BSig21] := hb1.seti 9 rfl e80
        refine ⟨hb1.cani 10 rfl rfl, thenW_in fun ww81 e81 => ?_⟩
        have hx81 := hx80.x_set (q := w.heap.size) (i := 10) rfl (.inl rfl) e81
        have hb1 : Blk ww81 w.heap.size 50 [.int .i64 xWriter54, .int .i64 xIndex55, .int .u64 xPrev56, .int .i64 xAtT57, .int .i64 xAtW58, .int .i64 xEpoch59, .slice xBody60a xBody60n xBody60c, .int .u64 xSig61, .int .i64 xWriter63, .int .i64 xIndex64, .int .u64 xPrev65, .int .i64 BAtT17, .int .i64 BAtW18, .int .i64 BEpoch19, .slice BBody20a BBody20n BBody20c, .int .u64 BSig21] := hb1.seti 10 rfl e81
        refine ⟨hb1.cani 11 rfl rfl, thenW_in fun ww82 e82 => ?_⟩
        have hx82 := hx81.x_set (q := w.heap.size) (i := 11) rfl (.inl rfl) e82
        have hb1 : Blk ww82 w.heap.size 50 [.int .i64 xWriter54, .int .i64 xIndex55, .int .u64 xPrev56, .int .i64 xAtT57, .int .i64 xAtW58, .int .i64 xEpoch59, .slice xBody60a xBody60n xBody60c, .int .u64 xSig61, .int .i64 xWriter63, .int .i64 xIndex64, .int .u64 xPrev65, .int .i64 xAtT66, .int .i64 BAtW18, .int .i64 BEpoch19, .slice BBody20a BBody20n BBody20c, .int .u64 BSig21] := hb1.seti 11 rfl e82
        refine ⟨hb1.cani 12 rfl rfl, thenW_in fun ww83 e83 => ?_⟩
        have hx83 := hx82.x_set (q := w.heap.size) (i := 12) rfl (.inl rfl) e83
        have hb1 : Blk ww83 w.heap.size 50 [.int .i64 xWriter54, .int .i64 xIndex55, .int .u64 xPrev56, .int .i64 xAtT57, .int .i64 xAtW58, .int .i64 xEpoch59, .slice xBody60a xBody60n xBody60c, .int .u64 xSig61, .int .i64 xWriter63, .int .i64 xIndex64, .int .u64 xPrev65, .int .i64 xAtT66, .int .i64 xAtW67, .int .i64 BEpoch19, .slice BBody20a BBody20n BBody20c, .int .u64 BSig21] := hb1.seti 12 rfl e83
        refine ⟨hb1.cani 13 rfl rfl, thenW_in fun ww84 e84 => ?_⟩
        have hx84 := hx83.x_set (q := w.heap.size) (i := 13) rfl (.inl rfl) e84
        have hb1 : Blk ww84 w.heap.size 50 [.int .i64 xWriter54, .int .i64 xIndex55, .int .u64 xPrev56, .int .i64 xAtT57, .int .i64 xAtW58, .int .i64 xEpoch59, .slice xBody60a xBody60n xBody60c, .int .u64 xSig61, .int .i64 xWriter63, .int .i64 xIndex64, .int .u64 xPrev65, .int .i64 xAtT66, .int .i64 xAtW67, .int .i64 xEpoch68, .slice BBody20a BBody20n BBody20c, .int .u64 BSig21] := hb1.seti 13 rfl e84
        refine ⟨hb1.cani 14 rfl rfl, thenW_in fun ww85 e85 => ?_⟩
        have hx85 := hx84.x_set (q := w.heap.size) (i := 14) rfl (.inl rfl) e85
        have hb1 : Blk ww85 w.heap.size 50 [.int .i64 xWriter54, .int .i64 xIndex55, .int .u64 xPrev56, .int .i64 xAtT57, .int .i64 xAtW58, .int .i64 xEpoch59, .slice xBody60a xBody60n xBody60c, .int .u64 xSig61, .int .i64 xWriter63, .int .i64 xIndex64, .int .u64 xPrev65, .int .i64 xAtT66, .int .i64 xAtW67, .int .i64 xEpoch68, .slice xBody69a xBody69n xBody69c, .int .u64 BSig21] := hb1.seti 14 rfl e85
        refine ⟨hb1.cani 15 rfl rfl, thenW_in fun ww86 e86 => ?_⟩
        have hx86 := hx85.x_set (q := w.heap.size) (i := 15) rfl (.inl rfl) e86
        have hb1 : Blk ww86 w.heap.size 50 [.int .i64 xWriter54, .int .i64 xIndex55, .int .u64 xPrev56, .int .i64 xAtT57, .int .i64 xAtW58, .int .i64 xEpoch59, .slice xBody60a xBody60n xBody60c, .int .u64 xSig61, .int .i64 xWriter63, .int .i64 xIndex64, .int .u64 xPrev65, .int .i64 xAtT66, .int .i64 xAtW67, .int .i64 xEpoch68, .slice xBody69a xBody69n xBody69c, .int .u64 xSig70] := hb1.seti 15 rfl e86
        refine ⟨xWriter54, xIndex55, xPrev56, xAtT57, xAtW58, xEpoch59, xBody60a, xBody60n, xBody60c, xSig61, xWriter63, xIndex64, xPrev65, xAtT66, xAtW67, xEpoch68, xBody69a, xBody69n, xBody69c, xSig70, ⟨hb1.celli 0 rfl rfl, hb1.celli 1 rfl rfl, hb1.celli 2 rfl rfl, hb1.celli 3 rfl rfl, hb1.celli 4 rfl rfl, hb1.celli 5 rfl rfl, hb1.celli 6 rfl rfl, hb1.celli 7 rfl rfl, hb1.celli 8 rfl rfl, hb1.celli 9 rfl rfl, hb1.celli 10 rfl rfl, hb1.celli 11 rfl rfl, hb1.celli 12 rfl rfl, hb1.celli 13 rfl rfl, hb1.celli 14 rfl rfl, hb1.celli 15 rfl rfl, trivial⟩, ?_⟩
        have h := h ww86 hx86
        exact h
      · have h := h.2 (not_f c51)
        obtain ⟨hw1, hw2, h⟩ := h
        try rw [w64 hw1 hw2]
        obtain ⟨m87, hk, h⟩ := h
        exact ⟨m87, hk, AWriter6, AIndex7, APrev8, AAtT9, AAtW10, AEpoch11, ABody12a, ABody12n, ABody12c, ASig13, BWriter14, BIndex15, BPrev16, BAtT17, BAtW18, BEpoch19, BBody20a, BBody20n, BBody20c, BSig21, hb1, h⟩
    · have h := h.2 (Int.not_lt.1 (of_decide_eq_false c26))
      have hm103 : Ext (fun b => b = w.heap.size) ww24 ww24 := ((Ext.refl no ww24)).none
      refine ⟨hb1.cani 0 rfl rfl, thenW_in fun ww88 e88 => ?_⟩
      have hx88 := hm103.x_set (q := w.heap.size) (i := 0) rfl (.inl rfl) e88
      have hb1 : Blk ww88 w.heap.size 50 [.int .i64 0, .int .i64 AIndex7, .int .u64 APrev8, .int .i64 AAtT9, .int .i64 AAtW10, .int .i64 AEpoch11, .slice ABody12a ABody12n ABody12c, .int .u64 ASig13, .int .i64 BWriter14, .int .i64 BIndex15, .int .u64 BPrev16, .int .i64 BAtT17, .int .i64 BAtW18, .int .i64 BEpoch19, .slice BBody20a BBody20n BBody20c, .int .u64 BSig21] := hb1.seti 0 rfl e88
      refine ⟨hb1.cani 1 rfl rfl, thenW_in fun ww89 e89 => ?_⟩
      have hx89 := hx88.x_set (q := w.heap.size) (i := 1) rfl (.inl rfl) e89
      have hb1 : Blk ww89 w.heap.size 50 [.int .i64 0, .int .i64 0, .int .u64 APrev8, .int .i64 AAtT9, .int .i64 AAtW10, .int .i64 AEpoch11, .slice ABody12a ABody12n ABody12c, .int .u64 ASig13, .int .i64 BWriter14, .int .i64 BIndex15, .int .u64 BPrev16, .int .i64 BAtT17, .int .i64 BAtW18, .int .i64 BEpoch19, .slice BBody20a BBody20n BBody20c, .int .u64 BSig21] := hb1.seti 1 rfl e89
      refine ⟨hb1.cani 2 rfl rfl, thenW_in fun ww90 e90 => ?_⟩
      have hx90 := hx89.x_set (q := w.heap.size) (i := 2) rfl (.inl rfl) e90
      have hb1 : Blk ww90 w.heap.size 50 [.int .i64 0, .int .i64 0, .int .u64 0, .int .i64 AAtT9, .int .i64 AAtW10, .int .i64 AEpoch11, .slice ABody12a ABody12n ABody12c, .int .u64 ASig13, .int .i64 BWriter14, .int .i64 BIndex15, .int .u64 BPrev16, .int .i64 BAtT17, .int .i64 BAtW18, .int .i64 BEpoch19, .slice BBody20a BBody20n BBody20c, .int .u64 BSig21] := hb1.seti 2 rfl e90
      refine ⟨hb1.cani 3 rfl rfl, thenW_in fun ww91 e91 => ?_⟩
      have hx91 := hx90.x_set (q := w.heap.size) (i := 3) rfl (.inl rfl) e91
      have hb1 : Blk ww91 w.heap.size 50 [.int .i64 0, .int .i64 0, .int .u64 0, .int .i64 0, .int .i64 AAtW10, .int .i64 AEpoch11, .slice ABody12a ABody12n ABody12c, .int .u64 ASig13, .int .i64 BWriter14, .int .i64 BIndex15, .int .u64 BPrev16, .int .i64 BAtT17, .int .i64 BAtW18, .int .i64 BEpoch19, .slice BBody20a BBody20n BBody20c, .int .u64 BSig21] := hb1.seti 3 rfl e91
      refine ⟨hb1.cani 4 rfl rfl, thenW_in fun ww92 e92 => ?_⟩
      have hx92 := hx91.x_set (q := w.heap.size) (i := 4) rfl (.inl rfl) e92
      have hb1 : Blk ww92 w.heap.size 50 [.int .i64 0, .int .i64 0, .int .u64 0, .int .i64 0, .int .i64 0, .int .i64 AEpoch11, .slice ABody12a ABody12n ABody12c, .int .u64 ASig13, .int .i64 BWriter14, .int .i64 BIndex15, .int .u64 BPrev16, .int .i64 BAtT17, .int .i64 BAtW18, .int .i64 BEpoch19, .slice BBody20a BBody20n BBody20c, .int .u64 BSig21] := hb1.seti 4 rfl e92
      refine ⟨hb1.cani 5 rfl rfl, thenW_in fun ww93 e93 => ?_⟩
      have hx93 := hx92.x_set (q := w.heap.size) (i := 5) rfl (.inl rfl) e93
      have hb1 : Blk ww93 w.heap.size 50 [.int .i64 0, .int .i64 0, .int .u64 0, .int .i64 0, .int .i64 0, .int .i64 0, .slice ABody12a ABody12n ABody12c, .int .u64 ASig13, .int .i64 BWriter14, .int .i64 BIndex15, .int .u64 BPrev16, .int .i64 BAtT17, .int .i64 BAtW18, .int .i64 BEpoch19, .slice BBody20a BBody20n BBody20c, .int .u64 BSig21] := hb1.seti 5 rfl e93
      refine ⟨hb1.cani 6 rfl rfl, thenW_in fun ww94 e94 => ?_⟩
      have hx94 := hx93.x_set (q := w.heap.size) (i := 6) rfl (.inl rfl) e94
      have hb1 : Blk ww94 w.heap.size 50 [.int .i64 0, .int .i64 0, .int .u64 0, .int .i64 0, .int .i64 0, .int .i64 0, .slice none 0 0, .int .u64 ASig13, .int .i64 BWriter14, .int .i64 BIndex15, .int .u64 BPrev16, .int .i64 BAtT17, .int .i64 BAtW18, .int .i64 BEpoch19, .slice BBody20a BBody20n BBody20c, .int .u64 BSig21] := hb1.seti 6 rfl e94
      refine ⟨hb1.cani 7 rfl rfl, thenW_in fun ww95 e95 => ?_⟩
      have hx95 := hx94.x_set (q := w.heap.size) (i := 7) rfl (.inl rfl) e95
      have hb1 : Blk ww95 w.heap.size 50 [.int .i64 0, .int .i64 0, .int .u64 0, .int .i64 0, .int .i64 0, .int .i64 0, .slice none 0 0, .int .u64 0, .int .i64 BWriter14, .int .i64 BIndex15, .int .u64 BPrev16, .int .i64 BAtT17, .int .i64 BAtW18, .int .i64 BEpoch19, .slice BBody20a BBody20n BBody20c, .int .u64 BSig21] := hb1.seti 7 rfl e95
      refine ⟨hb1.cani 8 rfl rfl, thenW_in fun ww96 e96 => ?_⟩
      have hx96 := hx95.x_set (q := w.heap.size) (i := 8) rfl (.inl rfl) e96
      have hb1 : Blk ww96 w.heap.size 50 [.int .i64 0, .int .i64 0, .int .u64 0, .int .i64 0, .int .i64 0, .int .i64 0, .slice none 0 0, .int .u64 0, .int .i64 0, .int .i64 BIndex15, .int .u64 BPrev16, .int .i64 BAtT17, .int .i64 BAtW18, .int .i64 BEpoch19, .slice BBody20a BBody20n BBody20c, .int .u64 BSig21] := hb1.seti 8 rfl e96
      refine ⟨hb1.cani 9 rfl rfl, thenW_in fun ww97 e97 => ?_⟩
      have hx97 := hx96.x_set (q := w.heap.size) (i := 9) rfl (.inl rfl) e97
      have hb1 : Blk ww97 w.heap.size 50 [.int .i64 0, .int .i64 0, .int .u64 0, .int .i64 0, .int .i64 0, .int .i64 0, .slice none 0 0, .int .u64 0, .int .i64 0, .int .i64 0, .int .u64 BPrev16, .int .i64 BAtT17, .int .i64 BAtW18, .int .i64 BEpoch19, .slice BBody20a BBody20n BBody20c, .int .u64 BSig21] := hb1.seti 9 rfl e97
      refine ⟨hb1.cani 10 rfl rfl, thenW_in fun ww98 e98 => ?_⟩
      have hx98 := hx97.x_set (q := w.heap.size) (i := 10) rfl (.inl rfl) e98
      have hb1 : Blk ww98 w.heap.size 50 [.int .i64 0, .int .i64 0, .int .u64 0, .int .i64 0, .int .i64 0, .int .i64 0, .slice none 0 0, .int .u64 0, .int .i64 0, .int .i64 0, .int .u64 0, .int .i64 BAtT17, .int .i64 BAtW18, .int .i64 BEpoch19, .slice BBody20a BBody20n BBody20c, .int .u64 BSig21] := hb1.seti 10 rfl e98
      refine ⟨hb1.cani 11 rfl rfl, thenW_in fun ww99 e99 => ?_⟩
      have hx99 := hx98.x_set (q := w.heap.size) (i := 11) rfl (.inl rfl) e99
      have hb1 : Blk ww99 w.heap.size 50 [.int .i64 0, .int .i64 0, .int .u64 0, .int .i64 0, .int .i64 0, .int .i64 0, .slice none 0 0, .int .u64 0, .int .i64 0, .int .i64 0, .int .u64 0, .int .i64 0, .int .i64 BAtW18, .int .i64 BEpoch19, .slice BBody20a BBody20n BBody20c, .int .u64 BSig21] := hb1.seti 11 rfl e99
      refine ⟨hb1.cani 12 rfl rfl, thenW_in fun ww100 e100 => ?_⟩
      have hx100 := hx99.x_set (q := w.heap.size) (i := 12) rfl (.inl rfl) e100
      have hb1 : Blk ww100 w.heap.size 50 [.int .i64 0, .int .i64 0, .int .u64 0, .int .i64 0, .int .i64 0, .int .i64 0, .slice none 0 0, .int .u64 0, .int .i64 0, .int .i64 0, .int .u64 0, .int .i64 0, .int .i64 0, .int .i64 BEpoch19, .slice BBody20a BBody20n BBody20c, .int .u64 BSig21] := hb1.seti 12 rfl e100
      refine ⟨hb1.cani 13 rfl rfl, thenW_in fun ww101 e101 => ?_⟩
      have hx101 := hx100.x_set (q := w.heap.size) (i := 13) rfl (.inl rfl) e101
      have hb1 : Blk ww101 w.heap.size 50 [.int .i64 0, .int .i64 0, .int .u64 0, .int .i64 0, .int .i64 0, .int .i64 0, .slice none 0 0, .int .u64 0, .int .i64 0, .int .i64 0, .int .u64 0, .int .i64 0, .int .i64 0, .int .i64 0, .slice BBody20a BBody20n BBody20c, .int .u64 BSig21] := hb1.seti 13 rfl e101
      refine ⟨hb1.cani 14 rfl rfl, thenW_in fun ww102 e102 => ?_⟩
      have hx102 := hx101.x_set (q := w.heap.size) (i := 14) rfl (.inl rfl) e102
      have hb1 : Blk ww102 w.heap.size 50 [.int .i64 0, .int .i64 0, .int .u64 0, .int .i64 0, .int .i64 0, .int .i64 0, .slice none 0 0, .int .u64 0, .int .i64 0, .int .i64 0, .int .u64 0, .int .i64 0, .int .i64 0, .int .i64 0, .slice none 0 0, .int .u64 BSig21] := hb1.seti 14 rfl e102
      refine ⟨hb1.cani 15 rfl rfl, thenW_in fun ww103 e103 => ?_⟩
      have hx103 := hx102.x_set (q := w.heap.size) (i := 15) rfl (.inl rfl) e103
      have hb1 : Blk ww103 w.heap.size 50 [.int .i64 0, .int .i64 0, .int .u64 0, .int .i64 0, .int .i64 0, .int .i64 0, .slice none 0 0, .int .u64 0, .int .i64 0, .int .i64 0, .int .u64 0, .int .i64 0, .int .i64 0, .int .i64 0, .slice none 0 0, .int .u64 0] := hb1.seti 15 rfl e103
      refine ⟨0, 0, 0, 0, 0, 0, none, 0, 0, 0, 0, 0, 0, 0, 0, 0, none, 0, 0, 0, ⟨hb1.celli 0 rfl rfl, hb1.celli 1 rfl rfl, hb1.celli 2 rfl rfl, hb1.celli 3 rfl rfl, hb1.celli 4 rfl rfl, hb1.celli 5 rfl rfl, hb1.celli 6 rfl rfl, hb1.celli 7 rfl rfl, hb1.celli 8 rfl rfl, hb1.celli 9 rfl rfl, hb1.celli 10 rfl rfl, hb1.celli 11 rfl rfl, hb1.celli 12 rfl rfl, hb1.celli 13 rfl rfl, hb1.celli 14 rfl rfl, hb1.celli 15 rfl rfl, trivial⟩, ?_⟩
      have h := h ww103 hx103
      exact h
  · have h := h.2 (Int.not_lt.1 (of_decide_eq_false c25))
    have hm119 : Ext (fun b => b = w.heap.size) ww24 ww24 := ((Ext.refl no ww24)).none
    refine ⟨hb1.cani 0 rfl rfl, thenW_in fun ww104 e104 => ?_⟩
    have hx104 := hm119.x_set (q := w.heap.size) (i := 0) rfl (.inl rfl) e104
    have hb1 : Blk ww104 w.heap.size 50 [.int .i64 0, .int .i64 AIndex7, .int .u64 APrev8, .int .i64 AAtT9, .int .i64 AAtW10, .int .i64 AEpoch11, .slice ABody12a ABody12n ABody12c, .int .u64 ASig13, .int .i64 BWriter14, .int .i64 BIndex15, .int .u64 BPrev16, .int .i64 BAtT17, .int .i64 BAtW18, .int .i64 BEpoch19, .slice BBody20a BBody20n BBody20c, .int .u64 BSig21] := hb1.seti 0 rfl e104
    refine ⟨hb1.cani 1 rfl rfl, thenW_in fun ww105 e105 => ?_⟩
    have hx105 := hx104.x_set (q := w.heap.size) (i := 1) rfl (.inl rfl) e105
    have hb1 : Blk ww105 w.heap.size 50 [.int .i64 0, .int .i64 0, .int .u64 APrev8, .int .i64 AAtT9, .int .i64 AAtW10, .int .i64 AEpoch11, .slice ABody12a ABody12n ABody12c, .int .u64 ASig13, .int .i64 BWriter14, .int .i64 BIndex15, .int .u64 BPrev16, .int .i64 BAtT17, .int .i64 BAtW18, .int .i64 BEpoch19, .slice BBody20a BBody20n BBody20c, .int .u64 BSig21] := hb1.seti 1 rfl e105
    refine ⟨hb1.cani 2 rfl rfl, thenW_in fun ww106 e106 => ?_⟩
    have hx106 := hx105.x_set (q := w.heap.size) (i := 2) rfl (.inl rfl) e106
    have hb1 : Blk ww106 w.heap.size 50 [.int .i64 0, .int .i64 0, .int .u64 0, .int .i64 AAtT9, .int .i64 AAtW10, .int .i64 AEpoch11, .slice ABody12a ABody12n ABody12c, .int .u64 ASig13, .int .i64 BWriter14, .int .i64 BIndex15, .int .u64 BPrev16, .int .i64 BAtT17, .int .i64 BAtW18, .int .i64 BEpoch19, .slice BBody20a BBody20n BBody20c, .int .u64 BSig21] := hb1.seti 2 rfl e106
    refine ⟨hb1.cani 3 rfl rfl, thenW_in fun ww107 e107 => ?_⟩
    have hx107 := hx106.x_set (q := w.heap.size) (i := 3) rfl (.inl rfl) e107
    have hb1 : Blk ww107 w.heap.size 50 [.int .i64 0, .int .i64 0, .int .u64 0, .int .i64 0, .int .i64 AAtW10, .int .i64 AEpoch11, .slice ABody12a ABody12n ABody12c, .int .u64 ASig13, .int .i64 BWriter14, .int .i64 BIndex15, .int .u64 BPrev16, .int .i64 BAtT17, .int .i64 BAtW18, .int .i64 BEpoch19, .slice BBody20a BBody20n BBody20c, .int .u64 BSig21] := hb1.seti 3 rfl e107
    refine ⟨hb1.cani 4 rfl rfl, thenW_in fun ww108 e108 => ?_⟩
    have hx108 := hx107.x_set (q := w.heap.size) (i := 4) rfl (.inl rfl) e108
    have hb1 : Blk ww108 w.heap.size 50 [.int .i64 0, .int .i64 0, .int .u64 0, .int .i64 0, .int .i64 0, .int .i64 AEpoch11, .slice ABody12a ABody12n ABody12c, .int .u64 ASig13, .int .i64 BWriter14, .int .i64 BIndex15, .int .u64 BPrev16, .int .i64 BAtT17, .int .i64 BAtW18, .int .i64 BEpoch19, .slice BBody20a BBody20n BBody20c, .int .u64 BSig21] := hb1.seti 4 rfl e108
    refine ⟨hb1.cani 5 rfl rfl, thenW_in fun ww109 e109 => ?_⟩
    have hx109 := hx108.x_set (q := w.heap.size) (i := 5) rfl (.inl rfl) e109
    have hb1 : Blk ww109 w.heap.size 50 [.int .i64 0, .int .i64 0, .int .u64 0, .int .i64 0, .int .i64 0, .int .i64 0, .slice ABody12a ABody12n ABody12c, .int .u64 ASig13, .int .i64 BWriter14, .int .i64 BIndex15, .int .u64 BPrev16, .int .i64 BAtT17, .int .i64 BAtW18, .int .i64 BEpoch19, .slice BBody20a BBody20n BBody20c, .int .u64 BSig21] := hb1.seti 5 rfl e109
    refine ⟨hb1.cani 6 rfl rfl, thenW_in fun ww110 e110 => ?_⟩
    have hx110 := hx109.x_set (q := w.heap.size) (i := 6) rfl (.inl rfl) e110
    have hb1 : Blk ww110 w.heap.size 50 [.int .i64 0, .int .i64 0, .int .u64 0, .int .i64 0, .int .i64 0, .int .i64 0, .slice none 0 0, .int .u64 ASig13, .int .i64 BWriter14, .int .i64 BIndex15, .int .u64 BPrev16, .int .i64 BAtT17, .int .i64 BAtW18, .int .i64 BEpoch19, .slice BBody20a BBody20n BBody20c, .int .u64 BSig21] := hb1.seti 6 rfl e110
    refine ⟨hb1.cani 7 rfl rfl, thenW_in fun ww111 e111 => ?_⟩
    have hx111 := hx110.x_set (q := w.heap.size) (i := 7) rfl (.inl rfl) e111
    have hb1 : Blk ww111 w.heap.size 50 [.int .i64 0, .int .i64 0, .int .u64 0, .int .i64 0, .int .i64 0, .int .i64 0, .slice none 0 0, .int .u64 0, .int .i64 BWriter14, .int .i64 BIndex15, .int .u64 BPrev16, .int .i64 BAtT17, .int .i64 BAtW18, .int .i64 BEpoch19, .slice BBody20a BBody20n BBody20c, .int .u64 BSig21] := hb1.seti 7 rfl e111
    refine ⟨hb1.cani 8 rfl rfl, thenW_in fun ww112 e112 => ?_⟩
    have hx112 := hx111.x_set (q := w.heap.size) (i := 8) rfl (.inl rfl) e112
    have hb1 : Blk ww112 w.heap.size 50 [.int .i64 0, .int .i64 0, .int .u64 0, .int .i64 0, .int .i64 0, .int .i64 0, .slice none 0 0, .int .u64 0, .int .i64 0, .int .i64 BIndex15, .int .u64 BPrev16, .int .i64 BAtT17, .int .i64 BAtW18, .int .i64 BEpoch19, .slice BBody20a BBody20n BBody20c, .int .u64 BSig21] := hb1.seti 8 rfl e112
    refine ⟨hb1.cani 9 rfl rfl, thenW_in fun ww113 e113 => ?_⟩
    have hx113 := hx112.x_set (q := w.heap.size) (i := 9) rfl (.inl rfl) e113
    have hb1 : Blk ww113 w.heap.size 50 [.int .i64 0, .int .i64 0, .int .u64 0, .int .i64 0, .int .i64 0, .int .i64 0, .slice none 0 0, .int .u64 0, .int .i64 0, .int .i64 0, .int .u64 BPrev16, .int .i64 BAtT17, .int .i64 BAtW18, .int .i64 BEpoch19, .slice BBody20a BBody20n BBody20c, .int .u64 BSig21] := hb1.seti 9 rfl e113
    refine ⟨hb1.cani 10 rfl rfl, thenW_in fun ww114 e114 => ?_⟩
    have hx114 := hx113.x_set (q := w.heap.size) (i := 10) rfl (.inl rfl) e114
    have hb1 : Blk ww114 w.heap.size 50 [.int .i64 0, .int .i64 0, .int .u64 0, .int .i64 0, .int .i64 0, .int .i64 0, .slice none 0 0, .int .u64 0, .int .i64 0, .int .i64 0, .int .u64 0, .int .i64 BAtT17, .int .i64 BAtW18, .int .i64 BEpoch19, .slice BBody20a BBody20n BBody20c, .int .u64 BSig21] := hb1.seti 10 rfl e114
    refine ⟨hb1.cani 11 rfl rfl, thenW_in fun ww115 e115 => ?_⟩
    have hx115 := hx114.x_set (q := w.heap.size) (i := 11) rfl (.inl rfl) e115
    have hb1 : Blk ww115 w.heap.size 50 [.int .i64 0, .int .i64 0, .int .u64 0, .int .i64 0, .int .i64 0, .int .i64 0, .slice none 0 0, .int .u64 0, .int .i64 0, .int .i64 0, .int .u64 0, .int .i64 0, .int .i64 BAtW18, .int .i64 BEpoch19, .slice BBody20a BBody20n BBody20c, .int .u64 BSig21] := hb1.seti 11 rfl e115
    refine ⟨hb1.cani 12 rfl rfl, thenW_in fun ww116 e116 => ?_⟩
    have hx116 := hx115.x_set (q := w.heap.size) (i := 12) rfl (.inl rfl) e116
    have hb1 : Blk ww116 w.heap.size 50 [.int .i64 0, .int .i64 0, .int .u64 0, .int .i64 0, .int .i64 0, .int .i64 0, .slice none 0 0, .int .u64 0, .int .i64 0, .int .i64 0, .int .u64 0, .int .i64 0, .int .i64 0, .int .i64 BEpoch19, .slice BBody20a BBody20n BBody20c, .int .u64 BSig21] := hb1.seti 12 rfl e116
    refine ⟨hb1.cani 13 rfl rfl, thenW_in fun ww117 e117 => ?_⟩
    have hx117 := hx116.x_set (q := w.heap.size) (i := 13) rfl (.inl rfl) e117
    have hb1 : Blk ww117 w.heap.size 50 [.int .i64 0, .int .i64 0, .int .u64 0, .int .i64 0, .int .i64 0, .int .i64 0, .slice none 0 0, .int .u64 0, .int .i64 0, .int .i64 0, .int .u64 0, .int .i64 0, .int .i64 0, .int .i64 0, .slice BBody20a BBody20n BBody20c, .int .u64 BSig21] := hb1.seti 13 rfl e117
    refine ⟨hb1.cani 14 rfl rfl, thenW_in fun ww118 e118 => ?_⟩
    have hx118 := hx117.x_set (q := w.heap.size) (i := 14) rfl (.inl rfl) e118
    have hb1 : Blk ww118 w.heap.size 50 [.int .i64 0, .int .i64 0, .int .u64 0, .int .i64 0, .int .i64 0, .int .i64 0, .slice none 0 0, .int .u64 0, .int .i64 0, .int .i64 0, .int .u64 0, .int .i64 0, .int .i64 0, .int .i64 0, .slice none 0 0, .int .u64 BSig21] := hb1.seti 14 rfl e118
    refine ⟨hb1.cani 15 rfl rfl, thenW_in fun ww119 e119 => ?_⟩
    have hx119 := hx118.x_set (q := w.heap.size) (i := 15) rfl (.inl rfl) e119
    have hb1 : Blk ww119 w.heap.size 50 [.int .i64 0, .int .i64 0, .int .u64 0, .int .i64 0, .int .i64 0, .int .i64 0, .slice none 0 0, .int .u64 0, .int .i64 0, .int .i64 0, .int .u64 0, .int .i64 0, .int .i64 0, .int .i64 0, .slice none 0 0, .int .u64 0] := hb1.seti 15 rfl e119
    refine ⟨0, 0, 0, 0, 0, 0, none, 0, 0, 0, 0, 0, 0, 0, 0, 0, none, 0, 0, 0, ⟨hb1.celli 0 rfl rfl, hb1.celli 1 rfl rfl, hb1.celli 2 rfl rfl, hb1.celli 3 rfl rfl, hb1.celli 4 rfl rfl, hb1.celli 5 rfl rfl, hb1.celli 6 rfl rfl, hb1.celli 7 rfl rfl, hb1.celli 8 rfl rfl, hb1.celli 9 rfl rfl, hb1.celli 10 rfl rfl, hb1.celli 11 rfl rfl, hb1.celli 12 rfl rfl, hb1.celli 13 rfl rfl, hb1.celli 14 rfl rfl, hb1.celli 15 rfl rfl, trivial⟩, ?_⟩
    have h := h ww119 hx119
    exact h

theorem cachetteref23_Find.go (a1a : Option Addr) (a1n : Nat) (a1c : Nat) (b2a : Option Addr) (b2n : Nat) (b2c : Nat) {R : Value → World → Prop} {w : World} (h : cachetteref23_Find.N a1a a1n a1c b2a b2n b2c R w) : Calls Try.prog 19 #[.slice a1a a1n a1c, .slice b2a b2n b2c] w fun e w' => ∃ v, e = .returned v ∧ R v w' := cachetteref23_Find.ok a1a a1n a1c b2a b2n b2c (cachetteref23_Find.up a1a a1n a1c b2a b2n b2c h)
theorem cachetteref23_Find.run (a1a : Option Addr) (a1n : Nat) (a1c : Nat) (b2a : Option Addr) (b2n : Nat) (b2c : Nat) {V : Value} {Q : World → Prop} {w : World} (h : cachetteref23_Find.N a1a a1n a1c b2a b2n b2c (fun v w' => v = V ∧ Q w') w) : Calls Try.prog 19 #[.slice a1a a1n a1c, .slice b2a b2n b2c] w (Ret V Q) := (cachetteref23_Find.go a1a a1n a1c b2a b2n b2c h).mono fun e w' ⟨v, he, hv, hq⟩ => ⟨by rw [he, hv], hq⟩

/-- cachetteref23.Same -/
def cachetteref23_Same.M (aAWriter1 : Int) (aAIndex2 : Int) (aAPrev3 : Int) (aAAtT4 : Int) (aAAtW5 : Int) (aAEpoch6 : Int) (aABody7a : Option Addr) (aABody7n : Nat) (aABody7c : Nat) (aASig8 : Int) (aBWriter9 : Int) (aBIndex10 : Int) (aBPrev11 : Int) (aBAtT12 : Int) (aBAtW13 : Int) (aBEpoch14 : Int) (aBBody15a : Option Addr) (aBBody15n : Nat) (aBBody15c : Nat) (aBSig16 : Int) (bAWriter17 : Int) (bAIndex18 : Int) (bAPrev19 : Int) (bAAtT20 : Int) (bAAtW21 : Int) (bAEpoch22 : Int) (bABody23a : Option Addr) (bABody23n : Nat) (bABody23c : Nat) (bASig24 : Int) (bBWriter25 : Int) (bBIndex26 : Int) (bBPrev27 : Int) (bBAtT28 : Int) (bBAtW29 : Int) (bBEpoch30 : Int) (bBBody31a : Option Addr) (bBBody31n : Nat) (bBBody31c : Nat) (bBSig32 : Int) (R : Value → World → Prop) (w : World) : Prop :=
  thenW (w.alloc (.cells #[.int .i64 aAWriter1, .int .i64 aAIndex2, .int .u64 aAPrev3, .int .i64 aAAtT4, .int .i64 aAAtW5, .int .i64 aAEpoch6, .slice aABody7a aABody7n aABody7c, .int .u64 aASig8, .int .i64 aBWriter9, .int .i64 aBIndex10, .int .u64 aBPrev11, .int .i64 aBAtT12, .int .i64 aBAtW13, .int .i64 aBEpoch14, .slice aBBody15a aBBody15n aBBody15c, .int .u64 aBSig16] 50)) fun ww33 =>
  thenW (ww33.alloc (.cells #[.int .i64 bAWriter17, .int .i64 bAIndex18, .int .u64 bAPrev19, .int .i64 bAAtT20, .int .i64 bAAtW21, .int .i64 bAEpoch22, .slice bABody23a bABody23n bABody23c, .int .u64 bASig24, .int .i64 bBWriter25, .int .i64 bBIndex26, .int .u64 bBPrev27, .int .i64 bBAtT28, .int .i64 bBAtW29, .int .i64 bBEpoch30, .slice bBBody31a bBBody31n bBBody31c, .int .u64 bBSig32] 50)) fun ww34 =>
  ∃ (AWriter35 : Int) (AIndex36 : Int) (APrev37 : Int) (AAtT38 : Int) (AAtW39 : Int) (AEpoch40 : Int) (ABody41a : Option Addr) (ABody41n : Nat) (ABody41c : Nat) (ASig42 : Int), cellsAt ww34 ((blk w.heap.size).add 0) [.int .i64 AWriter35, .int .i64 AIndex36, .int .u64 APrev37, .int .i64 AAtT38, .int .i64 AAtW39, .int .i64 AEpoch40, .slice ABody41a ABody41n ABody41c, .int .u64 ASig42] 0 ∧
  ∃ (AWriter43 : Int) (AIndex44 : Int) (APrev45 : Int) (AAtT46 : Int) (AAtW47 : Int) (AEpoch48 : Int) (ABody49a : Option Addr) (ABody49n : Nat) (ABody49c : Nat) (ASig50 : Int), cellsAt ww34 ((blk ww33.heap.size).add 0) [.int .i64 AWriter43, .int .i64 AIndex44, .int .u64 APrev45, .int .i64 AAtT46, .int .i64 AAtW47, .int .i64 AEpoch48, .slice ABody49a ABody49n ABody49c, .int .u64 ASig50] 0 ∧
  Calls Try.prog 15 #[.agg #[.int .i64 AWriter35, .int .i64 AIndex36, .int .u64 APrev37, .int .i64 AAtT38, .int .i64 AAtW39, .int .i64 AEpoch40, .slice ABody41a ABody41n ABody41c, .int .u64 ASig42], .agg #[.int .i64 AWriter43, .int .i64 AIndex44, .int .u64 APrev45, .int .i64 AAtT46, .int .i64 AAtW47, .int .i64 AEpoch48, .slice ABody49a ABody49n ABody49c, .int .u64 ASig50]] ww34 fun ee52 ww53 => ∃ (same51 : Bool), ee52 = .returned (.bool same51) ∧
  bif same51 then (
  ∃ (BWriter54 : Int) (BIndex55 : Int) (BPrev56 : Int) (BAtT57 : Int) (BAtW58 : Int) (BEpoch59 : Int) (BBody60a : Option Addr) (BBody60n : Nat) (BBody60c : Nat) (BSig61 : Int), cellsAt ww53 ((blk w.heap.size).add 8) [.int .i64 BWriter54, .int .i64 BIndex55, .int .u64 BPrev56, .int .i64 BAtT57, .int .i64 BAtW58, .int .i64 BEpoch59, .slice BBody60a BBody60n BBody60c, .int .u64 BSig61] 0 ∧
  ∃ (BWriter62 : Int) (BIndex63 : Int) (BPrev64 : Int) (BAtT65 : Int) (BAtW66 : Int) (BEpoch67 : Int) (BBody68a : Option Addr) (BBody68n : Nat) (BBody68c : Nat) (BSig69 : Int), cellsAt ww53 ((blk ww33.heap.size).add 8) [.int .i64 BWriter62, .int .i64 BIndex63, .int .u64 BPrev64, .int .i64 BAtT65, .int .i64 BAtW66, .int .i64 BEpoch67, .slice BBody68a BBody68n BBody68c, .int .u64 BSig69] 0 ∧
  Calls Try.prog 15 #[.agg #[.int .i64 BWriter54, .int .i64 BIndex55, .int .u64 BPrev56, .int .i64 BAtT57, .int .i64 BAtW58, .int .i64 BEpoch59, .slice BBody60a BBody60n BBody60c, .int .u64 BSig61], .agg #[.int .i64 BWriter62, .int .i64 BIndex63, .int .u64 BPrev64, .int .i64 BAtT65, .int .i64 BAtW66, .int .i64 BEpoch67, .slice BBody68a BBody68n BBody68c, .int .u64 BSig69]] ww53 fun ee71 ww72 => ∃ (same70 : Bool), ee71 = .returned (.bool same70) ∧
  R (.bool same70) ww72) else (
  R (.bool false) ww53)

theorem cachetteref23_Same.eq (aAWriter1 : Int) (aAIndex2 : Int) (aAPrev3 : Int) (aAAtT4 : Int) (aAAtW5 : Int) (aAEpoch6 : Int) (aABody7a : Option Addr) (aABody7n : Nat) (aABody7c : Nat) (aASig8 : Int) (aBWriter9 : Int) (aBIndex10 : Int) (aBPrev11 : Int) (aBAtT12 : Int) (aBAtW13 : Int) (aBEpoch14 : Int) (aBBody15a : Option Addr) (aBBody15n : Nat) (aBBody15c : Nat) (aBSig16 : Int) (bAWriter17 : Int) (bAIndex18 : Int) (bAPrev19 : Int) (bAAtT20 : Int) (bAAtW21 : Int) (bAEpoch22 : Int) (bABody23a : Option Addr) (bABody23n : Nat) (bABody23c : Nat) (bASig24 : Int) (bBWriter25 : Int) (bBIndex26 : Int) (bBPrev27 : Int) (bBAtT28 : Int) (bBAtW29 : Int) (bBEpoch30 : Int) (bBBody31a : Option Addr) (bBBody31n : Nat) (bBBody31c : Nat) (bBSig32 : Int) (R : Value → World → Prop) (w : World) : mfunc Try.prog [] 20 [.agg #[.int .i64 aAWriter1, .int .i64 aAIndex2, .int .u64 aAPrev3, .int .i64 aAAtT4, .int .i64 aAAtW5, .int .i64 aAEpoch6, .slice aABody7a aABody7n aABody7c, .int .u64 aASig8, .int .i64 aBWriter9, .int .i64 aBIndex10, .int .u64 aBPrev11, .int .i64 aBAtT12, .int .i64 aBAtW13, .int .i64 aBEpoch14, .slice aBBody15a aBBody15n aBBody15c, .int .u64 aBSig16], .agg #[.int .i64 bAWriter17, .int .i64 bAIndex18, .int .u64 bAPrev19, .int .i64 bAAtT20, .int .i64 bAAtW21, .int .i64 bAEpoch22, .slice bABody23a bABody23n bABody23c, .int .u64 bASig24, .int .i64 bBWriter25, .int .i64 bBIndex26, .int .u64 bBPrev27, .int .i64 bBAtT28, .int .i64 bBAtW29, .int .i64 bBEpoch30, .slice bBBody31a bBBody31n bBBody31c, .int .u64 bBSig32]] R w = cachetteref23_Same.M aAWriter1 aAIndex2 aAPrev3 aAAtT4 aAAtW5 aAEpoch6 aABody7a aABody7n aABody7c aASig8 aBWriter9 aBIndex10 aBPrev11 aBAtT12 aBAtW13 aBEpoch14 aBBody15a aBBody15n aBBody15c aBSig16 bAWriter17 bAIndex18 bAPrev19 bAAtT20 bAAtW21 bAEpoch22 bABody23a bABody23n bABody23c bASig24 bBWriter25 bBIndex26 bBPrev27 bBAtT28 bBAtW29 bBEpoch30 bBBody31a bBBody31n bBBody31c bBSig32 R w := by kernel_rfl
theorem cachetteref23_Same.ok (aAWriter1 : Int) (aAIndex2 : Int) (aAPrev3 : Int) (aAAtT4 : Int) (aAAtW5 : Int) (aAEpoch6 : Int) (aABody7a : Option Addr) (aABody7n : Nat) (aABody7c : Nat) (aASig8 : Int) (aBWriter9 : Int) (aBIndex10 : Int) (aBPrev11 : Int) (aBAtT12 : Int) (aBAtW13 : Int) (aBEpoch14 : Int) (aBBody15a : Option Addr) (aBBody15n : Nat) (aBBody15c : Nat) (aBSig16 : Int) (bAWriter17 : Int) (bAIndex18 : Int) (bAPrev19 : Int) (bAAtT20 : Int) (bAAtW21 : Int) (bAEpoch22 : Int) (bABody23a : Option Addr) (bABody23n : Nat) (bABody23c : Nat) (bASig24 : Int) (bBWriter25 : Int) (bBIndex26 : Int) (bBPrev27 : Int) (bBAtT28 : Int) (bBAtW29 : Int) (bBEpoch30 : Int) (bBBody31a : Option Addr) (bBBody31n : Nat) (bBBody31c : Nat) (bBSig32 : Int) {R : Value → World → Prop} {w : World} (h : cachetteref23_Same.M aAWriter1 aAIndex2 aAPrev3 aAAtT4 aAAtW5 aAEpoch6 aABody7a aABody7n aABody7c aASig8 aBWriter9 aBIndex10 aBPrev11 aBAtT12 aBAtW13 aBEpoch14 aBBody15a aBBody15n aBBody15c aBSig16 bAWriter17 bAIndex18 bAPrev19 bAAtT20 bAAtW21 bAEpoch22 bABody23a bABody23n bABody23c bASig24 bBWriter25 bBIndex26 bBPrev27 bBAtT28 bBAtW29 bBEpoch30 bBBody31a bBBody31n bBBody31c bBSig32 R w) : Calls Try.prog 20 #[.agg #[.int .i64 aAWriter1, .int .i64 aAIndex2, .int .u64 aAPrev3, .int .i64 aAAtT4, .int .i64 aAAtW5, .int .i64 aAEpoch6, .slice aABody7a aABody7n aABody7c, .int .u64 aASig8, .int .i64 aBWriter9, .int .i64 aBIndex10, .int .u64 aBPrev11, .int .i64 aBAtT12, .int .i64 aBAtW13, .int .i64 aBEpoch14, .slice aBBody15a aBBody15n aBBody15c, .int .u64 aBSig16], .agg #[.int .i64 bAWriter17, .int .i64 bAIndex18, .int .u64 bAPrev19, .int .i64 bAAtT20, .int .i64 bAAtW21, .int .i64 bAEpoch22, .slice bABody23a bABody23n bABody23c, .int .u64 bASig24, .int .i64 bBWriter25, .int .i64 bBIndex26, .int .u64 bBPrev27, .int .i64 bBAtT28, .int .i64 bBAtW29, .int .i64 bBEpoch30, .slice bBBody31a bBBody31n bBBody31c, .int .u64 bBSig32]] w fun e w' => ∃ v, e = .returned v ∧ R v w' :=
  mfunc_ok follows (H := []) (args := [.agg #[.int .i64 aAWriter1, .int .i64 aAIndex2, .int .u64 aAPrev3, .int .i64 aAAtT4, .int .i64 aAAtW5, .int .i64 aAEpoch6, .slice aABody7a aABody7n aABody7c, .int .u64 aASig8, .int .i64 aBWriter9, .int .i64 aBIndex10, .int .u64 aBPrev11, .int .i64 aBAtT12, .int .i64 aBAtW13, .int .i64 aBEpoch14, .slice aBBody15a aBBody15n aBBody15c, .int .u64 aBSig16], .agg #[.int .i64 bAWriter17, .int .i64 bAIndex18, .int .u64 bAPrev19, .int .i64 bAAtT20, .int .i64 bAAtW21, .int .i64 bAEpoch22, .slice bABody23a bABody23n bABody23c, .int .u64 bASig24, .int .i64 bBWriter25, .int .i64 bBIndex26, .int .u64 bBPrev27, .int .i64 bBAtT28, .int .i64 bBAtW29, .int .i64 bBEpoch30, .slice bBBody31a bBBody31n bBBody31c, .int .u64 bBSig32]]) (by rw [cachetteref23_Same.eq]; exact h)

def cachetteref23_Same.N (aAWriter1 : Int) (aAIndex2 : Int) (aAPrev3 : Int) (aAAtT4 : Int) (aAAtW5 : Int) (aAEpoch6 : Int) (aABody7a : Option Addr) (aABody7n : Nat) (aABody7c : Nat) (aASig8 : Int) (aBWriter9 : Int) (aBIndex10 : Int) (aBPrev11 : Int) (aBAtT12 : Int) (aBAtW13 : Int) (aBEpoch14 : Int) (aBBody15a : Option Addr) (aBBody15n : Nat) (aBBody15c : Nat) (aBSig16 : Int) (bAWriter17 : Int) (bAIndex18 : Int) (bAPrev19 : Int) (bAAtT20 : Int) (bAAtW21 : Int) (bAEpoch22 : Int) (bABody23a : Option Addr) (bABody23n : Nat) (bABody23c : Nat) (bASig24 : Int) (bBWriter25 : Int) (bBIndex26 : Int) (bBPrev27 : Int) (bBAtT28 : Int) (bBAtW29 : Int) (bBEpoch30 : Int) (bBBody31a : Option Addr) (bBBody31n : Nat) (bBBody31c : Nat) (bBSig32 : Int) (R : Value → World → Prop) (w : World) : Prop :=
  ∀ (ww34 : World) (p35 : Nat) (p36 : Nat), Ext no w ww34 → Priv w ww34 [p35, p36] →
  Calls Try.prog 15 #[.agg #[.int .i64 aAWriter1, .int .i64 aAIndex2, .int .u64 aAPrev3, .int .i64 aAAtT4, .int .i64 aAAtW5, .int .i64 aAEpoch6, .slice aABody7a aABody7n aABody7c, .int .u64 aASig8], .agg #[.int .i64 bAWriter17, .int .i64 bAIndex18, .int .u64 bAPrev19, .int .i64 bAAtT20, .int .i64 bAAtW21, .int .i64 bAEpoch22, .slice bABody23a bABody23n bABody23c, .int .u64 bASig24]] ww34 fun ee38 ww39 => ∃ (same37 : Bool), ee38 = .returned (.bool same37) ∧
  Keep [p35, p36] ww34 ww39 ∧
  (same37 = true →
    Calls Try.prog 15 #[.agg #[.int .i64 aBWriter9, .int .i64 aBIndex10, .int .u64 aBPrev11, .int .i64 aBAtT12, .int .i64 aBAtW13, .int .i64 aBEpoch14, .slice aBBody15a aBBody15n aBBody15c, .int .u64 aBSig16], .agg #[.int .i64 bBWriter25, .int .i64 bBIndex26, .int .u64 bBPrev27, .int .i64 bBAtT28, .int .i64 bBAtW29, .int .i64 bBEpoch30, .slice bBBody31a bBBody31n bBBody31c, .int .u64 bBSig32]] ww39 fun ee42 ww43 => ∃ (same41 : Bool), ee42 = .returned (.bool same41) ∧
    R (.bool same41) ww43) ∧
  (same37 = false →
    R (.bool false) ww39)

theorem cachetteref23_Same.up (aAWriter1 : Int) (aAIndex2 : Int) (aAPrev3 : Int) (aAAtT4 : Int) (aAAtW5 : Int) (aAEpoch6 : Int) (aABody7a : Option Addr) (aABody7n : Nat) (aABody7c : Nat) (aASig8 : Int) (aBWriter9 : Int) (aBIndex10 : Int) (aBPrev11 : Int) (aBAtT12 : Int) (aBAtW13 : Int) (aBEpoch14 : Int) (aBBody15a : Option Addr) (aBBody15n : Nat) (aBBody15c : Nat) (aBSig16 : Int) (bAWriter17 : Int) (bAIndex18 : Int) (bAPrev19 : Int) (bAAtT20 : Int) (bAAtW21 : Int) (bAEpoch22 : Int) (bABody23a : Option Addr) (bABody23n : Nat) (bABody23c : Nat) (bASig24 : Int) (bBWriter25 : Int) (bBIndex26 : Int) (bBPrev27 : Int) (bBAtT28 : Int) (bBAtW29 : Int) (bBEpoch30 : Int) (bBBody31a : Option Addr) (bBBody31n : Nat) (bBBody31c : Nat) (bBSig32 : Int) {R : Value → World → Prop} {w : World} (h : cachetteref23_Same.N aAWriter1 aAIndex2 aAPrev3 aAAtT4 aAAtW5 aAEpoch6 aABody7a aABody7n aABody7c aASig8 aBWriter9 aBIndex10 aBPrev11 aBAtT12 aBAtW13 aBEpoch14 aBBody15a aBBody15n aBBody15c aBSig16 bAWriter17 bAIndex18 bAPrev19 bAAtT20 bAAtW21 bAEpoch22 bABody23a bABody23n bABody23c bASig24 bBWriter25 bBIndex26 bBPrev27 bBAtT28 bBAtW29 bBEpoch30 bBBody31a bBBody31n bBBody31c bBSig32 R w) : cachetteref23_Same.M aAWriter1 aAIndex2 aAPrev3 aAAtT4 aAAtW5 aAEpoch6 aABody7a aABody7n aABody7c aASig8 aBWriter9 aBIndex10 aBPrev11 aBAtT12 aBAtW13 aBEpoch14 aBBody15a aBBody15n aBBody15c aBSig16 bAWriter17 bAIndex18 bAPrev19 bAAtT20 bAAtW21 bAEpoch22 bABody23a bABody23n bABody23c bASig24 bBWriter25 bBIndex26 bBPrev27 bBAtT28 bBAtW29 bBEpoch30 bBBody31a bBBody31n bBBody31c bBSig32 R w := by
  unfold cachetteref23_Same.M
  unfold cachetteref23_Same.N at h
  refine thenW_in fun ww33 e33 => ?_
  have hb1 := Blk.of_new e33
  have hg1 := ((Ext.refl no w)).size
  have hx33 := (Ext.refl no w).x_alloc e33
  refine thenW_in fun ww34 e34 => ?_
  have hb2 := Blk.of_new e34
  have hg2 := (hx33).size
  have hb1_2 := Nat.ne_of_lt hb1.lt
  have hb1 := hb1.x_alloc e34
  have hx34 := hx33.x_alloc e34
  refine ⟨aAWriter1, aAIndex2, aAPrev3, aAAtT4, aAAtW5, aAEpoch6, aABody7a, aABody7n, aABody7c, aASig8, ⟨hb1.celli 0 rfl rfl, hb1.celli 1 rfl rfl, hb1.celli 2 rfl rfl, hb1.celli 3 rfl rfl, hb1.celli 4 rfl rfl, hb1.celli 5 rfl rfl, hb1.celli 6 rfl rfl, hb1.celli 7 rfl rfl, trivial⟩, ?_⟩
  refine ⟨bAWriter17, bAIndex18, bAPrev19, bAAtT20, bAAtW21, bAEpoch22, bABody23a, bABody23n, bABody23c, bASig24, ⟨hb2.celli 0 rfl rfl, hb2.celli 1 rfl rfl, hb2.celli 2 rfl rfl, hb2.celli 3 rfl rfl, hb2.celli 4 rfl rfl, hb2.celli 5 rfl rfl, hb2.celli 6 rfl rfl, hb2.celli 7 rfl rfl, trivial⟩, ?_⟩
  have h := h ww34 (w.heap.size) (ww33.heap.size) hx34 (Priv.cons hg1 hb1.lt (Priv.cons hg2 hb2.lt Priv.nil))
  refine h.mono fun ee38 ww39 h => ?_
  obtain ⟨same37, he, hk, h⟩ := h
  refine ⟨same37, he, ?_⟩
  have hb1 := hk.blk hb1 (by simp)
  have hb2 := hk.blk hb2 (by simp)
  refine bif_of (fun c40 => ?_) (fun c40 => ?_)
  · have h := h.1 c40
    refine ⟨aBWriter9, aBIndex10, aBPrev11, aBAtT12, aBAtW13, aBEpoch14, aBBody15a, aBBody15n, aBBody15c, aBSig16, ⟨hb1.celli 8 rfl rfl, hb1.celli 9 rfl rfl, hb1.celli 10 rfl rfl, hb1.celli 11 rfl rfl, hb1.celli 12 rfl rfl, hb1.celli 13 rfl rfl, hb1.celli 14 rfl rfl, hb1.celli 15 rfl rfl, trivial⟩, ?_⟩
    refine ⟨bBWriter25, bBIndex26, bBPrev27, bBAtT28, bBAtW29, bBEpoch30, bBBody31a, bBBody31n, bBBody31c, bBSig32, ⟨hb2.celli 8 rfl rfl, hb2.celli 9 rfl rfl, hb2.celli 10 rfl rfl, hb2.celli 11 rfl rfl, hb2.celli 12 rfl rfl, hb2.celli 13 rfl rfl, hb2.celli 14 rfl rfl, hb2.celli 15 rfl rfl, trivial⟩, ?_⟩
    refine h.mono fun ee42 ww43 h => ?_
    obtain ⟨same41, he, h⟩ := h
    refine ⟨same41, he, ?_⟩
    exact h
  · have h := h.2 c40
    exact h

theorem cachetteref23_Same.go (aAWriter1 : Int) (aAIndex2 : Int) (aAPrev3 : Int) (aAAtT4 : Int) (aAAtW5 : Int) (aAEpoch6 : Int) (aABody7a : Option Addr) (aABody7n : Nat) (aABody7c : Nat) (aASig8 : Int) (aBWriter9 : Int) (aBIndex10 : Int) (aBPrev11 : Int) (aBAtT12 : Int) (aBAtW13 : Int) (aBEpoch14 : Int) (aBBody15a : Option Addr) (aBBody15n : Nat) (aBBody15c : Nat) (aBSig16 : Int) (bAWriter17 : Int) (bAIndex18 : Int) (bAPrev19 : Int) (bAAtT20 : Int) (bAAtW21 : Int) (bAEpoch22 : Int) (bABody23a : Option Addr) (bABody23n : Nat) (bABody23c : Nat) (bASig24 : Int) (bBWriter25 : Int) (bBIndex26 : Int) (bBPrev27 : Int) (bBAtT28 : Int) (bBAtW29 : Int) (bBEpoch30 : Int) (bBBody31a : Option Addr) (bBBody31n : Nat) (bBBody31c : Nat) (bBSig32 : Int) {R : Value → World → Prop} {w : World} (h : cachetteref23_Same.N aAWriter1 aAIndex2 aAPrev3 aAAtT4 aAAtW5 aAEpoch6 aABody7a aABody7n aABody7c aASig8 aBWriter9 aBIndex10 aBPrev11 aBAtT12 aBAtW13 aBEpoch14 aBBody15a aBBody15n aBBody15c aBSig16 bAWriter17 bAIndex18 bAPrev19 bAAtT20 bAAtW21 bAEpoch22 bABody23a bABody23n bABody23c bASig24 bBWriter25 bBIndex26 bBPrev27 bBAtT28 bBAtW29 bBEpoch30 bBBody31a bBBody31n bBBody31c bBSig32 R w) : Calls Try.prog 20 #[.agg #[.int .i64 aAWriter1, .int .i64 aAIndex2, .int .u64 aAPrev3, .int .i64 aAAtT4, .int .i64 aAAtW5, .int .i64 aAEpoch6, .slice aABody7a aABody7n aABody7c, .int .u64 aASig8, .int .i64 aBWriter9, .int .i64 aBIndex10, .int .u64 aBPrev11, .int .i64 aBAtT12, .int .i64 aBAtW13, .int .i64 aBEpoch14, .slice aBBody15a aBBody15n aBBody15c, .int .u64 aBSig16], .agg #[.int .i64 bAWriter17, .int .i64 bAIndex18, .int .u64 bAPrev19, .int .i64 bAAtT20, .int .i64 bAAtW21, .int .i64 bAEpoch22, .slice bABody23a bABody23n bABody23c, .int .u64 bASig24, .int .i64 bBWriter25, .int .i64 bBIndex26, .int .u64 bBPrev27, .int .i64 bBAtT28, .int .i64 bBAtW29, .int .i64 bBEpoch30, .slice bBBody31a bBBody31n bBBody31c, .int .u64 bBSig32]] w fun e w' => ∃ v, e = .returned v ∧ R v w' := cachetteref23_Same.ok aAWriter1 aAIndex2 aAPrev3 aAAtT4 aAAtW5 aAEpoch6 aABody7a aABody7n aABody7c aASig8 aBWriter9 aBIndex10 aBPrev11 aBAtT12 aBAtW13 aBEpoch14 aBBody15a aBBody15n aBBody15c aBSig16 bAWriter17 bAIndex18 bAPrev19 bAAtT20 bAAtW21 bAEpoch22 bABody23a bABody23n bABody23c bASig24 bBWriter25 bBIndex26 bBPrev27 bBAtT28 bBAtW29 bBEpoch30 bBBody31a bBBody31n bBBody31c bBSig32 (cachetteref23_Same.up aAWriter1 aAIndex2 aAPrev3 aAAtT4 aAAtW5 aAEpoch6 aABody7a aABody7n aABody7c aASig8 aBWriter9 aBIndex10 aBPrev11 aBAtT12 aBAtW13 aBEpoch14 aBBody15a aBBody15n aBBody15c aBSig16 bAWriter17 bAIndex18 bAPrev19 bAAtT20 bAAtW21 bAEpoch22 bABody23a bABody23n bABody23c bASig24 bBWriter25 bBIndex26 bBPrev27 bBAtT28 bBAtW29 bBEpoch30 bBBody31a bBBody31n bBBody31c bBSig32 h)
theorem cachetteref23_Same.run (aAWriter1 : Int) (aAIndex2 : Int) (aAPrev3 : Int) (aAAtT4 : Int) (aAAtW5 : Int) (aAEpoch6 : Int) (aABody7a : Option Addr) (aABody7n : Nat) (aABody7c : Nat) (aASig8 : Int) (aBWriter9 : Int) (aBIndex10 : Int) (aBPrev11 : Int) (aBAtT12 : Int) (aBAtW13 : Int) (aBEpoch14 : Int) (aBBody15a : Option Addr) (aBBody15n : Nat) (aBBody15c : Nat) (aBSig16 : Int) (bAWriter17 : Int) (bAIndex18 : Int) (bAPrev19 : Int) (bAAtT20 : Int) (bAAtW21 : Int) (bAEpoch22 : Int) (bABody23a : Option Addr) (bABody23n : Nat) (bABody23c : Nat) (bASig24 : Int) (bBWriter25 : Int) (bBIndex26 : Int) (bBPrev27 : Int) (bBAtT28 : Int) (bBAtW29 : Int) (bBEpoch30 : Int) (bBBody31a : Option Addr) (bBBody31n : Nat) (bBBody31c : Nat) (bBSig32 : Int) {V : Value} {Q : World → Prop} {w : World} (h : cachetteref23_Same.N aAWriter1 aAIndex2 aAPrev3 aAAtT4 aAAtW5 aAEpoch6 aABody7a aABody7n aABody7c aASig8 aBWriter9 aBIndex10 aBPrev11 aBAtT12 aBAtW13 aBEpoch14 aBBody15a aBBody15n aBBody15c aBSig16 bAWriter17 bAIndex18 bAPrev19 bAAtT20 bAAtW21 bAEpoch22 bABody23a bABody23n bABody23c bASig24 bBWriter25 bBIndex26 bBPrev27 bBAtT28 bBAtW29 bBEpoch30 bBBody31a bBBody31n bBBody31c bBSig32 (fun v w' => v = V ∧ Q w') w) : Calls Try.prog 20 #[.agg #[.int .i64 aAWriter1, .int .i64 aAIndex2, .int .u64 aAPrev3, .int .i64 aAAtT4, .int .i64 aAAtW5, .int .i64 aAEpoch6, .slice aABody7a aABody7n aABody7c, .int .u64 aASig8, .int .i64 aBWriter9, .int .i64 aBIndex10, .int .u64 aBPrev11, .int .i64 aBAtT12, .int .i64 aBAtW13, .int .i64 aBEpoch14, .slice aBBody15a aBBody15n aBBody15c, .int .u64 aBSig16], .agg #[.int .i64 bAWriter17, .int .i64 bAIndex18, .int .u64 bAPrev19, .int .i64 bAAtT20, .int .i64 bAAtW21, .int .i64 bAEpoch22, .slice bABody23a bABody23n bABody23c, .int .u64 bASig24, .int .i64 bBWriter25, .int .i64 bBIndex26, .int .u64 bBPrev27, .int .i64 bBAtT28, .int .i64 bBAtW29, .int .i64 bBEpoch30, .slice bBBody31a bBBody31n bBBody31c, .int .u64 bBSig32]] w (Ret V Q) := (cachetteref23_Same.go aAWriter1 aAIndex2 aAPrev3 aAAtT4 aAAtW5 aAEpoch6 aABody7a aABody7n aABody7c aASig8 aBWriter9 aBIndex10 aBPrev11 aBAtT12 aBAtW13 aBEpoch14 aBBody15a aBBody15n aBBody15c aBSig16 bAWriter17 bAIndex18 bAPrev19 bAAtT20 bAAtW21 bAEpoch22 bABody23a bABody23n bABody23c bASig24 bBWriter25 bBIndex26 bBPrev27 bBAtT28 bBAtW29 bBEpoch30 bBBody31a bBBody31n bBBody31c bBSig32 h).mono fun e w' ⟨v, he, hv, hq⟩ => ⟨by rw [he, hv], hq⟩

/-- cachettelaw23.back -/
def cachettelaw23_back.M (pAWriter1 : Int) (pAIndex2 : Int) (pAPrev3 : Int) (pAAtT4 : Int) (pAAtW5 : Int) (pAEpoch6 : Int) (pABody7a : Option Addr) (pABody7n : Nat) (pABody7c : Nat) (pASig8 : Int) (pBWriter9 : Int) (pBIndex10 : Int) (pBPrev11 : Int) (pBAtT12 : Int) (pBAtW13 : Int) (pBEpoch14 : Int) (pBBody15a : Option Addr) (pBBody15n : Nat) (pBBody15c : Nat) (pBSig16 : Int) (R : Value → World → Prop) (w : World) : Prop :=
  thenW (w.alloc (.cells #[.int .i64 pAWriter1, .int .i64 pAIndex2, .int .u64 pAPrev3, .int .i64 pAAtT4, .int .i64 pAAtW5, .int .i64 pAEpoch6, .slice pABody7a pABody7n pABody7c, .int .u64 pASig8, .int .i64 pBWriter9, .int .i64 pBIndex10, .int .u64 pBPrev11, .int .i64 pBAtT12, .int .i64 pBAtW13, .int .i64 pBEpoch14, .slice pBBody15a pBBody15n pBBody15c, .int .u64 pBSig16] 48)) fun ww17 =>
  thenW (ww17.alloc (.cells #[.int .i64 0, .int .i64 0, .int .u64 0, .int .i64 0, .int .i64 0, .int .i64 0, .slice none 0 0, .int .u64 0, .int .i64 0, .int .i64 0, .int .u64 0, .int .i64 0, .int .i64 0, .int .i64 0, .slice none 0 0, .int .u64 0] 50)) fun ww18 =>
  ∃ (AWriter19 : Int) (AIndex20 : Int) (APrev21 : Int) (AAtT22 : Int) (AAtW23 : Int) (AEpoch24 : Int) (ABody25a : Option Addr) (ABody25n : Nat) (ABody25c : Nat) (ASig26 : Int), cellsAt ww18 ((blk w.heap.size).add 0) [.int .i64 AWriter19, .int .i64 AIndex20, .int .u64 APrev21, .int .i64 AAtT22, .int .i64 AAtW23, .int .i64 AEpoch24, .slice ABody25a ABody25n ABody25c, .int .u64 ASig26] 0 ∧
  ∃ (BWriter27 : Int) (BIndex28 : Int) (BPrev29 : Int) (BAtT30 : Int) (BAtW31 : Int) (BEpoch32 : Int) (BBody33a : Option Addr) (BBody33n : Nat) (BBody33c : Nat) (BSig34 : Int), cellsAt ww18 ((blk w.heap.size).add 8) [.int .i64 BWriter27, .int .i64 BIndex28, .int .u64 BPrev29, .int .i64 BAtT30, .int .i64 BAtW31, .int .i64 BEpoch32, .slice BBody33a BBody33n BBody33c, .int .u64 BSig34] 0 ∧
  canStore ww18 ((blk ww17.heap.size).add 0) ∧
  thenW (ww18.setCell ((blk ww17.heap.size).add 0) (.int .i64 AWriter19)) fun ww35 =>
  canStore ww35 ((blk ww17.heap.size).add 1) ∧
  thenW (ww35.setCell ((blk ww17.heap.size).add 1) (.int .i64 AIndex20)) fun ww36 =>
  canStore ww36 ((blk ww17.heap.size).add 2) ∧
  thenW (ww36.setCell ((blk ww17.heap.size).add 2) (.int .u64 APrev21)) fun ww37 =>
  canStore ww37 ((blk ww17.heap.size).add 3) ∧
  thenW (ww37.setCell ((blk ww17.heap.size).add 3) (.int .i64 AAtT22)) fun ww38 =>
  canStore ww38 ((blk ww17.heap.size).add 4) ∧
  thenW (ww38.setCell ((blk ww17.heap.size).add 4) (.int .i64 AAtW23)) fun ww39 =>
  canStore ww39 ((blk ww17.heap.size).add 5) ∧
  thenW (ww39.setCell ((blk ww17.heap.size).add 5) (.int .i64 AEpoch24)) fun ww40 =>
  canStore ww40 ((blk ww17.heap.size).add 6) ∧
  thenW (ww40.setCell ((blk ww17.heap.size).add 6) (.slice ABody25a ABody25n ABody25c)) fun ww41 =>
  canStore ww41 ((blk ww17.heap.size).add 7) ∧
  thenW (ww41.setCell ((blk ww17.heap.size).add 7) (.int .u64 ASig26)) fun ww42 =>
  canStore ww42 ((blk ww17.heap.size).add 8) ∧
  thenW (ww42.setCell ((blk ww17.heap.size).add 8) (.int .i64 BWriter27)) fun ww43 =>
  canStore ww43 ((blk ww17.heap.size).add 9) ∧
  thenW (ww43.setCell ((blk ww17.heap.size).add 9) (.int .i64 BIndex28)) fun ww44 =>
  canStore ww44 ((blk ww17.heap.size).add 10) ∧
  thenW (ww44.setCell ((blk ww17.heap.size).add 10) (.int .u64 BPrev29)) fun ww45 =>
  canStore ww45 ((blk ww17.heap.size).add 11) ∧
  thenW (ww45.setCell ((blk ww17.heap.size).add 11) (.int .i64 BAtT30)) fun ww46 =>
  canStore ww46 ((blk ww17.heap.size).add 12) ∧
  thenW (ww46.setCell ((blk ww17.heap.size).add 12) (.int .i64 BAtW31)) fun ww47 =>
  canStore ww47 ((blk ww17.heap.size).add 13) ∧
  thenW (ww47.setCell ((blk ww17.heap.size).add 13) (.int .i64 BEpoch32)) fun ww48 =>
  canStore ww48 ((blk ww17.heap.size).add 14) ∧
  thenW (ww48.setCell ((blk ww17.heap.size).add 14) (.slice BBody33a BBody33n BBody33c)) fun ww49 =>
  canStore ww49 ((blk ww17.heap.size).add 15) ∧
  thenW (ww49.setCell ((blk ww17.heap.size).add 15) (.int .u64 BSig34)) fun ww50 =>
  ∃ (resAWriter51 : Int) (resAIndex52 : Int) (resAPrev53 : Int) (resAAtT54 : Int) (resAAtW55 : Int) (resAEpoch56 : Int) (resABody57a : Option Addr) (resABody57n : Nat) (resABody57c : Nat) (resASig58 : Int) (resBWriter59 : Int) (resBIndex60 : Int) (resBPrev61 : Int) (resBAtT62 : Int) (resBAtW63 : Int) (resBEpoch64 : Int) (resBBody65a : Option Addr) (resBBody65n : Nat) (resBBody65c : Nat) (resBSig66 : Int), cellsAt ww50 (blk ww17.heap.size) [.int .i64 resAWriter51, .int .i64 resAIndex52, .int .u64 resAPrev53, .int .i64 resAAtT54, .int .i64 resAAtW55, .int .i64 resAEpoch56, .slice resABody57a resABody57n resABody57c, .int .u64 resASig58, .int .i64 resBWriter59, .int .i64 resBIndex60, .int .u64 resBPrev61, .int .i64 resBAtT62, .int .i64 resBAtW63, .int .i64 resBEpoch64, .slice resBBody65a resBBody65n resBBody65c, .int .u64 resBSig66] 0 ∧
  R (.agg #[.int .i64 resAWriter51, .int .i64 resAIndex52, .int .u64 resAPrev53, .int .i64 resAAtT54, .int .i64 resAAtW55, .int .i64 resAEpoch56, .slice resABody57a resABody57n resABody57c, .int .u64 resASig58, .int .i64 resBWriter59, .int .i64 resBIndex60, .int .u64 resBPrev61, .int .i64 resBAtT62, .int .i64 resBAtW63, .int .i64 resBEpoch64, .slice resBBody65a resBBody65n resBBody65c, .int .u64 resBSig66]) ww50

theorem cachettelaw23_back.eq (pAWriter1 : Int) (pAIndex2 : Int) (pAPrev3 : Int) (pAAtT4 : Int) (pAAtW5 : Int) (pAEpoch6 : Int) (pABody7a : Option Addr) (pABody7n : Nat) (pABody7c : Nat) (pASig8 : Int) (pBWriter9 : Int) (pBIndex10 : Int) (pBPrev11 : Int) (pBAtT12 : Int) (pBAtW13 : Int) (pBEpoch14 : Int) (pBBody15a : Option Addr) (pBBody15n : Nat) (pBBody15c : Nat) (pBSig16 : Int) (R : Value → World → Prop) (w : World) : mfunc Try.prog [] 21 [.agg #[.int .i64 pAWriter1, .int .i64 pAIndex2, .int .u64 pAPrev3, .int .i64 pAAtT4, .int .i64 pAAtW5, .int .i64 pAEpoch6, .slice pABody7a pABody7n pABody7c, .int .u64 pASig8, .int .i64 pBWriter9, .int .i64 pBIndex10, .int .u64 pBPrev11, .int .i64 pBAtT12, .int .i64 pBAtW13, .int .i64 pBEpoch14, .slice pBBody15a pBBody15n pBBody15c, .int .u64 pBSig16]] R w = cachettelaw23_back.M pAWriter1 pAIndex2 pAPrev3 pAAtT4 pAAtW5 pAEpoch6 pABody7a pABody7n pABody7c pASig8 pBWriter9 pBIndex10 pBPrev11 pBAtT12 pBAtW13 pBEpoch14 pBBody15a pBBody15n pBBody15c pBSig16 R w := by kernel_rfl
theorem cachettelaw23_back.ok (pAWriter1 : Int) (pAIndex2 : Int) (pAPrev3 : Int) (pAAtT4 : Int) (pAAtW5 : Int) (pAEpoch6 : Int) (pABody7a : Option Addr) (pABody7n : Nat) (pABody7c : Nat) (pASig8 : Int) (pBWriter9 : Int) (pBIndex10 : Int) (pBPrev11 : Int) (pBAtT12 : Int) (pBAtW13 : Int) (pBEpoch14 : Int) (pBBody15a : Option Addr) (pBBody15n : Nat) (pBBody15c : Nat) (pBSig16 : Int) {R : Value → World → Prop} {w : World} (h : cachettelaw23_back.M pAWriter1 pAIndex2 pAPrev3 pAAtT4 pAAtW5 pAEpoch6 pABody7a pABody7n pABody7c pASig8 pBWriter9 pBIndex10 pBPrev11 pBAtT12 pBAtW13 pBEpoch14 pBBody15a pBBody15n pBBody15c pBSig16 R w) : Calls Try.prog 21 #[.agg #[.int .i64 pAWriter1, .int .i64 pAIndex2, .int .u64 pAPrev3, .int .i64 pAAtT4, .int .i64 pAAtW5, .int .i64 pAEpoch6, .slice pABody7a pABody7n pABody7c, .int .u64 pASig8, .int .i64 pBWriter9, .int .i64 pBIndex10, .int .u64 pBPrev11, .int .i64 pBAtT12, .int .i64 pBAtW13, .int .i64 pBEpoch14, .slice pBBody15a pBBody15n pBBody15c, .int .u64 pBSig16]] w fun e w' => ∃ v, e = .returned v ∧ R v w' :=
  mfunc_ok follows (H := []) (args := [.agg #[.int .i64 pAWriter1, .int .i64 pAIndex2, .int .u64 pAPrev3, .int .i64 pAAtT4, .int .i64 pAAtW5, .int .i64 pAEpoch6, .slice pABody7a pABody7n pABody7c, .int .u64 pASig8, .int .i64 pBWriter9, .int .i64 pBIndex10, .int .u64 pBPrev11, .int .i64 pBAtT12, .int .i64 pBAtW13, .int .i64 pBEpoch14, .slice pBBody15a pBBody15n pBBody15c, .int .u64 pBSig16]]) (by rw [cachettelaw23_back.eq]; exact h)

def cachettelaw23_back.N (pAWriter1 : Int) (pAIndex2 : Int) (pAPrev3 : Int) (pAAtT4 : Int) (pAAtW5 : Int) (pAEpoch6 : Int) (pABody7a : Option Addr) (pABody7n : Nat) (pABody7c : Nat) (pASig8 : Int) (pBWriter9 : Int) (pBIndex10 : Int) (pBPrev11 : Int) (pBAtT12 : Int) (pBAtW13 : Int) (pBEpoch14 : Int) (pBBody15a : Option Addr) (pBBody15n : Nat) (pBBody15c : Nat) (pBSig16 : Int) (R : Value → World → Prop) (w : World) : Prop :=
  ∀ (ww34 : World), Ext no w ww34 →
  R (.agg #[.int .i64 pAWriter1, .int .i64 pAIndex2, .int .u64 pAPrev3, .int .i64 pAAtT4, .int .i64 pAAtW5, .int .i64 pAEpoch6, .slice pABody7a pABody7n pABody7c, .int .u64 pASig8, .int .i64 pBWriter9, .int .i64 pBIndex10, .int .u64 pBPrev11, .int .i64 pBAtT12, .int .i64 pBAtW13, .int .i64 pBEpoch14, .slice pBBody15a pBBody15n pBBody15c, .int .u64 pBSig16]) ww34

theorem cachettelaw23_back.up (pAWriter1 : Int) (pAIndex2 : Int) (pAPrev3 : Int) (pAAtT4 : Int) (pAAtW5 : Int) (pAEpoch6 : Int) (pABody7a : Option Addr) (pABody7n : Nat) (pABody7c : Nat) (pASig8 : Int) (pBWriter9 : Int) (pBIndex10 : Int) (pBPrev11 : Int) (pBAtT12 : Int) (pBAtW13 : Int) (pBEpoch14 : Int) (pBBody15a : Option Addr) (pBBody15n : Nat) (pBBody15c : Nat) (pBSig16 : Int) {R : Value → World → Prop} {w : World} (h : cachettelaw23_back.N pAWriter1 pAIndex2 pAPrev3 pAAtT4 pAAtW5 pAEpoch6 pABody7a pABody7n pABody7c pASig8 pBWriter9 pBIndex10 pBPrev11 pBAtT12 pBAtW13 pBEpoch14 pBBody15a pBBody15n pBBody15c pBSig16 R w) : cachettelaw23_back.M pAWriter1 pAIndex2 pAPrev3 pAAtT4 pAAtW5 pAEpoch6 pABody7a pABody7n pABody7c pASig8 pBWriter9 pBIndex10 pBPrev11 pBAtT12 pBAtW13 pBEpoch14 pBBody15a pBBody15n pBBody15c pBSig16 R w := by
  unfold cachettelaw23_back.M
  unfold cachettelaw23_back.N at h
  refine thenW_in fun ww17 e17 => ?_
  have hb1 := Blk.of_new e17
  have hg1 := ((Ext.refl no w)).size
  have hx17 := (Ext.refl no w).x_alloc e17
  refine thenW_in fun ww18 e18 => ?_
  have hb2 := Blk.of_new e18
  have hg2 := (hx17).size
  have hb1_2 := Nat.ne_of_lt hb1.lt
  have hb1 := hb1.x_alloc e18
  have hx18 := hx17.x_alloc e18
  refine ⟨pAWriter1, pAIndex2, pAPrev3, pAAtT4, pAAtW5, pAEpoch6, pABody7a, pABody7n, pABody7c, pASig8, ⟨hb1.celli 0 rfl rfl, hb1.celli 1 rfl rfl, hb1.celli 2 rfl rfl, hb1.celli 3 rfl rfl, hb1.celli 4 rfl rfl, hb1.celli 5 rfl rfl, hb1.celli 6 rfl rfl, hb1.celli 7 rfl rfl, trivial⟩, ?_⟩
  refine ⟨pBWriter9, pBIndex10, pBPrev11, pBAtT12, pBAtW13, pBEpoch14, pBBody15a, pBBody15n, pBBody15c, pBSig16, ⟨hb1.celli 8 rfl rfl, hb1.celli 9 rfl rfl, hb1.celli 10 rfl rfl, hb1.celli 11 rfl rfl, hb1.celli 12 rfl rfl, hb1.celli 13 rfl rfl, hb1.celli 14 rfl rfl, hb1.celli 15 rfl rfl, trivial⟩, ?_⟩
  refine ⟨hb2.cani 0 rfl rfl, thenW_in fun ww19 e19 => ?_⟩
  have hx19 := hx18.x_set (q := ww17.heap.size) (i := 0) rfl (.inr hg2) e19
  have hb2 : Blk ww19 ww17.heap.size 50 [.int .i64 pAWriter1, .int .i64 0, .int .u64 0, .int .i64 0, .int .i64 0, .int .i64 0, .slice none 0 0, .int .u64 0, .int .i64 0, .int .i64 0, .int .u64 0, .int .i64 0, .int .i64 0, .int .i64 0, .slice none 0 0, .int .u64 0] := hb2.seti 0 rfl e19
  refine ⟨hb2.cani 1 rfl rfl, thenW_in fun ww20 e20 => ?_⟩
  have hx20 := hx19.x_set (q := ww17.heap.size) (i := 1) rfl (.inr hg2) e20
  have hb2 : Blk ww20 ww17.heap.size 50 [.int .i64 pAWriter1, .int .i64 pAIndex2, .int .u64 0, .int .i64 0, .int .i64 0, .int .i64 0, .slice none 0 0, .int .u64 0, .int .i64 0, .int .i64 0, .int .u64 0, .int .i64 0, .int .i64 0, .int .i64 0, .slice none 0 0, .int .u64 0] := hb2.seti 1 rfl e20
  refine ⟨hb2.cani 2 rfl rfl, thenW_in fun ww21 e21 => ?_⟩
  have hx21 := hx20.x_set (q := ww17.heap.size) (i := 2) rfl (.inr hg2) e21
  have hb2 : Blk ww21 ww17.heap.size 50 [.int .i64 pAWriter1, .int .i64 pAIndex2, .int .u64 pAPrev3, .int .i64 0, .int .i64 0, .int .i64 0, .slice none 0 0, .int .u64 0, .int .i64 0, .int .i64 0, .int .u64 0, .int .i64 0, .int .i64 0, .int .i64 0, .slice none 0 0, .int .u64 0] := hb2.seti 2 rfl e21
  refine ⟨hb2.cani 3 rfl rfl, thenW_in fun ww22 e22 => ?_⟩
  have hx22 := hx21.x_set (q := ww17.heap.size) (i := 3) rfl (.inr hg2) e22
  have hb2 : Blk ww22 ww17.heap.size 50 [.int .i64 pAWriter1, .int .i64 pAIndex2, .int .u64 pAPrev3, .int .i64 pAAtT4, .int .i64 0, .int .i64 0, .slice none 0 0, .int .u64 0, .int .i64 0, .int .i64 0, .int .u64 0, .int .i64 0, .int .i64 0, .int .i64 0, .slice none 0 0, .int .u64 0] := hb2.seti 3 rfl e22
  refine ⟨hb2.cani 4 rfl rfl, thenW_in fun ww23 e23 => ?_⟩
  have hx23 := hx22.x_set (q := ww17.heap.size) (i := 4) rfl (.inr hg2) e23
  have hb2 : Blk ww23 ww17.heap.size 50 [.int .i64 pAWriter1, .int .i64 pAIndex2, .int .u64 pAPrev3, .int .i64 pAAtT4, .int .i64 pAAtW5, .int .i64 0, .slice none 0 0, .int .u64 0, .int .i64 0, .int .i64 0, .int .u64 0, .int .i64 0, .int .i64 0, .int .i64 0, .slice none 0 0, .int .u64 0] := hb2.seti 4 rfl e23
  refine ⟨hb2.cani 5 rfl rfl, thenW_in fun ww24 e24 => ?_⟩
  have hx24 := hx23.x_set (q := ww17.heap.size) (i := 5) rfl (.inr hg2) e24
  have hb2 : Blk ww24 ww17.heap.size 50 [.int .i64 pAWriter1, .int .i64 pAIndex2, .int .u64 pAPrev3, .int .i64 pAAtT4, .int .i64 pAAtW5, .int .i64 pAEpoch6, .slice none 0 0, .int .u64 0, .int .i64 0, .int .i64 0, .int .u64 0, .int .i64 0, .int .i64 0, .int .i64 0, .slice none 0 0, .int .u64 0] := hb2.seti 5 rfl e24
  refine ⟨hb2.cani 6 rfl rfl, thenW_in fun ww25 e25 => ?_⟩
  have hx25 := hx24.x_set (q := ww17.heap.size) (i := 6) rfl (.inr hg2) e25
  have hb2 : Blk ww25 ww17.heap.size 50 [.int .i64 pAWriter1, .int .i64 pAIndex2, .int .u64 pAPrev3, .int .i64 pAAtT4, .int .i64 pAAtW5, .int .i64 pAEpoch6, .slice pABody7a pABody7n pABody7c, .int .u64 0, .int .i64 0, .int .i64 0, .int .u64 0, .int .i64 0, .int .i64 0, .int .i64 0, .slice none 0 0, .int .u64 0] := hb2.seti 6 rfl e25
  refine ⟨hb2.cani 7 rfl rfl, thenW_in fun ww26 e26 => ?_⟩
  have hx26 := hx25.x_set (q := ww17.heap.size) (i := 7) rfl (.inr hg2) e26
  have hb2 : Blk ww26 ww17.heap.size 50 [.int .i64 pAWriter1, .int .i64 pAIndex2, .int .u64 pAPrev3, .int .i64 pAAtT4, .int .i64 pAAtW5, .int .i64 pAEpoch6, .slice pABody7a pABody7n pABody7c, .int .u64 pASig8, .int .i64 0, .int .i64 0, .int .u64 0, .int .i64 0, .int .i64 0, .int .i64 0, .slice none 0 0, .int .u64 0] := hb2.seti 7 rfl e26
  refine ⟨hb2.cani 8 rfl rfl, thenW_in fun ww27 e27 => ?_⟩
  have hx27 := hx26.x_set (q := ww17.heap.size) (i := 8) rfl (.inr hg2) e27
  have hb2 : Blk ww27 ww17.heap.size 50 [.int .i64 pAWriter1, .int .i64 pAIndex2, .int .u64 pAPrev3, .int .i64 pAAtT4, .int .i64 pAAtW5, .int .i64 pAEpoch6, .slice pABody7a pABody7n pABody7c, .int .u64 pASig8, .int .i64 pBWriter9, .int .i64 0, .int .u64 0, .int .i64 0, .int .i64 0, .int .i64 0, .slice none 0 0, .int .u64 0] := hb2.seti 8 rfl e27
  refine ⟨hb2.cani 9 rfl rfl, thenW_in fun ww28 e28 => ?_⟩
  have hx28 := hx27.x_set (q := ww17.heap.size) (i := 9) rfl (.inr hg2) e28
  have hb2 : Blk ww28 ww17.heap.size 50 [.int .i64 pAWriter1, .int .i64 pAIndex2, .int .u64 pAPrev3, .int .i64 pAAtT4, .int .i64 pAAtW5, .int .i64 pAEpoch6, .slice pABody7a pABody7n pABody7c, .int .u64 pASig8, .int .i64 pBWriter9, .int .i64 pBIndex10, .int .u64 0, .int .i64 0, .int .i64 0, .int .i64 0, .slice none 0 0, .int .u64 0] := hb2.seti 9 rfl e28
  refine ⟨hb2.cani 10 rfl rfl, thenW_in fun ww29 e29 => ?_⟩
  have hx29 := hx28.x_set (q := ww17.heap.size) (i := 10) rfl (.inr hg2) e29
  have hb2 : Blk ww29 ww17.heap.size 50 [.int .i64 pAWriter1, .int .i64 pAIndex2, .int .u64 pAPrev3, .int .i64 pAAtT4, .int .i64 pAAtW5, .int .i64 pAEpoch6, .slice pABody7a pABody7n pABody7c, .int .u64 pASig8, .int .i64 pBWriter9, .int .i64 pBIndex10, .int .u64 pBPrev11, .int .i64 0, .int .i64 0, .int .i64 0, .slice none 0 0, .int .u64 0] := hb2.seti 10 rfl e29
  refine ⟨hb2.cani 11 rfl rfl, thenW_in fun ww30 e30 => ?_⟩
  have hx30 := hx29.x_set (q := ww17.heap.size) (i := 11) rfl (.inr hg2) e30
  have hb2 : Blk ww30 ww17.heap.size 50 [.int .i64 pAWriter1, .int .i64 pAIndex2, .int .u64 pAPrev3, .int .i64 pAAtT4, .int .i64 pAAtW5, .int .i64 pAEpoch6, .slice pABody7a pABody7n pABody7c, .int .u64 pASig8, .int .i64 pBWriter9, .int .i64 pBIndex10, .int .u64 pBPrev11, .int .i64 pBAtT12, .int .i64 0, .int .i64 0, .slice none 0 0, .int .u64 0] := hb2.seti 11 rfl e30
  refine ⟨hb2.cani 12 rfl rfl, thenW_in fun ww31 e31 => ?_⟩
  have hx31 := hx30.x_set (q := ww17.heap.size) (i := 12) rfl (.inr hg2) e31
  have hb2 : Blk ww31 ww17.heap.size 50 [.int .i64 pAWriter1, .int .i64 pAIndex2, .int .u64 pAPrev3, .int .i64 pAAtT4, .int .i64 pAAtW5, .int .i64 pAEpoch6, .slice pABody7a pABody7n pABody7c, .int .u64 pASig8, .int .i64 pBWriter9, .int .i64 pBIndex10, .int .u64 pBPrev11, .int .i64 pBAtT12, .int .i64 pBAtW13, .int .i64 0, .slice none 0 0, .int .u64 0] := hb2.seti 12 rfl e31
  refine ⟨hb2.cani 13 rfl rfl, thenW_in fun ww32 e32 => ?_⟩
  have hx32 := hx31.x_set (q := ww17.heap.size) (i := 13) rfl (.inr hg2) e32
  have hb2 : Blk ww32 ww17.heap.size 50 [.int .i64 pAWriter1, .int .i64 pAIndex2, .int .u64 pAPrev3, .int .i64 pAAtT4, .int .i64 pAAtW5, .int .i64 pAEpoch6, .slice pABody7a pABody7n pABody7c, .int .u64 pASig8, .int .i64 pBWriter9, .int .i64 pBIndex10, .int .u64 pBPrev11, .int .i64 pBAtT12, .int .i64 pBAtW13, .int .i64 pBEpoch14, .slice none 0 0, .int .u64 0] := hb2.seti 13 rfl e32
  refine ⟨hb2.cani 14 rfl rfl, thenW_in fun ww33 e33 => ?_⟩
  have hx33 := hx32.x_set (q := ww17.heap.size) (i := 14) rfl (.inr hg2) e33
  have hb2 : Blk ww33 ww17.heap.size 50 [.int .i64 pAWriter1, .int .i64 pAIndex2, .int .u64 pAPrev3, .int .i64 pAAtT4, .int .i64 pAAtW5, .int .i64 pAEpoch6, .slice pABody7a pABody7n pABody7c, .int .u64 pASig8, .int .i64 pBWriter9, .int .i64 pBIndex10, .int .u64 pBPrev11, .int .i64 pBAtT12, .int .i64 pBAtW13, .int .i64 pBEpoch14, .slice pBBody15a pBBody15n pBBody15c, .int .u64 0] := hb2.seti 14 rfl e33
  refine ⟨hb2.cani 15 rfl rfl, thenW_in fun ww34 e34 => ?_⟩
  have hx34 := hx33.x_set (q := ww17.heap.size) (i := 15) rfl (.inr hg2) e34
  have hb2 : Blk ww34 ww17.heap.size 50 [.int .i64 pAWriter1, .int .i64 pAIndex2, .int .u64 pAPrev3, .int .i64 pAAtT4, .int .i64 pAAtW5, .int .i64 pAEpoch6, .slice pABody7a pABody7n pABody7c, .int .u64 pASig8, .int .i64 pBWriter9, .int .i64 pBIndex10, .int .u64 pBPrev11, .int .i64 pBAtT12, .int .i64 pBAtW13, .int .i64 pBEpoch14, .slice pBBody15a pBBody15n pBBody15c, .int .u64 pBSig16] := hb2.seti 15 rfl e34
  refine ⟨pAWriter1, pAIndex2, pAPrev3, pAAtT4, pAAtW5, pAEpoch6, pABody7a, pABody7n, pABody7c, pASig8, pBWriter9, pBIndex10, pBPrev11, pBAtT12, pBAtW13, pBEpoch14, pBBody15a, pBBody15n, pBBody15c, pBSig16, ⟨hb2.celli 0 rfl rfl, hb2.celli 1 rfl rfl, hb2.celli 2 rfl rfl, hb2.celli 3 rfl rfl, hb2.celli 4 rfl rfl, hb2.celli 5 rfl rfl, hb2.celli 6 rfl rfl, hb2.celli 7 rfl rfl, hb2.celli 8 rfl rfl, hb2.celli 9 rfl rfl, hb2.celli 10 rfl rfl, hb2.celli 11 rfl rfl, hb2.celli 12 rfl rfl, hb2.celli 13 rfl rfl, hb2.celli 14 rfl rfl, hb2.celli 15 rfl rfl, trivial⟩, ?_⟩
  have h := h ww34 hx34
  exact h

theorem cachettelaw23_back.go (pAWriter1 : Int) (pAIndex2 : Int) (pAPrev3 : Int) (pAAtT4 : Int) (pAAtW5 : Int) (pAEpoch6 : Int) (pABody7a : Option Addr) (pABody7n : Nat) (pABody7c : Nat) (pASig8 : Int) (pBWriter9 : Int) (pBIndex10 : Int) (pBPrev11 : Int) (pBAtT12 : Int) (pBAtW13 : Int) (pBEpoch14 : Int) (pBBody15a : Option Addr) (pBBody15n : Nat) (pBBody15c : Nat) (pBSig16 : Int) {R : Value → World → Prop} {w : World} (h : cachettelaw23_back.N pAWriter1 pAIndex2 pAPrev3 pAAtT4 pAAtW5 pAEpoch6 pABody7a pABody7n pABody7c pASig8 pBWriter9 pBIndex10 pBPrev11 pBAtT12 pBAtW13 pBEpoch14 pBBody15a pBBody15n pBBody15c pBSig16 R w) : Calls Try.prog 21 #[.agg #[.int .i64 pAWriter1, .int .i64 pAIndex2, .int .u64 pAPrev3, .int .i64 pAAtT4, .int .i64 pAAtW5, .int .i64 pAEpoch6, .slice pABody7a pABody7n pABody7c, .int .u64 pASig8, .int .i64 pBWriter9, .int .i64 pBIndex10, .int .u64 pBPrev11, .int .i64 pBAtT12, .int .i64 pBAtW13, .int .i64 pBEpoch14, .slice pBBody15a pBBody15n pBBody15c, .int .u64 pBSig16]] w fun e w' => ∃ v, e = .returned v ∧ R v w' := cachettelaw23_back.ok pAWriter1 pAIndex2 pAPrev3 pAAtT4 pAAtW5 pAEpoch6 pABody7a pABody7n pABody7c pASig8 pBWriter9 pBIndex10 pBPrev11 pBAtT12 pBAtW13 pBEpoch14 pBBody15a pBBody15n pBBody15c pBSig16 (cachettelaw23_back.up pAWriter1 pAIndex2 pAPrev3 pAAtT4 pAAtW5 pAEpoch6 pABody7a pABody7n pABody7c pASig8 pBWriter9 pBIndex10 pBPrev11 pBAtT12 pBAtW13 pBEpoch14 pBBody15a pBBody15n pBBody15c pBSig16 h)
theorem cachettelaw23_back.run (pAWriter1 : Int) (pAIndex2 : Int) (pAPrev3 : Int) (pAAtT4 : Int) (pAAtW5 : Int) (pAEpoch6 : Int) (pABody7a : Option Addr) (pABody7n : Nat) (pABody7c : Nat) (pASig8 : Int) (pBWriter9 : Int) (pBIndex10 : Int) (pBPrev11 : Int) (pBAtT12 : Int) (pBAtW13 : Int) (pBEpoch14 : Int) (pBBody15a : Option Addr) (pBBody15n : Nat) (pBBody15c : Nat) (pBSig16 : Int) {V : Value} {Q : World → Prop} {w : World} (h : cachettelaw23_back.N pAWriter1 pAIndex2 pAPrev3 pAAtT4 pAAtW5 pAEpoch6 pABody7a pABody7n pABody7c pASig8 pBWriter9 pBIndex10 pBPrev11 pBAtT12 pBAtW13 pBEpoch14 pBBody15a pBBody15n pBBody15c pBSig16 (fun v w' => v = V ∧ Q w') w) : Calls Try.prog 21 #[.agg #[.int .i64 pAWriter1, .int .i64 pAIndex2, .int .u64 pAPrev3, .int .i64 pAAtT4, .int .i64 pAAtW5, .int .i64 pAEpoch6, .slice pABody7a pABody7n pABody7c, .int .u64 pASig8, .int .i64 pBWriter9, .int .i64 pBIndex10, .int .u64 pBPrev11, .int .i64 pBAtT12, .int .i64 pBAtW13, .int .i64 pBEpoch14, .slice pBBody15a pBBody15n pBBody15c, .int .u64 pBSig16]] w (Ret V Q) := (cachettelaw23_back.go pAWriter1 pAIndex2 pAPrev3 pAAtT4 pAAtW5 pAEpoch6 pABody7a pABody7n pABody7c pASig8 pBWriter9 pBIndex10 pBPrev11 pBAtT12 pBAtW13 pBEpoch14 pBBody15a pBBody15n pBBody15c pBSig16 h).mono fun e w' ⟨v, he, hv, hq⟩ => ⟨by rw [he, hv], hq⟩

/-- forkcheck.Odd -/
def forkcheck_Odd.M (l1a : Option Addr) (l1n : Nat) (l1c : Nat) (hWriter2 : Int) (hLen3 : Int) (hSum4 : Int) (sums5a : Option Addr) (sums5n : Nat) (sums5c : Nat) (R : Value → World → Prop) (w : World) : Prop :=
  thenW (w.alloc (.cells #[.int .i64 hWriter2, .int .i64 hLen3, .int .u64 hSum4] 53)) fun ww6 =>
  thenW (ww6.drew) fun ww7 =>
  ∃ (Len8 : Int), ww7.cell? ((blk w.heap.size).add 1) = some (.int .i64 Len8) ∧
  bif decide (Len8 > 0) then (
  ∃ (Len9 : Int), ww7.cell? ((blk w.heap.size).add 1) = some (.int .i64 Len9) ∧
  bif decide (Len9 ≤ (if ((sums5n : Int) : Int) < (l1n : Int) then (sums5n : Int) else (l1n : Int))) then (
  ∃ (Len10 : Int), ww7.cell? ((blk w.heap.size).add 1) = some (.int .i64 Len10) ∧
  sums5a.elim False fun a11 =>
  0 ≤ ((IntKind.i64.wrap (Len10 - 1)) : Int) ∧ ((IntKind.i64.wrap (Len10 - 1)) : Int) < (sums5n : Int) ∧
  ∃ (x12 : Int), ww7.cell? (a11.add (Int.toNat (IntKind.i64.wrap (Len10 - 1)) * 1)) = some (.int .u64 x12) ∧
  ∃ (Sum13 : Int), ww7.cell? ((blk w.heap.size).add 2) = some (.int .u64 Sum13) ∧
  R (.bool (x12 != Sum13)) ww7) else (
  R (.bool false) ww7)) else (
  R (.bool false) ww7)

theorem forkcheck_Odd.eq (l1a : Option Addr) (l1n : Nat) (l1c : Nat) (hWriter2 : Int) (hLen3 : Int) (hSum4 : Int) (sums5a : Option Addr) (sums5n : Nat) (sums5c : Nat) (R : Value → World → Prop) (w : World) : mfunc Try.prog [] 22 [.slice l1a l1n l1c, .agg #[.int .i64 hWriter2, .int .i64 hLen3, .int .u64 hSum4], .slice sums5a sums5n sums5c] R w = forkcheck_Odd.M l1a l1n l1c hWriter2 hLen3 hSum4 sums5a sums5n sums5c R w := by kernel_rfl
theorem forkcheck_Odd.ok (l1a : Option Addr) (l1n : Nat) (l1c : Nat) (hWriter2 : Int) (hLen3 : Int) (hSum4 : Int) (sums5a : Option Addr) (sums5n : Nat) (sums5c : Nat) {R : Value → World → Prop} {w : World} (h : forkcheck_Odd.M l1a l1n l1c hWriter2 hLen3 hSum4 sums5a sums5n sums5c R w) : Calls Try.prog 22 #[.slice l1a l1n l1c, .agg #[.int .i64 hWriter2, .int .i64 hLen3, .int .u64 hSum4], .slice sums5a sums5n sums5c] w fun e w' => ∃ v, e = .returned v ∧ R v w' :=
  mfunc_ok follows (H := []) (args := [.slice l1a l1n l1c, .agg #[.int .i64 hWriter2, .int .i64 hLen3, .int .u64 hSum4], .slice sums5a sums5n sums5c]) (by rw [forkcheck_Odd.eq]; exact h)

def forkcheck_Odd.N (l1a : Option Addr) (l1n : Nat) (l1c : Nat) (hWriter2 : Int) (hLen3 : Int) (hSum4 : Int) (sums5a : Option Addr) (sums5n : Nat) (sums5c : Nat) (R : Value → World → Prop) (w : World) : Prop :=
  (hLen3 > 0 →
    (hLen3 ≤ (if ((sums5n : Int) : Int) < (l1n : Int) then (sums5n : Int) else (l1n : Int)) →
      (-9223372036854775808 : Int) ≤ (hLen3 - 1) ∧ (hLen3 - 1) < 9223372036854775808 ∧
      ∃ a10 : Addr, sums5a = some a10 ∧
      0 ≤ ((hLen3 - 1) : Int) ∧ ((hLen3 - 1) : Int) < (sums5n : Int) ∧
      ∃ (x12 : Int), w.cell? (a10.add (Int.toNat (hLen3 - 1) * 1)) = some (.int .u64 x12) ∧
      ∀ (ww7 : World), Ext no w ww7 →
      R (.bool (x12 != hSum4)) ww7) ∧
    ((if ((sums5n : Int) : Int) < (l1n : Int) then (sums5n : Int) else (l1n : Int)) < hLen3 →
      ∀ (ww7 : World), Ext no w ww7 →
      R (.bool false) ww7)) ∧
  (hLen3 ≤ 0 →
    ∀ (ww7 : World), Ext no w ww7 →
    R (.bool false) ww7)

theorem forkcheck_Odd.up (l1a : Option Addr) (l1n : Nat) (l1c : Nat) (hWriter2 : Int) (hLen3 : Int) (hSum4 : Int) (sums5a : Option Addr) (sums5n : Nat) (sums5c : Nat) {R : Value → World → Prop} {w : World} (h : forkcheck_Odd.N l1a l1n l1c hWriter2 hLen3 hSum4 sums5a sums5n sums5c R w) : forkcheck_Odd.M l1a l1n l1c hWriter2 hLen3 hSum4 sums5a sums5n sums5c R w := by
  unfold forkcheck_Odd.M
  unfold forkcheck_Odd.N at h
  refine thenW_in fun ww6 e6 => ?_
  have hb1 := Blk.of_new e6
  have hg1 := ((Ext.refl no w)).size
  have hx6 := (Ext.refl no w).x_alloc e6
  refine thenW_in fun ww7 e7 => ?_
  have hx7 := hx6.x_drew e7
  have hb1 := hb1.x_drew e7
  refine ⟨hLen3, hb1.celli 1 rfl rfl, ?_⟩
  refine bif_of (fun c8 => ?_) (fun c8 => ?_)
  · have h := h.1 (of_decide_eq_true c8)
    refine ⟨hLen3, hb1.celli 1 rfl rfl, ?_⟩
    refine bif_of (fun c9 => ?_) (fun c9 => ?_)
    · have h := h.1 (of_decide_eq_true c9)
      refine ⟨hLen3, hb1.celli 1 rfl rfl, ?_⟩
      obtain ⟨hw1, hw2, h⟩ := h
      try rw [w64 hw1 hw2]
      obtain ⟨a10, ha10, h⟩ := h
      refine elim_some ha10 ?_
      obtain ⟨hq1, hq2, h⟩ := h
      refine ⟨hq1, hq2, ?_⟩
      obtain ⟨x12, hc11, h⟩ := h
      refine ⟨x12, (hx7).cell hc11 id, ?_⟩
      refine ⟨hSum4, hb1.celli 2 rfl rfl, ?_⟩
      have h := h ww7 hx7
      exact h
    · have h := h.2 (Int.not_le.1 (of_decide_eq_false c9))
      have h := h ww7 hx7
      exact h
  · have h := h.2 (Int.not_lt.1 (of_decide_eq_false c8))
    have h := h ww7 hx7
    exact h

theorem forkcheck_Odd.go (l1a : Option Addr) (l1n : Nat) (l1c : Nat) (hWriter2 : Int) (hLen3 : Int) (hSum4 : Int) (sums5a : Option Addr) (sums5n : Nat) (sums5c : Nat) {R : Value → World → Prop} {w : World} (h : forkcheck_Odd.N l1a l1n l1c hWriter2 hLen3 hSum4 sums5a sums5n sums5c R w) : Calls Try.prog 22 #[.slice l1a l1n l1c, .agg #[.int .i64 hWriter2, .int .i64 hLen3, .int .u64 hSum4], .slice sums5a sums5n sums5c] w fun e w' => ∃ v, e = .returned v ∧ R v w' := forkcheck_Odd.ok l1a l1n l1c hWriter2 hLen3 hSum4 sums5a sums5n sums5c (forkcheck_Odd.up l1a l1n l1c hWriter2 hLen3 hSum4 sums5a sums5n sums5c h)
theorem forkcheck_Odd.run (l1a : Option Addr) (l1n : Nat) (l1c : Nat) (hWriter2 : Int) (hLen3 : Int) (hSum4 : Int) (sums5a : Option Addr) (sums5n : Nat) (sums5c : Nat) {V : Value} {Q : World → Prop} {w : World} (h : forkcheck_Odd.N l1a l1n l1c hWriter2 hLen3 hSum4 sums5a sums5n sums5c (fun v w' => v = V ∧ Q w') w) : Calls Try.prog 22 #[.slice l1a l1n l1c, .agg #[.int .i64 hWriter2, .int .i64 hLen3, .int .u64 hSum4], .slice sums5a sums5n sums5c] w (Ret V Q) := (forkcheck_Odd.go l1a l1n l1c hWriter2 hLen3 hSum4 sums5a sums5n sums5c h).mono fun e w' ⟨v, he, hv, hq⟩ => ⟨by rw [he, hv], hq⟩

/-- cachetteref23.Odd -/
def cachetteref23_Odd.M (l1a : Option Addr) (l1n : Nat) (l1c : Nat) (hWriter2 : Int) (hLen3 : Int) (hSum4 : Int) (sums5a : Option Addr) (sums5n : Nat) (sums5c : Nat) (R : Value → World → Prop) (w : World) : Prop :=
  thenW (w.alloc (.cells #[.int .i64 hWriter2, .int .i64 hLen3, .int .u64 hSum4] 53)) fun ww6 =>
  thenW (ww6.drew) fun ww7 =>
  ∃ (Len8 : Int), ww7.cell? ((blk w.heap.size).add 1) = some (.int .i64 Len8) ∧
  bif decide (Len8 ≥ 1) then (
  ∃ (Len9 : Int), ww7.cell? ((blk w.heap.size).add 1) = some (.int .i64 Len9) ∧
  bif decide (Len9 ≤ (l1n : Int)) then (
  ∃ (Len10 : Int), ww7.cell? ((blk w.heap.size).add 1) = some (.int .i64 Len10) ∧
  bif decide (Len10 ≤ (sums5n : Int)) then (
  ∃ (Len11 : Int), ww7.cell? ((blk w.heap.size).add 1) = some (.int .i64 Len11) ∧
  sums5a.elim False fun a12 =>
  0 ≤ ((IntKind.i64.wrap (Len11 - 1)) : Int) ∧ ((IntKind.i64.wrap (Len11 - 1)) : Int) < (sums5n : Int) ∧
  ∃ (x13 : Int), ww7.cell? (a12.add (Int.toNat (IntKind.i64.wrap (Len11 - 1)) * 1)) = some (.int .u64 x13) ∧
  ∃ (Sum14 : Int), ww7.cell? ((blk w.heap.size).add 2) = some (.int .u64 Sum14) ∧
  R (.bool (x13 != Sum14)) ww7) else (
  R (.bool false) ww7)) else (
  R (.bool false) ww7)) else (
  R (.bool false) ww7)

theorem cachetteref23_Odd.eq (l1a : Option Addr) (l1n : Nat) (l1c : Nat) (hWriter2 : Int) (hLen3 : Int) (hSum4 : Int) (sums5a : Option Addr) (sums5n : Nat) (sums5c : Nat) (R : Value → World → Prop) (w : World) : mfunc Try.prog [] 23 [.slice l1a l1n l1c, .agg #[.int .i64 hWriter2, .int .i64 hLen3, .int .u64 hSum4], .slice sums5a sums5n sums5c] R w = cachetteref23_Odd.M l1a l1n l1c hWriter2 hLen3 hSum4 sums5a sums5n sums5c R w := by kernel_rfl
theorem cachetteref23_Odd.ok (l1a : Option Addr) (l1n : Nat) (l1c : Nat) (hWriter2 : Int) (hLen3 : Int) (hSum4 : Int) (sums5a : Option Addr) (sums5n : Nat) (sums5c : Nat) {R : Value → World → Prop} {w : World} (h : cachetteref23_Odd.M l1a l1n l1c hWriter2 hLen3 hSum4 sums5a sums5n sums5c R w) : Calls Try.prog 23 #[.slice l1a l1n l1c, .agg #[.int .i64 hWriter2, .int .i64 hLen3, .int .u64 hSum4], .slice sums5a sums5n sums5c] w fun e w' => ∃ v, e = .returned v ∧ R v w' :=
  mfunc_ok follows (H := []) (args := [.slice l1a l1n l1c, .agg #[.int .i64 hWriter2, .int .i64 hLen3, .int .u64 hSum4], .slice sums5a sums5n sums5c]) (by rw [cachetteref23_Odd.eq]; exact h)

def cachetteref23_Odd.N (l1a : Option Addr) (l1n : Nat) (l1c : Nat) (hWriter2 : Int) (hLen3 : Int) (hSum4 : Int) (sums5a : Option Addr) (sums5n : Nat) (sums5c : Nat) (R : Value → World → Prop) (w : World) : Prop :=
  (hLen3 ≥ 1 →
    (hLen3 ≤ (l1n : Int) →
      (hLen3 ≤ (sums5n : Int) →
        (-9223372036854775808 : Int) ≤ (hLen3 - 1) ∧ (hLen3 - 1) < 9223372036854775808 ∧
        ∃ a11 : Addr, sums5a = some a11 ∧
        0 ≤ ((hLen3 - 1) : Int) ∧ ((hLen3 - 1) : Int) < (sums5n : Int) ∧
        ∃ (x13 : Int), w.cell? (a11.add (Int.toNat (hLen3 - 1) * 1)) = some (.int .u64 x13) ∧
        ∀ (ww7 : World), Ext no w ww7 →
        R (.bool (x13 != hSum4)) ww7) ∧
      ((sums5n : Int) < hLen3 →
        ∀ (ww7 : World), Ext no w ww7 →
        R (.bool false) ww7)) ∧
    ((l1n : Int) < hLen3 →
      ∀ (ww7 : World), Ext no w ww7 →
      R (.bool false) ww7)) ∧
  (hLen3 < 1 →
    ∀ (ww7 : World), Ext no w ww7 →
    R (.bool false) ww7)

theorem cachetteref23_Odd.up (l1a : Option Addr) (l1n : Nat) (l1c : Nat) (hWriter2 : Int) (hLen3 : Int) (hSum4 : Int) (sums5a : Option Addr) (sums5n : Nat) (sums5c : Nat) {R : Value → World → Prop} {w : World} (h : cachetteref23_Odd.N l1a l1n l1c hWriter2 hLen3 hSum4 sums5a sums5n sums5c R w) : cachetteref23_Odd.M l1a l1n l1c hWriter2 hLen3 hSum4 sums5a sums5n sums5c R w := by
  unfold cachetteref23_Odd.M
  unfold cachetteref23_Odd.N at h
  refine thenW_in fun ww6 e6 => ?_
  have hb1 := Blk.of_new e6
  have hg1 := ((Ext.refl no w)).size
  have hx6 := (Ext.refl no w).x_alloc e6
  refine thenW_in fun ww7 e7 => ?_
  have hx7 := hx6.x_drew e7
  have hb1 := hb1.x_drew e7
  refine ⟨hLen3, hb1.celli 1 rfl rfl, ?_⟩
  refine bif_of (fun c8 => ?_) (fun c8 => ?_)
  · have h := h.1 (of_decide_eq_true c8)
    refine ⟨hLen3, hb1.celli 1 rfl rfl, ?_⟩
    refine bif_of (fun c9 => ?_) (fun c9 => ?_)
    · have h := h.1 (of_decide_eq_true c9)
      refine ⟨hLen3, hb1.celli 1 rfl rfl, ?_⟩
      refine bif_of (fun c10 => ?_) (fun c10 => ?_)
      · have h := h.1 (of_decide_eq_true c10)
        refine ⟨hLen3, hb1.celli 1 rfl rfl, ?_⟩
        obtain ⟨hw1, hw2, h⟩ := h
        try rw [w64 hw1 hw2]
        obtain ⟨a11, ha11, h⟩ := h
        refine elim_some ha11 ?_
        obtain ⟨hq1, hq2, h⟩ := h
        refine ⟨hq1, hq2, ?_⟩
        obtain ⟨x13, hc12, h⟩ := h
        refine ⟨x13, (hx7).cell hc12 id, ?_⟩
        refine ⟨hSum4, hb1.celli 2 rfl rfl, ?_⟩
        have h := h ww7 hx7
        exact h
      · have h := h.2 (Int.not_le.1 (of_decide_eq_false c10))
        have h := h ww7 hx7
        exact h
    · have h := h.2 (Int.not_le.1 (of_decide_eq_false c9))
      have h := h ww7 hx7
      exact h
  · have h := h.2 (Int.not_le.1 (of_decide_eq_false c8))
    have h := h ww7 hx7
    exact h

theorem cachetteref23_Odd.go (l1a : Option Addr) (l1n : Nat) (l1c : Nat) (hWriter2 : Int) (hLen3 : Int) (hSum4 : Int) (sums5a : Option Addr) (sums5n : Nat) (sums5c : Nat) {R : Value → World → Prop} {w : World} (h : cachetteref23_Odd.N l1a l1n l1c hWriter2 hLen3 hSum4 sums5a sums5n sums5c R w) : Calls Try.prog 23 #[.slice l1a l1n l1c, .agg #[.int .i64 hWriter2, .int .i64 hLen3, .int .u64 hSum4], .slice sums5a sums5n sums5c] w fun e w' => ∃ v, e = .returned v ∧ R v w' := cachetteref23_Odd.ok l1a l1n l1c hWriter2 hLen3 hSum4 sums5a sums5n sums5c (cachetteref23_Odd.up l1a l1n l1c hWriter2 hLen3 hSum4 sums5a sums5n sums5c h)
theorem cachetteref23_Odd.run (l1a : Option Addr) (l1n : Nat) (l1c : Nat) (hWriter2 : Int) (hLen3 : Int) (hSum4 : Int) (sums5a : Option Addr) (sums5n : Nat) (sums5c : Nat) {V : Value} {Q : World → Prop} {w : World} (h : cachetteref23_Odd.N l1a l1n l1c hWriter2 hLen3 hSum4 sums5a sums5n sums5c (fun v w' => v = V ∧ Q w') w) : Calls Try.prog 23 #[.slice l1a l1n l1c, .agg #[.int .i64 hWriter2, .int .i64 hLen3, .int .u64 hSum4], .slice sums5a sums5n sums5c] w (Ret V Q) := (cachetteref23_Odd.go l1a l1n l1c hWriter2 hLen3 hSum4 sums5a sums5n sums5c h).mono fun e w' ⟨v, he, hv, hq⟩ => ⟨by rw [he, hv], hq⟩

/-- cachettelaw23.ForkcheckFinds -/
def cachettelaw23_ForkcheckFinds.M (a1a : Option Addr) (a1n : Nat) (a1c : Nat) (b2a : Option Addr) (b2n : Nat) (b2c : Nat) (hWriter3 : Int) (hLen4 : Int) (hSum5 : Int) (sums6a : Option Addr) (sums6n : Nat) (sums6c : Nat) (R : Value → World → Prop) (w : World) : Prop :=
  thenW (w.alloc (.cells #[.int .i64 hWriter3, .int .i64 hLen4, .int .u64 hSum5] 53)) fun ww7 =>
  bif decide ((a1n : Int) > 40) then (
  Calls Try.prog 9 #[] ww7 fun ee9 ww10 => ∃ (alive8 : Bool), ee9 = .returned (.bool alive8) ∧
  R (.bool alive8) ww10) else (
  bif decide ((b2n : Int) > 40) then (
  Calls Try.prog 9 #[] ww7 fun ee12 ww13 => ∃ (alive11 : Bool), ee12 = .returned (.bool alive11) ∧
  R (.bool alive11) ww13) else (
  bif decide ((sums6n : Int) > 60) then (
  Calls Try.prog 9 #[] ww7 fun ee15 ww16 => ∃ (alive14 : Bool), ee15 = .returned (.bool alive14) ∧
  R (.bool alive14) ww16) else (
  Calls Try.prog 8 #[.slice a1a a1n a1c] ww7 fun ee18 ww19 => ∃ (short17 : Bool), ee18 = .returned (.bool short17) ∧
  bif !short17 then (
  Calls Try.prog 9 #[] ww19 fun ee21 ww22 => ∃ (alive20 : Bool), ee21 = .returned (.bool alive20) ∧
  R (.bool alive20) ww22) else (
  Calls Try.prog 8 #[.slice b2a b2n b2c] ww19 fun ee24 ww25 => ∃ (short23 : Bool), ee24 = .returned (.bool short23) ∧
  bif !short23 then (
  Calls Try.prog 9 #[] ww25 fun ee27 ww28 => ∃ (alive26 : Bool), ee27 = .returned (.bool alive26) ∧
  R (.bool alive26) ww28) else (
  Calls Try.prog 18 #[.slice a1a a1n a1c, .slice b2a b2n b2c] ww25 fun ee46 ww47 => ∃ (AWriter29 : Int) (AIndex30 : Int) (APrev31 : Int) (AAtT32 : Int) (AAtW33 : Int) (AEpoch34 : Int) (ABody35a : Option Addr) (ABody35n : Nat) (ABody35c : Nat) (ASig36 : Int) (BWriter37 : Int) (BIndex38 : Int) (BPrev39 : Int) (BAtT40 : Int) (BAtW41 : Int) (BEpoch42 : Int) (BBody43a : Option Addr) (BBody43n : Nat) (BBody43c : Nat) (BSig44 : Int) (find45 : Bool), ee46 = .returned (.tuple #[.agg #[.int .i64 AWriter29, .int .i64 AIndex30, .int .u64 APrev31, .int .i64 AAtT32, .int .i64 AAtW33, .int .i64 AEpoch34, .slice ABody35a ABody35n ABody35c, .int .u64 ASig36, .int .i64 BWriter37, .int .i64 BIndex38, .int .u64 BPrev39, .int .i64 BAtT40, .int .i64 BAtW41, .int .i64 BEpoch42, .slice BBody43a BBody43n BBody43c, .int .u64 BSig44], .bool find45]) ∧
  thenW (ww47.alloc (.cells #[.int .i64 0, .int .i64 0, .int .u64 0, .int .i64 0, .int .i64 0, .int .i64 0, .slice none 0 0, .int .u64 0, .int .i64 0, .int .i64 0, .int .u64 0, .int .i64 0, .int .i64 0, .int .i64 0, .slice none 0 0, .int .u64 0] 48)) fun ww48 =>
  canStore ww48 ((blk ww47.heap.size).add 0) ∧
  thenW (ww48.setCell ((blk ww47.heap.size).add 0) (.int .i64 AWriter29)) fun ww49 =>
  canStore ww49 ((blk ww47.heap.size).add 1) ∧
  thenW (ww49.setCell ((blk ww47.heap.size).add 1) (.int .i64 AIndex30)) fun ww50 =>
  canStore ww50 ((blk ww47.heap.size).add 2) ∧
  thenW (ww50.setCell ((blk ww47.heap.size).add 2) (.int .u64 APrev31)) fun ww51 =>
  canStore ww51 ((blk ww47.heap.size).add 3) ∧
  thenW (ww51.setCell ((blk ww47.heap.size).add 3) (.int .i64 AAtT32)) fun ww52 =>
  canStore ww52 ((blk ww47.heap.size).add 4) ∧
  thenW (ww52.setCell ((blk ww47.heap.size).add 4) (.int .i64 AAtW33)) fun ww53 =>
  canStore ww53 ((blk ww47.heap.size).add 5) ∧
  thenW (ww53.setCell ((blk ww47.heap.size).add 5) (.int .i64 AEpoch34)) fun ww54 =>
  canStore ww54 ((blk ww47.heap.size).add 6) ∧
  thenW (ww54.setCell ((blk ww47.heap.size).add 6) (.slice ABody35a ABody35n ABody35c)) fun ww55 =>
  canStore ww55 ((blk ww47.heap.size).add 7) ∧
  thenW (ww55.setCell ((blk ww47.heap.size).add 7) (.int .u64 ASig36)) fun ww56 =>
  canStore ww56 ((blk ww47.heap.size).add 8) ∧
  thenW (ww56.setCell ((blk ww47.heap.size).add 8) (.int .i64 BWriter37)) fun ww57 =>
  canStore ww57 ((blk ww47.heap.size).add 9) ∧
  thenW (ww57.setCell ((blk ww47.heap.size).add 9) (.int .i64 BIndex38)) fun ww58 =>
  canStore ww58 ((blk ww47.heap.size).add 10) ∧
  thenW (ww58.setCell ((blk ww47.heap.size).add 10) (.int .u64 BPrev39)) fun ww59 =>
  canStore ww59 ((blk ww47.heap.size).add 11) ∧
  thenW (ww59.setCell ((blk ww47.heap.size).add 11) (.int .i64 BAtT40)) fun ww60 =>
  canStore ww60 ((blk ww47.heap.size).add 12) ∧
  thenW (ww60.setCell ((blk ww47.heap.size).add 12) (.int .i64 BAtW41)) fun ww61 =>
  canStore ww61 ((blk ww47.heap.size).add 13) ∧
  thenW (ww61.setCell ((blk ww47.heap.size).add 13) (.int .i64 BEpoch42)) fun ww62 =>
  canStore ww62 ((blk ww47.heap.size).add 14) ∧
  thenW (ww62.setCell ((blk ww47.heap.size).add 14) (.slice BBody43a BBody43n BBody43c)) fun ww63 =>
  canStore ww63 ((blk ww47.heap.size).add 15) ∧
  thenW (ww63.setCell ((blk ww47.heap.size).add 15) (.int .u64 BSig44)) fun ww64 =>
  Calls Try.prog 19 #[.slice a1a a1n a1c, .slice b2a b2n b2c] ww64 fun ee82 ww83 => ∃ (AWriter65 : Int) (AIndex66 : Int) (APrev67 : Int) (AAtT68 : Int) (AAtW69 : Int) (AEpoch70 : Int) (ABody71a : Option Addr) (ABody71n : Nat) (ABody71c : Nat) (ASig72 : Int) (BWriter73 : Int) (BIndex74 : Int) (BPrev75 : Int) (BAtT76 : Int) (BAtW77 : Int) (BEpoch78 : Int) (BBody79a : Option Addr) (BBody79n : Nat) (BBody79c : Nat) (BSig80 : Int) (find81 : Bool), ee82 = .returned (.tuple #[.agg #[.int .i64 AWriter65, .int .i64 AIndex66, .int .u64 APrev67, .int .i64 AAtT68, .int .i64 AAtW69, .int .i64 AEpoch70, .slice ABody71a ABody71n ABody71c, .int .u64 ASig72, .int .i64 BWriter73, .int .i64 BIndex74, .int .u64 BPrev75, .int .i64 BAtT76, .int .i64 BAtW77, .int .i64 BEpoch78, .slice BBody79a BBody79n BBody79c, .int .u64 BSig80], .bool find81]) ∧
  thenW (ww83.alloc (.cells #[.int .i64 0, .int .i64 0, .int .u64 0, .int .i64 0, .int .i64 0, .int .i64 0, .slice none 0 0, .int .u64 0, .int .i64 0, .int .i64 0, .int .u64 0, .int .i64 0, .int .i64 0, .int .i64 0, .slice none 0 0, .int .u64 0] 50)) fun ww84 =>
  canStore ww84 ((blk ww83.heap.size).add 0) ∧
  thenW (ww84.setCell ((blk ww83.heap.size).add 0) (.int .i64 AWriter65)) fun ww85 =>
  canStore ww85 ((blk ww83.heap.size).add 1) ∧
  thenW (ww85.setCell ((blk ww83.heap.size).add 1) (.int .i64 AIndex66)) fun ww86 =>
  canStore ww86 ((blk ww83.heap.size).add 2) ∧
  thenW (ww86.setCell ((blk ww83.heap.size).add 2) (.int .u64 APrev67)) fun ww87 =>
  canStore ww87 ((blk ww83.heap.size).add 3) ∧
  thenW (ww87.setCell ((blk ww83.heap.size).add 3) (.int .i64 AAtT68)) fun ww88 =>
  canStore ww88 ((blk ww83.heap.size).add 4) ∧
  thenW (ww88.setCell ((blk ww83.heap.size).add 4) (.int .i64 AAtW69)) fun ww89 =>
  canStore ww89 ((blk ww83.heap.size).add 5) ∧
  thenW (ww89.setCell ((blk ww83.heap.size).add 5) (.int .i64 AEpoch70)) fun ww90 =>
  canStore ww90 ((blk ww83.heap.size).add 6) ∧
  thenW (ww90.setCell ((blk ww83.heap.size).add 6) (.slice ABody71a ABody71n ABody71c)) fun ww91 =>
  canStore ww91 ((blk ww83.heap.size).add 7) ∧
  thenW (ww91.setCell ((blk ww83.heap.size).add 7) (.int .u64 ASig72)) fun ww92 =>
  canStore ww92 ((blk ww83.heap.size).add 8) ∧
  thenW (ww92.setCell ((blk ww83.heap.size).add 8) (.int .i64 BWriter73)) fun ww93 =>
  canStore ww93 ((blk ww83.heap.size).add 9) ∧
  thenW (ww93.setCell ((blk ww83.heap.size).add 9) (.int .i64 BIndex74)) fun ww94 =>
  canStore ww94 ((blk ww83.heap.size).add 10) ∧
  thenW (ww94.setCell ((blk ww83.heap.size).add 10) (.int .u64 BPrev75)) fun ww95 =>
  canStore ww95 ((blk ww83.heap.size).add 11) ∧
  thenW (ww95.setCell ((blk ww83.heap.size).add 11) (.int .i64 BAtT76)) fun ww96 =>
  canStore ww96 ((blk ww83.heap.size).add 12) ∧
  thenW (ww96.setCell ((blk ww83.heap.size).add 12) (.int .i64 BAtW77)) fun ww97 =>
  canStore ww97 ((blk ww83.heap.size).add 13) ∧
  thenW (ww97.setCell ((blk ww83.heap.size).add 13) (.int .i64 BEpoch78)) fun ww98 =>
  canStore ww98 ((blk ww83.heap.size).add 14) ∧
  thenW (ww98.setCell ((blk ww83.heap.size).add 14) (.slice BBody79a BBody79n BBody79c)) fun ww99 =>
  canStore ww99 ((blk ww83.heap.size).add 15) ∧
  thenW (ww99.setCell ((blk ww83.heap.size).add 15) (.int .u64 BSig80)) fun ww100 =>
  thenW (ww100.drew) fun ww101 =>
  ∃ (xAWriter102 : Int) (xAIndex103 : Int) (xAPrev104 : Int) (xAAtT105 : Int) (xAAtW106 : Int) (xAEpoch107 : Int) (xABody108a : Option Addr) (xABody108n : Nat) (xABody108c : Nat) (xASig109 : Int) (xBWriter110 : Int) (xBIndex111 : Int) (xBPrev112 : Int) (xBAtT113 : Int) (xBAtW114 : Int) (xBEpoch115 : Int) (xBBody116a : Option Addr) (xBBody116n : Nat) (xBBody116c : Nat) (xBSig117 : Int), cellsAt ww101 (blk ww47.heap.size) [.int .i64 xAWriter102, .int .i64 xAIndex103, .int .u64 xAPrev104, .int .i64 xAAtT105, .int .i64 xAAtW106, .int .i64 xAEpoch107, .slice xABody108a xABody108n xABody108c, .int .u64 xASig109, .int .i64 xBWriter110, .int .i64 xBIndex111, .int .u64 xBPrev112, .int .i64 xBAtT113, .int .i64 xBAtW114, .int .i64 xBEpoch115, .slice xBBody116a xBBody116n xBBody116c, .int .u64 xBSig117] 0 ∧
  ∃ (xAWriter118 : Int) (xAIndex119 : Int) (xAPrev120 : Int) (xAAtT121 : Int) (xAAtW122 : Int) (xAEpoch123 : Int) (xABody124a : Option Addr) (xABody124n : Nat) (xABody124c : Nat) (xASig125 : Int) (xBWriter126 : Int) (xBIndex127 : Int) (xBPrev128 : Int) (xBAtT129 : Int) (xBAtW130 : Int) (xBEpoch131 : Int) (xBBody132a : Option Addr) (xBBody132n : Nat) (xBBody132c : Nat) (xBSig133 : Int), cellsAt ww101 (blk ww83.heap.size) [.int .i64 xAWriter118, .int .i64 xAIndex119, .int .u64 xAPrev120, .int .i64 xAAtT121, .int .i64 xAAtW122, .int .i64 xAEpoch123, .slice xABody124a xABody124n xABody124c, .int .u64 xASig125, .int .i64 xBWriter126, .int .i64 xBIndex127, .int .u64 xBPrev128, .int .i64 xBAtT129, .int .i64 xBAtW130, .int .i64 xBEpoch131, .slice xBBody132a xBBody132n xBBody132c, .int .u64 xBSig133] 0 ∧
  Calls Try.prog 21 #[.agg #[.int .i64 xAWriter102, .int .i64 xAIndex103, .int .u64 xAPrev104, .int .i64 xAAtT105, .int .i64 xAAtW106, .int .i64 xAEpoch107, .slice xABody108a xABody108n xABody108c, .int .u64 xASig109, .int .i64 xBWriter110, .int .i64 xBIndex111, .int .u64 xBPrev112, .int .i64 xBAtT113, .int .i64 xBAtW114, .int .i64 xBEpoch115, .slice xBBody116a xBBody116n xBBody116c, .int .u64 xBSig117]] ww101 fun ee150 ww151 => ∃ (AWriter134 : Int) (AIndex135 : Int) (APrev136 : Int) (AAtT137 : Int) (AAtW138 : Int) (AEpoch139 : Int) (ABody140a : Option Addr) (ABody140n : Nat) (ABody140c : Nat) (ASig141 : Int) (BWriter142 : Int) (BIndex143 : Int) (BPrev144 : Int) (BAtT145 : Int) (BAtW146 : Int) (BEpoch147 : Int) (BBody148a : Option Addr) (BBody148n : Nat) (BBody148c : Nat) (BSig149 : Int), ee150 = .returned (.agg #[.int .i64 AWriter134, .int .i64 AIndex135, .int .u64 APrev136, .int .i64 AAtT137, .int .i64 AAtW138, .int .i64 AEpoch139, .slice ABody140a ABody140n ABody140c, .int .u64 ASig141, .int .i64 BWriter142, .int .i64 BIndex143, .int .u64 BPrev144, .int .i64 BAtT145, .int .i64 BAtW146, .int .i64 BEpoch147, .slice BBody148a BBody148n BBody148c, .int .u64 BSig149]) ∧
  cellsAt ww151 (blk ww83.heap.size) [.int .i64 xAWriter118, .int .i64 xAIndex119, .int .u64 xAPrev120, .int .i64 xAAtT121, .int .i64 xAAtW122, .int .i64 xAEpoch123, .slice xABody124a xABody124n xABody124c, .int .u64 xASig125, .int .i64 xBWriter126, .int .i64 xBIndex127, .int .u64 xBPrev128, .int .i64 xBAtT129, .int .i64 xBAtW130, .int .i64 xBEpoch131, .slice xBBody132a xBBody132n xBBody132c, .int .u64 xBSig133] 0 ∧
  Calls Try.prog 20 #[.agg #[.int .i64 AWriter134, .int .i64 AIndex135, .int .u64 APrev136, .int .i64 AAtT137, .int .i64 AAtW138, .int .i64 AEpoch139, .slice ABody140a ABody140n ABody140c, .int .u64 ASig141, .int .i64 BWriter142, .int .i64 BIndex143, .int .u64 BPrev144, .int .i64 BAtT145, .int .i64 BAtW146, .int .i64 BEpoch147, .slice BBody148a BBody148n BBody148c, .int .u64 BSig149], .agg #[.int .i64 xAWriter118, .int .i64 xAIndex119, .int .u64 xAPrev120, .int .i64 xAAtT121, .int .i64 xAAtW122, .int .i64 xAEpoch123, .slice xABody124a xABody124n xABody124c, .int .u64 xASig125, .int .i64 xBWriter126, .int .i64 xBIndex127, .int .u64 xBPrev128, .int .i64 xBAtT129, .int .i64 xBAtW130, .int .i64 xBEpoch131, .slice xBBody132a xBBody132n xBBody132c, .int .u64 xBSig133]] ww151 fun ee153 ww154 => ∃ (same152 : Bool), ee153 = .returned (.bool same152) ∧
  bif same152 then (
  bif find45 == find81 then (
  ∃ (xWriter155 : Int) (xLen156 : Int) (xSum157 : Int), cellsAt ww154 (blk w.heap.size) [.int .i64 xWriter155, .int .i64 xLen156, .int .u64 xSum157] 0 ∧
  ∃ (xWriter158 : Int) (xLen159 : Int) (xSum160 : Int), cellsAt ww154 (blk w.heap.size) [.int .i64 xWriter158, .int .i64 xLen159, .int .u64 xSum160] 0 ∧
  Calls Try.prog 22 #[.slice a1a a1n a1c, .agg #[.int .i64 xWriter155, .int .i64 xLen156, .int .u64 xSum157], .slice sums6a sums6n sums6c] ww154 fun ee162 ww163 => ∃ (odd161 : Bool), ee162 = .returned (.bool odd161) ∧
  cellsAt ww163 (blk w.heap.size) [.int .i64 xWriter158, .int .i64 xLen159, .int .u64 xSum160] 0 ∧
  Calls Try.prog 23 #[.slice a1a a1n a1c, .agg #[.int .i64 xWriter158, .int .i64 xLen159, .int .u64 xSum160], .slice sums6a sums6n sums6c] ww163 fun ee165 ww166 => ∃ (odd164 : Bool), ee165 = .returned (.bool odd164) ∧
  bif odd161 == odd164 then (
  Calls Try.prog 9 #[] ww166 fun ee168 ww169 => ∃ (alive167 : Bool), ee168 = .returned (.bool alive167) ∧
  R (.bool alive167) ww169) else (
  R (.bool false) ww166)) else (
  R (.bool false) ww154)) else (
  R (.bool false) ww154))))))

theorem cachettelaw23_ForkcheckFinds.eq (a1a : Option Addr) (a1n : Nat) (a1c : Nat) (b2a : Option Addr) (b2n : Nat) (b2c : Nat) (hWriter3 : Int) (hLen4 : Int) (hSum5 : Int) (sums6a : Option Addr) (sums6n : Nat) (sums6c : Nat) (R : Value → World → Prop) (w : World) : mfunc Try.prog [] 4 [.slice a1a a1n a1c, .slice b2a b2n b2c, .agg #[.int .i64 hWriter3, .int .i64 hLen4, .int .u64 hSum5], .slice sums6a sums6n sums6c] R w = cachettelaw23_ForkcheckFinds.M a1a a1n a1c b2a b2n b2c hWriter3 hLen4 hSum5 sums6a sums6n sums6c R w := by kernel_rfl
theorem cachettelaw23_ForkcheckFinds.ok (a1a : Option Addr) (a1n : Nat) (a1c : Nat) (b2a : Option Addr) (b2n : Nat) (b2c : Nat) (hWriter3 : Int) (hLen4 : Int) (hSum5 : Int) (sums6a : Option Addr) (sums6n : Nat) (sums6c : Nat) {R : Value → World → Prop} {w : World} (h : cachettelaw23_ForkcheckFinds.M a1a a1n a1c b2a b2n b2c hWriter3 hLen4 hSum5 sums6a sums6n sums6c R w) : Calls Try.prog 4 #[.slice a1a a1n a1c, .slice b2a b2n b2c, .agg #[.int .i64 hWriter3, .int .i64 hLen4, .int .u64 hSum5], .slice sums6a sums6n sums6c] w fun e w' => ∃ v, e = .returned v ∧ R v w' :=
  mfunc_ok follows (H := []) (args := [.slice a1a a1n a1c, .slice b2a b2n b2c, .agg #[.int .i64 hWriter3, .int .i64 hLen4, .int .u64 hSum5], .slice sums6a sums6n sums6c]) (by rw [cachettelaw23_ForkcheckFinds.eq]; exact h)

def cachettelaw23_ForkcheckFinds.N (a1a : Option Addr) (a1n : Nat) (a1c : Nat) (b2a : Option Addr) (b2n : Nat) (b2c : Nat) (hWriter3 : Int) (hLen4 : Int) (hSum5 : Int) (sums6a : Option Addr) (sums6n : Nat) (sums6c : Nat) (R : Value → World → Prop) (w : World) : Prop :=
  ((a1n : Int) > 40 →
    ∀ (ww7 : World), Ext no w ww7 →
    Calls Try.prog 9 #[] ww7 fun ee11 ww12 => ∃ (alive10 : Bool), ee11 = .returned (.bool alive10) ∧
    R (.bool alive10) ww12) ∧
  ((a1n : Int) ≤ 40 →
    ((b2n : Int) > 40 →
      ∀ (ww7 : World), Ext no w ww7 →
      Calls Try.prog 9 #[] ww7 fun ee16 ww17 => ∃ (alive15 : Bool), ee16 = .returned (.bool alive15) ∧
      R (.bool alive15) ww17) ∧
    ((b2n : Int) ≤ 40 →
      ((sums6n : Int) > 60 →
        ∀ (ww7 : World), Ext no w ww7 →
        Calls Try.prog 9 #[] ww7 fun ee21 ww22 => ∃ (alive20 : Bool), ee21 = .returned (.bool alive20) ∧
        R (.bool alive20) ww22) ∧
      ((sums6n : Int) ≤ 60 →
        ∀ (ww7 : World) (p23 : Nat), Ext no w ww7 → Priv w ww7 [p23] →
        Calls Try.prog 8 #[.slice a1a a1n a1c] ww7 fun ee25 ww26 => ∃ (short24 : Bool), ee25 = .returned (.bool short24) ∧
        Keep [p23] ww7 ww26 ∧
        (short24 = false →
          Calls Try.prog 9 #[] ww26 fun ee29 ww30 => ∃ (alive28 : Bool), ee29 = .returned (.bool alive28) ∧
          R (.bool alive28) ww30) ∧
        (short24 = true →
          Calls Try.prog 8 #[.slice b2a b2n b2c] ww26 fun ee32 ww33 => ∃ (short31 : Bool), ee32 = .returned (.bool short31) ∧
          Keep [p23] ww26 ww33 ∧
          (short31 = false →
            Calls Try.prog 9 #[] ww33 fun ee36 ww37 => ∃ (alive35 : Bool), ee36 = .returned (.bool alive35) ∧
            R (.bool alive35) ww37) ∧
          (short31 = true →
            Calls Try.prog 18 #[.slice a1a a1n a1c, .slice b2a b2n b2c] ww33 fun ee55 ww56 => ∃ (AWriter38 : Int) (AIndex39 : Int) (APrev40 : Int) (AAtT41 : Int) (AAtW42 : Int) (AEpoch43 : Int) (ABody44a : Option Addr) (ABody44n : Nat) (ABody44c : Nat) (ASig45 : Int) (BWriter46 : Int) (BIndex47 : Int) (BPrev48 : Int) (BAtT49 : Int) (BAtW50 : Int) (BEpoch51 : Int) (BBody52a : Option Addr) (BBody52n : Nat) (BBody52c : Nat) (BSig53 : Int) (find54 : Bool), ee55 = .returned (.tuple #[.agg #[.int .i64 AWriter38, .int .i64 AIndex39, .int .u64 APrev40, .int .i64 AAtT41, .int .i64 AAtW42, .int .i64 AEpoch43, .slice ABody44a ABody44n ABody44c, .int .u64 ASig45, .int .i64 BWriter46, .int .i64 BIndex47, .int .u64 BPrev48, .int .i64 BAtT49, .int .i64 BAtW50, .int .i64 BEpoch51, .slice BBody52a BBody52n BBody52c, .int .u64 BSig53], .bool find54]) ∧
            Keep [p23] ww33 ww56 ∧
            ∀ (ww73 : World) (p74 : Nat), Ext no ww56 ww73 → Priv ww56 ww73 [p74] →
            Calls Try.prog 19 #[.slice a1a a1n a1c, .slice b2a b2n b2c] ww73 fun ee92 ww93 => ∃ (AWriter75 : Int) (AIndex76 : Int) (APrev77 : Int) (AAtT78 : Int) (AAtW79 : Int) (AEpoch80 : Int) (ABody81a : Option Addr) (ABody81n : Nat) (ABody81c : Nat) (ASig82 : Int) (BWriter83 : Int) (BIndex84 : Int) (BPrev85 : Int) (BAtT86 : Int) (BAtW87 : Int) (BEpoch88 : Int) (BBody89a : Option Addr) (BBody89n : Nat) (BBody89c : Nat) (BSig90 : Int) (find91 : Bool), ee92 = .returned (.tuple #[.agg #[.int .i64 AWriter75, .int .i64 AIndex76, .int .u64 APrev77, .int .i64 AAtT78, .int .i64 AAtW79, .int .i64 AEpoch80, .slice ABody81a ABody81n ABody81c, .int .u64 ASig82, .int .i64 BWriter83, .int .i64 BIndex84, .int .u64 BPrev85, .int .i64 BAtT86, .int .i64 BAtW87, .int .i64 BEpoch88, .slice BBody89a BBody89n BBody89c, .int .u64 BSig90], .bool find91]) ∧
            Keep [p23, p74] ww73 ww93 ∧
            ∀ (ww111 : World) (p112 : Nat), Ext no ww93 ww111 → Priv ww93 ww111 [p112] →
            Calls Try.prog 21 #[.agg #[.int .i64 AWriter38, .int .i64 AIndex39, .int .u64 APrev40, .int .i64 AAtT41, .int .i64 AAtW42, .int .i64 AEpoch43, .slice ABody44a ABody44n ABody44c, .int .u64 ASig45, .int .i64 BWriter46, .int .i64 BIndex47, .int .u64 BPrev48, .int .i64 BAtT49, .int .i64 BAtW50, .int .i64 BEpoch51, .slice BBody52a BBody52n BBody52c, .int .u64 BSig53]] ww111 fun ee129 ww130 => ∃ (AWriter113 : Int) (AIndex114 : Int) (APrev115 : Int) (AAtT116 : Int) (AAtW117 : Int) (AEpoch118 : Int) (ABody119a : Option Addr) (ABody119n : Nat) (ABody119c : Nat) (ASig120 : Int) (BWriter121 : Int) (BIndex122 : Int) (BPrev123 : Int) (BAtT124 : Int) (BAtW125 : Int) (BEpoch126 : Int) (BBody127a : Option Addr) (BBody127n : Nat) (BBody127c : Nat) (BSig128 : Int), ee129 = .returned (.agg #[.int .i64 AWriter113, .int .i64 AIndex114, .int .u64 APrev115, .int .i64 AAtT116, .int .i64 AAtW117, .int .i64 AEpoch118, .slice ABody119a ABody119n ABody119c, .int .u64 ASig120, .int .i64 BWriter121, .int .i64 BIndex122, .int .u64 BPrev123, .int .i64 BAtT124, .int .i64 BAtW125, .int .i64 BEpoch126, .slice BBody127a BBody127n BBody127c, .int .u64 BSig128]) ∧
            Keep [p23, p112] ww111 ww130 ∧
            Calls Try.prog 20 #[.agg #[.int .i64 AWriter113, .int .i64 AIndex114, .int .u64 APrev115, .int .i64 AAtT116, .int .i64 AAtW117, .int .i64 AEpoch118, .slice ABody119a ABody119n ABody119c, .int .u64 ASig120, .int .i64 BWriter121, .int .i64 BIndex122, .int .u64 BPrev123, .int .i64 BAtT124, .int .i64 BAtW125, .int .i64 BEpoch126, .slice BBody127a BBody127n BBody127c, .int .u64 BSig128], .agg #[.int .i64 AWriter75, .int .i64 AIndex76, .int .u64 APrev77, .int .i64 AAtT78, .int .i64 AAtW79, .int .i64 AEpoch80, .slice ABody81a ABody81n ABody81c, .int .u64 ASig82, .int .i64 BWriter83, .int .i64 BIndex84, .int .u64 BPrev85, .int .i64 BAtT86, .int .i64 BAtW87, .int .i64 BEpoch88, .slice BBody89a BBody89n BBody89c, .int .u64 BSig90]] ww130 fun ee132 ww133 => ∃ (same131 : Bool), ee132 = .returned (.bool same131) ∧
            Keep [p23] ww130 ww133 ∧
            (same131 = true →
              (find54 = find91 →
                Calls Try.prog 22 #[.slice a1a a1n a1c, .agg #[.int .i64 hWriter3, .int .i64 hLen4, .int .u64 hSum5], .slice sums6a sums6n sums6c] ww133 fun ee137 ww138 => ∃ (odd136 : Bool), ee137 = .returned (.bool odd136) ∧
                Keep [p23] ww133 ww138 ∧
                Calls Try.prog 23 #[.slice a1a a1n a1c, .agg #[.int .i64 hWriter3, .int .i64 hLen4, .int .u64 hSum5], .slice sums6a sums6n sums6c] ww138 fun ee140 ww141 => ∃ (odd139 : Bool), ee140 = .returned (.bool odd139) ∧
                (odd136 = odd139 →
                  Calls Try.prog 9 #[] ww141 fun ee144 ww145 => ∃ (alive143 : Bool), ee144 = .returned (.bool alive143) ∧
                  R (.bool alive143) ww145) ∧
                (odd136 ≠ odd139 →
                  R (.bool false) ww141)) ∧
              (find54 ≠ find91 →
                R (.bool false) ww133)) ∧
            (same131 = false →
              R (.bool false) ww133))))))

theorem cachettelaw23_ForkcheckFinds.up (a1a : Option Addr) (a1n : Nat) (a1c : Nat) (b2a : Option Addr) (b2n : Nat) (b2c : Nat) (hWriter3 : Int) (hLen4 : Int) (hSum5 : Int) (sums6a : Option Addr) (sums6n : Nat) (sums6c : Nat) {R : Value → World → Prop} {w : World} (h : cachettelaw23_ForkcheckFinds.N a1a a1n a1c b2a b2n b2c hWriter3 hLen4 hSum5 sums6a sums6n sums6c R w) : cachettelaw23_ForkcheckFinds.M a1a a1n a1c b2a b2n b2c hWriter3 hLen4 hSum5 sums6a sums6n sums6c R w := by
  unfold cachettelaw23_ForkcheckFinds.M
  unfold cachettelaw23_ForkcheckFinds.N at h
  refine thenW_in fun ww7 e7 => ?_
  have hb1 := Blk.of_new e7
  have hg1 := ((Ext.refl no w)).size
  have hx7 := (Ext.refl no w).x_alloc e7
  refine bif_of (fun c8 => ?_) (fun c8 => ?_)
  · have h := h.1 (of_decide_eq_true c8)
    have h := h ww7 hx7
    refine h.mono fun ee11 ww12 h => ?_
    obtain ⟨alive10, he, h⟩ := h
    refine ⟨alive10, he, ?_⟩
    exact h
  · have h := h.2 (Int.not_lt.1 (of_decide_eq_false c8))
    refine bif_of (fun c13 => ?_) (fun c13 => ?_)
    · have h := h.1 (of_decide_eq_true c13)
      have h := h ww7 hx7
      refine h.mono fun ee16 ww17 h => ?_
      obtain ⟨alive15, he, h⟩ := h
      refine ⟨alive15, he, ?_⟩
      exact h
    · have h := h.2 (Int.not_lt.1 (of_decide_eq_false c13))
      refine bif_of (fun c18 => ?_) (fun c18 => ?_)
      · have h := h.1 (of_decide_eq_true c18)
        have h := h ww7 hx7
        refine h.mono fun ee21 ww22 h => ?_
        obtain ⟨alive20, he, h⟩ := h
        refine ⟨alive20, he, ?_⟩
        exact h
      · have h := h.2 (Int.not_lt.1 (of_decide_eq_false c18))
        have h := h ww7 (w.heap.size) hx7 (Priv.cons hg1 hb1.lt Priv.nil)
        refine h.mono fun ee25 ww26 h => ?_
        obtain ⟨short24, he, hk, h⟩ := h
        refine ⟨short24, he, ?_⟩
        have hb1 := hk.blk hb1 (by simp)
        refine bif_of (fun c27 => ?_) (fun c27 => ?_)
        · have h := h.1 (not_t c27)
          refine h.mono fun ee29 ww30 h => ?_
          obtain ⟨alive28, he, h⟩ := h
          refine ⟨alive28, he, ?_⟩
          exact h
        · have h := h.2 (not_f c27)
          refine h.mono fun ee32 ww33 h => ?_
          obtain ⟨short31, he, hk, h⟩ := h
          refine ⟨short31, he, ?_⟩
          have hb1 := hk.blk hb1 (by simp)
          refine bif_of (fun c34 => ?_) (fun c34 => ?_)
          · have h := h.1 (not_t c34)
            refine h.mono fun ee36 ww37 h => ?_
            obtain ⟨alive35, he, h⟩ := h
            refine ⟨alive35, he, ?_⟩
            exact h
          · have h := h.2 (not_f c34)
            refine h.mono fun ee55 ww56 h => ?_
            obtain ⟨AWriter38, AIndex39, APrev40, AAtT41, AAtW42, AEpoch43, ABody44a, ABody44n, ABody44c, ASig45, BWriter46, BIndex47, BPrev48, BAtT49, BAtW50, BEpoch51, BBody52a, BBody52n, BBody52c, BSig53, find54, he, hk, h⟩ := h
            refine ⟨AWriter38, AIndex39, APrev40, AAtT41, AAtW42, AEpoch43, ABody44a, ABody44n, ABody44c, ASig45, BWriter46, BIndex47, BPrev48, BAtT49, BAtW50, BEpoch51, BBody52a, BBody52n, BBody52c, BSig53, find54, he, ?_⟩
            have hb1 := hk.blk hb1 (by simp)
            refine thenW_in fun ww57 e57 => ?_
            have hb2 := Blk.of_new e57
            have hg2 := ((Ext.refl no ww56)).size
            have hb1_2 := Nat.ne_of_lt hb1.lt
            have hb1 := hb1.x_alloc e57
            have hx57 := (Ext.refl no ww56).x_alloc e57
            refine ⟨hb2.cani 0 rfl rfl, thenW_in fun ww58 e58 => ?_⟩
            have hx58 := hx57.x_set (q := ww56.heap.size) (i := 0) rfl (.inr hg2) e58
            have hb1 := hb1.oth (q := ww56.heap.size) (i := 0) rfl hb1_2 e58
            have hb2 : Blk ww58 ww56.heap.size 48 [.int .i64 AWriter38, .int .i64 0, .int .u64 0, .int .i64 0, .int .i64 0, .int .i64 0, .slice none 0 0, .int .u64 0, .int .i64 0, .int .i64 0, .int .u64 0, .int .i64 0, .int .i64 0, .int .i64 0, .slice none 0 0, .int .u64 0] := hb2.seti 0 rfl e58
            refine ⟨hb2.cani 1 rfl rfl, thenW_in fun ww59 e59 => ?_⟩
            have hx59 := hx58.x_set (q := ww56.heap.size) (i := 1) rfl (.inr hg2) e59
            have hb1 := hb1.oth (q := ww56.heap.size) (i := 1) rfl hb1_2 e59
            have hb2 : Blk ww59 ww56.heap.size 48 [.int .i64 AWriter38, .int .i64 AIndex39, .int .u64 0, .int .i64 0, .int .i64 0, .int .i64 0, .slice none 0 0, .int .u64 0, .int .i64 0, .int .i64 0, .int .u64 0, .int .i64 0, .int .i64 0, .int .i64 0, .slice none 0 0, .int .u64 0] := hb2.seti 1 rfl e59
            refine ⟨hb2.cani 2 rfl rfl, thenW_in fun ww60 e60 => ?_⟩
            have hx60 := hx59.x_set (q := ww56.heap.size) (i := 2) rfl (.inr hg2) e60
            have hb1 := hb1.oth (q := ww56.heap.size) (i := 2) rfl hb1_2 e60
            have hb2 : Blk ww60 ww56.heap.size 48 [.int .i64 AWriter38, .int .i64 AIndex39, .int .u64 APrev40, .int .i64 0, .int .i64 0, .int .i64 0, .slice none 0 0, .int .u64 0, .int .i64 0, .int .i64 0, .int .u64 0, .int .i64 0, .int .i64 0, .int .i64 0, .slice none 0 0, .int .u64 0] := hb2.seti 2 rfl e60
            refine ⟨hb2.cani 3 rfl rfl, thenW_in fun ww61 e61 => ?_⟩
            have hx61 := hx60.x_set (q := ww56.heap.size) (i := 3) rfl (.inr hg2) e61
            have hb1 := hb1.oth (q := ww56.heap.size) (i := 3) rfl hb1_2 e61
            have hb2 : Blk ww61 ww56.heap.size 48 [.int .i64 AWriter38, .int .i64 AIndex39, .int .u64 APrev40, .int .i64 AAtT41, .int .i64 0, .int .i64 0, .slice none 0 0, .int .u64 0, .int .i64 0, .int .i64 0, .int .u64 0, .int .i64 0, .int .i64 0, .int .i64 0, .slice none 0 0, .int .u64 0] := hb2.seti 3 rfl e61
            refine ⟨hb2.cani 4 rfl rfl, thenW_in fun ww62 e62 => ?_⟩
            have hx62 := hx61.x_set (q := ww56.heap.size) (i := 4) rfl (.inr hg2) e62
            have hb1 := hb1.oth (q := ww56.heap.size) (i := 4) rfl hb1_2 e62
            have hb2 : Blk ww62 ww56.heap.size 48 [.int .i64 AWriter38, .int .i64 AIndex39, .int .u64 APrev40, .int .i64 AAtT41, .int .i64 AAtW42, .int .i64 0, .slice none 0 0, .int .u64 0, .int .i64 0, .int .i64 0, .int .u64 0, .int .i64 0, .int .i64 0, .int .i64 0, .slice none 0 0, .int .u64 0] := hb2.seti 4 rfl e62
            refine ⟨hb2.cani 5 rfl rfl, thenW_in fun ww63 e63 => ?_⟩
            have hx63 := hx62.x_set (q := ww56.heap.size) (i := 5) rfl (.inr hg2) e63
            have hb1 := hb1.oth (q := ww56.heap.size) (i := 5) rfl hb1_2 e63
            have hb2 : Blk ww63 ww56.heap.size 48 [.int .i64 AWriter38, .int .i64 AIndex39, .int .u64 APrev40, .int .i64 AAtT41, .int .i64 AAtW42, .int .i64 AEpoch43, .slice none 0 0, .int .u64 0, .int .i64 0, .int .i64 0, .int .u64 0, .int .i64 0, .int .i64 0, .int .i64 0, .slice none 0 0, .int .u64 0] := hb2.seti 5 rfl e63
            refine ⟨hb2.cani 6 rfl rfl, thenW_in fun ww64 e64 => ?_⟩
            have hx64 := hx63.x_set (q := ww56.heap.size) (i := 6) rfl (.inr hg2) e64
            have hb1 := hb1.oth (q := ww56.heap.size) (i := 6) rfl hb1_2 e64
            have hb2 : Blk ww64 ww56.heap.size 48 [.int .i64 AWriter38, .int .i64 AIndex39, .int .u64 APrev40, .int .i64 AAtT41, .int .i64 AAtW42, .int .i64 AEpoch43, .slice ABody44a ABody44n ABody44c, .int .u64 0, .int .i64 0, .int .i64 0, .int .u64 0, .int .i64 0, .int .i64 0, .int .i64 0, .slice none 0 0, .int .u64 0] := hb2.seti 6 rfl e64
            refine ⟨hb2.cani 7 rfl rfl, thenW_in fun ww65 e65 => ?_⟩
            have hx65 := hx64.x_set (q := ww56.heap.size) (i := 7) rfl (.inr hg2) e65
            have hb1 := hb1.oth (q := ww56.heap.size) (i := 7) rfl hb1_2 e65
            have hb2 : Blk ww65 ww56.heap.size 48 [.int .i64 AWriter38, .int .i64 AIndex39, .int .u64 APrev40, .int .i64 AAtT41, .int .i64 AAtW42, .int .i64 AEpoch43, .slice ABody44a ABody44n ABody44c, .int .u64 ASig45, .int .i64 0, .int .i64 0, .int .u64 0, .int .i64 0, .int .i64 0, .int .i64 0, .slice none 0 0, .int .u64 0] := hb2.seti 7 rfl e65
            refine ⟨hb2.cani 8 rfl rfl, thenW_in fun ww66 e66 => ?_⟩
            have hx66 := hx65.x_set (q := ww56.heap.size) (i := 8) rfl (.inr hg2) e66
            have hb1 := hb1.oth (q := ww56.heap.size) (i := 8) rfl hb1_2 e66
            have hb2 : Blk ww66 ww56.heap.size 48 [.int .i64 AWriter38, .int .i64 AIndex39, .int .u64 APrev40, .int .i64 AAtT41, .int .i64 AAtW42, .int .i64 AEpoch43, .slice ABody44a ABody44n ABody44c, .int .u64 ASig45, .int .i64 BWriter46, .int .i64 0, .int .u64 0, .int .i64 0, .int .i64 0, .int .i64 0, .slice none 0 0, .int .u64 0] := hb2.seti 8 rfl e66
            refine ⟨hb2.cani 9 rfl rfl, thenW_in fun ww67 e67 => ?_⟩
            have hx67 := hx66.x_set (q := ww56.heap.size) (i := 9) rfl (.inr hg2) e67
            have hb1 := hb1.oth (q := ww56.heap.size) (i := 9) rfl hb1_2 e67
            have hb2 : Blk ww67 ww56.heap.size 48 [.int .i64 AWriter38, .int .i64 AIndex39, .int .u64 APrev40, .int .i64 AAtT41, .int .i64 AAtW42, .int .i64 AEpoch43, .slice ABody44a ABody44n ABody44c, .int .u64 ASig45, .int .i64 BWriter46, .int .i64 BIndex47, .int .u64 0, .int .i64 0, .int .i64 0, .int .i64 0, .slice none 0 0, .int .u64 0] := hb2.seti 9 rfl e67
            refine ⟨hb2.cani 10 rfl rfl, thenW_in fun ww68 e68 => ?_⟩
            have hx68 := hx67.x_set (q := ww56.heap.size) (i := 10) rfl (.inr hg2) e68
            have hb1 := hb1.oth (q := ww56.heap.size) (i := 10) rfl hb1_2 e68
            have hb2 : Blk ww68 ww56.heap.size 48 [.int .i64 AWriter38, .int .i64 AIndex39, .int .u64 APrev40, .int .i64 AAtT41, .int .i64 AAtW42, .int .i64 AEpoch43, .slice ABody44a ABody44n ABody44c, .int .u64 ASig45, .int .i64 BWriter46, .int .i64 BIndex47, .int .u64 BPrev48, .int .i64 0, .int .i64 0, .int .i64 0, .slice none 0 0, .int .u64 0] := hb2.seti 10 rfl e68
            refine ⟨hb2.cani 11 rfl rfl, thenW_in fun ww69 e69 => ?_⟩
            have hx69 := hx68.x_set (q := ww56.heap.size) (i := 11) rfl (.inr hg2) e69
            have hb1 := hb1.oth (q := ww56.heap.size) (i := 11) rfl hb1_2 e69
            have hb2 : Blk ww69 ww56.heap.size 48 [.int .i64 AWriter38, .int .i64 AIndex39, .int .u64 APrev40, .int .i64 AAtT41, .int .i64 AAtW42, .int .i64 AEpoch43, .slice ABody44a ABody44n ABody44c, .int .u64 ASig45, .int .i64 BWriter46, .int .i64 BIndex47, .int .u64 BPrev48, .int .i64 BAtT49, .int .i64 0, .int .i64 0, .slice none 0 0, .int .u64 0] := hb2.seti 11 rfl e69
            refine ⟨hb2.cani 12 rfl rfl, thenW_in fun ww70 e70 => ?_⟩
            have hx70 := hx69.x_set (q := ww56.heap.size) (i := 12) rfl (.inr hg2) e70
            have hb1 := hb1.oth (q := ww56.heap.size) (i := 12) rfl hb1_2 e70
            have hb2 : Blk ww70 ww56.heap.size 48 [.int .i64 AWriter38, .int .i64 AIndex39, .int .u64 APrev40, .int .i64 AAtT41, .int .i64 AAtW42, .int .i64 AEpoch43, .slice ABody44a ABody44n ABody44c, .int .u64 ASig45, .int .i64 BWriter46, .int .i64 BIndex47, .int .u64 BPrev48, .int .i64 BAtT49, .int .i64 BAtW50, .int .i64 0, .slice none 0 0, .int .u64 0] := hb2.seti 12 rfl e70
            refine ⟨hb2.cani 13 rfl rfl, thenW_in fun ww71 e71 => ?_⟩
            have hx71 := hx70.x_set (q := ww56.heap.size) (i := 13) rfl (.inr hg2) e71
            have hb1 := hb1.oth (q := ww56.heap.size) (i := 13) rfl hb1_2 e71
            have hb2 : Blk ww71 ww56.heap.size 48 [.int .i64 AWriter38, .int .i64 AIndex39, .int .u64 APrev40, .int .i64 AAtT41, .int .i64 AAtW42, .int .i64 AEpoch43, .slice ABody44a ABody44n ABody44c, .int .u64 ASig45, .int .i64 BWriter46, .int .i64 BIndex47, .int .u64 BPrev48, .int .i64 BAtT49, .int .i64 BAtW50, .int .i64 BEpoch51, .slice none 0 0, .int .u64 0] := hb2.seti 13 rfl e71
            refine ⟨hb2.cani 14 rfl rfl, thenW_in fun ww72 e72 => ?_⟩
            have hx72 := hx71.x_set (q := ww56.heap.size) (i := 14) rfl (.inr hg2) e72
            have hb1 := hb1.oth (q := ww56.heap.size) (i := 14) rfl hb1_2 e72
            have hb2 : Blk ww72 ww56.heap.size 48 [.int .i64 AWriter38, .int .i64 AIndex39, .int .u64 APrev40, .int .i64 AAtT41, .int .i64 AAtW42, .int .i64 AEpoch43, .slice ABody44a ABody44n ABody44c, .int .u64 ASig45, .int .i64 BWriter46, .int .i64 BIndex47, .int .u64 BPrev48, .int .i64 BAtT49, .int .i64 BAtW50, .int .i64 BEpoch51, .slice BBody52a BBody52n BBody52c, .int .u64 0] := hb2.seti 14 rfl e72
            refine ⟨hb2.cani 15 rfl rfl, thenW_in fun ww73 e73 => ?_⟩
            have hx73 := hx72.x_set (q := ww56.heap.size) (i := 15) rfl (.inr hg2) e73
            have hb1 := hb1.oth (q := ww56.heap.size) (i := 15) rfl hb1_2 e73
            have hb2 : Blk ww73 ww56.heap.size 48 [.int .i64 AWriter38, .int .i64 AIndex39, .int .u64 APrev40, .int .i64 AAtT41, .int .i64 AAtW42, .int .i64 AEpoch43, .slice ABody44a ABody44n ABody44c, .int .u64 ASig45, .int .i64 BWriter46, .int .i64 BIndex47, .int .u64 BPrev48, .int .i64 BAtT49, .int .i64 BAtW50, .int .i64 BEpoch51, .slice BBody52a BBody52n BBody52c, .int .u64 BSig53] := hb2.seti 15 rfl e73
            have h := h ww73 (ww56.heap.size) hx73 (Priv.cons hg2 hb2.lt Priv.nil)
            refine h.mono fun ee92 ww93 h => ?_
            obtain ⟨AWriter75, AIndex76, APrev77, AAtT78, AAtW79, AEpoch80, ABody81a, ABody81n, ABody81c, ASig82, BWriter83, BIndex84, BPrev85, BAtT86, BAtW87, BEpoch88, BBody89a, BBody89n, BBody89c, BSig90, find91, he, hk, h⟩ := h
            refine ⟨AWriter75, AIndex76, APrev77, AAtT78, AAtW79, AEpoch80, ABody81a, ABody81n, ABody81c, ASig82, BWriter83, BIndex84, BPrev85, BAtT86, BAtW87, BEpoch88, BBody89a, BBody89n, BBody89c, BSig90, find91, he, ?_⟩
            have hb1 := hk.blk hb1 (by simp)
            have hb2 := hk.blk hb2 (by simp)
            refine thenW_in fun ww94 e94 => ?_
            have hb3 := Blk.of_new e94
            have hg3 := ((Ext.refl no ww93)).size
            have hb1_3 := Nat.ne_of_lt hb1.lt
            have hb1 := hb1.x_alloc e94
            have hb2_3 := Nat.ne_of_lt hb2.lt
            have hb2 := hb2.x_alloc e94
            have hx94 := (Ext.refl no ww93).x_alloc e94
            refine ⟨hb3.cani 0 rfl rfl, thenW_in fun ww95 e95 => ?_⟩
            have hx95 := hx94.x_set (q := ww93.heap.size) (i := 0) rfl (.inr hg3) e95
            have hb1 := hb1.oth (q := ww93.heap.size) (i := 0) rfl hb1_3 e95
            have hb2 := hb2.oth (q := ww93.heap.size) (i := 0) rfl hb2_3 e95
            have hb3 : Blk ww95 ww93.heap.size 50 [.int .i64 AWriter75, .int .i64 0, .int .u64 0, .int .i64 0, .int .i64 0, .int .i64 0, .slice none 0 0, .int .u64 0, .int .i64 0, .int .i64 0, .int .u64 0, .int .i64 0, .int .i64 0, .int .i64 0, .slice none 0 0, .int .u64 0] := hb3.seti 0 rfl e95
            refine ⟨hb3.cani 1 rfl rfl, thenW_in fun ww96 e96 => ?_⟩
            have hx96 := hx95.x_set (q := ww93.heap.size) (i := 1) rfl (.inr hg3) e96
            have hb1 := hb1.oth (q := ww93.heap.size) (i := 1) rfl hb1_3 e96
            have hb2 := hb2.oth (q := ww93.heap.size) (i := 1) rfl hb2_3 e96
            have hb3 : Blk ww96 ww93.heap.size 50 [.int .i64 AWriter75, .int .i64 AIndex76, .int .u64 0, .int .i64 0, .int .i64 0, .int .i64 0, .slice none 0 0, .int .u64 0, .int .i64 0, .int .i64 0, .int .u64 0, .int .i64 0, .int .i64 0, .int .i64 0, .slice none 0 0, .int .u64 0] := hb3.seti 1 rfl e96
            refine ⟨hb3.cani 2 rfl rfl, thenW_in fun ww97 e97 => ?_⟩
            have hx97 := hx96.x_set (q := ww93.heap.size) (i := 2) rfl (.inr hg3) e97
            have hb1 := hb1.oth (q := ww93.heap.size) (i := 2) rfl hb1_3 e97
            have hb2 := hb2.oth (q := ww93.heap.size) (i := 2) rfl hb2_3 e97
            have hb3 : Blk ww97 ww93.heap.size 50 [.int .i64 AWriter75, .int .i64 AIndex76, .int .u64 APrev77, .int .i64 0, .int .i64 0, .int .i64 0, .slice none 0 0, .int .u64 0, .int .i64 0, .int .i64 0, .int .u64 0, .int .i64 0, .int .i64 0, .int .i64 0, .slice none 0 0, .int .u64 0] := hb3.seti 2 rfl e97
            refine ⟨hb3.cani 3 rfl rfl, thenW_in fun ww98 e98 => ?_⟩
            have hx98 := hx97.x_set (q := ww93.heap.size) (i := 3) rfl (.inr hg3) e98
            have hb1 := hb1.oth (q := ww93.heap.size) (i := 3) rfl hb1_3 e98
            have hb2 := hb2.oth (q := ww93.heap.size) (i := 3) rfl hb2_3 e98
            have hb3 : Blk ww98 ww93.heap.size 50 [.int .i64 AWriter75, .int .i64 AIndex76, .int .u64 APrev77, .int .i64 AAtT78, .int .i64 0, .int .i64 0, .slice none 0 0, .int .u64 0, .int .i64 0, .int .i64 0, .int .u64 0, .int .i64 0, .int .i64 0, .int .i64 0, .slice none 0 0, .int .u64 0] := hb3.seti 3 rfl e98
            refine ⟨hb3.cani 4 rfl rfl, thenW_in fun ww99 e99 => ?_⟩
            have hx99 := hx98.x_set (q := ww93.heap.size) (i := 4) rfl (.inr hg3) e99
            have hb1 := hb1.oth (q := ww93.heap.size) (i := 4) rfl hb1_3 e99
            have hb2 := hb2.oth (q := ww93.heap.size) (i := 4) rfl hb2_3 e99
            have hb3 : Blk ww99 ww93.heap.size 50 [.int .i64 AWriter75, .int .i64 AIndex76, .int .u64 APrev77, .int .i64 AAtT78, .int .i64 AAtW79, .int .i64 0, .slice none 0 0, .int .u64 0, .int .i64 0, .int .i64 0, .int .u64 0, .int .i64 0, .int .i64 0, .int .i64 0, .slice none 0 0, .int .u64 0] := hb3.seti 4 rfl e99
            refine ⟨hb3.cani 5 rfl rfl, thenW_in fun ww100 e100 => ?_⟩
            have hx100 := hx99.x_set (q := ww93.heap.size) (i := 5) rfl (.inr hg3) e100
            have hb1 := hb1.oth (q := ww93.heap.size) (i := 5) rfl hb1_3 e100
            have hb2 := hb2.oth (q := ww93.heap.size) (i := 5) rfl hb2_3 e100
            have hb3 : Blk ww100 ww93.heap.size 50 [.int .i64 AWriter75, .int .i64 AIndex76, .int .u64 APrev77, .int .i64 AAtT78, .int .i64 AAtW79, .int .i64 AEpoch80, .slice none 0 0, .int .u64 0, .int .i64 0, .int .i64 0, .int .u64 0, .int .i64 0, .int .i64 0, .int .i64 0, .slice none 0 0, .int .u64 0] := hb3.seti 5 rfl e100
            refine ⟨hb3.cani 6 rfl rfl, thenW_in fun ww101 e101 => ?_⟩
            have hx101 := hx100.x_set (q := ww93.heap.size) (i := 6) rfl (.inr hg3) e101
            have hb1 := hb1.oth (q := ww93.heap.size) (i := 6) rfl hb1_3 e101
            have hb2 := hb2.oth (q := ww93.heap.size) (i := 6) rfl hb2_3 e101
            have hb3 : Blk ww101 ww93.heap.size 50 [.int .i64 AWriter75, .int .i64 AIndex76, .int .u64 APrev77, .int .i64 AAtT78, .int .i64 AAtW79, .int .i64 AEpoch80, .slice ABody81a ABody81n ABody81c, .int .u64 0, .int .i64 0, .int .i64 0, .int .u64 0, .int .i64 0, .int .i64 0, .int .i64 0, .slice none 0 0, .int .u64 0] := hb3.seti 6 rfl e101
            refine ⟨hb3.cani 7 rfl rfl, thenW_in fun ww102 e102 => ?_⟩
            have hx102 := hx101.x_set (q := ww93.heap.size) (i := 7) rfl (.inr hg3) e102
            have hb1 := hb1.oth (q := ww93.heap.size) (i := 7) rfl hb1_3 e102
            have hb2 := hb2.oth (q := ww93.heap.size) (i := 7) rfl hb2_3 e102
            have hb3 : Blk ww102 ww93.heap.size 50 [.int .i64 AWriter75, .int .i64 AIndex76, .int .u64 APrev77, .int .i64 AAtT78, .int .i64 AAtW79, .int .i64 AEpoch80, .slice ABody81a ABody81n ABody81c, .int .u64 ASig82, .int .i64 0, .int .i64 0, .int .u64 0, .int .i64 0, .int .i64 0, .int .i64 0, .slice none 0 0, .int .u64 0] := hb3.seti 7 rfl e102
            refine ⟨hb3.cani 8 rfl rfl, thenW_in fun ww103 e103 => ?_⟩
            have hx103 := hx102.x_set (q := ww93.heap.size) (i := 8) rfl (.inr hg3) e103
            have hb1 := hb1.oth (q := ww93.heap.size) (i := 8) rfl hb1_3 e103
            have hb2 := hb2.oth (q := ww93.heap.size) (i := 8) rfl hb2_3 e103
            have hb3 : Blk ww103 ww93.heap.size 50 [.int .i64 AWriter75, .int .i64 AIndex76, .int .u64 APrev77, .int .i64 AAtT78, .int .i64 AAtW79, .int .i64 AEpoch80, .slice ABody81a ABody81n ABody81c, .int .u64 ASig82, .int .i64 BWriter83, .int .i64 0, .int .u64 0, .int .i64 0, .int .i64 0, .int .i64 0, .slice none 0 0, .int .u64 0] := hb3.seti 8 rfl e103
            refine ⟨hb3.cani 9 rfl rfl, thenW_in fun ww104 e104 => ?_⟩
            have hx104 := hx103.x_set (q := ww93.heap.size) (i := 9) rfl (.inr hg3) e104
            have hb1 := hb1.oth (q := ww93.heap.size) (i := 9) rfl hb1_3 e104
            have hb2 := hb2.oth (q := ww93.heap.size) (i := 9) rfl hb2_3 e104
            have hb3 : Blk ww104 ww93.heap.size 50 [.int .i64 AWriter75, .int .i64 AIndex76, .int .u64 APrev77, .int .i64 AAtT78, .int .i64 AAtW79, .int .i64 AEpoch80, .slice ABody81a ABody81n ABody81c, .int .u64 ASig82, .int .i64 BWriter83, .int .i64 BIndex84, .int .u64 0, .int .i64 0, .int .i64 0, .int .i64 0, .slice none 0 0, .int .u64 0] := hb3.seti 9 rfl e104
            refine ⟨hb3.cani 10 rfl rfl, thenW_in fun ww105 e105 => ?_⟩
            have hx105 := hx104.x_set (q := ww93.heap.size) (i := 10) rfl (.inr hg3) e105
            have hb1 := hb1.oth (q := ww93.heap.size) (i := 10) rfl hb1_3 e105
            have hb2 := hb2.oth (q := ww93.heap.size) (i := 10) rfl hb2_3 e105
            have hb3 : Blk ww105 ww93.heap.size 50 [.int .i64 AWriter75, .int .i64 AIndex76, .int .u64 APrev77, .int .i64 AAtT78, .int .i64 AAtW79, .int .i64 AEpoch80, .slice ABody81a ABody81n ABody81c, .int .u64 ASig82, .int .i64 BWriter83, .int .i64 BIndex84, .int .u64 BPrev85, .int .i64 0, .int .i64 0, .int .i64 0, .slice none 0 0, .int .u64 0] := hb3.seti 10 rfl e105
            refine ⟨hb3.cani 11 rfl rfl, thenW_in fun ww106 e106 => ?_⟩
            have hx106 := hx105.x_set (q := ww93.heap.size) (i := 11) rfl (.inr hg3) e106
            have hb1 := hb1.oth (q := ww93.heap.size) (i := 11) rfl hb1_3 e106
            have hb2 := hb2.oth (q := ww93.heap.size) (i := 11) rfl hb2_3 e106
            have hb3 : Blk ww106 ww93.heap.size 50 [.int .i64 AWriter75, .int .i64 AIndex76, .int .u64 APrev77, .int .i64 AAtT78, .int .i64 AAtW79, .int .i64 AEpoch80, .slice ABody81a ABody81n ABody81c, .int .u64 ASig82, .int .i64 BWriter83, .int .i64 BIndex84, .int .u64 BPrev85, .int .i64 BAtT86, .int .i64 0, .int .i64 0, .slice none 0 0, .int .u64 0] := hb3.seti 11 rfl e106
            refine ⟨hb3.cani 12 rfl rfl, thenW_in fun ww107 e107 => ?_⟩
            have hx107 := hx106.x_set (q := ww93.heap.size) (i := 12) rfl (.inr hg3) e107
            have hb1 := hb1.oth (q := ww93.heap.size) (i := 12) rfl hb1_3 e107
            have hb2 := hb2.oth (q := ww93.heap.size) (i := 12) rfl hb2_3 e107
            have hb3 : Blk ww107 ww93.heap.size 50 [.int .i64 AWriter75, .int .i64 AIndex76, .int .u64 APrev77, .int .i64 AAtT78, .int .i64 AAtW79, .int .i64 AEpoch80, .slice ABody81a ABody81n ABody81c, .int .u64 ASig82, .int .i64 BWriter83, .int .i64 BIndex84, .int .u64 BPrev85, .int .i64 BAtT86, .int .i64 BAtW87, .int .i64 0, .slice none 0 0, .int .u64 0] := hb3.seti 12 rfl e107
            refine ⟨hb3.cani 13 rfl rfl, thenW_in fun ww108 e108 => ?_⟩
            have hx108 := hx107.x_set (q := ww93.heap.size) (i := 13) rfl (.inr hg3) e108
            have hb1 := hb1.oth (q := ww93.heap.size) (i := 13) rfl hb1_3 e108
            have hb2 := hb2.oth (q := ww93.heap.size) (i := 13) rfl hb2_3 e108
            have hb3 : Blk ww108 ww93.heap.size 50 [.int .i64 AWriter75, .int .i64 AIndex76, .int .u64 APrev77, .int .i64 AAtT78, .int .i64 AAtW79, .int .i64 AEpoch80, .slice ABody81a ABody81n ABody81c, .int .u64 ASig82, .int .i64 BWriter83, .int .i64 BIndex84, .int .u64 BPrev85, .int .i64 BAtT86, .int .i64 BAtW87, .int .i64 BEpoch88, .slice none 0 0, .int .u64 0] := hb3.seti 13 rfl e108
            refine ⟨hb3.cani 14 rfl rfl, thenW_in fun ww109 e109 => ?_⟩
            have hx109 := hx108.x_set (q := ww93.heap.size) (i := 14) rfl (.inr hg3) e109
            have hb1 := hb1.oth (q := ww93.heap.size) (i := 14) rfl hb1_3 e109
            have hb2 := hb2.oth (q := ww93.heap.size) (i := 14) rfl hb2_3 e109
            have hb3 : Blk ww109 ww93.heap.size 50 [.int .i64 AWriter75, .int .i64 AIndex76, .int .u64 APrev77, .int .i64 AAtT78, .int .i64 AAtW79, .int .i64 AEpoch80, .slice ABody81a ABody81n ABody81c, .int .u64 ASig82, .int .i64 BWriter83, .int .i64 BIndex84, .int .u64 BPrev85, .int .i64 BAtT86, .int .i64 BAtW87, .int .i64 BEpoch88, .slice BBody89a BBody89n BBody89c, .int .u64 0] := hb3.seti 14 rfl e109
            refine ⟨hb3.cani 15 rfl rfl, thenW_in fun ww110 e110 => ?_⟩
            have hx110 := hx109.x_set (q := ww93.heap.size) (i := 15) rfl (.inr hg3) e110
            have hb1 := hb1.oth (q := ww93.heap.size) (i := 15) rfl hb1_3 e110
            have hb2 := hb2.oth (q := ww93.heap.size) (i := 15) rfl hb2_3 e110
            have hb3 : Blk ww110 ww93.heap.size 50 [.int .i64 AWriter75, .int .i64 AIndex76, .int .u64 APrev77, .int .i64 AAtT78, .int .i64 AAtW79, .int .i64 AEpoch80, .slice ABody81a ABody81n ABody81c, .int .u64 ASig82, .int .i64 BWriter83, .int .i64 BIndex84, .int .u64 BPrev85, .int .i64 BAtT86, .int .i64 BAtW87, .int .i64 BEpoch88, .slice BBody89a BBody89n BBody89c, .int .u64 BSig90] := hb3.seti 15 rfl e110
            refine thenW_in fun ww111 e111 => ?_
            have hx111 := hx110.x_drew e111
            have hb1 := hb1.x_drew e111
            have hb2 := hb2.x_drew e111
            have hb3 := hb3.x_drew e111
            refine ⟨AWriter38, AIndex39, APrev40, AAtT41, AAtW42, AEpoch43, ABody44a, ABody44n, ABody44c, ASig45, BWriter46, BIndex47, BPrev48, BAtT49, BAtW50, BEpoch51, BBody52a, BBody52n, BBody52c, BSig53, ⟨hb2.celli 0 rfl rfl, hb2.celli 1 rfl rfl, hb2.celli 2 rfl rfl, hb2.celli 3 rfl rfl, hb2.celli 4 rfl rfl, hb2.celli 5 rfl rfl, hb2.celli 6 rfl rfl, hb2.celli 7 rfl rfl, hb2.celli 8 rfl rfl, hb2.celli 9 rfl rfl, hb2.celli 10 rfl rfl, hb2.celli 11 rfl rfl, hb2.celli 12 rfl rfl, hb2.celli 13 rfl rfl, hb2.celli 14 rfl rfl, hb2.celli 15 rfl rfl, trivial⟩, ?_⟩
            refine ⟨AWriter75, AIndex76, APrev77, AAtT78, AAtW79, AEpoch80, ABody81a, ABody81n, ABody81c, ASig82, BWriter83, BIndex84, BPrev85, BAtT86, BAtW87, BEpoch88, BBody89a, BBody89n, BBody89c, BSig90, ⟨hb3.celli 0 rfl rfl, hb3.celli 1 rfl rfl, hb3.celli 2 rfl rfl, hb3.celli 3 rfl rfl, hb3.celli 4 rfl rfl, hb3.celli 5 rfl rfl, hb3.celli 6 rfl rfl, hb3.celli 7 rfl rfl, hb3.celli 8 rfl rfl, hb3.celli 9 rfl rfl, hb3.celli 10 rfl rfl, hb3.celli 11 rfl rfl, hb3.celli 12 rfl rfl, hb3.celli 13 rfl rfl, hb3.celli 14 rfl rfl, hb3.celli 15 rfl rfl, trivial⟩, ?_⟩
            have h := h ww111 (ww93.heap.size) hx111 (Priv.cons hg3 hb3.lt Priv.nil)
            refine h.mono fun ee129 ww130 h => ?_
            obtain ⟨AWriter113, AIndex114, APrev115, AAtT116, AAtW117, AEpoch118, ABody119a, ABody119n, ABody119c, ASig120, BWriter121, BIndex122, BPrev123, BAtT124, BAtW125, BEpoch126, BBody127a, BBody127n, BBody127c, BSig128, he, hk, h⟩ := h
            refine ⟨AWriter113, AIndex114, APrev115, AAtT116, AAtW117, AEpoch118, ABody119a, ABody119n, ABody119c, ASig120, BWriter121, BIndex122, BPrev123, BAtT124, BAtW125, BEpoch126, BBody127a, BBody127n, BBody127c, BSig128, he, ?_⟩
            have hb1 := hk.blk hb1 (by simp)
            have hb3 := hk.blk hb3 (by simp)
            refine ⟨⟨hb3.celli 0 rfl rfl, hb3.celli 1 rfl rfl, hb3.celli 2 rfl rfl, hb3.celli 3 rfl rfl, hb3.celli 4 rfl rfl, hb3.celli 5 rfl rfl, hb3.celli 6 rfl rfl, hb3.celli 7 rfl rfl, hb3.celli 8 rfl rfl, hb3.celli 9 rfl rfl, hb3.celli 10 rfl rfl, hb3.celli 11 rfl rfl, hb3.celli 12 rfl rfl, hb3.celli 13 rfl rfl, hb3.celli 14 rfl rfl, hb3.celli 15 rfl rfl, trivial⟩, ?_⟩
            refine h.mono fun ee132 ww133 h => ?_
            obtain ⟨same131, he, hk, h⟩ := h
            refine ⟨same131, he, ?_⟩
            have hb1 := hk.blk hb1 (by simp)
            refine bif_of (fun c134 => ?_) (fun c134 => ?_)
            · have h := h.1 c134
              refine bif_of (fun c135 => ?_) (fun c135 => ?_)
              · have h := h.1 (bbeq_t c135)
                refine ⟨hWriter3, hLen4, hSum5, ⟨hb1.celli 0 rfl rfl, hb1.celli 1 rfl rfl, hb1.celli 2 rfl rfl, trivial⟩, ?_⟩
                refine ⟨hWriter3, hLen4, hSum5, ⟨hb1.celli 0 rfl rfl, hb1.celli 1 rfl rfl, hb1.celli 2 rfl rfl, trivial⟩, ?_⟩
                refine h.mono fun ee137 ww138 h => ?_
                obtain ⟨odd136, he, hk, h⟩ := h
                refine ⟨odd136, he, ?_⟩
                have hb1 := hk.blk hb1 (by simp)
                refine ⟨⟨hb1.celli 0 rfl rfl, hb1.celli 1 rfl rfl, hb1.celli 2 rfl rfl, trivial⟩, ?_⟩
                refine h.mono fun ee140 ww141 h => ?_
                obtain ⟨odd139, he, h⟩ := h
                refine ⟨odd139, he, ?_⟩
                refine bif_of (fun c142 => ?_) (fun c142 => ?_)
                · have h := h.1 (bbeq_t c142)
                  refine h.mono fun ee144 ww145 h => ?_
                  obtain ⟨alive143, he, h⟩ := h
                  refine ⟨alive143, he, ?_⟩
                  exact h
                · have h := h.2 (bbeq_f c142)
                  exact h
              · have h := h.2 (bbeq_f c135)
                exact h
            · have h := h.2 c134
              exact h

theorem cachettelaw23_ForkcheckFinds.go (a1a : Option Addr) (a1n : Nat) (a1c : Nat) (b2a : Option Addr) (b2n : Nat) (b2c : Nat) (hWriter3 : Int) (hLen4 : Int) (hSum5 : Int) (sums6a : Option Addr) (sums6n : Nat) (sums6c : Nat) {R : Value → World → Prop} {w : World} (h : cachettelaw23_ForkcheckFinds.N a1a a1n a1c b2a b2n b2c hWriter3 hLen4 hSum5 sums6a sums6n sums6c R w) : Calls Try.prog 4 #[.slice a1a a1n a1c, .slice b2a b2n b2c, .agg #[.int .i64 hWriter3, .int .i64 hLen4, .int .u64 hSum5], .slice sums6a sums6n sums6c] w fun e w' => ∃ v, e = .returned v ∧ R v w' := cachettelaw23_ForkcheckFinds.ok a1a a1n a1c b2a b2n b2c hWriter3 hLen4 hSum5 sums6a sums6n sums6c (cachettelaw23_ForkcheckFinds.up a1a a1n a1c b2a b2n b2c hWriter3 hLen4 hSum5 sums6a sums6n sums6c h)
theorem cachettelaw23_ForkcheckFinds.run (a1a : Option Addr) (a1n : Nat) (a1c : Nat) (b2a : Option Addr) (b2n : Nat) (b2c : Nat) (hWriter3 : Int) (hLen4 : Int) (hSum5 : Int) (sums6a : Option Addr) (sums6n : Nat) (sums6c : Nat) {V : Value} {Q : World → Prop} {w : World} (h : cachettelaw23_ForkcheckFinds.N a1a a1n a1c b2a b2n b2c hWriter3 hLen4 hSum5 sums6a sums6n sums6c (fun v w' => v = V ∧ Q w') w) : Calls Try.prog 4 #[.slice a1a a1n a1c, .slice b2a b2n b2c, .agg #[.int .i64 hWriter3, .int .i64 hLen4, .int .u64 hSum5], .slice sums6a sums6n sums6c] w (Ret V Q) := (cachettelaw23_ForkcheckFinds.go a1a a1n a1c b2a b2n b2c hWriter3 hLen4 hSum5 sums6a sums6n sums6c h).mono fun e w' ⟨v, he, hv, hq⟩ => ⟨by rw [he, hv], hq⟩

def findP : List Ent → List Ent → (Ent × Ent) × Bool
  | a :: l, b :: r => if a = b then findP l r else ((a, b), true)
  | _, _ => ((Ent.zero, Ent.zero), false)
theorem findP_step {l r : List Ent} {t : Nat} (h1 : t < l.length) (h2 : t < r.length) (h : findP l r = findP (l.drop t) (r.drop t)) : findP l r = if l[t] = r[t] then findP (l.drop (t + 1)) (r.drop (t + 1)) else ((l[t], r[t]), true) := by
  rw [h, List.drop_eq_getElem_cons h1, List.drop_eq_getElem_cons h2]
  rfl
theorem findP_end {l r : List Ent} {t : Nat} (h1 : l.length ≤ t ∨ r.length ≤ t) (h : findP l r = findP (l.drop t) (r.drop t)) : findP l r = ((Ent.zero, Ent.zero), false) := by
  rw [h]
  rcases h1 with h1 | h1
  · rw [List.drop_eq_nil_of_le h1]; rfl
  · rw [List.drop_eq_nil_of_le h1]; cases l.drop t <;> rfl
def zeros : List Value := [.int .i64 0, .int .i64 0, .int .u64 0, .int .i64 0, .int .i64 0, .int .i64 0, .slice none 0 0, .int .u64 0, .int .i64 0, .int .i64 0, .int .u64 0, .int .i64 0, .int .i64 0, .int .i64 0, .slice none 0 0, .int .u64 0]
theorem PrfV.zero (w : World) (o : Own) : PrfV w o (Ent.zero, Ent.zero) (.agg zeros.toArray) := ⟨none, 0, none, 0, rfl, Row.nil _ _ _, Row.nil _ _ _, Nat.le_refl _, Nat.le_refl _⟩
section
variable {w w' : World} {o o' : Own} {k j n : Nat} {K : Nat → Prop} {l1 l2 : List PE} {aa ba : Option Addr} {ac bc : Nat}
theorem Find_spec (ok : Tags w o) (h1 : Row w o aa (PE.Cs l1)) (h2 : Row w o ba (PE.Cs l2)) (k1 : ∀ p ∈ l1, p.ok w o ∧ p.e.body.length ≤ 1000000) (k2 : ∀ p ∈ l2, p.ok w o ∧ p.e.body.length ≤ 1000000) (n1 : l1.length < 1000000) (n2 : l2.length < 1000000) :
    Calls Try.prog 18 #[.slice aa l1.length ac, .slice ba l2.length bc] w (fun x w' => ∃ o' pv, x = .returned (.tuple #[pv, .bool (findP (l1.map PE.e) (l2.map PE.e)).2]) ∧ Step no w o w' o' ∧ PrfV w' o' (findP (l1.map PE.e) (l2.map PE.e)).1 pv) := by
  refine (forkcheck_Find.go aa l1.length ac ba l2.length bc (R := fun v w' => ∃ o' pv, v = .tuple #[pv, .bool (findP (l1.map PE.e) (l2.map PE.e)).2] ∧ Step no w o w' o' ∧ PrfV w' o' (findP (l1.map PE.e) (l2.map PE.e)).1 pv) ?_).mono fun e w' ⟨v, he, o', pv, hv, hw⟩ => ⟨o', pv, by rw [he, hv], hw⟩
  unfold forkcheck_Find.N
  intro w3 p4 X3 hp
  obtain ⟨s3, M3⟩ := Step.priv X3 hp ok
  have g4 := hp p4 (by simp)
  refine ⟨fun q vs w1 => ∃ (t : Nat) (o1 : Own), vs = .int .i64 t :: zeros ∧ q + t = min l1.length l2.length ∧ Step no w o w1 o1 ∧ Mine [p4] w1 o1 ∧ findP (l1.map PE.e) (l2.map PE.e) = findP ((l1.map PE.e).drop t) ((l2.map PE.e).drop t), min l1.length l2.length, ⟨0, _, rfl, rfl, s3, M3, rfl⟩, ?_⟩
  rintro q w1 i a0 a1 a2 a3 a4 a5 a6 a7 a8 a9 b0 b1 b2 b3 b4 b5 b6 b7 b8 b9 ⟨t, o1, hvs, hq, s1, M1, hf⟩
  simp only [zeros, List.cons.injEq, Value.int.injEq, Value.slice.injEq, true_and, and_true] at hvs
  obtain ⟨rfl, rfl, rfl, rfl, rfl, rfl, rfl, ⟨rfl, rfl, rfl⟩, rfl, rfl, rfl, rfl, rfl, rfl, rfl, ⟨rfl, rfl, rfl⟩, rfl⟩ := hvs
  have hmin : (if ((l2.length : Nat) : Int) < (l1.length : Int) then (l2.length : Int) else (l1.length : Int)) = ((min l1.length l2.length : Nat) : Int) := by split <;> omega
  rw [hmin]
  refine ⟨fun ht => ?_, fun ht w123 X123 => ?_⟩
  · have t1 : t < l1.length := by omega
    have t2 : t < l2.length := by omega
    have g1 : l1[t]? = some l1[t] := List.getElem?_eq_getElem t1
    have g2 : l2[t]? = some l2[t] := List.getElem?_eq_getElem t2
    obtain ⟨p1, p15⟩ := k1 _ (List.getElem_mem t1)
    obtain ⟨p2, p25⟩ := k2 _ (List.getElem_mem t2)
    generalize hx1 : l1[t] = x at *
    generalize hx2 : l2[t] = y at *
    have hne1 : PE.Cs l1 ≠ [] := fun e => by have := PE.Cs_length l1; rw [e] at this; simp at this; omega
    have hne2 : PE.Cs l2 ≠ [] := fun e => by have := PE.Cs_length l2; rw [e] at this; simp at this; omega
    obtain ⟨ad, ha⟩ := h1.1.addr hne1
    obtain ⟨bd, hb⟩ := h2.1.addr hne2
    refine ⟨ad, ha, by omega, by omega, x.e.w, x.e.i, x.e.pv, x.e.t, x.e.tw, x.e.ep, x.a, x.e.body.length, x.c, x.e.sg, by rw [Int.toNat_natCast]; exact PE.loads (h1.step s1).1 ha g1,
      bd, hb, by omega, by omega, y.e.w, y.e.i, y.e.pv, y.e.t, y.e.tw, y.e.ep, y.a, y.e.body.length, y.c, y.e.sg, by rw [Int.toNat_natCast]; exact PE.loads (h2.step s1).1 hb g2, fun w26 X26 => ?_⟩
    have s26 := Step.of_no X26 s1.ok
    have fs := findP_step (l := l1.map PE.e) (r := l2.map PE.e) (t := t) (by simpa using t1) (by simpa using t2) hf
    simp only [List.getElem_map, hx1, hx2] at fs
    refine (ESame_spec (e := x.e) (f := y.e) ((p1.1.step s1).step s26).1 ((p2.1.step s1).step s26).1).mono fun v w49 ⟨he, X49⟩ => ⟨_, he, X49.kept, fun hs => ?_, fun hs => ?_⟩
    · have s49' := s26.trans (Step.of_no X49 s26.ok)
      have s49 := s1.trans s49'
      refine ⟨by omega, by omega, x.e.w, x.e.i, x.e.pv, x.e.t, x.e.tw, x.e.ep, x.a, x.e.body.length, x.c, x.e.sg, by rw [Int.toNat_natCast]; exact PE.loads (h1.step s49).1 ha g1,
        by omega, by omega, y.e.w, y.e.i, y.e.pv, y.e.t, y.e.tw, y.e.ep, y.a, y.e.body.length, y.c, y.e.sg, by rw [Int.toNat_natCast]; exact PE.loads (h2.step s49).1 hb g2, fun w51 X51 => ?_⟩
      have s51' := s49'.trans (Step.of_no X51 s49.ok)
      have s51 := s1.trans s51'
      have M51 := M1.step s51'
      refine (fOwn_spec (e := x.e) s51.ok (p1.1.step s51) p15).mono fun v w79 ⟨o79, ca, cc, he, s79', rc, lc⟩ => ⟨_, _, _, _, _, _, _, _, _, _, he, M51.keep s79' (fun _ _ => id), ?_⟩
      have s79 := s51.trans s79'
      refine ⟨by rw [Int.toNat_natCast]; exact PE.loads (h2.step s79).1 hb g2, ?_⟩
      refine (fOwn_spec (e := y.e) s79.ok (p2.1.step s79) p25).mono fun v w90 ⟨o90, da, dc, he, s90', rd, ld⟩ => ⟨_, _, _, _, _, _, _, _, _, _, he, (M51.step s79').keep s90' (fun _ _ => id), fun w106 X106 => ?_⟩
      have s90 := s79.trans s90'
      have s106' := Step.stores X106 s90.ok ((M51.step s79').step s90') (by simp)
      have s106 := s90.trans' s106' fun i hi => .inr (by simp at hi; omega)
      rw [if_neg (of_decide_eq_false hs)] at fs
      rw [fs]
      exact ⟨_, prfV x.e ca cc y.e da dc, rfl, s106, ca, cc, da, dc, rfl, (rc.step s90').step s106', rd.step s106', lc, ld⟩
    · have s49' := s26.trans (Step.of_no X49 s26.ok)
      have s49 := s1.trans s49'
      rw [if_pos (of_decide_eq_true hs)] at fs
      exact ⟨by omega, by omega, q - 1, by omega, t + 1, _, rfl, by omega, s49, M1.step s49', fs⟩
  · have fe := findP_end (l := l1.map PE.e) (r := l2.map PE.e) (t := t) (by rw [List.length_map, List.length_map]; omega) hf
    have s123' := Step.stores X123 s1.ok M1 (by simp)
    have s123 := s1.trans' s123' fun i hi => .inr (by simp at hi; omega)
    rw [fe]
    exact ⟨_, .agg zeros.toArray, rfl, s123, PrfV.zero _ _⟩
theorem rFind_spec (ok : Tags w o) (h1 : Row w o aa (PE.Cs l1)) (h2 : Row w o ba (PE.Cs l2)) (k1 : ∀ p ∈ l1, p.ok w o ∧ p.e.body.length < 1000000) (k2 : ∀ p ∈ l2, p.ok w o ∧ p.e.body.length < 1000000) (n1 : l1.length < 1000000) (n2 : l2.length < 1000000) :
    Calls Try.prog 19 #[.slice aa l1.length ac, .slice ba l2.length bc] w (fun x w' => ∃ o' pv, x = .returned (.tuple #[pv, .bool (findP (l1.map PE.e) (l2.map PE.e)).2]) ∧ Step no w o w' o' ∧ PrfV w' o' (findP (l1.map PE.e) (l2.map PE.e)).1 pv) := by
  refine (cachetteref23_Find.go aa l1.length ac ba l2.length bc (R := fun v w' => ∃ o' pv, v = .tuple #[pv, .bool (findP (l1.map PE.e) (l2.map PE.e)).2] ∧ Step no w o w' o' ∧ PrfV w' o' (findP (l1.map PE.e) (l2.map PE.e)).1 pv) ?_).mono fun e w' ⟨v, he, o', pv, hv, hw⟩ => ⟨o', pv, by rw [he, hv], hw⟩
  unfold cachetteref23_Find.N
  intro w3 p4 X3 hp
  obtain ⟨s3, M3⟩ := Step.priv X3 hp ok
  have g4 := hp p4 (by simp)
  refine ⟨fun q vs w1 => ∃ (t : Nat) (o1 : Own), vs = .int .i64 t :: zeros ∧ q + t = min l1.length l2.length ∧ Step no w o w1 o1 ∧ Mine [p4] w1 o1 ∧ findP (l1.map PE.e) (l2.map PE.e) = findP ((l1.map PE.e).drop t) ((l2.map PE.e).drop t), min l1.length l2.length, ⟨0, _, rfl, rfl, s3, M3, rfl⟩, ?_⟩
  rintro q w1 i a0 a1 a2 a3 a4 a5 a6 a7 a8 a9 b0 b1 b2 b3 b4 b5 b6 b7 b8 b9 ⟨t, o1, hvs, hq, s1, M1, hf⟩
  simp only [zeros, List.cons.injEq, Value.int.injEq, Value.slice.injEq, true_and, and_true] at hvs
  obtain ⟨rfl, rfl, rfl, rfl, rfl, rfl, rfl, ⟨rfl, rfl, rfl⟩, rfl, rfl, rfl, rfl, rfl, rfl, rfl, ⟨rfl, rfl, rfl⟩, rfl⟩ := hvs
  have hend : ∀ w123, (l1.length ≤ t ∨ l2.length ≤ t) → Ext (fun b => b = p4) w1 w123 → ∃ o' pv, Value.tuple #[.agg zeros.toArray, .bool false] = .tuple #[pv, .bool (findP (l1.map PE.e) (l2.map PE.e)).2] ∧ Step no w o w123 o' ∧ PrfV w123 o' (findP (l1.map PE.e) (l2.map PE.e)).1 pv := fun w123 ht X123 => by
    have fe := findP_end (l := l1.map PE.e) (r := l2.map PE.e) (t := t) (by rw [List.length_map, List.length_map]; exact ht) hf
    have s123' := Step.stores X123 s1.ok M1 (by simp)
    have s123 := s1.trans' s123' fun i hi => .inr (by simp at hi; omega)
    rw [fe]
    exact ⟨_, .agg zeros.toArray, rfl, s123, PrfV.zero _ _⟩
  refine ⟨fun t1 => ⟨fun t2 => ?_, fun ht w123 X123 => hend w123 (.inr (by omega)) X123⟩, fun ht w123 X123 => hend w123 (.inl (by omega)) X123⟩
  · have t1 : t < l1.length := by omega
    have t2 : t < l2.length := by omega
    have g1 : l1[t]? = some l1[t] := List.getElem?_eq_getElem t1
    have g2 : l2[t]? = some l2[t] := List.getElem?_eq_getElem t2
    obtain ⟨p1, p15⟩ := k1 _ (List.getElem_mem t1)
    obtain ⟨p2, p25⟩ := k2 _ (List.getElem_mem t2)
    generalize hx1 : l1[t] = x at *
    generalize hx2 : l2[t] = y at *
    have hne1 : PE.Cs l1 ≠ [] := fun e => by have := PE.Cs_length l1; rw [e] at this; simp at this; omega
    have hne2 : PE.Cs l2 ≠ [] := fun e => by have := PE.Cs_length l2; rw [e] at this; simp at this; omega
    obtain ⟨ad, ha⟩ := h1.1.addr hne1
    obtain ⟨bd, hb⟩ := h2.1.addr hne2
    refine ⟨ad, ha, by omega, by omega, x.e.w, x.e.i, x.e.pv, x.e.t, x.e.tw, x.e.ep, x.a, x.e.body.length, x.c, x.e.sg, by rw [Int.toNat_natCast]; exact PE.loads (h1.step s1).1 ha g1,
      bd, hb, by omega, by omega, y.e.w, y.e.i, y.e.pv, y.e.t, y.e.tw, y.e.ep, y.a, y.e.body.length, y.c, y.e.sg, by rw [Int.toNat_natCast]; exact PE.loads (h2.step s1).1 hb g2, fun w26 X26 => ?_⟩
    have s26 := Step.of_no X26 s1.ok
    have fs := findP_step (l := l1.map PE.e) (r := l2.map PE.e) (t := t) (by simpa using t1) (by simpa using t2) hf
    simp only [List.getElem_map, hx1, hx2] at fs
    refine (rESame_spec (e := x.e) (f := y.e) ((p1.1.step s1).step s26).1 ((p2.1.step s1).step s26).1 p15).mono fun v w49 ⟨he, X49⟩ => ⟨_, he, X49.kept, fun hs => ?_, fun hs => ?_⟩
    · have s49' := s26.trans (Step.of_no X49 s26.ok)
      have s49 := s1.trans s49'
      refine ⟨by omega, by omega, x.e.w, x.e.i, x.e.pv, x.e.t, x.e.tw, x.e.ep, x.a, x.e.body.length, x.c, x.e.sg, by rw [Int.toNat_natCast]; exact PE.loads (h1.step s49).1 ha g1,
        by omega, by omega, y.e.w, y.e.i, y.e.pv, y.e.t, y.e.tw, y.e.ep, y.a, y.e.body.length, y.c, y.e.sg, by rw [Int.toNat_natCast]; exact PE.loads (h2.step s49).1 hb g2, fun w86 X86 => ?_⟩
      have s86' := Step.stores X86 s49.ok (M1.step s49') (by simp)
      have s86 := s49.trans' s86' fun i hi => .inr (by simp at hi; omega)
      rw [if_neg (of_decide_eq_false hs)] at fs
      rw [fs]
      exact ⟨_, prfV x.e x.a x.c y.e y.a y.c, rfl, s86, x.a, x.c, y.a, y.c, rfl, p1.1.step s86, p2.1.step s86, p1.2.1, p2.2.1⟩
    · have s49' := s26.trans (Step.of_no X49 s26.ok)
      have s49 := s1.trans s49'
      rw [if_pos (of_decide_eq_true hs)] at fs
      exact ⟨by omega, by omega, q - 1, by omega, t + 1, _, rfl, by omega, s49, M1.step s49', fs⟩
theorem rPSame_spec {a b c d : Ent} {ca da : Option Addr} {cc dc : Nat} (ha : RowAt w aa (bytesV a.body)) (hb : RowAt w ba (bytesV b.body)) (hc : RowAt w ca (bytesV c.body)) (hd : RowAt w da (bytesV d.body)) (la : a.body.length < 1000000) (lb : b.body.length < 1000000) :
    Calls Try.prog 20 #[prfV a aa ac b ba bc, prfV c ca cc d da dc] w (Ret (.bool (decide (a = c ∧ b = d))) fun w' => Ext no w w') := by
  refine cachetteref23_Same.run a.w a.i a.pv a.t a.tw a.ep aa a.body.length ac a.sg b.w b.i b.pv b.t b.tw b.ep ba b.body.length bc b.sg c.w c.i c.pv c.t c.tw c.ep ca c.body.length cc c.sg d.w d.i d.pv d.t d.tw d.ep da d.body.length dc d.sg ?_
  unfold cachetteref23_Same.N
  intro w34 p35 p36 X34 hp
  refine (rESame_spec (e := a) (f := c) (ha.no X34) (hc.no X34) la).mono fun x w39 ⟨he, X39⟩ => ⟨_, he, X39.kept, fun h1 => ?_, fun h1 => ⟨?_, X34.trans X39⟩⟩
  · have X := X34.trans X39
    refine (rESame_spec (e := b) (f := d) (hb.no X) (hd.no X) lb).mono fun x w43 ⟨he, X43⟩ => ⟨_, he, ?_, X.trans X43⟩
    congr 1
    rw [decide_eq_decide]
    exact ⟨fun h => ⟨of_decide_eq_true h1, h⟩, fun h => h.2⟩
  · congr 1
    rw [eq_comm, decide_eq_false_iff_not]
    exact fun h => of_decide_eq_false h1 h.1
theorem back_spec {a b : Ent} : Calls Try.prog 21 #[prfV a aa ac b ba bc] w (Ret (prfV a aa ac b ba bc) fun w' => Ext no w w') := by
  refine cachettelaw23_back.run a.w a.i a.pv a.t a.tw a.ep aa a.body.length ac a.sg b.w b.i b.pv b.t b.tw b.ep ba b.body.length bc b.sg ?_
  unfold cachettelaw23_back.N
  exact fun w34 X => ⟨rfl, X⟩
def oddP (n : Nat) (len sum : Int) (xs : List Int) : Bool := decide (0 < len ∧ len ≤ n ∧ len ≤ xs.length ∧ xs[(len - 1).toNat]? ≠ some sum)
theorem Odd_spec {la sa : Option Addr} {lc sc : Nat} {hw len sum : Int} {xs : List Int} (hxs : xs.length < 1000000) (h : RowAt w sa (xs.map u64V)) :
    Calls Try.prog 22 #[.slice la n lc, .agg #[.int .i64 hw, .int .i64 len, .int .u64 sum], .slice sa xs.length sc] w (Ret (.bool (oddP n len sum xs)) fun w' => Ext no w w') := by
  refine forkcheck_Odd.run la n lc hw len sum sa xs.length sc ?_
  unfold forkcheck_Odd.N
  have hmin : (if ((xs.length : Nat) : Int) < (n : Int) then (xs.length : Int) else (n : Int)) = ((min n xs.length : Nat) : Int) := by split <;> omega
  rw [hmin]
  have no_ : ¬ (0 < len ∧ len ≤ n ∧ len ≤ xs.length) → oddP n len sum xs = false := fun h => decide_eq_false fun q => h ⟨q.1, q.2.1, q.2.2.1⟩
  refine ⟨fun h0 => ⟨fun h1 => ?_, fun h1 w7 X => ⟨by rw [no_ (by omega)], X⟩⟩, fun h0 w7 X => ⟨by rw [no_ (by omega)], X⟩⟩
  have hi : (len - 1).toNat < xs.length := by omega
  have hg : (xs.map u64V)[(len - 1).toNat]? = some (u64V xs[(len - 1).toNat]) := by rw [List.getElem?_map, List.getElem?_eq_getElem hi]; rfl
  obtain ⟨ad, ha, hc⟩ := h _ _ hg
  refine ⟨by omega, by omega, ad, ha, by omega, by omega, _, by rw [Nat.mul_one]; exact hc, fun w7 X => ⟨?_, X⟩⟩
  congr 1
  unfold oddP
  rw [List.getElem?_eq_getElem hi, eq_comm, Bool.eq_iff_iff]
  simp
  omega
theorem rOdd_spec {la sa : Option Addr} {lc sc : Nat} {hw len sum : Int} {xs : List Int} (hxs : xs.length < 1000000) (h : RowAt w sa (xs.map u64V)) :
    Calls Try.prog 23 #[.slice la n lc, .agg #[.int .i64 hw, .int .i64 len, .int .u64 sum], .slice sa xs.length sc] w (Ret (.bool (oddP n len sum xs)) fun w' => Ext no w w') := by
  refine cachetteref23_Odd.run la n lc hw len sum sa xs.length sc ?_
  unfold cachetteref23_Odd.N
  have no_ : ¬ (0 < len ∧ len ≤ n ∧ len ≤ xs.length) → oddP n len sum xs = false := fun h => decide_eq_false fun q => h ⟨q.1, q.2.1, q.2.2.1⟩
  refine ⟨fun h0 => ⟨fun h1 => ⟨fun h2 => ?_, fun h2 w7 X => ⟨by rw [no_ (by omega)], X⟩⟩, fun h1 w7 X => ⟨by rw [no_ (by omega)], X⟩⟩, fun h0 w7 X => ⟨by rw [no_ (by omega)], X⟩⟩
  have hi : (len - 1).toNat < xs.length := by omega
  have hg : (xs.map u64V)[(len - 1).toNat]? = some (u64V xs[(len - 1).toNat]) := by rw [List.getElem?_map, List.getElem?_eq_getElem hi]; rfl
  obtain ⟨ad, ha, hc⟩ := h _ _ hg
  refine ⟨by omega, by omega, ad, ha, by omega, by omega, _, by rw [Nat.mul_one]; exact hc, fun w7 X => ⟨?_, X⟩⟩
  congr 1
  unfold oddP
  rw [List.getElem?_eq_getElem hi, eq_comm, Bool.eq_iff_iff]
  simp
  omega
end
end Go.Proofs.Ytlfijjmjmgobhaa
