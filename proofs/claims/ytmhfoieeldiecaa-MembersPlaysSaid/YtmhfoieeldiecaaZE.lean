/- Members: predicates of the laws that ask the reference. -/
import Derived.Test.YtmhfoieeldiecaaZD
set_option linter.unusedVariables false
set_option linter.unusedSimpArgs false
set_option maxRecDepth 20000
set_option maxHeartbeats 2000000
namespace Go.Proofs.Ytmhfoieeldiecaa
open Go Go.Mx Go.Proofs
/-- cachettelaw12.MembersPlays -/
def cachettelaw12_MembersPlays.M (publicv1 : Int) (l2a : Option Addr) (l2n : Nat) (l2c : Nat) (wv3 : Int) (R : Value → World → Prop) (w : World) : Prop :=
  Calls Try.prog 9 #[.slice l2a l2n l2c] w fun ee5 ww6 => ∃ (light4 : Bool), ee5 = .returned (.bool light4) ∧
  bif !light4 then (
  Calls Try.prog 10 #[] ww6 fun ee8 ww9 => ∃ (alive7 : Bool), ee8 = .returned (.bool alive7) ∧
  R (.bool alive7) ww9) else (
  Calls Try.prog 11 #[.int .u64 publicv1] ww6 fun ee12 ww13 => ∃ (L10a : Option Addr) (L10n : Nat) (L10c : Nat) (Epoch11 : Int), ee12 = .returned (.agg #[.slice L10a L10n L10c, .int .i64 Epoch11]) ∧
  Calls Try.prog 19 #[.int .u64 publicv1] ww13 fun ee16 ww17 => ∃ (L14a : Option Addr) (L14n : Nat) (L14c : Nat) (Epoch15 : Int), ee16 = .returned (.agg #[.slice L14a L14n L14c, .int .i64 Epoch15]) ∧
  thenW (ww17.alloc (.cells #[.slice none 0 0, .int .i64 0] 28)) fun ww18 =>
  thenW (ww18.alloc (.cells #[.slice none 0 0, .int .i64 0] 45)) fun ww19 =>
  canStore ww19 ((blk ww17.heap.size).add 0) ∧
  thenW (ww19.setCell ((blk ww17.heap.size).add 0) (.slice L10a L10n L10c)) fun ww20 =>
  canStore ww20 ((blk ww17.heap.size).add 1) ∧
  thenW (ww20.setCell ((blk ww17.heap.size).add 1) (.int .i64 Epoch11)) fun ww21 =>
  canStore ww21 ((blk ww18.heap.size).add 0) ∧
  thenW (ww21.setCell ((blk ww18.heap.size).add 0) (.slice L14a L14n L14c)) fun ww22 =>
  canStore ww22 ((blk ww18.heap.size).add 1) ∧
  thenW (ww22.setCell ((blk ww18.heap.size).add 1) (.int .i64 Epoch15)) fun ww23 =>
  ∃ (I0 : Nat → List Value → World → Prop) (m26 : Nat), I0 m26 [.slice none 0 0, .int .i64 0] ww23 ∧ ∀ (m27 : Nat) (ww28 : World) (all24a : Option Addr) (all24n : Nat) (all24c : Nat) (i25 : Int), I0 m27 [.slice all24a all24n all24c, .int .i64 i25] ww28 →
  bif decide (i25 < (l2n : Int)) then (
  l2a.elim False fun a29 =>
  0 ≤ (i25 : Int) ∧ (i25 : Int) < (l2n : Int) ∧
  ∃ (xKind30 : Int) (xWho31 : Int) (xPublic32 : Int) (xLimit33 : Int) (xWraps34a : Option Addr) (xWraps34n : Nat) (xWraps34c : Nat) (xOld35a : Option Addr) (xOld35n : Nat) (xOld35c : Nat), cellsAt ww28 (a29.add (Int.toNat i25 * 6)) [.int .i64 xKind30, .int .i64 xWho31, .int .u64 xPublic32, .int .i64 xLimit33, .slice xWraps34a xWraps34n xWraps34c, .slice xOld35a xOld35n xOld35c] 0 ∧
  Calls Try.prog 13 #[.agg #[.int .i64 xKind30, .int .i64 xWho31, .int .u64 xPublic32, .int .i64 xLimit33, .slice xWraps34a xWraps34n xWraps34c, .slice xOld35a xOld35n xOld35c]] ww28 fun ee42 ww43 => ∃ (Kind36 : Int) (Who37 : Int) (Public38 : Int) (Limit39 : Int) (Wraps40a : Option Addr) (Wraps40n : Nat) (Wraps40c : Nat) (Old41a : Option Addr) (Old41n : Nat) (Old41c : Nat), ee42 = .returned (.agg #[.int .i64 Kind36, .int .i64 Who37, .int .u64 Public38, .int .i64 Limit39, .slice Wraps40a Wraps40n Wraps40c, .slice Old41a Old41n Old41c]) ∧
  thenW (ww43.alloc (.cells #[.int .i64 Kind36, .int .i64 Who37, .int .u64 Public38, .int .i64 Limit39, .slice Wraps40a Wraps40n Wraps40c, .slice Old41a Old41n Old41c] 36)) fun ww44 =>
  ∃ (a45a : Option Addr) (a45n : Nat) (a45c : Nat) (ww46 : World), (Builtin.append_ #[56, 56] 56 #[.slice all24a all24n all24c, .slice (some (blk ww43.heap.size)) 1 1]).run Try.prog ww44 = .ok (.slice a45a a45n a45c) ww46 ∧
  thenW (ww46.drew) fun ww47 =>
  ∃ (xL48a : Option Addr) (xL48n : Nat) (xL48c : Nat) (xEpoch49 : Int), cellsAt ww47 (blk ww17.heap.size) [.slice xL48a xL48n xL48c, .int .i64 xEpoch49] 0 ∧
  a45a.elim False fun a50 =>
  0 ≤ (i25 : Int) ∧ (i25 : Int) < (a45n : Int) ∧
  ∃ (xKind51 : Int) (xWho52 : Int) (xPublic53 : Int) (xLimit54 : Int) (xWraps55a : Option Addr) (xWraps55n : Nat) (xWraps55c : Nat) (xOld56a : Option Addr) (xOld56n : Nat) (xOld56c : Nat), cellsAt ww47 (a50.add (Int.toNat i25 * 6)) [.int .i64 xKind51, .int .i64 xWho52, .int .u64 xPublic53, .int .i64 xLimit54, .slice xWraps55a xWraps55n xWraps55c, .slice xOld56a xOld56n xOld56c] 0 ∧
  (Calls Try.prog 12 #[.agg #[.slice xL48a xL48n xL48c, .int .i64 xEpoch49], .agg #[.int .i64 xKind51, .int .i64 xWho52, .int .u64 xPublic53, .int .i64 xLimit54, .slice xWraps55a xWraps55n xWraps55c, .slice xOld56a xOld56n xOld56c]] ww47 fun ee60 ww61 => ∃ (L57a : Option Addr) (L57n : Nat) (L57c : Nat) (Epoch58 : Int) (apply59 : Int), ee60 = .returned (.tuple #[.agg #[.slice L57a L57n L57c, .int .i64 Epoch58], .int .i64 apply59]) ∧
  thenW (ww61.alloc (.cells #[.slice none 0 0, .int .i64 0] 28)) fun ww62 =>
  canStore ww62 ((blk ww61.heap.size).add 0) ∧
  thenW (ww62.setCell ((blk ww61.heap.size).add 0) (.slice L57a L57n L57c)) fun ww63 =>
  canStore ww63 ((blk ww61.heap.size).add 1) ∧
  thenW (ww63.setCell ((blk ww61.heap.size).add 1) (.int .i64 Epoch58)) fun ww64 =>
  thenW (ww64.drew) fun ww65 =>
  ∃ (xL66a : Option Addr) (xL66n : Nat) (xL66c : Nat) (xEpoch67 : Int), cellsAt ww65 (blk ww18.heap.size) [.slice xL66a xL66n xL66c, .int .i64 xEpoch67] 0 ∧
  l2a.elim False fun a68 =>
  0 ≤ (i25 : Int) ∧ (i25 : Int) < (l2n : Int) ∧
  ∃ (xKind69 : Int) (xWho70 : Int) (xPublic71 : Int) (xLimit72 : Int) (xWraps73a : Option Addr) (xWraps73n : Nat) (xWraps73c : Nat) (xOld74a : Option Addr) (xOld74n : Nat) (xOld74c : Nat), cellsAt ww65 (a68.add (Int.toNat i25 * 6)) [.int .i64 xKind69, .int .i64 xWho70, .int .u64 xPublic71, .int .i64 xLimit72, .slice xWraps73a xWraps73n xWraps73c, .slice xOld74a xOld74n xOld74c] 0 ∧
  (Calls Try.prog 20 #[.agg #[.slice xL66a xL66n xL66c, .int .i64 xEpoch67], .agg #[.int .i64 xKind69, .int .i64 xWho70, .int .u64 xPublic71, .int .i64 xLimit72, .slice xWraps73a xWraps73n xWraps73c, .slice xOld74a xOld74n xOld74c]] ww65 fun ee78 ww79 => ∃ (L75a : Option Addr) (L75n : Nat) (L75c : Nat) (Epoch76 : Int) (apply77 : Int), ee78 = .returned (.tuple #[.agg #[.slice L75a L75n L75c, .int .i64 Epoch76], .int .i64 apply77]) ∧
  thenW (ww79.alloc (.cells #[.slice none 0 0, .int .i64 0] 45)) fun ww80 =>
  canStore ww80 ((blk ww79.heap.size).add 0) ∧
  thenW (ww80.setCell ((blk ww79.heap.size).add 0) (.slice L75a L75n L75c)) fun ww81 =>
  canStore ww81 ((blk ww79.heap.size).add 1) ∧
  thenW (ww81.setCell ((blk ww79.heap.size).add 1) (.int .i64 Epoch76)) fun ww82 =>
  thenW (ww82.drew) fun ww83 =>
  bif apply59 != apply77 then (
  R (.bool false) ww83) else (
  ∃ (xL84a : Option Addr) (xL84n : Nat) (xL84c : Nat) (xEpoch85 : Int), cellsAt ww83 (blk ww61.heap.size) [.slice xL84a xL84n xL84c, .int .i64 xEpoch85] 0 ∧
  ∃ (xL86a : Option Addr) (xL86n : Nat) (xL86c : Nat) (xEpoch87 : Int), cellsAt ww83 (blk ww79.heap.size) [.slice xL86a xL86n xL86c, .int .i64 xEpoch87] 0 ∧
  Calls Try.prog 15 #[.agg #[.slice xL84a xL84n xL84c, .int .i64 xEpoch85]] ww83 fun ee90 ww91 => ∃ (L88a : Option Addr) (L88n : Nat) (L88c : Nat) (Epoch89 : Int), ee90 = .returned (.agg #[.slice L88a L88n L88c, .int .i64 Epoch89]) ∧
  cellsAt ww91 (blk ww79.heap.size) [.slice xL86a xL86n xL86c, .int .i64 xEpoch87] 0 ∧
  Calls Try.prog 16 #[.agg #[.slice L88a L88n L88c, .int .i64 Epoch89], .agg #[.slice xL86a xL86n xL86c, .int .i64 xEpoch87]] ww91 fun ee93 ww94 => ∃ (same92 : Bool), ee93 = .returned (.bool same92) ∧
  bif !same92 then (
  R (.bool false) ww94) else (
  bif apply77 == 0 then (
  thenW (ww94.drew) fun ww95 =>
  ∃ (xL96a : Option Addr) (xL96n : Nat) (xL96c : Nat) (xEpoch97 : Int), cellsAt ww95 (blk ww61.heap.size) [.slice xL96a xL96n xL96c, .int .i64 xEpoch97] 0 ∧
  ∃ (xL98a : Option Addr) (xL98n : Nat) (xL98c : Nat) (xEpoch99 : Int), cellsAt ww95 (blk ww79.heap.size) [.slice xL98a xL98n xL98c, .int .i64 xEpoch99] 0 ∧
  canStore ww95 ((blk ww17.heap.size).add 0) ∧
  thenW (ww95.setCell ((blk ww17.heap.size).add 0) (.slice xL96a xL96n xL96c)) fun ww100 =>
  canStore ww100 ((blk ww17.heap.size).add 1) ∧
  thenW (ww100.setCell ((blk ww17.heap.size).add 1) (.int .i64 xEpoch97)) fun ww101 =>
  cellsAt ww101 (blk ww79.heap.size) [.slice xL98a xL98n xL98c, .int .i64 xEpoch99] 0 ∧
  canStore ww101 ((blk ww18.heap.size).add 0) ∧
  thenW (ww101.setCell ((blk ww18.heap.size).add 0) (.slice xL98a xL98n xL98c)) fun ww102 =>
  canStore ww102 ((blk ww18.heap.size).add 1) ∧
  thenW (ww102.setCell ((blk ww18.heap.size).add 1) (.int .i64 xEpoch99)) fun ww103 =>
  ∃ (xL104a : Option Addr) (xL104n : Nat) (xL104c : Nat) (xEpoch105 : Int), cellsAt ww103 (blk ww17.heap.size) [.slice xL104a xL104n xL104c, .int .i64 xEpoch105] 0 ∧
  Calls Try.prog 17 #[.agg #[.slice xL104a xL104n xL104c, .int .i64 xEpoch105], .int .i64 wv3] ww103 fun ee112 ww113 => ∃ (Who106 : Int) (Public107 : Int) (From108 : Int) (To109 : Int) (Limit110 : Int) (find111 : Bool), ee112 = .returned (.tuple #[.agg #[.int .i64 Who106, .int .u64 Public107, .int .i64 From108, .int .i64 To109, .int .i64 Limit110], .bool find111]) ∧
  thenW (ww113.alloc (.cells #[.int .i64 0, .int .u64 0, .int .i64 0, .int .i64 0, .int .i64 0] 49)) fun ww114 =>
  canStore ww114 ((blk ww113.heap.size).add 0) ∧
  thenW (ww114.setCell ((blk ww113.heap.size).add 0) (.int .i64 Who106)) fun ww115 =>
  canStore ww115 ((blk ww113.heap.size).add 1) ∧
  thenW (ww115.setCell ((blk ww113.heap.size).add 1) (.int .u64 Public107)) fun ww116 =>
  canStore ww116 ((blk ww113.heap.size).add 2) ∧
  thenW (ww116.setCell ((blk ww113.heap.size).add 2) (.int .i64 From108)) fun ww117 =>
  canStore ww117 ((blk ww113.heap.size).add 3) ∧
  thenW (ww117.setCell ((blk ww113.heap.size).add 3) (.int .i64 To109)) fun ww118 =>
  canStore ww118 ((blk ww113.heap.size).add 4) ∧
  thenW (ww118.setCell ((blk ww113.heap.size).add 4) (.int .i64 Limit110)) fun ww119 =>
  ∃ (xL120a : Option Addr) (xL120n : Nat) (xL120c : Nat) (xEpoch121 : Int), cellsAt ww119 (blk ww18.heap.size) [.slice xL120a xL120n xL120c, .int .i64 xEpoch121] 0 ∧
  Calls Try.prog 21 #[.agg #[.slice xL120a xL120n xL120c, .int .i64 xEpoch121], .int .i64 wv3] ww119 fun ee128 ww129 => ∃ (Who122 : Int) (Public123 : Int) (From124 : Int) (To125 : Int) (Limit126 : Int) (find127 : Bool), ee128 = .returned (.tuple #[.agg #[.int .i64 Who122, .int .u64 Public123, .int .i64 From124, .int .i64 To125, .int .i64 Limit126], .bool find127]) ∧
  thenW (ww129.alloc (.cells #[.int .i64 0, .int .u64 0, .int .i64 0, .int .i64 0, .int .i64 0] 52)) fun ww130 =>
  canStore ww130 ((blk ww129.heap.size).add 0) ∧
  thenW (ww130.setCell ((blk ww129.heap.size).add 0) (.int .i64 Who122)) fun ww131 =>
  canStore ww131 ((blk ww129.heap.size).add 1) ∧
  thenW (ww131.setCell ((blk ww129.heap.size).add 1) (.int .u64 Public123)) fun ww132 =>
  canStore ww132 ((blk ww129.heap.size).add 2) ∧
  thenW (ww132.setCell ((blk ww129.heap.size).add 2) (.int .i64 From124)) fun ww133 =>
  canStore ww133 ((blk ww129.heap.size).add 3) ∧
  thenW (ww133.setCell ((blk ww129.heap.size).add 3) (.int .i64 To125)) fun ww134 =>
  canStore ww134 ((blk ww129.heap.size).add 4) ∧
  thenW (ww134.setCell ((blk ww129.heap.size).add 4) (.int .i64 Limit126)) fun ww135 =>
  thenW (ww135.drew) fun ww136 =>
  ∃ (xL137a : Option Addr) (xL137n : Nat) (xL137c : Nat) (xEpoch138 : Int), cellsAt ww136 (blk ww17.heap.size) [.slice xL137a xL137n xL137c, .int .i64 xEpoch138] 0 ∧
  ∃ (xL139a : Option Addr) (xL139n : Nat) (xL139c : Nat) (xEpoch140 : Int), cellsAt ww136 (blk ww18.heap.size) [.slice xL139a xL139n xL139c, .int .i64 xEpoch140] 0 ∧
  Calls Try.prog 22 #[.agg #[.slice xL137a xL137n xL137c, .int .i64 xEpoch138]] ww136 fun ee142 ww143 => ∃ (now141a : Option Addr) (now141n : Nat) (now141c : Nat), ee142 = .returned (.slice now141a now141n now141c) ∧
  cellsAt ww143 (blk ww18.heap.size) [.slice xL139a xL139n xL139c, .int .i64 xEpoch140] 0 ∧
  Calls Try.prog 23 #[.agg #[.slice xL139a xL139n xL139c, .int .i64 xEpoch140]] ww143 fun ee145 ww146 => ∃ (now144a : Option Addr) (now144n : Nat) (now144c : Nat), ee145 = .returned (.slice now144a now144n now144c) ∧
  thenW (ww146.drew) fun ww147 =>
  ∃ (xWho148 : Int) (xPublic149 : Int) (xFrom150 : Int) (xTo151 : Int) (xLimit152 : Int), cellsAt ww147 (blk ww113.heap.size) [.int .i64 xWho148, .int .u64 xPublic149, .int .i64 xFrom150, .int .i64 xTo151, .int .i64 xLimit152] 0 ∧
  ∃ (xWho153 : Int) (xPublic154 : Int) (xFrom155 : Int) (xTo156 : Int) (xLimit157 : Int), cellsAt ww147 (blk ww129.heap.size) [.int .i64 xWho153, .int .u64 xPublic154, .int .i64 xFrom155, .int .i64 xTo156, .int .i64 xLimit157] 0 ∧
  Calls Try.prog 18 #[.agg #[.int .i64 xWho148, .int .u64 xPublic149, .int .i64 xFrom150, .int .i64 xTo151, .int .i64 xLimit152]] ww147 fun ee163 ww164 => ∃ (Who158 : Int) (Public159 : Int) (From160 : Int) (To161 : Int) (Limit162 : Int), ee163 = .returned (.agg #[.int .i64 Who158, .int .u64 Public159, .int .i64 From160, .int .i64 To161, .int .i64 Limit162]) ∧
  cellsAt ww164 (blk ww129.heap.size) [.int .i64 xWho153, .int .u64 xPublic154, .int .i64 xFrom155, .int .i64 xTo156, .int .i64 xLimit157] 0 ∧
  ∃ (b165 : Bool), (binOp .neq 52 (.agg #[.int .i64 Who158, .int .u64 Public159, .int .i64 From160, .int .i64 To161, .int .i64 Limit162]) (.agg #[.int .i64 xWho153, .int .u64 xPublic154, .int .i64 xFrom155, .int .i64 xTo156, .int .i64 xLimit157])).run Try.prog ww164 = .ok (.bool b165) ww164 ∧
  bif b165 then (
  R (.bool false) ww164) else (
  bif !(find111 == find127) then (
  R (.bool false) ww164) else (
  bif (now141n : Int) != (now144n : Int) then (
  R (.bool false) ww164) else (
  ∃ (I2 : Nat → List Value → World → Prop) (m167 : Nat), I2 m167 [.int .i64 0] ww164 ∧ ∀ (m168 : Nat) (ww169 : World) (k166 : Int), I2 m168 [.int .i64 k166] ww169 →
  bif decide (k166 < (now141n : Int)) then (
  thenW (ww169.drew) fun ww170 =>
  now141a.elim False fun a171 =>
  0 ≤ (k166 : Int) ∧ (k166 : Int) < (now141n : Int) ∧
  ∃ (xWho172 : Int) (xPublic173 : Int) (xFrom174 : Int) (xTo175 : Int) (xLimit176 : Int), cellsAt ww170 (a171.add (Int.toNat k166 * 5)) [.int .i64 xWho172, .int .u64 xPublic173, .int .i64 xFrom174, .int .i64 xTo175, .int .i64 xLimit176] 0 ∧
  now144a.elim False fun a177 =>
  0 ≤ (k166 : Int) ∧ (k166 : Int) < (now144n : Int) ∧
  ∃ (xWho178 : Int) (xPublic179 : Int) (xFrom180 : Int) (xTo181 : Int) (xLimit182 : Int), cellsAt ww170 (a177.add (Int.toNat k166 * 5)) [.int .i64 xWho178, .int .u64 xPublic179, .int .i64 xFrom180, .int .i64 xTo181, .int .i64 xLimit182] 0 ∧
  Calls Try.prog 18 #[.agg #[.int .i64 xWho172, .int .u64 xPublic173, .int .i64 xFrom174, .int .i64 xTo175, .int .i64 xLimit176]] ww170 fun ee188 ww189 => ∃ (Who183 : Int) (Public184 : Int) (From185 : Int) (To186 : Int) (Limit187 : Int), ee188 = .returned (.agg #[.int .i64 Who183, .int .u64 Public184, .int .i64 From185, .int .i64 To186, .int .i64 Limit187]) ∧
  cellsAt ww189 (a177.add (Int.toNat k166 * 5)) [.int .i64 xWho178, .int .u64 xPublic179, .int .i64 xFrom180, .int .i64 xTo181, .int .i64 xLimit182] 0 ∧
  ∃ (b190 : Bool), (binOp .neq 52 (.agg #[.int .i64 Who183, .int .u64 Public184, .int .i64 From185, .int .i64 To186, .int .i64 Limit187]) (.agg #[.int .i64 xWho178, .int .u64 xPublic179, .int .i64 xFrom180, .int .i64 xTo181, .int .i64 xLimit182])).run Try.prog ww189 = .ok (.bool b190) ww189 ∧
  bif b190 then (
  R (.bool false) ww189) else (
  ∃ m191, m191 < m168 ∧ I2 m191 [.int .i64 (IntKind.i64.wrap (k166 + 1))] ww189)) else (
  ∃ m192, m192 < m27 ∧ I0 m192 [.slice a45a a45n a45c, .int .i64 (IntKind.i64.wrap (i25 + 1))] ww169))))) else (
  ∃ (xL193a : Option Addr) (xL193n : Nat) (xL193c : Nat) (xEpoch194 : Int), cellsAt ww94 (blk ww17.heap.size) [.slice xL193a xL193n xL193c, .int .i64 xEpoch194] 0 ∧
  Calls Try.prog 17 #[.agg #[.slice xL193a xL193n xL193c, .int .i64 xEpoch194], .int .i64 wv3] ww94 fun ee201 ww202 => ∃ (Who195 : Int) (Public196 : Int) (From197 : Int) (To198 : Int) (Limit199 : Int) (find200 : Bool), ee201 = .returned (.tuple #[.agg #[.int .i64 Who195, .int .u64 Public196, .int .i64 From197, .int .i64 To198, .int .i64 Limit199], .bool find200]) ∧
  thenW (ww202.alloc (.cells #[.int .i64 0, .int .u64 0, .int .i64 0, .int .i64 0, .int .i64 0] 49)) fun ww203 =>
  canStore ww203 ((blk ww202.heap.size).add 0) ∧
  thenW (ww203.setCell ((blk ww202.heap.size).add 0) (.int .i64 Who195)) fun ww204 =>
  canStore ww204 ((blk ww202.heap.size).add 1) ∧
  thenW (ww204.setCell ((blk ww202.heap.size).add 1) (.int .u64 Public196)) fun ww205 =>
  canStore ww205 ((blk ww202.heap.size).add 2) ∧
  thenW (ww205.setCell ((blk ww202.heap.size).add 2) (.int .i64 From197)) fun ww206 =>
  canStore ww206 ((blk ww202.heap.size).add 3) ∧
  thenW (ww206.setCell ((blk ww202.heap.size).add 3) (.int .i64 To198)) fun ww207 =>
  canStore ww207 ((blk ww202.heap.size).add 4) ∧
  thenW (ww207.setCell ((blk ww202.heap.size).add 4) (.int .i64 Limit199)) fun ww208 =>
  ∃ (xL209a : Option Addr) (xL209n : Nat) (xL209c : Nat) (xEpoch210 : Int), cellsAt ww208 (blk ww18.heap.size) [.slice xL209a xL209n xL209c, .int .i64 xEpoch210] 0 ∧
  Calls Try.prog 21 #[.agg #[.slice xL209a xL209n xL209c, .int .i64 xEpoch210], .int .i64 wv3] ww208 fun ee217 ww218 => ∃ (Who211 : Int) (Public212 : Int) (From213 : Int) (To214 : Int) (Limit215 : Int) (find216 : Bool), ee217 = .returned (.tuple #[.agg #[.int .i64 Who211, .int .u64 Public212, .int .i64 From213, .int .i64 To214, .int .i64 Limit215], .bool find216]) ∧
  thenW (ww218.alloc (.cells #[.int .i64 0, .int .u64 0, .int .i64 0, .int .i64 0, .int .i64 0] 52)) fun ww219 =>
  canStore ww219 ((blk ww218.heap.size).add 0) ∧
  thenW (ww219.setCell ((blk ww218.heap.size).add 0) (.int .i64 Who211)) fun ww220 =>
  canStore ww220 ((blk ww218.heap.size).add 1) ∧
  thenW (ww220.setCell ((blk ww218.heap.size).add 1) (.int .u64 Public212)) fun ww221 =>
  canStore ww221 ((blk ww218.heap.size).add 2) ∧
  thenW (ww221.setCell ((blk ww218.heap.size).add 2) (.int .i64 From213)) fun ww222 =>
  canStore ww222 ((blk ww218.heap.size).add 3) ∧
  thenW (ww222.setCell ((blk ww218.heap.size).add 3) (.int .i64 To214)) fun ww223 =>
  canStore ww223 ((blk ww218.heap.size).add 4) ∧
  thenW (ww223.setCell ((blk ww218.heap.size).add 4) (.int .i64 Limit215)) fun ww224 =>
  thenW (ww224.drew) fun ww225 =>
  ∃ (xL226a : Option Addr) (xL226n : Nat) (xL226c : Nat) (xEpoch227 : Int), cellsAt ww225 (blk ww17.heap.size) [.slice xL226a xL226n xL226c, .int .i64 xEpoch227] 0 ∧
  ∃ (xL228a : Option Addr) (xL228n : Nat) (xL228c : Nat) (xEpoch229 : Int), cellsAt ww225 (blk ww18.heap.size) [.slice xL228a xL228n xL228c, .int .i64 xEpoch229] 0 ∧
  Calls Try.prog 22 #[.agg #[.slice xL226a xL226n xL226c, .int .i64 xEpoch227]] ww225 fun ee231 ww232 => ∃ (now230a : Option Addr) (now230n : Nat) (now230c : Nat), ee231 = .returned (.slice now230a now230n now230c) ∧
  cellsAt ww232 (blk ww18.heap.size) [.slice xL228a xL228n xL228c, .int .i64 xEpoch229] 0 ∧
  Calls Try.prog 23 #[.agg #[.slice xL228a xL228n xL228c, .int .i64 xEpoch229]] ww232 fun ee234 ww235 => ∃ (now233a : Option Addr) (now233n : Nat) (now233c : Nat), ee234 = .returned (.slice now233a now233n now233c) ∧
  thenW (ww235.drew) fun ww236 =>
  ∃ (xWho237 : Int) (xPublic238 : Int) (xFrom239 : Int) (xTo240 : Int) (xLimit241 : Int), cellsAt ww236 (blk ww202.heap.size) [.int .i64 xWho237, .int .u64 xPublic238, .int .i64 xFrom239, .int .i64 xTo240, .int .i64 xLimit241] 0 ∧
  ∃ (xWho242 : Int) (xPublic243 : Int) (xFrom244 : Int) (xTo245 : Int) (xLimit246 : Int), cellsAt ww236 (blk ww218.heap.size) [.int .i64 xWho242, .int .u64 xPublic243, .int .i64 xFrom244, .int .i64 xTo245, .int .i64 xLimit246] 0 ∧
  Calls Try.prog 18 #[.agg #[.int .i64 xWho237, .int .u64 xPublic238, .int .i64 xFrom239, .int .i64 xTo240, .int .i64 xLimit241]] ww236 fun ee252 ww253 => ∃ (Who247 : Int) (Public248 : Int) (From249 : Int) (To250 : Int) (Limit251 : Int), ee252 = .returned (.agg #[.int .i64 Who247, .int .u64 Public248, .int .i64 From249, .int .i64 To250, .int .i64 Limit251]) ∧
  cellsAt ww253 (blk ww218.heap.size) [.int .i64 xWho242, .int .u64 xPublic243, .int .i64 xFrom244, .int .i64 xTo245, .int .i64 xLimit246] 0 ∧
  ∃ (b254 : Bool), (binOp .neq 52 (.agg #[.int .i64 Who247, .int .u64 Public248, .int .i64 From249, .int .i64 To250, .int .i64 Limit251]) (.agg #[.int .i64 xWho242, .int .u64 xPublic243, .int .i64 xFrom244, .int .i64 xTo245, .int .i64 xLimit246])).run Try.prog ww253 = .ok (.bool b254) ww253 ∧
  bif b254 then (
  R (.bool false) ww253) else (
  bif !(find200 == find216) then (
  R (.bool false) ww253) else (
  bif (now230n : Int) != (now233n : Int) then (
  R (.bool false) ww253) else (
  ∃ (I2 : Nat → List Value → World → Prop) (m256 : Nat), I2 m256 [.int .i64 0] ww253 ∧ ∀ (m257 : Nat) (ww258 : World) (k255 : Int), I2 m257 [.int .i64 k255] ww258 →
  bif decide (k255 < (now230n : Int)) then (
  thenW (ww258.drew) fun ww259 =>
  now230a.elim False fun a260 =>
  0 ≤ (k255 : Int) ∧ (k255 : Int) < (now230n : Int) ∧
  ∃ (xWho261 : Int) (xPublic262 : Int) (xFrom263 : Int) (xTo264 : Int) (xLimit265 : Int), cellsAt ww259 (a260.add (Int.toNat k255 * 5)) [.int .i64 xWho261, .int .u64 xPublic262, .int .i64 xFrom263, .int .i64 xTo264, .int .i64 xLimit265] 0 ∧
  now233a.elim False fun a266 =>
  0 ≤ (k255 : Int) ∧ (k255 : Int) < (now233n : Int) ∧
  ∃ (xWho267 : Int) (xPublic268 : Int) (xFrom269 : Int) (xTo270 : Int) (xLimit271 : Int), cellsAt ww259 (a266.add (Int.toNat k255 * 5)) [.int .i64 xWho267, .int .u64 xPublic268, .int .i64 xFrom269, .int .i64 xTo270, .int .i64 xLimit271] 0 ∧
  Calls Try.prog 18 #[.agg #[.int .i64 xWho261, .int .u64 xPublic262, .int .i64 xFrom263, .int .i64 xTo264, .int .i64 xLimit265]] ww259 fun ee277 ww278 => ∃ (Who272 : Int) (Public273 : Int) (From274 : Int) (To275 : Int) (Limit276 : Int), ee277 = .returned (.agg #[.int .i64 Who272, .int .u64 Public273, .int .i64 From274, .int .i64 To275, .int .i64 Limit276]) ∧
  cellsAt ww278 (a266.add (Int.toNat k255 * 5)) [.int .i64 xWho267, .int .u64 xPublic268, .int .i64 xFrom269, .int .i64 xTo270, .int .i64 xLimit271] 0 ∧
  ∃ (b279 : Bool), (binOp .neq 52 (.agg #[.int .i64 Who272, .int .u64 Public273, .int .i64 From274, .int .i64 To275, .int .i64 Limit276]) (.agg #[.int .i64 xWho267, .int .u64 xPublic268, .int .i64 xFrom269, .int .i64 xTo270, .int .i64 xLimit271])).run Try.prog ww278 = .ok (.bool b279) ww278 ∧
  bif b279 then (
  R (.bool false) ww278) else (
  ∃ m280, m280 < m257 ∧ I2 m280 [.int .i64 (IntKind.i64.wrap (k255 + 1))] ww278)) else (
  ∃ m281, m281 < m27 ∧ I0 m281 [.slice a45a a45n a45c, .int .i64 (IntKind.i64.wrap (i25 + 1))] ww258)))))))) ∧
  (thenW (ww65.alloc (.cells #[.slice none 0 0, .int .i64 0] 45)) fun ww282 =>
  cellsAt ww282 (a68.add (Int.toNat i25 * 6)) [.int .i64 xKind69, .int .i64 xWho70, .int .u64 xPublic71, .int .i64 xLimit72, .slice xWraps73a xWraps73n xWraps73c, .slice xOld74a xOld74n xOld74c] 0 ∧
  cellsAt ww282 (blk ww18.heap.size) [.slice xL66a xL66n xL66c, .int .i64 xEpoch67] 0 ∧
  Calls Try.prog 20 #[.agg #[.slice xL66a xL66n xL66c, .int .i64 xEpoch67], .agg #[.int .i64 xKind69, .int .i64 xWho70, .int .u64 xPublic71, .int .i64 xLimit72, .slice xWraps73a xWraps73n xWraps73c, .slice xOld74a xOld74n xOld74c]] ww282 fun ee286 ww287 => ∃ (L283a : Option Addr) (L283n : Nat) (L283c : Nat) (Epoch284 : Int) (apply285 : Int), ee286 = .returned (.tuple #[.agg #[.slice L283a L283n L283c, .int .i64 Epoch284], .int .i64 apply285]) ∧
  canStore ww287 ((blk ww65.heap.size).add 0) ∧
  thenW (ww287.setCell ((blk ww65.heap.size).add 0) (.slice L283a L283n L283c)) fun ww288 =>
  canStore ww288 ((blk ww65.heap.size).add 1) ∧
  thenW (ww288.setCell ((blk ww65.heap.size).add 1) (.int .i64 Epoch284)) fun ww289 =>
  thenW (ww289.drew) fun ww290 =>
  bif apply59 != apply285 then (
  R (.bool false) ww290) else (
  ∃ (xL291a : Option Addr) (xL291n : Nat) (xL291c : Nat) (xEpoch292 : Int), cellsAt ww290 (blk ww61.heap.size) [.slice xL291a xL291n xL291c, .int .i64 xEpoch292] 0 ∧
  ∃ (xL293a : Option Addr) (xL293n : Nat) (xL293c : Nat) (xEpoch294 : Int), cellsAt ww290 (blk ww65.heap.size) [.slice xL293a xL293n xL293c, .int .i64 xEpoch294] 0 ∧
  Calls Try.prog 15 #[.agg #[.slice xL291a xL291n xL291c, .int .i64 xEpoch292]] ww290 fun ee297 ww298 => ∃ (L295a : Option Addr) (L295n : Nat) (L295c : Nat) (Epoch296 : Int), ee297 = .returned (.agg #[.slice L295a L295n L295c, .int .i64 Epoch296]) ∧
  cellsAt ww298 (blk ww65.heap.size) [.slice xL293a xL293n xL293c, .int .i64 xEpoch294] 0 ∧
  Calls Try.prog 16 #[.agg #[.slice L295a L295n L295c, .int .i64 Epoch296], .agg #[.slice xL293a xL293n xL293c, .int .i64 xEpoch294]] ww298 fun ee300 ww301 => ∃ (same299 : Bool), ee300 = .returned (.bool same299) ∧
  bif !same299 then (
  R (.bool false) ww301) else (
  bif apply285 == 0 then (
  thenW (ww301.drew) fun ww302 =>
  ∃ (xL303a : Option Addr) (xL303n : Nat) (xL303c : Nat) (xEpoch304 : Int), cellsAt ww302 (blk ww61.heap.size) [.slice xL303a xL303n xL303c, .int .i64 xEpoch304] 0 ∧
  ∃ (xL305a : Option Addr) (xL305n : Nat) (xL305c : Nat) (xEpoch306 : Int), cellsAt ww302 (blk ww65.heap.size) [.slice xL305a xL305n xL305c, .int .i64 xEpoch306] 0 ∧
  canStore ww302 ((blk ww17.heap.size).add 0) ∧
  thenW (ww302.setCell ((blk ww17.heap.size).add 0) (.slice xL303a xL303n xL303c)) fun ww307 =>
  canStore ww307 ((blk ww17.heap.size).add 1) ∧
  thenW (ww307.setCell ((blk ww17.heap.size).add 1) (.int .i64 xEpoch304)) fun ww308 =>
  cellsAt ww308 (blk ww65.heap.size) [.slice xL305a xL305n xL305c, .int .i64 xEpoch306] 0 ∧
  canStore ww308 ((blk ww18.heap.size).add 0) ∧
  thenW (ww308.setCell ((blk ww18.heap.size).add 0) (.slice xL305a xL305n xL305c)) fun ww309 =>
  canStore ww309 ((blk ww18.heap.size).add 1) ∧
  thenW (ww309.setCell ((blk ww18.heap.size).add 1) (.int .i64 xEpoch306)) fun ww310 =>
  ∃ (xL311a : Option Addr) (xL311n : Nat) (xL311c : Nat) (xEpoch312 : Int), cellsAt ww310 (blk ww17.heap.size) [.slice xL311a xL311n xL311c, .int .i64 xEpoch312] 0 ∧
  Calls Try.prog 17 #[.agg #[.slice xL311a xL311n xL311c, .int .i64 xEpoch312], .int .i64 wv3] ww310 fun ee319 ww320 => ∃ (Who313 : Int) (Public314 : Int) (From315 : Int) (To316 : Int) (Limit317 : Int) (find318 : Bool), ee319 = .returned (.tuple #[.agg #[.int .i64 Who313, .int .u64 Public314, .int .i64 From315, .int .i64 To316, .int .i64 Limit317], .bool find318]) ∧
  thenW (ww320.alloc (.cells #[.int .i64 0, .int .u64 0, .int .i64 0, .int .i64 0, .int .i64 0] 49)) fun ww321 =>
  canStore ww321 ((blk ww320.heap.size).add 0) ∧
  thenW (ww321.setCell ((blk ww320.heap.size).add 0) (.int .i64 Who313)) fun ww322 =>
  canStore ww322 ((blk ww320.heap.size).add 1) ∧
  thenW (ww322.setCell ((blk ww320.heap.size).add 1) (.int .u64 Public314)) fun ww323 =>
  canStore ww323 ((blk ww320.heap.size).add 2) ∧
  thenW (ww323.setCell ((blk ww320.heap.size).add 2) (.int .i64 From315)) fun ww324 =>
  canStore ww324 ((blk ww320.heap.size).add 3) ∧
  thenW (ww324.setCell ((blk ww320.heap.size).add 3) (.int .i64 To316)) fun ww325 =>
  canStore ww325 ((blk ww320.heap.size).add 4) ∧
  thenW (ww325.setCell ((blk ww320.heap.size).add 4) (.int .i64 Limit317)) fun ww326 =>
  ∃ (xL327a : Option Addr) (xL327n : Nat) (xL327c : Nat) (xEpoch328 : Int), cellsAt ww326 (blk ww18.heap.size) [.slice xL327a xL327n xL327c, .int .i64 xEpoch328] 0 ∧
  Calls Try.prog 21 #[.agg #[.slice xL327a xL327n xL327c, .int .i64 xEpoch328], .int .i64 wv3] ww326 fun ee335 ww336 => ∃ (Who329 : Int) (Public330 : Int) (From331 : Int) (To332 : Int) (Limit333 : Int) (find334 : Bool), ee335 = .returned (.tuple #[.agg #[.int .i64 Who329, .int .u64 Public330, .int .i64 From331, .int .i64 To332, .int .i64 Limit333], .bool find334]) ∧
  thenW (ww336.alloc (.cells #[.int .i64 0, .int .u64 0, .int .i64 0, .int .i64 0, .int .i64 0] 52)) fun ww337 =>
  canStore ww337 ((blk ww336.heap.size).add 0) ∧
  thenW (ww337.setCell ((blk ww336.heap.size).add 0) (.int .i64 Who329)) fun ww338 =>
  canStore ww338 ((blk ww336.heap.size).add 1) ∧
  thenW (ww338.setCell ((blk ww336.heap.size).add 1) (.int .u64 Public330)) fun ww339 =>
  canStore ww339 ((blk ww336.heap.size).add 2) ∧
  thenW (ww339.setCell ((blk ww336.heap.size).add 2) (.int .i64 From331)) fun ww340 =>
  canStore ww340 ((blk ww336.heap.size).add 3) ∧
  thenW (ww340.setCell ((blk ww336.heap.size).add 3) (.int .i64 To332)) fun ww341 =>
  canStore ww341 ((blk ww336.heap.size).add 4) ∧
  thenW (ww341.setCell ((blk ww336.heap.size).add 4) (.int .i64 Limit333)) fun ww342 =>
  thenW (ww342.drew) fun ww343 =>
  ∃ (xL344a : Option Addr) (xL344n : Nat) (xL344c : Nat) (xEpoch345 : Int), cellsAt ww343 (blk ww17.heap.size) [.slice xL344a xL344n xL344c, .int .i64 xEpoch345] 0 ∧
  ∃ (xL346a : Option Addr) (xL346n : Nat) (xL346c : Nat) (xEpoch347 : Int), cellsAt ww343 (blk ww18.heap.size) [.slice xL346a xL346n xL346c, .int .i64 xEpoch347] 0 ∧
  Calls Try.prog 22 #[.agg #[.slice xL344a xL344n xL344c, .int .i64 xEpoch345]] ww343 fun ee349 ww350 => ∃ (now348a : Option Addr) (now348n : Nat) (now348c : Nat), ee349 = .returned (.slice now348a now348n now348c) ∧
  cellsAt ww350 (blk ww18.heap.size) [.slice xL346a xL346n xL346c, .int .i64 xEpoch347] 0 ∧
  Calls Try.prog 23 #[.agg #[.slice xL346a xL346n xL346c, .int .i64 xEpoch347]] ww350 fun ee352 ww353 => ∃ (now351a : Option Addr) (now351n : Nat) (now351c : Nat), ee352 = .returned (.slice now351a now351n now351c) ∧
  thenW (ww353.drew) fun ww354 =>
  ∃ (xWho355 : Int) (xPublic356 : Int) (xFrom357 : Int) (xTo358 : Int) (xLimit359 : Int), cellsAt ww354 (blk ww320.heap.size) [.int .i64 xWho355, .int .u64 xPublic356, .int .i64 xFrom357, .int .i64 xTo358, .int .i64 xLimit359] 0 ∧
  ∃ (xWho360 : Int) (xPublic361 : Int) (xFrom362 : Int) (xTo363 : Int) (xLimit364 : Int), cellsAt ww354 (blk ww336.heap.size) [.int .i64 xWho360, .int .u64 xPublic361, .int .i64 xFrom362, .int .i64 xTo363, .int .i64 xLimit364] 0 ∧
  Calls Try.prog 18 #[.agg #[.int .i64 xWho355, .int .u64 xPublic356, .int .i64 xFrom357, .int .i64 xTo358, .int .i64 xLimit359]] ww354 fun ee370 ww371 => ∃ (Who365 : Int) (Public366 : Int) (From367 : Int) (To368 : Int) (Limit369 : Int), ee370 = .returned (.agg #[.int .i64 Who365, .int .u64 Public366, .int .i64 From367, .int .i64 To368, .int .i64 Limit369]) ∧
  cellsAt ww371 (blk ww336.heap.size) [.int .i64 xWho360, .int .u64 xPublic361, .int .i64 xFrom362, .int .i64 xTo363, .int .i64 xLimit364] 0 ∧
  ∃ (b372 : Bool), (binOp .neq 52 (.agg #[.int .i64 Who365, .int .u64 Public366, .int .i64 From367, .int .i64 To368, .int .i64 Limit369]) (.agg #[.int .i64 xWho360, .int .u64 xPublic361, .int .i64 xFrom362, .int .i64 xTo363, .int .i64 xLimit364])).run Try.prog ww371 = .ok (.bool b372) ww371 ∧
  bif b372 then (
  R (.bool false) ww371) else (
  bif !(find318 == find334) then (
  R (.bool false) ww371) else (
  bif (now348n : Int) != (now351n : Int) then (
  R (.bool false) ww371) else (
  ∃ (I2 : Nat → List Value → World → Prop) (m374 : Nat), I2 m374 [.int .i64 0] ww371 ∧ ∀ (m375 : Nat) (ww376 : World) (k373 : Int), I2 m375 [.int .i64 k373] ww376 →
  bif decide (k373 < (now348n : Int)) then (
  thenW (ww376.drew) fun ww377 =>
  now348a.elim False fun a378 =>
  0 ≤ (k373 : Int) ∧ (k373 : Int) < (now348n : Int) ∧
  ∃ (xWho379 : Int) (xPublic380 : Int) (xFrom381 : Int) (xTo382 : Int) (xLimit383 : Int), cellsAt ww377 (a378.add (Int.toNat k373 * 5)) [.int .i64 xWho379, .int .u64 xPublic380, .int .i64 xFrom381, .int .i64 xTo382, .int .i64 xLimit383] 0 ∧
  now351a.elim False fun a384 =>
  0 ≤ (k373 : Int) ∧ (k373 : Int) < (now351n : Int) ∧
  ∃ (xWho385 : Int) (xPublic386 : Int) (xFrom387 : Int) (xTo388 : Int) (xLimit389 : Int), cellsAt ww377 (a384.add (Int.toNat k373 * 5)) [.int .i64 xWho385, .int .u64 xPublic386, .int .i64 xFrom387, .int .i64 xTo388, .int .i64 xLimit389] 0 ∧
  Calls Try.prog 18 #[.agg #[.int .i64 xWho379, .int .u64 xPublic380, .int .i64 xFrom381, .int .i64 xTo382, .int .i64 xLimit383]] ww377 fun ee395 ww396 => ∃ (Who390 : Int) (Public391 : Int) (From392 : Int) (To393 : Int) (Limit394 : Int), ee395 = .returned (.agg #[.int .i64 Who390, .int .u64 Public391, .int .i64 From392, .int .i64 To393, .int .i64 Limit394]) ∧
  cellsAt ww396 (a384.add (Int.toNat k373 * 5)) [.int .i64 xWho385, .int .u64 xPublic386, .int .i64 xFrom387, .int .i64 xTo388, .int .i64 xLimit389] 0 ∧
  ∃ (b397 : Bool), (binOp .neq 52 (.agg #[.int .i64 Who390, .int .u64 Public391, .int .i64 From392, .int .i64 To393, .int .i64 Limit394]) (.agg #[.int .i64 xWho385, .int .u64 xPublic386, .int .i64 xFrom387, .int .i64 xTo388, .int .i64 xLimit389])).run Try.prog ww396 = .ok (.bool b397) ww396 ∧
  bif b397 then (
  R (.bool false) ww396) else (
  ∃ m398, m398 < m375 ∧ I2 m398 [.int .i64 (IntKind.i64.wrap (k373 + 1))] ww396)) else (
  ∃ m399, m399 < m27 ∧ I0 m399 [.slice a45a a45n a45c, .int .i64 (IntKind.i64.wrap (i25 + 1))] ww376))))) else (
  ∃ (xL400a : Option Addr) (xL400n : Nat) (xL400c : Nat) (xEpoch401 : Int), cellsAt ww301 (blk ww17.heap.size) [.slice xL400a xL400n xL400c, .int .i64 xEpoch401] 0 ∧
  Calls Try.prog 17 #[.agg #[.slice xL400a xL400n xL400c, .int .i64 xEpoch401], .int .i64 wv3] ww301 fun ee408 ww409 => ∃ (Who402 : Int) (Public403 : Int) (From404 : Int) (To405 : Int) (Limit406 : Int) (find407 : Bool), ee408 = .returned (.tuple #[.agg #[.int .i64 Who402, .int .u64 Public403, .int .i64 From404, .int .i64 To405, .int .i64 Limit406], .bool find407]) ∧
  thenW (ww409.alloc (.cells #[.int .i64 0, .int .u64 0, .int .i64 0, .int .i64 0, .int .i64 0] 49)) fun ww410 =>
  canStore ww410 ((blk ww409.heap.size).add 0) ∧
  thenW (ww410.setCell ((blk ww409.heap.size).add 0) (.int .i64 Who402)) fun ww411 =>
  canStore ww411 ((blk ww409.heap.size).add 1) ∧
  thenW (ww411.setCell ((blk ww409.heap.size).add 1) (.int .u64 Public403)) fun ww412 =>
  canStore ww412 ((blk ww409.heap.size).add 2) ∧
  thenW (ww412.setCell ((blk ww409.heap.size).add 2) (.int .i64 From404)) fun ww413 =>
  canStore ww413 ((blk ww409.heap.size).add 3) ∧
  thenW (ww413.setCell ((blk ww409.heap.size).add 3) (.int .i64 To405)) fun ww414 =>
  canStore ww414 ((blk ww409.heap.size).add 4) ∧
  thenW (ww414.setCell ((blk ww409.heap.size).add 4) (.int .i64 Limit406)) fun ww415 =>
  ∃ (xL416a : Option Addr) (xL416n : Nat) (xL416c : Nat) (xEpoch417 : Int), cellsAt ww415 (blk ww18.heap.size) [.slice xL416a xL416n xL416c, .int .i64 xEpoch417] 0 ∧
  Calls Try.prog 21 #[.agg #[.slice xL416a xL416n xL416c, .int .i64 xEpoch417], .int .i64 wv3] ww415 fun ee424 ww425 => ∃ (Who418 : Int) (Public419 : Int) (From420 : Int) (To421 : Int) (Limit422 : Int) (find423 : Bool), ee424 = .returned (.tuple #[.agg #[.int .i64 Who418, .int .u64 Public419, .int .i64 From420, .int .i64 To421, .int .i64 Limit422], .bool find423]) ∧
  thenW (ww425.alloc (.cells #[.int .i64 0, .int .u64 0, .int .i64 0, .int .i64 0, .int .i64 0] 52)) fun ww426 =>
  canStore ww426 ((blk ww425.heap.size).add 0) ∧
  thenW (ww426.setCell ((blk ww425.heap.size).add 0) (.int .i64 Who418)) fun ww427 =>
  canStore ww427 ((blk ww425.heap.size).add 1) ∧
  thenW (ww427.setCell ((blk ww425.heap.size).add 1) (.int .u64 Public419)) fun ww428 =>
  canStore ww428 ((blk ww425.heap.size).add 2) ∧
  thenW (ww428.setCell ((blk ww425.heap.size).add 2) (.int .i64 From420)) fun ww429 =>
  canStore ww429 ((blk ww425.heap.size).add 3) ∧
  thenW (ww429.setCell ((blk ww425.heap.size).add 3) (.int .i64 To421)) fun ww430 =>
  canStore ww430 ((blk ww425.heap.size).add 4) ∧
  thenW (ww430.setCell ((blk ww425.heap.size).add 4) (.int .i64 Limit422)) fun ww431 =>
  thenW (ww431.drew) fun ww432 =>
  ∃ (xL433a : Option Addr) (xL433n : Nat) (xL433c : Nat) (xEpoch434 : Int), cellsAt ww432 (blk ww17.heap.size) [.slice xL433a xL433n xL433c, .int .i64 xEpoch434] 0 ∧
  ∃ (xL435a : Option Addr) (xL435n : Nat) (xL435c : Nat) (xEpoch436 : Int), cellsAt ww432 (blk ww18.heap.size) [.slice xL435a xL435n xL435c, .int .i64 xEpoch436] 0 ∧
  Calls Try.prog 22 #[.agg #[.slice xL433a xL433n xL433c, .int .i64 xEpoch434]] ww432 fun ee438 ww439 => ∃ (now437a : Option Addr) (now437n : Nat) (now437c : Nat), ee438 = .returned (.slice now437a now437n now437c) ∧
  cellsAt ww439 (blk ww18.heap.size) [.slice xL435a xL435n xL435c, .int .i64 xEpoch436] 0 ∧
  Calls Try.prog 23 #[.agg #[.slice xL435a xL435n xL435c, .int .i64 xEpoch436]] ww439 fun ee441 ww442 => ∃ (now440a : Option Addr) (now440n : Nat) (now440c : Nat), ee441 = .returned (.slice now440a now440n now440c) ∧
  thenW (ww442.drew) fun ww443 =>
  ∃ (xWho444 : Int) (xPublic445 : Int) (xFrom446 : Int) (xTo447 : Int) (xLimit448 : Int), cellsAt ww443 (blk ww409.heap.size) [.int .i64 xWho444, .int .u64 xPublic445, .int .i64 xFrom446, .int .i64 xTo447, .int .i64 xLimit448] 0 ∧
  ∃ (xWho449 : Int) (xPublic450 : Int) (xFrom451 : Int) (xTo452 : Int) (xLimit453 : Int), cellsAt ww443 (blk ww425.heap.size) [.int .i64 xWho449, .int .u64 xPublic450, .int .i64 xFrom451, .int .i64 xTo452, .int .i64 xLimit453] 0 ∧
  Calls Try.prog 18 #[.agg #[.int .i64 xWho444, .int .u64 xPublic445, .int .i64 xFrom446, .int .i64 xTo447, .int .i64 xLimit448]] ww443 fun ee459 ww460 => ∃ (Who454 : Int) (Public455 : Int) (From456 : Int) (To457 : Int) (Limit458 : Int), ee459 = .returned (.agg #[.int .i64 Who454, .int .u64 Public455, .int .i64 From456, .int .i64 To457, .int .i64 Limit458]) ∧
  cellsAt ww460 (blk ww425.heap.size) [.int .i64 xWho449, .int .u64 xPublic450, .int .i64 xFrom451, .int .i64 xTo452, .int .i64 xLimit453] 0 ∧
  ∃ (b461 : Bool), (binOp .neq 52 (.agg #[.int .i64 Who454, .int .u64 Public455, .int .i64 From456, .int .i64 To457, .int .i64 Limit458]) (.agg #[.int .i64 xWho449, .int .u64 xPublic450, .int .i64 xFrom451, .int .i64 xTo452, .int .i64 xLimit453])).run Try.prog ww460 = .ok (.bool b461) ww460 ∧
  bif b461 then (
  R (.bool false) ww460) else (
  bif !(find407 == find423) then (
  R (.bool false) ww460) else (
  bif (now437n : Int) != (now440n : Int) then (
  R (.bool false) ww460) else (
  ∃ (I2 : Nat → List Value → World → Prop) (m463 : Nat), I2 m463 [.int .i64 0] ww460 ∧ ∀ (m464 : Nat) (ww465 : World) (k462 : Int), I2 m464 [.int .i64 k462] ww465 →
  bif decide (k462 < (now437n : Int)) then (
  thenW (ww465.drew) fun ww466 =>
  now437a.elim False fun a467 =>
  0 ≤ (k462 : Int) ∧ (k462 : Int) < (now437n : Int) ∧
  ∃ (xWho468 : Int) (xPublic469 : Int) (xFrom470 : Int) (xTo471 : Int) (xLimit472 : Int), cellsAt ww466 (a467.add (Int.toNat k462 * 5)) [.int .i64 xWho468, .int .u64 xPublic469, .int .i64 xFrom470, .int .i64 xTo471, .int .i64 xLimit472] 0 ∧
  now440a.elim False fun a473 =>
  0 ≤ (k462 : Int) ∧ (k462 : Int) < (now440n : Int) ∧
  ∃ (xWho474 : Int) (xPublic475 : Int) (xFrom476 : Int) (xTo477 : Int) (xLimit478 : Int), cellsAt ww466 (a473.add (Int.toNat k462 * 5)) [.int .i64 xWho474, .int .u64 xPublic475, .int .i64 xFrom476, .int .i64 xTo477, .int .i64 xLimit478] 0 ∧
  Calls Try.prog 18 #[.agg #[.int .i64 xWho468, .int .u64 xPublic469, .int .i64 xFrom470, .int .i64 xTo471, .int .i64 xLimit472]] ww466 fun ee484 ww485 => ∃ (Who479 : Int) (Public480 : Int) (From481 : Int) (To482 : Int) (Limit483 : Int), ee484 = .returned (.agg #[.int .i64 Who479, .int .u64 Public480, .int .i64 From481, .int .i64 To482, .int .i64 Limit483]) ∧
  cellsAt ww485 (a473.add (Int.toNat k462 * 5)) [.int .i64 xWho474, .int .u64 xPublic475, .int .i64 xFrom476, .int .i64 xTo477, .int .i64 xLimit478] 0 ∧
  ∃ (b486 : Bool), (binOp .neq 52 (.agg #[.int .i64 Who479, .int .u64 Public480, .int .i64 From481, .int .i64 To482, .int .i64 Limit483]) (.agg #[.int .i64 xWho474, .int .u64 xPublic475, .int .i64 xFrom476, .int .i64 xTo477, .int .i64 xLimit478])).run Try.prog ww485 = .ok (.bool b486) ww485 ∧
  bif b486 then (
  R (.bool false) ww485) else (
  ∃ m487, m487 < m464 ∧ I2 m487 [.int .i64 (IntKind.i64.wrap (k462 + 1))] ww485)) else (
  ∃ m488, m488 < m27 ∧ I0 m488 [.slice a45a a45n a45c, .int .i64 (IntKind.i64.wrap (i25 + 1))] ww465))))))))) ∧
  (thenW (ww47.alloc (.cells #[.slice none 0 0, .int .i64 0] 28)) fun ww489 =>
  cellsAt ww489 (a50.add (Int.toNat i25 * 6)) [.int .i64 xKind51, .int .i64 xWho52, .int .u64 xPublic53, .int .i64 xLimit54, .slice xWraps55a xWraps55n xWraps55c, .slice xOld56a xOld56n xOld56c] 0 ∧
  cellsAt ww489 (blk ww17.heap.size) [.slice xL48a xL48n xL48c, .int .i64 xEpoch49] 0 ∧
  Calls Try.prog 12 #[.agg #[.slice xL48a xL48n xL48c, .int .i64 xEpoch49], .agg #[.int .i64 xKind51, .int .i64 xWho52, .int .u64 xPublic53, .int .i64 xLimit54, .slice xWraps55a xWraps55n xWraps55c, .slice xOld56a xOld56n xOld56c]] ww489 fun ee493 ww494 => ∃ (L490a : Option Addr) (L490n : Nat) (L490c : Nat) (Epoch491 : Int) (apply492 : Int), ee493 = .returned (.tuple #[.agg #[.slice L490a L490n L490c, .int .i64 Epoch491], .int .i64 apply492]) ∧
  canStore ww494 ((blk ww47.heap.size).add 0) ∧
  thenW (ww494.setCell ((blk ww47.heap.size).add 0) (.slice L490a L490n L490c)) fun ww495 =>
  canStore ww495 ((blk ww47.heap.size).add 1) ∧
  thenW (ww495.setCell ((blk ww47.heap.size).add 1) (.int .i64 Epoch491)) fun ww496 =>
  thenW (ww496.drew) fun ww497 =>
  ∃ (xL498a : Option Addr) (xL498n : Nat) (xL498c : Nat) (xEpoch499 : Int), cellsAt ww497 (blk ww18.heap.size) [.slice xL498a xL498n xL498c, .int .i64 xEpoch499] 0 ∧
  l2a.elim False fun a500 =>
  0 ≤ (i25 : Int) ∧ (i25 : Int) < (l2n : Int) ∧
  ∃ (xKind501 : Int) (xWho502 : Int) (xPublic503 : Int) (xLimit504 : Int) (xWraps505a : Option Addr) (xWraps505n : Nat) (xWraps505c : Nat) (xOld506a : Option Addr) (xOld506n : Nat) (xOld506c : Nat), cellsAt ww497 (a500.add (Int.toNat i25 * 6)) [.int .i64 xKind501, .int .i64 xWho502, .int .u64 xPublic503, .int .i64 xLimit504, .slice xWraps505a xWraps505n xWraps505c, .slice xOld506a xOld506n xOld506c] 0 ∧
  (Calls Try.prog 20 #[.agg #[.slice xL498a xL498n xL498c, .int .i64 xEpoch499], .agg #[.int .i64 xKind501, .int .i64 xWho502, .int .u64 xPublic503, .int .i64 xLimit504, .slice xWraps505a xWraps505n xWraps505c, .slice xOld506a xOld506n xOld506c]] ww497 fun ee510 ww511 => ∃ (L507a : Option Addr) (L507n : Nat) (L507c : Nat) (Epoch508 : Int) (apply509 : Int), ee510 = .returned (.tuple #[.agg #[.slice L507a L507n L507c, .int .i64 Epoch508], .int .i64 apply509]) ∧
  thenW (ww511.alloc (.cells #[.slice none 0 0, .int .i64 0] 45)) fun ww512 =>
  canStore ww512 ((blk ww511.heap.size).add 0) ∧
  thenW (ww512.setCell ((blk ww511.heap.size).add 0) (.slice L507a L507n L507c)) fun ww513 =>
  canStore ww513 ((blk ww511.heap.size).add 1) ∧
  thenW (ww513.setCell ((blk ww511.heap.size).add 1) (.int .i64 Epoch508)) fun ww514 =>
  thenW (ww514.drew) fun ww515 =>
  bif apply492 != apply509 then (
  R (.bool false) ww515) else (
  ∃ (xL516a : Option Addr) (xL516n : Nat) (xL516c : Nat) (xEpoch517 : Int), cellsAt ww515 (blk ww47.heap.size) [.slice xL516a xL516n xL516c, .int .i64 xEpoch517] 0 ∧
  ∃ (xL518a : Option Addr) (xL518n : Nat) (xL518c : Nat) (xEpoch519 : Int), cellsAt ww515 (blk ww511.heap.size) [.slice xL518a xL518n xL518c, .int .i64 xEpoch519] 0 ∧
  Calls Try.prog 15 #[.agg #[.slice xL516a xL516n xL516c, .int .i64 xEpoch517]] ww515 fun ee522 ww523 => ∃ (L520a : Option Addr) (L520n : Nat) (L520c : Nat) (Epoch521 : Int), ee522 = .returned (.agg #[.slice L520a L520n L520c, .int .i64 Epoch521]) ∧
  cellsAt ww523 (blk ww511.heap.size) [.slice xL518a xL518n xL518c, .int .i64 xEpoch519] 0 ∧
  Calls Try.prog 16 #[.agg #[.slice L520a L520n L520c, .int .i64 Epoch521], .agg #[.slice xL518a xL518n xL518c, .int .i64 xEpoch519]] ww523 fun ee525 ww526 => ∃ (same524 : Bool), ee525 = .returned (.bool same524) ∧
  bif !same524 then (
  R (.bool false) ww526) else (
  bif apply509 == 0 then (
  thenW (ww526.drew) fun ww527 =>
  ∃ (xL528a : Option Addr) (xL528n : Nat) (xL528c : Nat) (xEpoch529 : Int), cellsAt ww527 (blk ww47.heap.size) [.slice xL528a xL528n xL528c, .int .i64 xEpoch529] 0 ∧
  ∃ (xL530a : Option Addr) (xL530n : Nat) (xL530c : Nat) (xEpoch531 : Int), cellsAt ww527 (blk ww511.heap.size) [.slice xL530a xL530n xL530c, .int .i64 xEpoch531] 0 ∧
  canStore ww527 ((blk ww17.heap.size).add 0) ∧
  thenW (ww527.setCell ((blk ww17.heap.size).add 0) (.slice xL528a xL528n xL528c)) fun ww532 =>
  canStore ww532 ((blk ww17.heap.size).add 1) ∧
  thenW (ww532.setCell ((blk ww17.heap.size).add 1) (.int .i64 xEpoch529)) fun ww533 =>
  cellsAt ww533 (blk ww511.heap.size) [.slice xL530a xL530n xL530c, .int .i64 xEpoch531] 0 ∧
  canStore ww533 ((blk ww18.heap.size).add 0) ∧
  thenW (ww533.setCell ((blk ww18.heap.size).add 0) (.slice xL530a xL530n xL530c)) fun ww534 =>
  canStore ww534 ((blk ww18.heap.size).add 1) ∧
  thenW (ww534.setCell ((blk ww18.heap.size).add 1) (.int .i64 xEpoch531)) fun ww535 =>
  ∃ (xL536a : Option Addr) (xL536n : Nat) (xL536c : Nat) (xEpoch537 : Int), cellsAt ww535 (blk ww17.heap.size) [.slice xL536a xL536n xL536c, .int .i64 xEpoch537] 0 ∧
  Calls Try.prog 17 #[.agg #[.slice xL536a xL536n xL536c, .int .i64 xEpoch537], .int .i64 wv3] ww535 fun ee544 ww545 => ∃ (Who538 : Int) (Public539 : Int) (From540 : Int) (To541 : Int) (Limit542 : Int) (find543 : Bool), ee544 = .returned (.tuple #[.agg #[.int .i64 Who538, .int .u64 Public539, .int .i64 From540, .int .i64 To541, .int .i64 Limit542], .bool find543]) ∧
  thenW (ww545.alloc (.cells #[.int .i64 0, .int .u64 0, .int .i64 0, .int .i64 0, .int .i64 0] 49)) fun ww546 =>
  canStore ww546 ((blk ww545.heap.size).add 0) ∧
  thenW (ww546.setCell ((blk ww545.heap.size).add 0) (.int .i64 Who538)) fun ww547 =>
  canStore ww547 ((blk ww545.heap.size).add 1) ∧
  thenW (ww547.setCell ((blk ww545.heap.size).add 1) (.int .u64 Public539)) fun ww548 =>
  canStore ww548 ((blk ww545.heap.size).add 2) ∧
  thenW (ww548.setCell ((blk ww545.heap.size).add 2) (.int .i64 From540)) fun ww549 =>
  canStore ww549 ((blk ww545.heap.size).add 3) ∧
  thenW (ww549.setCell ((blk ww545.heap.size).add 3) (.int .i64 To541)) fun ww550 =>
  canStore ww550 ((blk ww545.heap.size).add 4) ∧
  thenW (ww550.setCell ((blk ww545.heap.size).add 4) (.int .i64 Limit542)) fun ww551 =>
  ∃ (xL552a : Option Addr) (xL552n : Nat) (xL552c : Nat) (xEpoch553 : Int), cellsAt ww551 (blk ww18.heap.size) [.slice xL552a xL552n xL552c, .int .i64 xEpoch553] 0 ∧
  Calls Try.prog 21 #[.agg #[.slice xL552a xL552n xL552c, .int .i64 xEpoch553], .int .i64 wv3] ww551 fun ee560 ww561 => ∃ (Who554 : Int) (Public555 : Int) (From556 : Int) (To557 : Int) (Limit558 : Int) (find559 : Bool), ee560 = .returned (.tuple #[.agg #[.int .i64 Who554, .int .u64 Public555, .int .i64 From556, .int .i64 To557, .int .i64 Limit558], .bool find559]) ∧
  thenW (ww561.alloc (.cells #[.int .i64 0, .int .u64 0, .int .i64 0, .int .i64 0, .int .i64 0] 52)) fun ww562 =>
  canStore ww562 ((blk ww561.heap.size).add 0) ∧
  thenW (ww562.setCell ((blk ww561.heap.size).add 0) (.int .i64 Who554)) fun ww563 =>
  canStore ww563 ((blk ww561.heap.size).add 1) ∧
  thenW (ww563.setCell ((blk ww561.heap.size).add 1) (.int .u64 Public555)) fun ww564 =>
  canStore ww564 ((blk ww561.heap.size).add 2) ∧
  thenW (ww564.setCell ((blk ww561.heap.size).add 2) (.int .i64 From556)) fun ww565 =>
  canStore ww565 ((blk ww561.heap.size).add 3) ∧
  thenW (ww565.setCell ((blk ww561.heap.size).add 3) (.int .i64 To557)) fun ww566 =>
  canStore ww566 ((blk ww561.heap.size).add 4) ∧
  thenW (ww566.setCell ((blk ww561.heap.size).add 4) (.int .i64 Limit558)) fun ww567 =>
  thenW (ww567.drew) fun ww568 =>
  ∃ (xL569a : Option Addr) (xL569n : Nat) (xL569c : Nat) (xEpoch570 : Int), cellsAt ww568 (blk ww17.heap.size) [.slice xL569a xL569n xL569c, .int .i64 xEpoch570] 0 ∧
  ∃ (xL571a : Option Addr) (xL571n : Nat) (xL571c : Nat) (xEpoch572 : Int), cellsAt ww568 (blk ww18.heap.size) [.slice xL571a xL571n xL571c, .int .i64 xEpoch572] 0 ∧
  Calls Try.prog 22 #[.agg #[.slice xL569a xL569n xL569c, .int .i64 xEpoch570]] ww568 fun ee574 ww575 => ∃ (now573a : Option Addr) (now573n : Nat) (now573c : Nat), ee574 = .returned (.slice now573a now573n now573c) ∧
  cellsAt ww575 (blk ww18.heap.size) [.slice xL571a xL571n xL571c, .int .i64 xEpoch572] 0 ∧
  Calls Try.prog 23 #[.agg #[.slice xL571a xL571n xL571c, .int .i64 xEpoch572]] ww575 fun ee577 ww578 => ∃ (now576a : Option Addr) (now576n : Nat) (now576c : Nat), ee577 = .returned (.slice now576a now576n now576c) ∧
  thenW (ww578.drew) fun ww579 =>
  ∃ (xWho580 : Int) (xPublic581 : Int) (xFrom582 : Int) (xTo583 : Int) (xLimit584 : Int), cellsAt ww579 (blk ww545.heap.size) [.int .i64 xWho580, .int .u64 xPublic581, .int .i64 xFrom582, .int .i64 xTo583, .int .i64 xLimit584] 0 ∧
  ∃ (xWho585 : Int) (xPublic586 : Int) (xFrom587 : Int) (xTo588 : Int) (xLimit589 : Int), cellsAt ww579 (blk ww561.heap.size) [.int .i64 xWho585, .int .u64 xPublic586, .int .i64 xFrom587, .int .i64 xTo588, .int .i64 xLimit589] 0 ∧
  Calls Try.prog 18 #[.agg #[.int .i64 xWho580, .int .u64 xPublic581, .int .i64 xFrom582, .int .i64 xTo583, .int .i64 xLimit584]] ww579 fun ee595 ww596 => ∃ (Who590 : Int) (Public591 : Int) (From592 : Int) (To593 : Int) (Limit594 : Int), ee595 = .returned (.agg #[.int .i64 Who590, .int .u64 Public591, .int .i64 From592, .int .i64 To593, .int .i64 Limit594]) ∧
  cellsAt ww596 (blk ww561.heap.size) [.int .i64 xWho585, .int .u64 xPublic586, .int .i64 xFrom587, .int .i64 xTo588, .int .i64 xLimit589] 0 ∧
  ∃ (b597 : Bool), (binOp .neq 52 (.agg #[.int .i64 Who590, .int .u64 Public591, .int .i64 From592, .int .i64 To593, .int .i64 Limit594]) (.agg #[.int .i64 xWho585, .int .u64 xPublic586, .int .i64 xFrom587, .int .i64 xTo588, .int .i64 xLimit589])).run Try.prog ww596 = .ok (.bool b597) ww596 ∧
  bif b597 then (
  R (.bool false) ww596) else (
  bif !(find543 == find559) then (
  R (.bool false) ww596) else (
  bif (now573n : Int) != (now576n : Int) then (
  R (.bool false) ww596) else (
  ∃ (I2 : Nat → List Value → World → Prop) (m599 : Nat), I2 m599 [.int .i64 0] ww596 ∧ ∀ (m600 : Nat) (ww601 : World) (k598 : Int), I2 m600 [.int .i64 k598] ww601 →
  bif decide (k598 < (now573n : Int)) then (
  thenW (ww601.drew) fun ww602 =>
  now573a.elim False fun a603 =>
  0 ≤ (k598 : Int) ∧ (k598 : Int) < (now573n : Int) ∧
  ∃ (xWho604 : Int) (xPublic605 : Int) (xFrom606 : Int) (xTo607 : Int) (xLimit608 : Int), cellsAt ww602 (a603.add (Int.toNat k598 * 5)) [.int .i64 xWho604, .int .u64 xPublic605, .int .i64 xFrom606, .int .i64 xTo607, .int .i64 xLimit608] 0 ∧
  now576a.elim False fun a609 =>
  0 ≤ (k598 : Int) ∧ (k598 : Int) < (now576n : Int) ∧
  ∃ (xWho610 : Int) (xPublic611 : Int) (xFrom612 : Int) (xTo613 : Int) (xLimit614 : Int), cellsAt ww602 (a609.add (Int.toNat k598 * 5)) [.int .i64 xWho610, .int .u64 xPublic611, .int .i64 xFrom612, .int .i64 xTo613, .int .i64 xLimit614] 0 ∧
  Calls Try.prog 18 #[.agg #[.int .i64 xWho604, .int .u64 xPublic605, .int .i64 xFrom606, .int .i64 xTo607, .int .i64 xLimit608]] ww602 fun ee620 ww621 => ∃ (Who615 : Int) (Public616 : Int) (From617 : Int) (To618 : Int) (Limit619 : Int), ee620 = .returned (.agg #[.int .i64 Who615, .int .u64 Public616, .int .i64 From617, .int .i64 To618, .int .i64 Limit619]) ∧
  cellsAt ww621 (a609.add (Int.toNat k598 * 5)) [.int .i64 xWho610, .int .u64 xPublic611, .int .i64 xFrom612, .int .i64 xTo613, .int .i64 xLimit614] 0 ∧
  ∃ (b622 : Bool), (binOp .neq 52 (.agg #[.int .i64 Who615, .int .u64 Public616, .int .i64 From617, .int .i64 To618, .int .i64 Limit619]) (.agg #[.int .i64 xWho610, .int .u64 xPublic611, .int .i64 xFrom612, .int .i64 xTo613, .int .i64 xLimit614])).run Try.prog ww621 = .ok (.bool b622) ww621 ∧
  bif b622 then (
  R (.bool false) ww621) else (
  ∃ m623, m623 < m600 ∧ I2 m623 [.int .i64 (IntKind.i64.wrap (k598 + 1))] ww621)) else (
  ∃ m624, m624 < m27 ∧ I0 m624 [.slice a45a a45n a45c, .int .i64 (IntKind.i64.wrap (i25 + 1))] ww601))))) else (
  ∃ (xL625a : Option Addr) (xL625n : Nat) (xL625c : Nat) (xEpoch626 : Int), cellsAt ww526 (blk ww17.heap.size) [.slice xL625a xL625n xL625c, .int .i64 xEpoch626] 0 ∧
  Calls Try.prog 17 #[.agg #[.slice xL625a xL625n xL625c, .int .i64 xEpoch626], .int .i64 wv3] ww526 fun ee633 ww634 => ∃ (Who627 : Int) (Public628 : Int) (From629 : Int) (To630 : Int) (Limit631 : Int) (find632 : Bool), ee633 = .returned (.tuple #[.agg #[.int .i64 Who627, .int .u64 Public628, .int .i64 From629, .int .i64 To630, .int .i64 Limit631], .bool find632]) ∧
  thenW (ww634.alloc (.cells #[.int .i64 0, .int .u64 0, .int .i64 0, .int .i64 0, .int .i64 0] 49)) fun ww635 =>
  canStore ww635 ((blk ww634.heap.size).add 0) ∧
  thenW (ww635.setCell ((blk ww634.heap.size).add 0) (.int .i64 Who627)) fun ww636 =>
  canStore ww636 ((blk ww634.heap.size).add 1) ∧
  thenW (ww636.setCell ((blk ww634.heap.size).add 1) (.int .u64 Public628)) fun ww637 =>
  canStore ww637 ((blk ww634.heap.size).add 2) ∧
  thenW (ww637.setCell ((blk ww634.heap.size).add 2) (.int .i64 From629)) fun ww638 =>
  canStore ww638 ((blk ww634.heap.size).add 3) ∧
  thenW (ww638.setCell ((blk ww634.heap.size).add 3) (.int .i64 To630)) fun ww639 =>
  canStore ww639 ((blk ww634.heap.size).add 4) ∧
  thenW (ww639.setCell ((blk ww634.heap.size).add 4) (.int .i64 Limit631)) fun ww640 =>
  ∃ (xL641a : Option Addr) (xL641n : Nat) (xL641c : Nat) (xEpoch642 : Int), cellsAt ww640 (blk ww18.heap.size) [.slice xL641a xL641n xL641c, .int .i64 xEpoch642] 0 ∧
  Calls Try.prog 21 #[.agg #[.slice xL641a xL641n xL641c, .int .i64 xEpoch642], .int .i64 wv3] ww640 fun ee649 ww650 => ∃ (Who643 : Int) (Public644 : Int) (From645 : Int) (To646 : Int) (Limit647 : Int) (find648 : Bool), ee649 = .returned (.tuple #[.agg #[.int .i64 Who643, .int .u64 Public644, .int .i64 From645, .int .i64 To646, .int .i64 Limit647], .bool find648]) ∧
  thenW (ww650.alloc (.cells #[.int .i64 0, .int .u64 0, .int .i64 0, .int .i64 0, .int .i64 0] 52)) fun ww651 =>
  canStore ww651 ((blk ww650.heap.size).add 0) ∧
  thenW (ww651.setCell ((blk ww650.heap.size).add 0) (.int .i64 Who643)) fun ww652 =>
  canStore ww652 ((blk ww650.heap.size).add 1) ∧
  thenW (ww652.setCell ((blk ww650.heap.size).add 1) (.int .u64 Public644)) fun ww653 =>
  canStore ww653 ((blk ww650.heap.size).add 2) ∧
  thenW (ww653.setCell ((blk ww650.heap.size).add 2) (.int .i64 From645)) fun ww654 =>
  canStore ww654 ((blk ww650.heap.size).add 3) ∧
  thenW (ww654.setCell ((blk ww650.heap.size).add 3) (.int .i64 To646)) fun ww655 =>
  canStore ww655 ((blk ww650.heap.size).add 4) ∧
  thenW (ww655.setCell ((blk ww650.heap.size).add 4) (.int .i64 Limit647)) fun ww656 =>
  thenW (ww656.drew) fun ww657 =>
  ∃ (xL658a : Option Addr) (xL658n : Nat) (xL658c : Nat) (xEpoch659 : Int), cellsAt ww657 (blk ww17.heap.size) [.slice xL658a xL658n xL658c, .int .i64 xEpoch659] 0 ∧
  ∃ (xL660a : Option Addr) (xL660n : Nat) (xL660c : Nat) (xEpoch661 : Int), cellsAt ww657 (blk ww18.heap.size) [.slice xL660a xL660n xL660c, .int .i64 xEpoch661] 0 ∧
  Calls Try.prog 22 #[.agg #[.slice xL658a xL658n xL658c, .int .i64 xEpoch659]] ww657 fun ee663 ww664 => ∃ (now662a : Option Addr) (now662n : Nat) (now662c : Nat), ee663 = .returned (.slice now662a now662n now662c) ∧
  cellsAt ww664 (blk ww18.heap.size) [.slice xL660a xL660n xL660c, .int .i64 xEpoch661] 0 ∧
  Calls Try.prog 23 #[.agg #[.slice xL660a xL660n xL660c, .int .i64 xEpoch661]] ww664 fun ee666 ww667 => ∃ (now665a : Option Addr) (now665n : Nat) (now665c : Nat), ee666 = .returned (.slice now665a now665n now665c) ∧
  thenW (ww667.drew) fun ww668 =>
  ∃ (xWho669 : Int) (xPublic670 : Int) (xFrom671 : Int) (xTo672 : Int) (xLimit673 : Int), cellsAt ww668 (blk ww634.heap.size) [.int .i64 xWho669, .int .u64 xPublic670, .int .i64 xFrom671, .int .i64 xTo672, .int .i64 xLimit673] 0 ∧
  ∃ (xWho674 : Int) (xPublic675 : Int) (xFrom676 : Int) (xTo677 : Int) (xLimit678 : Int), cellsAt ww668 (blk ww650.heap.size) [.int .i64 xWho674, .int .u64 xPublic675, .int .i64 xFrom676, .int .i64 xTo677, .int .i64 xLimit678] 0 ∧
  Calls Try.prog 18 #[.agg #[.int .i64 xWho669, .int .u64 xPublic670, .int .i64 xFrom671, .int .i64 xTo672, .int .i64 xLimit673]] ww668 fun ee684 ww685 => ∃ (Who679 : Int) (Public680 : Int) (From681 : Int) (To682 : Int) (Limit683 : Int), ee684 = .returned (.agg #[.int .i64 Who679, .int .u64 Public680, .int .i64 From681, .int .i64 To682, .int .i64 Limit683]) ∧
  cellsAt ww685 (blk ww650.heap.size) [.int .i64 xWho674, .int .u64 xPublic675, .int .i64 xFrom676, .int .i64 xTo677, .int .i64 xLimit678] 0 ∧
  ∃ (b686 : Bool), (binOp .neq 52 (.agg #[.int .i64 Who679, .int .u64 Public680, .int .i64 From681, .int .i64 To682, .int .i64 Limit683]) (.agg #[.int .i64 xWho674, .int .u64 xPublic675, .int .i64 xFrom676, .int .i64 xTo677, .int .i64 xLimit678])).run Try.prog ww685 = .ok (.bool b686) ww685 ∧
  bif b686 then (
  R (.bool false) ww685) else (
  bif !(find632 == find648) then (
  R (.bool false) ww685) else (
  bif (now662n : Int) != (now665n : Int) then (
  R (.bool false) ww685) else (
  ∃ (I2 : Nat → List Value → World → Prop) (m688 : Nat), I2 m688 [.int .i64 0] ww685 ∧ ∀ (m689 : Nat) (ww690 : World) (k687 : Int), I2 m689 [.int .i64 k687] ww690 →
  bif decide (k687 < (now662n : Int)) then (
  thenW (ww690.drew) fun ww691 =>
  now662a.elim False fun a692 =>
  0 ≤ (k687 : Int) ∧ (k687 : Int) < (now662n : Int) ∧
  ∃ (xWho693 : Int) (xPublic694 : Int) (xFrom695 : Int) (xTo696 : Int) (xLimit697 : Int), cellsAt ww691 (a692.add (Int.toNat k687 * 5)) [.int .i64 xWho693, .int .u64 xPublic694, .int .i64 xFrom695, .int .i64 xTo696, .int .i64 xLimit697] 0 ∧
  now665a.elim False fun a698 =>
  0 ≤ (k687 : Int) ∧ (k687 : Int) < (now665n : Int) ∧
  ∃ (xWho699 : Int) (xPublic700 : Int) (xFrom701 : Int) (xTo702 : Int) (xLimit703 : Int), cellsAt ww691 (a698.add (Int.toNat k687 * 5)) [.int .i64 xWho699, .int .u64 xPublic700, .int .i64 xFrom701, .int .i64 xTo702, .int .i64 xLimit703] 0 ∧
  Calls Try.prog 18 #[.agg #[.int .i64 xWho693, .int .u64 xPublic694, .int .i64 xFrom695, .int .i64 xTo696, .int .i64 xLimit697]] ww691 fun ee709 ww710 => ∃ (Who704 : Int) (Public705 : Int) (From706 : Int) (To707 : Int) (Limit708 : Int), ee709 = .returned (.agg #[.int .i64 Who704, .int .u64 Public705, .int .i64 From706, .int .i64 To707, .int .i64 Limit708]) ∧
  cellsAt ww710 (a698.add (Int.toNat k687 * 5)) [.int .i64 xWho699, .int .u64 xPublic700, .int .i64 xFrom701, .int .i64 xTo702, .int .i64 xLimit703] 0 ∧
  ∃ (b711 : Bool), (binOp .neq 52 (.agg #[.int .i64 Who704, .int .u64 Public705, .int .i64 From706, .int .i64 To707, .int .i64 Limit708]) (.agg #[.int .i64 xWho699, .int .u64 xPublic700, .int .i64 xFrom701, .int .i64 xTo702, .int .i64 xLimit703])).run Try.prog ww710 = .ok (.bool b711) ww710 ∧
  bif b711 then (
  R (.bool false) ww710) else (
  ∃ m712, m712 < m689 ∧ I2 m712 [.int .i64 (IntKind.i64.wrap (k687 + 1))] ww710)) else (
  ∃ m713, m713 < m27 ∧ I0 m713 [.slice a45a a45n a45c, .int .i64 (IntKind.i64.wrap (i25 + 1))] ww690)))))))) ∧
  (thenW (ww497.alloc (.cells #[.slice none 0 0, .int .i64 0] 45)) fun ww714 =>
  cellsAt ww714 (a500.add (Int.toNat i25 * 6)) [.int .i64 xKind501, .int .i64 xWho502, .int .u64 xPublic503, .int .i64 xLimit504, .slice xWraps505a xWraps505n xWraps505c, .slice xOld506a xOld506n xOld506c] 0 ∧
  cellsAt ww714 (blk ww18.heap.size) [.slice xL498a xL498n xL498c, .int .i64 xEpoch499] 0 ∧
  Calls Try.prog 20 #[.agg #[.slice xL498a xL498n xL498c, .int .i64 xEpoch499], .agg #[.int .i64 xKind501, .int .i64 xWho502, .int .u64 xPublic503, .int .i64 xLimit504, .slice xWraps505a xWraps505n xWraps505c, .slice xOld506a xOld506n xOld506c]] ww714 fun ee718 ww719 => ∃ (L715a : Option Addr) (L715n : Nat) (L715c : Nat) (Epoch716 : Int) (apply717 : Int), ee718 = .returned (.tuple #[.agg #[.slice L715a L715n L715c, .int .i64 Epoch716], .int .i64 apply717]) ∧
  canStore ww719 ((blk ww497.heap.size).add 0) ∧
  thenW (ww719.setCell ((blk ww497.heap.size).add 0) (.slice L715a L715n L715c)) fun ww720 =>
  canStore ww720 ((blk ww497.heap.size).add 1) ∧
  thenW (ww720.setCell ((blk ww497.heap.size).add 1) (.int .i64 Epoch716)) fun ww721 =>
  thenW (ww721.drew) fun ww722 =>
  bif apply492 != apply717 then (
  R (.bool false) ww722) else (
  ∃ (xL723a : Option Addr) (xL723n : Nat) (xL723c : Nat) (xEpoch724 : Int), cellsAt ww722 (blk ww47.heap.size) [.slice xL723a xL723n xL723c, .int .i64 xEpoch724] 0 ∧
  ∃ (xL725a : Option Addr) (xL725n : Nat) (xL725c : Nat) (xEpoch726 : Int), cellsAt ww722 (blk ww497.heap.size) [.slice xL725a xL725n xL725c, .int .i64 xEpoch726] 0 ∧
  Calls Try.prog 15 #[.agg #[.slice xL723a xL723n xL723c, .int .i64 xEpoch724]] ww722 fun ee729 ww730 => ∃ (L727a : Option Addr) (L727n : Nat) (L727c : Nat) (Epoch728 : Int), ee729 = .returned (.agg #[.slice L727a L727n L727c, .int .i64 Epoch728]) ∧
  cellsAt ww730 (blk ww497.heap.size) [.slice xL725a xL725n xL725c, .int .i64 xEpoch726] 0 ∧
  Calls Try.prog 16 #[.agg #[.slice L727a L727n L727c, .int .i64 Epoch728], .agg #[.slice xL725a xL725n xL725c, .int .i64 xEpoch726]] ww730 fun ee732 ww733 => ∃ (same731 : Bool), ee732 = .returned (.bool same731) ∧
  bif !same731 then (
  R (.bool false) ww733) else (
  bif apply717 == 0 then (
  thenW (ww733.drew) fun ww734 =>
  ∃ (xL735a : Option Addr) (xL735n : Nat) (xL735c : Nat) (xEpoch736 : Int), cellsAt ww734 (blk ww47.heap.size) [.slice xL735a xL735n xL735c, .int .i64 xEpoch736] 0 ∧
  ∃ (xL737a : Option Addr) (xL737n : Nat) (xL737c : Nat) (xEpoch738 : Int), cellsAt ww734 (blk ww497.heap.size) [.slice xL737a xL737n xL737c, .int .i64 xEpoch738] 0 ∧
  canStore ww734 ((blk ww17.heap.size).add 0) ∧
  thenW (ww734.setCell ((blk ww17.heap.size).add 0) (.slice xL735a xL735n xL735c)) fun ww739 =>
  canStore ww739 ((blk ww17.heap.size).add 1) ∧
  thenW (ww739.setCell ((blk ww17.heap.size).add 1) (.int .i64 xEpoch736)) fun ww740 =>
  cellsAt ww740 (blk ww497.heap.size) [.slice xL737a xL737n xL737c, .int .i64 xEpoch738] 0 ∧
  canStore ww740 ((blk ww18.heap.size).add 0) ∧
  thenW (ww740.setCell ((blk ww18.heap.size).add 0) (.slice xL737a xL737n xL737c)) fun ww741 =>
  canStore ww741 ((blk ww18.heap.size).add 1) ∧
  thenW (ww741.setCell ((blk ww18.heap.size).add 1) (.int .i64 xEpoch738)) fun ww742 =>
  ∃ (xL743a : Option Addr) (xL743n : Nat) (xL743c : Nat) (xEpoch744 : Int), cellsAt ww742 (blk ww17.heap.size) [.slice xL743a xL743n xL743c, .int .i64 xEpoch744] 0 ∧
  Calls Try.prog 17 #[.agg #[.slice xL743a xL743n xL743c, .int .i64 xEpoch744], .int .i64 wv3] ww742 fun ee751 ww752 => ∃ (Who745 : Int) (Public746 : Int) (From747 : Int) (To748 : Int) (Limit749 : Int) (find750 : Bool), ee751 = .returned (.tuple #[.agg #[.int .i64 Who745, .int .u64 Public746, .int .i64 From747, .int .i64 To748, .int .i64 Limit749], .bool find750]) ∧
  thenW (ww752.alloc (.cells #[.int .i64 0, .int .u64 0, .int .i64 0, .int .i64 0, .int .i64 0] 49)) fun ww753 =>
  canStore ww753 ((blk ww752.heap.size).add 0) ∧
  thenW (ww753.setCell ((blk ww752.heap.size).add 0) (.int .i64 Who745)) fun ww754 =>
  canStore ww754 ((blk ww752.heap.size).add 1) ∧
  thenW (ww754.setCell ((blk ww752.heap.size).add 1) (.int .u64 Public746)) fun ww755 =>
  canStore ww755 ((blk ww752.heap.size).add 2) ∧
  thenW (ww755.setCell ((blk ww752.heap.size).add 2) (.int .i64 From747)) fun ww756 =>
  canStore ww756 ((blk ww752.heap.size).add 3) ∧
  thenW (ww756.setCell ((blk ww752.heap.size).add 3) (.int .i64 To748)) fun ww757 =>
  canStore ww757 ((blk ww752.heap.size).add 4) ∧
  thenW (ww757.setCell ((blk ww752.heap.size).add 4) (.int .i64 Limit749)) fun ww758 =>
  ∃ (xL759a : Option Addr) (xL759n : Nat) (xL759c : Nat) (xEpoch760 : Int), cellsAt ww758 (blk ww18.heap.size) [.slice xL759a xL759n xL759c, .int .i64 xEpoch760] 0 ∧
  Calls Try.prog 21 #[.agg #[.slice xL759a xL759n xL759c, .int .i64 xEpoch760], .int .i64 wv3] ww758 fun ee767 ww768 => ∃ (Who761 : Int) (Public762 : Int) (From763 : Int) (To764 : Int) (Limit765 : Int) (find766 : Bool), ee767 = .returned (.tuple #[.agg #[.int .i64 Who761, .int .u64 Public762, .int .i64 From763, .int .i64 To764, .int .i64 Limit765], .bool find766]) ∧
  thenW (ww768.alloc (.cells #[.int .i64 0, .int .u64 0, .int .i64 0, .int .i64 0, .int .i64 0] 52)) fun ww769 =>
  canStore ww769 ((blk ww768.heap.size).add 0) ∧
  thenW (ww769.setCell ((blk ww768.heap.size).add 0) (.int .i64 Who761)) fun ww770 =>
  canStore ww770 ((blk ww768.heap.size).add 1) ∧
  thenW (ww770.setCell ((blk ww768.heap.size).add 1) (.int .u64 Public762)) fun ww771 =>
  canStore ww771 ((blk ww768.heap.size).add 2) ∧
  thenW (ww771.setCell ((blk ww768.heap.size).add 2) (.int .i64 From763)) fun ww772 =>
  canStore ww772 ((blk ww768.heap.size).add 3) ∧
  thenW (ww772.setCell ((blk ww768.heap.size).add 3) (.int .i64 To764)) fun ww773 =>
  canStore ww773 ((blk ww768.heap.size).add 4) ∧
  thenW (ww773.setCell ((blk ww768.heap.size).add 4) (.int .i64 Limit765)) fun ww774 =>
  thenW (ww774.drew) fun ww775 =>
  ∃ (xL776a : Option Addr) (xL776n : Nat) (xL776c : Nat) (xEpoch777 : Int), cellsAt ww775 (blk ww17.heap.size) [.slice xL776a xL776n xL776c, .int .i64 xEpoch777] 0 ∧
  ∃ (xL778a : Option Addr) (xL778n : Nat) (xL778c : Nat) (xEpoch779 : Int), cellsAt ww775 (blk ww18.heap.size) [.slice xL778a xL778n xL778c, .int .i64 xEpoch779] 0 ∧
  Calls Try.prog 22 #[.agg #[.slice xL776a xL776n xL776c, .int .i64 xEpoch777]] ww775 fun ee781 ww782 => ∃ (now780a : Option Addr) (now780n : Nat) (now780c : Nat), ee781 = .returned (.slice now780a now780n now780c) ∧
  cellsAt ww782 (blk ww18.heap.size) [.slice xL778a xL778n xL778c, .int .i64 xEpoch779] 0 ∧
  Calls Try.prog 23 #[.agg #[.slice xL778a xL778n xL778c, .int .i64 xEpoch779]] ww782 fun ee784 ww785 => ∃ (now783a : Option Addr) (now783n : Nat) (now783c : Nat), ee784 = .returned (.slice now783a now783n now783c) ∧
  thenW (ww785.drew) fun ww786 =>
  ∃ (xWho787 : Int) (xPublic788 : Int) (xFrom789 : Int) (xTo790 : Int) (xLimit791 : Int), cellsAt ww786 (blk ww752.heap.size) [.int .i64 xWho787, .int .u64 xPublic788, .int .i64 xFrom789, .int .i64 xTo790, .int .i64 xLimit791] 0 ∧
  ∃ (xWho792 : Int) (xPublic793 : Int) (xFrom794 : Int) (xTo795 : Int) (xLimit796 : Int), cellsAt ww786 (blk ww768.heap.size) [.int .i64 xWho792, .int .u64 xPublic793, .int .i64 xFrom794, .int .i64 xTo795, .int .i64 xLimit796] 0 ∧
  Calls Try.prog 18 #[.agg #[.int .i64 xWho787, .int .u64 xPublic788, .int .i64 xFrom789, .int .i64 xTo790, .int .i64 xLimit791]] ww786 fun ee802 ww803 => ∃ (Who797 : Int) (Public798 : Int) (From799 : Int) (To800 : Int) (Limit801 : Int), ee802 = .returned (.agg #[.int .i64 Who797, .int .u64 Public798, .int .i64 From799, .int .i64 To800, .int .i64 Limit801]) ∧
  cellsAt ww803 (blk ww768.heap.size) [.int .i64 xWho792, .int .u64 xPublic793, .int .i64 xFrom794, .int .i64 xTo795, .int .i64 xLimit796] 0 ∧
  ∃ (b804 : Bool), (binOp .neq 52 (.agg #[.int .i64 Who797, .int .u64 Public798, .int .i64 From799, .int .i64 To800, .int .i64 Limit801]) (.agg #[.int .i64 xWho792, .int .u64 xPublic793, .int .i64 xFrom794, .int .i64 xTo795, .int .i64 xLimit796])).run Try.prog ww803 = .ok (.bool b804) ww803 ∧
  bif b804 then (
  R (.bool false) ww803) else (
  bif !(find750 == find766) then (
  R (.bool false) ww803) else (
  bif (now780n : Int) != (now783n : Int) then (
  R (.bool false) ww803) else (
  ∃ (I2 : Nat → List Value → World → Prop) (m806 : Nat), I2 m806 [.int .i64 0] ww803 ∧ ∀ (m807 : Nat) (ww808 : World) (k805 : Int), I2 m807 [.int .i64 k805] ww808 →
  bif decide (k805 < (now780n : Int)) then (
  thenW (ww808.drew) fun ww809 =>
  now780a.elim False fun a810 =>
  0 ≤ (k805 : Int) ∧ (k805 : Int) < (now780n : Int) ∧
  ∃ (xWho811 : Int) (xPublic812 : Int) (xFrom813 : Int) (xTo814 : Int) (xLimit815 : Int), cellsAt ww809 (a810.add (Int.toNat k805 * 5)) [.int .i64 xWho811, .int .u64 xPublic812, .int .i64 xFrom813, .int .i64 xTo814, .int .i64 xLimit815] 0 ∧
  now783a.elim False fun a816 =>
  0 ≤ (k805 : Int) ∧ (k805 : Int) < (now783n : Int) ∧
  ∃ (xWho817 : Int) (xPublic818 : Int) (xFrom819 : Int) (xTo820 : Int) (xLimit821 : Int), cellsAt ww809 (a816.add (Int.toNat k805 * 5)) [.int .i64 xWho817, .int .u64 xPublic818, .int .i64 xFrom819, .int .i64 xTo820, .int .i64 xLimit821] 0 ∧
  Calls Try.prog 18 #[.agg #[.int .i64 xWho811, .int .u64 xPublic812, .int .i64 xFrom813, .int .i64 xTo814, .int .i64 xLimit815]] ww809 fun ee827 ww828 => ∃ (Who822 : Int) (Public823 : Int) (From824 : Int) (To825 : Int) (Limit826 : Int), ee827 = .returned (.agg #[.int .i64 Who822, .int .u64 Public823, .int .i64 From824, .int .i64 To825, .int .i64 Limit826]) ∧
  cellsAt ww828 (a816.add (Int.toNat k805 * 5)) [.int .i64 xWho817, .int .u64 xPublic818, .int .i64 xFrom819, .int .i64 xTo820, .int .i64 xLimit821] 0 ∧
  ∃ (b829 : Bool), (binOp .neq 52 (.agg #[.int .i64 Who822, .int .u64 Public823, .int .i64 From824, .int .i64 To825, .int .i64 Limit826]) (.agg #[.int .i64 xWho817, .int .u64 xPublic818, .int .i64 xFrom819, .int .i64 xTo820, .int .i64 xLimit821])).run Try.prog ww828 = .ok (.bool b829) ww828 ∧
  bif b829 then (
  R (.bool false) ww828) else (
  ∃ m830, m830 < m807 ∧ I2 m830 [.int .i64 (IntKind.i64.wrap (k805 + 1))] ww828)) else (
  ∃ m831, m831 < m27 ∧ I0 m831 [.slice a45a a45n a45c, .int .i64 (IntKind.i64.wrap (i25 + 1))] ww808))))) else (
  ∃ (xL832a : Option Addr) (xL832n : Nat) (xL832c : Nat) (xEpoch833 : Int), cellsAt ww733 (blk ww17.heap.size) [.slice xL832a xL832n xL832c, .int .i64 xEpoch833] 0 ∧
  Calls Try.prog 17 #[.agg #[.slice xL832a xL832n xL832c, .int .i64 xEpoch833], .int .i64 wv3] ww733 fun ee840 ww841 => ∃ (Who834 : Int) (Public835 : Int) (From836 : Int) (To837 : Int) (Limit838 : Int) (find839 : Bool), ee840 = .returned (.tuple #[.agg #[.int .i64 Who834, .int .u64 Public835, .int .i64 From836, .int .i64 To837, .int .i64 Limit838], .bool find839]) ∧
  thenW (ww841.alloc (.cells #[.int .i64 0, .int .u64 0, .int .i64 0, .int .i64 0, .int .i64 0] 49)) fun ww842 =>
  canStore ww842 ((blk ww841.heap.size).add 0) ∧
  thenW (ww842.setCell ((blk ww841.heap.size).add 0) (.int .i64 Who834)) fun ww843 =>
  canStore ww843 ((blk ww841.heap.size).add 1) ∧
  thenW (ww843.setCell ((blk ww841.heap.size).add 1) (.int .u64 Public835)) fun ww844 =>
  canStore ww844 ((blk ww841.heap.size).add 2) ∧
  thenW (ww844.setCell ((blk ww841.heap.size).add 2) (.int .i64 From836)) fun ww845 =>
  canStore ww845 ((blk ww841.heap.size).add 3) ∧
  thenW (ww845.setCell ((blk ww841.heap.size).add 3) (.int .i64 To837)) fun ww846 =>
  canStore ww846 ((blk ww841.heap.size).add 4) ∧
  thenW (ww846.setCell ((blk ww841.heap.size).add 4) (.int .i64 Limit838)) fun ww847 =>
  ∃ (xL848a : Option Addr) (xL848n : Nat) (xL848c : Nat) (xEpoch849 : Int), cellsAt ww847 (blk ww18.heap.size) [.slice xL848a xL848n xL848c, .int .i64 xEpoch849] 0 ∧
  Calls Try.prog 21 #[.agg #[.slice xL848a xL848n xL848c, .int .i64 xEpoch849], .int .i64 wv3] ww847 fun ee856 ww857 => ∃ (Who850 : Int) (Public851 : Int) (From852 : Int) (To853 : Int) (Limit854 : Int) (find855 : Bool), ee856 = .returned (.tuple #[.agg #[.int .i64 Who850, .int .u64 Public851, .int .i64 From852, .int .i64 To853, .int .i64 Limit854], .bool find855]) ∧
  thenW (ww857.alloc (.cells #[.int .i64 0, .int .u64 0, .int .i64 0, .int .i64 0, .int .i64 0] 52)) fun ww858 =>
  canStore ww858 ((blk ww857.heap.size).add 0) ∧
  thenW (ww858.setCell ((blk ww857.heap.size).add 0) (.int .i64 Who850)) fun ww859 =>
  canStore ww859 ((blk ww857.heap.size).add 1) ∧
  thenW (ww859.setCell ((blk ww857.heap.size).add 1) (.int .u64 Public851)) fun ww860 =>
  canStore ww860 ((blk ww857.heap.size).add 2) ∧
  thenW (ww860.setCell ((blk ww857.heap.size).add 2) (.int .i64 From852)) fun ww861 =>
  canStore ww861 ((blk ww857.heap.size).add 3) ∧
  thenW (ww861.setCell ((blk ww857.heap.size).add 3) (.int .i64 To853)) fun ww862 =>
  canStore ww862 ((blk ww857.heap.size).add 4) ∧
  thenW (ww862.setCell ((blk ww857.heap.size).add 4) (.int .i64 Limit854)) fun ww863 =>
  thenW (ww863.drew) fun ww864 =>
  ∃ (xL865a : Option Addr) (xL865n : Nat) (xL865c : Nat) (xEpoch866 : Int), cellsAt ww864 (blk ww17.heap.size) [.slice xL865a xL865n xL865c, .int .i64 xEpoch866] 0 ∧
  ∃ (xL867a : Option Addr) (xL867n : Nat) (xL867c : Nat) (xEpoch868 : Int), cellsAt ww864 (blk ww18.heap.size) [.slice xL867a xL867n xL867c, .int .i64 xEpoch868] 0 ∧
  Calls Try.prog 22 #[.agg #[.slice xL865a xL865n xL865c, .int .i64 xEpoch866]] ww864 fun ee870 ww871 => ∃ (now869a : Option Addr) (now869n : Nat) (now869c : Nat), ee870 = .returned (.slice now869a now869n now869c) ∧
  cellsAt ww871 (blk ww18.heap.size) [.slice xL867a xL867n xL867c, .int .i64 xEpoch868] 0 ∧
  Calls Try.prog 23 #[.agg #[.slice xL867a xL867n xL867c, .int .i64 xEpoch868]] ww871 fun ee873 ww874 => ∃ (now872a : Option Addr) (now872n : Nat) (now872c : Nat), ee873 = .returned (.slice now872a now872n now872c) ∧
  thenW (ww874.drew) fun ww875 =>
  ∃ (xWho876 : Int) (xPublic877 : Int) (xFrom878 : Int) (xTo879 : Int) (xLimit880 : Int), cellsAt ww875 (blk ww841.heap.size) [.int .i64 xWho876, .int .u64 xPublic877, .int .i64 xFrom878, .int .i64 xTo879, .int .i64 xLimit880] 0 ∧
  ∃ (xWho881 : Int) (xPublic882 : Int) (xFrom883 : Int) (xTo884 : Int) (xLimit885 : Int), cellsAt ww875 (blk ww857.heap.size) [.int .i64 xWho881, .int .u64 xPublic882, .int .i64 xFrom883, .int .i64 xTo884, .int .i64 xLimit885] 0 ∧
  Calls Try.prog 18 #[.agg #[.int .i64 xWho876, .int .u64 xPublic877, .int .i64 xFrom878, .int .i64 xTo879, .int .i64 xLimit880]] ww875 fun ee891 ww892 => ∃ (Who886 : Int) (Public887 : Int) (From888 : Int) (To889 : Int) (Limit890 : Int), ee891 = .returned (.agg #[.int .i64 Who886, .int .u64 Public887, .int .i64 From888, .int .i64 To889, .int .i64 Limit890]) ∧
  cellsAt ww892 (blk ww857.heap.size) [.int .i64 xWho881, .int .u64 xPublic882, .int .i64 xFrom883, .int .i64 xTo884, .int .i64 xLimit885] 0 ∧
  ∃ (b893 : Bool), (binOp .neq 52 (.agg #[.int .i64 Who886, .int .u64 Public887, .int .i64 From888, .int .i64 To889, .int .i64 Limit890]) (.agg #[.int .i64 xWho881, .int .u64 xPublic882, .int .i64 xFrom883, .int .i64 xTo884, .int .i64 xLimit885])).run Try.prog ww892 = .ok (.bool b893) ww892 ∧
  bif b893 then (
  R (.bool false) ww892) else (
  bif !(find839 == find855) then (
  R (.bool false) ww892) else (
  bif (now869n : Int) != (now872n : Int) then (
  R (.bool false) ww892) else (
  ∃ (I2 : Nat → List Value → World → Prop) (m895 : Nat), I2 m895 [.int .i64 0] ww892 ∧ ∀ (m896 : Nat) (ww897 : World) (k894 : Int), I2 m896 [.int .i64 k894] ww897 →
  bif decide (k894 < (now869n : Int)) then (
  thenW (ww897.drew) fun ww898 =>
  now869a.elim False fun a899 =>
  0 ≤ (k894 : Int) ∧ (k894 : Int) < (now869n : Int) ∧
  ∃ (xWho900 : Int) (xPublic901 : Int) (xFrom902 : Int) (xTo903 : Int) (xLimit904 : Int), cellsAt ww898 (a899.add (Int.toNat k894 * 5)) [.int .i64 xWho900, .int .u64 xPublic901, .int .i64 xFrom902, .int .i64 xTo903, .int .i64 xLimit904] 0 ∧
  now872a.elim False fun a905 =>
  0 ≤ (k894 : Int) ∧ (k894 : Int) < (now872n : Int) ∧
  ∃ (xWho906 : Int) (xPublic907 : Int) (xFrom908 : Int) (xTo909 : Int) (xLimit910 : Int), cellsAt ww898 (a905.add (Int.toNat k894 * 5)) [.int .i64 xWho906, .int .u64 xPublic907, .int .i64 xFrom908, .int .i64 xTo909, .int .i64 xLimit910] 0 ∧
  Calls Try.prog 18 #[.agg #[.int .i64 xWho900, .int .u64 xPublic901, .int .i64 xFrom902, .int .i64 xTo903, .int .i64 xLimit904]] ww898 fun ee916 ww917 => ∃ (Who911 : Int) (Public912 : Int) (From913 : Int) (To914 : Int) (Limit915 : Int), ee916 = .returned (.agg #[.int .i64 Who911, .int .u64 Public912, .int .i64 From913, .int .i64 To914, .int .i64 Limit915]) ∧
  cellsAt ww917 (a905.add (Int.toNat k894 * 5)) [.int .i64 xWho906, .int .u64 xPublic907, .int .i64 xFrom908, .int .i64 xTo909, .int .i64 xLimit910] 0 ∧
  ∃ (b918 : Bool), (binOp .neq 52 (.agg #[.int .i64 Who911, .int .u64 Public912, .int .i64 From913, .int .i64 To914, .int .i64 Limit915]) (.agg #[.int .i64 xWho906, .int .u64 xPublic907, .int .i64 xFrom908, .int .i64 xTo909, .int .i64 xLimit910])).run Try.prog ww917 = .ok (.bool b918) ww917 ∧
  bif b918 then (
  R (.bool false) ww917) else (
  ∃ m919, m919 < m896 ∧ I2 m919 [.int .i64 (IntKind.i64.wrap (k894 + 1))] ww917)) else (
  ∃ m920, m920 < m27 ∧ I0 m920 [.slice a45a a45n a45c, .int .i64 (IntKind.i64.wrap (i25 + 1))] ww897)))))))))) else (
  Calls Try.prog 24 #[.slice all24a all24n all24c, .int .u64 publicv1] ww28 fun ee925 ww926 => ∃ (L921a : Option Addr) (L921n : Nat) (L921c : Nat) (Epoch922 : Int) (behind923 : Int) (behind924 : Int), ee925 = .returned (.tuple #[.agg #[.slice L921a L921n L921c, .int .i64 Epoch922], .int .i64 behind923, .int .i64 behind924]) ∧
  thenW (ww926.alloc (.cells #[.slice none 0 0, .int .i64 0] 28)) fun ww927 =>
  canStore ww927 ((blk ww926.heap.size).add 0) ∧
  thenW (ww927.setCell ((blk ww926.heap.size).add 0) (.slice L921a L921n L921c)) fun ww928 =>
  canStore ww928 ((blk ww926.heap.size).add 1) ∧
  thenW (ww928.setCell ((blk ww926.heap.size).add 1) (.int .i64 Epoch922)) fun ww929 =>
  Calls Try.prog 25 #[.slice l2a l2n l2c, .int .u64 publicv1] ww929 fun ee934 ww935 => ∃ (L930a : Option Addr) (L930n : Nat) (L930c : Nat) (Epoch931 : Int) (behind932 : Int) (behind933 : Int), ee934 = .returned (.tuple #[.agg #[.slice L930a L930n L930c, .int .i64 Epoch931], .int .i64 behind932, .int .i64 behind933]) ∧
  thenW (ww935.alloc (.cells #[.slice none 0 0, .int .i64 0] 45)) fun ww936 =>
  canStore ww936 ((blk ww935.heap.size).add 0) ∧
  thenW (ww936.setCell ((blk ww935.heap.size).add 0) (.slice L930a L930n L930c)) fun ww937 =>
  canStore ww937 ((blk ww935.heap.size).add 1) ∧
  thenW (ww937.setCell ((blk ww935.heap.size).add 1) (.int .i64 Epoch931)) fun ww938 =>
  thenW (ww938.drew) fun ww939 =>
  ∃ (xL940a : Option Addr) (xL940n : Nat) (xL940c : Nat) (xEpoch941 : Int), cellsAt ww939 (blk ww926.heap.size) [.slice xL940a xL940n xL940c, .int .i64 xEpoch941] 0 ∧
  ∃ (xL942a : Option Addr) (xL942n : Nat) (xL942c : Nat) (xEpoch943 : Int), cellsAt ww939 (blk ww935.heap.size) [.slice xL942a xL942n xL942c, .int .i64 xEpoch943] 0 ∧
  Calls Try.prog 15 #[.agg #[.slice xL940a xL940n xL940c, .int .i64 xEpoch941]] ww939 fun ee946 ww947 => ∃ (L944a : Option Addr) (L944n : Nat) (L944c : Nat) (Epoch945 : Int), ee946 = .returned (.agg #[.slice L944a L944n L944c, .int .i64 Epoch945]) ∧
  cellsAt ww947 (blk ww935.heap.size) [.slice xL942a xL942n xL942c, .int .i64 xEpoch943] 0 ∧
  Calls Try.prog 16 #[.agg #[.slice L944a L944n L944c, .int .i64 Epoch945], .agg #[.slice xL942a xL942n xL942c, .int .i64 xEpoch943]] ww947 fun ee949 ww950 => ∃ (same948 : Bool), ee949 = .returned (.bool same948) ∧
  bif same948 then (
  bif behind923 == behind932 then (
  bif behind924 == behind933 then (
  Calls Try.prog 10 #[] ww950 fun ee952 ww953 => ∃ (alive951 : Bool), ee952 = .returned (.bool alive951) ∧
  R (.bool alive951) ww953) else (
  R (.bool false) ww950)) else (
  R (.bool false) ww950)) else (
  R (.bool false) ww950)))

theorem cachettelaw12_MembersPlays.eq (publicv1 : Int) (l2a : Option Addr) (l2n : Nat) (l2c : Nat) (wv3 : Int) (R : Value → World → Prop) (w : World) : mfunc Try.prog [(0, [0, 1, 2, 7, 8], [(9, (.one .slice)), (10, (.one (.int .i64)))]), (2, [0, 1, 2, 7, 8, 9, 10, 19, 20], [(21, (.one (.int .i64)))])] 5 [.int .u64 publicv1, .slice l2a l2n l2c, .int .i64 wv3] R w = cachettelaw12_MembersPlays.M publicv1 l2a l2n l2c wv3 R w := by kernel_rfl
theorem cachettelaw12_MembersPlays.ok (publicv1 : Int) (l2a : Option Addr) (l2n : Nat) (l2c : Nat) (wv3 : Int) {R : Value → World → Prop} {w : World} (h : cachettelaw12_MembersPlays.M publicv1 l2a l2n l2c wv3 R w) : Calls Try.prog 5 #[.int .u64 publicv1, .slice l2a l2n l2c, .int .i64 wv3] w fun e w' => ∃ v, e = .returned v ∧ R v w' :=
  mfunc_ok follows (H := [(0, [0, 1, 2, 7, 8], [(9, (.one .slice)), (10, (.one (.int .i64)))]), (2, [0, 1, 2, 7, 8, 9, 10, 19, 20], [(21, (.one (.int .i64)))])]) (args := [.int .u64 publicv1, .slice l2a l2n l2c, .int .i64 wv3]) (by rw [cachettelaw12_MembersPlays.eq]; exact h)

def cachettelaw12_MembersPlays.N (publicv1 : Int) (l2a : Option Addr) (l2n : Nat) (l2c : Nat) (wv3 : Int) (R : Value → World → Prop) (w : World) : Prop :=
  Calls Try.prog 9 #[.slice l2a l2n l2c] w fun ee5 ww6 => ∃ (light4 : Bool), ee5 = .returned (.bool light4) ∧
  (light4 = false →
    Calls Try.prog 10 #[] ww6 fun ee9 ww10 => ∃ (alive8 : Bool), ee9 = .returned (.bool alive8) ∧
    R (.bool alive8) ww10) ∧
  (light4 = true →
    Calls Try.prog 11 #[.int .u64 publicv1] ww6 fun ee13 ww14 => ∃ (L11a : Option Addr) (L11n : Nat) (L11c : Nat) (Epoch12 : Int), ee13 = .returned (.agg #[.slice L11a L11n L11c, .int .i64 Epoch12]) ∧
    Calls Try.prog 19 #[.int .u64 publicv1] ww14 fun ee17 ww18 => ∃ (L15a : Option Addr) (L15n : Nat) (L15c : Nat) (Epoch16 : Int), ee17 = .returned (.agg #[.slice L15a L15n L15c, .int .i64 Epoch16]) ∧
    ∀ (ww24 : World) (p25 : Nat) (p26 : Nat), Ext no ww18 ww24 → Priv ww18 ww24 [p25, p26] →
    ∃ (I0 : Nat → List Value → World → Prop) (m33 : Nat), I0 m33 [.slice none 0 0, .int .i64 0, .slice L11a L11n L11c, .int .i64 Epoch12, .slice L15a L15n L15c, .int .i64 Epoch16] ww24 ∧ ∀ (m34 : Nat) (ww35 : World) (all27a : Option Addr) (all27n : Nat) (all27c : Nat) (i28 : Int) (L29a : Option Addr) (L29n : Nat) (L29c : Nat) (Epoch30 : Int) (L31a : Option Addr) (L31n : Nat) (L31c : Nat) (Epoch32 : Int), I0 m34 [.slice all27a all27n all27c, .int .i64 i28, .slice L29a L29n L29c, .int .i64 Epoch30, .slice L31a L31n L31c, .int .i64 Epoch32] ww35 →
    (i28 < (l2n : Int) →
      ∃ a37 : Addr, l2a = some a37 ∧
      0 ≤ (i28 : Int) ∧ (i28 : Int) < (l2n : Int) ∧
      ∃ (xKind39 : Int) (xWho40 : Int) (xPublic41 : Int) (xLimit42 : Int) (xWraps43a : Option Addr) (xWraps43n : Nat) (xWraps43c : Nat) (xOld44a : Option Addr) (xOld44n : Nat) (xOld44c : Nat), cellsAt ww35 (a37.add (Int.toNat i28 * 6)) [.int .i64 xKind39, .int .i64 xWho40, .int .u64 xPublic41, .int .i64 xLimit42, .slice xWraps43a xWraps43n xWraps43c, .slice xOld44a xOld44n xOld44c] 0 ∧
      Calls Try.prog 13 #[.agg #[.int .i64 xKind39, .int .i64 xWho40, .int .u64 xPublic41, .int .i64 xLimit42, .slice xWraps43a xWraps43n xWraps43c, .slice xOld44a xOld44n xOld44c]] ww35 fun ee51 ww52 => ∃ (Kind45 : Int) (Who46 : Int) (Public47 : Int) (Limit48 : Int) (Wraps49a : Option Addr) (Wraps49n : Nat) (Wraps49c : Nat) (Old50a : Option Addr) (Old50n : Nat) (Old50c : Nat), ee51 = .returned (.agg #[.int .i64 Kind45, .int .i64 Who46, .int .u64 Public47, .int .i64 Limit48, .slice Wraps49a Wraps49n Wraps49c, .slice Old50a Old50n Old50c]) ∧
      Keep [p25, p26] ww35 ww52 ∧
      ∀ (ww53 : World) (q54 : Nat), Ext no ww52 ww53 → Blk ww53 q54 36 [.int .i64 Kind45, .int .i64 Who46, .int .u64 Public47, .int .i64 Limit48, .slice Wraps49a Wraps49n Wraps49c, .slice Old50a Old50n Old50c] → ww52.heap.size ≤ q54 → q54 < ww53.heap.size →
      ∃ (a55a : Option Addr) (a55n : Nat) (a55c : Nat) (ww56 : World), (Builtin.append_ #[56, 56] 56 #[.slice all27a all27n all27c, .slice (some (blk q54)) 1 1]).run Try.prog ww53 = .ok (.slice a55a a55n a55c) ww56 ∧
      Keep [p25, p26] ww53 ww56 ∧
      ∃ a58 : Addr, a55a = some a58 ∧
      0 ≤ (i28 : Int) ∧ (i28 : Int) < (a55n : Int) ∧
      ∃ (xKind60 : Int) (xWho61 : Int) (xPublic62 : Int) (xLimit63 : Int) (xWraps64a : Option Addr) (xWraps64n : Nat) (xWraps64c : Nat) (xOld65a : Option Addr) (xOld65n : Nat) (xOld65c : Nat), cellsAt ww56 (a58.add (Int.toNat i28 * 6)) [.int .i64 xKind60, .int .i64 xWho61, .int .u64 xPublic62, .int .i64 xLimit63, .slice xWraps64a xWraps64n xWraps64c, .slice xOld65a xOld65n xOld65c] 0 ∧
      ∀ (ww67 : World) (L66 : List Nat), Ext no ww56 ww67 → Priv ww56 ww67 L66 →
      Calls Try.prog 12 #[.agg #[.slice L29a L29n L29c, .int .i64 Epoch30], .agg #[.int .i64 xKind60, .int .i64 xWho61, .int .u64 xPublic62, .int .i64 xLimit63, .slice xWraps64a xWraps64n xWraps64c, .slice xOld65a xOld65n xOld65c]] ww67 fun ee71 ww72 => ∃ (L68a : Option Addr) (L68n : Nat) (L68c : Nat) (Epoch69 : Int) (apply70 : Int), ee71 = .returned (.tuple #[.agg #[.slice L68a L68n L68c, .int .i64 Epoch69], .int .i64 apply70]) ∧
      Keep L66 ww67 ww72 ∧
      Keep [p25, p26] ww67 ww72 ∧
      0 ≤ (i28 : Int) ∧ (i28 : Int) < (l2n : Int) ∧
      ∀ (ww247 : World) (p77 : Nat), Ext (fun b => b ∈ L66) ww72 ww247 → PrivJ L66 ww72 ww247 [p77] →
      ∃ (xKind79 : Int) (xWho80 : Int) (xPublic81 : Int) (xLimit82 : Int) (xWraps83a : Option Addr) (xWraps83n : Nat) (xWraps83c : Nat) (xOld84a : Option Addr) (xOld84n : Nat) (xOld84c : Nat), cellsAt ww247 (a37.add (Int.toNat i28 * 6)) [.int .i64 xKind79, .int .i64 xWho80, .int .u64 xPublic81, .int .i64 xLimit82, .slice xWraps83a xWraps83n xWraps83c, .slice xOld84a xOld84n xOld84c] 0 ∧
      ∀ (ww86 : World) (L85 : List Nat), Ext no ww247 ww86 → Priv ww247 ww86 L85 →
      Calls Try.prog 20 #[.agg #[.slice L31a L31n L31c, .int .i64 Epoch32], .agg #[.int .i64 xKind79, .int .i64 xWho80, .int .u64 xPublic81, .int .i64 xLimit82, .slice xWraps83a xWraps83n xWraps83c, .slice xOld84a xOld84n xOld84c]] ww86 fun ee90 ww91 => ∃ (L87a : Option Addr) (L87n : Nat) (L87c : Nat) (Epoch88 : Int) (apply89 : Int), ee90 = .returned (.tuple #[.agg #[.slice L87a L87n L87c, .int .i64 Epoch88], .int .i64 apply89]) ∧
      Keep L85 ww86 ww91 ∧
      Keep [p25, p26, p77] ww86 ww91 ∧
      (apply70 ≠ apply89 →
        ∀ (ww98 : World), Ext (fun b => b ∈ L85) ww91 ww98 →
        R (.bool false) ww98) ∧
      (apply70 = apply89 →
        ∀ (ww246 : World) (p99 : Nat), Ext (fun b => b ∈ L85) ww91 ww246 → PrivJ L85 ww91 ww246 [p99] →
        Calls Try.prog 15 #[.agg #[.slice L68a L68n L68c, .int .i64 Epoch69]] ww246 fun ee102 ww103 => ∃ (L100a : Option Addr) (L100n : Nat) (L100c : Nat) (Epoch101 : Int), ee102 = .returned (.agg #[.slice L100a L100n L100c, .int .i64 Epoch101]) ∧
        Keep [p25, p26, p77, p99] ww246 ww103 ∧
        Calls Try.prog 16 #[.agg #[.slice L100a L100n L100c, .int .i64 Epoch101], .agg #[.slice L87a L87n L87c, .int .i64 Epoch88]] ww103 fun ee105 ww106 => ∃ (same104 : Bool), ee105 = .returned (.bool same104) ∧
        Keep [p25, p26, p77, p99] ww103 ww106 ∧
        (same104 = false →
          R (.bool false) ww106) ∧
        (same104 = true →
          (apply89 = 0 →
            ∀ (ww113 : World), Ext (fun b => b = p26 ∨ b = p25) ww106 ww113 →
            Calls Try.prog 17 #[.agg #[.slice L68a L68n L68c, .int .i64 Epoch69], .int .i64 wv3] ww113 fun ee120 ww121 => ∃ (Who114 : Int) (Public115 : Int) (From116 : Int) (To117 : Int) (Limit118 : Int) (find119 : Bool), ee120 = .returned (.tuple #[.agg #[.int .i64 Who114, .int .u64 Public115, .int .i64 From116, .int .i64 To117, .int .i64 Limit118], .bool find119]) ∧
            Keep [p25, p26] ww113 ww121 ∧
            ∀ (ww127 : World) (p128 : Nat), Ext no ww121 ww127 → Priv ww121 ww127 [p128] →
            Calls Try.prog 21 #[.agg #[.slice L87a L87n L87c, .int .i64 Epoch88], .int .i64 wv3] ww127 fun ee135 ww136 => ∃ (Who129 : Int) (Public130 : Int) (From131 : Int) (To132 : Int) (Limit133 : Int) (find134 : Bool), ee135 = .returned (.tuple #[.agg #[.int .i64 Who129, .int .u64 Public130, .int .i64 From131, .int .i64 To132, .int .i64 Limit133], .bool find134]) ∧
            Keep [p25, p26, p128] ww127 ww136 ∧
            ∀ (ww143 : World) (p144 : Nat), Ext no ww136 ww143 → Priv ww136 ww143 [p144] →
            Calls Try.prog 22 #[.agg #[.slice L68a L68n L68c, .int .i64 Epoch69]] ww143 fun ee146 ww147 => ∃ (now145a : Option Addr) (now145n : Nat) (now145c : Nat), ee146 = .returned (.slice now145a now145n now145c) ∧
            Keep [p25, p26, p128, p144] ww143 ww147 ∧
            Calls Try.prog 23 #[.agg #[.slice L87a L87n L87c, .int .i64 Epoch88]] ww147 fun ee149 ww150 => ∃ (now148a : Option Addr) (now148n : Nat) (now148c : Nat), ee149 = .returned (.slice now148a now148n now148c) ∧
            Keep [p25, p26, p128, p144] ww147 ww150 ∧
            (¬ (((cachettelaw12_member.F Who114 Public115 From116 To117 Limit118).1) = Who129 ∧ ((cachettelaw12_member.F Who114 Public115 From116 To117 Limit118).2.1) = Public130 ∧ ((cachettelaw12_member.F Who114 Public115 From116 To117 Limit118).2.2.1) = From131 ∧ ((cachettelaw12_member.F Who114 Public115 From116 To117 Limit118).2.2.2.1) = To132 ∧ ((cachettelaw12_member.F Who114 Public115 From116 To117 Limit118).2.2.2.2) = Limit133) →
              ∀ (ww152 : World), Ext no ww150 ww152 →
              R (.bool false) ww152) ∧
            (((cachettelaw12_member.F Who114 Public115 From116 To117 Limit118).1) = Who129 ∧ ((cachettelaw12_member.F Who114 Public115 From116 To117 Limit118).2.1) = Public130 ∧ ((cachettelaw12_member.F Who114 Public115 From116 To117 Limit118).2.2.1) = From131 ∧ ((cachettelaw12_member.F Who114 Public115 From116 To117 Limit118).2.2.2.1) = To132 ∧ ((cachettelaw12_member.F Who114 Public115 From116 To117 Limit118).2.2.2.2) = Limit133 →
              (find119 ≠ find134 →
                ∀ (ww152 : World), Ext no ww150 ww152 →
                R (.bool false) ww152) ∧
              (find119 = find134 →
                ((now145n : Int) ≠ (now148n : Int) →
                  ∀ (ww152 : World), Ext no ww150 ww152 →
                  R (.bool false) ww152) ∧
                ((now145n : Int) = (now148n : Int) →
                  ∀ (ww152 : World), Ext no ww150 ww152 →
                  ∃ (I2 : Nat → List Value → World → Prop) (m157 : Nat), I2 m157 [.int .i64 0] ww152 ∧ ∀ (m158 : Nat) (ww159 : World) (k156 : Int), I2 m158 [.int .i64 k156] ww159 →
                  (k156 < (now145n : Int) →
                    ∃ a162 : Addr, now145a = some a162 ∧
                    0 ≤ (k156 : Int) ∧ (k156 : Int) < (now145n : Int) ∧
                    ∃ (xWho164 : Int) (xPublic165 : Int) (xFrom166 : Int) (xTo167 : Int) (xLimit168 : Int), cellsAt ww159 (a162.add (Int.toNat k156 * 5)) [.int .i64 xWho164, .int .u64 xPublic165, .int .i64 xFrom166, .int .i64 xTo167, .int .i64 xLimit168] 0 ∧
                    ∃ a169 : Addr, now148a = some a169 ∧
                    0 ≤ (k156 : Int) ∧ (k156 : Int) < (now148n : Int) ∧
                    ∃ (xWho171 : Int) (xPublic172 : Int) (xFrom173 : Int) (xTo174 : Int) (xLimit175 : Int), cellsAt ww159 (a169.add (Int.toNat k156 * 5)) [.int .i64 xWho171, .int .u64 xPublic172, .int .i64 xFrom173, .int .i64 xTo174, .int .i64 xLimit175] 0 ∧
                    (¬ (((cachettelaw12_member.F xWho164 xPublic165 xFrom166 xTo167 xLimit168).1) = xWho171 ∧ ((cachettelaw12_member.F xWho164 xPublic165 xFrom166 xTo167 xLimit168).2.1) = xPublic172 ∧ ((cachettelaw12_member.F xWho164 xPublic165 xFrom166 xTo167 xLimit168).2.2.1) = xFrom173 ∧ ((cachettelaw12_member.F xWho164 xPublic165 xFrom166 xTo167 xLimit168).2.2.2.1) = xTo174 ∧ ((cachettelaw12_member.F xWho164 xPublic165 xFrom166 xTo167 xLimit168).2.2.2.2) = xLimit175) →
                      ∀ (ww176 : World), Ext no ww159 ww176 →
                      R (.bool false) ww176) ∧
                    (((cachettelaw12_member.F xWho164 xPublic165 xFrom166 xTo167 xLimit168).1) = xWho171 ∧ ((cachettelaw12_member.F xWho164 xPublic165 xFrom166 xTo167 xLimit168).2.1) = xPublic172 ∧ ((cachettelaw12_member.F xWho164 xPublic165 xFrom166 xTo167 xLimit168).2.2.1) = xFrom173 ∧ ((cachettelaw12_member.F xWho164 xPublic165 xFrom166 xTo167 xLimit168).2.2.2.1) = xTo174 ∧ ((cachettelaw12_member.F xWho164 xPublic165 xFrom166 xTo167 xLimit168).2.2.2.2) = xLimit175 →
                      (-9223372036854775808 : Int) ≤ (k156 + 1) ∧ (k156 + 1) < 9223372036854775808 ∧
                      ∀ (ww176 : World), Ext no ww159 ww176 →
                      ∃ m178, m178 < m158 ∧ I2 m178 [.int .i64 (k156 + 1)] ww176)) ∧
                  ((now145n : Int) ≤ k156 →
                    (-9223372036854775808 : Int) ≤ (i28 + 1) ∧ (i28 + 1) < 9223372036854775808 ∧
                    ∃ m179, m179 < m34 ∧ I0 m179 [.slice a55a a55n a55c, .int .i64 (i28 + 1), .slice L68a L68n L68c, .int .i64 Epoch69, .slice L87a L87n L87c, .int .i64 Epoch88] ww159))))) ∧
          (apply89 ≠ 0 →
            Calls Try.prog 17 #[.agg #[.slice L29a L29n L29c, .int .i64 Epoch30], .int .i64 wv3] ww106 fun ee186 ww187 => ∃ (Who180 : Int) (Public181 : Int) (From182 : Int) (To183 : Int) (Limit184 : Int) (find185 : Bool), ee186 = .returned (.tuple #[.agg #[.int .i64 Who180, .int .u64 Public181, .int .i64 From182, .int .i64 To183, .int .i64 Limit184], .bool find185]) ∧
            Keep [p25, p26] ww106 ww187 ∧
            ∀ (ww193 : World) (p194 : Nat), Ext no ww187 ww193 → Priv ww187 ww193 [p194] →
            Calls Try.prog 21 #[.agg #[.slice L31a L31n L31c, .int .i64 Epoch32], .int .i64 wv3] ww193 fun ee201 ww202 => ∃ (Who195 : Int) (Public196 : Int) (From197 : Int) (To198 : Int) (Limit199 : Int) (find200 : Bool), ee201 = .returned (.tuple #[.agg #[.int .i64 Who195, .int .u64 Public196, .int .i64 From197, .int .i64 To198, .int .i64 Limit199], .bool find200]) ∧
            Keep [p25, p26, p194] ww193 ww202 ∧
            ∀ (ww209 : World) (p210 : Nat), Ext no ww202 ww209 → Priv ww202 ww209 [p210] →
            Calls Try.prog 22 #[.agg #[.slice L29a L29n L29c, .int .i64 Epoch30]] ww209 fun ee212 ww213 => ∃ (now211a : Option Addr) (now211n : Nat) (now211c : Nat), ee212 = .returned (.slice now211a now211n now211c) ∧
            Keep [p25, p26, p194, p210] ww209 ww213 ∧
            Calls Try.prog 23 #[.agg #[.slice L31a L31n L31c, .int .i64 Epoch32]] ww213 fun ee215 ww216 => ∃ (now214a : Option Addr) (now214n : Nat) (now214c : Nat), ee215 = .returned (.slice now214a now214n now214c) ∧
            Keep [p25, p26, p194, p210] ww213 ww216 ∧
            (¬ (((cachettelaw12_member.F Who180 Public181 From182 To183 Limit184).1) = Who195 ∧ ((cachettelaw12_member.F Who180 Public181 From182 To183 Limit184).2.1) = Public196 ∧ ((cachettelaw12_member.F Who180 Public181 From182 To183 Limit184).2.2.1) = From197 ∧ ((cachettelaw12_member.F Who180 Public181 From182 To183 Limit184).2.2.2.1) = To198 ∧ ((cachettelaw12_member.F Who180 Public181 From182 To183 Limit184).2.2.2.2) = Limit199) →
              ∀ (ww218 : World), Ext no ww216 ww218 →
              R (.bool false) ww218) ∧
            (((cachettelaw12_member.F Who180 Public181 From182 To183 Limit184).1) = Who195 ∧ ((cachettelaw12_member.F Who180 Public181 From182 To183 Limit184).2.1) = Public196 ∧ ((cachettelaw12_member.F Who180 Public181 From182 To183 Limit184).2.2.1) = From197 ∧ ((cachettelaw12_member.F Who180 Public181 From182 To183 Limit184).2.2.2.1) = To198 ∧ ((cachettelaw12_member.F Who180 Public181 From182 To183 Limit184).2.2.2.2) = Limit199 →
              (find185 ≠ find200 →
                ∀ (ww218 : World), Ext no ww216 ww218 →
                R (.bool false) ww218) ∧
              (find185 = find200 →
                ((now211n : Int) ≠ (now214n : Int) →
                  ∀ (ww218 : World), Ext no ww216 ww218 →
                  R (.bool false) ww218) ∧
                ((now211n : Int) = (now214n : Int) →
                  ∀ (ww218 : World), Ext no ww216 ww218 →
                  ∃ (I2 : Nat → List Value → World → Prop) (m223 : Nat), I2 m223 [.int .i64 0] ww218 ∧ ∀ (m224 : Nat) (ww225 : World) (k222 : Int), I2 m224 [.int .i64 k222] ww225 →
                  (k222 < (now211n : Int) →
                    ∃ a228 : Addr, now211a = some a228 ∧
                    0 ≤ (k222 : Int) ∧ (k222 : Int) < (now211n : Int) ∧
                    ∃ (xWho230 : Int) (xPublic231 : Int) (xFrom232 : Int) (xTo233 : Int) (xLimit234 : Int), cellsAt ww225 (a228.add (Int.toNat k222 * 5)) [.int .i64 xWho230, .int .u64 xPublic231, .int .i64 xFrom232, .int .i64 xTo233, .int .i64 xLimit234] 0 ∧
                    ∃ a235 : Addr, now214a = some a235 ∧
                    0 ≤ (k222 : Int) ∧ (k222 : Int) < (now214n : Int) ∧
                    ∃ (xWho237 : Int) (xPublic238 : Int) (xFrom239 : Int) (xTo240 : Int) (xLimit241 : Int), cellsAt ww225 (a235.add (Int.toNat k222 * 5)) [.int .i64 xWho237, .int .u64 xPublic238, .int .i64 xFrom239, .int .i64 xTo240, .int .i64 xLimit241] 0 ∧
                    (¬ (((cachettelaw12_member.F xWho230 xPublic231 xFrom232 xTo233 xLimit234).1) = xWho237 ∧ ((cachettelaw12_member.F xWho230 xPublic231 xFrom232 xTo233 xLimit234).2.1) = xPublic238 ∧ ((cachettelaw12_member.F xWho230 xPublic231 xFrom232 xTo233 xLimit234).2.2.1) = xFrom239 ∧ ((cachettelaw12_member.F xWho230 xPublic231 xFrom232 xTo233 xLimit234).2.2.2.1) = xTo240 ∧ ((cachettelaw12_member.F xWho230 xPublic231 xFrom232 xTo233 xLimit234).2.2.2.2) = xLimit241) →
                      ∀ (ww242 : World), Ext no ww225 ww242 →
                      R (.bool false) ww242) ∧
                    (((cachettelaw12_member.F xWho230 xPublic231 xFrom232 xTo233 xLimit234).1) = xWho237 ∧ ((cachettelaw12_member.F xWho230 xPublic231 xFrom232 xTo233 xLimit234).2.1) = xPublic238 ∧ ((cachettelaw12_member.F xWho230 xPublic231 xFrom232 xTo233 xLimit234).2.2.1) = xFrom239 ∧ ((cachettelaw12_member.F xWho230 xPublic231 xFrom232 xTo233 xLimit234).2.2.2.1) = xTo240 ∧ ((cachettelaw12_member.F xWho230 xPublic231 xFrom232 xTo233 xLimit234).2.2.2.2) = xLimit241 →
                      (-9223372036854775808 : Int) ≤ (k222 + 1) ∧ (k222 + 1) < 9223372036854775808 ∧
                      ∀ (ww242 : World), Ext no ww225 ww242 →
                      ∃ m244, m244 < m224 ∧ I2 m244 [.int .i64 (k222 + 1)] ww242)) ∧
                  ((now211n : Int) ≤ k222 →
                    (-9223372036854775808 : Int) ≤ (i28 + 1) ∧ (i28 + 1) < 9223372036854775808 ∧
                    ∃ m245, m245 < m34 ∧ I0 m245 [.slice a55a a55n a55c, .int .i64 (i28 + 1), .slice L29a L29n L29c, .int .i64 Epoch30, .slice L31a L31n L31c, .int .i64 Epoch32] ww225)))))))) ∧
    ((l2n : Int) ≤ i28 →
      Calls Try.prog 24 #[.slice all27a all27n all27c, .int .u64 publicv1] ww35 fun ee252 ww253 => ∃ (L248a : Option Addr) (L248n : Nat) (L248c : Nat) (Epoch249 : Int) (behind250 : Int) (behind251 : Int), ee252 = .returned (.tuple #[.agg #[.slice L248a L248n L248c, .int .i64 Epoch249], .int .i64 behind250, .int .i64 behind251]) ∧
      ∀ (ww256 : World) (p257 : Nat), Ext no ww253 ww256 → Priv ww253 ww256 [p257] →
      Calls Try.prog 25 #[.slice l2a l2n l2c, .int .u64 publicv1] ww256 fun ee262 ww263 => ∃ (L258a : Option Addr) (L258n : Nat) (L258c : Nat) (Epoch259 : Int) (behind260 : Int) (behind261 : Int), ee262 = .returned (.tuple #[.agg #[.slice L258a L258n L258c, .int .i64 Epoch259], .int .i64 behind260, .int .i64 behind261]) ∧
      Keep [p257] ww256 ww263 ∧
      ∀ (ww267 : World) (p268 : Nat), Ext no ww263 ww267 → Priv ww263 ww267 [p268] →
      Calls Try.prog 15 #[.agg #[.slice L248a L248n L248c, .int .i64 Epoch249]] ww267 fun ee271 ww272 => ∃ (L269a : Option Addr) (L269n : Nat) (L269c : Nat) (Epoch270 : Int), ee271 = .returned (.agg #[.slice L269a L269n L269c, .int .i64 Epoch270]) ∧
      Keep [p268] ww267 ww272 ∧
      Calls Try.prog 16 #[.agg #[.slice L269a L269n L269c, .int .i64 Epoch270], .agg #[.slice L258a L258n L258c, .int .i64 Epoch259]] ww272 fun ee274 ww275 => ∃ (same273 : Bool), ee274 = .returned (.bool same273) ∧
      (same273 = true →
        (behind250 = behind260 →
          (behind251 = behind261 →
            Calls Try.prog 10 #[] ww275 fun ee280 ww281 => ∃ (alive279 : Bool), ee280 = .returned (.bool alive279) ∧
            R (.bool alive279) ww281) ∧
          (behind251 ≠ behind261 →
            R (.bool false) ww275)) ∧
        (behind250 ≠ behind260 →
          R (.bool false) ww275)) ∧
      (same273 = false →
        R (.bool false) ww275)))

theorem cachettelaw12_MembersPlays.up (publicv1 : Int) (l2a : Option Addr) (l2n : Nat) (l2c : Nat) (wv3 : Int) {R : Value → World → Prop} {w : World} (h : cachettelaw12_MembersPlays.N publicv1 l2a l2n l2c wv3 R w) : cachettelaw12_MembersPlays.M publicv1 l2a l2n l2c wv3 R w := by
  unfold cachettelaw12_MembersPlays.M
  unfold cachettelaw12_MembersPlays.N at h
  refine h.mono fun ee5 ww6 h => ?_
  obtain ⟨light4, he, h⟩ := h
  refine ⟨light4, he, ?_⟩
  refine bif_of (fun c7 => ?_) (fun c7 => ?_)
  · have h := h.1 (not_t c7)
    refine h.mono fun ee9 ww10 h => ?_
    obtain ⟨alive8, he, h⟩ := h
    refine ⟨alive8, he, ?_⟩
    exact h
  · have h := h.2 (not_f c7)
    refine h.mono fun ee13 ww14 h => ?_
    obtain ⟨L11a, L11n, L11c, Epoch12, he, h⟩ := h
    refine ⟨L11a, L11n, L11c, Epoch12, he, ?_⟩
    refine h.mono fun ee17 ww18 h => ?_
    obtain ⟨L15a, L15n, L15c, Epoch16, he, h⟩ := h
    refine ⟨L15a, L15n, L15c, Epoch16, he, ?_⟩
    refine thenW_in fun ww19 e19 => ?_
    have hb1 := Blk.of_new e19
    have hg1 := ((Ext.refl no ww18)).size
    have hx19 := (Ext.refl no ww18).x_alloc e19
    refine thenW_in fun ww20 e20 => ?_
    have hb2 := Blk.of_new e20
    have hg2 := (hx19).size
    have hb1_2 := Nat.ne_of_lt hb1.lt
    have hb1 := hb1.x_alloc e20
    have hx20 := hx19.x_alloc e20
    refine ⟨hb1.cani 0 rfl rfl, thenW_in fun ww21 e21 => ?_⟩
    have hx21 := hx20.x_set (q := ww18.heap.size) (i := 0) rfl (.inr hg1) e21
    have hb1 := hb1.seti 0 rfl e21
    have hb2 := hb2.oth (q := ww18.heap.size) (i := 0) rfl (Ne.symm hb1_2) e21
    refine ⟨hb1.cani 1 rfl rfl, thenW_in fun ww22 e22 => ?_⟩
    have hx22 := hx21.x_set (q := ww18.heap.size) (i := 1) rfl (.inr hg1) e22
    have hb1 := hb1.seti 1 rfl e22
    have hb2 := hb2.oth (q := ww18.heap.size) (i := 1) rfl (Ne.symm hb1_2) e22
    refine ⟨hb2.cani 0 rfl rfl, thenW_in fun ww23 e23 => ?_⟩
    have hx23 := hx22.x_set (q := ww19.heap.size) (i := 0) rfl (.inr hg2) e23
    have hb1 := hb1.oth (q := ww19.heap.size) (i := 0) rfl hb1_2 e23
    have hb2 := hb2.seti 0 rfl e23
    refine ⟨hb2.cani 1 rfl rfl, thenW_in fun ww24 e24 => ?_⟩
    have hx24 := hx23.x_set (q := ww19.heap.size) (i := 1) rfl (.inr hg2) e24
    have hb1 := hb1.oth (q := ww19.heap.size) (i := 1) rfl hb1_2 e24
    have hb2 := hb2.seti 1 rfl e24
    have h := h ww24 (ww18.heap.size) (ww19.heap.size) hx24 (Priv.cons hg1 hb1.lt (Priv.cons hg2 hb2.lt Priv.nil))
    obtain ⟨I0, m33, h0, h⟩ := h
    refine ⟨fun k vs ww => ∃ (L29a : Option Addr) (L29n : Nat) (L29c : Nat) (Epoch30 : Int) (L31a : Option Addr) (L31n : Nat) (L31c : Nat) (Epoch32 : Int), Blk ww ww18.heap.size 28 [.slice L29a L29n L29c, .int .i64 Epoch30] ∧ Blk ww ww19.heap.size 45 [.slice L31a L31n L31c, .int .i64 Epoch32] ∧ I0 k (vs ++ [.slice L29a L29n L29c, .int .i64 Epoch30, .slice L31a L31n L31c, .int .i64 Epoch32]) ww, m33, ⟨L11a, L11n, L11c, Epoch12, L15a, L15n, L15c, Epoch16, hb1, hb2, h0⟩, fun m34 ww35 all27a all27n all27c i28 hI => ?_⟩
    obtain ⟨L29a, L29n, L29c, Epoch30, L31a, L31n, L31c, Epoch32, hb1, hb2, hI⟩ := hI
    have h := h m34 ww35 all27a all27n all27c i28 L29a L29n L29c Epoch30 L31a L31n L31c Epoch32 hI
    refine bif_of (fun c36 => ?_) (fun c36 => ?_)
    · have h := h.1 (of_decide_eq_true c36)
      obtain ⟨a37, ha37, h⟩ := h
      refine elim_some ha37 ?_
      obtain ⟨hq1, hq2, h⟩ := h
      refine ⟨hq1, hq2, ?_⟩
      obtain ⟨xKind39, xWho40, xPublic41, xLimit42, xWraps43a, xWraps43n, xWraps43c, xOld44a, xOld44n, xOld44c, hc38, h⟩ := h
      refine ⟨xKind39, xWho40, xPublic41, xLimit42, xWraps43a, xWraps43n, xWraps43c, xOld44a, xOld44n, xOld44c, hc38, ?_⟩
      refine h.mono fun ee51 ww52 h => ?_
      obtain ⟨Kind45, Who46, Public47, Limit48, Wraps49a, Wraps49n, Wraps49c, Old50a, Old50n, Old50c, he, hk, h⟩ := h
      refine ⟨Kind45, Who46, Public47, Limit48, Wraps49a, Wraps49n, Wraps49c, Old50a, Old50n, Old50c, he, ?_⟩
      have hb1 := hk.blk hb1 (by simp)
      have hb2 := hk.blk hb2 (by simp)
      refine thenW_in fun ww53 e53 => ?_
      have hb1 := hb1.x_alloc e53
      have hb2 := hb2.x_alloc e53
      have h := h ww53 ww52.heap.size ((Ext.refl no ww52).x_alloc e53) (Blk.of_new e53) ((Ext.refl no ww52)).size (size_lt_alloc e53)
      obtain ⟨a55a, a55n, a55c, ww56, hr, hk, h⟩ := h
      refine ⟨a55a, a55n, a55c, ww56, hr, ?_⟩
      have hb1 := hk.blk hb1 (by simp)
      have hb2 := hk.blk hb2 (by simp)
      refine thenW_in fun ww57 e57 => ?_
      have hx57 := (Ext.refl no ww56).x_drew e57
      have hb1 := hb1.x_drew e57
      have hb2 := hb2.x_drew e57
      refine ⟨L29a, L29n, L29c, Epoch30, ⟨hb1.celli 0 rfl rfl, hb1.celli 1 rfl rfl, trivial⟩, ?_⟩
      obtain ⟨a58, ha58, h⟩ := h
      refine elim_some ha58 ?_
      obtain ⟨hq1, hq2, h⟩ := h
      refine ⟨hq1, hq2, ?_⟩
      obtain ⟨xKind60, xWho61, xPublic62, xLimit63, xWraps64a, xWraps64n, xWraps64c, xOld65a, xOld65n, xOld65c, hc59, h⟩ := h
      refine ⟨xKind60, xWho61, xPublic62, xLimit63, xWraps64a, xWraps64n, xWraps64c, xOld65a, xOld65n, xOld65c, cellsAt_no (hx57) hc59, ?_⟩
      refine ⟨?_, ?_⟩
      · have h := h ww57 [] hx57 Priv.nil
        refine h.mono fun ee71 ww72 h => ?_
        obtain ⟨L68a, L68n, L68c, Epoch69, apply70, he, hkL, hk, h⟩ := h
        refine ⟨L68a, L68n, L68c, Epoch69, apply70, he, ?_⟩
        have hb1 := hk.blk hb1 (by simp)
        have hb2 := hk.blk hb2 (by simp)
        refine thenW_in fun ww73 e73 => ?_
        have hb3 := Blk.of_new e73
        have hg3 := ((Ext.refl (fun b => b ∈ ([] : List Nat)) ww72)).size
        have hb1_3 := Nat.ne_of_lt hb1.lt
        have hb1 := hb1.x_alloc e73
        have hb2_3 := Nat.ne_of_lt hb2.lt
        have hb2 := hb2.x_alloc e73
        have hx73 := (Ext.refl (fun b => b ∈ ([] : List Nat)) ww72).x_alloc e73
        refine ⟨hb3.cani 0 rfl rfl, thenW_in fun ww74 e74 => ?_⟩
        have hx74 := hx73.x_set (q := ww72.heap.size) (i := 0) rfl (.inr hg3) e74
        have hb1 := hb1.oth (q := ww72.heap.size) (i := 0) rfl hb1_3 e74
        have hb2 := hb2.oth (q := ww72.heap.size) (i := 0) rfl hb2_3 e74
        have hb3 := hb3.seti 0 rfl e74
        refine ⟨hb3.cani 1 rfl rfl, thenW_in fun ww75 e75 => ?_⟩
        have hx75 := hx74.x_set (q := ww72.heap.size) (i := 1) rfl (.inr hg3) e75
        have hb1 := hb1.oth (q := ww72.heap.size) (i := 1) rfl hb1_3 e75
        have hb2 := hb2.oth (q := ww72.heap.size) (i := 1) rfl hb2_3 e75
        have hb3 := hb3.seti 1 rfl e75
        refine thenW_in fun ww76 e76 => ?_
        have hx76 := hx75.x_drew e76
        have hb1 := hb1.x_drew e76
        have hb2 := hb2.x_drew e76
        have hb3 := hb3.x_drew e76
        refine ⟨L31a, L31n, L31c, Epoch32, ⟨hb2.celli 0 rfl rfl, hb2.celli 1 rfl rfl, trivial⟩, ?_⟩
        refine elim_some ha37 ?_
        obtain ⟨hq1, hq2, h⟩ := h
        refine ⟨hq1, hq2, ?_⟩
        have h := h ww76 (ww72.heap.size) hx76 (PrivJ.cons (.inr hg3) hb3.lt PrivJ.nil)
        obtain ⟨xKind79, xWho80, xPublic81, xLimit82, xWraps83a, xWraps83n, xWraps83c, xOld84a, xOld84n, xOld84c, hc78, h⟩ := h
        refine ⟨xKind79, xWho80, xPublic81, xLimit82, xWraps83a, xWraps83n, xWraps83c, xOld84a, xOld84n, xOld84c, hc78, ?_⟩
        refine ⟨?_, ?_⟩
        · have h := h ww76 [] (Ext.refl no ww76) Priv.nil
          refine h.mono fun ee90 ww91 h => ?_
          obtain ⟨L87a, L87n, L87c, Epoch88, apply89, he, hkL, hk, h⟩ := h
          refine ⟨L87a, L87n, L87c, Epoch88, apply89, he, ?_⟩
          have hb1 := hk.blk hb1 (by simp)
          have hb2 := hk.blk hb2 (by simp)
          have hb3 := hk.blk hb3 (by simp)
          refine thenW_in fun ww92 e92 => ?_
          have hb4 := Blk.of_new e92
          have hg4 := ((Ext.refl (fun b => b ∈ ([] : List Nat)) ww91)).size
          have hb1_4 := Nat.ne_of_lt hb1.lt
          have hb1 := hb1.x_alloc e92
          have hb2_4 := Nat.ne_of_lt hb2.lt
          have hb2 := hb2.x_alloc e92
          have hb3_4 := Nat.ne_of_lt hb3.lt
          have hb3 := hb3.x_alloc e92
          have hx92 := (Ext.refl (fun b => b ∈ ([] : List Nat)) ww91).x_alloc e92
          refine ⟨hb4.cani 0 rfl rfl, thenW_in fun ww93 e93 => ?_⟩
          have hx93 := hx92.x_set (q := ww91.heap.size) (i := 0) rfl (.inr hg4) e93
          have hb1 := hb1.oth (q := ww91.heap.size) (i := 0) rfl hb1_4 e93
          have hb2 := hb2.oth (q := ww91.heap.size) (i := 0) rfl hb2_4 e93
          have hb3 := hb3.oth (q := ww91.heap.size) (i := 0) rfl hb3_4 e93
          have hb4 := hb4.seti 0 rfl e93
          refine ⟨hb4.cani 1 rfl rfl, thenW_in fun ww94 e94 => ?_⟩
          have hx94 := hx93.x_set (q := ww91.heap.size) (i := 1) rfl (.inr hg4) e94
          have hb1 := hb1.oth (q := ww91.heap.size) (i := 1) rfl hb1_4 e94
          have hb2 := hb2.oth (q := ww91.heap.size) (i := 1) rfl hb2_4 e94
          have hb3 := hb3.oth (q := ww91.heap.size) (i := 1) rfl hb3_4 e94
          have hb4 := hb4.seti 1 rfl e94
          refine thenW_in fun ww95 e95 => ?_
          have hx95 := hx94.x_drew e95
          have hb1 := hb1.x_drew e95
          have hb2 := hb2.x_drew e95
          have hb3 := hb3.x_drew e95
          have hb4 := hb4.x_drew e95
          refine bif_of (fun c96 => ?_) (fun c96 => ?_)
          · have h := h.1 (bne_t c96)
            have h := h ww95 hx95
            exact h
          · have h := h.2 (bne_f c96)
            refine ⟨L68a, L68n, L68c, Epoch69, ⟨hb3.celli 0 rfl rfl, hb3.celli 1 rfl rfl, trivial⟩, ?_⟩
            refine ⟨L87a, L87n, L87c, Epoch88, ⟨hb4.celli 0 rfl rfl, hb4.celli 1 rfl rfl, trivial⟩, ?_⟩
            have h := h ww95 (ww91.heap.size) hx95 (PrivJ.cons (.inr hg4) hb4.lt PrivJ.nil)
            refine h.mono fun ee102 ww103 h => ?_
            obtain ⟨L100a, L100n, L100c, Epoch101, he, hk, h⟩ := h
            refine ⟨L100a, L100n, L100c, Epoch101, he, ?_⟩
            have hb1 := hk.blk hb1 (by simp)
            have hb2 := hk.blk hb2 (by simp)
            have hb3 := hk.blk hb3 (by simp)
            have hb4 := hk.blk hb4 (by simp)
            refine ⟨⟨hb4.celli 0 rfl rfl, hb4.celli 1 rfl rfl, trivial⟩, ?_⟩
            refine h.mono fun ee105 ww106 h => ?_
            obtain ⟨same104, he, hk, h⟩ := h
            refine ⟨same104, he, ?_⟩
            have hb1 := hk.blk hb1 (by simp)
            have hb2 := hk.blk hb2 (by simp)
            have hb3 := hk.blk hb3 (by simp)
            have hb4 := hk.blk hb4 (by simp)
            refine bif_of (fun c107 => ?_) (fun c107 => ?_)
            · have h := h.1 (not_t c107)
              exact h
            · have h := h.2 (not_f c107)
              refine bif_of (fun c108 => ?_) (fun c108 => ?_)
              · have h := h.1 (beq_t c108)
                refine thenW_in fun ww109 e109 => ?_
                have hx109 := (Ext.refl no ww106).x_drew e109
                have hb1 := hb1.x_drew e109
                have hb2 := hb2.x_drew e109
                have hb3 := hb3.x_drew e109
                have hb4 := hb4.x_drew e109
                refine ⟨L68a, L68n, L68c, Epoch69, ⟨hb3.celli 0 rfl rfl, hb3.celli 1 rfl rfl, trivial⟩, ?_⟩
                refine ⟨L87a, L87n, L87c, Epoch88, ⟨hb4.celli 0 rfl rfl, hb4.celli 1 rfl rfl, trivial⟩, ?_⟩
                have hm111 : Ext (fun b => b = ww18.heap.size) ww106 ww109 := (hx109).none
                refine ⟨hb1.cani 0 rfl rfl, thenW_in fun ww110 e110 => ?_⟩
                have hx110 := hm111.x_set (q := ww18.heap.size) (i := 0) rfl (.inl rfl) e110
                have hb1 := hb1.seti 0 rfl e110
                have hb2 := hb2.oth (q := ww18.heap.size) (i := 0) rfl (Ne.symm hb1_2) e110
                have hb4 := hb4.oth (q := ww18.heap.size) (i := 0) rfl (Ne.symm hb1_4) e110
                refine ⟨hb1.cani 1 rfl rfl, thenW_in fun ww111 e111 => ?_⟩
                have hx111 := hx110.x_set (q := ww18.heap.size) (i := 1) rfl (.inl rfl) e111
                have hb1 := hb1.seti 1 rfl e111
                have hb2 := hb2.oth (q := ww18.heap.size) (i := 1) rfl (Ne.symm hb1_2) e111
                have hb4 := hb4.oth (q := ww18.heap.size) (i := 1) rfl (Ne.symm hb1_4) e111
                refine ⟨⟨hb4.celli 0 rfl rfl, hb4.celli 1 rfl rfl, trivial⟩, ?_⟩
                have hm113 : Ext (fun b => b = ww19.heap.size ∨ b = ww18.heap.size) ww106 ww111 := (hx111).mono fun _ h _ => .inr h
                refine ⟨hb2.cani 0 rfl rfl, thenW_in fun ww112 e112 => ?_⟩
                have hx112 := hm113.x_set (q := ww19.heap.size) (i := 0) rfl (.inl (.inl rfl)) e112
                have hb1 := hb1.oth (q := ww19.heap.size) (i := 0) rfl hb1_2 e112
                have hb2 := hb2.seti 0 rfl e112
                refine ⟨hb2.cani 1 rfl rfl, thenW_in fun ww113 e113 => ?_⟩
                have hx113 := hx112.x_set (q := ww19.heap.size) (i := 1) rfl (.inl (.inl rfl)) e113
                have hb1 := hb1.oth (q := ww19.heap.size) (i := 1) rfl hb1_2 e113
                have hb2 := hb2.seti 1 rfl e113
                refine ⟨L68a, L68n, L68c, Epoch69, ⟨hb1.celli 0 rfl rfl, hb1.celli 1 rfl rfl, trivial⟩, ?_⟩
                have h := h ww113 hx113
                refine h.mono fun ee120 ww121 h => ?_
                obtain ⟨Who114, Public115, From116, To117, Limit118, find119, he, hk, h⟩ := h
                refine ⟨Who114, Public115, From116, To117, Limit118, find119, he, ?_⟩
                have hb1 := hk.blk hb1 (by simp)
                have hb2 := hk.blk hb2 (by simp)
                refine thenW_in fun ww122 e122 => ?_
                have hb5 := Blk.of_new e122
                have hg5 := ((Ext.refl no ww121)).size
                have hb1_5 := Nat.ne_of_lt hb1.lt
                have hb1 := hb1.x_alloc e122
                have hb2_5 := Nat.ne_of_lt hb2.lt
                have hb2 := hb2.x_alloc e122
                have hx122 := (Ext.refl no ww121).x_alloc e122
                refine ⟨hb5.cani 0 rfl rfl, thenW_in fun ww123 e123 => ?_⟩
                have hx123 := hx122.x_set (q := ww121.heap.size) (i := 0) rfl (.inr hg5) e123
                have hb1 := hb1.oth (q := ww121.heap.size) (i := 0) rfl hb1_5 e123
                have hb2 := hb2.oth (q := ww121.heap.size) (i := 0) rfl hb2_5 e123
                have hb5 : Blk ww123 ww121.heap.size 49 [.int .i64 Who114, .int .u64 0, .int .i64 0, .int .i64 0, .int .i64 0] := hb5.seti 0 rfl e123
                refine ⟨hb5.cani 1 rfl rfl, thenW_in fun ww124 e124 => ?_⟩
                have hx124 := hx123.x_set (q := ww121.heap.size) (i := 1) rfl (.inr hg5) e124
                have hb1 := hb1.oth (q := ww121.heap.size) (i := 1) rfl hb1_5 e124
                have hb2 := hb2.oth (q := ww121.heap.size) (i := 1) rfl hb2_5 e124
                have hb5 : Blk ww124 ww121.heap.size 49 [.int .i64 Who114, .int .u64 Public115, .int .i64 0, .int .i64 0, .int .i64 0] := hb5.seti 1 rfl e124
                refine ⟨hb5.cani 2 rfl rfl, thenW_in fun ww125 e125 => ?_⟩
                have hx125 := hx124.x_set (q := ww121.heap.size) (i := 2) rfl (.inr hg5) e125
                have hb1 := hb1.oth (q := ww121.heap.size) (i := 2) rfl hb1_5 e125
                have hb2 := hb2.oth (q := ww121.heap.size) (i := 2) rfl hb2_5 e125
                have hb5 : Blk ww125 ww121.heap.size 49 [.int .i64 Who114, .int .u64 Public115, .int .i64 From116, .int .i64 0, .int .i64 0] := hb5.seti 2 rfl e125
                refine ⟨hb5.cani 3 rfl rfl, thenW_in fun ww126 e126 => ?_⟩
                have hx126 := hx125.x_set (q := ww121.heap.size) (i := 3) rfl (.inr hg5) e126
                have hb1 := hb1.oth (q := ww121.heap.size) (i := 3) rfl hb1_5 e126
                have hb2 := hb2.oth (q := ww121.heap.size) (i := 3) rfl hb2_5 e126
                have hb5 : Blk ww126 ww121.heap.size 49 [.int .i64 Who114, .int .u64 Public115, .int .i64 From116, .int .i64 To117, .int .i64 0] := hb5.seti 3 rfl e126
                refine ⟨hb5.cani 4 rfl rfl, thenW_in fun ww127 e127 => ?_⟩
                have hx127 := hx126.x_set (q := ww121.heap.size) (i := 4) rfl (.inr hg5) e127
                have hb1 := hb1.oth (q := ww121.heap.size) (i := 4) rfl hb1_5 e127
                have hb2 := hb2.oth (q := ww121.heap.size) (i := 4) rfl hb2_5 e127
                have hb5 : Blk ww127 ww121.heap.size 49 [.int .i64 Who114, .int .u64 Public115, .int .i64 From116, .int .i64 To117, .int .i64 Limit118] := hb5.seti 4 rfl e127
                refine ⟨L87a, L87n, L87c, Epoch88, ⟨hb2.celli 0 rfl rfl, hb2.celli 1 rfl rfl, trivial⟩, ?_⟩
                have h := h ww127 (ww121.heap.size) hx127 (Priv.cons hg5 hb5.lt Priv.nil)
                refine h.mono fun ee135 ww136 h => ?_
                obtain ⟨Who129, Public130, From131, To132, Limit133, find134, he, hk, h⟩ := h
                refine ⟨Who129, Public130, From131, To132, Limit133, find134, he, ?_⟩
                have hb1 := hk.blk hb1 (by simp)
                have hb2 := hk.blk hb2 (by simp)
                have hb5 := hk.blk hb5 (by simp)
                refine thenW_in fun ww137 e137 => ?_
                have hb6 := Blk.of_new e137
                have hg6 := ((Ext.refl no ww136)).size
                have hb1_6 := Nat.ne_of_lt hb1.lt
                have hb1 := hb1.x_alloc e137
                have hb2_6 := Nat.ne_of_lt hb2.lt
                have hb2 := hb2.x_alloc e137
                have hb5_6 := Nat.ne_of_lt hb5.lt
                have hb5 := hb5.x_alloc e137
                have hx137 := (Ext.refl no ww136).x_alloc e137
                refine ⟨hb6.cani 0 rfl rfl, thenW_in fun ww138 e138 => ?_⟩
                have hx138 := hx137.x_set (q := ww136.heap.size) (i := 0) rfl (.inr hg6) e138
                have hb1 := hb1.oth (q := ww136.heap.size) (i := 0) rfl hb1_6 e138
                have hb2 := hb2.oth (q := ww136.heap.size) (i := 0) rfl hb2_6 e138
                have hb5 := hb5.oth (q := ww136.heap.size) (i := 0) rfl hb5_6 e138
                have hb6 : Blk ww138 ww136.heap.size 52 [.int .i64 Who129, .int .u64 0, .int .i64 0, .int .i64 0, .int .i64 0] := hb6.seti 0 rfl e138
                refine ⟨hb6.cani 1 rfl rfl, thenW_in fun ww139 e139 => ?_⟩
                have hx139 := hx138.x_set (q := ww136.heap.size) (i := 1) rfl (.inr hg6) e139
                have hb1 := hb1.oth (q := ww136.heap.size) (i := 1) rfl hb1_6 e139
                have hb2 := hb2.oth (q := ww136.heap.size) (i := 1) rfl hb2_6 e139
                have hb5 := hb5.oth (q := ww136.heap.size) (i := 1) rfl hb5_6 e139
                have hb6 : Blk ww139 ww136.heap.size 52 [.int .i64 Who129, .int .u64 Public130, .int .i64 0, .int .i64 0, .int .i64 0] := hb6.seti 1 rfl e139
                refine ⟨hb6.cani 2 rfl rfl, thenW_in fun ww140 e140 => ?_⟩
                have hx140 := hx139.x_set (q := ww136.heap.size) (i := 2) rfl (.inr hg6) e140
                have hb1 := hb1.oth (q := ww136.heap.size) (i := 2) rfl hb1_6 e140
                have hb2 := hb2.oth (q := ww136.heap.size) (i := 2) rfl hb2_6 e140
                have hb5 := hb5.oth (q := ww136.heap.size) (i := 2) rfl hb5_6 e140
                have hb6 : Blk ww140 ww136.heap.size 52 [.int .i64 Who129, .int .u64 Public130, .int .i64 From131, .int .i64 0, .int .i64 0] := hb6.seti 2 rfl e140
                refine ⟨hb6.cani 3 rfl rfl, thenW_in fun ww141 e141 => ?_⟩
                have hx141 := hx140.x_set (q := ww136.heap.size) (i := 3) rfl (.inr hg6) e141
                have hb1 := hb1.oth (q := ww136.heap.size) (i := 3) rfl hb1_6 e141
                have hb2 := hb2.oth (q := ww136.heap.size) (i := 3) rfl hb2_6 e141
                have hb5 := hb5.oth (q := ww136.heap.size) (i := 3) rfl hb5_6 e141
                have hb6 : Blk ww141 ww136.heap.size 52 [.int .i64 Who129, .int .u64 Public130, .int .i64 From131, .int .i64 To132, .int .i64 0] := hb6.seti 3 rfl e141
                refine ⟨hb6.cani 4 rfl rfl, thenW_in fun ww142 e142 => ?_⟩
                have hx142 := hx141.x_set (q := ww136.heap.size) (i := 4) rfl (.inr hg6) e142
                have hb1 := hb1.oth (q := ww136.heap.size) (i := 4) rfl hb1_6 e142
                have hb2 := hb2.oth (q := ww136.heap.size) (i := 4) rfl hb2_6 e142
                have hb5 := hb5.oth (q := ww136.heap.size) (i := 4) rfl hb5_6 e142
                have hb6 : Blk ww142 ww136.heap.size 52 [.int .i64 Who129, .int .u64 Public130, .int .i64 From131, .int .i64 To132, .int .i64 Limit133] := hb6.seti 4 rfl e142
                refine thenW_in fun ww143 e143 => ?_
                have hx143 := hx142.x_drew e143
                have hb1 := hb1.x_drew e143
                have hb2 := hb2.x_drew e143
                have hb5 := hb5.x_drew e143
                have hb6 := hb6.x_drew e143
                refine ⟨L68a, L68n, L68c, Epoch69, ⟨hb1.celli 0 rfl rfl, hb1.celli 1 rfl rfl, trivial⟩, ?_⟩
                refine ⟨L87a, L87n, L87c, Epoch88, ⟨hb2.celli 0 rfl rfl, hb2.celli 1 rfl rfl, trivial⟩, ?_⟩
                have h := h ww143 (ww136.heap.size) hx143 (Priv.cons hg6 hb6.lt Priv.nil)
                refine h.mono fun ee146 ww147 h => ?_
                obtain ⟨now145a, now145n, now145c, he, hk, h⟩ := h
                refine ⟨now145a, now145n, now145c, he, ?_⟩
                have hb1 := hk.blk hb1 (by simp)
                have hb2 := hk.blk hb2 (by simp)
                have hb5 := hk.blk hb5 (by simp)
                have hb6 := hk.blk hb6 (by simp)
                refine ⟨⟨hb2.celli 0 rfl rfl, hb2.celli 1 rfl rfl, trivial⟩, ?_⟩
                refine h.mono fun ee149 ww150 h => ?_
                obtain ⟨now148a, now148n, now148c, he, hk, h⟩ := h
                refine ⟨now148a, now148n, now148c, he, ?_⟩
                have hb1 := hk.blk hb1 (by simp)
                have hb2 := hk.blk hb2 (by simp)
                have hb5 := hk.blk hb5 (by simp)
                have hb6 := hk.blk hb6 (by simp)
                refine thenW_in fun ww151 e151 => ?_
                have hx151 := (Ext.refl no ww150).x_drew e151
                have hb1 := hb1.x_drew e151
                have hb2 := hb2.x_drew e151
                have hb5 := hb5.x_drew e151
                have hb6 := hb6.x_drew e151
                refine ⟨Who114, Public115, From116, To117, Limit118, ⟨hb5.celli 0 rfl rfl, hb5.celli 1 rfl rfl, hb5.celli 2 rfl rfl, hb5.celli 3 rfl rfl, hb5.celli 4 rfl rfl, trivial⟩, ?_⟩
                refine ⟨Who129, Public130, From131, To132, Limit133, ⟨hb6.celli 0 rfl rfl, hb6.celli 1 rfl rfl, hb6.celli 2 rfl rfl, hb6.celli 3 rfl rfl, hb6.celli 4 rfl rfl, trivial⟩, ?_⟩
                refine (cachettelaw12_member.pure Who114 Public115 From116 To117 Limit118).mono fun ee ww152 ⟨he, hxx⟩ => ⟨((cachettelaw12_member.F Who114 Public115 From116 To117 Limit118).1), ((cachettelaw12_member.F Who114 Public115 From116 To117 Limit118).2.1), ((cachettelaw12_member.F Who114 Public115 From116 To117 Limit118).2.2.1), ((cachettelaw12_member.F Who114 Public115 From116 To117 Limit118).2.2.2.1), ((cachettelaw12_member.F Who114 Public115 From116 To117 Limit118).2.2.2.2), he, ?_⟩
                have hx152 := hx151.trans hxx
                have hb1 := hb1.ext hxx id
                have hb2 := hb2.ext hxx id
                have hb6 := hb6.ext hxx id
                refine ⟨⟨hb6.celli 0 rfl rfl, hb6.celli 1 rfl rfl, hb6.celli 2 rfl rfl, hb6.celli 3 rfl rfl, hb6.celli 4 rfl rfl, trivial⟩, ?_⟩
                refine ⟨_, eqT52_ne ((cachettelaw12_member.F Who114 Public115 From116 To117 Limit118).1) ((cachettelaw12_member.F Who114 Public115 From116 To117 Limit118).2.1) ((cachettelaw12_member.F Who114 Public115 From116 To117 Limit118).2.2.1) ((cachettelaw12_member.F Who114 Public115 From116 To117 Limit118).2.2.2.1) ((cachettelaw12_member.F Who114 Public115 From116 To117 Limit118).2.2.2.2) Who129 Public130 From131 To132 Limit133 _, ?_⟩
                refine bif_of (fun c153 => ?_) (fun c153 => ?_)
                · have h := h.1 (of_decide_eq_false (not_t c153))
                  have h := h ww152 hx152
                  exact h
                · have h := h.2 (of_decide_eq_true (not_f c153))
                  refine bif_of (fun c154 => ?_) (fun c154 => ?_)
                  · have h := h.1 (bbeq_f (not_t c154))
                    have h := h ww152 hx152
                    exact h
                  · have h := h.2 (bbeq_t (not_f c154))
                    refine bif_of (fun c155 => ?_) (fun c155 => ?_)
                    · have h := h.1 (bne_t c155)
                      have h := h ww152 hx152
                      exact h
                    · have h := h.2 (bne_f c155)
                      have h := h ww152 hx152
                      obtain ⟨I2, m157, h0, h⟩ := h
                      refine ⟨fun k vs ww => Blk ww ww18.heap.size 28 [.slice L68a L68n L68c, .int .i64 Epoch69] ∧ Blk ww ww19.heap.size 45 [.slice L87a L87n L87c, .int .i64 Epoch88] ∧ I2 k vs ww, m157, ⟨hb1, hb2, h0⟩, fun m158 ww159 k156 hI => ?_⟩
                      obtain ⟨hb1, hb2, hI⟩ := hI
                      have h := h m158 ww159 k156 hI
                      refine bif_of (fun c160 => ?_) (fun c160 => ?_)
                      · have h := h.1 (of_decide_eq_true c160)
                        refine thenW_in fun ww161 e161 => ?_
                        have hx161 := (Ext.refl no ww159).x_drew e161
                        have hb1 := hb1.x_drew e161
                        have hb2 := hb2.x_drew e161
                        obtain ⟨a162, ha162, h⟩ := h
                        refine elim_some ha162 ?_
                        obtain ⟨hq1, hq2, h⟩ := h
                        refine ⟨hq1, hq2, ?_⟩
                        obtain ⟨xWho164, xPublic165, xFrom166, xTo167, xLimit168, hc163, h⟩ := h
                        refine ⟨xWho164, xPublic165, xFrom166, xTo167, xLimit168, cellsAt_no (hx161) hc163, ?_⟩
                        obtain ⟨a169, ha169, h⟩ := h
                        refine elim_some ha169 ?_
                        obtain ⟨hq1, hq2, h⟩ := h
                        refine ⟨hq1, hq2, ?_⟩
                        obtain ⟨xWho171, xPublic172, xFrom173, xTo174, xLimit175, hc170, h⟩ := h
                        refine ⟨xWho171, xPublic172, xFrom173, xTo174, xLimit175, cellsAt_no (hx161) hc170, ?_⟩
                        refine (cachettelaw12_member.pure xWho164 xPublic165 xFrom166 xTo167 xLimit168).mono fun ee ww176 ⟨he, hxx⟩ => ⟨((cachettelaw12_member.F xWho164 xPublic165 xFrom166 xTo167 xLimit168).1), ((cachettelaw12_member.F xWho164 xPublic165 xFrom166 xTo167 xLimit168).2.1), ((cachettelaw12_member.F xWho164 xPublic165 xFrom166 xTo167 xLimit168).2.2.1), ((cachettelaw12_member.F xWho164 xPublic165 xFrom166 xTo167 xLimit168).2.2.2.1), ((cachettelaw12_member.F xWho164 xPublic165 xFrom166 xTo167 xLimit168).2.2.2.2), he, ?_⟩
                        have hx176 := hx161.trans hxx
                        have hb1 := hb1.ext hxx id
                        have hb2 := hb2.ext hxx id
                        refine ⟨cellsAt_no (hx176) hc170, ?_⟩
                        refine ⟨_, eqT52_ne ((cachettelaw12_member.F xWho164 xPublic165 xFrom166 xTo167 xLimit168).1) ((cachettelaw12_member.F xWho164 xPublic165 xFrom166 xTo167 xLimit168).2.1) ((cachettelaw12_member.F xWho164 xPublic165 xFrom166 xTo167 xLimit168).2.2.1) ((cachettelaw12_member.F xWho164 xPublic165 xFrom166 xTo167 xLimit168).2.2.2.1) ((cachettelaw12_member.F xWho164 xPublic165 xFrom166 xTo167 xLimit168).2.2.2.2) xWho171 xPublic172 xFrom173 xTo174 xLimit175 _, ?_⟩
                        refine bif_of (fun c177 => ?_) (fun c177 => ?_)
                        · have h := h.1 (of_decide_eq_false (not_t c177))
                          have h := h ww176 hx176
                          exact h
                        · have h := h.2 (of_decide_eq_true (not_f c177))
                          obtain ⟨hw1, hw2, h⟩ := h
                          try rw [w64 hw1 hw2]
                          have h := h ww176 hx176
                          obtain ⟨m178, hk, h⟩ := h
                          exact ⟨m178, hk, hb1, hb2, h⟩
                      · have h := h.2 (Int.not_lt.1 (of_decide_eq_false c160))
                        obtain ⟨hw1, hw2, h⟩ := h
                        try rw [w64 hw1 hw2]
                        obtain ⟨m179, hk, h⟩ := h
                        exact ⟨m179, hk, L68a, L68n, L68c, Epoch69, L87a, L87n, L87c, Epoch88, hb1, hb2, h⟩
              · have h := h.2 (beq_f c108)
                refine ⟨L29a, L29n, L29c, Epoch30, ⟨hb1.celli 0 rfl rfl, hb1.celli 1 rfl rfl, trivial⟩, ?_⟩
                refine h.mono fun ee186 ww187 h => ?_
                obtain ⟨Who180, Public181, From182, To183, Limit184, find185, he, hk, h⟩ := h
                refine ⟨Who180, Public181, From182, To183, Limit184, find185, he, ?_⟩
                have hb1 := hk.blk hb1 (by simp)
                have hb2 := hk.blk hb2 (by simp)
                refine thenW_in fun ww188 e188 => ?_
                have hb7 := Blk.of_new e188
                have hg7 := ((Ext.refl no ww187)).size
                have hb1_7 := Nat.ne_of_lt hb1.lt
                have hb1 := hb1.x_alloc e188
                have hb2_7 := Nat.ne_of_lt hb2.lt
                have hb2 := hb2.x_alloc e188
                have hx188 := (Ext.refl no ww187).x_alloc e188
                refine ⟨hb7.cani 0 rfl rfl, thenW_in fun ww189 e189 => ?_⟩
                have hx189 := hx188.x_set (q := ww187.heap.size) (i := 0) rfl (.inr hg7) e189
                have hb1 := hb1.oth (q := ww187.heap.size) (i := 0) rfl hb1_7 e189
                have hb2 := hb2.oth (q := ww187.heap.size) (i := 0) rfl hb2_7 e189
                have hb7 : Blk ww189 ww187.heap.size 49 [.int .i64 Who180, .int .u64 0, .int .i64 0, .int .i64 0, .int .i64 0] := hb7.seti 0 rfl e189
                refine ⟨hb7.cani 1 rfl rfl, thenW_in fun ww190 e190 => ?_⟩
                have hx190 := hx189.x_set (q := ww187.heap.size) (i := 1) rfl (.inr hg7) e190
                have hb1 := hb1.oth (q := ww187.heap.size) (i := 1) rfl hb1_7 e190
                have hb2 := hb2.oth (q := ww187.heap.size) (i := 1) rfl hb2_7 e190
                have hb7 : Blk ww190 ww187.heap.size 49 [.int .i64 Who180, .int .u64 Public181, .int .i64 0, .int .i64 0, .int .i64 0] := hb7.seti 1 rfl e190
                refine ⟨hb7.cani 2 rfl rfl, thenW_in fun ww191 e191 => ?_⟩
                have hx191 := hx190.x_set (q := ww187.heap.size) (i := 2) rfl (.inr hg7) e191
                have hb1 := hb1.oth (q := ww187.heap.size) (i := 2) rfl hb1_7 e191
                have hb2 := hb2.oth (q := ww187.heap.size) (i := 2) rfl hb2_7 e191
                have hb7 : Blk ww191 ww187.heap.size 49 [.int .i64 Who180, .int .u64 Public181, .int .i64 From182, .int .i64 0, .int .i64 0] := hb7.seti 2 rfl e191
                refine ⟨hb7.cani 3 rfl rfl, thenW_in fun ww192 e192 => ?_⟩
                have hx192 := hx191.x_set (q := ww187.heap.size) (i := 3) rfl (.inr hg7) e192
                have hb1 := hb1.oth (q := ww187.heap.size) (i := 3) rfl hb1_7 e192
                have hb2 := hb2.oth (q := ww187.heap.size) (i := 3) rfl hb2_7 e192
                have hb7 : Blk ww192 ww187.heap.size 49 [.int .i64 Who180, .int .u64 Public181, .int .i64 From182, .int .i64 To183, .int .i64 0] := hb7.seti 3 rfl e192
                refine ⟨hb7.cani 4 rfl rfl, thenW_in fun ww193 e193 => ?_⟩
                have hx193 := hx192.x_set (q := ww187.heap.size) (i := 4) rfl (.inr hg7) e193
                have hb1 := hb1.oth (q := ww187.heap.size) (i := 4) rfl hb1_7 e193
                have hb2 := hb2.oth (q := ww187.heap.size) (i := 4) rfl hb2_7 e193
                have hb7 : Blk ww193 ww187.heap.size 49 [.int .i64 Who180, .int .u64 Public181, .int .i64 From182, .int .i64 To183, .int .i64 Limit184] := hb7.seti 4 rfl e193
                refine ⟨L31a, L31n, L31c, Epoch32, ⟨hb2.celli 0 rfl rfl, hb2.celli 1 rfl rfl, trivial⟩, ?_⟩
                have h := h ww193 (ww187.heap.size) hx193 (Priv.cons hg7 hb7.lt Priv.nil)
                refine h.mono fun ee201 ww202 h => ?_
                obtain ⟨Who195, Public196, From197, To198, Limit199, find200, he, hk, h⟩ := h
                refine ⟨Who195, Public196, From197, To198, Limit199, find200, he, ?_⟩
                have hb1 := hk.blk hb1 (by simp)
                have hb2 := hk.blk hb2 (by simp)
                have hb7 := hk.blk hb7 (by simp)
                refine thenW_in fun ww203 e203 => ?_
                have hb8 := Blk.of_new e203
                have hg8 := ((Ext.refl no ww202)).size
                have hb1_8 := Nat.ne_of_lt hb1.lt
                have hb1 := hb1.x_alloc e203
                have hb2_8 := Nat.ne_of_lt hb2.lt
                have hb2 := hb2.x_alloc e203
                have hb7_8 := Nat.ne_of_lt hb7.lt
                have hb7 := hb7.x_alloc e203
                have hx203 := (Ext.refl no ww202).x_alloc e203
                refine ⟨hb8.cani 0 rfl rfl, thenW_in fun ww204 e204 => ?_⟩
                have hx204 := hx203.x_set (q := ww202.heap.size) (i := 0) rfl (.inr hg8) e204
                have hb1 := hb1.oth (q := ww202.heap.size) (i := 0) rfl hb1_8 e204
                have hb2 := hb2.oth (q := ww202.heap.size) (i := 0) rfl hb2_8 e204
                have hb7 := hb7.oth (q := ww202.heap.size) (i := 0) rfl hb7_8 e204
                have hb8 : Blk ww204 ww202.heap.size 52 [.int .i64 Who195, .int .u64 0, .int .i64 0, .int .i64 0, .int .i64 0] := hb8.seti 0 rfl e204
                refine ⟨hb8.cani 1 rfl rfl, thenW_in fun ww205 e205 => ?_⟩
                have hx205 := hx204.x_set (q := ww202.heap.size) (i := 1) rfl (.inr hg8) e205
                have hb1 := hb1.oth (q := ww202.heap.size) (i := 1) rfl hb1_8 e205
                have hb2 := hb2.oth (q := ww202.heap.size) (i := 1) rfl hb2_8 e205
                have hb7 := hb7.oth (q := ww202.heap.size) (i := 1) rfl hb7_8 e205
                have hb8 : Blk ww205 ww202.heap.size 52 [.int .i64 Who195, .int .u64 Public196, .int .i64 0, .int .i64 0, .int .i64 0] := hb8.seti 1 rfl e205
                refine ⟨hb8.cani 2 rfl rfl, thenW_in fun ww206 e206 => ?_⟩
                have hx206 := hx205.x_set (q := ww202.heap.size) (i := 2) rfl (.inr hg8) e206
                have hb1 := hb1.oth (q := ww202.heap.size) (i := 2) rfl hb1_8 e206
                have hb2 := hb2.oth (q := ww202.heap.size) (i := 2) rfl hb2_8 e206
                have hb7 := hb7.oth (q := ww202.heap.size) (i := 2) rfl hb7_8 e206
                have hb8 : Blk ww206 ww202.heap.size 52 [.int .i64 Who195, .int .u64 Public196, .int .i64 From197, .int .i64 0, .int .i64 0] := hb8.seti 2 rfl e206
                refine ⟨hb8.cani 3 rfl rfl, thenW_in fun ww207 e207 => ?_⟩
                have hx207 := hx206.x_set (q := ww202.heap.size) (i := 3) rfl (.inr hg8) e207
                have hb1 := hb1.oth (q := ww202.heap.size) (i := 3) rfl hb1_8 e207
                have hb2 := hb2.oth (q := ww202.heap.size) (i := 3) rfl hb2_8 e207
                have hb7 := hb7.oth (q := ww202.heap.size) (i := 3) rfl hb7_8 e207
                have hb8 : Blk ww207 ww202.heap.size 52 [.int .i64 Who195, .int .u64 Public196, .int .i64 From197, .int .i64 To198, .int .i64 0] := hb8.seti 3 rfl e207
                refine ⟨hb8.cani 4 rfl rfl, thenW_in fun ww208 e208 => ?_⟩
                have hx208 := hx207.x_set (q := ww202.heap.size) (i := 4) rfl (.inr hg8) e208
                have hb1 := hb1.oth (q := ww202.heap.size) (i := 4) rfl hb1_8 e208
                have hb2 := hb2.oth (q := ww202.heap.size) (i := 4) rfl hb2_8 e208
                have hb7 := hb7.oth (q := ww202.heap.size) (i := 4) rfl hb7_8 e208
                have hb8 : Blk ww208 ww202.heap.size 52 [.int .i64 Who195, .int .u64 Public196, .int .i64 From197, .int .i64 To198, .int .i64 Limit199] := hb8.seti 4 rfl e208
                refine thenW_in fun ww209 e209 => ?_
                have hx209 := hx208.x_drew e209
                have hb1 := hb1.x_drew e209
                have hb2 := hb2.x_drew e209
                have hb7 := hb7.x_drew e209
                have hb8 := hb8.x_drew e209
                refine ⟨L29a, L29n, L29c, Epoch30, ⟨hb1.celli 0 rfl rfl, hb1.celli 1 rfl rfl, trivial⟩, ?_⟩
                refine ⟨L31a, L31n, L31c, Epoch32, ⟨hb2.celli 0 rfl rfl, hb2.celli 1 rfl rfl, trivial⟩, ?_⟩
                have h := h ww209 (ww202.heap.size) hx209 (Priv.cons hg8 hb8.lt Priv.nil)
                refine h.mono fun ee212 ww213 h => ?_
                obtain ⟨now211a, now211n, now211c, he, hk, h⟩ := h
                refine ⟨now211a, now211n, now211c, he, ?_⟩
                have hb1 := hk.blk hb1 (by simp)
                have hb2 := hk.blk hb2 (by simp)
                have hb7 := hk.blk hb7 (by simp)
                have hb8 := hk.blk hb8 (by simp)
                refine ⟨⟨hb2.celli 0 rfl rfl, hb2.celli 1 rfl rfl, trivial⟩, ?_⟩
                refine h.mono fun ee215 ww216 h => ?_
                obtain ⟨now214a, now214n, now214c, he, hk, h⟩ := h
                refine ⟨now214a, now214n, now214c, he, ?_⟩
                have hb1 := hk.blk hb1 (by simp)
                have hb2 := hk.blk hb2 (by simp)
                have hb7 := hk.blk hb7 (by simp)
                have hb8 := hk.blk hb8 (by simp)
                refine thenW_in fun ww217 e217 => ?_
                have hx217 := (Ext.refl no ww216).x_drew e217
                have hb1 := hb1.x_drew e217
                have hb2 := hb2.x_drew e217
                have hb7 := hb7.x_drew e217
                have hb8 := hb8.x_drew e217
                refine ⟨Who180, Public181, From182, To183, Limit184, ⟨hb7.celli 0 rfl rfl, hb7.celli 1 rfl rfl, hb7.celli 2 rfl rfl, hb7.celli 3 rfl rfl, hb7.celli 4 rfl rfl, trivial⟩, ?_⟩
                refine ⟨Who195, Public196, From197, To198, Limit199, ⟨hb8.celli 0 rfl rfl, hb8.celli 1 rfl rfl, hb8.celli 2 rfl rfl, hb8.celli 3 rfl rfl, hb8.celli 4 rfl rfl, trivial⟩, ?_⟩
                refine (cachettelaw12_member.pure Who180 Public181 From182 To183 Limit184).mono fun ee ww218 ⟨he, hxx⟩ => ⟨((cachettelaw12_member.F Who180 Public181 From182 To183 Limit184).1), ((cachettelaw12_member.F Who180 Public181 From182 To183 Limit184).2.1), ((cachettelaw12_member.F Who180 Public181 From182 To183 Limit184).2.2.1), ((cachettelaw12_member.F Who180 Public181 From182 To183 Limit184).2.2.2.1), ((cachettelaw12_member.F Who180 Public181 From182 To183 Limit184).2.2.2.2), he, ?_⟩
                have hx218 := hx217.trans hxx
                have hb1 := hb1.ext hxx id
                have hb2 := hb2.ext hxx id
                have hb8 := hb8.ext hxx id
                refine ⟨⟨hb8.celli 0 rfl rfl, hb8.celli 1 rfl rfl, hb8.celli 2 rfl rfl, hb8.celli 3 rfl rfl, hb8.celli 4 rfl rfl, trivial⟩, ?_⟩
                refine ⟨_, eqT52_ne ((cachettelaw12_member.F Who180 Public181 From182 To183 Limit184).1) ((cachettelaw12_member.F Who180 Public181 From182 To183 Limit184).2.1) ((cachettelaw12_member.F Who180 Public181 From182 To183 Limit184).2.2.1) ((cachettelaw12_member.F Who180 Public181 From182 To183 Limit184).2.2.2.1) ((cachettelaw12_member.F Who180 Public181 From182 To183 Limit184).2.2.2.2) Who195 Public196 From197 To198 Limit199 _, ?_⟩
                refine bif_of (fun c219 => ?_) (fun c219 => ?_)
                · have h := h.1 (of_decide_eq_false (not_t c219))
                  have h := h ww218 hx218
                  exact h
                · have h := h.2 (of_decide_eq_true (not_f c219))
                  refine bif_of (fun c220 => ?_) (fun c220 => ?_)
                  · have h := h.1 (bbeq_f (not_t c220))
                    have h := h ww218 hx218
                    exact h
                  · have h := h.2 (bbeq_t (not_f c220))
                    refine bif_of (fun c221 => ?_) (fun c221 => ?_)
                    · have h := h.1 (bne_t c221)
                      have h := h ww218 hx218
                      exact h
                    · have h := h.2 (bne_f c221)
                      have h := h ww218 hx218
                      obtain ⟨I2, m223, h0, h⟩ := h
                      refine ⟨fun k vs ww => Blk ww ww18.heap.size 28 [.slice L29a L29n L29c, .int .i64 Epoch30] ∧ Blk ww ww19.heap.size 45 [.slice L31a L31n L31c, .int .i64 Epoch32] ∧ I2 k vs ww, m223, ⟨hb1, hb2, h0⟩, fun m224 ww225 k222 hI => ?_⟩
                      obtain ⟨hb1, hb2, hI⟩ := hI
                      have h := h m224 ww225 k222 hI
                      refine bif_of (fun c226 => ?_) (fun c226 => ?_)
                      · have h := h.1 (of_decide_eq_true c226)
                        refine thenW_in fun ww227 e227 => ?_
                        have hx227 := (Ext.refl no ww225).x_drew e227
                        have hb1 := hb1.x_drew e227
                        have hb2 := hb2.x_drew e227
                        obtain ⟨a228, ha228, h⟩ := h
                        refine elim_some ha228 ?_
                        obtain ⟨hq1, hq2, h⟩ := h
                        refine ⟨hq1, hq2, ?_⟩
                        obtain ⟨xWho230, xPublic231, xFrom232, xTo233, xLimit234, hc229, h⟩ := h
                        refine ⟨xWho230, xPublic231, xFrom232, xTo233, xLimit234, cellsAt_no (hx227) hc229, ?_⟩
                        obtain ⟨a235, ha235, h⟩ := h
                        refine elim_some ha235 ?_
                        obtain ⟨hq1, hq2, h⟩ := h
                        refine ⟨hq1, hq2, ?_⟩
                        obtain ⟨xWho237, xPublic238, xFrom239, xTo240, xLimit241, hc236, h⟩ := h
                        refine ⟨xWho237, xPublic238, xFrom239, xTo240, xLimit241, cellsAt_no (hx227) hc236, ?_⟩
                        refine (cachettelaw12_member.pure xWho230 xPublic231 xFrom232 xTo233 xLimit234).mono fun ee ww242 ⟨he, hxx⟩ => ⟨((cachettelaw12_member.F xWho230 xPublic231 xFrom232 xTo233 xLimit234).1), ((cachettelaw12_member.F xWho230 xPublic231 xFrom232 xTo233 xLimit234).2.1), ((cachettelaw12_member.F xWho230 xPublic231 xFrom232 xTo233 xLimit234).2.2.1), ((cachettelaw12_member.F xWho230 xPublic231 xFrom232 xTo233 xLimit234).2.2.2.1), ((cachettelaw12_member.F xWho230 xPublic231 xFrom232 xTo233 xLimit234).2.2.2.2), he, ?_⟩
                        have hx242 := hx227.trans hxx
                        have hb1 := hb1.ext hxx id
                        have hb2 := hb2.ext hxx id
                        refine ⟨cellsAt_no (hx242) hc236, ?_⟩
                        refine ⟨_, eqT52_ne ((cachettelaw12_member.F xWho230 xPublic231 xFrom232 xTo233 xLimit234).1) ((cachettelaw12_member.F xWho230 xPublic231 xFrom232 xTo233 xLimit234).2.1) ((cachettelaw12_member.F xWho230 xPublic231 xFrom232 xTo233 xLimit234).2.2.1) ((cachettelaw12_member.F xWho230 xPublic231 xFrom232 xTo233 xLimit234).2.2.2.1) ((cachettelaw12_member.F xWho230 xPublic231 xFrom232 xTo233 xLimit234).2.2.2.2) xWho237 xPublic238 xFrom239 xTo240 xLimit241 _, ?_⟩
                        refine bif_of (fun c243 => ?_) (fun c243 => ?_)
                        · have h := h.1 (of_decide_eq_false (not_t c243))
                          have h := h ww242 hx242
                          exact h
                        · have h := h.2 (of_decide_eq_true (not_f c243))
                          obtain ⟨hw1, hw2, h⟩ := h
                          try rw [w64 hw1 hw2]
                          have h := h ww242 hx242
                          obtain ⟨m244, hk, h⟩ := h
                          exact ⟨m244, hk, hb1, hb2, h⟩
                      · have h := h.2 (Int.not_lt.1 (of_decide_eq_false c226))
                        obtain ⟨hw1, hw2, h⟩ := h
                        try rw [w64 hw1 hw2]
                        obtain ⟨m245, hk, h⟩ := h
                        exact ⟨m245, hk, L29a, L29n, L29c, Epoch30, L31a, L31n, L31c, Epoch32, hb1, hb2, h⟩
        · refine thenW_in fun ww85 e85 => ?_
          have hb4 := Blk.of_new e85
          have hg4 := ((Ext.refl no ww76)).size
          have hb1_4 := Nat.ne_of_lt hb1.lt
          have hb1 := hb1.x_alloc e85
          have hb2_4 := Nat.ne_of_lt hb2.lt
          have hb2 := hb2.x_alloc e85
          have hb3_4 := Nat.ne_of_lt hb3.lt
          have hb3 := hb3.x_alloc e85
          have hx85 := (Ext.refl no ww76).x_alloc e85
          refine ⟨cellsAt_no (hx85) hc78, ⟨hb2.celli 0 rfl rfl, hb2.celli 1 rfl rfl, trivial⟩, ?_⟩
          have h := h ww85 [ww76.heap.size] hx85 (Priv.cons hg4 hb4.lt Priv.nil)
          refine h.mono fun ee91 ww92 h => ?_
          obtain ⟨L88a, L88n, L88c, Epoch89, apply90, he, hkL, hk, h⟩ := h
          refine ⟨L88a, L88n, L88c, Epoch89, apply90, he, ?_⟩
          have hb4 := hkL.blk hb4 (by simp)
          have hb1 := hk.blk hb1 (by simp)
          have hb2 := hk.blk hb2 (by simp)
          have hb3 := hk.blk hb3 (by simp)
          refine ⟨hb4.cani 0 rfl rfl, thenW_in fun ww93 e93 => ?_⟩
          have hx93 := (Ext.refl (fun b => b ∈ ([ww76.heap.size] : List Nat)) ww92).x_set (q := ww76.heap.size) (i := 0) rfl (.inl (by simp)) e93
          have hb1 := hb1.oth (q := ww76.heap.size) (i := 0) rfl hb1_4 e93
          have hb2 := hb2.oth (q := ww76.heap.size) (i := 0) rfl hb2_4 e93
          have hb3 := hb3.oth (q := ww76.heap.size) (i := 0) rfl hb3_4 e93
          have hb4 := hb4.seti 0 rfl e93
          refine ⟨hb4.cani 1 rfl rfl, thenW_in fun ww94 e94 => ?_⟩
          have hx94 := hx93.x_set (q := ww76.heap.size) (i := 1) rfl (.inl (by simp)) e94
          have hb1 := hb1.oth (q := ww76.heap.size) (i := 1) rfl hb1_4 e94
          have hb2 := hb2.oth (q := ww76.heap.size) (i := 1) rfl hb2_4 e94
          have hb3 := hb3.oth (q := ww76.heap.size) (i := 1) rfl hb3_4 e94
          have hb4 := hb4.seti 1 rfl e94
          refine thenW_in fun ww95 e95 => ?_
          have hx95 := hx94.x_drew e95
          have hb1 := hb1.x_drew e95
          have hb2 := hb2.x_drew e95
          have hb3 := hb3.x_drew e95
          have hb4 := hb4.x_drew e95
          refine bif_of (fun c96 => ?_) (fun c96 => ?_)
          · have h := h.1 (bne_t c96)
            have h := h ww95 hx95
            exact h
          · have h := h.2 (bne_f c96)
            refine ⟨L68a, L68n, L68c, Epoch69, ⟨hb3.celli 0 rfl rfl, hb3.celli 1 rfl rfl, trivial⟩, ?_⟩
            refine ⟨L88a, L88n, L88c, Epoch89, ⟨hb4.celli 0 rfl rfl, hb4.celli 1 rfl rfl, trivial⟩, ?_⟩
            have h := h ww95 (ww76.heap.size) hx95 (PrivJ.cons (.inl (by simp)) hb4.lt PrivJ.nil)
            refine h.mono fun ee102 ww103 h => ?_
            obtain ⟨L100a, L100n, L100c, Epoch101, he, hk, h⟩ := h
            refine ⟨L100a, L100n, L100c, Epoch101, he, ?_⟩
            have hb1 := hk.blk hb1 (by simp)
            have hb2 := hk.blk hb2 (by simp)
            have hb3 := hk.blk hb3 (by simp)
            have hb4 := hk.blk hb4 (by simp)
            refine ⟨⟨hb4.celli 0 rfl rfl, hb4.celli 1 rfl rfl, trivial⟩, ?_⟩
            refine h.mono fun ee105 ww106 h => ?_
            obtain ⟨same104, he, hk, h⟩ := h
            refine ⟨same104, he, ?_⟩
            have hb1 := hk.blk hb1 (by simp)
            have hb2 := hk.blk hb2 (by simp)
            have hb3 := hk.blk hb3 (by simp)
            have hb4 := hk.blk hb4 (by simp)
            refine bif_of (fun c107 => ?_) (fun c107 => ?_)
            · have h := h.1 (not_t c107)
              exact h
            · have h := h.2 (not_f c107)
              refine bif_of (fun c108 => ?_) (fun c108 => ?_)
              · have h := h.1 (beq_t c108)
                refine thenW_in fun ww109 e109 => ?_
                have hx109 := (Ext.refl no ww106).x_drew e109
                have hb1 := hb1.x_drew e109
                have hb2 := hb2.x_drew e109
                have hb3 := hb3.x_drew e109
                have hb4 := hb4.x_drew e109
                refine ⟨L68a, L68n, L68c, Epoch69, ⟨hb3.celli 0 rfl rfl, hb3.celli 1 rfl rfl, trivial⟩, ?_⟩
                refine ⟨L88a, L88n, L88c, Epoch89, ⟨hb4.celli 0 rfl rfl, hb4.celli 1 rfl rfl, trivial⟩, ?_⟩
                have hm111 : Ext (fun b => b = ww18.heap.size) ww106 ww109 := (hx109).none
                refine ⟨hb1.cani 0 rfl rfl, thenW_in fun ww110 e110 => ?_⟩
                have hx110 := hm111.x_set (q := ww18.heap.size) (i := 0) rfl (.inl rfl) e110
                have hb1 := hb1.seti 0 rfl e110
                have hb2 := hb2.oth (q := ww18.heap.size) (i := 0) rfl (Ne.symm hb1_2) e110
                have hb4 := hb4.oth (q := ww18.heap.size) (i := 0) rfl (Ne.symm hb1_4) e110
                refine ⟨hb1.cani 1 rfl rfl, thenW_in fun ww111 e111 => ?_⟩
                have hx111 := hx110.x_set (q := ww18.heap.size) (i := 1) rfl (.inl rfl) e111
                have hb1 := hb1.seti 1 rfl e111
                have hb2 := hb2.oth (q := ww18.heap.size) (i := 1) rfl (Ne.symm hb1_2) e111
                have hb4 := hb4.oth (q := ww18.heap.size) (i := 1) rfl (Ne.symm hb1_4) e111
                refine ⟨⟨hb4.celli 0 rfl rfl, hb4.celli 1 rfl rfl, trivial⟩, ?_⟩
                have hm113 : Ext (fun b => b = ww19.heap.size ∨ b = ww18.heap.size) ww106 ww111 := (hx111).mono fun _ h _ => .inr h
                refine ⟨hb2.cani 0 rfl rfl, thenW_in fun ww112 e112 => ?_⟩
                have hx112 := hm113.x_set (q := ww19.heap.size) (i := 0) rfl (.inl (.inl rfl)) e112
                have hb1 := hb1.oth (q := ww19.heap.size) (i := 0) rfl hb1_2 e112
                have hb2 := hb2.seti 0 rfl e112
                refine ⟨hb2.cani 1 rfl rfl, thenW_in fun ww113 e113 => ?_⟩
                have hx113 := hx112.x_set (q := ww19.heap.size) (i := 1) rfl (.inl (.inl rfl)) e113
                have hb1 := hb1.oth (q := ww19.heap.size) (i := 1) rfl hb1_2 e113
                have hb2 := hb2.seti 1 rfl e113
                refine ⟨L68a, L68n, L68c, Epoch69, ⟨hb1.celli 0 rfl rfl, hb1.celli 1 rfl rfl, trivial⟩, ?_⟩
                have h := h ww113 hx113
                refine h.mono fun ee120 ww121 h => ?_
                obtain ⟨Who114, Public115, From116, To117, Limit118, find119, he, hk, h⟩ := h
                refine ⟨Who114, Public115, From116, To117, Limit118, find119, he, ?_⟩
                have hb1 := hk.blk hb1 (by simp)
                have hb2 := hk.blk hb2 (by simp)
                refine thenW_in fun ww122 e122 => ?_
                have hb5 := Blk.of_new e122
                have hg5 := ((Ext.refl no ww121)).size
                have hb1_5 := Nat.ne_of_lt hb1.lt
                have hb1 := hb1.x_alloc e122
                have hb2_5 := Nat.ne_of_lt hb2.lt
                have hb2 := hb2.x_alloc e122
                have hx122 := (Ext.refl no ww121).x_alloc e122
                refine ⟨hb5.cani 0 rfl rfl, thenW_in fun ww123 e123 => ?_⟩
                have hx123 := hx122.x_set (q := ww121.heap.size) (i := 0) rfl (.inr hg5) e123
                have hb1 := hb1.oth (q := ww121.heap.size) (i := 0) rfl hb1_5 e123
                have hb2 := hb2.oth (q := ww121.heap.size) (i := 0) rfl hb2_5 e123
                have hb5 : Blk ww123 ww121.heap.size 49 [.int .i64 Who114, .int .u64 0, .int .i64 0, .int .i64 0, .int .i64 0] := hb5.seti 0 rfl e123
                refine ⟨hb5.cani 1 rfl rfl, thenW_in fun ww124 e124 => ?_⟩
                have hx124 := hx123.x_set (q := ww121.heap.size) (i := 1) rfl (.inr hg5) e124
                have hb1 := hb1.oth (q := ww121.heap.size) (i := 1) rfl hb1_5 e124
                have hb2 := hb2.oth (q := ww121.heap.size) (i := 1) rfl hb2_5 e124
                have hb5 : Blk ww124 ww121.heap.size 49 [.int .i64 Who114, .int .u64 Public115, .int .i64 0, .int .i64 0, .int .i64 0] := hb5.seti 1 rfl e124
                refine ⟨hb5.cani 2 rfl rfl, thenW_in fun ww125 e125 => ?_⟩
                have hx125 := hx124.x_set (q := ww121.heap.size) (i := 2) rfl (.inr hg5) e125
                have hb1 := hb1.oth (q := ww121.heap.size) (i := 2) rfl hb1_5 e125
                have hb2 := hb2.oth (q := ww121.heap.size) (i := 2) rfl hb2_5 e125
                have hb5 : Blk ww125 ww121.heap.size 49 [.int .i64 Who114, .int .u64 Public115, .int .i64 From116, .int .i64 0, .int .i64 0] := hb5.seti 2 rfl e125
                refine ⟨hb5.cani 3 rfl rfl, thenW_in fun ww126 e126 => ?_⟩
                have hx126 := hx125.x_set (q := ww121.heap.size) (i := 3) rfl (.inr hg5) e126
                have hb1 := hb1.oth (q := ww121.heap.size) (i := 3) rfl hb1_5 e126
                have hb2 := hb2.oth (q := ww121.heap.size) (i := 3) rfl hb2_5 e126
                have hb5 : Blk ww126 ww121.heap.size 49 [.int .i64 Who114, .int .u64 Public115, .int .i64 From116, .int .i64 To117, .int .i64 0] := hb5.seti 3 rfl e126
                refine ⟨hb5.cani 4 rfl rfl, thenW_in fun ww127 e127 => ?_⟩
                have hx127 := hx126.x_set (q := ww121.heap.size) (i := 4) rfl (.inr hg5) e127
                have hb1 := hb1.oth (q := ww121.heap.size) (i := 4) rfl hb1_5 e127
                have hb2 := hb2.oth (q := ww121.heap.size) (i := 4) rfl hb2_5 e127
                have hb5 : Blk ww127 ww121.heap.size 49 [.int .i64 Who114, .int .u64 Public115, .int .i64 From116, .int .i64 To117, .int .i64 Limit118] := hb5.seti 4 rfl e127
                refine ⟨L88a, L88n, L88c, Epoch89, ⟨hb2.celli 0 rfl rfl, hb2.celli 1 rfl rfl, trivial⟩, ?_⟩
                have h := h ww127 (ww121.heap.size) hx127 (Priv.cons hg5 hb5.lt Priv.nil)
                refine h.mono fun ee135 ww136 h => ?_
                obtain ⟨Who129, Public130, From131, To132, Limit133, find134, he, hk, h⟩ := h
                refine ⟨Who129, Public130, From131, To132, Limit133, find134, he, ?_⟩
                have hb1 := hk.blk hb1 (by simp)
                have hb2 := hk.blk hb2 (by simp)
                have hb5 := hk.blk hb5 (by simp)
                refine thenW_in fun ww137 e137 => ?_
                have hb6 := Blk.of_new e137
                have hg6 := ((Ext.refl no ww136)).size
                have hb1_6 := Nat.ne_of_lt hb1.lt
                have hb1 := hb1.x_alloc e137
                have hb2_6 := Nat.ne_of_lt hb2.lt
                have hb2 := hb2.x_alloc e137
                have hb5_6 := Nat.ne_of_lt hb5.lt
                have hb5 := hb5.x_alloc e137
                have hx137 := (Ext.refl no ww136).x_alloc e137
                refine ⟨hb6.cani 0 rfl rfl, thenW_in fun ww138 e138 => ?_⟩
                have hx138 := hx137.x_set (q := ww136.heap.size) (i := 0) rfl (.inr hg6) e138
                have hb1 := hb1.oth (q := ww136.heap.size) (i := 0) rfl hb1_6 e138
                have hb2 := hb2.oth (q := ww136.heap.size) (i := 0) rfl hb2_6 e138
                have hb5 := hb5.oth (q := ww136.heap.size) (i := 0) rfl hb5_6 e138
                have hb6 : Blk ww138 ww136.heap.size 52 [.int .i64 Who129, .int .u64 0, .int .i64 0, .int .i64 0, .int .i64 0] := hb6.seti 0 rfl e138
                refine ⟨hb6.cani 1 rfl rfl, thenW_in fun ww139 e139 => ?_⟩
                have hx139 := hx138.x_set (q := ww136.heap.size) (i := 1) rfl (.inr hg6) e139
                have hb1 := hb1.oth (q := ww136.heap.size) (i := 1) rfl hb1_6 e139
                have hb2 := hb2.oth (q := ww136.heap.size) (i := 1) rfl hb2_6 e139
                have hb5 := hb5.oth (q := ww136.heap.size) (i := 1) rfl hb5_6 e139
                have hb6 : Blk ww139 ww136.heap.size 52 [.int .i64 Who129, .int .u64 Public130, .int .i64 0, .int .i64 0, .int .i64 0] := hb6.seti 1 rfl e139
                refine ⟨hb6.cani 2 rfl rfl, thenW_in fun ww140 e140 => ?_⟩
                have hx140 := hx139.x_set (q := ww136.heap.size) (i := 2) rfl (.inr hg6) e140
                have hb1 := hb1.oth (q := ww136.heap.size) (i := 2) rfl hb1_6 e140
                have hb2 := hb2.oth (q := ww136.heap.size) (i := 2) rfl hb2_6 e140
                have hb5 := hb5.oth (q := ww136.heap.size) (i := 2) rfl hb5_6 e140
                have hb6 : Blk ww140 ww136.heap.size 52 [.int .i64 Who129, .int .u64 Public130, .int .i64 From131, .int .i64 0, .int .i64 0] := hb6.seti 2 rfl e140
                refine ⟨hb6.cani 3 rfl rfl, thenW_in fun ww141 e141 => ?_⟩
                have hx141 := hx140.x_set (q := ww136.heap.size) (i := 3) rfl (.inr hg6) e141
                have hb1 := hb1.oth (q := ww136.heap.size) (i := 3) rfl hb1_6 e141
                have hb2 := hb2.oth (q := ww136.heap.size) (i := 3) rfl hb2_6 e141
                have hb5 := hb5.oth (q := ww136.heap.size) (i := 3) rfl hb5_6 e141
                have hb6 : Blk ww141 ww136.heap.size 52 [.int .i64 Who129, .int .u64 Public130, .int .i64 From131, .int .i64 To132, .int .i64 0] := hb6.seti 3 rfl e141
                refine ⟨hb6.cani 4 rfl rfl, thenW_in fun ww142 e142 => ?_⟩
                have hx142 := hx141.x_set (q := ww136.heap.size) (i := 4) rfl (.inr hg6) e142
                have hb1 := hb1.oth (q := ww136.heap.size) (i := 4) rfl hb1_6 e142
                have hb2 := hb2.oth (q := ww136.heap.size) (i := 4) rfl hb2_6 e142
                have hb5 := hb5.oth (q := ww136.heap.size) (i := 4) rfl hb5_6 e142
                have hb6 : Blk ww142 ww136.heap.size 52 [.int .i64 Who129, .int .u64 Public130, .int .i64 From131, .int .i64 To132, .int .i64 Limit133] := hb6.seti 4 rfl e142
                refine thenW_in fun ww143 e143 => ?_
                have hx143 := hx142.x_drew e143
                have hb1 := hb1.x_drew e143
                have hb2 := hb2.x_drew e143
                have hb5 := hb5.x_drew e143
                have hb6 := hb6.x_drew e143
                refine ⟨L68a, L68n, L68c, Epoch69, ⟨hb1.celli 0 rfl rfl, hb1.celli 1 rfl rfl, trivial⟩, ?_⟩
                refine ⟨L88a, L88n, L88c, Epoch89, ⟨hb2.celli 0 rfl rfl, hb2.celli 1 rfl rfl, trivial⟩, ?_⟩
                have h := h ww143 (ww136.heap.size) hx143 (Priv.cons hg6 hb6.lt Priv.nil)
                refine h.mono fun ee146 ww147 h => ?_
                obtain ⟨now145a, now145n, now145c, he, hk, h⟩ := h
                refine ⟨now145a, now145n, now145c, he, ?_⟩
                have hb1 := hk.blk hb1 (by simp)
                have hb2 := hk.blk hb2 (by simp)
                have hb5 := hk.blk hb5 (by simp)
                have hb6 := hk.blk hb6 (by simp)
                refine ⟨⟨hb2.celli 0 rfl rfl, hb2.celli 1 rfl rfl, trivial⟩, ?_⟩
                refine h.mono fun ee149 ww150 h => ?_
                obtain ⟨now148a, now148n, now148c, he, hk, h⟩ := h
                refine ⟨now148a, now148n, now148c, he, ?_⟩
                have hb1 := hk.blk hb1 (by simp)
                have hb2 := hk.blk hb2 (by simp)
                have hb5 := hk.blk hb5 (by simp)
                have hb6 := hk.blk hb6 (by simp)
                refine thenW_in fun ww151 e151 => ?_
                have hx151 := (Ext.refl no ww150).x_drew e151
                have hb1 := hb1.x_drew e151
                have hb2 := hb2.x_drew e151
                have hb5 := hb5.x_drew e151
                have hb6 := hb6.x_drew e151
                refine ⟨Who114, Public115, From116, To117, Limit118, ⟨hb5.celli 0 rfl rfl, hb5.celli 1 rfl rfl, hb5.celli 2 rfl rfl, hb5.celli 3 rfl rfl, hb5.celli 4 rfl rfl, trivial⟩, ?_⟩
                refine ⟨Who129, Public130, From131, To132, Limit133, ⟨hb6.celli 0 rfl rfl, hb6.celli 1 rfl rfl, hb6.celli 2 rfl rfl, hb6.celli 3 rfl rfl, hb6.celli 4 rfl rfl, trivial⟩, ?_⟩
                refine (cachettelaw12_member.pure Who114 Public115 From116 To117 Limit118).mono fun ee ww152 ⟨he, hxx⟩ => ⟨((cachettelaw12_member.F Who114 Public115 From116 To117 Limit118).1), ((cachettelaw12_member.F Who114 Public115 From116 To117 Limit118).2.1), ((cachettelaw12_member.F Who114 Public115 From116 To117 Limit118).2.2.1), ((cachettelaw12_member.F Who114 Public115 From116 To117 Limit118).2.2.2.1), ((cachettelaw12_member.F Who114 Public115 From116 To117 Limit118).2.2.2.2), he, ?_⟩
                have hx152 := hx151.trans hxx
                have hb1 := hb1.ext hxx id
                have hb2 := hb2.ext hxx id
                have hb6 := hb6.ext hxx id
                refine ⟨⟨hb6.celli 0 rfl rfl, hb6.celli 1 rfl rfl, hb6.celli 2 rfl rfl, hb6.celli 3 rfl rfl, hb6.celli 4 rfl rfl, trivial⟩, ?_⟩
                refine ⟨_, eqT52_ne ((cachettelaw12_member.F Who114 Public115 From116 To117 Limit118).1) ((cachettelaw12_member.F Who114 Public115 From116 To117 Limit118).2.1) ((cachettelaw12_member.F Who114 Public115 From116 To117 Limit118).2.2.1) ((cachettelaw12_member.F Who114 Public115 From116 To117 Limit118).2.2.2.1) ((cachettelaw12_member.F Who114 Public115 From116 To117 Limit118).2.2.2.2) Who129 Public130 From131 To132 Limit133 _, ?_⟩
                refine bif_of (fun c153 => ?_) (fun c153 => ?_)
                · have h := h.1 (of_decide_eq_false (not_t c153))
                  have h := h ww152 hx152
                  exact h
                · have h := h.2 (of_decide_eq_true (not_f c153))
                  refine bif_of (fun c154 => ?_) (fun c154 => ?_)
                  · have h := h.1 (bbeq_f (not_t c154))
                    have h := h ww152 hx152
                    exact h
                  · have h := h.2 (bbeq_t (not_f c154))
                    refine bif_of (fun c155 => ?_) (fun c155 => ?_)
                    · have h := h.1 (bne_t c155)
                      have h := h ww152 hx152
                      exact h
                    · have h := h.2 (bne_f c155)
                      have h := h ww152 hx152
                      obtain ⟨I2, m157, h0, h⟩ := h
                      refine ⟨fun k vs ww => Blk ww ww18.heap.size 28 [.slice L68a L68n L68c, .int .i64 Epoch69] ∧ Blk ww ww19.heap.size 45 [.slice L88a L88n L88c, .int .i64 Epoch89] ∧ I2 k vs ww, m157, ⟨hb1, hb2, h0⟩, fun m158 ww159 k156 hI => ?_⟩
                      obtain ⟨hb1, hb2, hI⟩ := hI
                      have h := h m158 ww159 k156 hI
                      refine bif_of (fun c160 => ?_) (fun c160 => ?_)
                      · have h := h.1 (of_decide_eq_true c160)
                        refine thenW_in fun ww161 e161 => ?_
                        have hx161 := (Ext.refl no ww159).x_drew e161
                        have hb1 := hb1.x_drew e161
                        have hb2 := hb2.x_drew e161
                        obtain ⟨a162, ha162, h⟩ := h
                        refine elim_some ha162 ?_
                        obtain ⟨hq1, hq2, h⟩ := h
                        refine ⟨hq1, hq2, ?_⟩
                        obtain ⟨xWho164, xPublic165, xFrom166, xTo167, xLimit168, hc163, h⟩ := h
                        refine ⟨xWho164, xPublic165, xFrom166, xTo167, xLimit168, cellsAt_no (hx161) hc163, ?_⟩
                        obtain ⟨a169, ha169, h⟩ := h
                        refine elim_some ha169 ?_
                        obtain ⟨hq1, hq2, h⟩ := h
                        refine ⟨hq1, hq2, ?_⟩
                        obtain ⟨xWho171, xPublic172, xFrom173, xTo174, xLimit175, hc170, h⟩ := h
                        refine ⟨xWho171, xPublic172, xFrom173, xTo174, xLimit175, cellsAt_no (hx161) hc170, ?_⟩
                        refine (cachettelaw12_member.pure xWho164 xPublic165 xFrom166 xTo167 xLimit168).mono fun ee ww176 ⟨he, hxx⟩ => ⟨((cachettelaw12_member.F xWho164 xPublic165 xFrom166 xTo167 xLimit168).1), ((cachettelaw12_member.F xWho164 xPublic165 xFrom166 xTo167 xLimit168).2.1), ((cachettelaw12_member.F xWho164 xPublic165 xFrom166 xTo167 xLimit168).2.2.1), ((cachettelaw12_member.F xWho164 xPublic165 xFrom166 xTo167 xLimit168).2.2.2.1), ((cachettelaw12_member.F xWho164 xPublic165 xFrom166 xTo167 xLimit168).2.2.2.2), he, ?_⟩
                        have hx176 := hx161.trans hxx
                        have hb1 := hb1.ext hxx id
                        have hb2 := hb2.ext hxx id
                        refine ⟨cellsAt_no (hx176) hc170, ?_⟩
                        refine ⟨_, eqT52_ne ((cachettelaw12_member.F xWho164 xPublic165 xFrom166 xTo167 xLimit168).1) ((cachettelaw12_member.F xWho164 xPublic165 xFrom166 xTo167 xLimit168).2.1) ((cachettelaw12_member.F xWho164 xPublic165 xFrom166 xTo167 xLimit168).2.2.1) ((cachettelaw12_member.F xWho164 xPublic165 xFrom166 xTo167 xLimit168).2.2.2.1) ((cachettelaw12_member.F xWho164 xPublic165 xFrom166 xTo167 xLimit168).2.2.2.2) xWho171 xPublic172 xFrom173 xTo174 xLimit175 _, ?_⟩
                        refine bif_of (fun c177 => ?_) (fun c177 => ?_)
                        · have h := h.1 (of_decide_eq_false (not_t c177))
                          have h := h ww176 hx176
                          exact h
                        · have h := h.2 (of_decide_eq_true (not_f c177))
                          obtain ⟨hw1, hw2, h⟩ := h
                          try rw [w64 hw1 hw2]
                          have h := h ww176 hx176
                          obtain ⟨m178, hk, h⟩ := h
                          exact ⟨m178, hk, hb1, hb2, h⟩
                      · have h := h.2 (Int.not_lt.1 (of_decide_eq_false c160))
                        obtain ⟨hw1, hw2, h⟩ := h
                        try rw [w64 hw1 hw2]
                        obtain ⟨m179, hk, h⟩ := h
                        exact ⟨m179, hk, L68a, L68n, L68c, Epoch69, L88a, L88n, L88c, Epoch89, hb1, hb2, h⟩
              · have h := h.2 (beq_f c108)
                refine ⟨L29a, L29n, L29c, Epoch30, ⟨hb1.celli 0 rfl rfl, hb1.celli 1 rfl rfl, trivial⟩, ?_⟩
                refine h.mono fun ee186 ww187 h => ?_
                obtain ⟨Who180, Public181, From182, To183, Limit184, find185, he, hk, h⟩ := h
                refine ⟨Who180, Public181, From182, To183, Limit184, find185, he, ?_⟩
                have hb1 := hk.blk hb1 (by simp)
                have hb2 := hk.blk hb2 (by simp)
                refine thenW_in fun ww188 e188 => ?_
                have hb7 := Blk.of_new e188
                have hg7 := ((Ext.refl no ww187)).size
                have hb1_7 := Nat.ne_of_lt hb1.lt
                have hb1 := hb1.x_alloc e188
                have hb2_7 := Nat.ne_of_lt hb2.lt
                have hb2 := hb2.x_alloc e188
                have hx188 := (Ext.refl no ww187).x_alloc e188
                refine ⟨hb7.cani 0 rfl rfl, thenW_in fun ww189 e189 => ?_⟩
                have hx189 := hx188.x_set (q := ww187.heap.size) (i := 0) rfl (.inr hg7) e189
                have hb1 := hb1.oth (q := ww187.heap.size) (i := 0) rfl hb1_7 e189
                have hb2 := hb2.oth (q := ww187.heap.size) (i := 0) rfl hb2_7 e189
                have hb7 : Blk ww189 ww187.heap.size 49 [.int .i64 Who180, .int .u64 0, .int .i64 0, .int .i64 0, .int .i64 0] := hb7.seti 0 rfl e189
                refine ⟨hb7.cani 1 rfl rfl, thenW_in fun ww190 e190 => ?_⟩
                have hx190 := hx189.x_set (q := ww187.heap.size) (i := 1) rfl (.inr hg7) e190
                have hb1 := hb1.oth (q := ww187.heap.size) (i := 1) rfl hb1_7 e190
                have hb2 := hb2.oth (q := ww187.heap.size) (i := 1) rfl hb2_7 e190
                have hb7 : Blk ww190 ww187.heap.size 49 [.int .i64 Who180, .int .u64 Public181, .int .i64 0, .int .i64 0, .int .i64 0] := hb7.seti 1 rfl e190
                refine ⟨hb7.cani 2 rfl rfl, thenW_in fun ww191 e191 => ?_⟩
                have hx191 := hx190.x_set (q := ww187.heap.size) (i := 2) rfl (.inr hg7) e191
                have hb1 := hb1.oth (q := ww187.heap.size) (i := 2) rfl hb1_7 e191
                have hb2 := hb2.oth (q := ww187.heap.size) (i := 2) rfl hb2_7 e191
                have hb7 : Blk ww191 ww187.heap.size 49 [.int .i64 Who180, .int .u64 Public181, .int .i64 From182, .int .i64 0, .int .i64 0] := hb7.seti 2 rfl e191
                refine ⟨hb7.cani 3 rfl rfl, thenW_in fun ww192 e192 => ?_⟩
                have hx192 := hx191.x_set (q := ww187.heap.size) (i := 3) rfl (.inr hg7) e192
                have hb1 := hb1.oth (q := ww187.heap.size) (i := 3) rfl hb1_7 e192
                have hb2 := hb2.oth (q := ww187.heap.size) (i := 3) rfl hb2_7 e192
                have hb7 : Blk ww192 ww187.heap.size 49 [.int .i64 Who180, .int .u64 Public181, .int .i64 From182, .int .i64 To183, .int .i64 0] := hb7.seti 3 rfl e192
                refine ⟨hb7.cani 4 rfl rfl, thenW_in fun ww193 e193 => ?_⟩
                have hx193 := hx192.x_set (q := ww187.heap.size) (i := 4) rfl (.inr hg7) e193
                have hb1 := hb1.oth (q := ww187.heap.size) (i := 4) rfl hb1_7 e193
                have hb2 := hb2.oth (q := ww187.heap.size) (i := 4) rfl hb2_7 e193
                have hb7 : Blk ww193 ww187.heap.size 49 [.int .i64 Who180, .int .u64 Public181, .int .i64 From182, .int .i64 To183, .int .i64 Limit184] := hb7.seti 4 rfl e193
                refine ⟨L31a, L31n, L31c, Epoch32, ⟨hb2.celli 0 rfl rfl, hb2.celli 1 rfl rfl, trivial⟩, ?_⟩
                have h := h ww193 (ww187.heap.size) hx193 (Priv.cons hg7 hb7.lt Priv.nil)
                refine h.mono fun ee201 ww202 h => ?_
                obtain ⟨Who195, Public196, From197, To198, Limit199, find200, he, hk, h⟩ := h
                refine ⟨Who195, Public196, From197, To198, Limit199, find200, he, ?_⟩
                have hb1 := hk.blk hb1 (by simp)
                have hb2 := hk.blk hb2 (by simp)
                have hb7 := hk.blk hb7 (by simp)
                refine thenW_in fun ww203 e203 => ?_
                have hb8 := Blk.of_new e203
                have hg8 := ((Ext.refl no ww202)).size
                have hb1_8 := Nat.ne_of_lt hb1.lt
                have hb1 := hb1.x_alloc e203
                have hb2_8 := Nat.ne_of_lt hb2.lt
                have hb2 := hb2.x_alloc e203
                have hb7_8 := Nat.ne_of_lt hb7.lt
                have hb7 := hb7.x_alloc e203
                have hx203 := (Ext.refl no ww202).x_alloc e203
                refine ⟨hb8.cani 0 rfl rfl, thenW_in fun ww204 e204 => ?_⟩
                have hx204 := hx203.x_set (q := ww202.heap.size) (i := 0) rfl (.inr hg8) e204
                have hb1 := hb1.oth (q := ww202.heap.size) (i := 0) rfl hb1_8 e204
                have hb2 := hb2.oth (q := ww202.heap.size) (i := 0) rfl hb2_8 e204
                have hb7 := hb7.oth (q := ww202.heap.size) (i := 0) rfl hb7_8 e204
                have hb8 : Blk ww204 ww202.heap.size 52 [.int .i64 Who195, .int .u64 0, .int .i64 0, .int .i64 0, .int .i64 0] := hb8.seti 0 rfl e204
                refine ⟨hb8.cani 1 rfl rfl, thenW_in fun ww205 e205 => ?_⟩
                have hx205 := hx204.x_set (q := ww202.heap.size) (i := 1) rfl (.inr hg8) e205
                have hb1 := hb1.oth (q := ww202.heap.size) (i := 1) rfl hb1_8 e205
                have hb2 := hb2.oth (q := ww202.heap.size) (i := 1) rfl hb2_8 e205
                have hb7 := hb7.oth (q := ww202.heap.size) (i := 1) rfl hb7_8 e205
                have hb8 : Blk ww205 ww202.heap.size 52 [.int .i64 Who195, .int .u64 Public196, .int .i64 0, .int .i64 0, .int .i64 0] := hb8.seti 1 rfl e205
                refine ⟨hb8.cani 2 rfl rfl, thenW_in fun ww206 e206 => ?_⟩
                have hx206 := hx205.x_set (q := ww202.heap.size) (i := 2) rfl (.inr hg8) e206
                have hb1 := hb1.oth (q := ww202.heap.size) (i := 2) rfl hb1_8 e206
                have hb2 := hb2.oth (q := ww202.heap.size) (i := 2) rfl hb2_8 e206
                have hb7 := hb7.oth (q := ww202.heap.size) (i := 2) rfl hb7_8 e206
                have hb8 : Blk ww206 ww202.heap.size 52 [.int .i64 Who195, .int .u64 Public196, .int .i64 From197, .int .i64 0, .int .i64 0] := hb8.seti 2 rfl e206
                refine ⟨hb8.cani 3 rfl rfl, thenW_in fun ww207 e207 => ?_⟩
                have hx207 := hx206.x_set (q := ww202.heap.size) (i := 3) rfl (.inr hg8) e207
                have hb1 := hb1.oth (q := ww202.heap.size) (i := 3) rfl hb1_8 e207
                have hb2 := hb2.oth (q := ww202.heap.size) (i := 3) rfl hb2_8 e207
                have hb7 := hb7.oth (q := ww202.heap.size) (i := 3) rfl hb7_8 e207
                have hb8 : Blk ww207 ww202.heap.size 52 [.int .i64 Who195, .int .u64 Public196, .int .i64 From197, .int .i64 To198, .int .i64 0] := hb8.seti 3 rfl e207
                refine ⟨hb8.cani 4 rfl rfl, thenW_in fun ww208 e208 => ?_⟩
                have hx208 := hx207.x_set (q := ww202.heap.size) (i := 4) rfl (.inr hg8) e208
                have hb1 := hb1.oth (q := ww202.heap.size) (i := 4) rfl hb1_8 e208
                have hb2 := hb2.oth (q := ww202.heap.size) (i := 4) rfl hb2_8 e208
                have hb7 := hb7.oth (q := ww202.heap.size) (i := 4) rfl hb7_8 e208
                have hb8 : Blk ww208 ww202.heap.size 52 [.int .i64 Who195, .int .u64 Public196, .int .i64 From197, .int .i64 To198, .int .i64 Limit199] := hb8.seti 4 rfl e208
                refine thenW_in fun ww209 e209 => ?_
                have hx209 := hx208.x_drew e209
                have hb1 := hb1.x_drew e209
                have hb2 := hb2.x_drew e209
                have hb7 := hb7.x_drew e209
                have hb8 := hb8.x_drew e209
                refine ⟨L29a, L29n, L29c, Epoch30, ⟨hb1.celli 0 rfl rfl, hb1.celli 1 rfl rfl, trivial⟩, ?_⟩
                refine ⟨L31a, L31n, L31c, Epoch32, ⟨hb2.celli 0 rfl rfl, hb2.celli 1 rfl rfl, trivial⟩, ?_⟩
                have h := h ww209 (ww202.heap.size) hx209 (Priv.cons hg8 hb8.lt Priv.nil)
                refine h.mono fun ee212 ww213 h => ?_
                obtain ⟨now211a, now211n, now211c, he, hk, h⟩ := h
                refine ⟨now211a, now211n, now211c, he, ?_⟩
                have hb1 := hk.blk hb1 (by simp)
                have hb2 := hk.blk hb2 (by simp)
                have hb7 := hk.blk hb7 (by simp)
                have hb8 := hk.blk hb8 (by simp)
                refine ⟨⟨hb2.celli 0 rfl rfl, hb2.celli 1 rfl rfl, trivial⟩, ?_⟩
                refine h.mono fun ee215 ww216 h => ?_
                obtain ⟨now214a, now214n, now214c, he, hk, h⟩ := h
                refine ⟨now214a, now214n, now214c, he, ?_⟩
                have hb1 := hk.blk hb1 (by simp)
                have hb2 := hk.blk hb2 (by simp)
                have hb7 := hk.blk hb7 (by simp)
                have hb8 := hk.blk hb8 (by simp)
                refine thenW_in fun ww217 e217 => ?_
                have hx217 := (Ext.refl no ww216).x_drew e217
                have hb1 := hb1.x_drew e217
                have hb2 := hb2.x_drew e217
                have hb7 := hb7.x_drew e217
                have hb8 := hb8.x_drew e217
                refine ⟨Who180, Public181, From182, To183, Limit184, ⟨hb7.celli 0 rfl rfl, hb7.celli 1 rfl rfl, hb7.celli 2 rfl rfl, hb7.celli 3 rfl rfl, hb7.celli 4 rfl rfl, trivial⟩, ?_⟩
                refine ⟨Who195, Public196, From197, To198, Limit199, ⟨hb8.celli 0 rfl rfl, hb8.celli 1 rfl rfl, hb8.celli 2 rfl rfl, hb8.celli 3 rfl rfl, hb8.celli 4 rfl rfl, trivial⟩, ?_⟩
                refine (cachettelaw12_member.pure Who180 Public181 From182 To183 Limit184).mono fun ee ww218 ⟨he, hxx⟩ => ⟨((cachettelaw12_member.F Who180 Public181 From182 To183 Limit184).1), ((cachettelaw12_member.F Who180 Public181 From182 To183 Limit184).2.1), ((cachettelaw12_member.F Who180 Public181 From182 To183 Limit184).2.2.1), ((cachettelaw12_member.F Who180 Public181 From182 To183 Limit184).2.2.2.1), ((cachettelaw12_member.F Who180 Public181 From182 To183 Limit184).2.2.2.2), he, ?_⟩
                have hx218 := hx217.trans hxx
                have hb1 := hb1.ext hxx id
                have hb2 := hb2.ext hxx id
                have hb8 := hb8.ext hxx id
                refine ⟨⟨hb8.celli 0 rfl rfl, hb8.celli 1 rfl rfl, hb8.celli 2 rfl rfl, hb8.celli 3 rfl rfl, hb8.celli 4 rfl rfl, trivial⟩, ?_⟩
                refine ⟨_, eqT52_ne ((cachettelaw12_member.F Who180 Public181 From182 To183 Limit184).1) ((cachettelaw12_member.F Who180 Public181 From182 To183 Limit184).2.1) ((cachettelaw12_member.F Who180 Public181 From182 To183 Limit184).2.2.1) ((cachettelaw12_member.F Who180 Public181 From182 To183 Limit184).2.2.2.1) ((cachettelaw12_member.F Who180 Public181 From182 To183 Limit184).2.2.2.2) Who195 Public196 From197 To198 Limit199 _, ?_⟩
                refine bif_of (fun c219 => ?_) (fun c219 => ?_)
                · have h := h.1 (of_decide_eq_false (not_t c219))
                  have h := h ww218 hx218
                  exact h
                · have h := h.2 (of_decide_eq_true (not_f c219))
                  refine bif_of (fun c220 => ?_) (fun c220 => ?_)
                  · have h := h.1 (bbeq_f (not_t c220))
                    have h := h ww218 hx218
                    exact h
                  · have h := h.2 (bbeq_t (not_f c220))
                    refine bif_of (fun c221 => ?_) (fun c221 => ?_)
                    · have h := h.1 (bne_t c221)
                      have h := h ww218 hx218
                      exact h
                    · have h := h.2 (bne_f c221)
                      have h := h ww218 hx218
                      obtain ⟨I2, m223, h0, h⟩ := h
                      refine ⟨fun k vs ww => Blk ww ww18.heap.size 28 [.slice L29a L29n L29c, .int .i64 Epoch30] ∧ Blk ww ww19.heap.size 45 [.slice L31a L31n L31c, .int .i64 Epoch32] ∧ I2 k vs ww, m223, ⟨hb1, hb2, h0⟩, fun m224 ww225 k222 hI => ?_⟩
                      obtain ⟨hb1, hb2, hI⟩ := hI
                      have h := h m224 ww225 k222 hI
                      refine bif_of (fun c226 => ?_) (fun c226 => ?_)
                      · have h := h.1 (of_decide_eq_true c226)
                        refine thenW_in fun ww227 e227 => ?_
                        have hx227 := (Ext.refl no ww225).x_drew e227
                        have hb1 := hb1.x_drew e227
                        have hb2 := hb2.x_drew e227
                        obtain ⟨a228, ha228, h⟩ := h
                        refine elim_some ha228 ?_
                        obtain ⟨hq1, hq2, h⟩ := h
                        refine ⟨hq1, hq2, ?_⟩
                        obtain ⟨xWho230, xPublic231, xFrom232, xTo233, xLimit234, hc229, h⟩ := h
                        refine ⟨xWho230, xPublic231, xFrom232, xTo233, xLimit234, cellsAt_no (hx227) hc229, ?_⟩
                        obtain ⟨a235, ha235, h⟩ := h
                        refine elim_some ha235 ?_
                        obtain ⟨hq1, hq2, h⟩ := h
                        refine ⟨hq1, hq2, ?_⟩
                        obtain ⟨xWho237, xPublic238, xFrom239, xTo240, xLimit241, hc236, h⟩ := h
                        refine ⟨xWho237, xPublic238, xFrom239, xTo240, xLimit241, cellsAt_no (hx227) hc236, ?_⟩
                        refine (cachettelaw12_member.pure xWho230 xPublic231 xFrom232 xTo233 xLimit234).mono fun ee ww242 ⟨he, hxx⟩ => ⟨((cachettelaw12_member.F xWho230 xPublic231 xFrom232 xTo233 xLimit234).1), ((cachettelaw12_member.F xWho230 xPublic231 xFrom232 xTo233 xLimit234).2.1), ((cachettelaw12_member.F xWho230 xPublic231 xFrom232 xTo233 xLimit234).2.2.1), ((cachettelaw12_member.F xWho230 xPublic231 xFrom232 xTo233 xLimit234).2.2.2.1), ((cachettelaw12_member.F xWho230 xPublic231 xFrom232 xTo233 xLimit234).2.2.2.2), he, ?_⟩
                        have hx242 := hx227.trans hxx
                        have hb1 := hb1.ext hxx id
                        have hb2 := hb2.ext hxx id
                        refine ⟨cellsAt_no (hx242) hc236, ?_⟩
                        refine ⟨_, eqT52_ne ((cachettelaw12_member.F xWho230 xPublic231 xFrom232 xTo233 xLimit234).1) ((cachettelaw12_member.F xWho230 xPublic231 xFrom232 xTo233 xLimit234).2.1) ((cachettelaw12_member.F xWho230 xPublic231 xFrom232 xTo233 xLimit234).2.2.1) ((cachettelaw12_member.F xWho230 xPublic231 xFrom232 xTo233 xLimit234).2.2.2.1) ((cachettelaw12_member.F xWho230 xPublic231 xFrom232 xTo233 xLimit234).2.2.2.2) xWho237 xPublic238 xFrom239 xTo240 xLimit241 _, ?_⟩
                        refine bif_of (fun c243 => ?_) (fun c243 => ?_)
                        · have h := h.1 (of_decide_eq_false (not_t c243))
                          have h := h ww242 hx242
                          exact h
                        · have h := h.2 (of_decide_eq_true (not_f c243))
                          obtain ⟨hw1, hw2, h⟩ := h
                          try rw [w64 hw1 hw2]
                          have h := h ww242 hx242
                          obtain ⟨m244, hk, h⟩ := h
                          exact ⟨m244, hk, hb1, hb2, h⟩
                      · have h := h.2 (Int.not_lt.1 (of_decide_eq_false c226))
                        obtain ⟨hw1, hw2, h⟩ := h
                        try rw [w64 hw1 hw2]
                        obtain ⟨m245, hk, h⟩ := h
                        exact ⟨m245, hk, L29a, L29n, L29c, Epoch30, L31a, L31n, L31c, Epoch32, hb1, hb2, h⟩
      · refine thenW_in fun ww66 e66 => ?_
        have hb3 := Blk.of_new e66
        have hg3 := (hx57).size
        have hb1_3 := Nat.ne_of_lt hb1.lt
        have hb1 := hb1.x_alloc e66
        have hb2_3 := Nat.ne_of_lt hb2.lt
        have hb2 := hb2.x_alloc e66
        have hx66 := hx57.x_alloc e66
        refine ⟨cellsAt_no (hx66) hc59, ⟨hb1.celli 0 rfl rfl, hb1.celli 1 rfl rfl, trivial⟩, ?_⟩
        have h := h ww66 [ww57.heap.size] hx66 (Priv.cons hg3 hb3.lt Priv.nil)
        refine h.mono fun ee72 ww73 h => ?_
        obtain ⟨L69a, L69n, L69c, Epoch70, apply71, he, hkL, hk, h⟩ := h
        refine ⟨L69a, L69n, L69c, Epoch70, apply71, he, ?_⟩
        have hb3 := hkL.blk hb3 (by simp)
        have hb1 := hk.blk hb1 (by simp)
        have hb2 := hk.blk hb2 (by simp)
        refine ⟨hb3.cani 0 rfl rfl, thenW_in fun ww74 e74 => ?_⟩
        have hx74 := (Ext.refl (fun b => b ∈ ([ww57.heap.size] : List Nat)) ww73).x_set (q := ww57.heap.size) (i := 0) rfl (.inl (by simp)) e74
        have hb1 := hb1.oth (q := ww57.heap.size) (i := 0) rfl hb1_3 e74
        have hb2 := hb2.oth (q := ww57.heap.size) (i := 0) rfl hb2_3 e74
        have hb3 := hb3.seti 0 rfl e74
        refine ⟨hb3.cani 1 rfl rfl, thenW_in fun ww75 e75 => ?_⟩
        have hx75 := hx74.x_set (q := ww57.heap.size) (i := 1) rfl (.inl (by simp)) e75
        have hb1 := hb1.oth (q := ww57.heap.size) (i := 1) rfl hb1_3 e75
        have hb2 := hb2.oth (q := ww57.heap.size) (i := 1) rfl hb2_3 e75
        have hb3 := hb3.seti 1 rfl e75
        refine thenW_in fun ww76 e76 => ?_
        have hx76 := hx75.x_drew e76
        have hb1 := hb1.x_drew e76
        have hb2 := hb2.x_drew e76
        have hb3 := hb3.x_drew e76
        refine ⟨L31a, L31n, L31c, Epoch32, ⟨hb2.celli 0 rfl rfl, hb2.celli 1 rfl rfl, trivial⟩, ?_⟩
        refine elim_some ha37 ?_
        obtain ⟨hq1, hq2, h⟩ := h
        refine ⟨hq1, hq2, ?_⟩
        have h := h ww76 (ww57.heap.size) hx76 (PrivJ.cons (.inl (by simp)) hb3.lt PrivJ.nil)
        obtain ⟨xKind79, xWho80, xPublic81, xLimit82, xWraps83a, xWraps83n, xWraps83c, xOld84a, xOld84n, xOld84c, hc78, h⟩ := h
        refine ⟨xKind79, xWho80, xPublic81, xLimit82, xWraps83a, xWraps83n, xWraps83c, xOld84a, xOld84n, xOld84c, hc78, ?_⟩
        refine ⟨?_, ?_⟩
        · have h := h ww76 [] (Ext.refl no ww76) Priv.nil
          refine h.mono fun ee90 ww91 h => ?_
          obtain ⟨L87a, L87n, L87c, Epoch88, apply89, he, hkL, hk, h⟩ := h
          refine ⟨L87a, L87n, L87c, Epoch88, apply89, he, ?_⟩
          have hb1 := hk.blk hb1 (by simp)
          have hb2 := hk.blk hb2 (by simp)
          have hb3 := hk.blk hb3 (by simp)
          refine thenW_in fun ww92 e92 => ?_
          have hb4 := Blk.of_new e92
          have hg4 := ((Ext.refl (fun b => b ∈ ([] : List Nat)) ww91)).size
          have hb1_4 := Nat.ne_of_lt hb1.lt
          have hb1 := hb1.x_alloc e92
          have hb2_4 := Nat.ne_of_lt hb2.lt
          have hb2 := hb2.x_alloc e92
          have hb3_4 := Nat.ne_of_lt hb3.lt
          have hb3 := hb3.x_alloc e92
          have hx92 := (Ext.refl (fun b => b ∈ ([] : List Nat)) ww91).x_alloc e92
          refine ⟨hb4.cani 0 rfl rfl, thenW_in fun ww93 e93 => ?_⟩
          have hx93 := hx92.x_set (q := ww91.heap.size) (i := 0) rfl (.inr hg4) e93
          have hb1 := hb1.oth (q := ww91.heap.size) (i := 0) rfl hb1_4 e93
          have hb2 := hb2.oth (q := ww91.heap.size) (i := 0) rfl hb2_4 e93
          have hb3 := hb3.oth (q := ww91.heap.size) (i := 0) rfl hb3_4 e93
          have hb4 := hb4.seti 0 rfl e93
          refine ⟨hb4.cani 1 rfl rfl, thenW_in fun ww94 e94 => ?_⟩
          have hx94 := hx93.x_set (q := ww91.heap.size) (i := 1) rfl (.inr hg4) e94
          have hb1 := hb1.oth (q := ww91.heap.size) (i := 1) rfl hb1_4 e94
          have hb2 := hb2.oth (q := ww91.heap.size) (i := 1) rfl hb2_4 e94
          have hb3 := hb3.oth (q := ww91.heap.size) (i := 1) rfl hb3_4 e94
          have hb4 := hb4.seti 1 rfl e94
          refine thenW_in fun ww95 e95 => ?_
          have hx95 := hx94.x_drew e95
          have hb1 := hb1.x_drew e95
          have hb2 := hb2.x_drew e95
          have hb3 := hb3.x_drew e95
          have hb4 := hb4.x_drew e95
          refine bif_of (fun c96 => ?_) (fun c96 => ?_)
          · have h := h.1 (bne_t c96)
            have h := h ww95 hx95
            exact h
          · have h := h.2 (bne_f c96)
            refine ⟨L69a, L69n, L69c, Epoch70, ⟨hb3.celli 0 rfl rfl, hb3.celli 1 rfl rfl, trivial⟩, ?_⟩
            refine ⟨L87a, L87n, L87c, Epoch88, ⟨hb4.celli 0 rfl rfl, hb4.celli 1 rfl rfl, trivial⟩, ?_⟩
            have h := h ww95 (ww91.heap.size) hx95 (PrivJ.cons (.inr hg4) hb4.lt PrivJ.nil)
            refine h.mono fun ee102 ww103 h => ?_
            obtain ⟨L100a, L100n, L100c, Epoch101, he, hk, h⟩ := h
            refine ⟨L100a, L100n, L100c, Epoch101, he, ?_⟩
            have hb1 := hk.blk hb1 (by simp)
            have hb2 := hk.blk hb2 (by simp)
            have hb3 := hk.blk hb3 (by simp)
            have hb4 := hk.blk hb4 (by simp)
            refine ⟨⟨hb4.celli 0 rfl rfl, hb4.celli 1 rfl rfl, trivial⟩, ?_⟩
            refine h.mono fun ee105 ww106 h => ?_
            obtain ⟨same104, he, hk, h⟩ := h
            refine ⟨same104, he, ?_⟩
            have hb1 := hk.blk hb1 (by simp)
            have hb2 := hk.blk hb2 (by simp)
            have hb3 := hk.blk hb3 (by simp)
            have hb4 := hk.blk hb4 (by simp)
            refine bif_of (fun c107 => ?_) (fun c107 => ?_)
            · have h := h.1 (not_t c107)
              exact h
            · have h := h.2 (not_f c107)
              refine bif_of (fun c108 => ?_) (fun c108 => ?_)
              · have h := h.1 (beq_t c108)
                refine thenW_in fun ww109 e109 => ?_
                have hx109 := (Ext.refl no ww106).x_drew e109
                have hb1 := hb1.x_drew e109
                have hb2 := hb2.x_drew e109
                have hb3 := hb3.x_drew e109
                have hb4 := hb4.x_drew e109
                refine ⟨L69a, L69n, L69c, Epoch70, ⟨hb3.celli 0 rfl rfl, hb3.celli 1 rfl rfl, trivial⟩, ?_⟩
                refine ⟨L87a, L87n, L87c, Epoch88, ⟨hb4.celli 0 rfl rfl, hb4.celli 1 rfl rfl, trivial⟩, ?_⟩
                have hm111 : Ext (fun b => b = ww18.heap.size) ww106 ww109 := (hx109).none
                refine ⟨hb1.cani 0 rfl rfl, thenW_in fun ww110 e110 => ?_⟩
                have hx110 := hm111.x_set (q := ww18.heap.size) (i := 0) rfl (.inl rfl) e110
                have hb1 := hb1.seti 0 rfl e110
                have hb2 := hb2.oth (q := ww18.heap.size) (i := 0) rfl (Ne.symm hb1_2) e110
                have hb4 := hb4.oth (q := ww18.heap.size) (i := 0) rfl (Ne.symm hb1_4) e110
                refine ⟨hb1.cani 1 rfl rfl, thenW_in fun ww111 e111 => ?_⟩
                have hx111 := hx110.x_set (q := ww18.heap.size) (i := 1) rfl (.inl rfl) e111
                have hb1 := hb1.seti 1 rfl e111
                have hb2 := hb2.oth (q := ww18.heap.size) (i := 1) rfl (Ne.symm hb1_2) e111
                have hb4 := hb4.oth (q := ww18.heap.size) (i := 1) rfl (Ne.symm hb1_4) e111
                refine ⟨⟨hb4.celli 0 rfl rfl, hb4.celli 1 rfl rfl, trivial⟩, ?_⟩
                have hm113 : Ext (fun b => b = ww19.heap.size ∨ b = ww18.heap.size) ww106 ww111 := (hx111).mono fun _ h _ => .inr h
                refine ⟨hb2.cani 0 rfl rfl, thenW_in fun ww112 e112 => ?_⟩
                have hx112 := hm113.x_set (q := ww19.heap.size) (i := 0) rfl (.inl (.inl rfl)) e112
                have hb1 := hb1.oth (q := ww19.heap.size) (i := 0) rfl hb1_2 e112
                have hb2 := hb2.seti 0 rfl e112
                refine ⟨hb2.cani 1 rfl rfl, thenW_in fun ww113 e113 => ?_⟩
                have hx113 := hx112.x_set (q := ww19.heap.size) (i := 1) rfl (.inl (.inl rfl)) e113
                have hb1 := hb1.oth (q := ww19.heap.size) (i := 1) rfl hb1_2 e113
                have hb2 := hb2.seti 1 rfl e113
                refine ⟨L69a, L69n, L69c, Epoch70, ⟨hb1.celli 0 rfl rfl, hb1.celli 1 rfl rfl, trivial⟩, ?_⟩
                have h := h ww113 hx113
                refine h.mono fun ee120 ww121 h => ?_
                obtain ⟨Who114, Public115, From116, To117, Limit118, find119, he, hk, h⟩ := h
                refine ⟨Who114, Public115, From116, To117, Limit118, find119, he, ?_⟩
                have hb1 := hk.blk hb1 (by simp)
                have hb2 := hk.blk hb2 (by simp)
                refine thenW_in fun ww122 e122 => ?_
                have hb5 := Blk.of_new e122
                have hg5 := ((Ext.refl no ww121)).size
                have hb1_5 := Nat.ne_of_lt hb1.lt
                have hb1 := hb1.x_alloc e122
                have hb2_5 := Nat.ne_of_lt hb2.lt
                have hb2 := hb2.x_alloc e122
                have hx122 := (Ext.refl no ww121).x_alloc e122
                refine ⟨hb5.cani 0 rfl rfl, thenW_in fun ww123 e123 => ?_⟩
                have hx123 := hx122.x_set (q := ww121.heap.size) (i := 0) rfl (.inr hg5) e123
                have hb1 := hb1.oth (q := ww121.heap.size) (i := 0) rfl hb1_5 e123
                have hb2 := hb2.oth (q := ww121.heap.size) (i := 0) rfl hb2_5 e123
                have hb5 : Blk ww123 ww121.heap.size 49 [.int .i64 Who114, .int .u64 0, .int .i64 0, .int .i64 0, .int .i64 0] := hb5.seti 0 rfl e123
                refine ⟨hb5.cani 1 rfl rfl, thenW_in fun ww124 e124 => ?_⟩
                have hx124 := hx123.x_set (q := ww121.heap.size) (i := 1) rfl (.inr hg5) e124
                have hb1 := hb1.oth (q := ww121.heap.size) (i := 1) rfl hb1_5 e124
                have hb2 := hb2.oth (q := ww121.heap.size) (i := 1) rfl hb2_5 e124
                have hb5 : Blk ww124 ww121.heap.size 49 [.int .i64 Who114, .int .u64 Public115, .int .i64 0, .int .i64 0, .int .i64 0] := hb5.seti 1 rfl e124
                refine ⟨hb5.cani 2 rfl rfl, thenW_in fun ww125 e125 => ?_⟩
                have hx125 := hx124.x_set (q := ww121.heap.size) (i := 2) rfl (.inr hg5) e125
                have hb1 := hb1.oth (q := ww121.heap.size) (i := 2) rfl hb1_5 e125
                have hb2 := hb2.oth (q := ww121.heap.size) (i := 2) rfl hb2_5 e125
                have hb5 : Blk ww125 ww121.heap.size 49 [.int .i64 Who114, .int .u64 Public115, .int .i64 From116, .int .i64 0, .int .i64 0] := hb5.seti 2 rfl e125
                refine ⟨hb5.cani 3 rfl rfl, thenW_in fun ww126 e126 => ?_⟩
                have hx126 := hx125.x_set (q := ww121.heap.size) (i := 3) rfl (.inr hg5) e126
                have hb1 := hb1.oth (q := ww121.heap.size) (i := 3) rfl hb1_5 e126
                have hb2 := hb2.oth (q := ww121.heap.size) (i := 3) rfl hb2_5 e126
                have hb5 : Blk ww126 ww121.heap.size 49 [.int .i64 Who114, .int .u64 Public115, .int .i64 From116, .int .i64 To117, .int .i64 0] := hb5.seti 3 rfl e126
                refine ⟨hb5.cani 4 rfl rfl, thenW_in fun ww127 e127 => ?_⟩
                have hx127 := hx126.x_set (q := ww121.heap.size) (i := 4) rfl (.inr hg5) e127
                have hb1 := hb1.oth (q := ww121.heap.size) (i := 4) rfl hb1_5 e127
                have hb2 := hb2.oth (q := ww121.heap.size) (i := 4) rfl hb2_5 e127
                have hb5 : Blk ww127 ww121.heap.size 49 [.int .i64 Who114, .int .u64 Public115, .int .i64 From116, .int .i64 To117, .int .i64 Limit118] := hb5.seti 4 rfl e127
                refine ⟨L87a, L87n, L87c, Epoch88, ⟨hb2.celli 0 rfl rfl, hb2.celli 1 rfl rfl, trivial⟩, ?_⟩
                have h := h ww127 (ww121.heap.size) hx127 (Priv.cons hg5 hb5.lt Priv.nil)
                refine h.mono fun ee135 ww136 h => ?_
                obtain ⟨Who129, Public130, From131, To132, Limit133, find134, he, hk, h⟩ := h
                refine ⟨Who129, Public130, From131, To132, Limit133, find134, he, ?_⟩
                have hb1 := hk.blk hb1 (by simp)
                have hb2 := hk.blk hb2 (by simp)
                have hb5 := hk.blk hb5 (by simp)
                refine thenW_in fun ww137 e137 => ?_
                have hb6 := Blk.of_new e137
                have hg6 := ((Ext.refl no ww136)).size
                have hb1_6 := Nat.ne_of_lt hb1.lt
                have hb1 := hb1.x_alloc e137
                have hb2_6 := Nat.ne_of_lt hb2.lt
                have hb2 := hb2.x_alloc e137
                have hb5_6 := Nat.ne_of_lt hb5.lt
                have hb5 := hb5.x_alloc e137
                have hx137 := (Ext.refl no ww136).x_alloc e137
                refine ⟨hb6.cani 0 rfl rfl, thenW_in fun ww138 e138 => ?_⟩
                have hx138 := hx137.x_set (q := ww136.heap.size) (i := 0) rfl (.inr hg6) e138
                have hb1 := hb1.oth (q := ww136.heap.size) (i := 0) rfl hb1_6 e138
                have hb2 := hb2.oth (q := ww136.heap.size) (i := 0) rfl hb2_6 e138
                have hb5 := hb5.oth (q := ww136.heap.size) (i := 0) rfl hb5_6 e138
                have hb6 : Blk ww138 ww136.heap.size 52 [.int .i64 Who129, .int .u64 0, .int .i64 0, .int .i64 0, .int .i64 0] := hb6.seti 0 rfl e138
                refine ⟨hb6.cani 1 rfl rfl, thenW_in fun ww139 e139 => ?_⟩
                have hx139 := hx138.x_set (q := ww136.heap.size) (i := 1) rfl (.inr hg6) e139
                have hb1 := hb1.oth (q := ww136.heap.size) (i := 1) rfl hb1_6 e139
                have hb2 := hb2.oth (q := ww136.heap.size) (i := 1) rfl hb2_6 e139
                have hb5 := hb5.oth (q := ww136.heap.size) (i := 1) rfl hb5_6 e139
                have hb6 : Blk ww139 ww136.heap.size 52 [.int .i64 Who129, .int .u64 Public130, .int .i64 0, .int .i64 0, .int .i64 0] := hb6.seti 1 rfl e139
                refine ⟨hb6.cani 2 rfl rfl, thenW_in fun ww140 e140 => ?_⟩
                have hx140 := hx139.x_set (q := ww136.heap.size) (i := 2) rfl (.inr hg6) e140
                have hb1 := hb1.oth (q := ww136.heap.size) (i := 2) rfl hb1_6 e140
                have hb2 := hb2.oth (q := ww136.heap.size) (i := 2) rfl hb2_6 e140
                have hb5 := hb5.oth (q := ww136.heap.size) (i := 2) rfl hb5_6 e140
                have hb6 : Blk ww140 ww136.heap.size 52 [.int .i64 Who129, .int .u64 Public130, .int .i64 From131, .int .i64 0, .int .i64 0] := hb6.seti 2 rfl e140
                refine ⟨hb6.cani 3 rfl rfl, thenW_in fun ww141 e141 => ?_⟩
                have hx141 := hx140.x_set (q := ww136.heap.size) (i := 3) rfl (.inr hg6) e141
                have hb1 := hb1.oth (q := ww136.heap.size) (i := 3) rfl hb1_6 e141
                have hb2 := hb2.oth (q := ww136.heap.size) (i := 3) rfl hb2_6 e141
                have hb5 := hb5.oth (q := ww136.heap.size) (i := 3) rfl hb5_6 e141
                have hb6 : Blk ww141 ww136.heap.size 52 [.int .i64 Who129, .int .u64 Public130, .int .i64 From131, .int .i64 To132, .int .i64 0] := hb6.seti 3 rfl e141
                refine ⟨hb6.cani 4 rfl rfl, thenW_in fun ww142 e142 => ?_⟩
                have hx142 := hx141.x_set (q := ww136.heap.size) (i := 4) rfl (.inr hg6) e142
                have hb1 := hb1.oth (q := ww136.heap.size) (i := 4) rfl hb1_6 e142
                have hb2 := hb2.oth (q := ww136.heap.size) (i := 4) rfl hb2_6 e142
                have hb5 := hb5.oth (q := ww136.heap.size) (i := 4) rfl hb5_6 e142
                have hb6 : Blk ww142 ww136.heap.size 52 [.int .i64 Who129, .int .u64 Public130, .int .i64 From131, .int .i64 To132, .int .i64 Limit133] := hb6.seti 4 rfl e142
                refine thenW_in fun ww143 e143 => ?_
                have hx143 := hx142.x_drew e143
                have hb1 := hb1.x_drew e143
                have hb2 := hb2.x_drew e143
                have hb5 := hb5.x_drew e143
                have hb6 := hb6.x_drew e143
                refine ⟨L69a, L69n, L69c, Epoch70, ⟨hb1.celli 0 rfl rfl, hb1.celli 1 rfl rfl, trivial⟩, ?_⟩
                refine ⟨L87a, L87n, L87c, Epoch88, ⟨hb2.celli 0 rfl rfl, hb2.celli 1 rfl rfl, trivial⟩, ?_⟩
                have h := h ww143 (ww136.heap.size) hx143 (Priv.cons hg6 hb6.lt Priv.nil)
                refine h.mono fun ee146 ww147 h => ?_
                obtain ⟨now145a, now145n, now145c, he, hk, h⟩ := h
                refine ⟨now145a, now145n, now145c, he, ?_⟩
                have hb1 := hk.blk hb1 (by simp)
                have hb2 := hk.blk hb2 (by simp)
                have hb5 := hk.blk hb5 (by simp)
                have hb6 := hk.blk hb6 (by simp)
                refine ⟨⟨hb2.celli 0 rfl rfl, hb2.celli 1 rfl rfl, trivial⟩, ?_⟩
                refine h.mono fun ee149 ww150 h => ?_
                obtain ⟨now148a, now148n, now148c, he, hk, h⟩ := h
                refine ⟨now148a, now148n, now148c, he, ?_⟩
                have hb1 := hk.blk hb1 (by simp)
                have hb2 := hk.blk hb2 (by simp)
                have hb5 := hk.blk hb5 (by simp)
                have hb6 := hk.blk hb6 (by simp)
                refine thenW_in fun ww151 e151 => ?_
                have hx151 := (Ext.refl no ww150).x_drew e151
                have hb1 := hb1.x_drew e151
                have hb2 := hb2.x_drew e151
                have hb5 := hb5.x_drew e151
                have hb6 := hb6.x_drew e151
                refine ⟨Who114, Public115, From116, To117, Limit118, ⟨hb5.celli 0 rfl rfl, hb5.celli 1 rfl rfl, hb5.celli 2 rfl rfl, hb5.celli 3 rfl rfl, hb5.celli 4 rfl rfl, trivial⟩, ?_⟩
                refine ⟨Who129, Public130, From131, To132, Limit133, ⟨hb6.celli 0 rfl rfl, hb6.celli 1 rfl rfl, hb6.celli 2 rfl rfl, hb6.celli 3 rfl rfl, hb6.celli 4 rfl rfl, trivial⟩, ?_⟩
                refine (cachettelaw12_member.pure Who114 Public115 From116 To117 Limit118).mono fun ee ww152 ⟨he, hxx⟩ => ⟨((cachettelaw12_member.F Who114 Public115 From116 To117 Limit118).1), ((cachettelaw12_member.F Who114 Public115 From116 To117 Limit118).2.1), ((cachettelaw12_member.F Who114 Public115 From116 To117 Limit118).2.2.1), ((cachettelaw12_member.F Who114 Public115 From116 To117 Limit118).2.2.2.1), ((cachettelaw12_member.F Who114 Public115 From116 To117 Limit118).2.2.2.2), he, ?_⟩
                have hx152 := hx151.trans hxx
                have hb1 := hb1.ext hxx id
                have hb2 := hb2.ext hxx id
                have hb6 := hb6.ext hxx id
                refine ⟨⟨hb6.celli 0 rfl rfl, hb6.celli 1 rfl rfl, hb6.celli 2 rfl rfl, hb6.celli 3 rfl rfl, hb6.celli 4 rfl rfl, trivial⟩, ?_⟩
                refine ⟨_, eqT52_ne ((cachettelaw12_member.F Who114 Public115 From116 To117 Limit118).1) ((cachettelaw12_member.F Who114 Public115 From116 To117 Limit118).2.1) ((cachettelaw12_member.F Who114 Public115 From116 To117 Limit118).2.2.1) ((cachettelaw12_member.F Who114 Public115 From116 To117 Limit118).2.2.2.1) ((cachettelaw12_member.F Who114 Public115 From116 To117 Limit118).2.2.2.2) Who129 Public130 From131 To132 Limit133 _, ?_⟩
                refine bif_of (fun c153 => ?_) (fun c153 => ?_)
                · have h := h.1 (of_decide_eq_false (not_t c153))
                  have h := h ww152 hx152
                  exact h
                · have h := h.2 (of_decide_eq_true (not_f c153))
                  refine bif_of (fun c154 => ?_) (fun c154 => ?_)
                  · have h := h.1 (bbeq_f (not_t c154))
                    have h := h ww152 hx152
                    exact h
                  · have h := h.2 (bbeq_t (not_f c154))
                    refine bif_of (fun c155 => ?_) (fun c155 => ?_)
                    · have h := h.1 (bne_t c155)
                      have h := h ww152 hx152
                      exact h
                    · have h := h.2 (bne_f c155)
                      have h := h ww152 hx152
                      obtain ⟨I2, m157, h0, h⟩ := h
                      refine ⟨fun k vs ww => Blk ww ww18.heap.size 28 [.slice L69a L69n L69c, .int .i64 Epoch70] ∧ Blk ww ww19.heap.size 45 [.slice L87a L87n L87c, .int .i64 Epoch88] ∧ I2 k vs ww, m157, ⟨hb1, hb2, h0⟩, fun m158 ww159 k156 hI => ?_⟩
                      obtain ⟨hb1, hb2, hI⟩ := hI
                      have h := h m158 ww159 k156 hI
                      refine bif_of (fun c160 => ?_) (fun c160 => ?_)
                      · have h := h.1 (of_decide_eq_true c160)
                        refine thenW_in fun ww161 e161 => ?_
                        have hx161 := (Ext.refl no ww159).x_drew e161
                        have hb1 := hb1.x_drew e161
                        have hb2 := hb2.x_drew e161
                        obtain ⟨a162, ha162, h⟩ := h
                        refine elim_some ha162 ?_
                        obtain ⟨hq1, hq2, h⟩ := h
                        refine ⟨hq1, hq2, ?_⟩
                        obtain ⟨xWho164, xPublic165, xFrom166, xTo167, xLimit168, hc163, h⟩ := h
                        refine ⟨xWho164, xPublic165, xFrom166, xTo167, xLimit168, cellsAt_no (hx161) hc163, ?_⟩
                        obtain ⟨a169, ha169, h⟩ := h
                        refine elim_some ha169 ?_
                        obtain ⟨hq1, hq2, h⟩ := h
                        refine ⟨hq1, hq2, ?_⟩
                        obtain ⟨xWho171, xPublic172, xFrom173, xTo174, xLimit175, hc170, h⟩ := h
                        refine ⟨xWho171, xPublic172, xFrom173, xTo174, xLimit175, cellsAt_no (hx161) hc170, ?_⟩
                        refine (cachettelaw12_member.pure xWho164 xPublic165 xFrom166 xTo167 xLimit168).mono fun ee ww176 ⟨he, hxx⟩ => ⟨((cachettelaw12_member.F xWho164 xPublic165 xFrom166 xTo167 xLimit168).1), ((cachettelaw12_member.F xWho164 xPublic165 xFrom166 xTo167 xLimit168).2.1), ((cachettelaw12_member.F xWho164 xPublic165 xFrom166 xTo167 xLimit168).2.2.1), ((cachettelaw12_member.F xWho164 xPublic165 xFrom166 xTo167 xLimit168).2.2.2.1), ((cachettelaw12_member.F xWho164 xPublic165 xFrom166 xTo167 xLimit168).2.2.2.2), he, ?_⟩
                        have hx176 := hx161.trans hxx
                        have hb1 := hb1.ext hxx id
                        have hb2 := hb2.ext hxx id
                        refine ⟨cellsAt_no (hx176) hc170, ?_⟩
                        refine ⟨_, eqT52_ne ((cachettelaw12_member.F xWho164 xPublic165 xFrom166 xTo167 xLimit168).1) ((cachettelaw12_member.F xWho164 xPublic165 xFrom166 xTo167 xLimit168).2.1) ((cachettelaw12_member.F xWho164 xPublic165 xFrom166 xTo167 xLimit168).2.2.1) ((cachettelaw12_member.F xWho164 xPublic165 xFrom166 xTo167 xLimit168).2.2.2.1) ((cachettelaw12_member.F xWho164 xPublic165 xFrom166 xTo167 xLimit168).2.2.2.2) xWho171 xPublic172 xFrom173 xTo174 xLimit175 _, ?_⟩
                        refine bif_of (fun c177 => ?_) (fun c177 => ?_)
                        · have h := h.1 (of_decide_eq_false (not_t c177))
                          have h := h ww176 hx176
                          exact h
                        · have h := h.2 (of_decide_eq_true (not_f c177))
                          obtain ⟨hw1, hw2, h⟩ := h
                          try rw [w64 hw1 hw2]
                          have h := h ww176 hx176
                          obtain ⟨m178, hk, h⟩ := h
                          exact ⟨m178, hk, hb1, hb2, h⟩
                      · have h := h.2 (Int.not_lt.1 (of_decide_eq_false c160))
                        obtain ⟨hw1, hw2, h⟩ := h
                        try rw [w64 hw1 hw2]
                        obtain ⟨m179, hk, h⟩ := h
                        exact ⟨m179, hk, L69a, L69n, L69c, Epoch70, L87a, L87n, L87c, Epoch88, hb1, hb2, h⟩
              · have h := h.2 (beq_f c108)
                refine ⟨L29a, L29n, L29c, Epoch30, ⟨hb1.celli 0 rfl rfl, hb1.celli 1 rfl rfl, trivial⟩, ?_⟩
                refine h.mono fun ee186 ww187 h => ?_
                obtain ⟨Who180, Public181, From182, To183, Limit184, find185, he, hk, h⟩ := h
                refine ⟨Who180, Public181, From182, To183, Limit184, find185, he, ?_⟩
                have hb1 := hk.blk hb1 (by simp)
                have hb2 := hk.blk hb2 (by simp)
                refine thenW_in fun ww188 e188 => ?_
                have hb7 := Blk.of_new e188
                have hg7 := ((Ext.refl no ww187)).size
                have hb1_7 := Nat.ne_of_lt hb1.lt
                have hb1 := hb1.x_alloc e188
                have hb2_7 := Nat.ne_of_lt hb2.lt
                have hb2 := hb2.x_alloc e188
                have hx188 := (Ext.refl no ww187).x_alloc e188
                refine ⟨hb7.cani 0 rfl rfl, thenW_in fun ww189 e189 => ?_⟩
                have hx189 := hx188.x_set (q := ww187.heap.size) (i := 0) rfl (.inr hg7) e189
                have hb1 := hb1.oth (q := ww187.heap.size) (i := 0) rfl hb1_7 e189
                have hb2 := hb2.oth (q := ww187.heap.size) (i := 0) rfl hb2_7 e189
                have hb7 : Blk ww189 ww187.heap.size 49 [.int .i64 Who180, .int .u64 0, .int .i64 0, .int .i64 0, .int .i64 0] := hb7.seti 0 rfl e189
                refine ⟨hb7.cani 1 rfl rfl, thenW_in fun ww190 e190 => ?_⟩
                have hx190 := hx189.x_set (q := ww187.heap.size) (i := 1) rfl (.inr hg7) e190
                have hb1 := hb1.oth (q := ww187.heap.size) (i := 1) rfl hb1_7 e190
                have hb2 := hb2.oth (q := ww187.heap.size) (i := 1) rfl hb2_7 e190
                have hb7 : Blk ww190 ww187.heap.size 49 [.int .i64 Who180, .int .u64 Public181, .int .i64 0, .int .i64 0, .int .i64 0] := hb7.seti 1 rfl e190
                refine ⟨hb7.cani 2 rfl rfl, thenW_in fun ww191 e191 => ?_⟩
                have hx191 := hx190.x_set (q := ww187.heap.size) (i := 2) rfl (.inr hg7) e191
                have hb1 := hb1.oth (q := ww187.heap.size) (i := 2) rfl hb1_7 e191
                have hb2 := hb2.oth (q := ww187.heap.size) (i := 2) rfl hb2_7 e191
                have hb7 : Blk ww191 ww187.heap.size 49 [.int .i64 Who180, .int .u64 Public181, .int .i64 From182, .int .i64 0, .int .i64 0] := hb7.seti 2 rfl e191
                refine ⟨hb7.cani 3 rfl rfl, thenW_in fun ww192 e192 => ?_⟩
                have hx192 := hx191.x_set (q := ww187.heap.size) (i := 3) rfl (.inr hg7) e192
                have hb1 := hb1.oth (q := ww187.heap.size) (i := 3) rfl hb1_7 e192
                have hb2 := hb2.oth (q := ww187.heap.size) (i := 3) rfl hb2_7 e192
                have hb7 : Blk ww192 ww187.heap.size 49 [.int .i64 Who180, .int .u64 Public181, .int .i64 From182, .int .i64 To183, .int .i64 0] := hb7.seti 3 rfl e192
                refine ⟨hb7.cani 4 rfl rfl, thenW_in fun ww193 e193 => ?_⟩
                have hx193 := hx192.x_set (q := ww187.heap.size) (i := 4) rfl (.inr hg7) e193
                have hb1 := hb1.oth (q := ww187.heap.size) (i := 4) rfl hb1_7 e193
                have hb2 := hb2.oth (q := ww187.heap.size) (i := 4) rfl hb2_7 e193
                have hb7 : Blk ww193 ww187.heap.size 49 [.int .i64 Who180, .int .u64 Public181, .int .i64 From182, .int .i64 To183, .int .i64 Limit184] := hb7.seti 4 rfl e193
                refine ⟨L31a, L31n, L31c, Epoch32, ⟨hb2.celli 0 rfl rfl, hb2.celli 1 rfl rfl, trivial⟩, ?_⟩
                have h := h ww193 (ww187.heap.size) hx193 (Priv.cons hg7 hb7.lt Priv.nil)
                refine h.mono fun ee201 ww202 h => ?_
                obtain ⟨Who195, Public196, From197, To198, Limit199, find200, he, hk, h⟩ := h
                refine ⟨Who195, Public196, From197, To198, Limit199, find200, he, ?_⟩
                have hb1 := hk.blk hb1 (by simp)
                have hb2 := hk.blk hb2 (by simp)
                have hb7 := hk.blk hb7 (by simp)
                refine thenW_in fun ww203 e203 => ?_
                have hb8 := Blk.of_new e203
                have hg8 := ((Ext.refl no ww202)).size
                have hb1_8 := Nat.ne_of_lt hb1.lt
                have hb1 := hb1.x_alloc e203
                have hb2_8 := Nat.ne_of_lt hb2.lt
                have hb2 := hb2.x_alloc e203
                have hb7_8 := Nat.ne_of_lt hb7.lt
                have hb7 := hb7.x_alloc e203
                have hx203 := (Ext.refl no ww202).x_alloc e203
                refine ⟨hb8.cani 0 rfl rfl, thenW_in fun ww204 e204 => ?_⟩
                have hx204 := hx203.x_set (q := ww202.heap.size) (i := 0) rfl (.inr hg8) e204
                have hb1 := hb1.oth (q := ww202.heap.size) (i := 0) rfl hb1_8 e204
                have hb2 := hb2.oth (q := ww202.heap.size) (i := 0) rfl hb2_8 e204
                have hb7 := hb7.oth (q := ww202.heap.size) (i := 0) rfl hb7_8 e204
                have hb8 : Blk ww204 ww202.heap.size 52 [.int .i64 Who195, .int .u64 0, .int .i64 0, .int .i64 0, .int .i64 0] := hb8.seti 0 rfl e204
                refine ⟨hb8.cani 1 rfl rfl, thenW_in fun ww205 e205 => ?_⟩
                have hx205 := hx204.x_set (q := ww202.heap.size) (i := 1) rfl (.inr hg8) e205
                have hb1 := hb1.oth (q := ww202.heap.size) (i := 1) rfl hb1_8 e205
                have hb2 := hb2.oth (q := ww202.heap.size) (i := 1) rfl hb2_8 e205
                have hb7 := hb7.oth (q := ww202.heap.size) (i := 1) rfl hb7_8 e205
                have hb8 : Blk ww205 ww202.heap.size 52 [.int .i64 Who195, .int .u64 Public196, .int .i64 0, .int .i64 0, .int .i64 0] := hb8.seti 1 rfl e205
                refine ⟨hb8.cani 2 rfl rfl, thenW_in fun ww206 e206 => ?_⟩
                have hx206 := hx205.x_set (q := ww202.heap.size) (i := 2) rfl (.inr hg8) e206
                have hb1 := hb1.oth (q := ww202.heap.size) (i := 2) rfl hb1_8 e206
                have hb2 := hb2.oth (q := ww202.heap.size) (i := 2) rfl hb2_8 e206
                have hb7 := hb7.oth (q := ww202.heap.size) (i := 2) rfl hb7_8 e206
                have hb8 : Blk ww206 ww202.heap.size 52 [.int .i64 Who195, .int .u64 Public196, .int .i64 From197, .int .i64 0, .int .i64 0] := hb8.seti 2 rfl e206
                refine ⟨hb8.cani 3 rfl rfl, thenW_in fun ww207 e207 => ?_⟩
                have hx207 := hx206.x_set (q := ww202.heap.size) (i := 3) rfl (.inr hg8) e207
                have hb1 := hb1.oth (q := ww202.heap.size) (i := 3) rfl hb1_8 e207
                have hb2 := hb2.oth (q := ww202.heap.size) (i := 3) rfl hb2_8 e207
                have hb7 := hb7.oth (q := ww202.heap.size) (i := 3) rfl hb7_8 e207
                have hb8 : Blk ww207 ww202.heap.size 52 [.int .i64 Who195, .int .u64 Public196, .int .i64 From197, .int .i64 To198, .int .i64 0] := hb8.seti 3 rfl e207
                refine ⟨hb8.cani 4 rfl rfl, thenW_in fun ww208 e208 => ?_⟩
                have hx208 := hx207.x_set (q := ww202.heap.size) (i := 4) rfl (.inr hg8) e208
                have hb1 := hb1.oth (q := ww202.heap.size) (i := 4) rfl hb1_8 e208
                have hb2 := hb2.oth (q := ww202.heap.size) (i := 4) rfl hb2_8 e208
                have hb7 := hb7.oth (q := ww202.heap.size) (i := 4) rfl hb7_8 e208
                have hb8 : Blk ww208 ww202.heap.size 52 [.int .i64 Who195, .int .u64 Public196, .int .i64 From197, .int .i64 To198, .int .i64 Limit199] := hb8.seti 4 rfl e208
                refine thenW_in fun ww209 e209 => ?_
                have hx209 := hx208.x_drew e209
                have hb1 := hb1.x_drew e209
                have hb2 := hb2.x_drew e209
                have hb7 := hb7.x_drew e209
                have hb8 := hb8.x_drew e209
                refine ⟨L29a, L29n, L29c, Epoch30, ⟨hb1.celli 0 rfl rfl, hb1.celli 1 rfl rfl, trivial⟩, ?_⟩
                refine ⟨L31a, L31n, L31c, Epoch32, ⟨hb2.celli 0 rfl rfl, hb2.celli 1 rfl rfl, trivial⟩, ?_⟩
                have h := h ww209 (ww202.heap.size) hx209 (Priv.cons hg8 hb8.lt Priv.nil)
                refine h.mono fun ee212 ww213 h => ?_
                obtain ⟨now211a, now211n, now211c, he, hk, h⟩ := h
                refine ⟨now211a, now211n, now211c, he, ?_⟩
                have hb1 := hk.blk hb1 (by simp)
                have hb2 := hk.blk hb2 (by simp)
                have hb7 := hk.blk hb7 (by simp)
                have hb8 := hk.blk hb8 (by simp)
                refine ⟨⟨hb2.celli 0 rfl rfl, hb2.celli 1 rfl rfl, trivial⟩, ?_⟩
                refine h.mono fun ee215 ww216 h => ?_
                obtain ⟨now214a, now214n, now214c, he, hk, h⟩ := h
                refine ⟨now214a, now214n, now214c, he, ?_⟩
                have hb1 := hk.blk hb1 (by simp)
                have hb2 := hk.blk hb2 (by simp)
                have hb7 := hk.blk hb7 (by simp)
                have hb8 := hk.blk hb8 (by simp)
                refine thenW_in fun ww217 e217 => ?_
                have hx217 := (Ext.refl no ww216).x_drew e217
                have hb1 := hb1.x_drew e217
                have hb2 := hb2.x_drew e217
                have hb7 := hb7.x_drew e217
                have hb8 := hb8.x_drew e217
                refine ⟨Who180, Public181, From182, To183, Limit184, ⟨hb7.celli 0 rfl rfl, hb7.celli 1 rfl rfl, hb7.celli 2 rfl rfl, hb7.celli 3 rfl rfl, hb7.celli 4 rfl rfl, trivial⟩, ?_⟩
                refine ⟨Who195, Public196, From197, To198, Limit199, ⟨hb8.celli 0 rfl rfl, hb8.celli 1 rfl rfl, hb8.celli 2 rfl rfl, hb8.celli 3 rfl rfl, hb8.celli 4 rfl rfl, trivial⟩, ?_⟩
                refine (cachettelaw12_member.pure Who180 Public181 From182 To183 Limit184).mono fun ee ww218 ⟨he, hxx⟩ => ⟨((cachettelaw12_member.F Who180 Public181 From182 To183 Limit184).1), ((cachettelaw12_member.F Who180 Public181 From182 To183 Limit184).2.1), ((cachettelaw12_member.F Who180 Public181 From182 To183 Limit184).2.2.1), ((cachettelaw12_member.F Who180 Public181 From182 To183 Limit184).2.2.2.1), ((cachettelaw12_member.F Who180 Public181 From182 To183 Limit184).2.2.2.2), he, ?_⟩
                have hx218 := hx217.trans hxx
                have hb1 := hb1.ext hxx id
                have hb2 := hb2.ext hxx id
                have hb8 := hb8.ext hxx id
                refine ⟨⟨hb8.celli 0 rfl rfl, hb8.celli 1 rfl rfl, hb8.celli 2 rfl rfl, hb8.celli 3 rfl rfl, hb8.celli 4 rfl rfl, trivial⟩, ?_⟩
                refine ⟨_, eqT52_ne ((cachettelaw12_member.F Who180 Public181 From182 To183 Limit184).1) ((cachettelaw12_member.F Who180 Public181 From182 To183 Limit184).2.1) ((cachettelaw12_member.F Who180 Public181 From182 To183 Limit184).2.2.1) ((cachettelaw12_member.F Who180 Public181 From182 To183 Limit184).2.2.2.1) ((cachettelaw12_member.F Who180 Public181 From182 To183 Limit184).2.2.2.2) Who195 Public196 From197 To198 Limit199 _, ?_⟩
                refine bif_of (fun c219 => ?_) (fun c219 => ?_)
                · have h := h.1 (of_decide_eq_false (not_t c219))
                  have h := h ww218 hx218
                  exact h
                · have h := h.2 (of_decide_eq_true (not_f c219))
                  refine bif_of (fun c220 => ?_) (fun c220 => ?_)
                  · have h := h.1 (bbeq_f (not_t c220))
                    have h := h ww218 hx218
                    exact h
                  · have h := h.2 (bbeq_t (not_f c220))
                    refine bif_of (fun c221 => ?_) (fun c221 => ?_)
                    · have h := h.1 (bne_t c221)
                      have h := h ww218 hx218
                      exact h
                    · have h := h.2 (bne_f c221)
                      have h := h ww218 hx218
                      obtain ⟨I2, m223, h0, h⟩ := h
                      refine ⟨fun k vs ww => Blk ww ww18.heap.size 28 [.slice L29a L29n L29c, .int .i64 Epoch30] ∧ Blk ww ww19.heap.size 45 [.slice L31a L31n L31c, .int .i64 Epoch32] ∧ I2 k vs ww, m223, ⟨hb1, hb2, h0⟩, fun m224 ww225 k222 hI => ?_⟩
                      obtain ⟨hb1, hb2, hI⟩ := hI
                      have h := h m224 ww225 k222 hI
                      refine bif_of (fun c226 => ?_) (fun c226 => ?_)
                      · have h := h.1 (of_decide_eq_true c226)
                        refine thenW_in fun ww227 e227 => ?_
                        have hx227 := (Ext.refl no ww225).x_drew e227
                        have hb1 := hb1.x_drew e227
                        have hb2 := hb2.x_drew e227
                        obtain ⟨a228, ha228, h⟩ := h
                        refine elim_some ha228 ?_
                        obtain ⟨hq1, hq2, h⟩ := h
                        refine ⟨hq1, hq2, ?_⟩
                        obtain ⟨xWho230, xPublic231, xFrom232, xTo233, xLimit234, hc229, h⟩ := h
                        refine ⟨xWho230, xPublic231, xFrom232, xTo233, xLimit234, cellsAt_no (hx227) hc229, ?_⟩
                        obtain ⟨a235, ha235, h⟩ := h
                        refine elim_some ha235 ?_
                        obtain ⟨hq1, hq2, h⟩ := h
                        refine ⟨hq1, hq2, ?_⟩
                        obtain ⟨xWho237, xPublic238, xFrom239, xTo240, xLimit241, hc236, h⟩ := h
                        refine ⟨xWho237, xPublic238, xFrom239, xTo240, xLimit241, cellsAt_no (hx227) hc236, ?_⟩
                        refine (cachettelaw12_member.pure xWho230 xPublic231 xFrom232 xTo233 xLimit234).mono fun ee ww242 ⟨he, hxx⟩ => ⟨((cachettelaw12_member.F xWho230 xPublic231 xFrom232 xTo233 xLimit234).1), ((cachettelaw12_member.F xWho230 xPublic231 xFrom232 xTo233 xLimit234).2.1), ((cachettelaw12_member.F xWho230 xPublic231 xFrom232 xTo233 xLimit234).2.2.1), ((cachettelaw12_member.F xWho230 xPublic231 xFrom232 xTo233 xLimit234).2.2.2.1), ((cachettelaw12_member.F xWho230 xPublic231 xFrom232 xTo233 xLimit234).2.2.2.2), he, ?_⟩
                        have hx242 := hx227.trans hxx
                        have hb1 := hb1.ext hxx id
                        have hb2 := hb2.ext hxx id
                        refine ⟨cellsAt_no (hx242) hc236, ?_⟩
                        refine ⟨_, eqT52_ne ((cachettelaw12_member.F xWho230 xPublic231 xFrom232 xTo233 xLimit234).1) ((cachettelaw12_member.F xWho230 xPublic231 xFrom232 xTo233 xLimit234).2.1) ((cachettelaw12_member.F xWho230 xPublic231 xFrom232 xTo233 xLimit234).2.2.1) ((cachettelaw12_member.F xWho230 xPublic231 xFrom232 xTo233 xLimit234).2.2.2.1) ((cachettelaw12_member.F xWho230 xPublic231 xFrom232 xTo233 xLimit234).2.2.2.2) xWho237 xPublic238 xFrom239 xTo240 xLimit241 _, ?_⟩
                        refine bif_of (fun c243 => ?_) (fun c243 => ?_)
                        · have h := h.1 (of_decide_eq_false (not_t c243))
                          have h := h ww242 hx242
                          exact h
                        · have h := h.2 (of_decide_eq_true (not_f c243))
                          obtain ⟨hw1, hw2, h⟩ := h
                          try rw [w64 hw1 hw2]
                          have h := h ww242 hx242
                          obtain ⟨m244, hk, h⟩ := h
                          exact ⟨m244, hk, hb1, hb2, h⟩
                      · have h := h.2 (Int.not_lt.1 (of_decide_eq_false c226))
                        obtain ⟨hw1, hw2, h⟩ := h
                        try rw [w64 hw1 hw2]
                        obtain ⟨m245, hk, h⟩ := h
                        exact ⟨m245, hk, L29a, L29n, L29c, Epoch30, L31a, L31n, L31c, Epoch32, hb1, hb2, h⟩
        · refine thenW_in fun ww85 e85 => ?_
          have hb4 := Blk.of_new e85
          have hg4 := ((Ext.refl no ww76)).size
          have hb1_4 := Nat.ne_of_lt hb1.lt
          have hb1 := hb1.x_alloc e85
          have hb2_4 := Nat.ne_of_lt hb2.lt
          have hb2 := hb2.x_alloc e85
          have hb3_4 := Nat.ne_of_lt hb3.lt
          have hb3 := hb3.x_alloc e85
          have hx85 := (Ext.refl no ww76).x_alloc e85
          refine ⟨cellsAt_no (hx85) hc78, ⟨hb2.celli 0 rfl rfl, hb2.celli 1 rfl rfl, trivial⟩, ?_⟩
          have h := h ww85 [ww76.heap.size] hx85 (Priv.cons hg4 hb4.lt Priv.nil)
          refine h.mono fun ee91 ww92 h => ?_
          obtain ⟨L88a, L88n, L88c, Epoch89, apply90, he, hkL, hk, h⟩ := h
          refine ⟨L88a, L88n, L88c, Epoch89, apply90, he, ?_⟩
          have hb4 := hkL.blk hb4 (by simp)
          have hb1 := hk.blk hb1 (by simp)
          have hb2 := hk.blk hb2 (by simp)
          have hb3 := hk.blk hb3 (by simp)
          refine ⟨hb4.cani 0 rfl rfl, thenW_in fun ww93 e93 => ?_⟩
          have hx93 := (Ext.refl (fun b => b ∈ ([ww76.heap.size] : List Nat)) ww92).x_set (q := ww76.heap.size) (i := 0) rfl (.inl (by simp)) e93
          have hb1 := hb1.oth (q := ww76.heap.size) (i := 0) rfl hb1_4 e93
          have hb2 := hb2.oth (q := ww76.heap.size) (i := 0) rfl hb2_4 e93
          have hb3 := hb3.oth (q := ww76.heap.size) (i := 0) rfl hb3_4 e93
          have hb4 := hb4.seti 0 rfl e93
          refine ⟨hb4.cani 1 rfl rfl, thenW_in fun ww94 e94 => ?_⟩
          have hx94 := hx93.x_set (q := ww76.heap.size) (i := 1) rfl (.inl (by simp)) e94
          have hb1 := hb1.oth (q := ww76.heap.size) (i := 1) rfl hb1_4 e94
          have hb2 := hb2.oth (q := ww76.heap.size) (i := 1) rfl hb2_4 e94
          have hb3 := hb3.oth (q := ww76.heap.size) (i := 1) rfl hb3_4 e94
          have hb4 := hb4.seti 1 rfl e94
          refine thenW_in fun ww95 e95 => ?_
          have hx95 := hx94.x_drew e95
          have hb1 := hb1.x_drew e95
          have hb2 := hb2.x_drew e95
          have hb3 := hb3.x_drew e95
          have hb4 := hb4.x_drew e95
          refine bif_of (fun c96 => ?_) (fun c96 => ?_)
          · have h := h.1 (bne_t c96)
            have h := h ww95 hx95
            exact h
          · have h := h.2 (bne_f c96)
            refine ⟨L69a, L69n, L69c, Epoch70, ⟨hb3.celli 0 rfl rfl, hb3.celli 1 rfl rfl, trivial⟩, ?_⟩
            refine ⟨L88a, L88n, L88c, Epoch89, ⟨hb4.celli 0 rfl rfl, hb4.celli 1 rfl rfl, trivial⟩, ?_⟩
            have h := h ww95 (ww76.heap.size) hx95 (PrivJ.cons (.inl (by simp)) hb4.lt PrivJ.nil)
            refine h.mono fun ee102 ww103 h => ?_
            obtain ⟨L100a, L100n, L100c, Epoch101, he, hk, h⟩ := h
            refine ⟨L100a, L100n, L100c, Epoch101, he, ?_⟩
            have hb1 := hk.blk hb1 (by simp)
            have hb2 := hk.blk hb2 (by simp)
            have hb3 := hk.blk hb3 (by simp)
            have hb4 := hk.blk hb4 (by simp)
            refine ⟨⟨hb4.celli 0 rfl rfl, hb4.celli 1 rfl rfl, trivial⟩, ?_⟩
            refine h.mono fun ee105 ww106 h => ?_
            obtain ⟨same104, he, hk, h⟩ := h
            refine ⟨same104, he, ?_⟩
            have hb1 := hk.blk hb1 (by simp)
            have hb2 := hk.blk hb2 (by simp)
            have hb3 := hk.blk hb3 (by simp)
            have hb4 := hk.blk hb4 (by simp)
            refine bif_of (fun c107 => ?_) (fun c107 => ?_)
            · have h := h.1 (not_t c107)
              exact h
            · have h := h.2 (not_f c107)
              refine bif_of (fun c108 => ?_) (fun c108 => ?_)
              · have h := h.1 (beq_t c108)
                refine thenW_in fun ww109 e109 => ?_
                have hx109 := (Ext.refl no ww106).x_drew e109
                have hb1 := hb1.x_drew e109
                have hb2 := hb2.x_drew e109
                have hb3 := hb3.x_drew e109
                have hb4 := hb4.x_drew e109
                refine ⟨L69a, L69n, L69c, Epoch70, ⟨hb3.celli 0 rfl rfl, hb3.celli 1 rfl rfl, trivial⟩, ?_⟩
                refine ⟨L88a, L88n, L88c, Epoch89, ⟨hb4.celli 0 rfl rfl, hb4.celli 1 rfl rfl, trivial⟩, ?_⟩
                have hm111 : Ext (fun b => b = ww18.heap.size) ww106 ww109 := (hx109).none
                refine ⟨hb1.cani 0 rfl rfl, thenW_in fun ww110 e110 => ?_⟩
                have hx110 := hm111.x_set (q := ww18.heap.size) (i := 0) rfl (.inl rfl) e110
                have hb1 := hb1.seti 0 rfl e110
                have hb2 := hb2.oth (q := ww18.heap.size) (i := 0) rfl (Ne.symm hb1_2) e110
                have hb4 := hb4.oth (q := ww18.heap.size) (i := 0) rfl (Ne.symm hb1_4) e110
                refine ⟨hb1.cani 1 rfl rfl, thenW_in fun ww111 e111 => ?_⟩
                have hx111 := hx110.x_set (q := ww18.heap.size) (i := 1) rfl (.inl rfl) e111
                have hb1 := hb1.seti 1 rfl e111
                have hb2 := hb2.oth (q := ww18.heap.size) (i := 1) rfl (Ne.symm hb1_2) e111
                have hb4 := hb4.oth (q := ww18.heap.size) (i := 1) rfl (Ne.symm hb1_4) e111
                refine ⟨⟨hb4.celli 0 rfl rfl, hb4.celli 1 rfl rfl, trivial⟩, ?_⟩
                have hm113 : Ext (fun b => b = ww19.heap.size ∨ b = ww18.heap.size) ww106 ww111 := (hx111).mono fun _ h _ => .inr h
                refine ⟨hb2.cani 0 rfl rfl, thenW_in fun ww112 e112 => ?_⟩
                have hx112 := hm113.x_set (q := ww19.heap.size) (i := 0) rfl (.inl (.inl rfl)) e112
                have hb1 := hb1.oth (q := ww19.heap.size) (i := 0) rfl hb1_2 e112
                have hb2 := hb2.seti 0 rfl e112
                refine ⟨hb2.cani 1 rfl rfl, thenW_in fun ww113 e113 => ?_⟩
                have hx113 := hx112.x_set (q := ww19.heap.size) (i := 1) rfl (.inl (.inl rfl)) e113
                have hb1 := hb1.oth (q := ww19.heap.size) (i := 1) rfl hb1_2 e113
                have hb2 := hb2.seti 1 rfl e113
                refine ⟨L69a, L69n, L69c, Epoch70, ⟨hb1.celli 0 rfl rfl, hb1.celli 1 rfl rfl, trivial⟩, ?_⟩
                have h := h ww113 hx113
                refine h.mono fun ee120 ww121 h => ?_
                obtain ⟨Who114, Public115, From116, To117, Limit118, find119, he, hk, h⟩ := h
                refine ⟨Who114, Public115, From116, To117, Limit118, find119, he, ?_⟩
                have hb1 := hk.blk hb1 (by simp)
                have hb2 := hk.blk hb2 (by simp)
                refine thenW_in fun ww122 e122 => ?_
                have hb5 := Blk.of_new e122
                have hg5 := ((Ext.refl no ww121)).size
                have hb1_5 := Nat.ne_of_lt hb1.lt
                have hb1 := hb1.x_alloc e122
                have hb2_5 := Nat.ne_of_lt hb2.lt
                have hb2 := hb2.x_alloc e122
                have hx122 := (Ext.refl no ww121).x_alloc e122
                refine ⟨hb5.cani 0 rfl rfl, thenW_in fun ww123 e123 => ?_⟩
                have hx123 := hx122.x_set (q := ww121.heap.size) (i := 0) rfl (.inr hg5) e123
                have hb1 := hb1.oth (q := ww121.heap.size) (i := 0) rfl hb1_5 e123
                have hb2 := hb2.oth (q := ww121.heap.size) (i := 0) rfl hb2_5 e123
                have hb5 : Blk ww123 ww121.heap.size 49 [.int .i64 Who114, .int .u64 0, .int .i64 0, .int .i64 0, .int .i64 0] := hb5.seti 0 rfl e123
                refine ⟨hb5.cani 1 rfl rfl, thenW_in fun ww124 e124 => ?_⟩
                have hx124 := hx123.x_set (q := ww121.heap.size) (i := 1) rfl (.inr hg5) e124
                have hb1 := hb1.oth (q := ww121.heap.size) (i := 1) rfl hb1_5 e124
                have hb2 := hb2.oth (q := ww121.heap.size) (i := 1) rfl hb2_5 e124
                have hb5 : Blk ww124 ww121.heap.size 49 [.int .i64 Who114, .int .u64 Public115, .int .i64 0, .int .i64 0, .int .i64 0] := hb5.seti 1 rfl e124
                refine ⟨hb5.cani 2 rfl rfl, thenW_in fun ww125 e125 => ?_⟩
                have hx125 := hx124.x_set (q := ww121.heap.size) (i := 2) rfl (.inr hg5) e125
                have hb1 := hb1.oth (q := ww121.heap.size) (i := 2) rfl hb1_5 e125
                have hb2 := hb2.oth (q := ww121.heap.size) (i := 2) rfl hb2_5 e125
                have hb5 : Blk ww125 ww121.heap.size 49 [.int .i64 Who114, .int .u64 Public115, .int .i64 From116, .int .i64 0, .int .i64 0] := hb5.seti 2 rfl e125
                refine ⟨hb5.cani 3 rfl rfl, thenW_in fun ww126 e126 => ?_⟩
                have hx126 := hx125.x_set (q := ww121.heap.size) (i := 3) rfl (.inr hg5) e126
                have hb1 := hb1.oth (q := ww121.heap.size) (i := 3) rfl hb1_5 e126
                have hb2 := hb2.oth (q := ww121.heap.size) (i := 3) rfl hb2_5 e126
                have hb5 : Blk ww126 ww121.heap.size 49 [.int .i64 Who114, .int .u64 Public115, .int .i64 From116, .int .i64 To117, .int .i64 0] := hb5.seti 3 rfl e126
                refine ⟨hb5.cani 4 rfl rfl, thenW_in fun ww127 e127 => ?_⟩
                have hx127 := hx126.x_set (q := ww121.heap.size) (i := 4) rfl (.inr hg5) e127
                have hb1 := hb1.oth (q := ww121.heap.size) (i := 4) rfl hb1_5 e127
                have hb2 := hb2.oth (q := ww121.heap.size) (i := 4) rfl hb2_5 e127
                have hb5 : Blk ww127 ww121.heap.size 49 [.int .i64 Who114, .int .u64 Public115, .int .i64 From116, .int .i64 To117, .int .i64 Limit118] := hb5.seti 4 rfl e127
                refine ⟨L88a, L88n, L88c, Epoch89, ⟨hb2.celli 0 rfl rfl, hb2.celli 1 rfl rfl, trivial⟩, ?_⟩
                have h := h ww127 (ww121.heap.size) hx127 (Priv.cons hg5 hb5.lt Priv.nil)
                refine h.mono fun ee135 ww136 h => ?_
                obtain ⟨Who129, Public130, From131, To132, Limit133, find134, he, hk, h⟩ := h
                refine ⟨Who129, Public130, From131, To132, Limit133, find134, he, ?_⟩
                have hb1 := hk.blk hb1 (by simp)
                have hb2 := hk.blk hb2 (by simp)
                have hb5 := hk.blk hb5 (by simp)
                refine thenW_in fun ww137 e137 => ?_
                have hb6 := Blk.of_new e137
                have hg6 := ((Ext.refl no ww136)).size
                have hb1_6 := Nat.ne_of_lt hb1.lt
                have hb1 := hb1.x_alloc e137
                have hb2_6 := Nat.ne_of_lt hb2.lt
                have hb2 := hb2.x_alloc e137
                have hb5_6 := Nat.ne_of_lt hb5.lt
                have hb5 := hb5.x_alloc e137
                have hx137 := (Ext.refl no ww136).x_alloc e137
                refine ⟨hb6.cani 0 rfl rfl, thenW_in fun ww138 e138 => ?_⟩
                have hx138 := hx137.x_set (q := ww136.heap.size) (i := 0) rfl (.inr hg6) e138
                have hb1 := hb1.oth (q := ww136.heap.size) (i := 0) rfl hb1_6 e138
                have hb2 := hb2.oth (q := ww136.heap.size) (i := 0) rfl hb2_6 e138
                have hb5 := hb5.oth (q := ww136.heap.size) (i := 0) rfl hb5_6 e138
                have hb6 : Blk ww138 ww136.heap.size 52 [.int .i64 Who129, .int .u64 0, .int .i64 0, .int .i64 0, .int .i64 0] := hb6.seti 0 rfl e138
                refine ⟨hb6.cani 1 rfl rfl, thenW_in fun ww139 e139 => ?_⟩
                have hx139 := hx138.x_set (q := ww136.heap.size) (i := 1) rfl (.inr hg6) e139
                have hb1 := hb1.oth (q := ww136.heap.size) (i := 1) rfl hb1_6 e139
                have hb2 := hb2.oth (q := ww136.heap.size) (i := 1) rfl hb2_6 e139
                have hb5 := hb5.oth (q := ww136.heap.size) (i := 1) rfl hb5_6 e139
                have hb6 : Blk ww139 ww136.heap.size 52 [.int .i64 Who129, .int .u64 Public130, .int .i64 0, .int .i64 0, .int .i64 0] := hb6.seti 1 rfl e139
                refine ⟨hb6.cani 2 rfl rfl, thenW_in fun ww140 e140 => ?_⟩
                have hx140 := hx139.x_set (q := ww136.heap.size) (i := 2) rfl (.inr hg6) e140
                have hb1 := hb1.oth (q := ww136.heap.size) (i := 2) rfl hb1_6 e140
                have hb2 := hb2.oth (q := ww136.heap.size) (i := 2) rfl hb2_6 e140
                have hb5 := hb5.oth (q := ww136.heap.size) (i := 2) rfl hb5_6 e140
                have hb6 : Blk ww140 ww136.heap.size 52 [.int .i64 Who129, .int .u64 Public130, .int .i64 From131, .int .i64 0, .int .i64 0] := hb6.seti 2 rfl e140
                refine ⟨hb6.cani 3 rfl rfl, thenW_in fun ww141 e141 => ?_⟩
                have hx141 := hx140.x_set (q := ww136.heap.size) (i := 3) rfl (.inr hg6) e141
                have hb1 := hb1.oth (q := ww136.heap.size) (i := 3) rfl hb1_6 e141
                have hb2 := hb2.oth (q := ww136.heap.size) (i := 3) rfl hb2_6 e141
                have hb5 := hb5.oth (q := ww136.heap.size) (i := 3) rfl hb5_6 e141
                have hb6 : Blk ww141 ww136.heap.size 52 [.int .i64 Who129, .int .u64 Public130, .int .i64 From131, .int .i64 To132, .int .i64 0] := hb6.seti 3 rfl e141
                refine ⟨hb6.cani 4 rfl rfl, thenW_in fun ww142 e142 => ?_⟩
                have hx142 := hx141.x_set (q := ww136.heap.size) (i := 4) rfl (.inr hg6) e142
                have hb1 := hb1.oth (q := ww136.heap.size) (i := 4) rfl hb1_6 e142
                have hb2 := hb2.oth (q := ww136.heap.size) (i := 4) rfl hb2_6 e142
                have hb5 := hb5.oth (q := ww136.heap.size) (i := 4) rfl hb5_6 e142
                have hb6 : Blk ww142 ww136.heap.size 52 [.int .i64 Who129, .int .u64 Public130, .int .i64 From131, .int .i64 To132, .int .i64 Limit133] := hb6.seti 4 rfl e142
                refine thenW_in fun ww143 e143 => ?_
                have hx143 := hx142.x_drew e143
                have hb1 := hb1.x_drew e143
                have hb2 := hb2.x_drew e143
                have hb5 := hb5.x_drew e143
                have hb6 := hb6.x_drew e143
                refine ⟨L69a, L69n, L69c, Epoch70, ⟨hb1.celli 0 rfl rfl, hb1.celli 1 rfl rfl, trivial⟩, ?_⟩
                refine ⟨L88a, L88n, L88c, Epoch89, ⟨hb2.celli 0 rfl rfl, hb2.celli 1 rfl rfl, trivial⟩, ?_⟩
                have h := h ww143 (ww136.heap.size) hx143 (Priv.cons hg6 hb6.lt Priv.nil)
                refine h.mono fun ee146 ww147 h => ?_
                obtain ⟨now145a, now145n, now145c, he, hk, h⟩ := h
                refine ⟨now145a, now145n, now145c, he, ?_⟩
                have hb1 := hk.blk hb1 (by simp)
                have hb2 := hk.blk hb2 (by simp)
                have hb5 := hk.blk hb5 (by simp)
                have hb6 := hk.blk hb6 (by simp)
                refine ⟨⟨hb2.celli 0 rfl rfl, hb2.celli 1 rfl rfl, trivial⟩, ?_⟩
                refine h.mono fun ee149 ww150 h => ?_
                obtain ⟨now148a, now148n, now148c, he, hk, h⟩ := h
                refine ⟨now148a, now148n, now148c, he, ?_⟩
                have hb1 := hk.blk hb1 (by simp)
                have hb2 := hk.blk hb2 (by simp)
                have hb5 := hk.blk hb5 (by simp)
                have hb6 := hk.blk hb6 (by simp)
                refine thenW_in fun ww151 e151 => ?_
                have hx151 := (Ext.refl no ww150).x_drew e151
                have hb1 := hb1.x_drew e151
                have hb2 := hb2.x_drew e151
                have hb5 := hb5.x_drew e151
                have hb6 := hb6.x_drew e151
                refine ⟨Who114, Public115, From116, To117, Limit118, ⟨hb5.celli 0 rfl rfl, hb5.celli 1 rfl rfl, hb5.celli 2 rfl rfl, hb5.celli 3 rfl rfl, hb5.celli 4 rfl rfl, trivial⟩, ?_⟩
                refine ⟨Who129, Public130, From131, To132, Limit133, ⟨hb6.celli 0 rfl rfl, hb6.celli 1 rfl rfl, hb6.celli 2 rfl rfl, hb6.celli 3 rfl rfl, hb6.celli 4 rfl rfl, trivial⟩, ?_⟩
                refine (cachettelaw12_member.pure Who114 Public115 From116 To117 Limit118).mono fun ee ww152 ⟨he, hxx⟩ => ⟨((cachettelaw12_member.F Who114 Public115 From116 To117 Limit118).1), ((cachettelaw12_member.F Who114 Public115 From116 To117 Limit118).2.1), ((cachettelaw12_member.F Who114 Public115 From116 To117 Limit118).2.2.1), ((cachettelaw12_member.F Who114 Public115 From116 To117 Limit118).2.2.2.1), ((cachettelaw12_member.F Who114 Public115 From116 To117 Limit118).2.2.2.2), he, ?_⟩
                have hx152 := hx151.trans hxx
                have hb1 := hb1.ext hxx id
                have hb2 := hb2.ext hxx id
                have hb6 := hb6.ext hxx id
                refine ⟨⟨hb6.celli 0 rfl rfl, hb6.celli 1 rfl rfl, hb6.celli 2 rfl rfl, hb6.celli 3 rfl rfl, hb6.celli 4 rfl rfl, trivial⟩, ?_⟩
                refine ⟨_, eqT52_ne ((cachettelaw12_member.F Who114 Public115 From116 To117 Limit118).1) ((cachettelaw12_member.F Who114 Public115 From116 To117 Limit118).2.1) ((cachettelaw12_member.F Who114 Public115 From116 To117 Limit118).2.2.1) ((cachettelaw12_member.F Who114 Public115 From116 To117 Limit118).2.2.2.1) ((cachettelaw12_member.F Who114 Public115 From116 To117 Limit118).2.2.2.2) Who129 Public130 From131 To132 Limit133 _, ?_⟩
                refine bif_of (fun c153 => ?_) (fun c153 => ?_)
                · have h := h.1 (of_decide_eq_false (not_t c153))
                  have h := h ww152 hx152
                  exact h
                · have h := h.2 (of_decide_eq_true (not_f c153))
                  refine bif_of (fun c154 => ?_) (fun c154 => ?_)
                  · have h := h.1 (bbeq_f (not_t c154))
                    have h := h ww152 hx152
                    exact h
                  · have h := h.2 (bbeq_t (not_f c154))
                    refine bif_of (fun c155 => ?_) (fun c155 => ?_)
                    · have h := h.1 (bne_t c155)
                      have h := h ww152 hx152
                      exact h
                    · have h := h.2 (bne_f c155)
                      have h := h ww152 hx152
                      obtain ⟨I2, m157, h0, h⟩ := h
                      refine ⟨fun k vs ww => Blk ww ww18.heap.size 28 [.slice L69a L69n L69c, .int .i64 Epoch70] ∧ Blk ww ww19.heap.size 45 [.slice L88a L88n L88c, .int .i64 Epoch89] ∧ I2 k vs ww, m157, ⟨hb1, hb2, h0⟩, fun m158 ww159 k156 hI => ?_⟩
                      obtain ⟨hb1, hb2, hI⟩ := hI
                      have h := h m158 ww159 k156 hI
                      refine bif_of (fun c160 => ?_) (fun c160 => ?_)
                      · have h := h.1 (of_decide_eq_true c160)
                        refine thenW_in fun ww161 e161 => ?_
                        have hx161 := (Ext.refl no ww159).x_drew e161
                        have hb1 := hb1.x_drew e161
                        have hb2 := hb2.x_drew e161
                        obtain ⟨a162, ha162, h⟩ := h
                        refine elim_some ha162 ?_
                        obtain ⟨hq1, hq2, h⟩ := h
                        refine ⟨hq1, hq2, ?_⟩
                        obtain ⟨xWho164, xPublic165, xFrom166, xTo167, xLimit168, hc163, h⟩ := h
                        refine ⟨xWho164, xPublic165, xFrom166, xTo167, xLimit168, cellsAt_no (hx161) hc163, ?_⟩
                        obtain ⟨a169, ha169, h⟩ := h
                        refine elim_some ha169 ?_
                        obtain ⟨hq1, hq2, h⟩ := h
                        refine ⟨hq1, hq2, ?_⟩
                        obtain ⟨xWho171, xPublic172, xFrom173, xTo174, xLimit175, hc170, h⟩ := h
                        refine ⟨xWho171, xPublic172, xFrom173, xTo174, xLimit175, cellsAt_no (hx161) hc170, ?_⟩
                        refine (cachettelaw12_member.pure xWho164 xPublic165 xFrom166 xTo167 xLimit168).mono fun ee ww176 ⟨he, hxx⟩ => ⟨((cachettelaw12_member.F xWho164 xPublic165 xFrom166 xTo167 xLimit168).1), ((cachettelaw12_member.F xWho164 xPublic165 xFrom166 xTo167 xLimit168).2.1), ((cachettelaw12_member.F xWho164 xPublic165 xFrom166 xTo167 xLimit168).2.2.1), ((cachettelaw12_member.F xWho164 xPublic165 xFrom166 xTo167 xLimit168).2.2.2.1), ((cachettelaw12_member.F xWho164 xPublic165 xFrom166 xTo167 xLimit168).2.2.2.2), he, ?_⟩
                        have hx176 := hx161.trans hxx
                        have hb1 := hb1.ext hxx id
                        have hb2 := hb2.ext hxx id
                        refine ⟨cellsAt_no (hx176) hc170, ?_⟩
                        refine ⟨_, eqT52_ne ((cachettelaw12_member.F xWho164 xPublic165 xFrom166 xTo167 xLimit168).1) ((cachettelaw12_member.F xWho164 xPublic165 xFrom166 xTo167 xLimit168).2.1) ((cachettelaw12_member.F xWho164 xPublic165 xFrom166 xTo167 xLimit168).2.2.1) ((cachettelaw12_member.F xWho164 xPublic165 xFrom166 xTo167 xLimit168).2.2.2.1) ((cachettelaw12_member.F xWho164 xPublic165 xFrom166 xTo167 xLimit168).2.2.2.2) xWho171 xPublic172 xFrom173 xTo174 xLimit175 _, ?_⟩
                        refine bif_of (fun c177 => ?_) (fun c177 => ?_)
                        · have h := h.1 (of_decide_eq_false (not_t c177))
                          have h := h ww176 hx176
                          exact h
                        · have h := h.2 (of_decide_eq_true (not_f c177))
                          obtain ⟨hw1, hw2, h⟩ := h
                          try rw [w64 hw1 hw2]
                          have h := h ww176 hx176
                          obtain ⟨m178, hk, h⟩ := h
                          exact ⟨m178, hk, hb1, hb2, h⟩
                      · have h := h.2 (Int.not_lt.1 (of_decide_eq_false c160))
                        obtain ⟨hw1, hw2, h⟩ := h
                        try rw [w64 hw1 hw2]
                        obtain ⟨m179, hk, h⟩ := h
                        exact ⟨m179, hk, L69a, L69n, L69c, Epoch70, L88a, L88n, L88c, Epoch89, hb1, hb2, h⟩
              · have h := h.2 (beq_f c108)
                refine ⟨L29a, L29n, L29c, Epoch30, ⟨hb1.celli 0 rfl rfl, hb1.celli 1 rfl rfl, trivial⟩, ?_⟩
                refine h.mono fun ee186 ww187 h => ?_
                obtain ⟨Who180, Public181, From182, To183, Limit184, find185, he, hk, h⟩ := h
                refine ⟨Who180, Public181, From182, To183, Limit184, find185, he, ?_⟩
                have hb1 := hk.blk hb1 (by simp)
                have hb2 := hk.blk hb2 (by simp)
                refine thenW_in fun ww188 e188 => ?_
                have hb7 := Blk.of_new e188
                have hg7 := ((Ext.refl no ww187)).size
                have hb1_7 := Nat.ne_of_lt hb1.lt
                have hb1 := hb1.x_alloc e188
                have hb2_7 := Nat.ne_of_lt hb2.lt
                have hb2 := hb2.x_alloc e188
                have hx188 := (Ext.refl no ww187).x_alloc e188
                refine ⟨hb7.cani 0 rfl rfl, thenW_in fun ww189 e189 => ?_⟩
                have hx189 := hx188.x_set (q := ww187.heap.size) (i := 0) rfl (.inr hg7) e189
                have hb1 := hb1.oth (q := ww187.heap.size) (i := 0) rfl hb1_7 e189
                have hb2 := hb2.oth (q := ww187.heap.size) (i := 0) rfl hb2_7 e189
                have hb7 : Blk ww189 ww187.heap.size 49 [.int .i64 Who180, .int .u64 0, .int .i64 0, .int .i64 0, .int .i64 0] := hb7.seti 0 rfl e189
                refine ⟨hb7.cani 1 rfl rfl, thenW_in fun ww190 e190 => ?_⟩
                have hx190 := hx189.x_set (q := ww187.heap.size) (i := 1) rfl (.inr hg7) e190
                have hb1 := hb1.oth (q := ww187.heap.size) (i := 1) rfl hb1_7 e190
                have hb2 := hb2.oth (q := ww187.heap.size) (i := 1) rfl hb2_7 e190
                have hb7 : Blk ww190 ww187.heap.size 49 [.int .i64 Who180, .int .u64 Public181, .int .i64 0, .int .i64 0, .int .i64 0] := hb7.seti 1 rfl e190
                refine ⟨hb7.cani 2 rfl rfl, thenW_in fun ww191 e191 => ?_⟩
                have hx191 := hx190.x_set (q := ww187.heap.size) (i := 2) rfl (.inr hg7) e191
                have hb1 := hb1.oth (q := ww187.heap.size) (i := 2) rfl hb1_7 e191
                have hb2 := hb2.oth (q := ww187.heap.size) (i := 2) rfl hb2_7 e191
                have hb7 : Blk ww191 ww187.heap.size 49 [.int .i64 Who180, .int .u64 Public181, .int .i64 From182, .int .i64 0, .int .i64 0] := hb7.seti 2 rfl e191
                refine ⟨hb7.cani 3 rfl rfl, thenW_in fun ww192 e192 => ?_⟩
                have hx192 := hx191.x_set (q := ww187.heap.size) (i := 3) rfl (.inr hg7) e192
                have hb1 := hb1.oth (q := ww187.heap.size) (i := 3) rfl hb1_7 e192
                have hb2 := hb2.oth (q := ww187.heap.size) (i := 3) rfl hb2_7 e192
                have hb7 : Blk ww192 ww187.heap.size 49 [.int .i64 Who180, .int .u64 Public181, .int .i64 From182, .int .i64 To183, .int .i64 0] := hb7.seti 3 rfl e192
                refine ⟨hb7.cani 4 rfl rfl, thenW_in fun ww193 e193 => ?_⟩
                have hx193 := hx192.x_set (q := ww187.heap.size) (i := 4) rfl (.inr hg7) e193
                have hb1 := hb1.oth (q := ww187.heap.size) (i := 4) rfl hb1_7 e193
                have hb2 := hb2.oth (q := ww187.heap.size) (i := 4) rfl hb2_7 e193
                have hb7 : Blk ww193 ww187.heap.size 49 [.int .i64 Who180, .int .u64 Public181, .int .i64 From182, .int .i64 To183, .int .i64 Limit184] := hb7.seti 4 rfl e193
                refine ⟨L31a, L31n, L31c, Epoch32, ⟨hb2.celli 0 rfl rfl, hb2.celli 1 rfl rfl, trivial⟩, ?_⟩
                have h := h ww193 (ww187.heap.size) hx193 (Priv.cons hg7 hb7.lt Priv.nil)
                refine h.mono fun ee201 ww202 h => ?_
                obtain ⟨Who195, Public196, From197, To198, Limit199, find200, he, hk, h⟩ := h
                refine ⟨Who195, Public196, From197, To198, Limit199, find200, he, ?_⟩
                have hb1 := hk.blk hb1 (by simp)
                have hb2 := hk.blk hb2 (by simp)
                have hb7 := hk.blk hb7 (by simp)
                refine thenW_in fun ww203 e203 => ?_
                have hb8 := Blk.of_new e203
                have hg8 := ((Ext.refl no ww202)).size
                have hb1_8 := Nat.ne_of_lt hb1.lt
                have hb1 := hb1.x_alloc e203
                have hb2_8 := Nat.ne_of_lt hb2.lt
                have hb2 := hb2.x_alloc e203
                have hb7_8 := Nat.ne_of_lt hb7.lt
                have hb7 := hb7.x_alloc e203
                have hx203 := (Ext.refl no ww202).x_alloc e203
                refine ⟨hb8.cani 0 rfl rfl, thenW_in fun ww204 e204 => ?_⟩
                have hx204 := hx203.x_set (q := ww202.heap.size) (i := 0) rfl (.inr hg8) e204
                have hb1 := hb1.oth (q := ww202.heap.size) (i := 0) rfl hb1_8 e204
                have hb2 := hb2.oth (q := ww202.heap.size) (i := 0) rfl hb2_8 e204
                have hb7 := hb7.oth (q := ww202.heap.size) (i := 0) rfl hb7_8 e204
                have hb8 : Blk ww204 ww202.heap.size 52 [.int .i64 Who195, .int .u64 0, .int .i64 0, .int .i64 0, .int .i64 0] := hb8.seti 0 rfl e204
                refine ⟨hb8.cani 1 rfl rfl, thenW_in fun ww205 e205 => ?_⟩
                have hx205 := hx204.x_set (q := ww202.heap.size) (i := 1) rfl (.inr hg8) e205
                have hb1 := hb1.oth (q := ww202.heap.size) (i := 1) rfl hb1_8 e205
                have hb2 := hb2.oth (q := ww202.heap.size) (i := 1) rfl hb2_8 e205
                have hb7 := hb7.oth (q := ww202.heap.size) (i := 1) rfl hb7_8 e205
                have hb8 : Blk ww205 ww202.heap.size 52 [.int .i64 Who195, .int .u64 Public196, .int .i64 0, .int .i64 0, .int .i64 0] := hb8.seti 1 rfl e205
                refine ⟨hb8.cani 2 rfl rfl, thenW_in fun ww206 e206 => ?_⟩
                have hx206 := hx205.x_set (q := ww202.heap.size) (i := 2) rfl (.inr hg8) e206
                have hb1 := hb1.oth (q := ww202.heap.size) (i := 2) rfl hb1_8 e206
                have hb2 := hb2.oth (q := ww202.heap.size) (i := 2) rfl hb2_8 e206
                have hb7 := hb7.oth (q := ww202.heap.size) (i := 2) rfl hb7_8 e206
                have hb8 : Blk ww206 ww202.heap.size 52 [.int .i64 Who195, .int .u64 Public196, .int .i64 From197, .int .i64 0, .int .i64 0] := hb8.seti 2 rfl e206
                refine ⟨hb8.cani 3 rfl rfl, thenW_in fun ww207 e207 => ?_⟩
                have hx207 := hx206.x_set (q := ww202.heap.size) (i := 3) rfl (.inr hg8) e207
                have hb1 := hb1.oth (q := ww202.heap.size) (i := 3) rfl hb1_8 e207
                have hb2 := hb2.oth (q := ww202.heap.size) (i := 3) rfl hb2_8 e207
                have hb7 := hb7.oth (q := ww202.heap.size) (i := 3) rfl hb7_8 e207
                have hb8 : Blk ww207 ww202.heap.size 52 [.int .i64 Who195, .int .u64 Public196, .int .i64 From197, .int .i64 To198, .int .i64 0] := hb8.seti 3 rfl e207
                refine ⟨hb8.cani 4 rfl rfl, thenW_in fun ww208 e208 => ?_⟩
                have hx208 := hx207.x_set (q := ww202.heap.size) (i := 4) rfl (.inr hg8) e208
                have hb1 := hb1.oth (q := ww202.heap.size) (i := 4) rfl hb1_8 e208
                have hb2 := hb2.oth (q := ww202.heap.size) (i := 4) rfl hb2_8 e208
                have hb7 := hb7.oth (q := ww202.heap.size) (i := 4) rfl hb7_8 e208
                have hb8 : Blk ww208 ww202.heap.size 52 [.int .i64 Who195, .int .u64 Public196, .int .i64 From197, .int .i64 To198, .int .i64 Limit199] := hb8.seti 4 rfl e208
                refine thenW_in fun ww209 e209 => ?_
                have hx209 := hx208.x_drew e209
                have hb1 := hb1.x_drew e209
                have hb2 := hb2.x_drew e209
                have hb7 := hb7.x_drew e209
                have hb8 := hb8.x_drew e209
                refine ⟨L29a, L29n, L29c, Epoch30, ⟨hb1.celli 0 rfl rfl, hb1.celli 1 rfl rfl, trivial⟩, ?_⟩
                refine ⟨L31a, L31n, L31c, Epoch32, ⟨hb2.celli 0 rfl rfl, hb2.celli 1 rfl rfl, trivial⟩, ?_⟩
                have h := h ww209 (ww202.heap.size) hx209 (Priv.cons hg8 hb8.lt Priv.nil)
                refine h.mono fun ee212 ww213 h => ?_
                obtain ⟨now211a, now211n, now211c, he, hk, h⟩ := h
                refine ⟨now211a, now211n, now211c, he, ?_⟩
                have hb1 := hk.blk hb1 (by simp)
                have hb2 := hk.blk hb2 (by simp)
                have hb7 := hk.blk hb7 (by simp)
                have hb8 := hk.blk hb8 (by simp)
                refine ⟨⟨hb2.celli 0 rfl rfl, hb2.celli 1 rfl rfl, trivial⟩, ?_⟩
                refine h.mono fun ee215 ww216 h => ?_
                obtain ⟨now214a, now214n, now214c, he, hk, h⟩ := h
                refine ⟨now214a, now214n, now214c, he, ?_⟩
                have hb1 := hk.blk hb1 (by simp)
                have hb2 := hk.blk hb2 (by simp)
                have hb7 := hk.blk hb7 (by simp)
                have hb8 := hk.blk hb8 (by simp)
                refine thenW_in fun ww217 e217 => ?_
                have hx217 := (Ext.refl no ww216).x_drew e217
                have hb1 := hb1.x_drew e217
                have hb2 := hb2.x_drew e217
                have hb7 := hb7.x_drew e217
                have hb8 := hb8.x_drew e217
                refine ⟨Who180, Public181, From182, To183, Limit184, ⟨hb7.celli 0 rfl rfl, hb7.celli 1 rfl rfl, hb7.celli 2 rfl rfl, hb7.celli 3 rfl rfl, hb7.celli 4 rfl rfl, trivial⟩, ?_⟩
                refine ⟨Who195, Public196, From197, To198, Limit199, ⟨hb8.celli 0 rfl rfl, hb8.celli 1 rfl rfl, hb8.celli 2 rfl rfl, hb8.celli 3 rfl rfl, hb8.celli 4 rfl rfl, trivial⟩, ?_⟩
                refine (cachettelaw12_member.pure Who180 Public181 From182 To183 Limit184).mono fun ee ww218 ⟨he, hxx⟩ => ⟨((cachettelaw12_member.F Who180 Public181 From182 To183 Limit184).1), ((cachettelaw12_member.F Who180 Public181 From182 To183 Limit184).2.1), ((cachettelaw12_member.F Who180 Public181 From182 To183 Limit184).2.2.1), ((cachettelaw12_member.F Who180 Public181 From182 To183 Limit184).2.2.2.1), ((cachettelaw12_member.F Who180 Public181 From182 To183 Limit184).2.2.2.2), he, ?_⟩
                have hx218 := hx217.trans hxx
                have hb1 := hb1.ext hxx id
                have hb2 := hb2.ext hxx id
                have hb8 := hb8.ext hxx id
                refine ⟨⟨hb8.celli 0 rfl rfl, hb8.celli 1 rfl rfl, hb8.celli 2 rfl rfl, hb8.celli 3 rfl rfl, hb8.celli 4 rfl rfl, trivial⟩, ?_⟩
                refine ⟨_, eqT52_ne ((cachettelaw12_member.F Who180 Public181 From182 To183 Limit184).1) ((cachettelaw12_member.F Who180 Public181 From182 To183 Limit184).2.1) ((cachettelaw12_member.F Who180 Public181 From182 To183 Limit184).2.2.1) ((cachettelaw12_member.F Who180 Public181 From182 To183 Limit184).2.2.2.1) ((cachettelaw12_member.F Who180 Public181 From182 To183 Limit184).2.2.2.2) Who195 Public196 From197 To198 Limit199 _, ?_⟩
                refine bif_of (fun c219 => ?_) (fun c219 => ?_)
                · have h := h.1 (of_decide_eq_false (not_t c219))
                  have h := h ww218 hx218
                  exact h
                · have h := h.2 (of_decide_eq_true (not_f c219))
                  refine bif_of (fun c220 => ?_) (fun c220 => ?_)
                  · have h := h.1 (bbeq_f (not_t c220))
                    have h := h ww218 hx218
                    exact h
                  · have h := h.2 (bbeq_t (not_f c220))
                    refine bif_of (fun c221 => ?_) (fun c221 => ?_)
                    · have h := h.1 (bne_t c221)
                      have h := h ww218 hx218
                      exact h
                    · have h := h.2 (bne_f c221)
                      have h := h ww218 hx218
                      obtain ⟨I2, m223, h0, h⟩ := h
                      refine ⟨fun k vs ww => Blk ww ww18.heap.size 28 [.slice L29a L29n L29c, .int .i64 Epoch30] ∧ Blk ww ww19.heap.size 45 [.slice L31a L31n L31c, .int .i64 Epoch32] ∧ I2 k vs ww, m223, ⟨hb1, hb2, h0⟩, fun m224 ww225 k222 hI => ?_⟩
                      obtain ⟨hb1, hb2, hI⟩ := hI
                      have h := h m224 ww225 k222 hI
                      refine bif_of (fun c226 => ?_) (fun c226 => ?_)
                      · have h := h.1 (of_decide_eq_true c226)
                        refine thenW_in fun ww227 e227 => ?_
                        have hx227 := (Ext.refl no ww225).x_drew e227
                        have hb1 := hb1.x_drew e227
                        have hb2 := hb2.x_drew e227
                        obtain ⟨a228, ha228, h⟩ := h
                        refine elim_some ha228 ?_
                        obtain ⟨hq1, hq2, h⟩ := h
                        refine ⟨hq1, hq2, ?_⟩
                        obtain ⟨xWho230, xPublic231, xFrom232, xTo233, xLimit234, hc229, h⟩ := h
                        refine ⟨xWho230, xPublic231, xFrom232, xTo233, xLimit234, cellsAt_no (hx227) hc229, ?_⟩
                        obtain ⟨a235, ha235, h⟩ := h
                        refine elim_some ha235 ?_
                        obtain ⟨hq1, hq2, h⟩ := h
                        refine ⟨hq1, hq2, ?_⟩
                        obtain ⟨xWho237, xPublic238, xFrom239, xTo240, xLimit241, hc236, h⟩ := h
                        refine ⟨xWho237, xPublic238, xFrom239, xTo240, xLimit241, cellsAt_no (hx227) hc236, ?_⟩
                        refine (cachettelaw12_member.pure xWho230 xPublic231 xFrom232 xTo233 xLimit234).mono fun ee ww242 ⟨he, hxx⟩ => ⟨((cachettelaw12_member.F xWho230 xPublic231 xFrom232 xTo233 xLimit234).1), ((cachettelaw12_member.F xWho230 xPublic231 xFrom232 xTo233 xLimit234).2.1), ((cachettelaw12_member.F xWho230 xPublic231 xFrom232 xTo233 xLimit234).2.2.1), ((cachettelaw12_member.F xWho230 xPublic231 xFrom232 xTo233 xLimit234).2.2.2.1), ((cachettelaw12_member.F xWho230 xPublic231 xFrom232 xTo233 xLimit234).2.2.2.2), he, ?_⟩
                        have hx242 := hx227.trans hxx
                        have hb1 := hb1.ext hxx id
                        have hb2 := hb2.ext hxx id
                        refine ⟨cellsAt_no (hx242) hc236, ?_⟩
                        refine ⟨_, eqT52_ne ((cachettelaw12_member.F xWho230 xPublic231 xFrom232 xTo233 xLimit234).1) ((cachettelaw12_member.F xWho230 xPublic231 xFrom232 xTo233 xLimit234).2.1) ((cachettelaw12_member.F xWho230 xPublic231 xFrom232 xTo233 xLimit234).2.2.1) ((cachettelaw12_member.F xWho230 xPublic231 xFrom232 xTo233 xLimit234).2.2.2.1) ((cachettelaw12_member.F xWho230 xPublic231 xFrom232 xTo233 xLimit234).2.2.2.2) xWho237 xPublic238 xFrom239 xTo240 xLimit241 _, ?_⟩
                        refine bif_of (fun c243 => ?_) (fun c243 => ?_)
                        · have h := h.1 (of_decide_eq_false (not_t c243))
                          have h := h ww242 hx242
                          exact h
                        · have h := h.2 (of_decide_eq_true (not_f c243))
                          obtain ⟨hw1, hw2, h⟩ := h
                          try rw [w64 hw1 hw2]
                          have h := h ww242 hx242
                          obtain ⟨m244, hk, h⟩ := h
                          exact ⟨m244, hk, hb1, hb2, h⟩
                      · have h := h.2 (Int.not_lt.1 (of_decide_eq_false c226))
                        obtain ⟨hw1, hw2, h⟩ := h
                        try rw [w64 hw1 hw2]
                        obtain ⟨m245, hk, h⟩ := h
                        exact ⟨m245, hk, L29a, L29n, L29c, Epoch30, L31a, L31n, L31c, Epoch32, hb1, hb2, h⟩
    · have h := h.2 (Int.not_lt.1 (of_decide_eq_false c36))
      refine h.mono fun ee252 ww253 h => ?_
      obtain ⟨L248a, L248n, L248c, Epoch249, behind250, behind251, he, h⟩ := h
      refine ⟨L248a, L248n, L248c, Epoch249, behind250, behind251, he, ?_⟩
      refine thenW_in fun ww254 e254 => ?_
      have hb9 := Blk.of_new e254
      have hg9 := ((Ext.refl no ww253)).size
      have hx254 := (Ext.refl no ww253).x_alloc e254
      refine ⟨hb9.cani 0 rfl rfl, thenW_in fun ww255 e255 => ?_⟩
      have hx255 := hx254.x_set (q := ww253.heap.size) (i := 0) rfl (.inr hg9) e255
      have hb9 := hb9.seti 0 rfl e255
      refine ⟨hb9.cani 1 rfl rfl, thenW_in fun ww256 e256 => ?_⟩
      have hx256 := hx255.x_set (q := ww253.heap.size) (i := 1) rfl (.inr hg9) e256
      have hb9 := hb9.seti 1 rfl e256
      have h := h ww256 (ww253.heap.size) hx256 (Priv.cons hg9 hb9.lt Priv.nil)
      refine h.mono fun ee262 ww263 h => ?_
      obtain ⟨L258a, L258n, L258c, Epoch259, behind260, behind261, he, hk, h⟩ := h
      refine ⟨L258a, L258n, L258c, Epoch259, behind260, behind261, he, ?_⟩
      have hb9 := hk.blk hb9 (by simp)
      refine thenW_in fun ww264 e264 => ?_
      have hb10 := Blk.of_new e264
      have hg10 := ((Ext.refl no ww263)).size
      have hb9_10 := Nat.ne_of_lt hb9.lt
      have hb9 := hb9.x_alloc e264
      have hx264 := (Ext.refl no ww263).x_alloc e264
      refine ⟨hb10.cani 0 rfl rfl, thenW_in fun ww265 e265 => ?_⟩
      have hx265 := hx264.x_set (q := ww263.heap.size) (i := 0) rfl (.inr hg10) e265
      have hb9 := hb9.oth (q := ww263.heap.size) (i := 0) rfl hb9_10 e265
      have hb10 := hb10.seti 0 rfl e265
      refine ⟨hb10.cani 1 rfl rfl, thenW_in fun ww266 e266 => ?_⟩
      have hx266 := hx265.x_set (q := ww263.heap.size) (i := 1) rfl (.inr hg10) e266
      have hb9 := hb9.oth (q := ww263.heap.size) (i := 1) rfl hb9_10 e266
      have hb10 := hb10.seti 1 rfl e266
      refine thenW_in fun ww267 e267 => ?_
      have hx267 := hx266.x_drew e267
      have hb9 := hb9.x_drew e267
      have hb10 := hb10.x_drew e267
      refine ⟨L248a, L248n, L248c, Epoch249, ⟨hb9.celli 0 rfl rfl, hb9.celli 1 rfl rfl, trivial⟩, ?_⟩
      refine ⟨L258a, L258n, L258c, Epoch259, ⟨hb10.celli 0 rfl rfl, hb10.celli 1 rfl rfl, trivial⟩, ?_⟩
      have h := h ww267 (ww263.heap.size) hx267 (Priv.cons hg10 hb10.lt Priv.nil)
      refine h.mono fun ee271 ww272 h => ?_
      obtain ⟨L269a, L269n, L269c, Epoch270, he, hk, h⟩ := h
      refine ⟨L269a, L269n, L269c, Epoch270, he, ?_⟩
      have hb10 := hk.blk hb10 (by simp)
      refine ⟨⟨hb10.celli 0 rfl rfl, hb10.celli 1 rfl rfl, trivial⟩, ?_⟩
      refine h.mono fun ee274 ww275 h => ?_
      obtain ⟨same273, he, h⟩ := h
      refine ⟨same273, he, ?_⟩
      refine bif_of (fun c276 => ?_) (fun c276 => ?_)
      · have h := h.1 c276
        refine bif_of (fun c277 => ?_) (fun c277 => ?_)
        · have h := h.1 (beq_t c277)
          refine bif_of (fun c278 => ?_) (fun c278 => ?_)
          · have h := h.1 (beq_t c278)
            refine h.mono fun ee280 ww281 h => ?_
            obtain ⟨alive279, he, h⟩ := h
            refine ⟨alive279, he, ?_⟩
            exact h
          · have h := h.2 (beq_f c278)
            exact h
        · have h := h.2 (beq_f c277)
          exact h
      · have h := h.2 c276
        exact h

theorem cachettelaw12_MembersPlays.go (publicv1 : Int) (l2a : Option Addr) (l2n : Nat) (l2c : Nat) (wv3 : Int) {R : Value → World → Prop} {w : World} (h : cachettelaw12_MembersPlays.N publicv1 l2a l2n l2c wv3 R w) : Calls Try.prog 5 #[.int .u64 publicv1, .slice l2a l2n l2c, .int .i64 wv3] w fun e w' => ∃ v, e = .returned v ∧ R v w' := cachettelaw12_MembersPlays.ok publicv1 l2a l2n l2c wv3 (cachettelaw12_MembersPlays.up publicv1 l2a l2n l2c wv3 h)
theorem cachettelaw12_MembersPlays.run (publicv1 : Int) (l2a : Option Addr) (l2n : Nat) (l2c : Nat) (wv3 : Int) {V : Value} {Q : World → Prop} {w : World} (h : cachettelaw12_MembersPlays.N publicv1 l2a l2n l2c wv3 (fun v w' => v = V ∧ Q w') w) : Calls Try.prog 5 #[.int .u64 publicv1, .slice l2a l2n l2c, .int .i64 wv3] w (Ret V Q) := (cachettelaw12_MembersPlays.go publicv1 l2a l2n l2c wv3 h).mono fun e w' ⟨v, he, hv, hq⟩ => ⟨by rw [he, hv], hq⟩

end Go.Proofs.Ytmhfoieeldiecaa

