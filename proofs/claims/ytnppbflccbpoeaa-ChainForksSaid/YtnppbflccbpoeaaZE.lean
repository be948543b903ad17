/- ChainStays, ChainForks, ChainHeads: predicates. -/
import Derived.Test.YtnppbflccbpoeaaZD
set_option linter.unusedVariables false
set_option linter.unusedSimpArgs false
set_option maxRecDepth 20000
set_option maxHeartbeats 2000000
namespace Go.Proofs.Ytnppbflccbpoeaa
open Go Go.Mx Go.Proofs
open W (OwnB GivesW numR countR doneR zig unzig intR)
/-- cachettelaw07.ChainForks -/
def cachettelaw07_ChainForks.M (l1a : Option Addr) (l1n : Nat) (l1c : Nat) (atv2 : Int) (body3a : Option Addr) (body3n : Nat) (body3c : Nat) (R : Value → World → Prop) (w : World) : Prop :=
  Calls Try.prog 9 #[.slice none 0 0, .slice l1a l1n l1c] w fun ee5 ww6 => ∃ (light4 : Bool), ee5 = .returned (.bool light4) ∧
  bif !light4 then (
  Calls Try.prog 10 #[] ww6 fun ee8 ww9 => ∃ (alive7 : Bool), ee8 = .returned (.bool alive7) ∧
  R (.bool alive7) ww9) else (
  bif decide ((body3n : Int) > 1000) then (
  Calls Try.prog 10 #[] ww6 fun ee11 ww12 => ∃ (alive10 : Bool), ee11 = .returned (.bool alive10) ∧
  R (.bool alive10) ww12) else (
  Calls Try.prog 11 #[.slice none 0 0] ww6 fun ee14 ww15 => ∃ (new13 : Option Addr), ee14 = .returned (.pointer new13) ∧
  Calls Try.prog 12 #[.pointer new13] ww15 fun ee18 ww19 => ∃ (pair16 : Int) (pair17 : Int), ee18 = .returned (.tuple #[.int .u64 pair16, .int .u64 pair17]) ∧
  Calls Try.prog 13 #[.pointer new13, .int .i64 1, .int .u64 pair17] ww19 fun ee22 ww23 => ∃ (new20 : Option Addr) (new21 : Int), ee22 = .returned (.tuple #[.pointer new20, .int .i64 new21]) ∧
  Calls Try.prog 13 #[.pointer new13, .int .i64 1, .int .u64 pair17] ww23 fun ee26 ww27 => ∃ (new24 : Option Addr) (new25 : Int), ee26 = .returned (.tuple #[.pointer new24, .int .i64 new25]) ∧
  ∃ (I0 : Nat → List Value → World → Prop) (m30 : Nat), I0 m30 [.slice none 0 0, .int .i64 0] ww27 ∧ ∀ (m31 : Nat) (ww32 : World) (all28a : Option Addr) (all28n : Nat) (all28c : Nat) (n29 : Int), I0 m31 [.slice all28a all28n all28c, .int .i64 n29] ww32 →
  bif decide (n29 < (l1n : Int)) then (
  thenW (ww32.drew) fun ww33 =>
  l1a.elim False fun a34 =>
  0 ≤ (n29 : Int) ∧ (n29 : Int) < (l1n : Int) ∧
  ∃ (T35 : Int), ww33.cell? ((a34.add (Int.toNat n29 * 14)).add 1) = some (.int .i64 T35) ∧
  l1a.elim False fun a36 =>
  0 ≤ (n29 : Int) ∧ (n29 : Int) < (l1n : Int) ∧
  ∃ (Epoch37 : Int), ww33.cell? ((a36.add (Int.toNat n29 * 14)).add 2) = some (.int .i64 Epoch37) ∧
  l1a.elim False fun a38 =>
  0 ≤ (n29 : Int) ∧ (n29 : Int) < (l1n : Int) ∧
  ∃ (Body39a : Option Addr) (Body39n : Nat) (Body39c : Nat), ww33.cell? ((a38.add (Int.toNat n29 * 14)).add 3) = some (.slice Body39a Body39n Body39c) ∧
  (Calls Try.prog 14 #[.pointer new20, .int .u64 pair16, .agg #[.int .i64 T35, .int .i64 1], .int .i64 Epoch37, .slice Body39a Body39n Body39c] ww33 fun ee49 ww50 => ∃ (Writer40 : Int) (Index41 : Int) (Prev42 : Int) (AtT43 : Int) (AtW44 : Int) (Epoch45 : Int) (Body46a : Option Addr) (Body46n : Nat) (Body46c : Nat) (Sig47 : Int) (issue48 : Int), ee49 = .returned (.tuple #[.agg #[.int .i64 Writer40, .int .i64 Index41, .int .u64 Prev42, .int .i64 AtT43, .int .i64 AtW44, .int .i64 Epoch45, .slice Body46a Body46n Body46c, .int .u64 Sig47], .int .i64 issue48]) ∧
  thenW (ww50.alloc (.cells #[.int .i64 0, .int .i64 0, .int .u64 0, .int .i64 0, .int .i64 0, .int .i64 0, .slice none 0 0, .int .u64 0] 39)) fun ww51 =>
  canStore ww51 ((blk ww50.heap.size).add 0) ∧
  thenW (ww51.setCell ((blk ww50.heap.size).add 0) (.int .i64 Writer40)) fun ww52 =>
  canStore ww52 ((blk ww50.heap.size).add 1) ∧
  thenW (ww52.setCell ((blk ww50.heap.size).add 1) (.int .i64 Index41)) fun ww53 =>
  canStore ww53 ((blk ww50.heap.size).add 2) ∧
  thenW (ww53.setCell ((blk ww50.heap.size).add 2) (.int .u64 Prev42)) fun ww54 =>
  canStore ww54 ((blk ww50.heap.size).add 3) ∧
  thenW (ww54.setCell ((blk ww50.heap.size).add 3) (.int .i64 AtT43)) fun ww55 =>
  canStore ww55 ((blk ww50.heap.size).add 4) ∧
  thenW (ww55.setCell ((blk ww50.heap.size).add 4) (.int .i64 AtW44)) fun ww56 =>
  canStore ww56 ((blk ww50.heap.size).add 5) ∧
  thenW (ww56.setCell ((blk ww50.heap.size).add 5) (.int .i64 Epoch45)) fun ww57 =>
  canStore ww57 ((blk ww50.heap.size).add 6) ∧
  thenW (ww57.setCell ((blk ww50.heap.size).add 6) (.slice Body46a Body46n Body46c)) fun ww58 =>
  canStore ww58 ((blk ww50.heap.size).add 7) ∧
  thenW (ww58.setCell ((blk ww50.heap.size).add 7) (.int .u64 Sig47)) fun ww59 =>
  bif issue48 != 0 then (
  ∃ m60, m60 < m31 ∧ I0 m60 [.slice all28a all28n all28c, .int .i64 (IntKind.i64.wrap (n29 + 1))] ww59) else (
  ∃ (xWriter61 : Int) (xIndex62 : Int) (xPrev63 : Int) (xAtT64 : Int) (xAtW65 : Int) (xEpoch66 : Int) (xBody67a : Option Addr) (xBody67n : Nat) (xBody67c : Nat) (xSig68 : Int), cellsAt ww59 (blk ww50.heap.size) [.int .i64 xWriter61, .int .i64 xIndex62, .int .u64 xPrev63, .int .i64 xAtT64, .int .i64 xAtW65, .int .i64 xEpoch66, .slice xBody67a xBody67n xBody67c, .int .u64 xSig68] 0 ∧
  thenW (ww59.alloc (.cells #[.int .i64 xWriter61, .int .i64 xIndex62, .int .u64 xPrev63, .int .i64 xAtT64, .int .i64 xAtW65, .int .i64 xEpoch66, .slice xBody67a xBody67n xBody67c, .int .u64 xSig68] 39)) fun ww69 =>
  ∃ (a70a : Option Addr) (a70n : Nat) (a70c : Nat) (ww71 : World), (Builtin.append_ #[49, 49] 49 #[.slice all28a all28n all28c, .slice (some (blk ww59.heap.size)) 1 1]).run Try.prog ww69 = .ok (.slice a70a a70n a70c) ww71 ∧
  bif decide ((a70n : Int) ≤ atv2) then (
  ∃ (xWriter72 : Int) (xIndex73 : Int) (xPrev74 : Int) (xAtT75 : Int) (xAtW76 : Int) (xEpoch77 : Int) (xBody78a : Option Addr) (xBody78n : Nat) (xBody78c : Nat) (xSig79 : Int), cellsAt ww71 (blk ww50.heap.size) [.int .i64 xWriter72, .int .i64 xIndex73, .int .u64 xPrev74, .int .i64 xAtT75, .int .i64 xAtW76, .int .i64 xEpoch77, .slice xBody78a xBody78n xBody78c, .int .u64 xSig79] 0 ∧
  Calls Try.prog 15 #[.pointer new24, .agg #[.int .i64 xWriter72, .int .i64 xIndex73, .int .u64 xPrev74, .int .i64 xAtT75, .int .i64 xAtW76, .int .i64 xEpoch77, .slice xBody78a xBody78n xBody78c, .int .u64 xSig79]] ww71 fun ee81 ww82 => ∃ (accept80 : Int), ee81 = .returned (.int .i64 accept80) ∧
  ∃ m83, m83 < m31 ∧ I0 m83 [.slice a70a a70n a70c, .int .i64 (IntKind.i64.wrap (n29 + 1))] ww82) else (
  ∃ m84, m84 < m31 ∧ I0 m84 [.slice a70a a70n a70c, .int .i64 (IntKind.i64.wrap (n29 + 1))] ww71))) ∧
  (thenW (ww33.alloc (.cells #[.int .i64 0, .int .i64 0, .int .u64 0, .int .i64 0, .int .i64 0, .int .i64 0, .slice none 0 0, .int .u64 0] 39)) fun ww85 =>
  ww85.cell? ((a38.add (Int.toNat n29 * 14)).add 3) = some (.slice Body39a Body39n Body39c) ∧
  ww85.cell? ((a36.add (Int.toNat n29 * 14)).add 2) = some (.int .i64 Epoch37) ∧
  ww85.cell? ((a34.add (Int.toNat n29 * 14)).add 1) = some (.int .i64 T35) ∧
  Calls Try.prog 14 #[.pointer new20, .int .u64 pair16, .agg #[.int .i64 T35, .int .i64 1], .int .i64 Epoch37, .slice Body39a Body39n Body39c] ww85 fun ee95 ww96 => ∃ (Writer86 : Int) (Index87 : Int) (Prev88 : Int) (AtT89 : Int) (AtW90 : Int) (Epoch91 : Int) (Body92a : Option Addr) (Body92n : Nat) (Body92c : Nat) (Sig93 : Int) (issue94 : Int), ee95 = .returned (.tuple #[.agg #[.int .i64 Writer86, .int .i64 Index87, .int .u64 Prev88, .int .i64 AtT89, .int .i64 AtW90, .int .i64 Epoch91, .slice Body92a Body92n Body92c, .int .u64 Sig93], .int .i64 issue94]) ∧
  canStore ww96 ((blk ww33.heap.size).add 0) ∧
  thenW (ww96.setCell ((blk ww33.heap.size).add 0) (.int .i64 Writer86)) fun ww97 =>
  canStore ww97 ((blk ww33.heap.size).add 1) ∧
  thenW (ww97.setCell ((blk ww33.heap.size).add 1) (.int .i64 Index87)) fun ww98 =>
  canStore ww98 ((blk ww33.heap.size).add 2) ∧
  thenW (ww98.setCell ((blk ww33.heap.size).add 2) (.int .u64 Prev88)) fun ww99 =>
  canStore ww99 ((blk ww33.heap.size).add 3) ∧
  thenW (ww99.setCell ((blk ww33.heap.size).add 3) (.int .i64 AtT89)) fun ww100 =>
  canStore ww100 ((blk ww33.heap.size).add 4) ∧
  thenW (ww100.setCell ((blk ww33.heap.size).add 4) (.int .i64 AtW90)) fun ww101 =>
  canStore ww101 ((blk ww33.heap.size).add 5) ∧
  thenW (ww101.setCell ((blk ww33.heap.size).add 5) (.int .i64 Epoch91)) fun ww102 =>
  canStore ww102 ((blk ww33.heap.size).add 6) ∧
  thenW (ww102.setCell ((blk ww33.heap.size).add 6) (.slice Body92a Body92n Body92c)) fun ww103 =>
  canStore ww103 ((blk ww33.heap.size).add 7) ∧
  thenW (ww103.setCell ((blk ww33.heap.size).add 7) (.int .u64 Sig93)) fun ww104 =>
  bif issue94 != 0 then (
  ∃ m105, m105 < m31 ∧ I0 m105 [.slice all28a all28n all28c, .int .i64 (IntKind.i64.wrap (n29 + 1))] ww104) else (
  ∃ (xWriter106 : Int) (xIndex107 : Int) (xPrev108 : Int) (xAtT109 : Int) (xAtW110 : Int) (xEpoch111 : Int) (xBody112a : Option Addr) (xBody112n : Nat) (xBody112c : Nat) (xSig113 : Int), cellsAt ww104 (blk ww33.heap.size) [.int .i64 xWriter106, .int .i64 xIndex107, .int .u64 xPrev108, .int .i64 xAtT109, .int .i64 xAtW110, .int .i64 xEpoch111, .slice xBody112a xBody112n xBody112c, .int .u64 xSig113] 0 ∧
  thenW (ww104.alloc (.cells #[.int .i64 xWriter106, .int .i64 xIndex107, .int .u64 xPrev108, .int .i64 xAtT109, .int .i64 xAtW110, .int .i64 xEpoch111, .slice xBody112a xBody112n xBody112c, .int .u64 xSig113] 39)) fun ww114 =>
  ∃ (a115a : Option Addr) (a115n : Nat) (a115c : Nat) (ww116 : World), (Builtin.append_ #[49, 49] 49 #[.slice all28a all28n all28c, .slice (some (blk ww104.heap.size)) 1 1]).run Try.prog ww114 = .ok (.slice a115a a115n a115c) ww116 ∧
  bif decide ((a115n : Int) ≤ atv2) then (
  ∃ (xWriter117 : Int) (xIndex118 : Int) (xPrev119 : Int) (xAtT120 : Int) (xAtW121 : Int) (xEpoch122 : Int) (xBody123a : Option Addr) (xBody123n : Nat) (xBody123c : Nat) (xSig124 : Int), cellsAt ww116 (blk ww33.heap.size) [.int .i64 xWriter117, .int .i64 xIndex118, .int .u64 xPrev119, .int .i64 xAtT120, .int .i64 xAtW121, .int .i64 xEpoch122, .slice xBody123a xBody123n xBody123c, .int .u64 xSig124] 0 ∧
  Calls Try.prog 15 #[.pointer new24, .agg #[.int .i64 xWriter117, .int .i64 xIndex118, .int .u64 xPrev119, .int .i64 xAtT120, .int .i64 xAtW121, .int .i64 xEpoch122, .slice xBody123a xBody123n xBody123c, .int .u64 xSig124]] ww116 fun ee126 ww127 => ∃ (accept125 : Int), ee126 = .returned (.int .i64 accept125) ∧
  ∃ m128, m128 < m31 ∧ I0 m128 [.slice a115a a115n a115c, .int .i64 (IntKind.i64.wrap (n29 + 1))] ww127) else (
  ∃ m129, m129 < m31 ∧ I0 m129 [.slice a115a a115n a115c, .int .i64 (IntKind.i64.wrap (n29 + 1))] ww116)))) else (
  bif decide (atv2 < 0) then (
  Calls Try.prog 10 #[] ww32 fun ee131 ww132 => ∃ (alive130 : Bool), ee131 = .returned (.bool alive130) ∧
  R (.bool alive130) ww132) else (
  bif decide (atv2 ≥ (all28n : Int)) then (
  Calls Try.prog 10 #[] ww32 fun ee134 ww135 => ∃ (alive133 : Bool), ee134 = .returned (.bool alive133) ∧
  R (.bool alive133) ww135) else (
  thenW (ww32.drew) fun ww136 =>
  all28a.elim False fun a137 =>
  0 ≤ (atv2 : Int) ∧ (atv2 : Int) < (all28n : Int) ∧
  ∃ (AtT138 : Int) (AtW139 : Int), cellsAt ww136 ((a137.add (Int.toNat atv2 * 8)).add 3) [.int .i64 AtT138, .int .i64 AtW139] 0 ∧
  all28a.elim False fun a140 =>
  0 ≤ (atv2 : Int) ∧ (atv2 : Int) < (all28n : Int) ∧
  ∃ (Epoch141 : Int), ww136.cell? ((a140.add (Int.toNat atv2 * 8)).add 5) = some (.int .i64 Epoch141) ∧
  (Calls Try.prog 14 #[.pointer new24, .int .u64 pair16, .agg #[.int .i64 AtT138, .int .i64 AtW139], .int .i64 Epoch141, .slice body3a body3n body3c] ww136 fun ee151 ww152 => ∃ (Writer142 : Int) (Index143 : Int) (Prev144 : Int) (AtT145 : Int) (AtW146 : Int) (Epoch147 : Int) (Body148a : Option Addr) (Body148n : Nat) (Body148c : Nat) (Sig149 : Int) (issue150 : Int), ee151 = .returned (.tuple #[.agg #[.int .i64 Writer142, .int .i64 Index143, .int .u64 Prev144, .int .i64 AtT145, .int .i64 AtW146, .int .i64 Epoch147, .slice Body148a Body148n Body148c, .int .u64 Sig149], .int .i64 issue150]) ∧
  thenW (ww152.alloc (.cells #[.int .i64 0, .int .i64 0, .int .u64 0, .int .i64 0, .int .i64 0, .int .i64 0, .slice none 0 0, .int .u64 0] 39)) fun ww153 =>
  canStore ww153 ((blk ww152.heap.size).add 0) ∧
  thenW (ww153.setCell ((blk ww152.heap.size).add 0) (.int .i64 Writer142)) fun ww154 =>
  canStore ww154 ((blk ww152.heap.size).add 1) ∧
  thenW (ww154.setCell ((blk ww152.heap.size).add 1) (.int .i64 Index143)) fun ww155 =>
  canStore ww155 ((blk ww152.heap.size).add 2) ∧
  thenW (ww155.setCell ((blk ww152.heap.size).add 2) (.int .u64 Prev144)) fun ww156 =>
  canStore ww156 ((blk ww152.heap.size).add 3) ∧
  thenW (ww156.setCell ((blk ww152.heap.size).add 3) (.int .i64 AtT145)) fun ww157 =>
  canStore ww157 ((blk ww152.heap.size).add 4) ∧
  thenW (ww157.setCell ((blk ww152.heap.size).add 4) (.int .i64 AtW146)) fun ww158 =>
  canStore ww158 ((blk ww152.heap.size).add 5) ∧
  thenW (ww158.setCell ((blk ww152.heap.size).add 5) (.int .i64 Epoch147)) fun ww159 =>
  canStore ww159 ((blk ww152.heap.size).add 6) ∧
  thenW (ww159.setCell ((blk ww152.heap.size).add 6) (.slice Body148a Body148n Body148c)) fun ww160 =>
  canStore ww160 ((blk ww152.heap.size).add 7) ∧
  thenW (ww160.setCell ((blk ww152.heap.size).add 7) (.int .u64 Sig149)) fun ww161 =>
  bif issue150 != 0 then (
  R (.bool false) ww161) else (
  ∃ (xWriter162 : Int) (xIndex163 : Int) (xPrev164 : Int) (xAtT165 : Int) (xAtW166 : Int) (xEpoch167 : Int) (xBody168a : Option Addr) (xBody168n : Nat) (xBody168c : Nat) (xSig169 : Int), cellsAt ww161 (blk ww152.heap.size) [.int .i64 xWriter162, .int .i64 xIndex163, .int .u64 xPrev164, .int .i64 xAtT165, .int .i64 xAtW166, .int .i64 xEpoch167, .slice xBody168a xBody168n xBody168c, .int .u64 xSig169] 0 ∧
  Calls Try.prog 24 #[.pointer new20, .agg #[.int .i64 xWriter162, .int .i64 xIndex163, .int .u64 xPrev164, .int .i64 xAtT165, .int .i64 xAtW166, .int .i64 xEpoch167, .slice xBody168a xBody168n xBody168c, .int .u64 xSig169]] ww161 fun ee187 ww188 => ∃ (Writer170 : Int) (Index171 : Int) (Prev172 : Int) (AtT173 : Int) (AtW174 : Int) (Epoch175 : Int) (Body176a : Option Addr) (Body176n : Nat) (Body176c : Nat) (Sig177 : Int) (Writer178 : Int) (Index179 : Int) (Prev180 : Int) (AtT181 : Int) (AtW182 : Int) (Epoch183 : Int) (Body184a : Option Addr) (Body184n : Nat) (Body184c : Nat) (Sig185 : Int) (odds186 : Bool), ee187 = .returned (.tuple #[.agg #[.int .i64 Writer170, .int .i64 Index171, .int .u64 Prev172, .int .i64 AtT173, .int .i64 AtW174, .int .i64 Epoch175, .slice Body176a Body176n Body176c, .int .u64 Sig177], .agg #[.int .i64 Writer178, .int .i64 Index179, .int .u64 Prev180, .int .i64 AtT181, .int .i64 AtW182, .int .i64 Epoch183, .slice Body184a Body184n Body184c, .int .u64 Sig185], .bool odds186]) ∧
  thenW (ww188.alloc (.cells #[.int .i64 0, .int .i64 0, .int .u64 0, .int .i64 0, .int .i64 0, .int .i64 0, .slice none 0 0, .int .u64 0] 39)) fun ww189 =>
  thenW (ww189.alloc (.cells #[.int .i64 0, .int .i64 0, .int .u64 0, .int .i64 0, .int .i64 0, .int .i64 0, .slice none 0 0, .int .u64 0] 39)) fun ww190 =>
  canStore ww190 ((blk ww188.heap.size).add 0) ∧
  thenW (ww190.setCell ((blk ww188.heap.size).add 0) (.int .i64 Writer170)) fun ww191 =>
  canStore ww191 ((blk ww188.heap.size).add 1) ∧
  thenW (ww191.setCell ((blk ww188.heap.size).add 1) (.int .i64 Index171)) fun ww192 =>
  canStore ww192 ((blk ww188.heap.size).add 2) ∧
  thenW (ww192.setCell ((blk ww188.heap.size).add 2) (.int .u64 Prev172)) fun ww193 =>
  canStore ww193 ((blk ww188.heap.size).add 3) ∧
  thenW (ww193.setCell ((blk ww188.heap.size).add 3) (.int .i64 AtT173)) fun ww194 =>
  canStore ww194 ((blk ww188.heap.size).add 4) ∧
  thenW (ww194.setCell ((blk ww188.heap.size).add 4) (.int .i64 AtW174)) fun ww195 =>
  canStore ww195 ((blk ww188.heap.size).add 5) ∧
  thenW (ww195.setCell ((blk ww188.heap.size).add 5) (.int .i64 Epoch175)) fun ww196 =>
  canStore ww196 ((blk ww188.heap.size).add 6) ∧
  thenW (ww196.setCell ((blk ww188.heap.size).add 6) (.slice Body176a Body176n Body176c)) fun ww197 =>
  canStore ww197 ((blk ww188.heap.size).add 7) ∧
  thenW (ww197.setCell ((blk ww188.heap.size).add 7) (.int .u64 Sig177)) fun ww198 =>
  canStore ww198 ((blk ww189.heap.size).add 0) ∧
  thenW (ww198.setCell ((blk ww189.heap.size).add 0) (.int .i64 Writer178)) fun ww199 =>
  canStore ww199 ((blk ww189.heap.size).add 1) ∧
  thenW (ww199.setCell ((blk ww189.heap.size).add 1) (.int .i64 Index179)) fun ww200 =>
  canStore ww200 ((blk ww189.heap.size).add 2) ∧
  thenW (ww200.setCell ((blk ww189.heap.size).add 2) (.int .u64 Prev180)) fun ww201 =>
  canStore ww201 ((blk ww189.heap.size).add 3) ∧
  thenW (ww201.setCell ((blk ww189.heap.size).add 3) (.int .i64 AtT181)) fun ww202 =>
  canStore ww202 ((blk ww189.heap.size).add 4) ∧
  thenW (ww202.setCell ((blk ww189.heap.size).add 4) (.int .i64 AtW182)) fun ww203 =>
  canStore ww203 ((blk ww189.heap.size).add 5) ∧
  thenW (ww203.setCell ((blk ww189.heap.size).add 5) (.int .i64 Epoch183)) fun ww204 =>
  canStore ww204 ((blk ww189.heap.size).add 6) ∧
  thenW (ww204.setCell ((blk ww189.heap.size).add 6) (.slice Body184a Body184n Body184c)) fun ww205 =>
  canStore ww205 ((blk ww189.heap.size).add 7) ∧
  thenW (ww205.setCell ((blk ww189.heap.size).add 7) (.int .u64 Sig185)) fun ww206 =>
  all28a.elim False fun a207 =>
  0 ≤ (atv2 : Int) ∧ (atv2 : Int) < (all28n : Int) ∧
  ∃ (Body208a : Option Addr) (Body208n : Nat) (Body208c : Nat), ww206.cell? ((a207.add (Int.toNat atv2 * 8)).add 6) = some (.slice Body208a Body208n Body208c) ∧
  Calls Try.prog 25 #[.slice body3a body3n body3c, .slice Body208a Body208n Body208c] ww206 fun ee210 ww211 => ∃ (same209 : Bool), ee210 = .returned (.bool same209) ∧
  bif same209 then (
  bif !odds186 then (
  ∃ (xWriter212 : Int) (xIndex213 : Int) (xPrev214 : Int) (xAtT215 : Int) (xAtW216 : Int) (xEpoch217 : Int) (xBody218a : Option Addr) (xBody218n : Nat) (xBody218c : Nat) (xSig219 : Int), cellsAt ww211 (blk ww152.heap.size) [.int .i64 xWriter212, .int .i64 xIndex213, .int .u64 xPrev214, .int .i64 xAtT215, .int .i64 xAtW216, .int .i64 xEpoch217, .slice xBody218a xBody218n xBody218c, .int .u64 xSig219] 0 ∧
  Calls Try.prog 26 #[.pointer new20, .agg #[.int .i64 xWriter212, .int .i64 xIndex213, .int .u64 xPrev214, .int .i64 xAtT215, .int .i64 xAtW216, .int .i64 xEpoch217, .slice xBody218a xBody218n xBody218c, .int .u64 xSig219]] ww211 fun ee221 ww222 => ∃ (check220 : Int), ee221 = .returned (.int .i64 check220) ∧
  bif check220 == 8 then (
  Calls Try.prog 10 #[] ww222 fun ee224 ww225 => ∃ (alive223 : Bool), ee224 = .returned (.bool alive223) ∧
  R (.bool alive223) ww225) else (
  R (.bool false) ww222)) else (
  R (.bool false) ww211)) else (
  all28a.elim False fun a226 =>
  0 ≤ (atv2 : Int) ∧ (atv2 : Int) < (all28n : Int) ∧
  ∃ (xWriter227 : Int) (xIndex228 : Int) (xPrev229 : Int) (xAtT230 : Int) (xAtW231 : Int) (xEpoch232 : Int) (xBody233a : Option Addr) (xBody233n : Nat) (xBody233c : Nat) (xSig234 : Int), cellsAt ww211 (a226.add (Int.toNat atv2 * 8)) [.int .i64 xWriter227, .int .i64 xIndex228, .int .u64 xPrev229, .int .i64 xAtT230, .int .i64 xAtW231, .int .i64 xEpoch232, .slice xBody233a xBody233n xBody233c, .int .u64 xSig234] 0 ∧
  Calls Try.prog 24 #[.pointer new20, .agg #[.int .i64 xWriter227, .int .i64 xIndex228, .int .u64 xPrev229, .int .i64 xAtT230, .int .i64 xAtW231, .int .i64 xEpoch232, .slice xBody233a xBody233n xBody233c, .int .u64 xSig234]] ww211 fun ee252 ww253 => ∃ (Writer235 : Int) (Index236 : Int) (Prev237 : Int) (AtT238 : Int) (AtW239 : Int) (Epoch240 : Int) (Body241a : Option Addr) (Body241n : Nat) (Body241c : Nat) (Sig242 : Int) (Writer243 : Int) (Index244 : Int) (Prev245 : Int) (AtT246 : Int) (AtW247 : Int) (Epoch248 : Int) (Body249a : Option Addr) (Body249n : Nat) (Body249c : Nat) (Sig250 : Int) (odds251 : Bool), ee252 = .returned (.tuple #[.agg #[.int .i64 Writer235, .int .i64 Index236, .int .u64 Prev237, .int .i64 AtT238, .int .i64 AtW239, .int .i64 Epoch240, .slice Body241a Body241n Body241c, .int .u64 Sig242], .agg #[.int .i64 Writer243, .int .i64 Index244, .int .u64 Prev245, .int .i64 AtT246, .int .i64 AtW247, .int .i64 Epoch248, .slice Body249a Body249n Body249c, .int .u64 Sig250], .bool odds251]) ∧
  thenW (ww253.alloc (.cells #[.int .i64 0, .int .i64 0, .int .u64 0, .int .i64 0, .int .i64 0, .int .i64 0, .slice none 0 0, .int .u64 0] 39)) fun ww254 =>
  thenW (ww254.alloc (.cells #[.int .i64 0, .int .i64 0, .int .u64 0, .int .i64 0, .int .i64 0, .int .i64 0, .slice none 0 0, .int .u64 0] 39)) fun ww255 =>
  canStore ww255 ((blk ww253.heap.size).add 0) ∧
  thenW (ww255.setCell ((blk ww253.heap.size).add 0) (.int .i64 Writer235)) fun ww256 =>
  canStore ww256 ((blk ww253.heap.size).add 1) ∧
  thenW (ww256.setCell ((blk ww253.heap.size).add 1) (.int .i64 Index236)) fun ww257 =>
  canStore ww257 ((blk ww253.heap.size).add 2) ∧
  thenW (ww257.setCell ((blk ww253.heap.size).add 2) (.int .u64 Prev237)) fun ww258 =>
  canStore ww258 ((blk ww253.heap.size).add 3) ∧
  thenW (ww258.setCell ((blk ww253.heap.size).add 3) (.int .i64 AtT238)) fun ww259 =>
  canStore ww259 ((blk ww253.heap.size).add 4) ∧
  thenW (ww259.setCell ((blk ww253.heap.size).add 4) (.int .i64 AtW239)) fun ww260 =>
  canStore ww260 ((blk ww253.heap.size).add 5) ∧
  thenW (ww260.setCell ((blk ww253.heap.size).add 5) (.int .i64 Epoch240)) fun ww261 =>
  canStore ww261 ((blk ww253.heap.size).add 6) ∧
  thenW (ww261.setCell ((blk ww253.heap.size).add 6) (.slice Body241a Body241n Body241c)) fun ww262 =>
  canStore ww262 ((blk ww253.heap.size).add 7) ∧
  thenW (ww262.setCell ((blk ww253.heap.size).add 7) (.int .u64 Sig242)) fun ww263 =>
  canStore ww263 ((blk ww254.heap.size).add 0) ∧
  thenW (ww263.setCell ((blk ww254.heap.size).add 0) (.int .i64 Writer243)) fun ww264 =>
  canStore ww264 ((blk ww254.heap.size).add 1) ∧
  thenW (ww264.setCell ((blk ww254.heap.size).add 1) (.int .i64 Index244)) fun ww265 =>
  canStore ww265 ((blk ww254.heap.size).add 2) ∧
  thenW (ww265.setCell ((blk ww254.heap.size).add 2) (.int .u64 Prev245)) fun ww266 =>
  canStore ww266 ((blk ww254.heap.size).add 3) ∧
  thenW (ww266.setCell ((blk ww254.heap.size).add 3) (.int .i64 AtT246)) fun ww267 =>
  canStore ww267 ((blk ww254.heap.size).add 4) ∧
  thenW (ww267.setCell ((blk ww254.heap.size).add 4) (.int .i64 AtW247)) fun ww268 =>
  canStore ww268 ((blk ww254.heap.size).add 5) ∧
  thenW (ww268.setCell ((blk ww254.heap.size).add 5) (.int .i64 Epoch248)) fun ww269 =>
  canStore ww269 ((blk ww254.heap.size).add 6) ∧
  thenW (ww269.setCell ((blk ww254.heap.size).add 6) (.slice Body249a Body249n Body249c)) fun ww270 =>
  canStore ww270 ((blk ww254.heap.size).add 7) ∧
  thenW (ww270.setCell ((blk ww254.heap.size).add 7) (.int .u64 Sig250)) fun ww271 =>
  thenW (ww271.drew) fun ww272 =>
  bif odds186 then (
  ∃ (xWriter273 : Int) (xIndex274 : Int) (xPrev275 : Int) (xAtT276 : Int) (xAtW277 : Int) (xEpoch278 : Int) (xBody279a : Option Addr) (xBody279n : Nat) (xBody279c : Nat) (xSig280 : Int), cellsAt ww272 (blk ww152.heap.size) [.int .i64 xWriter273, .int .i64 xIndex274, .int .u64 xPrev275, .int .i64 xAtT276, .int .i64 xAtW277, .int .i64 xEpoch278, .slice xBody279a xBody279n xBody279c, .int .u64 xSig280] 0 ∧
  Calls Try.prog 26 #[.pointer new20, .agg #[.int .i64 xWriter273, .int .i64 xIndex274, .int .u64 xPrev275, .int .i64 xAtT276, .int .i64 xAtW277, .int .i64 xEpoch278, .slice xBody279a xBody279n xBody279c, .int .u64 xSig280]] ww272 fun ee282 ww283 => ∃ (check281 : Int), ee282 = .returned (.int .i64 check281) ∧
  bif check281 == 9 then (
  ∃ (xWriter284 : Int) (xIndex285 : Int) (xPrev286 : Int) (xAtT287 : Int) (xAtW288 : Int) (xEpoch289 : Int) (xBody290a : Option Addr) (xBody290n : Nat) (xBody290c : Nat) (xSig291 : Int), cellsAt ww283 (blk ww152.heap.size) [.int .i64 xWriter284, .int .i64 xIndex285, .int .u64 xPrev286, .int .i64 xAtT287, .int .i64 xAtW288, .int .i64 xEpoch289, .slice xBody290a xBody290n xBody290c, .int .u64 xSig291] 0 ∧
  Calls Try.prog 15 #[.pointer new20, .agg #[.int .i64 xWriter284, .int .i64 xIndex285, .int .u64 xPrev286, .int .i64 xAtT287, .int .i64 xAtW288, .int .i64 xEpoch289, .slice xBody290a xBody290n xBody290c, .int .u64 xSig291]] ww283 fun ee293 ww294 => ∃ (accept292 : Int), ee293 = .returned (.int .i64 accept292) ∧
  bif accept292 == 9 then (
  ∃ (xWriter295 : Int) (xIndex296 : Int) (xPrev297 : Int) (xAtT298 : Int) (xAtW299 : Int) (xEpoch300 : Int) (xBody301a : Option Addr) (xBody301n : Nat) (xBody301c : Nat) (xSig302 : Int), cellsAt ww294 (blk ww188.heap.size) [.int .i64 xWriter295, .int .i64 xIndex296, .int .u64 xPrev297, .int .i64 xAtT298, .int .i64 xAtW299, .int .i64 xEpoch300, .slice xBody301a xBody301n xBody301c, .int .u64 xSig302] 0 ∧
  all28a.elim False fun a303 =>
  0 ≤ (atv2 : Int) ∧ (atv2 : Int) < (all28n : Int) ∧
  ∃ (xWriter304 : Int) (xIndex305 : Int) (xPrev306 : Int) (xAtT307 : Int) (xAtW308 : Int) (xEpoch309 : Int) (xBody310a : Option Addr) (xBody310n : Nat) (xBody310c : Nat) (xSig311 : Int), cellsAt ww294 (a303.add (Int.toNat atv2 * 8)) [.int .i64 xWriter304, .int .i64 xIndex305, .int .u64 xPrev306, .int .i64 xAtT307, .int .i64 xAtW308, .int .i64 xEpoch309, .slice xBody310a xBody310n xBody310c, .int .u64 xSig311] 0 ∧
  Calls Try.prog 27 #[.agg #[.int .i64 xWriter295, .int .i64 xIndex296, .int .u64 xPrev297, .int .i64 xAtT298, .int .i64 xAtW299, .int .i64 xEpoch300, .slice xBody301a xBody301n xBody301c, .int .u64 xSig302], .agg #[.int .i64 xWriter304, .int .i64 xIndex305, .int .u64 xPrev306, .int .i64 xAtT307, .int .i64 xAtW308, .int .i64 xEpoch309, .slice xBody310a xBody310n xBody310c, .int .u64 xSig311]] ww294 fun ee313 ww314 => ∃ (same312 : Bool), ee313 = .returned (.bool same312) ∧
  bif same312 then (
  ∃ (xWriter315 : Int) (xIndex316 : Int) (xPrev317 : Int) (xAtT318 : Int) (xAtW319 : Int) (xEpoch320 : Int) (xBody321a : Option Addr) (xBody321n : Nat) (xBody321c : Nat) (xSig322 : Int), cellsAt ww314 (blk ww189.heap.size) [.int .i64 xWriter315, .int .i64 xIndex316, .int .u64 xPrev317, .int .i64 xAtT318, .int .i64 xAtW319, .int .i64 xEpoch320, .slice xBody321a xBody321n xBody321c, .int .u64 xSig322] 0 ∧
  ∃ (xWriter323 : Int) (xIndex324 : Int) (xPrev325 : Int) (xAtT326 : Int) (xAtW327 : Int) (xEpoch328 : Int) (xBody329a : Option Addr) (xBody329n : Nat) (xBody329c : Nat) (xSig330 : Int), cellsAt ww314 (blk ww152.heap.size) [.int .i64 xWriter323, .int .i64 xIndex324, .int .u64 xPrev325, .int .i64 xAtT326, .int .i64 xAtW327, .int .i64 xEpoch328, .slice xBody329a xBody329n xBody329c, .int .u64 xSig330] 0 ∧
  Calls Try.prog 27 #[.agg #[.int .i64 xWriter315, .int .i64 xIndex316, .int .u64 xPrev317, .int .i64 xAtT318, .int .i64 xAtW319, .int .i64 xEpoch320, .slice xBody321a xBody321n xBody321c, .int .u64 xSig322], .agg #[.int .i64 xWriter323, .int .i64 xIndex324, .int .u64 xPrev325, .int .i64 xAtT326, .int .i64 xAtW327, .int .i64 xEpoch328, .slice xBody329a xBody329n xBody329c, .int .u64 xSig330]] ww314 fun ee332 ww333 => ∃ (same331 : Bool), ee332 = .returned (.bool same331) ∧
  bif same331 then (
  Calls Try.prog 28 #[.pointer new20] ww333 fun ee335 ww336 => ∃ (len334 : Int), ee335 = .returned (.int .i64 len334) ∧
  bif len334 == (all28n : Int) then (
  bif !odds251 then (
  Calls Try.prog 10 #[] ww336 fun ee338 ww339 => ∃ (alive337 : Bool), ee338 = .returned (.bool alive337) ∧
  R (.bool alive337) ww339) else (
  R (.bool false) ww336)) else (
  R (.bool false) ww336)) else (
  R (.bool false) ww333)) else (
  R (.bool false) ww314)) else (
  R (.bool false) ww294)) else (
  R (.bool false) ww283)) else (
  R (.bool false) ww272)))) ∧
  (thenW (ww136.alloc (.cells #[.int .i64 0, .int .i64 0, .int .u64 0, .int .i64 0, .int .i64 0, .int .i64 0, .slice none 0 0, .int .u64 0] 39)) fun ww340 =>
  ww340.cell? ((a140.add (Int.toNat atv2 * 8)).add 5) = some (.int .i64 Epoch141) ∧
  cellsAt ww340 ((a137.add (Int.toNat atv2 * 8)).add 3) [.int .i64 AtT138, .int .i64 AtW139] 0 ∧
  Calls Try.prog 14 #[.pointer new24, .int .u64 pair16, .agg #[.int .i64 AtT138, .int .i64 AtW139], .int .i64 Epoch141, .slice body3a body3n body3c] ww340 fun ee350 ww351 => ∃ (Writer341 : Int) (Index342 : Int) (Prev343 : Int) (AtT344 : Int) (AtW345 : Int) (Epoch346 : Int) (Body347a : Option Addr) (Body347n : Nat) (Body347c : Nat) (Sig348 : Int) (issue349 : Int), ee350 = .returned (.tuple #[.agg #[.int .i64 Writer341, .int .i64 Index342, .int .u64 Prev343, .int .i64 AtT344, .int .i64 AtW345, .int .i64 Epoch346, .slice Body347a Body347n Body347c, .int .u64 Sig348], .int .i64 issue349]) ∧
  canStore ww351 ((blk ww136.heap.size).add 0) ∧
  thenW (ww351.setCell ((blk ww136.heap.size).add 0) (.int .i64 Writer341)) fun ww352 =>
  canStore ww352 ((blk ww136.heap.size).add 1) ∧
  thenW (ww352.setCell ((blk ww136.heap.size).add 1) (.int .i64 Index342)) fun ww353 =>
  canStore ww353 ((blk ww136.heap.size).add 2) ∧
  thenW (ww353.setCell ((blk ww136.heap.size).add 2) (.int .u64 Prev343)) fun ww354 =>
  canStore ww354 ((blk ww136.heap.size).add 3) ∧
  thenW (ww354.setCell ((blk ww136.heap.size).add 3) (.int .i64 AtT344)) fun ww355 =>
  canStore ww355 ((blk ww136.heap.size).add 4) ∧
  thenW (ww355.setCell ((blk ww136.heap.size).add 4) (.int .i64 AtW345)) fun ww356 =>
  canStore ww356 ((blk ww136.heap.size).add 5) ∧
  thenW (ww356.setCell ((blk ww136.heap.size).add 5) (.int .i64 Epoch346)) fun ww357 =>
  canStore ww357 ((blk ww136.heap.size).add 6) ∧
  thenW (ww357.setCell ((blk ww136.heap.size).add 6) (.slice Body347a Body347n Body347c)) fun ww358 =>
  canStore ww358 ((blk ww136.heap.size).add 7) ∧
  thenW (ww358.setCell ((blk ww136.heap.size).add 7) (.int .u64 Sig348)) fun ww359 =>
  bif issue349 != 0 then (
  R (.bool false) ww359) else (
  ∃ (xWriter360 : Int) (xIndex361 : Int) (xPrev362 : Int) (xAtT363 : Int) (xAtW364 : Int) (xEpoch365 : Int) (xBody366a : Option Addr) (xBody366n : Nat) (xBody366c : Nat) (xSig367 : Int), cellsAt ww359 (blk ww136.heap.size) [.int .i64 xWriter360, .int .i64 xIndex361, .int .u64 xPrev362, .int .i64 xAtT363, .int .i64 xAtW364, .int .i64 xEpoch365, .slice xBody366a xBody366n xBody366c, .int .u64 xSig367] 0 ∧
  Calls Try.prog 24 #[.pointer new20, .agg #[.int .i64 xWriter360, .int .i64 xIndex361, .int .u64 xPrev362, .int .i64 xAtT363, .int .i64 xAtW364, .int .i64 xEpoch365, .slice xBody366a xBody366n xBody366c, .int .u64 xSig367]] ww359 fun ee385 ww386 => ∃ (Writer368 : Int) (Index369 : Int) (Prev370 : Int) (AtT371 : Int) (AtW372 : Int) (Epoch373 : Int) (Body374a : Option Addr) (Body374n : Nat) (Body374c : Nat) (Sig375 : Int) (Writer376 : Int) (Index377 : Int) (Prev378 : Int) (AtT379 : Int) (AtW380 : Int) (Epoch381 : Int) (Body382a : Option Addr) (Body382n : Nat) (Body382c : Nat) (Sig383 : Int) (odds384 : Bool), ee385 = .returned (.tuple #[.agg #[.int .i64 Writer368, .int .i64 Index369, .int .u64 Prev370, .int .i64 AtT371, .int .i64 AtW372, .int .i64 Epoch373, .slice Body374a Body374n Body374c, .int .u64 Sig375], .agg #[.int .i64 Writer376, .int .i64 Index377, .int .u64 Prev378, .int .i64 AtT379, .int .i64 AtW380, .int .i64 Epoch381, .slice Body382a Body382n Body382c, .int .u64 Sig383], .bool odds384]) ∧
  thenW (ww386.alloc (.cells #[.int .i64 0, .int .i64 0, .int .u64 0, .int .i64 0, .int .i64 0, .int .i64 0, .slice none 0 0, .int .u64 0] 39)) fun ww387 =>
  thenW (ww387.alloc (.cells #[.int .i64 0, .int .i64 0, .int .u64 0, .int .i64 0, .int .i64 0, .int .i64 0, .slice none 0 0, .int .u64 0] 39)) fun ww388 =>
  canStore ww388 ((blk ww386.heap.size).add 0) ∧
  thenW (ww388.setCell ((blk ww386.heap.size).add 0) (.int .i64 Writer368)) fun ww389 =>
  canStore ww389 ((blk ww386.heap.size).add 1) ∧
  thenW (ww389.setCell ((blk ww386.heap.size).add 1) (.int .i64 Index369)) fun ww390 =>
  canStore ww390 ((blk ww386.heap.size).add 2) ∧
  thenW (ww390.setCell ((blk ww386.heap.size).add 2) (.int .u64 Prev370)) fun ww391 =>
  canStore ww391 ((blk ww386.heap.size).add 3) ∧
  thenW (ww391.setCell ((blk ww386.heap.size).add 3) (.int .i64 AtT371)) fun ww392 =>
  canStore ww392 ((blk ww386.heap.size).add 4) ∧
  thenW (ww392.setCell ((blk ww386.heap.size).add 4) (.int .i64 AtW372)) fun ww393 =>
  canStore ww393 ((blk ww386.heap.size).add 5) ∧
  thenW (ww393.setCell ((blk ww386.heap.size).add 5) (.int .i64 Epoch373)) fun ww394 =>
  canStore ww394 ((blk ww386.heap.size).add 6) ∧
  thenW (ww394.setCell ((blk ww386.heap.size).add 6) (.slice Body374a Body374n Body374c)) fun ww395 =>
  canStore ww395 ((blk ww386.heap.size).add 7) ∧
  thenW (ww395.setCell ((blk ww386.heap.size).add 7) (.int .u64 Sig375)) fun ww396 =>
  canStore ww396 ((blk ww387.heap.size).add 0) ∧
  thenW (ww396.setCell ((blk ww387.heap.size).add 0) (.int .i64 Writer376)) fun ww397 =>
  canStore ww397 ((blk ww387.heap.size).add 1) ∧
  thenW (ww397.setCell ((blk ww387.heap.size).add 1) (.int .i64 Index377)) fun ww398 =>
  canStore ww398 ((blk ww387.heap.size).add 2) ∧
  thenW (ww398.setCell ((blk ww387.heap.size).add 2) (.int .u64 Prev378)) fun ww399 =>
  canStore ww399 ((blk ww387.heap.size).add 3) ∧
  thenW (ww399.setCell ((blk ww387.heap.size).add 3) (.int .i64 AtT379)) fun ww400 =>
  canStore ww400 ((blk ww387.heap.size).add 4) ∧
  thenW (ww400.setCell ((blk ww387.heap.size).add 4) (.int .i64 AtW380)) fun ww401 =>
  canStore ww401 ((blk ww387.heap.size).add 5) ∧
  thenW (ww401.setCell ((blk ww387.heap.size).add 5) (.int .i64 Epoch381)) fun ww402 =>
  canStore ww402 ((blk ww387.heap.size).add 6) ∧
  thenW (ww402.setCell ((blk ww387.heap.size).add 6) (.slice Body382a Body382n Body382c)) fun ww403 =>
  canStore ww403 ((blk ww387.heap.size).add 7) ∧
  thenW (ww403.setCell ((blk ww387.heap.size).add 7) (.int .u64 Sig383)) fun ww404 =>
  all28a.elim False fun a405 =>
  0 ≤ (atv2 : Int) ∧ (atv2 : Int) < (all28n : Int) ∧
  ∃ (Body406a : Option Addr) (Body406n : Nat) (Body406c : Nat), ww404.cell? ((a405.add (Int.toNat atv2 * 8)).add 6) = some (.slice Body406a Body406n Body406c) ∧
  Calls Try.prog 25 #[.slice body3a body3n body3c, .slice Body406a Body406n Body406c] ww404 fun ee408 ww409 => ∃ (same407 : Bool), ee408 = .returned (.bool same407) ∧
  bif same407 then (
  bif !odds384 then (
  ∃ (xWriter410 : Int) (xIndex411 : Int) (xPrev412 : Int) (xAtT413 : Int) (xAtW414 : Int) (xEpoch415 : Int) (xBody416a : Option Addr) (xBody416n : Nat) (xBody416c : Nat) (xSig417 : Int), cellsAt ww409 (blk ww136.heap.size) [.int .i64 xWriter410, .int .i64 xIndex411, .int .u64 xPrev412, .int .i64 xAtT413, .int .i64 xAtW414, .int .i64 xEpoch415, .slice xBody416a xBody416n xBody416c, .int .u64 xSig417] 0 ∧
  Calls Try.prog 26 #[.pointer new20, .agg #[.int .i64 xWriter410, .int .i64 xIndex411, .int .u64 xPrev412, .int .i64 xAtT413, .int .i64 xAtW414, .int .i64 xEpoch415, .slice xBody416a xBody416n xBody416c, .int .u64 xSig417]] ww409 fun ee419 ww420 => ∃ (check418 : Int), ee419 = .returned (.int .i64 check418) ∧
  bif check418 == 8 then (
  Calls Try.prog 10 #[] ww420 fun ee422 ww423 => ∃ (alive421 : Bool), ee422 = .returned (.bool alive421) ∧
  R (.bool alive421) ww423) else (
  R (.bool false) ww420)) else (
  R (.bool false) ww409)) else (
  all28a.elim False fun a424 =>
  0 ≤ (atv2 : Int) ∧ (atv2 : Int) < (all28n : Int) ∧
  ∃ (xWriter425 : Int) (xIndex426 : Int) (xPrev427 : Int) (xAtT428 : Int) (xAtW429 : Int) (xEpoch430 : Int) (xBody431a : Option Addr) (xBody431n : Nat) (xBody431c : Nat) (xSig432 : Int), cellsAt ww409 (a424.add (Int.toNat atv2 * 8)) [.int .i64 xWriter425, .int .i64 xIndex426, .int .u64 xPrev427, .int .i64 xAtT428, .int .i64 xAtW429, .int .i64 xEpoch430, .slice xBody431a xBody431n xBody431c, .int .u64 xSig432] 0 ∧
  Calls Try.prog 24 #[.pointer new20, .agg #[.int .i64 xWriter425, .int .i64 xIndex426, .int .u64 xPrev427, .int .i64 xAtT428, .int .i64 xAtW429, .int .i64 xEpoch430, .slice xBody431a xBody431n xBody431c, .int .u64 xSig432]] ww409 fun ee450 ww451 => ∃ (Writer433 : Int) (Index434 : Int) (Prev435 : Int) (AtT436 : Int) (AtW437 : Int) (Epoch438 : Int) (Body439a : Option Addr) (Body439n : Nat) (Body439c : Nat) (Sig440 : Int) (Writer441 : Int) (Index442 : Int) (Prev443 : Int) (AtT444 : Int) (AtW445 : Int) (Epoch446 : Int) (Body447a : Option Addr) (Body447n : Nat) (Body447c : Nat) (Sig448 : Int) (odds449 : Bool), ee450 = .returned (.tuple #[.agg #[.int .i64 Writer433, .int .i64 Index434, .int .u64 Prev435, .int .i64 AtT436, .int .i64 AtW437, .int .i64 Epoch438, .slice Body439a Body439n Body439c, .int .u64 Sig440], .agg #[.int .i64 Writer441, .int .i64 Index442, .int .u64 Prev443, .int .i64 AtT444, .int .i64 AtW445, .int .i64 Epoch446, .slice Body447a Body447n Body447c, .int .u64 Sig448], .bool odds449]) ∧
  thenW (ww451.alloc (.cells #[.int .i64 0, .int .i64 0, .int .u64 0, .int .i64 0, .int .i64 0, .int .i64 0, .slice none 0 0, .int .u64 0] 39)) fun ww452 =>
  thenW (ww452.alloc (.cells #[.int .i64 0, .int .i64 0, .int .u64 0, .int .i64 0, .int .i64 0, .int .i64 0, .slice none 0 0, .int .u64 0] 39)) fun ww453 =>
  canStore ww453 ((blk ww451.heap.size).add 0) ∧
  thenW (ww453.setCell ((blk ww451.heap.size).add 0) (.int .i64 Writer433)) fun ww454 =>
  canStore ww454 ((blk ww451.heap.size).add 1) ∧
  thenW (ww454.setCell ((blk ww451.heap.size).add 1) (.int .i64 Index434)) fun ww455 =>
  canStore ww455 ((blk ww451.heap.size).add 2) ∧
  thenW (ww455.setCell ((blk ww451.heap.size).add 2) (.int .u64 Prev435)) fun ww456 =>
  canStore ww456 ((blk ww451.heap.size).add 3) ∧
  thenW (ww456.setCell ((blk ww451.heap.size).add 3) (.int .i64 AtT436)) fun ww457 =>
  canStore ww457 ((blk ww451.heap.size).add 4) ∧
  thenW (ww457.setCell ((blk ww451.heap.size).add 4) (.int .i64 AtW437)) fun ww458 =>
  canStore ww458 ((blk ww451.heap.size).add 5) ∧
  thenW (ww458.setCell ((blk ww451.heap.size).add 5) (.int .i64 Epoch438)) fun ww459 =>
  canStore ww459 ((blk ww451.heap.size).add 6) ∧
  thenW (ww459.setCell ((blk ww451.heap.size).add 6) (.slice Body439a Body439n Body439c)) fun ww460 =>
  canStore ww460 ((blk ww451.heap.size).add 7) ∧
  thenW (ww460.setCell ((blk ww451.heap.size).add 7) (.int .u64 Sig440)) fun ww461 =>
  canStore ww461 ((blk ww452.heap.size).add 0) ∧
  thenW (ww461.setCell ((blk ww452.heap.size).add 0) (.int .i64 Writer441)) fun ww462 =>
  canStore ww462 ((blk ww452.heap.size).add 1) ∧
  thenW (ww462.setCell ((blk ww452.heap.size).add 1) (.int .i64 Index442)) fun ww463 =>
  canStore ww463 ((blk ww452.heap.size).add 2) ∧
  thenW (ww463.setCell ((blk ww452.heap.size).add 2) (.int .u64 Prev443)) fun ww464 =>
  canStore ww464 ((blk ww452.heap.size).add 3) ∧
  thenW (ww464.setCell ((blk ww452.heap.size).add 3) (.int .i64 AtT444)) fun ww465 =>
  canStore ww465 ((blk ww452.heap.size).add 4) ∧
  thenW (ww465.setCell ((blk ww452.heap.size).add 4) (.int .i64 AtW445)) fun ww466 =>
  canStore ww466 ((blk ww452.heap.size).add 5) ∧
  thenW (ww466.setCell ((blk ww452.heap.size).add 5) (.int .i64 Epoch446)) fun ww467 =>
  canStore ww467 ((blk ww452.heap.size).add 6) ∧
  thenW (ww467.setCell ((blk ww452.heap.size).add 6) (.slice Body447a Body447n Body447c)) fun ww468 =>
  canStore ww468 ((blk ww452.heap.size).add 7) ∧
  thenW (ww468.setCell ((blk ww452.heap.size).add 7) (.int .u64 Sig448)) fun ww469 =>
  thenW (ww469.drew) fun ww470 =>
  bif odds384 then (
  ∃ (xWriter471 : Int) (xIndex472 : Int) (xPrev473 : Int) (xAtT474 : Int) (xAtW475 : Int) (xEpoch476 : Int) (xBody477a : Option Addr) (xBody477n : Nat) (xBody477c : Nat) (xSig478 : Int), cellsAt ww470 (blk ww136.heap.size) [.int .i64 xWriter471, .int .i64 xIndex472, .int .u64 xPrev473, .int .i64 xAtT474, .int .i64 xAtW475, .int .i64 xEpoch476, .slice xBody477a xBody477n xBody477c, .int .u64 xSig478] 0 ∧
  Calls Try.prog 26 #[.pointer new20, .agg #[.int .i64 xWriter471, .int .i64 xIndex472, .int .u64 xPrev473, .int .i64 xAtT474, .int .i64 xAtW475, .int .i64 xEpoch476, .slice xBody477a xBody477n xBody477c, .int .u64 xSig478]] ww470 fun ee480 ww481 => ∃ (check479 : Int), ee480 = .returned (.int .i64 check479) ∧
  bif check479 == 9 then (
  ∃ (xWriter482 : Int) (xIndex483 : Int) (xPrev484 : Int) (xAtT485 : Int) (xAtW486 : Int) (xEpoch487 : Int) (xBody488a : Option Addr) (xBody488n : Nat) (xBody488c : Nat) (xSig489 : Int), cellsAt ww481 (blk ww136.heap.size) [.int .i64 xWriter482, .int .i64 xIndex483, .int .u64 xPrev484, .int .i64 xAtT485, .int .i64 xAtW486, .int .i64 xEpoch487, .slice xBody488a xBody488n xBody488c, .int .u64 xSig489] 0 ∧
  Calls Try.prog 15 #[.pointer new20, .agg #[.int .i64 xWriter482, .int .i64 xIndex483, .int .u64 xPrev484, .int .i64 xAtT485, .int .i64 xAtW486, .int .i64 xEpoch487, .slice xBody488a xBody488n xBody488c, .int .u64 xSig489]] ww481 fun ee491 ww492 => ∃ (accept490 : Int), ee491 = .returned (.int .i64 accept490) ∧
  bif accept490 == 9 then (
  ∃ (xWriter493 : Int) (xIndex494 : Int) (xPrev495 : Int) (xAtT496 : Int) (xAtW497 : Int) (xEpoch498 : Int) (xBody499a : Option Addr) (xBody499n : Nat) (xBody499c : Nat) (xSig500 : Int), cellsAt ww492 (blk ww386.heap.size) [.int .i64 xWriter493, .int .i64 xIndex494, .int .u64 xPrev495, .int .i64 xAtT496, .int .i64 xAtW497, .int .i64 xEpoch498, .slice xBody499a xBody499n xBody499c, .int .u64 xSig500] 0 ∧
  all28a.elim False fun a501 =>
  0 ≤ (atv2 : Int) ∧ (atv2 : Int) < (all28n : Int) ∧
  ∃ (xWriter502 : Int) (xIndex503 : Int) (xPrev504 : Int) (xAtT505 : Int) (xAtW506 : Int) (xEpoch507 : Int) (xBody508a : Option Addr) (xBody508n : Nat) (xBody508c : Nat) (xSig509 : Int), cellsAt ww492 (a501.add (Int.toNat atv2 * 8)) [.int .i64 xWriter502, .int .i64 xIndex503, .int .u64 xPrev504, .int .i64 xAtT505, .int .i64 xAtW506, .int .i64 xEpoch507, .slice xBody508a xBody508n xBody508c, .int .u64 xSig509] 0 ∧
  Calls Try.prog 27 #[.agg #[.int .i64 xWriter493, .int .i64 xIndex494, .int .u64 xPrev495, .int .i64 xAtT496, .int .i64 xAtW497, .int .i64 xEpoch498, .slice xBody499a xBody499n xBody499c, .int .u64 xSig500], .agg #[.int .i64 xWriter502, .int .i64 xIndex503, .int .u64 xPrev504, .int .i64 xAtT505, .int .i64 xAtW506, .int .i64 xEpoch507, .slice xBody508a xBody508n xBody508c, .int .u64 xSig509]] ww492 fun ee511 ww512 => ∃ (same510 : Bool), ee511 = .returned (.bool same510) ∧
  bif same510 then (
  ∃ (xWriter513 : Int) (xIndex514 : Int) (xPrev515 : Int) (xAtT516 : Int) (xAtW517 : Int) (xEpoch518 : Int) (xBody519a : Option Addr) (xBody519n : Nat) (xBody519c : Nat) (xSig520 : Int), cellsAt ww512 (blk ww387.heap.size) [.int .i64 xWriter513, .int .i64 xIndex514, .int .u64 xPrev515, .int .i64 xAtT516, .int .i64 xAtW517, .int .i64 xEpoch518, .slice xBody519a xBody519n xBody519c, .int .u64 xSig520] 0 ∧
  ∃ (xWriter521 : Int) (xIndex522 : Int) (xPrev523 : Int) (xAtT524 : Int) (xAtW525 : Int) (xEpoch526 : Int) (xBody527a : Option Addr) (xBody527n : Nat) (xBody527c : Nat) (xSig528 : Int), cellsAt ww512 (blk ww136.heap.size) [.int .i64 xWriter521, .int .i64 xIndex522, .int .u64 xPrev523, .int .i64 xAtT524, .int .i64 xAtW525, .int .i64 xEpoch526, .slice xBody527a xBody527n xBody527c, .int .u64 xSig528] 0 ∧
  Calls Try.prog 27 #[.agg #[.int .i64 xWriter513, .int .i64 xIndex514, .int .u64 xPrev515, .int .i64 xAtT516, .int .i64 xAtW517, .int .i64 xEpoch518, .slice xBody519a xBody519n xBody519c, .int .u64 xSig520], .agg #[.int .i64 xWriter521, .int .i64 xIndex522, .int .u64 xPrev523, .int .i64 xAtT524, .int .i64 xAtW525, .int .i64 xEpoch526, .slice xBody527a xBody527n xBody527c, .int .u64 xSig528]] ww512 fun ee530 ww531 => ∃ (same529 : Bool), ee530 = .returned (.bool same529) ∧
  bif same529 then (
  Calls Try.prog 28 #[.pointer new20] ww531 fun ee533 ww534 => ∃ (len532 : Int), ee533 = .returned (.int .i64 len532) ∧
  bif len532 == (all28n : Int) then (
  bif !odds449 then (
  Calls Try.prog 10 #[] ww534 fun ee536 ww537 => ∃ (alive535 : Bool), ee536 = .returned (.bool alive535) ∧
  R (.bool alive535) ww537) else (
  R (.bool false) ww534)) else (
  R (.bool false) ww534)) else (
  R (.bool false) ww531)) else (
  R (.bool false) ww512)) else (
  R (.bool false) ww492)) else (
  R (.bool false) ww481)) else (
  R (.bool false) ww470)))))))))

theorem cachettelaw07_ChainForks.eq (l1a : Option Addr) (l1n : Nat) (l1c : Nat) (atv2 : Int) (body3a : Option Addr) (body3n : Nat) (body3c : Nat) (R : Value → World → Prop) (w : World) : mfunc Try.prog [(0, [0, 1, 2, 8, 10, 12], [(14, (.one .slice)), (15, (.one (.int .i64)))])] 5 [.slice l1a l1n l1c, .int .i64 atv2, .slice body3a body3n body3c] R w = cachettelaw07_ChainForks.M l1a l1n l1c atv2 body3a body3n body3c R w := by kernel_rfl
theorem cachettelaw07_ChainForks.ok (l1a : Option Addr) (l1n : Nat) (l1c : Nat) (atv2 : Int) (body3a : Option Addr) (body3n : Nat) (body3c : Nat) {R : Value → World → Prop} {w : World} (h : cachettelaw07_ChainForks.M l1a l1n l1c atv2 body3a body3n body3c R w) : Calls Try.prog 5 #[.slice l1a l1n l1c, .int .i64 atv2, .slice body3a body3n body3c] w fun e w' => ∃ v, e = .returned v ∧ R v w' :=
  mfunc_ok follows (H := [(0, [0, 1, 2, 8, 10, 12], [(14, (.one .slice)), (15, (.one (.int .i64)))])]) (args := [.slice l1a l1n l1c, .int .i64 atv2, .slice body3a body3n body3c]) (by rw [cachettelaw07_ChainForks.eq]; exact h)

def cachettelaw07_ChainForks.N (l1a : Option Addr) (l1n : Nat) (l1c : Nat) (atv2 : Int) (body3a : Option Addr) (body3n : Nat) (body3c : Nat) (R : Value → World → Prop) (w : World) : Prop :=
  Calls Try.prog 9 #[.slice none 0 0, .slice l1a l1n l1c] w fun ee5 ww6 => ∃ (light4 : Bool), ee5 = .returned (.bool light4) ∧
  (light4 = false →
    Calls Try.prog 10 #[] ww6 fun ee9 ww10 => ∃ (alive8 : Bool), ee9 = .returned (.bool alive8) ∧
    R (.bool alive8) ww10) ∧
  (light4 = true →
    ((body3n : Int) > 1000 →
      Calls Try.prog 10 #[] ww6 fun ee13 ww14 => ∃ (alive12 : Bool), ee13 = .returned (.bool alive12) ∧
      R (.bool alive12) ww14) ∧
    ((body3n : Int) ≤ 1000 →
      Calls Try.prog 11 #[.slice none 0 0] ww6 fun ee16 ww17 => ∃ (new15 : Option Addr), ee16 = .returned (.pointer new15) ∧
      Calls Try.prog 12 #[.pointer new15] ww17 fun ee20 ww21 => ∃ (pair18 : Int) (pair19 : Int), ee20 = .returned (.tuple #[.int .u64 pair18, .int .u64 pair19]) ∧
      Calls Try.prog 13 #[.pointer new15, .int .i64 1, .int .u64 pair19] ww21 fun ee24 ww25 => ∃ (new22 : Option Addr) (new23 : Int), ee24 = .returned (.tuple #[.pointer new22, .int .i64 new23]) ∧
      Calls Try.prog 13 #[.pointer new15, .int .i64 1, .int .u64 pair19] ww25 fun ee28 ww29 => ∃ (new26 : Option Addr) (new27 : Int), ee28 = .returned (.tuple #[.pointer new26, .int .i64 new27]) ∧
      ∃ (I0 : Nat → List Value → World → Prop) (m32 : Nat), I0 m32 [.slice none 0 0, .int .i64 0] ww29 ∧ ∀ (m33 : Nat) (ww34 : World) (all30a : Option Addr) (all30n : Nat) (all30c : Nat) (n31 : Int), I0 m33 [.slice all30a all30n all30c, .int .i64 n31] ww34 →
      (n31 < (l1n : Int) →
        ∃ a37 : Addr, l1a = some a37 ∧
        0 ≤ (n31 : Int) ∧ (n31 : Int) < (l1n : Int) ∧
        ∃ (T39 : Int), ww34.cell? ((a37.add (Int.toNat n31 * 14)).add 1) = some (.int .i64 T39) ∧
        0 ≤ (n31 : Int) ∧ (n31 : Int) < (l1n : Int) ∧
        ∃ (Epoch41 : Int), ww34.cell? ((a37.add (Int.toNat n31 * 14)).add 2) = some (.int .i64 Epoch41) ∧
        0 ≤ (n31 : Int) ∧ (n31 : Int) < (l1n : Int) ∧
        ∃ (Body43a : Option Addr) (Body43n : Nat) (Body43c : Nat), ww34.cell? ((a37.add (Int.toNat n31 * 14)).add 3) = some (.slice Body43a Body43n Body43c) ∧
        ∀ (ww45 : World) (L44 : List Nat), Ext no ww34 ww45 → Priv ww34 ww45 L44 →
        Calls Try.prog 14 #[.pointer new22, .int .u64 pair18, .agg #[.int .i64 T39, .int .i64 1], .int .i64 Epoch41, .slice Body43a Body43n Body43c] ww45 fun ee55 ww56 => ∃ (Writer46 : Int) (Index47 : Int) (Prev48 : Int) (AtT49 : Int) (AtW50 : Int) (Epoch51 : Int) (Body52a : Option Addr) (Body52n : Nat) (Body52c : Nat) (Sig53 : Int) (issue54 : Int), ee55 = .returned (.tuple #[.agg #[.int .i64 Writer46, .int .i64 Index47, .int .u64 Prev48, .int .i64 AtT49, .int .i64 AtW50, .int .i64 Epoch51, .slice Body52a Body52n Body52c, .int .u64 Sig53], .int .i64 issue54]) ∧
        Keep L44 ww45 ww56 ∧
        (issue54 ≠ 0 →
          (-9223372036854775808 : Int) ≤ (n31 + 1) ∧ (n31 + 1) < 9223372036854775808 ∧
          ∀ (ww69 : World), Ext (fun b => b ∈ L44) ww56 ww69 →
          ∃ m68, m68 < m33 ∧ I0 m68 [.slice all30a all30n all30c, .int .i64 (n31 + 1)] ww69) ∧
        (issue54 = 0 →
          ∀ (ww81 : World) (p70 : Nat), Ext (fun b => b ∈ L44) ww56 ww81 → PrivJ L44 ww56 ww81 [p70] →
          ∀ (ww71 : World) (q72 : Nat), Ext no ww81 ww71 → Blk ww71 q72 39 [.int .i64 Writer46, .int .i64 Index47, .int .u64 Prev48, .int .i64 AtT49, .int .i64 AtW50, .int .i64 Epoch51, .slice Body52a Body52n Body52c, .int .u64 Sig53] → ww81.heap.size ≤ q72 → q72 < ww71.heap.size →
          ∃ (a73a : Option Addr) (a73n : Nat) (a73c : Nat) (ww74 : World), (Builtin.append_ #[49, 49] 49 #[.slice all30a all30n all30c, .slice (some (blk q72)) 1 1]).run Try.prog ww71 = .ok (.slice a73a a73n a73c) ww74 ∧
          Keep [p70] ww71 ww74 ∧
          ((a73n : Int) ≤ atv2 →
            Calls Try.prog 15 #[.pointer new26, .agg #[.int .i64 Writer46, .int .i64 Index47, .int .u64 Prev48, .int .i64 AtT49, .int .i64 AtW50, .int .i64 Epoch51, .slice Body52a Body52n Body52c, .int .u64 Sig53]] ww74 fun ee77 ww78 => ∃ (accept76 : Int), ee77 = .returned (.int .i64 accept76) ∧
            (-9223372036854775808 : Int) ≤ (n31 + 1) ∧ (n31 + 1) < 9223372036854775808 ∧
            ∃ m79, m79 < m33 ∧ I0 m79 [.slice a73a a73n a73c, .int .i64 (n31 + 1)] ww78) ∧
          (atv2 < (a73n : Int) →
            (-9223372036854775808 : Int) ≤ (n31 + 1) ∧ (n31 + 1) < 9223372036854775808 ∧
            ∃ m80, m80 < m33 ∧ I0 m80 [.slice a73a a73n a73c, .int .i64 (n31 + 1)] ww74))) ∧
      ((l1n : Int) ≤ n31 →
        (atv2 < 0 →
          Calls Try.prog 10 #[] ww34 fun ee84 ww85 => ∃ (alive83 : Bool), ee84 = .returned (.bool alive83) ∧
          R (.bool alive83) ww85) ∧
        ((0 : Int) ≤ atv2 →
          (atv2 ≥ (all30n : Int) →
            Calls Try.prog 10 #[] ww34 fun ee88 ww89 => ∃ (alive87 : Bool), ee88 = .returned (.bool alive87) ∧
            R (.bool alive87) ww89) ∧
          (atv2 < (all30n : Int) →
            ∃ a91 : Addr, all30a = some a91 ∧
            0 ≤ (atv2 : Int) ∧ (atv2 : Int) < (all30n : Int) ∧
            ∃ (AtT93 : Int) (AtW94 : Int), cellsAt ww34 ((a91.add (Int.toNat atv2 * 8)).add 3) [.int .i64 AtT93, .int .i64 AtW94] 0 ∧
            0 ≤ (atv2 : Int) ∧ (atv2 : Int) < (all30n : Int) ∧
            ∃ (Epoch96 : Int), ww34.cell? ((a91.add (Int.toNat atv2 * 8)).add 5) = some (.int .i64 Epoch96) ∧
            ∀ (ww98 : World) (L97 : List Nat), Ext no ww34 ww98 → Priv ww34 ww98 L97 →
            Calls Try.prog 14 #[.pointer new26, .int .u64 pair18, .agg #[.int .i64 AtT93, .int .i64 AtW94], .int .i64 Epoch96, .slice body3a body3n body3c] ww98 fun ee108 ww109 => ∃ (Writer99 : Int) (Index100 : Int) (Prev101 : Int) (AtT102 : Int) (AtW103 : Int) (Epoch104 : Int) (Body105a : Option Addr) (Body105n : Nat) (Body105c : Nat) (Sig106 : Int) (issue107 : Int), ee108 = .returned (.tuple #[.agg #[.int .i64 Writer99, .int .i64 Index100, .int .u64 Prev101, .int .i64 AtT102, .int .i64 AtW103, .int .i64 Epoch104, .slice Body105a Body105n Body105c, .int .u64 Sig106], .int .i64 issue107]) ∧
            Keep L97 ww98 ww109 ∧
            (issue107 ≠ 0 →
              ∀ (ww121 : World), Ext (fun b => b ∈ L97) ww109 ww121 →
              R (.bool false) ww121) ∧
            (issue107 = 0 →
              ∀ (ww261 : World) (p122 : Nat), Ext (fun b => b ∈ L97) ww109 ww261 → PrivJ L97 ww109 ww261 [p122] →
              Calls Try.prog 24 #[.pointer new22, .agg #[.int .i64 Writer99, .int .i64 Index100, .int .u64 Prev101, .int .i64 AtT102, .int .i64 AtW103, .int .i64 Epoch104, .slice Body105a Body105n Body105c, .int .u64 Sig106]] ww261 fun ee140 ww141 => ∃ (Writer123 : Int) (Index124 : Int) (Prev125 : Int) (AtT126 : Int) (AtW127 : Int) (Epoch128 : Int) (Body129a : Option Addr) (Body129n : Nat) (Body129c : Nat) (Sig130 : Int) (Writer131 : Int) (Index132 : Int) (Prev133 : Int) (AtT134 : Int) (AtW135 : Int) (Epoch136 : Int) (Body137a : Option Addr) (Body137n : Nat) (Body137c : Nat) (Sig138 : Int) (odds139 : Bool), ee140 = .returned (.tuple #[.agg #[.int .i64 Writer123, .int .i64 Index124, .int .u64 Prev125, .int .i64 AtT126, .int .i64 AtW127, .int .i64 Epoch128, .slice Body129a Body129n Body129c, .int .u64 Sig130], .agg #[.int .i64 Writer131, .int .i64 Index132, .int .u64 Prev133, .int .i64 AtT134, .int .i64 AtW135, .int .i64 Epoch136, .slice Body137a Body137n Body137c, .int .u64 Sig138], .bool odds139]) ∧
              Keep [p122] ww261 ww141 ∧
              0 ≤ (atv2 : Int) ∧ (atv2 : Int) < (all30n : Int) ∧
              ∃ (Body161a : Option Addr) (Body161n : Nat) (Body161c : Nat), ww141.cell? ((a91.add (Int.toNat atv2 * 8)).add 6) = some (.slice Body161a Body161n Body161c) ∧
              ∀ (ww159 : World) (p162 : Nat) (p163 : Nat), Ext no ww141 ww159 → Priv ww141 ww159 [p162, p163] →
              Calls Try.prog 25 #[.slice body3a body3n body3c, .slice Body161a Body161n Body161c] ww159 fun ee165 ww166 => ∃ (same164 : Bool), ee165 = .returned (.bool same164) ∧
              Keep [p122, p162, p163] ww159 ww166 ∧
              (same164 = true →
                (odds139 = false →
                  Calls Try.prog 26 #[.pointer new22, .agg #[.int .i64 Writer99, .int .i64 Index100, .int .u64 Prev101, .int .i64 AtT102, .int .i64 AtW103, .int .i64 Epoch104, .slice Body105a Body105n Body105c, .int .u64 Sig106]] ww166 fun ee170 ww171 => ∃ (check169 : Int), ee170 = .returned (.int .i64 check169) ∧
                  (check169 = 8 →
                    Calls Try.prog 10 #[] ww171 fun ee174 ww175 => ∃ (alive173 : Bool), ee174 = .returned (.bool alive173) ∧
                    R (.bool alive173) ww175) ∧
                  (check169 ≠ 8 →
                    R (.bool false) ww171)) ∧
                (odds139 = true →
                  R (.bool false) ww166)) ∧
              (same164 = false →
                0 ≤ (atv2 : Int) ∧ (atv2 : Int) < (all30n : Int) ∧
                ∃ (xWriter177 : Int) (xIndex178 : Int) (xPrev179 : Int) (xAtT180 : Int) (xAtW181 : Int) (xEpoch182 : Int) (xBody183a : Option Addr) (xBody183n : Nat) (xBody183c : Nat) (xSig184 : Int), cellsAt ww166 (a91.add (Int.toNat atv2 * 8)) [.int .i64 xWriter177, .int .i64 xIndex178, .int .u64 xPrev179, .int .i64 xAtT180, .int .i64 xAtW181, .int .i64 xEpoch182, .slice xBody183a xBody183n xBody183c, .int .u64 xSig184] 0 ∧
                Calls Try.prog 24 #[.pointer new22, .agg #[.int .i64 xWriter177, .int .i64 xIndex178, .int .u64 xPrev179, .int .i64 xAtT180, .int .i64 xAtW181, .int .i64 xEpoch182, .slice xBody183a xBody183n xBody183c, .int .u64 xSig184]] ww166 fun ee202 ww203 => ∃ (Writer185 : Int) (Index186 : Int) (Prev187 : Int) (AtT188 : Int) (AtW189 : Int) (Epoch190 : Int) (Body191a : Option Addr) (Body191n : Nat) (Body191c : Nat) (Sig192 : Int) (Writer193 : Int) (Index194 : Int) (Prev195 : Int) (AtT196 : Int) (AtW197 : Int) (Epoch198 : Int) (Body199a : Option Addr) (Body199n : Nat) (Body199c : Nat) (Sig200 : Int) (odds201 : Bool), ee202 = .returned (.tuple #[.agg #[.int .i64 Writer185, .int .i64 Index186, .int .u64 Prev187, .int .i64 AtT188, .int .i64 AtW189, .int .i64 Epoch190, .slice Body191a Body191n Body191c, .int .u64 Sig192], .agg #[.int .i64 Writer193, .int .i64 Index194, .int .u64 Prev195, .int .i64 AtT196, .int .i64 AtW197, .int .i64 Epoch198, .slice Body199a Body199n Body199c, .int .u64 Sig200], .bool odds201]) ∧
                Keep [p122, p162, p163] ww166 ww203 ∧
                (odds139 = true →
                  ∀ (ww222 : World), Ext no ww203 ww222 →
                  Calls Try.prog 26 #[.pointer new22, .agg #[.int .i64 Writer99, .int .i64 Index100, .int .u64 Prev101, .int .i64 AtT102, .int .i64 AtW103, .int .i64 Epoch104, .slice Body105a Body105n Body105c, .int .u64 Sig106]] ww222 fun ee227 ww228 => ∃ (check226 : Int), ee227 = .returned (.int .i64 check226) ∧
                  Keep [p122, p162, p163] ww222 ww228 ∧
                  (check226 = 9 →
                    Calls Try.prog 15 #[.pointer new22, .agg #[.int .i64 Writer99, .int .i64 Index100, .int .u64 Prev101, .int .i64 AtT102, .int .i64 AtW103, .int .i64 Epoch104, .slice Body105a Body105n Body105c, .int .u64 Sig106]] ww228 fun ee231 ww232 => ∃ (accept230 : Int), ee231 = .returned (.int .i64 accept230) ∧
                    Keep [p122, p162, p163] ww228 ww232 ∧
                    (accept230 = 9 →
                      0 ≤ (atv2 : Int) ∧ (atv2 : Int) < (all30n : Int) ∧
                      ∃ (xWriter235 : Int) (xIndex236 : Int) (xPrev237 : Int) (xAtT238 : Int) (xAtW239 : Int) (xEpoch240 : Int) (xBody241a : Option Addr) (xBody241n : Nat) (xBody241c : Nat) (xSig242 : Int), cellsAt ww232 (a91.add (Int.toNat atv2 * 8)) [.int .i64 xWriter235, .int .i64 xIndex236, .int .u64 xPrev237, .int .i64 xAtT238, .int .i64 xAtW239, .int .i64 xEpoch240, .slice xBody241a xBody241n xBody241c, .int .u64 xSig242] 0 ∧
                      Calls Try.prog 27 #[.agg #[.int .i64 Writer123, .int .i64 Index124, .int .u64 Prev125, .int .i64 AtT126, .int .i64 AtW127, .int .i64 Epoch128, .slice Body129a Body129n Body129c, .int .u64 Sig130], .agg #[.int .i64 xWriter235, .int .i64 xIndex236, .int .u64 xPrev237, .int .i64 xAtT238, .int .i64 xAtW239, .int .i64 xEpoch240, .slice xBody241a xBody241n xBody241c, .int .u64 xSig242]] ww232 fun ee244 ww245 => ∃ (same243 : Bool), ee244 = .returned (.bool same243) ∧
                      Keep [p122, p163] ww232 ww245 ∧
                      (same243 = true →
                        Calls Try.prog 27 #[.agg #[.int .i64 Writer131, .int .i64 Index132, .int .u64 Prev133, .int .i64 AtT134, .int .i64 AtW135, .int .i64 Epoch136, .slice Body137a Body137n Body137c, .int .u64 Sig138], .agg #[.int .i64 Writer99, .int .i64 Index100, .int .u64 Prev101, .int .i64 AtT102, .int .i64 AtW103, .int .i64 Epoch104, .slice Body105a Body105n Body105c, .int .u64 Sig106]] ww245 fun ee248 ww249 => ∃ (same247 : Bool), ee248 = .returned (.bool same247) ∧
                        (same247 = true →
                          Calls Try.prog 28 #[.pointer new22] ww249 fun ee252 ww253 => ∃ (len251 : Int), ee252 = .returned (.int .i64 len251) ∧
                          (len251 = (all30n : Int) →
                            (odds201 = false →
                              Calls Try.prog 10 #[] ww253 fun ee257 ww258 => ∃ (alive256 : Bool), ee257 = .returned (.bool alive256) ∧
                              R (.bool alive256) ww258) ∧
                            (odds201 = true →
                              R (.bool false) ww253)) ∧
                          (len251 ≠ (all30n : Int) →
                            R (.bool false) ww253)) ∧
                        (same247 = false →
                          R (.bool false) ww249)) ∧
                      (same243 = false →
                        R (.bool false) ww245)) ∧
                    (accept230 ≠ 9 →
                      R (.bool false) ww232)) ∧
                  (check226 ≠ 9 →
                    R (.bool false) ww228)) ∧
                (odds139 = false →
                  ∀ (ww222 : World), Ext no ww203 ww222 →
                  R (.bool false) ww222))))))))

theorem cachettelaw07_ChainForks.up (l1a : Option Addr) (l1n : Nat) (l1c : Nat) (atv2 : Int) (body3a : Option Addr) (body3n : Nat) (body3c : Nat) {R : Value → World → Prop} {w : World} (h : cachettelaw07_ChainForks.N l1a l1n l1c atv2 body3a body3n body3c R w) : cachettelaw07_ChainForks.M l1a l1n l1c atv2 body3a body3n body3c R w := by
  unfold cachettelaw07_ChainForks.M
  unfold cachettelaw07_ChainForks.N at h
  refine h.mono fun ee5 ww6 h => ?_
  obtain ⟨light4, he, h⟩ := h
  refine ⟨light4, he, ?_⟩
  refine bif_of (fun c7 => ?_) (fun c7 => ?_)
  · have h := h.1 (not_t c7)
    refine h.mono fun ee9 ww10 h => ?_
    obtain ⟨alive8, he, h⟩ := h
    refine ⟨alive8, he, ?_⟩
    exact h
  · have h := h.2 (not_f c7)
    refine bif_of (fun c11 => ?_) (fun c11 => ?_)
    · have h := h.1 (of_decide_eq_true c11)
      refine h.mono fun ee13 ww14 h => ?_
      obtain ⟨alive12, he, h⟩ := h
      refine ⟨alive12, he, ?_⟩
      exact h
    · have h := h.2 (Int.not_lt.1 (of_decide_eq_false c11))
      refine h.mono fun ee16 ww17 h => ?_
      obtain ⟨new15, he, h⟩ := h
      refine ⟨new15, he, ?_⟩
      refine h.mono fun ee20 ww21 h => ?_
      obtain ⟨pair18, pair19, he, h⟩ := h
      refine ⟨pair18, pair19, he, ?_⟩
      refine h.mono fun ee24 ww25 h => ?_
      obtain ⟨new22, new23, he, h⟩ := h
      refine ⟨new22, new23, he, ?_⟩
      refine h.mono fun ee28 ww29 h => ?_
      obtain ⟨new26, new27, he, h⟩ := h
      refine ⟨new26, new27, he, ?_⟩
      obtain ⟨I0, m32, h0, h⟩ := h
      refine ⟨I0, m32, h0, fun m33 ww34 all30a all30n all30c n31 hI => ?_⟩
      have h := h m33 ww34 all30a all30n all30c n31 hI
      refine bif_of (fun c35 => ?_) (fun c35 => ?_)
      · have h := h.1 (of_decide_eq_true c35)
        refine thenW_in fun ww36 e36 => ?_
        have hx36 := (Ext.refl no ww34).x_drew e36
        obtain ⟨a37, ha37, h⟩ := h
        refine elim_some ha37 ?_
        obtain ⟨hq1, hq2, h⟩ := h
        refine ⟨hq1, hq2, ?_⟩
        obtain ⟨T39, hc38, h⟩ := h
        refine ⟨T39, (hx36).cell hc38 id, ?_⟩
        refine elim_some ha37 ?_
        obtain ⟨hq1, hq2, h⟩ := h
        refine ⟨hq1, hq2, ?_⟩
        obtain ⟨Epoch41, hc40, h⟩ := h
        refine ⟨Epoch41, (hx36).cell hc40 id, ?_⟩
        refine elim_some ha37 ?_
        obtain ⟨hq1, hq2, h⟩ := h
        refine ⟨hq1, hq2, ?_⟩
        obtain ⟨Body43a, Body43n, Body43c, hc42, h⟩ := h
        refine ⟨Body43a, Body43n, Body43c, (hx36).cell hc42 id, ?_⟩
        refine ⟨?_, ?_⟩
        · have h := h ww36 [] hx36 Priv.nil
          refine h.mono fun ee55 ww56 h => ?_
          obtain ⟨Writer46, Index47, Prev48, AtT49, AtW50, Epoch51, Body52a, Body52n, Body52c, Sig53, issue54, he, hkL, h⟩ := h
          refine ⟨Writer46, Index47, Prev48, AtT49, AtW50, Epoch51, Body52a, Body52n, Body52c, Sig53, issue54, he, ?_⟩
          refine thenW_in fun ww57 e57 => ?_
          have hb1 := Blk.of_new e57
          have hg1 := ((Ext.refl (fun b => b ∈ ([] : List Nat)) ww56)).size
          have hx57 := (Ext.refl (fun b => b ∈ ([] : List Nat)) ww56).x_alloc e57
          refine ⟨hb1.cani 0 rfl rfl, thenW_in fun ww58 e58 => ?_⟩
          have hx58 := hx57.x_set (q := ww56.heap.size) (i := 0) rfl (.inr hg1) e58
          have hb1 : Blk ww58 ww56.heap.size 39 [.int .i64 Writer46, .int .i64 0, .int .u64 0, .int .i64 0, .int .i64 0, .int .i64 0, .slice none 0 0, .int .u64 0] := hb1.seti 0 rfl e58
          refine ⟨hb1.cani 1 rfl rfl, thenW_in fun ww59 e59 => ?_⟩
          have hx59 := hx58.x_set (q := ww56.heap.size) (i := 1) rfl (.inr hg1) e59
          have hb1 : Blk ww59 ww56.heap.size 39 [.int .i64 Writer46, .int .i64 Index47, .int .u64 0, .int .i64 0, .int .i64 0, .int .i64 0, .slice none 0 0, .int .u64 0] := hb1.seti 1 rfl e59
          refine ⟨hb1.cani 2 rfl rfl, thenW_in fun ww60 e60 => ?_⟩
          have hx60 := hx59.x_set (q := ww56.heap.size) (i := 2) rfl (.inr hg1) e60
          have hb1 : Blk ww60 ww56.heap.size 39 [.int .i64 Writer46, .int .i64 Index47, .int .u64 Prev48, .int .i64 0, .int .i64 0, .int .i64 0, .slice none 0 0, .int .u64 0] := hb1.seti 2 rfl e60
          refine ⟨hb1.cani 3 rfl rfl, thenW_in fun ww61 e61 => ?_⟩
          have hx61 := hx60.x_set (q := ww56.heap.size) (i := 3) rfl (.inr hg1) e61
          have hb1 : Blk ww61 ww56.heap.size 39 [.int .i64 Writer46, .int .i64 Index47, .int .u64 Prev48, .int .i64 AtT49, .int .i64 0, .int .i64 0, .slice none 0 0, .int .u64 0] := hb1.seti 3 rfl e61
          refine ⟨hb1.cani 4 rfl rfl, thenW_in fun ww62 e62 => ?_⟩
          have hx62 := hx61.x_set (q := ww56.heap.size) (i := 4) rfl (.inr hg1) e62
          have hb1 : Blk ww62 ww56.heap.size 39 [.int .i64 Writer46, .int .i64 Index47, .int .u64 Prev48, .int .i64 AtT49, .int .i64 AtW50, .int .i64 0, .slice none 0 0, .int .u64 0] := hb1.seti 4 rfl e62
          refine ⟨hb1.cani 5 rfl rfl, thenW_in fun ww63 e63 => ?_⟩
          have hx63 := hx62.x_set (q := ww56.heap.size) (i := 5) rfl (.inr hg1) e63
          have hb1 : Blk ww63 ww56.heap.size 39 [.int .i64 Writer46, .int .i64 Index47, .int .u64 Prev48, .int .i64 AtT49, .int .i64 AtW50, .int .i64 Epoch51, .slice none 0 0, .int .u64 0] := hb1.seti 5 rfl e63
          refine ⟨hb1.cani 6 rfl rfl, thenW_in fun ww64 e64 => ?_⟩
          have hx64 := hx63.x_set (q := ww56.heap.size) (i := 6) rfl (.inr hg1) e64
          have hb1 : Blk ww64 ww56.heap.size 39 [.int .i64 Writer46, .int .i64 Index47, .int .u64 Prev48, .int .i64 AtT49, .int .i64 AtW50, .int .i64 Epoch51, .slice Body52a Body52n Body52c, .int .u64 0] := hb1.seti 6 rfl e64
          refine ⟨hb1.cani 7 rfl rfl, thenW_in fun ww65 e65 => ?_⟩
          have hx65 := hx64.x_set (q := ww56.heap.size) (i := 7) rfl (.inr hg1) e65
          have hb1 : Blk ww65 ww56.heap.size 39 [.int .i64 Writer46, .int .i64 Index47, .int .u64 Prev48, .int .i64 AtT49, .int .i64 AtW50, .int .i64 Epoch51, .slice Body52a Body52n Body52c, .int .u64 Sig53] := hb1.seti 7 rfl e65
          refine bif_of (fun c66 => ?_) (fun c66 => ?_)
          · have h := h.1 (bne_t c66)
            obtain ⟨hw1, hw2, h⟩ := h
            try rw [w64 hw1 hw2]
            have h := h ww65 hx65
            obtain ⟨m68, hk, h⟩ := h
            exact ⟨m68, hk, h⟩
          · have h := h.2 (bne_f c66)
            refine ⟨Writer46, Index47, Prev48, AtT49, AtW50, Epoch51, Body52a, Body52n, Body52c, Sig53, ⟨hb1.celli 0 rfl rfl, hb1.celli 1 rfl rfl, hb1.celli 2 rfl rfl, hb1.celli 3 rfl rfl, hb1.celli 4 rfl rfl, hb1.celli 5 rfl rfl, hb1.celli 6 rfl rfl, hb1.celli 7 rfl rfl, trivial⟩, ?_⟩
            have h := h ww65 (ww56.heap.size) hx65 (PrivJ.cons (.inr hg1) hb1.lt PrivJ.nil)
            refine thenW_in fun ww71 e71 => ?_
            have hb1 := hb1.x_alloc e71
            have h := h ww71 ww65.heap.size ((Ext.refl no ww65).x_alloc e71) (Blk.of_new e71) ((Ext.refl no ww65)).size (size_lt_alloc e71)
            obtain ⟨a73a, a73n, a73c, ww74, hr, hk, h⟩ := h
            refine ⟨a73a, a73n, a73c, ww74, hr, ?_⟩
            have hb1 := hk.blk hb1 (by simp)
            refine bif_of (fun c75 => ?_) (fun c75 => ?_)
            · have h := h.1 (of_decide_eq_true c75)
              refine ⟨Writer46, Index47, Prev48, AtT49, AtW50, Epoch51, Body52a, Body52n, Body52c, Sig53, ⟨hb1.celli 0 rfl rfl, hb1.celli 1 rfl rfl, hb1.celli 2 rfl rfl, hb1.celli 3 rfl rfl, hb1.celli 4 rfl rfl, hb1.celli 5 rfl rfl, hb1.celli 6 rfl rfl, hb1.celli 7 rfl rfl, trivial⟩, ?_⟩
              refine h.mono fun ee77 ww78 h => ?_
              obtain ⟨accept76, he, h⟩ := h
              refine ⟨accept76, he, ?_⟩
              obtain ⟨hw1, hw2, h⟩ := h
              try rw [w64 hw1 hw2]
              obtain ⟨m79, hk, h⟩ := h
              exact ⟨m79, hk, h⟩
            · have h := h.2 (Int.not_le.1 (of_decide_eq_false c75))
              obtain ⟨hw1, hw2, h⟩ := h
              try rw [w64 hw1 hw2]
              obtain ⟨m80, hk, h⟩ := h
              exact ⟨m80, hk, h⟩
        · refine thenW_in fun ww44 e44 => ?_
          have hb1 := Blk.of_new e44
          have hg1 := (hx36).size
          have hx44 := hx36.x_alloc e44
          refine ⟨(hx44).cell hc42 id, (hx44).cell hc40 id, (hx44).cell hc38 id, ?_⟩
          have h := h ww44 [ww36.heap.size] hx44 (Priv.cons hg1 hb1.lt Priv.nil)
          refine h.mono fun ee56 ww57 h => ?_
          obtain ⟨Writer47, Index48, Prev49, AtT50, AtW51, Epoch52, Body53a, Body53n, Body53c, Sig54, issue55, he, hkL, h⟩ := h
          refine ⟨Writer47, Index48, Prev49, AtT50, AtW51, Epoch52, Body53a, Body53n, Body53c, Sig54, issue55, he, ?_⟩
          have hb1 := hkL.blk hb1 (by simp)
          refine ⟨hb1.cani 0 rfl rfl, thenW_in fun ww58 e58 => ?_⟩
          have hx58 := (Ext.refl (fun b => b ∈ ([ww36.heap.size] : List Nat)) ww57).x_set (q := ww36.heap.size) (i := 0) rfl (.inl (by simp)) e58
          have hb1 : Blk ww58 ww36.heap.size 39 [.int .i64 Writer47, .int .i64 0, .int .u64 0, .int .i64 0, .int .i64 0, .int .i64 0, .slice none 0 0, .int .u64 0] := hb1.seti 0 rfl e58
          refine ⟨hb1.cani 1 rfl rfl, thenW_in fun ww59 e59 => ?_⟩
          have hx59 := hx58.x_set (q := ww36.heap.size) (i := 1) rfl (.inl (by simp)) e59
          have hb1 : Blk ww59 ww36.heap.size 39 [.int .i64 Writer47, .int .i64 Index48, .int .u64 0, .int .i64 0, .int .i64 0, .int .i64 0, .slice none 0 0, .int .u64 0] := hb1.seti 1 rfl e59
          refine ⟨hb1.cani 2 rfl rfl, thenW_in fun ww60 e60 => ?_⟩
          have hx60 := hx59.x_set (q := ww36.heap.size) (i := 2) rfl (.inl (by simp)) e60
          have hb1 : Blk ww60 ww36.heap.size 39 [.int .i64 Writer47, .int .i64 Index48, .int .u64 Prev49, .int .i64 0, .int .i64 0, .int .i64 0, .slice none 0 0, .int .u64 0] := hb1.seti 2 rfl e60
          refine ⟨hb1.cani 3 rfl rfl, thenW_in fun ww61 e61 => ?_⟩
          have hx61 := hx60.x_set (q := ww36.heap.size) (i := 3) rfl (.inl (by simp)) e61
          have hb1 : Blk ww61 ww36.heap.size 39 [.int .i64 Writer47, .int .i64 Index48, .int .u64 Prev49, .int .i64 AtT50, .int .i64 0, .int .i64 0, .slice none 0 0, .int .u64 0] := hb1.seti 3 rfl e61
          refine ⟨hb1.cani 4 rfl rfl, thenW_in fun ww62 e62 => ?_⟩
          have hx62 := hx61.x_set (q := ww36.heap.size) (i := 4) rfl (.inl (by simp)) e62
          have hb1 : Blk ww62 ww36.heap.size 39 [.int .i64 Writer47, .int .i64 Index48, .int .u64 Prev49, .int .i64 AtT50, .int .i64 AtW51, .int .i64 0, .slice none 0 0, .int .u64 0] := hb1.seti 4 rfl e62
          refine ⟨hb1.cani 5 rfl rfl, thenW_in fun ww63 e63 => ?_⟩
          have hx63 := hx62.x_set (q := ww36.heap.size) (i := 5) rfl (.inl (by simp)) e63
          have hb1 : Blk ww63 ww36.heap.size 39 [.int .i64 Writer47, .int .i64 Index48, .int .u64 Prev49, .int .i64 AtT50, .int .i64 AtW51, .int .i64 Epoch52, .slice none 0 0, .int .u64 0] := hb1.seti 5 rfl e63
          refine ⟨hb1.cani 6 rfl rfl, thenW_in fun ww64 e64 => ?_⟩
          have hx64 := hx63.x_set (q := ww36.heap.size) (i := 6) rfl (.inl (by simp)) e64
          have hb1 : Blk ww64 ww36.heap.size 39 [.int .i64 Writer47, .int .i64 Index48, .int .u64 Prev49, .int .i64 AtT50, .int .i64 AtW51, .int .i64 Epoch52, .slice Body53a Body53n Body53c, .int .u64 0] := hb1.seti 6 rfl e64
          refine ⟨hb1.cani 7 rfl rfl, thenW_in fun ww65 e65 => ?_⟩
          have hx65 := hx64.x_set (q := ww36.heap.size) (i := 7) rfl (.inl (by simp)) e65
          have hb1 : Blk ww65 ww36.heap.size 39 [.int .i64 Writer47, .int .i64 Index48, .int .u64 Prev49, .int .i64 AtT50, .int .i64 AtW51, .int .i64 Epoch52, .slice Body53a Body53n Body53c, .int .u64 Sig54] := hb1.seti 7 rfl e65
          refine bif_of (fun c66 => ?_) (fun c66 => ?_)
          · have h := h.1 (bne_t c66)
            obtain ⟨hw1, hw2, h⟩ := h
            try rw [w64 hw1 hw2]
            have h := h ww65 hx65
            obtain ⟨m68, hk, h⟩ := h
            exact ⟨m68, hk, h⟩
          · have h := h.2 (bne_f c66)
            refine ⟨Writer47, Index48, Prev49, AtT50, AtW51, Epoch52, Body53a, Body53n, Body53c, Sig54, ⟨hb1.celli 0 rfl rfl, hb1.celli 1 rfl rfl, hb1.celli 2 rfl rfl, hb1.celli 3 rfl rfl, hb1.celli 4 rfl rfl, hb1.celli 5 rfl rfl, hb1.celli 6 rfl rfl, hb1.celli 7 rfl rfl, trivial⟩, ?_⟩
            have h := h ww65 (ww36.heap.size) hx65 (PrivJ.cons (.inl (by simp)) hb1.lt PrivJ.nil)
            refine thenW_in fun ww71 e71 => ?_
            have hb1 := hb1.x_alloc e71
            have h := h ww71 ww65.heap.size ((Ext.refl no ww65).x_alloc e71) (Blk.of_new e71) ((Ext.refl no ww65)).size (size_lt_alloc e71)
            obtain ⟨a73a, a73n, a73c, ww74, hr, hk, h⟩ := h
            refine ⟨a73a, a73n, a73c, ww74, hr, ?_⟩
            have hb1 := hk.blk hb1 (by simp)
            refine bif_of (fun c75 => ?_) (fun c75 => ?_)
            · have h := h.1 (of_decide_eq_true c75)
              refine ⟨Writer47, Index48, Prev49, AtT50, AtW51, Epoch52, Body53a, Body53n, Body53c, Sig54, ⟨hb1.celli 0 rfl rfl, hb1.celli 1 rfl rfl, hb1.celli 2 rfl rfl, hb1.celli 3 rfl rfl, hb1.celli 4 rfl rfl, hb1.celli 5 rfl rfl, hb1.celli 6 rfl rfl, hb1.celli 7 rfl rfl, trivial⟩, ?_⟩
              refine h.mono fun ee77 ww78 h => ?_
              obtain ⟨accept76, he, h⟩ := h
              refine ⟨accept76, he, ?_⟩
              obtain ⟨hw1, hw2, h⟩ := h
              try rw [w64 hw1 hw2]
              obtain ⟨m79, hk, h⟩ := h
              exact ⟨m79, hk, h⟩
            · have h := h.2 (Int.not_le.1 (of_decide_eq_false c75))
              obtain ⟨hw1, hw2, h⟩ := h
              try rw [w64 hw1 hw2]
              obtain ⟨m80, hk, h⟩ := h
              exact ⟨m80, hk, h⟩
      · have h := h.2 (Int.not_lt.1 (of_decide_eq_false c35))
        refine bif_of (fun c82 => ?_) (fun c82 => ?_)
        · have h := h.1 (of_decide_eq_true c82)
          refine h.mono fun ee84 ww85 h => ?_
          obtain ⟨alive83, he, h⟩ := h
          refine ⟨alive83, he, ?_⟩
          exact h
        · have h := h.2 (Int.not_lt.1 (of_decide_eq_false c82))
          refine bif_of (fun c86 => ?_) (fun c86 => ?_)
          · have h := h.1 (of_decide_eq_true c86)
            refine h.mono fun ee88 ww89 h => ?_
            obtain ⟨alive87, he, h⟩ := h
            refine ⟨alive87, he, ?_⟩
            exact h
          · have h := h.2 (Int.not_le.1 (of_decide_eq_false c86))
            refine thenW_in fun ww90 e90 => ?_
            have hx90 := (Ext.refl no ww34).x_drew e90
            obtain ⟨a91, ha91, h⟩ := h
            refine elim_some ha91 ?_
            obtain ⟨hq1, hq2, h⟩ := h
            refine ⟨hq1, hq2, ?_⟩
            obtain ⟨AtT93, AtW94, hc92, h⟩ := h
            refine ⟨AtT93, AtW94, cellsAt_no (hx90) hc92, ?_⟩
            refine elim_some ha91 ?_
            obtain ⟨hq1, hq2, h⟩ := h
            refine ⟨hq1, hq2, ?_⟩
            obtain ⟨Epoch96, hc95, h⟩ := h
            refine ⟨Epoch96, (hx90).cell hc95 id, ?_⟩
            refine ⟨?_, ?_⟩
            · have h := h ww90 [] hx90 Priv.nil
              refine h.mono fun ee108 ww109 h => ?_
              obtain ⟨Writer99, Index100, Prev101, AtT102, AtW103, Epoch104, Body105a, Body105n, Body105c, Sig106, issue107, he, hkL, h⟩ := h
              refine ⟨Writer99, Index100, Prev101, AtT102, AtW103, Epoch104, Body105a, Body105n, Body105c, Sig106, issue107, he, ?_⟩
              refine thenW_in fun ww110 e110 => ?_
              have hb2 := Blk.of_new e110
              have hg2 := ((Ext.refl (fun b => b ∈ ([] : List Nat)) ww109)).size
              have hx110 := (Ext.refl (fun b => b ∈ ([] : List Nat)) ww109).x_alloc e110
              refine ⟨hb2.cani 0 rfl rfl, thenW_in fun ww111 e111 => ?_⟩
              have hx111 := hx110.x_set (q := ww109.heap.size) (i := 0) rfl (.inr hg2) e111
              have hb2 : Blk ww111 ww109.heap.size 39 [.int .i64 Writer99, .int .i64 0, .int .u64 0, .int .i64 0, .int .i64 0, .int .i64 0, .slice none 0 0, .int .u64 0] := hb2.seti 0 rfl e111
              refine ⟨hb2.cani 1 rfl rfl, thenW_in fun ww112 e112 => ?_⟩
              have hx112 := hx111.x_set (q := ww109.heap.size) (i := 1) rfl (.inr hg2) e112
              have hb2 : Blk ww112 ww109.heap.size 39 [.int .i64 Writer99, .int .i64 Index100, .int .u64 0, .int .i64 0, .int .i64 0, .int .i64 0, .slice none 0 0, .int .u64 0] := hb2.seti 1 rfl e112
              refine ⟨hb2.cani 2 rfl rfl, thenW_in fun ww113 e113 => ?_⟩
              have hx113 := hx112.x_set (q := ww109.heap.size) (i := 2) rfl (.inr hg2) e113
              have hb2 : Blk ww113 ww109.heap.size 39 [.int .i64 Writer99, .int .i64 Index100, .int .u64 Prev101, .int .i64 0, .int .i64 0, .int .i64 0, .slice none 0 0, .int .u64 0] := hb2.seti 2 rfl e113
              refine ⟨hb2.cani 3 rfl rfl, thenW_in fun ww114 e114 => ?_⟩
              have hx114 := hx113.x_set (q := ww109.heap.size) (i := 3) rfl (.inr hg2) e114
              have hb2 : Blk ww114 ww109.heap.size 39 [.int .i64 Writer99, .int .i64 Index100, .int .u64 Prev101, .int .i64 AtT102, .int .i64 0, .int .i64 0, .slice none 0 0, .int .u64 0] := hb2.seti 3 rfl e114
              refine ⟨hb2.cani 4 rfl rfl, thenW_in fun ww115 e115 => ?_⟩
              have hx115 := hx114.x_set (q := ww109.heap.size) (i := 4) rfl (.inr hg2) e115
              have hb2 : Blk ww115 ww109.heap.size 39 [.int .i64 Writer99, .int .i64 Index100, .int .u64 Prev101, .int .i64 AtT102, .int .i64 AtW103, .int .i64 0, .slice none 0 0, .int .u64 0] := hb2.seti 4 rfl e115
              refine ⟨hb2.cani 5 rfl rfl, thenW_in fun ww116 e116 => ?_⟩
              have hx116 := hx115.x_set (q := ww109.heap.size) (i := 5) rfl (.inr hg2) e116
              have hb2 : Blk ww116 ww109.heap.size 39 [.int .i64 Writer99, .int .i64 Index100, .int .u64 Prev101, .int .i64 AtT102, .int .i64 AtW103, .int .i64 Epoch104, .slice none 0 0, .int .u64 0] := hb2.seti 5 rfl e116
              refine ⟨hb2.cani 6 rfl rfl, thenW_in fun ww117 e117 => ?_⟩
              have hx117 := hx116.x_set (q := ww109.heap.size) (i := 6) rfl (.inr hg2) e117
              have hb2 : Blk ww117 ww109.heap.size 39 [.int .i64 Writer99, .int .i64 Index100, .int .u64 Prev101, .int .i64 AtT102, .int .i64 AtW103, .int .i64 Epoch104, .slice Body105a Body105n Body105c, .int .u64 0] := hb2.seti 6 rfl e117
              refine ⟨hb2.cani 7 rfl rfl, thenW_in fun ww118 e118 => ?_⟩
              have hx118 := hx117.x_set (q := ww109.heap.size) (i := 7) rfl (.inr hg2) e118
              have hb2 : Blk ww118 ww109.heap.size 39 [.int .i64 Writer99, .int .i64 Index100, .int .u64 Prev101, .int .i64 AtT102, .int .i64 AtW103, .int .i64 Epoch104, .slice Body105a Body105n Body105c, .int .u64 Sig106] := hb2.seti 7 rfl e118
              refine bif_of (fun c119 => ?_) (fun c119 => ?_)
              · have h := h.1 (bne_t c119)
                have h := h ww118 hx118
                exact h
              · have h := h.2 (bne_f c119)
                refine ⟨Writer99, Index100, Prev101, AtT102, AtW103, Epoch104, Body105a, Body105n, Body105c, Sig106, ⟨hb2.celli 0 rfl rfl, hb2.celli 1 rfl rfl, hb2.celli 2 rfl rfl, hb2.celli 3 rfl rfl, hb2.celli 4 rfl rfl, hb2.celli 5 rfl rfl, hb2.celli 6 rfl rfl, hb2.celli 7 rfl rfl, trivial⟩, ?_⟩
                have h := h ww118 (ww109.heap.size) hx118 (PrivJ.cons (.inr hg2) hb2.lt PrivJ.nil)
                refine h.mono fun ee140 ww141 h => ?_
                obtain ⟨Writer123, Index124, Prev125, AtT126, AtW127, Epoch128, Body129a, Body129n, Body129c, Sig130, Writer131, Index132, Prev133, AtT134, AtW135, Epoch136, Body137a, Body137n, Body137c, Sig138, odds139, he, hk, h⟩ := h
                refine ⟨Writer123, Index124, Prev125, AtT126, AtW127, Epoch128, Body129a, Body129n, Body129c, Sig130, Writer131, Index132, Prev133, AtT134, AtW135, Epoch136, Body137a, Body137n, Body137c, Sig138, odds139, he, ?_⟩
                have hb2 := hk.blk hb2 (by simp)
                refine thenW_in fun ww142 e142 => ?_
                have hb3 := Blk.of_new e142
                have hg3 := ((Ext.refl no ww141)).size
                have hb2_3 := Nat.ne_of_lt hb2.lt
                have hb2 := hb2.x_alloc e142
                have hx142 := (Ext.refl no ww141).x_alloc e142
                refine thenW_in fun ww143 e143 => ?_
                have hb4 := Blk.of_new e143
                have hg4 := (hx142).size
                have hb2_4 := Nat.ne_of_lt hb2.lt
                have hb2 := hb2.x_alloc e143
                have hb3_4 := Nat.ne_of_lt hb3.lt
                have hb3 := hb3.x_alloc e143
                have hx143 := hx142.x_alloc e143
                refine ⟨hb3.cani 0 rfl rfl, thenW_in fun ww144 e144 => ?_⟩
                have hx144 := hx143.x_set (q := ww141.heap.size) (i := 0) rfl (.inr hg3) e144
                have hb2 := hb2.oth (q := ww141.heap.size) (i := 0) rfl hb2_3 e144
                have hb3 : Blk ww144 ww141.heap.size 39 [.int .i64 Writer123, .int .i64 0, .int .u64 0, .int .i64 0, .int .i64 0, .int .i64 0, .slice none 0 0, .int .u64 0] := hb3.seti 0 rfl e144
                have hb4 := hb4.oth (q := ww141.heap.size) (i := 0) rfl (Ne.symm hb3_4) e144
                refine ⟨hb3.cani 1 rfl rfl, thenW_in fun ww145 e145 => ?_⟩
                have hx145 := hx144.x_set (q := ww141.heap.size) (i := 1) rfl (.inr hg3) e145
                have hb2 := hb2.oth (q := ww141.heap.size) (i := 1) rfl hb2_3 e145
                have hb3 : Blk ww145 ww141.heap.size 39 [.int .i64 Writer123, .int .i64 Index124, .int .u64 0, .int .i64 0, .int .i64 0, .int .i64 0, .slice none 0 0, .int .u64 0] := hb3.seti 1 rfl e145
                have hb4 := hb4.oth (q := ww141.heap.size) (i := 1) rfl (Ne.symm hb3_4) e145
                refine ⟨hb3.cani 2 rfl rfl, thenW_in fun ww146 e146 => ?_⟩
                have hx146 := hx145.x_set (q := ww141.heap.size) (i := 2) rfl (.inr hg3) e146
                have hb2 := hb2.oth (q := ww141.heap.size) (i := 2) rfl hb2_3 e146
                have hb3 : Blk ww146 ww141.heap.size 39 [.int .i64 Writer123, .int .i64 Index124, .int .u64 Prev125, .int .i64 0, .int .i64 0, .int .i64 0, .slice none 0 0, .int .u64 0] := hb3.seti 2 rfl e146
                have hb4 := hb4.oth (q := ww141.heap.size) (i := 2) rfl (Ne.symm hb3_4) e146
                refine ⟨hb3.cani 3 rfl rfl, thenW_in fun ww147 e147 => ?_⟩
                have hx147 := hx146.x_set (q := ww141.heap.size) (i := 3) rfl (.inr hg3) e147
                have hb2 := hb2.oth (q := ww141.heap.size) (i := 3) rfl hb2_3 e147
                have hb3 : Blk ww147 ww141.heap.size 39 [.int .i64 Writer123, .int .i64 Index124, .int .u64 Prev125, .int .i64 AtT126, .int .i64 0, .int .i64 0, .slice none 0 0, .int .u64 0] := hb3.seti 3 rfl e147
                have hb4 := hb4.oth (q := ww141.heap.size) (i := 3) rfl (Ne.symm hb3_4) e147
                refine ⟨hb3.cani 4 rfl rfl, thenW_in fun ww148 e148 => ?_⟩
                have hx148 := hx147.x_set (q := ww141.heap.size) (i := 4) rfl (.inr hg3) e148
                have hb2 := hb2.oth (q := ww141.heap.size) (i := 4) rfl hb2_3 e148
                have hb3 : Blk ww148 ww141.heap.size 39 [.int .i64 Writer123, .int .i64 Index124, .int .u64 Prev125, .int .i64 AtT126, .int .i64 AtW127, .int .i64 0, .slice none 0 0, .int .u64 0] := hb3.seti 4 rfl e148
                have hb4 := hb4.oth (q := ww141.heap.size) (i := 4) rfl (Ne.symm hb3_4) e148
                refine ⟨hb3.cani 5 rfl rfl, thenW_in fun ww149 e149 => ?_⟩
                have hx149 := hx148.x_set (q := ww141.heap.size) (i := 5) rfl (.inr hg3) e149
                have hb2 := hb2.oth (q := ww141.heap.size) (i := 5) rfl hb2_3 e149
                have hb3 : Blk ww149 ww141.heap.size 39 [.int .i64 Writer123, .int .i64 Index124, .int .u64 Prev125, .int .i64 AtT126, .int .i64 AtW127, .int .i64 Epoch128, .slice none 0 0, .int .u64 0] := hb3.seti 5 rfl e149
                have hb4 := hb4.oth (q := ww141.heap.size) (i := 5) rfl (Ne.symm hb3_4) e149
                refine ⟨hb3.cani 6 rfl rfl, thenW_in fun ww150 e150 => ?_⟩
                have hx150 := hx149.x_set (q := ww141.heap.size) (i := 6) rfl (.inr hg3) e150
                have hb2 := hb2.oth (q := ww141.heap.size) (i := 6) rfl hb2_3 e150
                have hb3 : Blk ww150 ww141.heap.size 39 [.int .i64 Writer123, .int .i64 Index124, .int .u64 Prev125, .int .i64 AtT126, .int .i64 AtW127, .int .i64 Epoch128, .slice Body129a Body129n Body129c, .int .u64 0] := hb3.seti 6 rfl e150
                have hb4 := hb4.oth (q := ww141.heap.size) (i := 6) rfl (Ne.symm hb3_4) e150
                refine ⟨hb3.cani 7 rfl rfl, thenW_in fun ww151 e151 => ?_⟩
                have hx151 := hx150.x_set (q := ww141.heap.size) (i := 7) rfl (.inr hg3) e151
                have hb2 := hb2.oth (q := ww141.heap.size) (i := 7) rfl hb2_3 e151
                have hb3 : Blk ww151 ww141.heap.size 39 [.int .i64 Writer123, .int .i64 Index124, .int .u64 Prev125, .int .i64 AtT126, .int .i64 AtW127, .int .i64 Epoch128, .slice Body129a Body129n Body129c, .int .u64 Sig130] := hb3.seti 7 rfl e151
                have hb4 := hb4.oth (q := ww141.heap.size) (i := 7) rfl (Ne.symm hb3_4) e151
                refine ⟨hb4.cani 0 rfl rfl, thenW_in fun ww152 e152 => ?_⟩
                have hx152 := hx151.x_set (q := ww142.heap.size) (i := 0) rfl (.inr hg4) e152
                have hb2 := hb2.oth (q := ww142.heap.size) (i := 0) rfl hb2_4 e152
                have hb3 := hb3.oth (q := ww142.heap.size) (i := 0) rfl hb3_4 e152
                have hb4 : Blk ww152 ww142.heap.size 39 [.int .i64 Writer131, .int .i64 0, .int .u64 0, .int .i64 0, .int .i64 0, .int .i64 0, .slice none 0 0, .int .u64 0] := hb4.seti 0 rfl e152
                refine ⟨hb4.cani 1 rfl rfl, thenW_in fun ww153 e153 => ?_⟩
                have hx153 := hx152.x_set (q := ww142.heap.size) (i := 1) rfl (.inr hg4) e153
                have hb2 := hb2.oth (q := ww142.heap.size) (i := 1) rfl hb2_4 e153
                have hb3 := hb3.oth (q := ww142.heap.size) (i := 1) rfl hb3_4 e153
                have hb4 : Blk ww153 ww142.heap.size 39 [.int .i64 Writer131, .int .i64 Index132, .int .u64 0, .int .i64 0, .int .i64 0, .int .i64 0, .slice none 0 0, .int .u64 0] := hb4.seti 1 rfl e153
                refine ⟨hb4.cani 2 rfl rfl, thenW_in fun ww154 e154 => ?_⟩
                have hx154 := hx153.x_set (q := ww142.heap.size) (i := 2) rfl (.inr hg4) e154
                have hb2 := hb2.oth (q := ww142.heap.size) (i := 2) rfl hb2_4 e154
                have hb3 := hb3.oth (q := ww142.heap.size) (i := 2) rfl hb3_4 e154
                have hb4 : Blk ww154 ww142.heap.size 39 [.int .i64 Writer131, .int .i64 Index132, .int .u64 Prev133, .int .i64 0, .int .i64 0, .int .i64 0, .slice none 0 0, .int .u64 0] := hb4.seti 2 rfl e154
                refine ⟨hb4.cani 3 rfl rfl, thenW_in fun ww155 e155 => ?_⟩
                have hx155 := hx154.x_set (q := ww142.heap.size) (i := 3) rfl (.inr hg4) e155
                have hb2 := hb2.oth (q := ww142.heap.size) (i := 3) rfl hb2_4 e155
                have hb3 := hb3.oth (q := ww142.heap.size) (i := 3) rfl hb3_4 e155
                have hb4 : Blk ww155 ww142.heap.size 39 [.int .i64 Writer131, .int .i64 Index132, .int .u64 Prev133, .int .i64 AtT134, .int .i64 0, .int .i64 0, .slice none 0 0, .int .u64 0] := hb4.seti 3 rfl e155
                refine ⟨hb4.cani 4 rfl rfl, thenW_in fun ww156 e156 => ?_⟩
                have hx156 := hx155.x_set (q := ww142.heap.size) (i := 4) rfl (.inr hg4) e156
                have hb2 := hb2.oth (q := ww142.heap.size) (i := 4) rfl hb2_4 e156
                have hb3 := hb3.oth (q := ww142.heap.size) (i := 4) rfl hb3_4 e156
                have hb4 : Blk ww156 ww142.heap.size 39 [.int .i64 Writer131, .int .i64 Index132, .int .u64 Prev133, .int .i64 AtT134, .int .i64 AtW135, .int .i64 0, .slice none 0 0, .int .u64 0] := hb4.seti 4 rfl e156
                refine ⟨hb4.cani 5 rfl rfl, thenW_in fun ww157 e157 => ?_⟩
                have hx157 := hx156.x_set (q := ww142.heap.size) (i := 5) rfl (.inr hg4) e157
                have hb2 := hb2.oth (q := ww142.heap.size) (i := 5) rfl hb2_4 e157
                have hb3 := hb3.oth (q := ww142.heap.size) (i := 5) rfl hb3_4 e157
                have hb4 : Blk ww157 ww142.heap.size 39 [.int .i64 Writer131, .int .i64 Index132, .int .u64 Prev133, .int .i64 AtT134, .int .i64 AtW135, .int .i64 Epoch136, .slice none 0 0, .int .u64 0] := hb4.seti 5 rfl e157
                refine ⟨hb4.cani 6 rfl rfl, thenW_in fun ww158 e158 => ?_⟩
                have hx158 := hx157.x_set (q := ww142.heap.size) (i := 6) rfl (.inr hg4) e158
                have hb2 := hb2.oth (q := ww142.heap.size) (i := 6) rfl hb2_4 e158
                have hb3 := hb3.oth (q := ww142.heap.size) (i := 6) rfl hb3_4 e158
                have hb4 : Blk ww158 ww142.heap.size 39 [.int .i64 Writer131, .int .i64 Index132, .int .u64 Prev133, .int .i64 AtT134, .int .i64 AtW135, .int .i64 Epoch136, .slice Body137a Body137n Body137c, .int .u64 0] := hb4.seti 6 rfl e158
                refine ⟨hb4.cani 7 rfl rfl, thenW_in fun ww159 e159 => ?_⟩
                have hx159 := hx158.x_set (q := ww142.heap.size) (i := 7) rfl (.inr hg4) e159
                have hb2 := hb2.oth (q := ww142.heap.size) (i := 7) rfl hb2_4 e159
                have hb3 := hb3.oth (q := ww142.heap.size) (i := 7) rfl hb3_4 e159
                have hb4 : Blk ww159 ww142.heap.size 39 [.int .i64 Writer131, .int .i64 Index132, .int .u64 Prev133, .int .i64 AtT134, .int .i64 AtW135, .int .i64 Epoch136, .slice Body137a Body137n Body137c, .int .u64 Sig138] := hb4.seti 7 rfl e159
                refine elim_some ha91 ?_
                obtain ⟨hq1, hq2, h⟩ := h
                refine ⟨hq1, hq2, ?_⟩
                obtain ⟨Body161a, Body161n, Body161c, hc160, h⟩ := h
                refine ⟨Body161a, Body161n, Body161c, (hx159).cell hc160 id, ?_⟩
                have h := h ww159 (ww141.heap.size) (ww142.heap.size) hx159 (Priv.cons hg3 hb3.lt (Priv.cons hg4 hb4.lt Priv.nil))
                refine h.mono fun ee165 ww166 h => ?_
                obtain ⟨same164, he, hk, h⟩ := h
                refine ⟨same164, he, ?_⟩
                have hb2 := hk.blk hb2 (by simp)
                have hb3 := hk.blk hb3 (by simp)
                have hb4 := hk.blk hb4 (by simp)
                refine bif_of (fun c167 => ?_) (fun c167 => ?_)
                · have h := h.1 c167
                  refine bif_of (fun c168 => ?_) (fun c168 => ?_)
                  · have h := h.1 (not_t c168)
                    refine ⟨Writer99, Index100, Prev101, AtT102, AtW103, Epoch104, Body105a, Body105n, Body105c, Sig106, ⟨hb2.celli 0 rfl rfl, hb2.celli 1 rfl rfl, hb2.celli 2 rfl rfl, hb2.celli 3 rfl rfl, hb2.celli 4 rfl rfl, hb2.celli 5 rfl rfl, hb2.celli 6 rfl rfl, hb2.celli 7 rfl rfl, trivial⟩, ?_⟩
                    refine h.mono fun ee170 ww171 h => ?_
                    obtain ⟨check169, he, h⟩ := h
                    refine ⟨check169, he, ?_⟩
                    refine bif_of (fun c172 => ?_) (fun c172 => ?_)
                    · have h := h.1 (beq_t c172)
                      refine h.mono fun ee174 ww175 h => ?_
                      obtain ⟨alive173, he, h⟩ := h
                      refine ⟨alive173, he, ?_⟩
                      exact h
                    · have h := h.2 (beq_f c172)
                      exact h
                  · have h := h.2 (not_f c168)
                    exact h
                · have h := h.2 c167
                  refine elim_some ha91 ?_
                  obtain ⟨hq1, hq2, h⟩ := h
                  refine ⟨hq1, hq2, ?_⟩
                  obtain ⟨xWriter177, xIndex178, xPrev179, xAtT180, xAtW181, xEpoch182, xBody183a, xBody183n, xBody183c, xSig184, hc176, h⟩ := h
                  refine ⟨xWriter177, xIndex178, xPrev179, xAtT180, xAtW181, xEpoch182, xBody183a, xBody183n, xBody183c, xSig184, hc176, ?_⟩
                  refine h.mono fun ee202 ww203 h => ?_
                  obtain ⟨Writer185, Index186, Prev187, AtT188, AtW189, Epoch190, Body191a, Body191n, Body191c, Sig192, Writer193, Index194, Prev195, AtT196, AtW197, Epoch198, Body199a, Body199n, Body199c, Sig200, odds201, he, hk, h⟩ := h
                  refine ⟨Writer185, Index186, Prev187, AtT188, AtW189, Epoch190, Body191a, Body191n, Body191c, Sig192, Writer193, Index194, Prev195, AtT196, AtW197, Epoch198, Body199a, Body199n, Body199c, Sig200, odds201, he, ?_⟩
                  have hb2 := hk.blk hb2 (by simp)
                  have hb3 := hk.blk hb3 (by simp)
                  have hb4 := hk.blk hb4 (by simp)
                  refine thenW_in fun ww204 e204 => ?_
                  have hb5 := Blk.of_new e204
                  have hg5 := ((Ext.refl no ww203)).size
                  have hb2_5 := Nat.ne_of_lt hb2.lt
                  have hb2 := hb2.x_alloc e204
                  have hb3_5 := Nat.ne_of_lt hb3.lt
                  have hb3 := hb3.x_alloc e204
                  have hb4_5 := Nat.ne_of_lt hb4.lt
                  have hb4 := hb4.x_alloc e204
                  have hx204 := (Ext.refl no ww203).x_alloc e204
                  refine thenW_in fun ww205 e205 => ?_
                  have hb6 := Blk.of_new e205
                  have hg6 := (hx204).size
                  have hb2_6 := Nat.ne_of_lt hb2.lt
                  have hb2 := hb2.x_alloc e205
                  have hb3_6 := Nat.ne_of_lt hb3.lt
                  have hb3 := hb3.x_alloc e205
                  have hb4_6 := Nat.ne_of_lt hb4.lt
                  have hb4 := hb4.x_alloc e205
                  have hb5_6 := Nat.ne_of_lt hb5.lt
                  have hb5 := hb5.x_alloc e205
                  have hx205 := hx204.x_alloc e205
                  refine ⟨hb5.cani 0 rfl rfl, thenW_in fun ww206 e206 => ?_⟩
                  have hx206 := hx205.x_set (q := ww203.heap.size) (i := 0) rfl (.inr hg5) e206
                  have hb2 := hb2.oth (q := ww203.heap.size) (i := 0) rfl hb2_5 e206
                  have hb3 := hb3.oth (q := ww203.heap.size) (i := 0) rfl hb3_5 e206
                  have hb4 := hb4.oth (q := ww203.heap.size) (i := 0) rfl hb4_5 e206
                  have hb6 := hb6.oth (q := ww203.heap.size) (i := 0) rfl (Ne.symm hb5_6) e206
                  have hb5 : Blk ww206 ww203.heap.size 39 [.int .i64 Writer185, .int .i64 0, .int .u64 0, .int .i64 0, .int .i64 0, .int .i64 0, .slice none 0 0, .int .u64 0] := hb5.seti 0 rfl e206
                  refine ⟨hb5.cani 1 rfl rfl, thenW_in fun ww207 e207 => ?_⟩
                  have hx207 := hx206.x_set (q := ww203.heap.size) (i := 1) rfl (.inr hg5) e207
                  have hb2 := hb2.oth (q := ww203.heap.size) (i := 1) rfl hb2_5 e207
                  have hb3 := hb3.oth (q := ww203.heap.size) (i := 1) rfl hb3_5 e207
                  have hb4 := hb4.oth (q := ww203.heap.size) (i := 1) rfl hb4_5 e207
                  have hb6 := hb6.oth (q := ww203.heap.size) (i := 1) rfl (Ne.symm hb5_6) e207
                  have hb5 : Blk ww207 ww203.heap.size 39 [.int .i64 Writer185, .int .i64 Index186, .int .u64 0, .int .i64 0, .int .i64 0, .int .i64 0, .slice none 0 0, .int .u64 0] := hb5.seti 1 rfl e207
                  refine ⟨hb5.cani 2 rfl rfl, thenW_in fun ww208 e208 => ?_⟩
                  have hx208 := hx207.x_set (q := ww203.heap.size) (i := 2) rfl (.inr hg5) e208
                  have hb2 := hb2.oth (q := ww203.heap.size) (i := 2) rfl hb2_5 e208
                  have hb3 := hb3.oth (q := ww203.heap.size) (i := 2) rfl hb3_5 e208
                  have hb4 := hb4.oth (q := ww203.heap.size) (i := 2) rfl hb4_5 e208
                  have hb6 := hb6.oth (q := ww203.heap.size) (i := 2) rfl (Ne.symm hb5_6) e208
                  have hb5 : Blk ww208 ww203.heap.size 39 [.int .i64 Writer185, .int .i64 Index186, .int .u64 Prev187, .int .i64 0, .int .i64 0, .int .i64 0, .slice none 0 0, .int .u64 0] := hb5.seti 2 rfl e208
                  refine ⟨hb5.cani 3 rfl rfl, thenW_in fun ww209 e209 => ?_⟩
                  have hx209 := hx208.x_set (q := ww203.heap.size) (i := 3) rfl (.inr hg5) e209
                  have hb2 := hb2.oth (q := ww203.heap.size) (i := 3) rfl hb2_5 e209
                  have hb3 := hb3.oth (q := ww203.heap.size) (i := 3) rfl hb3_5 e209
                  have hb4 := hb4.oth (q := ww203.heap.size) (i := 3) rfl hb4_5 e209
                  have hb6 := hb6.oth (q := ww203.heap.size) (i := 3) rfl (Ne.symm hb5_6) e209
                  have hb5 : Blk ww209 ww203.heap.size 39 [.int .i64 Writer185, .int .i64 Index186, .int .u64 Prev187, .int .i64 AtT188, .int .i64 0, .int .i64 0, .slice none 0 0, .int .u64 0] := hb5.seti 3 rfl e209
                  refine ⟨hb5.cani 4 rfl rfl, thenW_in fun ww210 e210 => ?_⟩
                  have hx210 := hx209.x_set (q := ww203.heap.size) (i := 4) rfl (.inr hg5) e210
                  have hb2 := hb2.oth (q := ww203.heap.size) (i := 4) rfl hb2_5 e210
                  have hb3 := hb3.oth (q := ww203.heap.size) (i := 4) rfl hb3_5 e210
                  have hb4 := hb4.oth (q := ww203.heap.size) (i := 4) rfl hb4_5 e210
                  have hb6 := hb6.oth (q := ww203.heap.size) (i := 4) rfl (Ne.symm hb5_6) e210
                  have hb5 : Blk ww210 ww203.heap.size 39 [.int .i64 Writer185, .int .i64 Index186, .int .u64 Prev187, .int .i64 AtT188, .int .i64 AtW189, .int .i64 0, .slice none 0 0, .int .u64 0] := hb5.seti 4 rfl e210
                  refine ⟨hb5.cani 5 rfl rfl, thenW_in fun ww211 e211 => ?_⟩
                  have hx211 := hx210.x_set (q := ww203.heap.size) (i := 5) rfl (.inr hg5) e211
                  have hb2 := hb2.oth (q := ww203.heap.size) (i := 5) rfl hb2_5 e211
                  have hb3 := hb3.oth (q := ww203.heap.size) (i := 5) rfl hb3_5 e211
                  have hb4 := hb4.oth (q := ww203.heap.size) (i := 5) rfl hb4_5 e211
                  have hb6 := hb6.oth (q := ww203.heap.size) (i := 5) rfl (Ne.symm hb5_6) e211
                  have hb5 : Blk ww211 ww203.heap.size 39 [.int .i64 Writer185, .int .i64 Index186, .int .u64 Prev187, .int .i64 AtT188, .int .i64 AtW189, .int .i64 Epoch190, .slice none 0 0, .int .u64 0] := hb5.seti 5 rfl e211
                  refine ⟨hb5.cani 6 rfl rfl, thenW_in fun ww212 e212 => ?_⟩
                  have hx212 := hx211.x_set (q := ww203.heap.size) (i := 6) rfl (.inr hg5) e212
                  have hb2 := hb2.oth (q := ww203.heap.size) (i := 6) rfl hb2_5 e212
                  have hb3 := hb3.oth (q := ww203.heap.size) (i := 6) rfl hb3_5 e212
                  have hb4 := hb4.oth (q := ww203.heap.size) (i := 6) rfl hb4_5 e212
                  have hb6 := hb6.oth (q := ww203.heap.size) (i := 6) rfl (Ne.symm hb5_6) e212
                  have hb5 : Blk ww212 ww203.heap.size 39 [.int .i64 Writer185, .int .i64 Index186, .int .u64 Prev187, .int .i64 AtT188, .int .i64 AtW189, .int .i64 Epoch190, .slice Body191a Body191n Body191c, .int .u64 0] := hb5.seti 6 rfl e212
                  refine ⟨hb5.cani 7 rfl rfl, thenW_in fun ww213 e213 => ?_⟩
                  have hx213 := hx212.x_set (q := ww203.heap.size) (i := 7) rfl (.inr hg5) e213
                  have hb2 := hb2.oth (q := ww203.heap.size) (i := 7) rfl hb2_5 e213
                  have hb3 := hb3.oth (q := ww203.heap.size) (i := 7) rfl hb3_5 e213
                  have hb4 := hb4.oth (q := ww203.heap.size) (i := 7) rfl hb4_5 e213
                  have hb6 := hb6.oth (q := ww203.heap.size) (i := 7) rfl (Ne.symm hb5_6) e213
                  have hb5 : Blk ww213 ww203.heap.size 39 [.int .i64 Writer185, .int .i64 Index186, .int .u64 Prev187, .int .i64 AtT188, .int .i64 AtW189, .int .i64 Epoch190, .slice Body191a Body191n Body191c, .int .u64 Sig192] := hb5.seti 7 rfl e213
                  refine ⟨hb6.cani 0 rfl rfl, thenW_in fun ww214 e214 => ?_⟩
                  have hx214 := hx213.x_set (q := ww204.heap.size) (i := 0) rfl (.inr hg6) e214
                  have hb2 := hb2.oth (q := ww204.heap.size) (i := 0) rfl hb2_6 e214
                  have hb3 := hb3.oth (q := ww204.heap.size) (i := 0) rfl hb3_6 e214
                  have hb4 := hb4.oth (q := ww204.heap.size) (i := 0) rfl hb4_6 e214
                  have hb6 : Blk ww214 ww204.heap.size 39 [.int .i64 Writer193, .int .i64 0, .int .u64 0, .int .i64 0, .int .i64 0, .int .i64 0, .slice none 0 0, .int .u64 0] := hb6.seti 0 rfl e214
                  refine ⟨hb6.cani 1 rfl rfl, thenW_in fun ww215 e215 => ?_⟩
                  have hx215 := hx214.x_set (q := ww204.heap.size) (i := 1) rfl (.inr hg6) e215
                  have hb2 := hb2.oth (q := ww204.heap.size) (i := 1) rfl hb2_6 e215
                  have hb3 := hb3.oth (q := ww204.heap.size) (i := 1) rfl hb3_6 e215
                  have hb4 := hb4.oth (q := ww204.heap.size) (i := 1) rfl hb4_6 e215
                  have hb6 : Blk ww215 ww204.heap.size 39 [.int .i64 Writer193, .int .i64 Index194, .int .u64 0, .int .i64 0, .int .i64 0, .int .i64 0, .slice none 0 0, .int .u64 0] := hb6.seti 1 rfl e215
                  refine ⟨hb6.cani 2 rfl rfl, thenW_in fun ww216 e216 => ?_⟩
                  have hx216 := hx215.x_set (q := ww204.heap.size) (i := 2) rfl (.inr hg6) e216
                  have hb2 := hb2.oth (q := ww204.heap.size) (i := 2) rfl hb2_6 e216
                  have hb3 := hb3.oth (q := ww204.heap.size) (i := 2) rfl hb3_6 e216
                  have hb4 := hb4.oth (q := ww204.heap.size) (i := 2) rfl hb4_6 e216
                  have hb6 : Blk ww216 ww204.heap.size 39 [.int .i64 Writer193, .int .i64 Index194, .int .u64 Prev195, .int .i64 0, .int .i64 0, .int .i64 0, .slice none 0 0, .int .u64 0] := hb6.seti 2 rfl e216
                  refine ⟨hb6.cani 3 rfl rfl, thenW_in fun ww217 e217 => ?_⟩
                  have hx217 := hx216.x_set (q := ww204.heap.size) (i := 3) rfl (.inr hg6) e217
                  have hb2 := hb2.oth (q := ww204.heap.size) (i := 3) rfl hb2_6 e217
                  have hb3 := hb3.oth (q := ww204.heap.size) (i := 3) rfl hb3_6 e217
                  have hb4 := hb4.oth (q := ww204.heap.size) (i := 3) rfl hb4_6 e217
                  have hb6 : Blk ww217 ww204.heap.size 39 [.int .i64 Writer193, .int .i64 Index194, .int .u64 Prev195, .int .i64 AtT196, .int .i64 0, .int .i64 0, .slice none 0 0, .int .u64 0] := hb6.seti 3 rfl e217
                  refine ⟨hb6.cani 4 rfl rfl, thenW_in fun ww218 e218 => ?_⟩
                  have hx218 := hx217.x_set (q := ww204.heap.size) (i := 4) rfl (.inr hg6) e218
                  have hb2 := hb2.oth (q := ww204.heap.size) (i := 4) rfl hb2_6 e218
                  have hb3 := hb3.oth (q := ww204.heap.size) (i := 4) rfl hb3_6 e218
                  have hb4 := hb4.oth (q := ww204.heap.size) (i := 4) rfl hb4_6 e218
                  have hb6 : Blk ww218 ww204.heap.size 39 [.int .i64 Writer193, .int .i64 Index194, .int .u64 Prev195, .int .i64 AtT196, .int .i64 AtW197, .int .i64 0, .slice none 0 0, .int .u64 0] := hb6.seti 4 rfl e218
                  refine ⟨hb6.cani 5 rfl rfl, thenW_in fun ww219 e219 => ?_⟩
                  have hx219 := hx218.x_set (q := ww204.heap.size) (i := 5) rfl (.inr hg6) e219
                  have hb2 := hb2.oth (q := ww204.heap.size) (i := 5) rfl hb2_6 e219
                  have hb3 := hb3.oth (q := ww204.heap.size) (i := 5) rfl hb3_6 e219
                  have hb4 := hb4.oth (q := ww204.heap.size) (i := 5) rfl hb4_6 e219
                  have hb6 : Blk ww219 ww204.heap.size 39 [.int .i64 Writer193, .int .i64 Index194, .int .u64 Prev195, .int .i64 AtT196, .int .i64 AtW197, .int .i64 Epoch198, .slice none 0 0, .int .u64 0] := hb6.seti 5 rfl e219
                  refine ⟨hb6.cani 6 rfl rfl, thenW_in fun ww220 e220 => ?_⟩
                  have hx220 := hx219.x_set (q := ww204.heap.size) (i := 6) rfl (.inr hg6) e220
                  have hb2 := hb2.oth (q := ww204.heap.size) (i := 6) rfl hb2_6 e220
                  have hb3 := hb3.oth (q := ww204.heap.size) (i := 6) rfl hb3_6 e220
                  have hb4 := hb4.oth (q := ww204.heap.size) (i := 6) rfl hb4_6 e220
                  have hb6 : Blk ww220 ww204.heap.size 39 [.int .i64 Writer193, .int .i64 Index194, .int .u64 Prev195, .int .i64 AtT196, .int .i64 AtW197, .int .i64 Epoch198, .slice Body199a Body199n Body199c, .int .u64 0] := hb6.seti 6 rfl e220
                  refine ⟨hb6.cani 7 rfl rfl, thenW_in fun ww221 e221 => ?_⟩
                  have hx221 := hx220.x_set (q := ww204.heap.size) (i := 7) rfl (.inr hg6) e221
                  have hb2 := hb2.oth (q := ww204.heap.size) (i := 7) rfl hb2_6 e221
                  have hb3 := hb3.oth (q := ww204.heap.size) (i := 7) rfl hb3_6 e221
                  have hb4 := hb4.oth (q := ww204.heap.size) (i := 7) rfl hb4_6 e221
                  have hb6 : Blk ww221 ww204.heap.size 39 [.int .i64 Writer193, .int .i64 Index194, .int .u64 Prev195, .int .i64 AtT196, .int .i64 AtW197, .int .i64 Epoch198, .slice Body199a Body199n Body199c, .int .u64 Sig200] := hb6.seti 7 rfl e221
                  refine thenW_in fun ww222 e222 => ?_
                  have hx222 := hx221.x_drew e222
                  have hb2 := hb2.x_drew e222
                  have hb3 := hb3.x_drew e222
                  have hb4 := hb4.x_drew e222
                  refine bif_of (fun c223 => ?_) (fun c223 => ?_)
                  · have h := h.1 c223
                    refine ⟨Writer99, Index100, Prev101, AtT102, AtW103, Epoch104, Body105a, Body105n, Body105c, Sig106, ⟨hb2.celli 0 rfl rfl, hb2.celli 1 rfl rfl, hb2.celli 2 rfl rfl, hb2.celli 3 rfl rfl, hb2.celli 4 rfl rfl, hb2.celli 5 rfl rfl, hb2.celli 6 rfl rfl, hb2.celli 7 rfl rfl, trivial⟩, ?_⟩
                    have h := h ww222 hx222
                    refine h.mono fun ee227 ww228 h => ?_
                    obtain ⟨check226, he, hk, h⟩ := h
                    refine ⟨check226, he, ?_⟩
                    have hb2 := hk.blk hb2 (by simp)
                    have hb3 := hk.blk hb3 (by simp)
                    have hb4 := hk.blk hb4 (by simp)
                    refine bif_of (fun c229 => ?_) (fun c229 => ?_)
                    · have h := h.1 (beq_t c229)
                      refine ⟨Writer99, Index100, Prev101, AtT102, AtW103, Epoch104, Body105a, Body105n, Body105c, Sig106, ⟨hb2.celli 0 rfl rfl, hb2.celli 1 rfl rfl, hb2.celli 2 rfl rfl, hb2.celli 3 rfl rfl, hb2.celli 4 rfl rfl, hb2.celli 5 rfl rfl, hb2.celli 6 rfl rfl, hb2.celli 7 rfl rfl, trivial⟩, ?_⟩
                      refine h.mono fun ee231 ww232 h => ?_
                      obtain ⟨accept230, he, hk, h⟩ := h
                      refine ⟨accept230, he, ?_⟩
                      have hb2 := hk.blk hb2 (by simp)
                      have hb3 := hk.blk hb3 (by simp)
                      have hb4 := hk.blk hb4 (by simp)
                      refine bif_of (fun c233 => ?_) (fun c233 => ?_)
                      · have h := h.1 (beq_t c233)
                        refine ⟨Writer123, Index124, Prev125, AtT126, AtW127, Epoch128, Body129a, Body129n, Body129c, Sig130, ⟨hb3.celli 0 rfl rfl, hb3.celli 1 rfl rfl, hb3.celli 2 rfl rfl, hb3.celli 3 rfl rfl, hb3.celli 4 rfl rfl, hb3.celli 5 rfl rfl, hb3.celli 6 rfl rfl, hb3.celli 7 rfl rfl, trivial⟩, ?_⟩
                        refine elim_some ha91 ?_
                        obtain ⟨hq1, hq2, h⟩ := h
                        refine ⟨hq1, hq2, ?_⟩
                        obtain ⟨xWriter235, xIndex236, xPrev237, xAtT238, xAtW239, xEpoch240, xBody241a, xBody241n, xBody241c, xSig242, hc234, h⟩ := h
                        refine ⟨xWriter235, xIndex236, xPrev237, xAtT238, xAtW239, xEpoch240, xBody241a, xBody241n, xBody241c, xSig242, hc234, ?_⟩
                        refine h.mono fun ee244 ww245 h => ?_
                        obtain ⟨same243, he, hk, h⟩ := h
                        refine ⟨same243, he, ?_⟩
                        have hb2 := hk.blk hb2 (by simp)
                        have hb4 := hk.blk hb4 (by simp)
                        refine bif_of (fun c246 => ?_) (fun c246 => ?_)
                        · have h := h.1 c246
                          refine ⟨Writer131, Index132, Prev133, AtT134, AtW135, Epoch136, Body137a, Body137n, Body137c, Sig138, ⟨hb4.celli 0 rfl rfl, hb4.celli 1 rfl rfl, hb4.celli 2 rfl rfl, hb4.celli 3 rfl rfl, hb4.celli 4 rfl rfl, hb4.celli 5 rfl rfl, hb4.celli 6 rfl rfl, hb4.celli 7 rfl rfl, trivial⟩, ?_⟩
                          refine ⟨Writer99, Index100, Prev101, AtT102, AtW103, Epoch104, Body105a, Body105n, Body105c, Sig106, ⟨hb2.celli 0 rfl rfl, hb2.celli 1 rfl rfl, hb2.celli 2 rfl rfl, hb2.celli 3 rfl rfl, hb2.celli 4 rfl rfl, hb2.celli 5 rfl rfl, hb2.celli 6 rfl rfl, hb2.celli 7 rfl rfl, trivial⟩, ?_⟩
                          refine h.mono fun ee248 ww249 h => ?_
                          obtain ⟨same247, he, h⟩ := h
                          refine ⟨same247, he, ?_⟩
                          refine bif_of (fun c250 => ?_) (fun c250 => ?_)
                          · have h := h.1 c250
                            refine h.mono fun ee252 ww253 h => ?_
                            obtain ⟨len251, he, h⟩ := h
                            refine ⟨len251, he, ?_⟩
                            refine bif_of (fun c254 => ?_) (fun c254 => ?_)
                            · have h := h.1 (beq_t c254)
                              refine bif_of (fun c255 => ?_) (fun c255 => ?_)
                              · have h := h.1 (not_t c255)
                                refine h.mono fun ee257 ww258 h => ?_
                                obtain ⟨alive256, he, h⟩ := h
                                refine ⟨alive256, he, ?_⟩
                                exact h
                              · have h := h.2 (not_f c255)
                                exact h
                            · have h := h.2 (beq_f c254)
                              exact h
                          · have h := h.2 c250
                            exact h
                        · have h := h.2 c246
                          exact h
                      · have h := h.2 (beq_f c233)
                        exact h
                    · have h := h.2 (beq_f c229)
                      exact h
                  · have h := h.2 c223
                    have h := h ww222 hx222
                    exact h
            · refine thenW_in fun ww97 e97 => ?_
              have hb2 := Blk.of_new e97
              have hg2 := (hx90).size
              have hx97 := hx90.x_alloc e97
              refine ⟨(hx97).cell hc95 id, cellsAt_no (hx97) hc92, ?_⟩
              have h := h ww97 [ww90.heap.size] hx97 (Priv.cons hg2 hb2.lt Priv.nil)
              refine h.mono fun ee109 ww110 h => ?_
              obtain ⟨Writer100, Index101, Prev102, AtT103, AtW104, Epoch105, Body106a, Body106n, Body106c, Sig107, issue108, he, hkL, h⟩ := h
              refine ⟨Writer100, Index101, Prev102, AtT103, AtW104, Epoch105, Body106a, Body106n, Body106c, Sig107, issue108, he, ?_⟩
              have hb2 := hkL.blk hb2 (by simp)
              refine ⟨hb2.cani 0 rfl rfl, thenW_in fun ww111 e111 => ?_⟩
              have hx111 := (Ext.refl (fun b => b ∈ ([ww90.heap.size] : List Nat)) ww110).x_set (q := ww90.heap.size) (i := 0) rfl (.inl (by simp)) e111
              have hb2 : Blk ww111 ww90.heap.size 39 [.int .i64 Writer100, .int .i64 0, .int .u64 0, .int .i64 0, .int .i64 0, .int .i64 0, .slice none 0 0, .int .u64 0] := hb2.seti 0 rfl e111
              refine ⟨hb2.cani 1 rfl rfl, thenW_in fun ww112 e112 => ?_⟩
              have hx112 := hx111.x_set (q := ww90.heap.size) (i := 1) rfl (.inl (by simp)) e112
              have hb2 : Blk ww112 ww90.heap.size 39 [.int .i64 Writer100, .int .i64 Index101, .int .u64 0, .int .i64 0, .int .i64 0, .int .i64 0, .slice none 0 0, .int .u64 0] := hb2.seti 1 rfl e112
              refine ⟨hb2.cani 2 rfl rfl, thenW_in fun ww113 e113 => ?_⟩
              have hx113 := hx112.x_set (q := ww90.heap.size) (i := 2) rfl (.inl (by simp)) e113
              have hb2 : Blk ww113 ww90.heap.size 39 [.int .i64 Writer100, .int .i64 Index101, .int .u64 Prev102, .int .i64 0, .int .i64 0, .int .i64 0, .slice none 0 0, .int .u64 0] := hb2.seti 2 rfl e113
              refine ⟨hb2.cani 3 rfl rfl, thenW_in fun ww114 e114 => ?_⟩
              have hx114 := hx113.x_set (q := ww90.heap.size) (i := 3) rfl (.inl (by simp)) e114
              have hb2 : Blk ww114 ww90.heap.size 39 [.int .i64 Writer100, .int .i64 Index101, .int .u64 Prev102, .int .i64 AtT103, .int .i64 0, .int .i64 0, .slice none 0 0, .int .u64 0] := hb2.seti 3 rfl e114
              refine ⟨hb2.cani 4 rfl rfl, thenW_in fun ww115 e115 => ?_⟩
              have hx115 := hx114.x_set (q := ww90.heap.size) (i := 4) rfl (.inl (by simp)) e115
              have hb2 : Blk ww115 ww90.heap.size 39 [.int .i64 Writer100, .int .i64 Index101, .int .u64 Prev102, .int .i64 AtT103, .int .i64 AtW104, .int .i64 0, .slice none 0 0, .int .u64 0] := hb2.seti 4 rfl e115
              refine ⟨hb2.cani 5 rfl rfl, thenW_in fun ww116 e116 => ?_⟩
              have hx116 := hx115.x_set (q := ww90.heap.size) (i := 5) rfl (.inl (by simp)) e116
              have hb2 : Blk ww116 ww90.heap.size 39 [.int .i64 Writer100, .int .i64 Index101, .int .u64 Prev102, .int .i64 AtT103, .int .i64 AtW104, .int .i64 Epoch105, .slice none 0 0, .int .u64 0] := hb2.seti 5 rfl e116
              refine ⟨hb2.cani 6 rfl rfl, thenW_in fun ww117 e117 => ?_⟩
              have hx117 := hx116.x_set (q := ww90.heap.size) (i := 6) rfl (.inl (by simp)) e117
              have hb2 : Blk ww117 ww90.heap.size 39 [.int .i64 Writer100, .int .i64 Index101, .int .u64 Prev102, .int .i64 AtT103, .int .i64 AtW104, .int .i64 Epoch105, .slice Body106a Body106n Body106c, .int .u64 0] := hb2.seti 6 rfl e117
              refine ⟨hb2.cani 7 rfl rfl, thenW_in fun ww118 e118 => ?_⟩
              have hx118 := hx117.x_set (q := ww90.heap.size) (i := 7) rfl (.inl (by simp)) e118
              have hb2 : Blk ww118 ww90.heap.size 39 [.int .i64 Writer100, .int .i64 Index101, .int .u64 Prev102, .int .i64 AtT103, .int .i64 AtW104, .int .i64 Epoch105, .slice Body106a Body106n Body106c, .int .u64 Sig107] := hb2.seti 7 rfl e118
              refine bif_of (fun c119 => ?_) (fun c119 => ?_)
              · have h := h.1 (bne_t c119)
                have h := h ww118 hx118
                exact h
              · have h := h.2 (bne_f c119)
                refine ⟨Writer100, Index101, Prev102, AtT103, AtW104, Epoch105, Body106a, Body106n, Body106c, Sig107, ⟨hb2.celli 0 rfl rfl, hb2.celli 1 rfl rfl, hb2.celli 2 rfl rfl, hb2.celli 3 rfl rfl, hb2.celli 4 rfl rfl, hb2.celli 5 rfl rfl, hb2.celli 6 rfl rfl, hb2.celli 7 rfl rfl, trivial⟩, ?_⟩
                have h := h ww118 (ww90.heap.size) hx118 (PrivJ.cons (.inl (by simp)) hb2.lt PrivJ.nil)
                refine h.mono fun ee140 ww141 h => ?_
                obtain ⟨Writer123, Index124, Prev125, AtT126, AtW127, Epoch128, Body129a, Body129n, Body129c, Sig130, Writer131, Index132, Prev133, AtT134, AtW135, Epoch136, Body137a, Body137n, Body137c, Sig138, odds139, he, hk, h⟩ := h
                refine ⟨Writer123, Index124, Prev125, AtT126, AtW127, Epoch128, Body129a, Body129n, Body129c, Sig130, Writer131, Index132, Prev133, AtT134, AtW135, Epoch136, Body137a, Body137n, Body137c, Sig138, odds139, he, ?_⟩
                have hb2 := hk.blk hb2 (by simp)
                refine thenW_in fun ww142 e142 => ?_
                have hb3 := Blk.of_new e142
                have hg3 := ((Ext.refl no ww141)).size
                have hb2_3 := Nat.ne_of_lt hb2.lt
                have hb2 := hb2.x_alloc e142
                have hx142 := (Ext.refl no ww141).x_alloc e142
                refine thenW_in fun ww143 e143 => ?_
                have hb4 := Blk.of_new e143
                have hg4 := (hx142).size
                have hb2_4 := Nat.ne_of_lt hb2.lt
                have hb2 := hb2.x_alloc e143
                have hb3_4 := Nat.ne_of_lt hb3.lt
                have hb3 := hb3.x_alloc e143
                have hx143 := hx142.x_alloc e143
                refine ⟨hb3.cani 0 rfl rfl, thenW_in fun ww144 e144 => ?_⟩
                have hx144 := hx143.x_set (q := ww141.heap.size) (i := 0) rfl (.inr hg3) e144
                have hb2 := hb2.oth (q := ww141.heap.size) (i := 0) rfl hb2_3 e144
                have hb3 : Blk ww144 ww141.heap.size 39 [.int .i64 Writer123, .int .i64 0, .int .u64 0, .int .i64 0, .int .i64 0, .int .i64 0, .slice none 0 0, .int .u64 0] := hb3.seti 0 rfl e144
                have hb4 := hb4.oth (q := ww141.heap.size) (i := 0) rfl (Ne.symm hb3_4) e144
                refine ⟨hb3.cani 1 rfl rfl, thenW_in fun ww145 e145 => ?_⟩
                have hx145 := hx144.x_set (q := ww141.heap.size) (i := 1) rfl (.inr hg3) e145
                have hb2 := hb2.oth (q := ww141.heap.size) (i := 1) rfl hb2_3 e145
                have hb3 : Blk ww145 ww141.heap.size 39 [.int .i64 Writer123, .int .i64 Index124, .int .u64 0, .int .i64 0, .int .i64 0, .int .i64 0, .slice none 0 0, .int .u64 0] := hb3.seti 1 rfl e145
                have hb4 := hb4.oth (q := ww141.heap.size) (i := 1) rfl (Ne.symm hb3_4) e145
                refine ⟨hb3.cani 2 rfl rfl, thenW_in fun ww146 e146 => ?_⟩
                have hx146 := hx145.x_set (q := ww141.heap.size) (i := 2) rfl (.inr hg3) e146
                have hb2 := hb2.oth (q := ww141.heap.size) (i := 2) rfl hb2_3 e146
                have hb3 : Blk ww146 ww141.heap.size 39 [.int .i64 Writer123, .int .i64 Index124, .int .u64 Prev125, .int .i64 0, .int .i64 0, .int .i64 0, .slice none 0 0, .int .u64 0] := hb3.seti 2 rfl e146
                have hb4 := hb4.oth (q := ww141.heap.size) (i := 2) rfl (Ne.symm hb3_4) e146
                refine ⟨hb3.cani 3 rfl rfl, thenW_in fun ww147 e147 => ?_⟩
                have hx147 := hx146.x_set (q := ww141.heap.size) (i := 3) rfl (.inr hg3) e147
                have hb2 := hb2.oth (q := ww141.heap.size) (i := 3) rfl hb2_3 e147
                have hb3 : Blk ww147 ww141.heap.size 39 [.int .i64 Writer123, .int .i64 Index124, .int .u64 Prev125, .int .i64 AtT126, .int .i64 0, .int .i64 0, .slice none 0 0, .int .u64 0] := hb3.seti 3 rfl e147
                have hb4 := hb4.oth (q := ww141.heap.size) (i := 3) rfl (Ne.symm hb3_4) e147
                refine ⟨hb3.cani 4 rfl rfl, thenW_in fun ww148 e148 => ?_⟩
                have hx148 := hx147.x_set (q := ww141.heap.size) (i := 4) rfl (.inr hg3) e148
                have hb2 := hb2.oth (q := ww141.heap.size) (i := 4) rfl hb2_3 e148
                have hb3 : Blk ww148 ww141.heap.size 39 [.int .i64 Writer123, .int .i64 Index124, .int .u64 Prev125, .int .i64 AtT126, .int .i64 AtW127, .int .i64 0, .slice none 0 0, .int .u64 0] := hb3.seti 4 rfl e148
                have hb4 := hb4.oth (q := ww141.heap.size) (i := 4) rfl (Ne.symm hb3_4) e148
                refine ⟨hb3.cani 5 rfl rfl, thenW_in fun ww149 e149 => ?_⟩
                have hx149 := hx148.x_set (q := ww141.heap.size) (i := 5) rfl (.inr hg3) e149
                have hb2 := hb2.oth (q := ww141.heap.size) (i := 5) rfl hb2_3 e149
                have hb3 : Blk ww149 ww141.heap.size 39 [.int .i64 Writer123, .int .i64 Index124, .int .u64 Prev125, .int .i64 AtT126, .int .i64 AtW127, .int .i64 Epoch128, .slice none 0 0, .int .u64 0] := hb3.seti 5 rfl e149
                have hb4 := hb4.oth (q := ww141.heap.size) (i := 5) rfl (Ne.symm hb3_4) e149
                refine ⟨hb3.cani 6 rfl rfl, thenW_in fun ww150 e150 => ?_⟩
                have hx150 := hx149.x_set (q := ww141.heap.size) (i := 6) rfl (.inr hg3) e150
                have hb2 := hb2.oth (q := ww141.heap.size) (i := 6) rfl hb2_3 e150
                have hb3 : Blk ww150 ww141.heap.size 39 [.int .i64 Writer123, .int .i64 Index124, .int .u64 Prev125, .int .i64 AtT126, .int .i64 AtW127, .int .i64 Epoch128, .slice Body129a Body129n Body129c, .int .u64 0] := hb3.seti 6 rfl e150
                have hb4 := hb4.oth (q := ww141.heap.size) (i := 6) rfl (Ne.symm hb3_4) e150
                refine ⟨hb3.cani 7 rfl rfl, thenW_in fun ww151 e151 => ?_⟩
                have hx151 := hx150.x_set (q := ww141.heap.size) (i := 7) rfl (.inr hg3) e151
                have hb2 := hb2.oth (q := ww141.heap.size) (i := 7) rfl hb2_3 e151
                have hb3 : Blk ww151 ww141.heap.size 39 [.int .i64 Writer123, .int .i64 Index124, .int .u64 Prev125, .int .i64 AtT126, .int .i64 AtW127, .int .i64 Epoch128, .slice Body129a Body129n Body129c, .int .u64 Sig130] := hb3.seti 7 rfl e151
                have hb4 := hb4.oth (q := ww141.heap.size) (i := 7) rfl (Ne.symm hb3_4) e151
                refine ⟨hb4.cani 0 rfl rfl, thenW_in fun ww152 e152 => ?_⟩
                have hx152 := hx151.x_set (q := ww142.heap.size) (i := 0) rfl (.inr hg4) e152
                have hb2 := hb2.oth (q := ww142.heap.size) (i := 0) rfl hb2_4 e152
                have hb3 := hb3.oth (q := ww142.heap.size) (i := 0) rfl hb3_4 e152
                have hb4 : Blk ww152 ww142.heap.size 39 [.int .i64 Writer131, .int .i64 0, .int .u64 0, .int .i64 0, .int .i64 0, .int .i64 0, .slice none 0 0, .int .u64 0] := hb4.seti 0 rfl e152
                refine ⟨hb4.cani 1 rfl rfl, thenW_in fun ww153 e153 => ?_⟩
                have hx153 := hx152.x_set (q := ww142.heap.size) (i := 1) rfl (.inr hg4) e153
                have hb2 := hb2.oth (q := ww142.heap.size) (i := 1) rfl hb2_4 e153
                have hb3 := hb3.oth (q := ww142.heap.size) (i := 1) rfl hb3_4 e153
                have hb4 : Blk ww153 ww142.heap.size 39 [.int .i64 Writer131, .int .i64 Index132, .int .u64 0, .int .i64 0, .int .i64 0, .int .i64 0, .slice none 0 0, .int .u64 0] := hb4.seti 1 rfl e153
                refine ⟨hb4.cani 2 rfl rfl, thenW_in fun ww154 e154 => ?_⟩
                have hx154 := hx153.x_set (q := ww142.heap.size) (i := 2) rfl (.inr hg4) e154
                have hb2 := hb2.oth (q := ww142.heap.size) (i := 2) rfl hb2_4 e154
                have hb3 := hb3.oth (q := ww142.heap.size) (i := 2) rfl hb3_4 e154
                have hb4 : Blk ww154 ww142.heap.size 39 [.int .i64 Writer131, .int .i64 Index132, .int .u64 Prev133, .int .i64 0, .int .i64 0, .int .i64 0, .slice none 0 0, .int .u64 0] := hb4.seti 2 rfl e154
                refine ⟨hb4.cani 3 rfl rfl, thenW_in fun ww155 e155 => ?_⟩
                have hx155 := hx154.x_set (q := ww142.heap.size) (i := 3) rfl (.inr hg4) e155
                have hb2 := hb2.oth (q := ww142.heap.size) (i := 3) rfl hb2_4 e155
                have hb3 := hb3.oth (q := ww142.heap.size) (i := 3) rfl hb3_4 e155
                have hb4 : Blk ww155 ww142.heap.size 39 [.int .i64 Writer131, .int .i64 Index132, .int .u64 Prev133, .int .i64 AtT134, .int .i64 0, .int .i64 0, .slice none 0 0, .int .u64 0] := hb4.seti 3 rfl e155
                refine ⟨hb4.cani 4 rfl rfl, thenW_in fun ww156 e156 => ?_⟩
                have hx156 := hx155.x_set (q := ww142.heap.size) (i := 4) rfl (.inr hg4) e156
                have hb2 := hb2.oth (q := ww142.heap.size) (i := 4) rfl hb2_4 e156
                have hb3 := hb3.oth (q := ww142.heap.size) (i := 4) rfl hb3_4 e156
                have hb4 : Blk ww156 ww142.heap.size 39 [.int .i64 Writer131, .int .i64 Index132, .int .u64 Prev133, .int .i64 AtT134, .int .i64 AtW135, .int .i64 0, .slice none 0 0, .int .u64 0] := hb4.seti 4 rfl e156
                refine ⟨hb4.cani 5 rfl rfl, thenW_in fun ww157 e157 => ?_⟩
                have hx157 := hx156.x_set (q := ww142.heap.size) (i := 5) rfl (.inr hg4) e157
                have hb2 := hb2.oth (q := ww142.heap.size) (i := 5) rfl hb2_4 e157
                have hb3 := hb3.oth (q := ww142.heap.size) (i := 5) rfl hb3_4 e157
                have hb4 : Blk ww157 ww142.heap.size 39 [.int .i64 Writer131, .int .i64 Index132, .int .u64 Prev133, .int .i64 AtT134, .int .i64 AtW135, .int .i64 Epoch136, .slice none 0 0, .int .u64 0] := hb4.seti 5 rfl e157
                refine ⟨hb4.cani 6 rfl rfl, thenW_in fun ww158 e158 => ?_⟩
                have hx158 := hx157.x_set (q := ww142.heap.size) (i := 6) rfl (.inr hg4) e158
                have hb2 := hb2.oth (q := ww142.heap.size) (i := 6) rfl hb2_4 e158
                have hb3 := hb3.oth (q := ww142.heap.size) (i := 6) rfl hb3_4 e158
                have hb4 : Blk ww158 ww142.heap.size 39 [.int .i64 Writer131, .int .i64 Index132, .int .u64 Prev133, .int .i64 AtT134, .int .i64 AtW135, .int .i64 Epoch136, .slice Body137a Body137n Body137c, .int .u64 0] := hb4.seti 6 rfl e158
                refine ⟨hb4.cani 7 rfl rfl, thenW_in fun ww159 e159 => ?_⟩
                have hx159 := hx158.x_set (q := ww142.heap.size) (i := 7) rfl (.inr hg4) e159
                have hb2 := hb2.oth (q := ww142.heap.size) (i := 7) rfl hb2_4 e159
                have hb3 := hb3.oth (q := ww142.heap.size) (i := 7) rfl hb3_4 e159
                have hb4 : Blk ww159 ww142.heap.size 39 [.int .i64 Writer131, .int .i64 Index132, .int .u64 Prev133, .int .i64 AtT134, .int .i64 AtW135, .int .i64 Epoch136, .slice Body137a Body137n Body137c, .int .u64 Sig138] := hb4.seti 7 rfl e159
                refine elim_some ha91 ?_
                obtain ⟨hq1, hq2, h⟩ := h
                refine ⟨hq1, hq2, ?_⟩
                obtain ⟨Body161a, Body161n, Body161c, hc160, h⟩ := h
                refine ⟨Body161a, Body161n, Body161c, (hx159).cell hc160 id, ?_⟩
                have h := h ww159 (ww141.heap.size) (ww142.heap.size) hx159 (Priv.cons hg3 hb3.lt (Priv.cons hg4 hb4.lt Priv.nil))
                refine h.mono fun ee165 ww166 h => ?_
                obtain ⟨same164, he, hk, h⟩ := h
                refine ⟨same164, he, ?_⟩
                have hb2 := hk.blk hb2 (by simp)
                have hb3 := hk.blk hb3 (by simp)
                have hb4 := hk.blk hb4 (by simp)
                refine bif_of (fun c167 => ?_) (fun c167 => ?_)
                · have h := h.1 c167
                  refine bif_of (fun c168 => ?_) (fun c168 => ?_)
                  · have h := h.1 (not_t c168)
                    refine ⟨Writer100, Index101, Prev102, AtT103, AtW104, Epoch105, Body106a, Body106n, Body106c, Sig107, ⟨hb2.celli 0 rfl rfl, hb2.celli 1 rfl rfl, hb2.celli 2 rfl rfl, hb2.celli 3 rfl rfl, hb2.celli 4 rfl rfl, hb2.celli 5 rfl rfl, hb2.celli 6 rfl rfl, hb2.celli 7 rfl rfl, trivial⟩, ?_⟩
                    refine h.mono fun ee170 ww171 h => ?_
                    obtain ⟨check169, he, h⟩ := h
                    refine ⟨check169, he, ?_⟩
                    refine bif_of (fun c172 => ?_) (fun c172 => ?_)
                    · have h := h.1 (beq_t c172)
                      refine h.mono fun ee174 ww175 h => ?_
                      obtain ⟨alive173, he, h⟩ := h
                      refine ⟨alive173, he, ?_⟩
                      exact h
                    · have h := h.2 (beq_f c172)
                      exact h
                  · have h := h.2 (not_f c168)
                    exact h
                · have h := h.2 c167
                  refine elim_some ha91 ?_
                  obtain ⟨hq1, hq2, h⟩ := h
                  refine ⟨hq1, hq2, ?_⟩
                  obtain ⟨xWriter177, xIndex178, xPrev179, xAtT180, xAtW181, xEpoch182, xBody183a, xBody183n, xBody183c, xSig184, hc176, h⟩ := h
                  refine ⟨xWriter177, xIndex178, xPrev179, xAtT180, xAtW181, xEpoch182, xBody183a, xBody183n, xBody183c, xSig184, hc176, ?_⟩
                  refine h.mono fun ee202 ww203 h => ?_
                  obtain ⟨Writer185, Index186, Prev187, AtT188, AtW189, Epoch190, Body191a, Body191n, Body191c, Sig192, Writer193, Index194, Prev195, AtT196, AtW197, Epoch198, Body199a, Body199n, Body199c, Sig200, odds201, he, hk, h⟩ := h
                  refine ⟨Writer185, Index186, Prev187, AtT188, AtW189, Epoch190, Body191a, Body191n, Body191c, Sig192, Writer193, Index194, Prev195, AtT196, AtW197, Epoch198, Body199a, Body199n, Body199c, Sig200, odds201, he, ?_⟩
                  have hb2 := hk.blk hb2 (by simp)
                  have hb3 := hk.blk hb3 (by simp)
                  have hb4 := hk.blk hb4 (by simp)
                  refine thenW_in fun ww204 e204 => ?_
                  have hb5 := Blk.of_new e204
                  have hg5 := ((Ext.refl no ww203)).size
                  have hb2_5 := Nat.ne_of_lt hb2.lt
                  have hb2 := hb2.x_alloc e204
                  have hb3_5 := Nat.ne_of_lt hb3.lt
                  have hb3 := hb3.x_alloc e204
                  have hb4_5 := Nat.ne_of_lt hb4.lt
                  have hb4 := hb4.x_alloc e204
                  have hx204 := (Ext.refl no ww203).x_alloc e204
                  refine thenW_in fun ww205 e205 => ?_
                  have hb6 := Blk.of_new e205
                  have hg6 := (hx204).size
                  have hb2_6 := Nat.ne_of_lt hb2.lt
                  have hb2 := hb2.x_alloc e205
                  have hb3_6 := Nat.ne_of_lt hb3.lt
                  have hb3 := hb3.x_alloc e205
                  have hb4_6 := Nat.ne_of_lt hb4.lt
                  have hb4 := hb4.x_alloc e205
                  have hb5_6 := Nat.ne_of_lt hb5.lt
                  have hb5 := hb5.x_alloc e205
                  have hx205 := hx204.x_alloc e205
                  refine ⟨hb5.cani 0 rfl rfl, thenW_in fun ww206 e206 => ?_⟩
                  have hx206 := hx205.x_set (q := ww203.heap.size) (i := 0) rfl (.inr hg5) e206
                  have hb2 := hb2.oth (q := ww203.heap.size) (i := 0) rfl hb2_5 e206
                  have hb3 := hb3.oth (q := ww203.heap.size) (i := 0) rfl hb3_5 e206
                  have hb4 := hb4.oth (q := ww203.heap.size) (i := 0) rfl hb4_5 e206
                  have hb6 := hb6.oth (q := ww203.heap.size) (i := 0) rfl (Ne.symm hb5_6) e206
                  have hb5 : Blk ww206 ww203.heap.size 39 [.int .i64 Writer185, .int .i64 0, .int .u64 0, .int .i64 0, .int .i64 0, .int .i64 0, .slice none 0 0, .int .u64 0] := hb5.seti 0 rfl e206
                  refine ⟨hb5.cani 1 rfl rfl, thenW_in fun ww207 e207 => ?_⟩
                  have hx207 := hx206.x_set (q := ww203.heap.size) (i := 1) rfl (.inr hg5) e207
                  have hb2 := hb2.oth (q := ww203.heap.size) (i := 1) rfl hb2_5 e207
                  have hb3 := hb3.oth (q := ww203.heap.size) (i := 1) rfl hb3_5 e207
                  have hb4 := hb4.oth (q := ww203.heap.size) (i := 1) rfl hb4_5 e207
                  have hb6 := hb6.oth (q := ww203.heap.size) (i := 1) rfl (Ne.symm hb5_6) e207
                  have hb5 : Blk ww207 ww203.heap.size 39 [.int .i64 Writer185, .int .i64 Index186, .int .u64 0, .int .i64 0, .int .i64 0, .int .i64 0, .slice none 0 0, .int .u64 0] := hb5.seti 1 rfl e207
                  refine ⟨hb5.cani 2 rfl rfl, thenW_in fun ww208 e208 => ?_⟩
                  have hx208 := hx207.x_set (q := ww203.heap.size) (i := 2) rfl (.inr hg5) e208
                  have hb2 := hb2.oth (q := ww203.heap.size) (i := 2) rfl hb2_5 e208
                  have hb3 := hb3.oth (q := ww203.heap.size) (i := 2) rfl hb3_5 e208
                  have hb4 := hb4.oth (q := ww203.heap.size) (i := 2) rfl hb4_5 e208
                  have hb6 := hb6.oth (q := ww203.heap.size) (i := 2) rfl (Ne.symm hb5_6) e208
                  have hb5 : Blk ww208 ww203.heap.size 39 [.int .i64 Writer185, .int .i64 Index186, .int .u64 Prev187, .int .i64 0, .int .i64 0, .int .i64 0, .slice none 0 0, .int .u64 0] := hb5.seti 2 rfl e208
                  refine ⟨hb5.cani 3 rfl rfl, thenW_in fun ww209 e209 => ?_⟩
                  have hx209 := hx208.x_set (q := ww203.heap.size) (i := 3) rfl (.inr hg5) e209
                  have hb2 := hb2.oth (q := ww203.heap.size) (i := 3) rfl hb2_5 e209
                  have hb3 := hb3.oth (q := ww203.heap.size) (i := 3) rfl hb3_5 e209
                  have hb4 := hb4.oth (q := ww203.heap.size) (i := 3) rfl hb4_5 e209
                  have hb6 := hb6.oth (q := ww203.heap.size) (i := 3) rfl (Ne.symm hb5_6) e209
                  have hb5 : Blk ww209 ww203.heap.size 39 [.int .i64 Writer185, .int .i64 Index186, .int .u64 Prev187, .int .i64 AtT188, .int .i64 0, .int .i64 0, .slice none 0 0, .int .u64 0] := hb5.seti 3 rfl e209
                  refine ⟨hb5.cani 4 rfl rfl, thenW_in fun ww210 e210 => ?_⟩
                  have hx210 := hx209.x_set (q := ww203.heap.size) (i := 4) rfl (.inr hg5) e210
                  have hb2 := hb2.oth (q := ww203.heap.size) (i := 4) rfl hb2_5 e210
                  have hb3 := hb3.oth (q := ww203.heap.size) (i := 4) rfl hb3_5 e210
                  have hb4 := hb4.oth (q := ww203.heap.size) (i := 4) rfl hb4_5 e210
                  have hb6 := hb6.oth (q := ww203.heap.size) (i := 4) rfl (Ne.symm hb5_6) e210
                  have hb5 : Blk ww210 ww203.heap.size 39 [.int .i64 Writer185, .int .i64 Index186, .int .u64 Prev187, .int .i64 AtT188, .int .i64 AtW189, .int .i64 0, .slice none 0 0, .int .u64 0] := hb5.seti 4 rfl e210
                  refine ⟨hb5.cani 5 rfl rfl, thenW_in fun ww211 e211 => ?_⟩
                  have hx211 := hx210.x_set (q := ww203.heap.size) (i := 5) rfl (.inr hg5) e211
                  have hb2 := hb2.oth (q := ww203.heap.size) (i := 5) rfl hb2_5 e211
                  have hb3 := hb3.oth (q := ww203.heap.size) (i := 5) rfl hb3_5 e211
                  have hb4 := hb4.oth (q := ww203.heap.size) (i := 5) rfl hb4_5 e211
                  have hb6 := hb6.oth (q := ww203.heap.size) (i := 5) rfl (Ne.symm hb5_6) e211
                  have hb5 : Blk ww211 ww203.heap.size 39 [.int .i64 Writer185, .int .i64 Index186, .int .u64 Prev187, .int .i64 AtT188, .int .i64 AtW189, .int .i64 Epoch190, .slice none 0 0, .int .u64 0] := hb5.seti 5 rfl e211
                  refine ⟨hb5.cani 6 rfl rfl, thenW_in fun ww212 e212 => ?_⟩
                  have hx212 := hx211.x_set (q := ww203.heap.size) (i := 6) rfl (.inr hg5) e212
                  have hb2 := hb2.oth (q := ww203.heap.size) (i := 6) rfl hb2_5 e212
                  have hb3 := hb3.oth (q := ww203.heap.size) (i := 6) rfl hb3_5 e212
                  have hb4 := hb4.oth (q := ww203.heap.size) (i := 6) rfl hb4_5 e212
                  have hb6 := hb6.oth (q := ww203.heap.size) (i := 6) rfl (Ne.symm hb5_6) e212
                  have hb5 : Blk ww212 ww203.heap.size 39 [.int .i64 Writer185, .int .i64 Index186, .int .u64 Prev187, .int .i64 AtT188, .int .i64 AtW189, .int .i64 Epoch190, .slice Body191a Body191n Body191c, .int .u64 0] := hb5.seti 6 rfl e212
                  refine ⟨hb5.cani 7 rfl rfl, thenW_in fun ww213 e213 => ?_⟩
                  have hx213 := hx212.x_set (q := ww203.heap.size) (i := 7) rfl (.inr hg5) e213
                  have hb2 := hb2.oth (q := ww203.heap.size) (i := 7) rfl hb2_5 e213
                  have hb3 := hb3.oth (q := ww203.heap.size) (i := 7) rfl hb3_5 e213
                  have hb4 := hb4.oth (q := ww203.heap.size) (i := 7) rfl hb4_5 e213
                  have hb6 := hb6.oth (q := ww203.heap.size) (i := 7) rfl (Ne.symm hb5_6) e213
                  have hb5 : Blk ww213 ww203.heap.size 39 [.int .i64 Writer185, .int .i64 Index186, .int .u64 Prev187, .int .i64 AtT188, .int .i64 AtW189, .int .i64 Epoch190, .slice Body191a Body191n Body191c, .int .u64 Sig192] := hb5.seti 7 rfl e213
                  refine ⟨hb6.cani 0 rfl rfl, thenW_in fun ww214 e214 => ?_⟩
                  have hx214 := hx213.x_set (q := ww204.heap.size) (i := 0) rfl (.inr hg6) e214
                  have hb2 := hb2.oth (q := ww204.heap.size) (i := 0) rfl hb2_6 e214
                  have hb3 := hb3.oth (q := ww204.heap.size) (i := 0) rfl hb3_6 e214
                  have hb4 := hb4.oth (q := ww204.heap.size) (i := 0) rfl hb4_6 e214
                  have hb6 : Blk ww214 ww204.heap.size 39 [.int .i64 Writer193, .int .i64 0, .int .u64 0, .int .i64 0, .int .i64 0, .int .i64 0, .slice none 0 0, .int .u64 0] := hb6.seti 0 rfl e214
                  refine ⟨hb6.cani 1 rfl rfl, thenW_in fun ww215 e215 => ?_⟩
                  have hx215 := hx214.x_set (q := ww204.heap.size) (i := 1) rfl (.inr hg6) e215
                  have hb2 := hb2.oth (q := ww204.heap.size) (i := 1) rfl hb2_6 e215
                  have hb3 := hb3.oth (q := ww204.heap.size) (i := 1) rfl hb3_6 e215
                  have hb4 := hb4.oth (q := ww204.heap.size) (i := 1) rfl hb4_6 e215
                  have hb6 : Blk ww215 ww204.heap.size 39 [.int .i64 Writer193, .int .i64 Index194, .int .u64 0, .int .i64 0, .int .i64 0, .int .i64 0, .slice none 0 0, .int .u64 0] := hb6.seti 1 rfl e215
                  refine ⟨hb6.cani 2 rfl rfl, thenW_in fun ww216 e216 => ?_⟩
                  have hx216 := hx215.x_set (q := ww204.heap.size) (i := 2) rfl (.inr hg6) e216
                  have hb2 := hb2.oth (q := ww204.heap.size) (i := 2) rfl hb2_6 e216
                  have hb3 := hb3.oth (q := ww204.heap.size) (i := 2) rfl hb3_6 e216
                  have hb4 := hb4.oth (q := ww204.heap.size) (i := 2) rfl hb4_6 e216
                  have hb6 : Blk ww216 ww204.heap.size 39 [.int .i64 Writer193, .int .i64 Index194, .int .u64 Prev195, .int .i64 0, .int .i64 0, .int .i64 0, .slice none 0 0, .int .u64 0] := hb6.seti 2 rfl e216
                  refine ⟨hb6.cani 3 rfl rfl, thenW_in fun ww217 e217 => ?_⟩
                  have hx217 := hx216.x_set (q := ww204.heap.size) (i := 3) rfl (.inr hg6) e217
                  have hb2 := hb2.oth (q := ww204.heap.size) (i := 3) rfl hb2_6 e217
                  have hb3 := hb3.oth (q := ww204.heap.size) (i := 3) rfl hb3_6 e217
                  have hb4 := hb4.oth (q := ww204.heap.size) (i := 3) rfl hb4_6 e217
                  have hb6 : Blk ww217 ww204.heap.size 39 [.int .i64 Writer193, .int .i64 Index194, .int .u64 Prev195, .int .i64 AtT196, .int .i64 0, .int .i64 0, .slice none 0 0, .int .u64 0] := hb6.seti 3 rfl e217
                  refine ⟨hb6.cani 4 rfl rfl, thenW_in fun ww218 e218 => ?_⟩
                  have hx218 := hx217.x_set (q := ww204.heap.size) (i := 4) rfl (.inr hg6) e218
                  have hb2 := hb2.oth (q := ww204.heap.size) (i := 4) rfl hb2_6 e218
                  have hb3 := hb3.oth (q := ww204.heap.size) (i := 4) rfl hb3_6 e218
                  have hb4 := hb4.oth (q := ww204.heap.size) (i := 4) rfl hb4_6 e218
                  have hb6 : Blk ww218 ww204.heap.size 39 [.int .i64 Writer193, .int .i64 Index194, .int .u64 Prev195, .int .i64 AtT196, .int .i64 AtW197, .int .i64 0, .slice none 0 0, .int .u64 0] := hb6.seti 4 rfl e218
                  refine ⟨hb6.cani 5 rfl rfl, thenW_in fun ww219 e219 => ?_⟩
                  have hx219 := hx218.x_set (q := ww204.heap.size) (i := 5) rfl (.inr hg6) e219
                  have hb2 := hb2.oth (q := ww204.heap.size) (i := 5) rfl hb2_6 e219
                  have hb3 := hb3.oth (q := ww204.heap.size) (i := 5) rfl hb3_6 e219
                  have hb4 := hb4.oth (q := ww204.heap.size) (i := 5) rfl hb4_6 e219
                  have hb6 : Blk ww219 ww204.heap.size 39 [.int .i64 Writer193, .int .i64 Index194, .int .u64 Prev195, .int .i64 AtT196, .int .i64 AtW197, .int .i64 Epoch198, .slice none 0 0, .int .u64 0] := hb6.seti 5 rfl e219
                  refine ⟨hb6.cani 6 rfl rfl, thenW_in fun ww220 e220 => ?_⟩
                  have hx220 := hx219.x_set (q := ww204.heap.size) (i := 6) rfl (.inr hg6) e220
                  have hb2 := hb2.oth (q := ww204.heap.size) (i := 6) rfl hb2_6 e220
                  have hb3 := hb3.oth (q := ww204.heap.size) (i := 6) rfl hb3_6 e220
                  have hb4 := hb4.oth (q := ww204.heap.size) (i := 6) rfl hb4_6 e220
                  have hb6 : Blk ww220 ww204.heap.size 39 [.int .i64 Writer193, .int .i64 Index194, .int .u64 Prev195, .int .i64 AtT196, .int .i64 AtW197, .int .i64 Epoch198, .slice Body199a Body199n Body199c, .int .u64 0] := hb6.seti 6 rfl e220
                  refine ⟨hb6.cani 7 rfl rfl, thenW_in fun ww221 e221 => ?_⟩
                  have hx221 := hx220.x_set (q := ww204.heap.size) (i := 7) rfl (.inr hg6) e221
                  have hb2 := hb2.oth (q := ww204.heap.size) (i := 7) rfl hb2_6 e221
                  have hb3 := hb3.oth (q := ww204.heap.size) (i := 7) rfl hb3_6 e221
                  have hb4 := hb4.oth (q := ww204.heap.size) (i := 7) rfl hb4_6 e221
                  have hb6 : Blk ww221 ww204.heap.size 39 [.int .i64 Writer193, .int .i64 Index194, .int .u64 Prev195, .int .i64 AtT196, .int .i64 AtW197, .int .i64 Epoch198, .slice Body199a Body199n Body199c, .int .u64 Sig200] := hb6.seti 7 rfl e221
                  refine thenW_in fun ww222 e222 => ?_
                  have hx222 := hx221.x_drew e222
                  have hb2 := hb2.x_drew e222
                  have hb3 := hb3.x_drew e222
                  have hb4 := hb4.x_drew e222
                  refine bif_of (fun c223 => ?_) (fun c223 => ?_)
                  · have h := h.1 c223
                    refine ⟨Writer100, Index101, Prev102, AtT103, AtW104, Epoch105, Body106a, Body106n, Body106c, Sig107, ⟨hb2.celli 0 rfl rfl, hb2.celli 1 rfl rfl, hb2.celli 2 rfl rfl, hb2.celli 3 rfl rfl, hb2.celli 4 rfl rfl, hb2.celli 5 rfl rfl, hb2.celli 6 rfl rfl, hb2.celli 7 rfl rfl, trivial⟩, ?_⟩
                    have h := h ww222 hx222
                    refine h.mono fun ee227 ww228 h => ?_
                    obtain ⟨check226, he, hk, h⟩ := h
                    refine ⟨check226, he, ?_⟩
                    have hb2 := hk.blk hb2 (by simp)
                    have hb3 := hk.blk hb3 (by simp)
                    have hb4 := hk.blk hb4 (by simp)
                    refine bif_of (fun c229 => ?_) (fun c229 => ?_)
                    · have h := h.1 (beq_t c229)
                      refine ⟨Writer100, Index101, Prev102, AtT103, AtW104, Epoch105, Body106a, Body106n, Body106c, Sig107, ⟨hb2.celli 0 rfl rfl, hb2.celli 1 rfl rfl, hb2.celli 2 rfl rfl, hb2.celli 3 rfl rfl, hb2.celli 4 rfl rfl, hb2.celli 5 rfl rfl, hb2.celli 6 rfl rfl, hb2.celli 7 rfl rfl, trivial⟩, ?_⟩
                      refine h.mono fun ee231 ww232 h => ?_
                      obtain ⟨accept230, he, hk, h⟩ := h
                      refine ⟨accept230, he, ?_⟩
                      have hb2 := hk.blk hb2 (by simp)
                      have hb3 := hk.blk hb3 (by simp)
                      have hb4 := hk.blk hb4 (by simp)
                      refine bif_of (fun c233 => ?_) (fun c233 => ?_)
                      · have h := h.1 (beq_t c233)
                        refine ⟨Writer123, Index124, Prev125, AtT126, AtW127, Epoch128, Body129a, Body129n, Body129c, Sig130, ⟨hb3.celli 0 rfl rfl, hb3.celli 1 rfl rfl, hb3.celli 2 rfl rfl, hb3.celli 3 rfl rfl, hb3.celli 4 rfl rfl, hb3.celli 5 rfl rfl, hb3.celli 6 rfl rfl, hb3.celli 7 rfl rfl, trivial⟩, ?_⟩
                        refine elim_some ha91 ?_
                        obtain ⟨hq1, hq2, h⟩ := h
                        refine ⟨hq1, hq2, ?_⟩
                        obtain ⟨xWriter235, xIndex236, xPrev237, xAtT238, xAtW239, xEpoch240, xBody241a, xBody241n, xBody241c, xSig242, hc234, h⟩ := h
                        refine ⟨xWriter235, xIndex236, xPrev237, xAtT238, xAtW239, xEpoch240, xBody241a, xBody241n, xBody241c, xSig242, hc234, ?_⟩
                        refine h.mono fun ee244 ww245 h => ?_
                        obtain ⟨same243, he, hk, h⟩ := h
                        refine ⟨same243, he, ?_⟩
                        have hb2 := hk.blk hb2 (by simp)
                        have hb4 := hk.blk hb4 (by simp)
                        refine bif_of (fun c246 => ?_) (fun c246 => ?_)
                        · have h := h.1 c246
                          refine ⟨Writer131, Index132, Prev133, AtT134, AtW135, Epoch136, Body137a, Body137n, Body137c, Sig138, ⟨hb4.celli 0 rfl rfl, hb4.celli 1 rfl rfl, hb4.celli 2 rfl rfl, hb4.celli 3 rfl rfl, hb4.celli 4 rfl rfl, hb4.celli 5 rfl rfl, hb4.celli 6 rfl rfl, hb4.celli 7 rfl rfl, trivial⟩, ?_⟩
                          refine ⟨Writer100, Index101, Prev102, AtT103, AtW104, Epoch105, Body106a, Body106n, Body106c, Sig107, ⟨hb2.celli 0 rfl rfl, hb2.celli 1 rfl rfl, hb2.celli 2 rfl rfl, hb2.celli 3 rfl rfl, hb2.celli 4 rfl rfl, hb2.celli 5 rfl rfl, hb2.celli 6 rfl rfl, hb2.celli 7 rfl rfl, trivial⟩, ?_⟩
                          refine h.mono fun ee248 ww249 h => ?_
                          obtain ⟨same247, he, h⟩ := h
                          refine ⟨same247, he, ?_⟩
                          refine bif_of (fun c250 => ?_) (fun c250 => ?_)
                          · have h := h.1 c250
                            refine h.mono fun ee252 ww253 h => ?_
                            obtain ⟨len251, he, h⟩ := h
                            refine ⟨len251, he, ?_⟩
                            refine bif_of (fun c254 => ?_) (fun c254 => ?_)
                            · have h := h.1 (beq_t c254)
                              refine bif_of (fun c255 => ?_) (fun c255 => ?_)
                              · have h := h.1 (not_t c255)
                                refine h.mono fun ee257 ww258 h => ?_
                                obtain ⟨alive256, he, h⟩ := h
                                refine ⟨alive256, he, ?_⟩
                                exact h
                              · have h := h.2 (not_f c255)
                                exact h
                            · have h := h.2 (beq_f c254)
                              exact h
                          · have h := h.2 c250
                            exact h
                        · have h := h.2 c246
                          exact h
                      · have h := h.2 (beq_f c233)
                        exact h
                    · have h := h.2 (beq_f c229)
                      exact h
                  · have h := h.2 c223
                    have h := h ww222 hx222
                    exact h

theorem cachettelaw07_ChainForks.go (l1a : Option Addr) (l1n : Nat) (l1c : Nat) (atv2 : Int) (body3a : Option Addr) (body3n : Nat) (body3c : Nat) {R : Value → World → Prop} {w : World} (h : cachettelaw07_ChainForks.N l1a l1n l1c atv2 body3a body3n body3c R w) : Calls Try.prog 5 #[.slice l1a l1n l1c, .int .i64 atv2, .slice body3a body3n body3c] w fun e w' => ∃ v, e = .returned v ∧ R v w' := cachettelaw07_ChainForks.ok l1a l1n l1c atv2 body3a body3n body3c (cachettelaw07_ChainForks.up l1a l1n l1c atv2 body3a body3n body3c h)
theorem cachettelaw07_ChainForks.run (l1a : Option Addr) (l1n : Nat) (l1c : Nat) (atv2 : Int) (body3a : Option Addr) (body3n : Nat) (body3c : Nat) {V : Value} {Q : World → Prop} {w : World} (h : cachettelaw07_ChainForks.N l1a l1n l1c atv2 body3a body3n body3c (fun v w' => v = V ∧ Q w') w) : Calls Try.prog 5 #[.slice l1a l1n l1c, .int .i64 atv2, .slice body3a body3n body3c] w (Ret V Q) := (cachettelaw07_ChainForks.go l1a l1n l1c atv2 body3a body3n body3c h).mono fun e w' ⟨v, he, hv, hq⟩ => ⟨by rw [he, hv], hq⟩

end Go.Proofs.Ytnppbflccbpoeaa

/- Two logs of one oracle; a log that is accepted whole; plain laws of all this. -/
set_option linter.unusedVariables false
set_option linter.unusedSimpArgs false
set_option maxRecDepth 20000
set_option maxHeartbeats 2000000
namespace Go.Proofs.Ytnppbflccbpoeaa
open Go Go.Mx Go.Proofs
open W (OwnB GivesW numR countR doneR zig unzig intR)
/-- an oracle, a pair of keys, and a log. -/
theorem start7 {W : World} {da : Option Addr} {dc : Nat} {d : List Int} (hd : RowAt W da (d.map u64V)) (hl : d.length ≤ 1000000) (hr : ∀ x ∈ d, 0 ≤ x ∧ x < 18446744073709551616) {Φ : Option Addr → Int → Int → Option Addr → Int → World → Prop}
    (hΦ : ∀ (w : World) (o : Own) (k q : Nat) (s p : Int) (S : OS), W.heap.size ≤ k → W.heap.size ≤ q → Step no W (fun _ => none) w o → OneI w o q k s p S ⟨1, p, [], 0⟩ 2 → Φ (some (blk k)) s p (some (blk q)) 0 w) :
    Calls Try.prog 11 #[.slice da d.length dc] W fun ee w1 => ∃ (a : Option Addr), ee = .returned (.pointer a) ∧
    Calls Try.prog 12 #[.pointer a] w1 fun ee w2 => ∃ (s : Int) (p : Int), ee = .returned (.tuple #[.int .u64 s, .int .u64 p]) ∧
    Calls Try.prog 13 #[.pointer a, .int .i64 1, .int .u64 p] w2 fun ee w3 => ∃ (q : Option Addr) (cd : Int), ee = .returned (.tuple #[.pointer q, .int .i64 cd]) ∧ Φ a s p q cd w3 := by
  have ok0 : Tags W (fun _ => none) := fun b j _ h => by cases h
  refine (NewO (c := dc) ok0 hd hl).mono fun v w12 ⟨k, o12, hx, hk, s12, P12⟩ => ⟨_, hx, ?_⟩
  have i0 : OInv (OS.init d) := OInv.init hr
  have u0 : (OS.init d).used.length = 0 := rfl
  refine (PairO P12 s12.ok i0.ok (by omega)).mono fun v w16 ⟨o16, hx, s16', P16⟩ => ⟨_, _, hx, ?_⟩
  obtain ⟨i1, _, kp, ks, _⟩ := pair_inv i0
  have u1 : (pairOf (OS.init d)).2.used.length ≤ 2 := by have := (pairOf_ok i0.ok).2; omega
  have s16 : Step no W (fun _ => none) w16 o16 := s12.trans' s16' fun i hi => .inr (by omega)
  refine (cNew_spec (k := k) s16.ok 1 (pairOf (OS.init d)).1.2).mono fun v w20 h => ?_
  rcases h with ⟨h, _⟩ | ⟨_, q, o20, hx, hq, s20', PL20⟩
  · exact absurd ⟨by decide, by decide⟩ h
  have s20 := s16.trans s20'
  have hkl := P16.lt
  have l16 := s16.size
  exact ⟨_, _, hx, hΦ w20 o20 k q _ _ _ hk (by omega) s20 ⟨PL20, P16.step s20' id, s20.ok, i1, ⟨ks, kp⟩, LOk.nil 1, u1, by omega⟩⟩
/-- two logs of one oracle. -/
structure DuoI (w : World) (o : Own) (qa qb k : Nat) (s p : Int) (S : OS) (La Lb : CL) (n : Nat) : Prop where
  a : OneI w o qa k s p S La n
  b : OneI w o qb k s p S Lb n
  ab : qa ≠ qb
section
variable {w w' w1 W0 : World} {o o' o1 : Own} {q qa qb k n n' N : Nat} {K : Nat → Prop} {s p : Int} {S S' : OS} {L L' La Lb La' Lb' : CL} {e : Ent} {a : Option Addr} {c : Nat} {l : List PE} {es es1 es2 : List Ent}
theorem DuoI.step (h : DuoI w o qa qb k s p S La Lb n) (t : Step K w o w' o') (ha : ¬ K qa) (hb : ¬ K qb) (hk : ¬ K k) : DuoI w' o' qa qb k s p S La Lb n := ⟨h.a.step t ha hk, h.b.step t hb hk, h.ab⟩
theorem DuoI.mono (h : DuoI w o qa qb k s p S La Lb n) (hm : n ≤ n') : DuoI w o qa qb k s p S La Lb n' := ⟨h.a.mono hm, h.b.mono hm, h.ab⟩
theorem DuoI.onA (h : DuoI w o qa qb k s p S La Lb n) (t : Step (fun i => i = qa ∨ i = k) w o w' o') (one : OneI w' o' qa k s p S' La' n') (le : OS.le S S') : DuoI w' o' qa qb k s p S' La' Lb n' :=
  ⟨one, ⟨h.b.log.step t (by have := h.ab; have := h.b.ne; omega), one.orc, one.ok, one.inv, one.key, h.b.lok.le le, one.len, h.b.ne⟩, h.ab⟩
theorem DuoI.onB (h : DuoI w o qa qb k s p S La Lb n) (t : Step (fun i => i = qb ∨ i = k) w o w' o') (one : OneI w' o' qb k s p S' Lb' n') (le : OS.le S S') : DuoI w' o' qa qb k s p S' La Lb' n' :=
  ⟨⟨h.a.log.step t (by have := h.ab; have := h.a.ne; omega), one.orc, one.ok, one.inv, one.key, h.a.lok.le le, one.len, h.a.ne⟩, one, h.ab⟩
/-- a second log of the same oracle. -/
theorem OneI.second (h : OneI w o q k s p S L n) : Calls Try.prog 13 #[.pointer (some (blk k)), .int .i64 1, .int .u64 p] w (fun x w' => ∃ qb o', x = .returned (.tuple #[.pointer (some (blk qb)), .int .i64 0]) ∧ w.heap.size ≤ qb ∧ Step no w o w' o' ∧ DuoI w' o' q qb k s p S L ⟨1, p, [], 0⟩ n) := by
  refine (cNew_spec (k := k) h.ok 1 p).mono fun v w20 hh => ?_
  rcases hh with ⟨h, _⟩ | ⟨_, qb, o20, hx, hq, s20, PL⟩
  · exact absurd ⟨by decide, by decide⟩ h
  have h20 := h.step s20 id id
  have l1 := h.log.lt
  have l2 := h.orc.lt
  exact ⟨qb, o20, hx, hq, s20, h20, ⟨PL, h20.orc, h20.ok, h20.inv, h20.key, LOk.nil 1, h20.len, by omega⟩, by omega⟩
theorem OneI.accept (h : OneI w o q k s p S L n) (hn : n + 2 < 1000000) (hf : entRight e = true → e.fit) (hb : Row w o a (bytesV e.body)) :
    Calls Try.prog 15 #[.pointer (some (blk q)), entV e a c] w (fun x w' => ∃ (o' : Own) (S' : OS) (L' : CL) (cd : Int), x = .returned (.int .i64 cd) ∧ Step (fun i => i = q ∨ i = k) w o w' o' ∧ OneI w' o' q k s p S' L' (n + 1) ∧ OS.le S S' ∧ L'.wr = L.wr ∧ L'.es = (if cd = 0 then L.es ++ [e] else L.es) ∧ acceptC S L e = (cd, L', S')) := by
  have hu := h.len
  refine (cAccept_spec h.log h.orc h.ok h.ne h.inv.ok (by omega) hf hb).mono fun x w' ⟨o', he, st, pl, po⟩ => ?_
  obtain ⟨b1, b2, b3, b4, b5, b6⟩ := h.lok.accept h.inv h.key hf
  exact ⟨o', _, _, _, he, st, ⟨pl, po, st.ok, b2, h.key.le b3, b1, by omega, h.ne⟩, b3, b5, b6, rfl⟩
/-- the next one of a log that is good. -/
theorem Good.next (g : Good S L.wr s es) (inv : OInv S) (hk : Keyed S s p) {t : Nat} (he : es[t]? = some e) (hL : L.es = es.take t) (hs : L.sum = sumS S L.es) (hp : L.pb = p) (hf : es.length ≤ 200) :
    acceptC S L e = (0, { L with es := es.take (t + 1), sum := sumS S (es.take (t + 1)) }, S) := by
  obtain ⟨h1, x, hx⟩ := g t e he
  have hlok : LOk S s p L := ⟨by rw [hL]; exact g.take t, hs, hp, by rw [hL, List.length_take]; omega⟩
  have hc := hlok.accepts hk (by rw [hL]; exact h1)
  unfold acceptC
  rw [if_pos hc]
  unfold putC
  rw [sumE_right h1.right, hash_eq hx, hL]
  have : es.take (t + 1) = es.take t ++ [e] := by rw [List.take_add_one, he]; rfl
  rw [this]
  have : sumS S (es.take t ++ [e]) = x := by unfold sumS; rw [List.getLast?_append]; simp [hv, hx]
  rw [this]
/-- what is there is told as there. -/
theorem check_old (h : LOk S s p L) (hk : Keyed S s p) {t : Nat} (he : L.es[t]? = some e) : checkC S L e = 8 := by
  obtain ⟨h1, _⟩ := h.good t e he
  have ht := (List.getElem?_eq_some_iff.1 he).1
  have hi : e.i = t := by rw [h1.i, List.length_take]; omega
  have r0 : rightC S L e = 0 := by
    unfold rightC
    rw [if_pos h1.right, if_pos h1.w, h.pb, if_pos ((holdsE_iff hk).2 ⟨h1.right, h1.sg⟩)]
  have p8 : placeC L e = 8 := by
    unfold placeC
    rw [hi, if_neg (by omega), if_neg (by omega), Int.toNat_natCast, if_pos he]
  unfold checkC
  rw [if_neg (not_not_intro r0), p8]; rfl
/-- another one, signed, for a place that is there. -/
theorem check_new (h : LOk S s p L) (hk : Keyed S s p) {t : Nat} {x : Ent} (hx : L.es[t]? = some x) (hr : entRight e = true) (hw : e.w = L.wr) (hi : e.i = t) (hsg : alook S.signed e.sg = some (s, textL e)) (hne : e ≠ x) : checkC S L e = 9 := by
  have ht := (List.getElem?_eq_some_iff.1 hx).1
  have r0 : rightC S L e = 0 := by
    unfold rightC
    rw [if_pos hr, if_pos hw, h.pb, if_pos ((holdsE_iff hk).2 ⟨hr, hsg⟩)]
  have p9 : placeC L e = 9 := by
    unfold placeC
    rw [hi, if_neg (by omega), if_neg (by omega), Int.toNat_natCast, hx, if_neg (by intro h; injection h with h; exact hne h.symm)]
  unfold checkC
  rw [if_neg (not_not_intro r0), p9]; rfl
/-- an entry for the next place of a log, as another one that would fit there, but with another body. -/
theorem issue_as (h : LOk S s p L) (inv : OInv S) (hk : Keyed S s p) {x : Ent} (hx : OkAt S L.wr s L.es x) (hl : L.es.length < 200) {body : List UInt8} (hb : body.length ≤ 1000) :
    (issueC S L s x.t x.tw x.ep body).1 = ({ x with body := body, sg := (signOf S s (textL { x with body := body })).1.1 }, 0) := by
  have hn : nextE L x.t x.tw x.ep body = { x with body := body, sg := 0 } := by
    unfold nextE
    rw [← hx.w, ← hx.i, h.sum, ← hx.pv]
  obtain ⟨q1, q2, q3, q4, q5, q6, q7, q8, q9, q10, q11⟩ := (entRight_iff _).1 hx.right
  have hr : entRight (nextE L x.t x.tw x.ep body) = true := by
    rw [hn]; exact (entRight_iff _).2 ⟨q1, q2, q3, q4, q5, q6, q7, q8, q9, by show body.length ≤ 1100; omega, q11⟩
  have hb0 : behindC L (nextE L x.t x.tw x.ep body) = 0 := by
    rw [hn]; exact behind_ok (by show x.pv = _; rw [hx.pv, h.sum]) hx.late
  obtain ⟨a1, a2, a3, a4, a5, a6, a7, a8⟩ := sign_inv inv hk.sec (textL (nextE L x.t x.tw x.ep body))
  unfold issueC
  rw [if_neg (by omega), if_pos hr, if_neg (not_not_intro hb0)]
  have hs : signE S s (nextE L x.t x.tw x.ep body) = (({ nextE L x.t x.tw x.ep body with sg := (signOf S s (textL (nextE L x.t x.tw x.ep body))).1.1 }, 0), (signOf S s (textL (nextE L x.t x.tw x.ep body))).2) := by
    unfold signE; rw [if_pos hr, if_pos a3]
  rw [hs, if_neg (by simp)]
  rw [hn]; rfl
theorem sign_again (inv : OInv S) (hk : Keyed S s p) (hsg : alook S.signed e.sg = some (s, textL e)) : (signOf S s (textL e)).1.1 = e.sg := by
  rw [sign_eq hk.sec (inv.gs _ _ hsg)]
end
end Go.Proofs.Ytnppbflccbpoeaa

/- ChainStays, ChainForks, ChainHeads. -/
set_option linter.unusedVariables false
set_option linter.unusedSimpArgs false
set_option maxRecDepth 20000
set_option maxHeartbeats 2000000
namespace Go.Proofs.Ytnppbflccbpoeaa
open Go Go.Mx Go.Proofs
open W (OwnB GivesW numR countR doneR zig unzig intR)
theorem noW {W : World} {a : Option Addr} {cs : List Value} (h : RowAt W a cs) : Row W (fun _ => none) a cs := ⟨h, fun _ _ _ => rfl⟩
theorem LOk.bodies {S : OS} {s p : Int} {L : CL} (h : LOk S s p L) : ∀ e ∈ L.es, e.body.length ≤ 1100 ∧ entRight e = true ∧ e.fit := fun e he => by
  obtain ⟨i, hi⟩ := List.getElem?_of_mem he
  have h1 := (h.good i e hi).1
  exact ⟨((entRight_iff _).1 h1.right).2.2.2.2.2.2.2.2.2.1, h1.right, h1.fit⟩
end Go.Proofs.Ytnppbflccbpoeaa

/- ChainForks. -/
set_option linter.unusedVariables false
set_option linter.unusedSimpArgs false
set_option maxRecDepth 20000
set_option maxHeartbeats 2000000
namespace Go.Proofs.Ytnppbflccbpoeaa
open Go Go.Mx Go.Proofs
open W (OwnB GivesW numR countR doneR zig unzig intR)
theorem ChainForks_spec (W : World) {la ba : Option Addr} {lc bc : Nat} {l : List CO} {at_ : Int} {body : List UInt8} (hl : RowAt W la (l.flatMap CO.C)) (hg : ∀ p ∈ l, p.good W) (hb : RowAt W ba (bytesV body)) :
    Calls Try.prog 5 #[.slice la l.length lc, .int .i64 at_, .slice ba body.length bc] W (Ret (.bool true) fun w' => Ext no W w') := by
  refine cachettelaw07_ChainForks.run _ _ _ _ _ _ _ ?_
  unfold cachettelaw07_ChainForks.N
  refine (light_spec (da := none) (dc := 0) (dn := 0) hl).mono fun e w5 ⟨he, hw⟩ => ⟨_, he, fun _ => ?_, fun hL => ⟨fun _ => ?_, fun hol => ?_⟩⟩
  · subst hw
    exact (alive7_spec _).mono fun e w9 ⟨he, X⟩ => ⟨_, he, rfl, X⟩
  · subst hw
    exact (alive7_spec _).mono fun e w9 ⟨he, X⟩ => ⟨_, he, rfl, X⟩
  subst hw
  obtain ⟨hL1, hL2, hL3⟩ := light_of hL
  refine start7 (d := []) (RowAt.nil _ _) (by simp) (by simp) fun w25 o25 k q s p S1 hk hq s25 one25 => ?_
  refine one25.second.mono fun v w29 ⟨qb, o29, hx, hqb, s29', duo29⟩ => ⟨_, _, hx, ?_⟩
  have s29 := s25.trans s29'
  have hqbW : w5.heap.size ≤ qb := Nat.le_trans s25.size hqb
  have hkN := duo29.a.orc.lt
  have hqN := duo29.a.log.lt
  have hqbN := duo29.b.log.lt
  refine ⟨fun m vs w1 => ∃ (t : Nat) (a1 : Option Addr) (c1 : Nat) (l1 : List PE) (o1 : Own) (S : OS) (La Lb : CL), vs = [.slice a1 l1.length c1, .int .i64 t] ∧ m + t = l.length ∧ Step no w5 (fun _ => none) w1 o1 ∧ DuoI w1 o1 q qb k s p S La Lb (2 + 4 * t) ∧ La.wr = 1 ∧ Lb.wr = 1 ∧ Kept w29.heap.size w1 o1 a1 c1 l1 ∧ l1.map PE.e = La.es ∧ Lb.es = La.es.take at_.toNat ∧ w29.heap.size ≤ w1.heap.size, l.length, ⟨0, none, 0, [], o29, S1, _, _, rfl, rfl, s29, duo29, rfl, rfl, Kept.nil _ _ _, rfl, by simp, Nat.le_refl _⟩, ?_⟩
  rintro m w1 ra rn rc i ⟨t, a1, c1, l1, o1, S, La, Lb, hi, hm, s1, duo1, hwa, hwb, kept1, hmap, htake, hN1⟩
  simp only [List.cons.injEq, Value.slice.injEq, Value.int.injEq, true_and, and_true] at hi
  obtain ⟨⟨rfl, rfl, rfl⟩, rfl⟩ := hi
  have hlen1 : l1.length = La.es.length := by rw [← hmap]; simp
  have hfa := duo1.a.lok.few
  refine ⟨fun htl => ?_, fun hge => ?_⟩
  · have htl : t < l.length := by omega
    have hgt : l[t]? = some l[t] := List.getElem?_eq_getElem htl
    have hl1 := (noW hl).step s1
    obtain ⟨ad, rfl⟩ := hl.faddr CO.len (by decide) htl
    have hgd := hg _ (List.getElem_mem htl)
    generalize l[t] = x at *
    have c1' := hl1.1.fcell CO.len hgt 1 (v := .int .i64 x.t) rfl
    have c2' := hl1.1.fcell CO.len hgt 2 (v := .int .i64 x.ep) rfl
    have c3' := hl1.1.fcell CO.len hgt 3 (v := .slice x.a x.B.length x.c) rfl
    refine ⟨ad, rfl, by omega, by omega, x.t, by rw [Int.toNat_natCast]; exact c1', by omega, by omega, x.ep, by rw [Int.toNat_natCast]; exact c2', by omega, by omega, x.a, x.B.length, x.c, by rw [Int.toNat_natCast]; exact c3', fun w47 L48 X47 hp48 => ?_⟩
    obtain ⟨s47, M47⟩ := Step.priv X47 hp48 duo1.a.ok
    have nk : ∀ {j : Nat}, j < w1.heap.size → ¬ j ∈ L48 := fun hj hm => by have := (hp48 _ hm).1; omega
    have hkw : k < w1.heap.size := duo1.a.orc.lt
    have hqw : q < w1.heap.size := duo1.a.log.lt
    have hqbw : qb < w1.heap.size := duo1.b.log.lt
    have duo47 := duo1.step s47 id id id
    refine (duo47.a.issue (by omega) x.t 1 x.ep (((noW hgd.ra).step s1).step s47)).mono fun v w59 ⟨o59, S', L', e', cd, hx, s59, one59, ok59, bl, wr59, es59, okat59, le59, _⟩ => ⟨_, _, _, _, _, _, _, _, _, _, _, hx, M47.keep s59 (fun p hp h => by rcases h with rfl | rfl; exact nk hqw hp; exact nk hkw hp), fun hne => ⟨by omega, by omega, fun w67 X67 => ?_⟩, fun h0 w67 p70 X67 hp70 => ?_⟩
    all_goals have duo59 := duo47.onA s59 one59 le59
    · have s67 := Step.joins X67 s59.ok (M47.step s59)
      have s167 : Step (fun i => i = q ∨ i = k) w1 o1 w67 _ := (s47.none.trans s59).trans' s67 fun i hi => .inr (hp48 i hi).1
      exact ⟨m - 1, by omega, t + 1, _, _, l1, _, _, _, _, rfl, by omega, s1.trans' s167 fun i hi => .inr (by omega), (duo59.step s67 (nk hqw) (nk hqbw) (nk hkw)).mono (by omega), by rw [wr59, hwa], hwb, kept1.step s167 fun i hi => .inl (by omega), by rw [es59, if_neg hne, hmap], by rw [es59, if_neg hne, htake], Nat.le_trans hN1 s167.size⟩
    · obtain ⟨s67, M67⟩ := Step.join X67 s59.ok (M47.step s59) hp70
      have s167 : Step (fun i => i = q ∨ i = k) w1 o1 w67 _ := (s47.none.trans s59).trans' s67 fun i hi => .inr (hp48 i hi).1
      have duo67 := duo59.step s67 (nk hqw) (nk hqbw) (nk hkw)
      have k67 := kept1.step s167 fun i hi => .inl (by omega)
      have e67 := ok59.step s67
      have s567 : Step no w5 (fun _ => none) w67 _ := s1.trans' s167 fun i hi => .inr (by omega)
      have h70 := M67 p70 (by simp)
      have hp70w : w1.heap.size ≤ p70 := by
        rcases (hp70 p70 (by simp)).1 with h | h
        · exact (hp48 _ h).1
        · have := (s47.none.trans s59).size; omega
      intro w71 q72 X71 hb72 hq1 hq2
      have hesL : L'.es = La.es ++ [e'.e] := by rw [es59, if_pos h0]
      have hfew' := one59.lok.few
      obtain ⟨a', c', w74, o74, hr, s74, X74, kp74⟩ := k67.push s67.ok (by rw [hlen1]; omega) e67 X71 hb72 hq1 hq2 (Nat.le_trans hN1 s167.size)
      have s74' : Step no w67 _ w71 _ := Step.of_no X71 s67.ok
      -- p70 is not in the list's block
      have hkeep : Keep [p70] w71 w74 := fun z hz hlt => by
        rw [show z = p70 by simpa using hz]
        refine X74.block p70 (Nat.lt_of_lt_of_le h70.1 X71.size) ?_
        rintro ⟨bd, rfl, hbd⟩
        rcases k67.row with ⟨h, _⟩ | ⟨kk, hk1, hk2, hgr⟩
        · cases h
        · have := (hgr.tg bd rfl).1
          rw [← hbd, h70.2] at this
          injection this with this
          -- the owner of the list's block was there ahead
          rcases kept1.row with ⟨h, _⟩ | ⟨k0, hk01, hk02, hgr0⟩
          · cases h
          · have h1 := hgr0.tg bd rfl
            omega
      have duo74 := duo67.step s74 (by omega) (by omega) (by omega)
      have hnl : ((l1 ++ [e']).length : Int) = (l1.length : Int) + 1 := by simp
      refine ⟨a', _, c', w74, hr, hkeep, fun hle => ?_, fun hgt2 => ⟨by omega, by omega, m - 1, by omega, t + 1, a', c', l1 ++ [e'], o74, S', L', Lb, rfl, by omega, s567.trans' s74 fun i hi => .inr (by have := s29.size; omega), duo74.mono (by omega), by rw [wr59, hwa], hwb, kp74, by rw [List.map_append, hmap, hesL]; rfl, ?_, Nat.le_trans hN1 (Nat.le_trans s167.size s74.size)⟩⟩
      · have hbes : Lb.es = La.es := by rw [htake, List.take_of_length_le (by omega)]
        refine (duo74.b.accept (by omega) (e := e'.e) (fun _ => ok59.2.2) (e67.1.step s74)).mono fun v w77 ⟨o77, S7, L7, cd7, he, s77, one77, le77, wr77, es77, acc77⟩ => ⟨_, he, by omega, by omega, m - 1, by omega, t + 1, a', c', l1 ++ [e'], o77, S7, L', L7, rfl, by omega, (s567.trans' s74 fun i hi => .inr (by have := s29.size; omega)).trans' s77 fun i hi => .inr (by omega), (duo74.onB s77 one77 le77).mono (by omega), by rw [wr59, hwa], by rw [wr77, hwb], kp74.step s77 fun i hi => .inl (by omega), by rw [List.map_append, hmap, hesL]; rfl, ?_, Nat.le_trans hN1 (Nat.le_trans s167.size (Nat.le_trans s74.size s77.size))⟩
        have hacc := duo74.b.lok.accepts duo74.b.key (e := e'.e) (by rw [hwb, hbes]; have := okat59 h0; rwa [hwa] at this)
        have hcd : cd7 = 0 := by
          have : acceptC S' Lb e'.e = (0, putC S' Lb e'.e) := by unfold acceptC; rw [if_pos hacc]
          rw [this] at acc77
          exact (congrArg Prod.fst acc77).symm
        rw [es77, if_pos hcd, hbes, hesL, List.take_of_length_le (by simp; omega)]
      · rw [htake, hesL, List.take_append_of_le_length (by omega)]
  · have fin : ∀ {w' : World}, Ext no w1 w' → Ext no w5 w' := fun X => (s1.ext.mono fun b ⟨_, _, h⟩ _ => h).trans X
    refine ⟨fun hneg => ?_, fun hpos => ⟨fun hge => ?_, fun hlt => ?_⟩⟩
    · exact (alive7_spec _).mono fun e w9 ⟨he, X⟩ => ⟨_, he, rfl, fin X⟩
    · exact (alive7_spec _).mono fun e w9 ⟨he, X⟩ => ⟨_, he, rfl, fin X⟩
    have hi : at_.toNat < l1.length := by omega
    have hgx : l1[at_.toNat]? = some l1[at_.toNat] := List.getElem?_eq_getElem hi
    have hxm := List.getElem_mem hi
    have hxe : La.es[at_.toNat]? = some (l1[at_.toNat]).e := by rw [← hmap, List.getElem?_map, hgx]; rfl
    generalize l1[at_.toNat] = x at *
    have okx := kept1.oks x hxm
    obtain ⟨g1, hh, hhs⟩ := duo1.a.lok.good _ _ hxe
    obtain ⟨bd, rfl⟩ := kept1.row.row.faddr PE.len (by decide) hi
    have ct := PE.cell kept1.row.row rfl hgx (j := 3) (v := .int .i64 x.e.t) rfl
    have cw := PE.cell kept1.row.row rfl hgx (j := 4) (v := .int .i64 x.e.tw) rfl
    have ce := PE.cell kept1.row.row rfl hgx (j := 5) (v := .int .i64 x.e.ep) rfl
    refine ⟨bd, rfl, by omega, by omega, x.e.t, x.e.tw, ⟨by rw [add_add]; exact ct, by rw [add_add]; exact cw, trivial⟩, by omega, by omega, x.e.ep, ce, fun w98 L97 X98 hp97 => ?_⟩
    obtain ⟨s98, M98⟩ := Step.priv X98 hp97 duo1.a.ok
    have nk : ∀ {j : Nat}, j < w1.heap.size → ¬ j ∈ L97 := fun hj hm => by have := (hp97 _ hm).1; omega
    have hkw : k < w1.heap.size := duo1.a.orc.lt
    have hqw : q < w1.heap.size := duo1.a.log.lt
    have hqbw : qb < w1.heap.size := duo1.b.log.lt
    have duo98 := duo1.step s98 id id id
    have hlb : Lb.es.length = at_.toNat := by rw [htake, List.length_take]; omega
    have hOk : OkAt S Lb.wr s Lb.es x.e := by rw [hwb, htake]; rwa [hwa] at g1
    have hiss := issue_as duo1.b.lok duo1.b.inv duo1.b.key hOk (by omega) (body := body) (by omega)
    have hsa := sign_inv duo1.b.inv duo1.b.key.sec (textL { x.e with body := body })
    refine (duo98.b.issue (by omega) x.e.t x.e.tw x.e.ep (((noW hb).step s1).step s98)).mono fun v w109 ⟨o109, S', L', e', cd, hx, s109, one109, ok109, bl, wr109, es109, okat109, le109, iss109⟩ => ⟨_, _, _, _, _, _, _, _, _, _, _, hx, M98.keep s109 (fun p hp h => by rcases h with rfl | rfl; exact nk hqbw hp; exact nk hkw hp), fun hne => absurd ?_ hne, fun _ w112 p115 X112 hp115 => ?_⟩
    · rw [iss109] at hiss; exact (Prod.mk.inj hiss).2
    have he' : e'.e = { x.e with body := body, sg := (signOf S s (textL { x.e with body := body })).1.1 } := by rw [iss109] at hiss; exact (Prod.mk.inj hiss).1
    have hcd : cd = 0 := by rw [iss109] at hiss; exact (Prod.mk.inj hiss).2
    have ok' := okat109 hcd
    have duo109 := duo98.onB s109 one109 le109
    obtain ⟨s112, M112⟩ := Step.join X112 s109.ok (M98.step s109) hp115
    have s1112 : Step (fun i => i = qb ∨ i = k) w1 o1 w112 _ := (s98.none.trans s109).trans' s112 fun i hi => .inr (hp97 i hi).1
    have duo112 := duo109.step s112 (nk hqw) (nk hqbw) (nk hkw)
    have kp112 := kept1.step s1112 fun i hi => .inl (by omega)
    have e112 := ok109.step s112
    have hbods : ∀ e ∈ La.es, e.body.length ≤ 1000000 := fun e he => by have := (duo1.a.lok.bodies e he).1; omega
    have hebl : e'.e.body.length ≤ 1000000 := by omega
    -- what the first log says of it
    have hsame : body = x.e.body → e'.e = x.e := fun hbx => by
      rw [he']
      have : ({ x.e with body := body } : Ent) = x.e := by rw [hbx]
      rw [this, sign_again duo1.a.inv duo1.a.key g1.sg, hbx]
    have hother : body ≠ x.e.body → e'.e ≠ x.e := fun hbx h => hbx (by have := congrArg Ent.body h; rw [he'] at this; exact this)
    have lokA := duo112.a.lok
    have hc : checkC S' La e'.e = if body = x.e.body then 8 else 9 := by
      by_cases hbx : body = x.e.body
      · rw [if_pos hbx, hsame hbx]; exact check_old lokA duo112.a.key hxe
      · rw [if_neg hbx]
        refine check_new lokA duo112.a.key hxe ok'.right (by rw [ok'.w, hwb, hwa]) ?_ ok'.sg (hother hbx)
        rw [ok'.i, hlb]
    refine (cOdds_spec duo112.a.log duo112.a.orc s112.ok (e := e'.e) (fun _ => ok109.2.2) e112.1 hebl hbods).mono fun v w141 ⟨o141, xa, xc, ya, yc, hx, s141, rx, ry⟩ => ⟨_, _, _, _, _, _, _, _, _, _, _, _, _, _, _, _, _, _, _, _, _, hx, M112.keep s141 (fun _ _ => id), ?_⟩
    have kp141 := kp112.step s141 fun i hi => hi.elim
    have cb := PE.cell kp141.row.row rfl hgx (j := 6) (v := .slice x.a x.e.body.length x.c) rfl
    refine ⟨by omega, by omega, x.a, x.e.body.length, x.c, cb, fun w159 p162 p163 X159 hp159 => ?_⟩
    obtain ⟨s159, M159'⟩ := Step.priv X159 hp159 s141.ok
    have M159 : Mine [p115, p162, p163] w159 _ := ((M112.step s141).step s159).app M159'
    have s112159 := s141.trans s159
    have s1159 : Step (fun i => i = qb ∨ i = k) w1 o1 w159 _ := s1112.trans s112159.none
    have duo159 := duo112.step s112159 id id id
    refine (W.sameB_spec (((noW hb).step s1).step s1159).1 (okx.1.step s1159).1 (by omega)).mono fun v w166 ⟨hx, X166⟩ => ⟨_, hx, X166.kept, fun hs => ?_, fun hs => ?_⟩
    · have hbx : body = x.e.body := of_decide_eq_true hs
      rw [if_pos hbx] at hc
      have hodds : oddsC S' La e'.e = (Ent.zero, Ent.zero, false) := by unfold oddsC; rw [if_neg (by rw [hc]; decide)]
      refine ⟨fun _ => ?_, fun h => absurd h (by rw [hodds]; decide)⟩
      have s166 := Step.of_no X166 s159.ok
      refine (cCheck_spec (e := e'.e) (duo159.a.log.step s166 id) (duo159.a.orc.step s166 id) s166.ok (fun _ => ok109.2.2) ((e112.1.step s112159).step s166).1).mono fun v w171 ⟨hx, X171⟩ => ⟨_, hx, fun _ => ?_, fun h => absurd hc h⟩
      refine (alive7_spec _).mono fun e w9 ⟨he, X⟩ => ⟨_, he, rfl, ?_⟩
      have s5 : Step no w5 (fun _ => none) w159 _ := s1.trans' s1159 fun i hi => .inr (by omega)
      exact (s5.ext.mono fun b ⟨_, _, h⟩ _ => h).trans ((X166.trans X171).trans X)
    · have hbx : body ≠ x.e.body := of_decide_eq_false hs
      rw [if_neg hbx] at hc
      have hodds : oddsC S' La e'.e = (x.e, e'.e, true) := by unfold oddsC; rw [if_pos hc, ok'.i, hlb, Int.toNat_natCast, hxe]; rfl
      rw [hodds] at rx ry ⊢
      have s166' := Step.of_no X166 s159.ok
      have duo166 := duo159.step s166' id id id
      have s1166 : Step (fun i => i = qb ∨ i = k) w1 o1 w166 _ := s1159.trans s166'.none
      have kp166 := kept1.step s1166 fun i hi => .inl (by omega)
      have M166 := M159.step s166'
      have hc2 : checkC S' La x.e = 8 := check_old lokA duo112.a.key hxe
      have hodds2 : oddsC S' La x.e = (Ent.zero, Ent.zero, false) := by unfold oddsC; rw [if_neg (by rw [hc2]; decide)]
      refine ⟨by omega, by omega, x.e.w, x.e.i, x.e.pv, x.e.t, x.e.tw, x.e.ep, x.a, x.e.body.length, x.c, x.e.sg, PE.loads kp166.row.row rfl hgx, ?_⟩
      refine (cOdds_spec duo166.a.log duo166.a.orc s166'.ok (e := x.e) (fun _ => okx.2.2) (okx.1.step s1166) (by have := (duo1.a.lok.bodies x.e (List.mem_of_getElem? hxe)).1; omega) hbods).mono fun v w203 ⟨o203, _, _, _, _, hx, s203, _, _⟩ => ⟨_, _, _, _, _, _, _, _, _, _, _, _, _, _, _, _, _, _, _, _, _, hx, M166.keep s203 (fun _ _ => id), fun _ w222 X222 => ?_, fun h => absurd h (by simp)⟩
      have s222' := Step.of_no X222 s203.ok
      have s222 := s203.trans s222'
      have M222 := M166.step s222
      have duo222 := duo166.step s222 id id id
      have s112222 := (s112159.trans s166').trans s222
      refine (cCheck_spec (e := e'.e) duo222.a.log duo222.a.orc s222.ok (fun _ => ok109.2.2) (e112.1.step s112222).1).mono fun v w228 ⟨hx, X228⟩ => ⟨_, hx, X228.kept, fun _ => ?_, fun h => absurd hc h⟩
      have s228' := Step.of_no X228 s222.ok
      have duo228 := duo222.step s228' id id id
      have s112228 := s112222.trans s228'
      refine (duo228.a.accept (by omega) (e := e'.e) (fun _ => ok109.2.2) (e112.1.step s112228)).mono fun v w232 ⟨o232, S9, L9, cd9, hx, s232, one232, le232, wr232, es232, acc232⟩ => ⟨_, hx, (M222.step s228').keep s232 (fun p hp h => ?_), fun _ => ?_, fun h => absurd ?_ h⟩
      · have h1 : w1.heap.size ≤ p := by
          simp at hp
          rcases hp with rfl | rfl | rfl
          · rcases (hp115 p (by simp)).1 with h | h
            · exact (hp97 _ h).1
            · have := (s98.none.trans s109).size; omega
          · have := (hp159 p (by simp)).1; have := s1112.size; have := s141.size; omega
          · have := (hp159 p (by simp)).1; have := s1112.size; have := s141.size; omega
        omega
      rotate_left
      · have : acceptC S' La e'.e = (9, La, S') := by unfold acceptC; rw [hc]; rfl
        rw [this] at acc232
        exact (congrArg Prod.fst acc232).symm
      have hL9 : L9 = La := by
        have : acceptC S' La e'.e = (9, La, S') := by unfold acceptC; rw [hc]; rfl
        rw [this] at acc232
        exact (congrArg (fun z => z.2.1) acc232).symm
      subst hL9
      have s1232 : Step (fun i => (i = qb ∨ i = k) ∨ i = q ∨ i = k) w1 o1 w232 o232 := ((s1166.trans ((s222.trans s228').none)).mono fun i h _ => .inl h).trans (s232.mono fun i h _ => .inr h)
      have kp232 := kept1.step s1232 fun i hi => .inl (by omega)
      refine ⟨by omega, by omega, x.e.w, x.e.i, x.e.pv, x.e.t, x.e.tw, x.e.ep, x.a, x.e.body.length, x.c, x.e.sg, PE.loads kp232.row.row rfl hgx, ?_⟩
      have rx232 := ((((rx.step s159).step s166').step s222).step s228').step s232
      have ry232 := ((((ry.step s159).step s166').step s222).step s228').step s232
      refine (rESame_spec (e := x.e) (f := x.e) rx232.1 (okx.1.step s1232).1 (by have := (duo1.a.lok.bodies x.e (List.mem_of_getElem? hxe)).1; omega)).mono fun v w245 ⟨hx, X245⟩ => ⟨_, hx, X245.kept, fun _ => ?_, fun h => absurd h (by simp)⟩
      have s245 := Step.of_no X245 s232.ok
      refine (rESame_spec (e := e'.e) (f := e'.e) (ry232.step s245).1 (((e112.1.step s112228).step s232).step s245).1 (by omega)).mono fun v w249 ⟨hx, X249⟩ => ⟨_, hx, fun _ => ?_, fun h => absurd h (by simp)⟩
      have s249 := s245.trans (Step.of_no X249 s245.ok)
      refine (cLen_spec (one232.log.step s249 id)).mono fun v w253 ⟨hx, hw⟩ => ⟨_, hx, fun _ => ⟨fun _ => ?_, fun h => absurd h (by rw [hodds2]; decide)⟩, fun h => absurd (by rw [hlen1]) h⟩
      subst hw
      refine (alive7_spec _).mono fun e w9 ⟨he, X⟩ => ⟨_, he, rfl, ?_⟩
      have s5 : Step no w5 (fun _ => none) w232 o232 := s1.trans' s1232 fun i hi => .inr (by omega)
      exact (s5.ext.mono fun b ⟨_, _, h⟩ _ => h).trans ((X245.trans X249).trans X)
theorem ChainForks_walk (W : World) (a0 : Option Addr) (len0 cap0 : Nat) (n1 : Int) (a2 : Option Addr) (len2 cap2 : Nat) (o0 : COsQ W [.slice a0 len0 cap0]) (w1 : (Lit.int .i64 n1).wf = true) (o2 : BytesQ W [.slice a2 len2 cap2]) :
    Calls Try.prog 5 #[.slice a0 len0 cap0, .int .i64 n1, .slice a2 len2 cap2] W (Ret (.bool true) fun w' => Ext no W w') := by
  obtain ⟨_, c0, l, e0, l0, _, r0, f0⟩ := o0
  obtain ⟨_, c2, b, e2, l2, _, r2⟩ := o2
  cases e0; cases e2
  exact ChainForks_spec W r0 f0 r2
end Go.Proofs.Ytnppbflccbpoeaa
