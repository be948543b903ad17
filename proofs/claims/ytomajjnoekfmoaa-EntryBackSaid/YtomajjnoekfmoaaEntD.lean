/- EntryBack: what the law's function answers. -/
import Derived.Test.YtomajjnoekfmoaaEntC
import Derived.Test.YtomajjnoekfmoaaEntO
set_option linter.unusedVariables false
set_option linter.unusedSimpArgs false
set_option maxRecDepth 20000
namespace Go.Proofs.Ytomajjnoekfmoaa
open Go Go.Mx Go.Proofs
open W (OwnB Rd RdR GivesW numR countR doneR zig unzig intR)
/-- cachettelaw06.EntryBack -/
def cachettelaw06_EntryBack.M (eWriter1 : Int) (eIndex2 : Int) (ePrev3 : Int) (eAtT4 : Int) (eAtW5 : Int) (eEpoch6 : Int) (eBody7a : Option Addr) (eBody7n : Nat) (eBody7c : Nat) (eSig8 : Int) (b9a : Option Addr) (b9n : Nat) (b9c : Nat) (cut10 : Int) (R : Value → World → Prop) (w : World) : Prop :=
  thenW (w.alloc (.cells #[.int .i64 eWriter1, .int .i64 eIndex2, .int .u64 ePrev3, .int .i64 eAtT4, .int .i64 eAtW5, .int .i64 eEpoch6, .slice eBody7a eBody7n eBody7c, .int .u64 eSig8] 27)) fun ww11 =>
  ∃ (xWriter12 : Int) (xIndex13 : Int) (xPrev14 : Int) (xAtT15 : Int) (xAtW16 : Int) (xEpoch17 : Int) (xBody18a : Option Addr) (xBody18n : Nat) (xBody18c : Nat) (xSig19 : Int), cellsAt ww11 (blk w.heap.size) [.int .i64 xWriter12, .int .i64 xIndex13, .int .u64 xPrev14, .int .i64 xAtT15, .int .i64 xAtW16, .int .i64 xEpoch17, .slice xBody18a xBody18n xBody18c, .int .u64 xSig19] 0 ∧
  Calls Try.prog 8 #[.agg #[.int .i64 xWriter12, .int .i64 xIndex13, .int .u64 xPrev14, .int .i64 xAtT15, .int .i64 xAtW16, .int .i64 xEpoch17, .slice xBody18a xBody18n xBody18c, .int .u64 xSig19]] ww11 fun ee21 ww22 => ∃ (light20 : Bool), ee21 = .returned (.bool light20) ∧
  bif !light20 then (
  Calls Try.prog 9 #[] ww22 fun ee24 ww25 => ∃ (alive23 : Bool), ee24 = .returned (.bool alive23) ∧
  R (.bool alive23) ww25) else (
  bif decide ((b9n : Int) > 1500) then (
  Calls Try.prog 9 #[] ww22 fun ee27 ww28 => ∃ (alive26 : Bool), ee27 = .returned (.bool alive26) ∧
  R (.bool alive26) ww28) else (
  ∃ (xWriter29 : Int) (xIndex30 : Int) (xPrev31 : Int) (xAtT32 : Int) (xAtW33 : Int) (xEpoch34 : Int) (xBody35a : Option Addr) (xBody35n : Nat) (xBody35c : Nat) (xSig36 : Int), cellsAt ww22 (blk w.heap.size) [.int .i64 xWriter29, .int .i64 xIndex30, .int .u64 xPrev31, .int .i64 xAtT32, .int .i64 xAtW33, .int .i64 xEpoch34, .slice xBody35a xBody35n xBody35c, .int .u64 xSig36] 0 ∧
  Calls Try.prog 10 #[.agg #[.int .i64 xWriter29, .int .i64 xIndex30, .int .u64 xPrev31, .int .i64 xAtT32, .int .i64 xAtW33, .int .i64 xEpoch34, .slice xBody35a xBody35n xBody35c, .int .u64 xSig36]] ww22 fun ee39 ww40 => ∃ (bytes37a : Option Addr) (bytes37n : Nat) (bytes37c : Nat) (bytes38 : Int), ee39 = .returned (.tuple #[.slice bytes37a bytes37n bytes37c, .int .i64 bytes38]) ∧
  ∃ (xWriter41 : Int) (xIndex42 : Int) (xPrev43 : Int) (xAtT44 : Int) (xAtW45 : Int) (xEpoch46 : Int) (xBody47a : Option Addr) (xBody47n : Nat) (xBody47c : Nat) (xSig48 : Int), cellsAt ww40 (blk w.heap.size) [.int .i64 xWriter41, .int .i64 xIndex42, .int .u64 xPrev43, .int .i64 xAtT44, .int .i64 xAtW45, .int .i64 xEpoch46, .slice xBody47a xBody47n xBody47c, .int .u64 xSig48] 0 ∧
  Calls Try.prog 11 #[.agg #[.int .i64 xWriter41, .int .i64 xIndex42, .int .u64 xPrev43, .int .i64 xAtT44, .int .i64 xAtW45, .int .i64 xEpoch46, .slice xBody47a xBody47n xBody47c, .int .u64 xSig48]] ww40 fun ee50 ww51 => ∃ (right49 : Bool), ee50 = .returned (.bool right49) ∧
  bif !((bytes38 == 0) == right49) then (
  R (.bool false) ww51) else (
  bif bytes38 == 0 then (
  Calls Try.prog 12 #[.slice bytes37a bytes37n bytes37c] ww51 fun ee61 ww62 => ∃ (Writer52 : Int) (Index53 : Int) (Prev54 : Int) (AtT55 : Int) (AtW56 : Int) (Epoch57 : Int) (Body58a : Option Addr) (Body58n : Nat) (Body58c : Nat) (Sig59 : Int) (read60 : Int), ee61 = .returned (.tuple #[.agg #[.int .i64 Writer52, .int .i64 Index53, .int .u64 Prev54, .int .i64 AtT55, .int .i64 AtW56, .int .i64 Epoch57, .slice Body58a Body58n Body58c, .int .u64 Sig59], .int .i64 read60]) ∧
  thenW (ww62.alloc (.cells #[.int .i64 0, .int .i64 0, .int .u64 0, .int .i64 0, .int .i64 0, .int .i64 0, .slice none 0 0, .int .u64 0] 27)) fun ww63 =>
  canStore ww63 ((blk ww62.heap.size).add 0) ∧
  thenW (ww63.setCell ((blk ww62.heap.size).add 0) (.int .i64 Writer52)) fun ww64 =>
  canStore ww64 ((blk ww62.heap.size).add 1) ∧
  thenW (ww64.setCell ((blk ww62.heap.size).add 1) (.int .i64 Index53)) fun ww65 =>
  canStore ww65 ((blk ww62.heap.size).add 2) ∧
  thenW (ww65.setCell ((blk ww62.heap.size).add 2) (.int .u64 Prev54)) fun ww66 =>
  canStore ww66 ((blk ww62.heap.size).add 3) ∧
  thenW (ww66.setCell ((blk ww62.heap.size).add 3) (.int .i64 AtT55)) fun ww67 =>
  canStore ww67 ((blk ww62.heap.size).add 4) ∧
  thenW (ww67.setCell ((blk ww62.heap.size).add 4) (.int .i64 AtW56)) fun ww68 =>
  canStore ww68 ((blk ww62.heap.size).add 5) ∧
  thenW (ww68.setCell ((blk ww62.heap.size).add 5) (.int .i64 Epoch57)) fun ww69 =>
  canStore ww69 ((blk ww62.heap.size).add 6) ∧
  thenW (ww69.setCell ((blk ww62.heap.size).add 6) (.slice Body58a Body58n Body58c)) fun ww70 =>
  canStore ww70 ((blk ww62.heap.size).add 7) ∧
  thenW (ww70.setCell ((blk ww62.heap.size).add 7) (.int .u64 Sig59)) fun ww71 =>
  bif read60 != 0 then (
  R (.bool false) ww71) else (
  ∃ (xWriter72 : Int) (xIndex73 : Int) (xPrev74 : Int) (xAtT75 : Int) (xAtW76 : Int) (xEpoch77 : Int) (xBody78a : Option Addr) (xBody78n : Nat) (xBody78c : Nat) (xSig79 : Int), cellsAt ww71 (blk w.heap.size) [.int .i64 xWriter72, .int .i64 xIndex73, .int .u64 xPrev74, .int .i64 xAtT75, .int .i64 xAtW76, .int .i64 xEpoch77, .slice xBody78a xBody78n xBody78c, .int .u64 xSig79] 0 ∧
  ∃ (xWriter80 : Int) (xIndex81 : Int) (xPrev82 : Int) (xAtT83 : Int) (xAtW84 : Int) (xEpoch85 : Int) (xBody86a : Option Addr) (xBody86n : Nat) (xBody86c : Nat) (xSig87 : Int), cellsAt ww71 (blk ww62.heap.size) [.int .i64 xWriter80, .int .i64 xIndex81, .int .u64 xPrev82, .int .i64 xAtT83, .int .i64 xAtW84, .int .i64 xEpoch85, .slice xBody86a xBody86n xBody86c, .int .u64 xSig87] 0 ∧
  Calls Try.prog 13 #[.agg #[.int .i64 xWriter72, .int .i64 xIndex73, .int .u64 xPrev74, .int .i64 xAtT75, .int .i64 xAtW76, .int .i64 xEpoch77, .slice xBody78a xBody78n xBody78c, .int .u64 xSig79], .agg #[.int .i64 xWriter80, .int .i64 xIndex81, .int .u64 xPrev82, .int .i64 xAtT83, .int .i64 xAtW84, .int .i64 xEpoch85, .slice xBody86a xBody86n xBody86c, .int .u64 xSig87]] ww71 fun ee89 ww90 => ∃ (same88 : Bool), ee89 = .returned (.bool same88) ∧
  bif !same88 then (
  R (.bool false) ww90) else (
  bif decide (cut10 ≥ 0) then (
  bif decide (cut10 < (bytes37n : Int)) then (
  (0 : Int) ≤ (cut10 : Int) ∧ (cut10 : Int) ≤ (bytes37c : Int) ∧
  Calls Try.prog 12 #[.slice (if bytes37c = 0 then bytes37a else Option.map (fun z : Addr => z.add (0 * 1)) bytes37a) ((Int.toNat cut10) - 0) (bytes37c - 0)] ww90 fun ee100 ww101 => ∃ (Writer91 : Int) (Index92 : Int) (Prev93 : Int) (AtT94 : Int) (AtW95 : Int) (Epoch96 : Int) (Body97a : Option Addr) (Body97n : Nat) (Body97c : Nat) (Sig98 : Int) (read99 : Int), ee100 = .returned (.tuple #[.agg #[.int .i64 Writer91, .int .i64 Index92, .int .u64 Prev93, .int .i64 AtT94, .int .i64 AtW95, .int .i64 Epoch96, .slice Body97a Body97n Body97c, .int .u64 Sig98], .int .i64 read99]) ∧
  thenW (ww101.alloc (.cells #[.int .i64 0, .int .i64 0, .int .u64 0, .int .i64 0, .int .i64 0, .int .i64 0, .slice none 0 0, .int .u64 0] 27)) fun ww102 =>
  canStore ww102 ((blk ww101.heap.size).add 0) ∧
  thenW (ww102.setCell ((blk ww101.heap.size).add 0) (.int .i64 Writer91)) fun ww103 =>
  canStore ww103 ((blk ww101.heap.size).add 1) ∧
  thenW (ww103.setCell ((blk ww101.heap.size).add 1) (.int .i64 Index92)) fun ww104 =>
  canStore ww104 ((blk ww101.heap.size).add 2) ∧
  thenW (ww104.setCell ((blk ww101.heap.size).add 2) (.int .u64 Prev93)) fun ww105 =>
  canStore ww105 ((blk ww101.heap.size).add 3) ∧
  thenW (ww105.setCell ((blk ww101.heap.size).add 3) (.int .i64 AtT94)) fun ww106 =>
  canStore ww106 ((blk ww101.heap.size).add 4) ∧
  thenW (ww106.setCell ((blk ww101.heap.size).add 4) (.int .i64 AtW95)) fun ww107 =>
  canStore ww107 ((blk ww101.heap.size).add 5) ∧
  thenW (ww107.setCell ((blk ww101.heap.size).add 5) (.int .i64 Epoch96)) fun ww108 =>
  canStore ww108 ((blk ww101.heap.size).add 6) ∧
  thenW (ww108.setCell ((blk ww101.heap.size).add 6) (.slice Body97a Body97n Body97c)) fun ww109 =>
  canStore ww109 ((blk ww101.heap.size).add 7) ∧
  thenW (ww109.setCell ((blk ww101.heap.size).add 7) (.int .u64 Sig98)) fun ww110 =>
  bif read99 == 0 then (
  R (.bool false) ww110) else (
  Calls Try.prog 12 #[.slice b9a b9n b9c] ww110 fun ee120 ww121 => ∃ (Writer111 : Int) (Index112 : Int) (Prev113 : Int) (AtT114 : Int) (AtW115 : Int) (Epoch116 : Int) (Body117a : Option Addr) (Body117n : Nat) (Body117c : Nat) (Sig118 : Int) (read119 : Int), ee120 = .returned (.tuple #[.agg #[.int .i64 Writer111, .int .i64 Index112, .int .u64 Prev113, .int .i64 AtT114, .int .i64 AtW115, .int .i64 Epoch116, .slice Body117a Body117n Body117c, .int .u64 Sig118], .int .i64 read119]) ∧
  thenW (ww121.alloc (.cells #[.int .i64 0, .int .i64 0, .int .u64 0, .int .i64 0, .int .i64 0, .int .i64 0, .slice none 0 0, .int .u64 0] 27)) fun ww122 =>
  canStore ww122 ((blk ww121.heap.size).add 0) ∧
  thenW (ww122.setCell ((blk ww121.heap.size).add 0) (.int .i64 Writer111)) fun ww123 =>
  canStore ww123 ((blk ww121.heap.size).add 1) ∧
  thenW (ww123.setCell ((blk ww121.heap.size).add 1) (.int .i64 Index112)) fun ww124 =>
  canStore ww124 ((blk ww121.heap.size).add 2) ∧
  thenW (ww124.setCell ((blk ww121.heap.size).add 2) (.int .u64 Prev113)) fun ww125 =>
  canStore ww125 ((blk ww121.heap.size).add 3) ∧
  thenW (ww125.setCell ((blk ww121.heap.size).add 3) (.int .i64 AtT114)) fun ww126 =>
  canStore ww126 ((blk ww121.heap.size).add 4) ∧
  thenW (ww126.setCell ((blk ww121.heap.size).add 4) (.int .i64 AtW115)) fun ww127 =>
  canStore ww127 ((blk ww121.heap.size).add 5) ∧
  thenW (ww127.setCell ((blk ww121.heap.size).add 5) (.int .i64 Epoch116)) fun ww128 =>
  canStore ww128 ((blk ww121.heap.size).add 6) ∧
  thenW (ww128.setCell ((blk ww121.heap.size).add 6) (.slice Body117a Body117n Body117c)) fun ww129 =>
  canStore ww129 ((blk ww121.heap.size).add 7) ∧
  thenW (ww129.setCell ((blk ww121.heap.size).add 7) (.int .u64 Sig118)) fun ww130 =>
  bif read119 != 0 then (
  ∃ (xWriter131 : Int) (xIndex132 : Int) (xPrev133 : Int) (xAtT134 : Int) (xAtW135 : Int) (xEpoch136 : Int) (xBody137a : Option Addr) (xBody137n : Nat) (xBody137c : Nat) (xSig138 : Int), cellsAt ww130 (blk ww121.heap.size) [.int .i64 xWriter131, .int .i64 xIndex132, .int .u64 xPrev133, .int .i64 xAtT134, .int .i64 xAtW135, .int .i64 xEpoch136, .slice xBody137a xBody137n xBody137c, .int .u64 xSig138] 0 ∧
  Calls Try.prog 13 #[.agg #[.int .i64 xWriter131, .int .i64 xIndex132, .int .u64 xPrev133, .int .i64 xAtT134, .int .i64 xAtW135, .int .i64 xEpoch136, .slice xBody137a xBody137n xBody137c, .int .u64 xSig138], .agg #[.int .i64 0, .int .i64 0, .int .u64 0, .int .i64 0, .int .i64 0, .int .i64 0, .slice none 0 0, .int .u64 0]] ww130 fun ee140 ww141 => ∃ (same139 : Bool), ee140 = .returned (.bool same139) ∧
  bif same139 then (
  Calls Try.prog 9 #[] ww141 fun ee143 ww144 => ∃ (alive142 : Bool), ee143 = .returned (.bool alive142) ∧
  R (.bool alive142) ww144) else (
  R (.bool false) ww141)) else (
  ∃ (xWriter145 : Int) (xIndex146 : Int) (xPrev147 : Int) (xAtT148 : Int) (xAtW149 : Int) (xEpoch150 : Int) (xBody151a : Option Addr) (xBody151n : Nat) (xBody151c : Nat) (xSig152 : Int), cellsAt ww130 (blk ww121.heap.size) [.int .i64 xWriter145, .int .i64 xIndex146, .int .u64 xPrev147, .int .i64 xAtT148, .int .i64 xAtW149, .int .i64 xEpoch150, .slice xBody151a xBody151n xBody151c, .int .u64 xSig152] 0 ∧
  Calls Try.prog 10 #[.agg #[.int .i64 xWriter145, .int .i64 xIndex146, .int .u64 xPrev147, .int .i64 xAtT148, .int .i64 xAtW149, .int .i64 xEpoch150, .slice xBody151a xBody151n xBody151c, .int .u64 xSig152]] ww130 fun ee155 ww156 => ∃ (bytes153a : Option Addr) (bytes153n : Nat) (bytes153c : Nat) (bytes154 : Int), ee155 = .returned (.tuple #[.slice bytes153a bytes153n bytes153c, .int .i64 bytes154]) ∧
  bif bytes154 == 0 then (
  Calls Try.prog 14 #[.slice bytes153a bytes153n bytes153c, .slice b9a b9n b9c] ww156 fun ee158 ww159 => ∃ (same157 : Bool), ee158 = .returned (.bool same157) ∧
  bif same157 then (
  Calls Try.prog 9 #[] ww159 fun ee161 ww162 => ∃ (alive160 : Bool), ee161 = .returned (.bool alive160) ∧
  R (.bool alive160) ww162) else (
  R (.bool false) ww159)) else (
  R (.bool false) ww156)))) else (
  Calls Try.prog 12 #[.slice b9a b9n b9c] ww90 fun ee172 ww173 => ∃ (Writer163 : Int) (Index164 : Int) (Prev165 : Int) (AtT166 : Int) (AtW167 : Int) (Epoch168 : Int) (Body169a : Option Addr) (Body169n : Nat) (Body169c : Nat) (Sig170 : Int) (read171 : Int), ee172 = .returned (.tuple #[.agg #[.int .i64 Writer163, .int .i64 Index164, .int .u64 Prev165, .int .i64 AtT166, .int .i64 AtW167, .int .i64 Epoch168, .slice Body169a Body169n Body169c, .int .u64 Sig170], .int .i64 read171]) ∧
  thenW (ww173.alloc (.cells #[.int .i64 0, .int .i64 0, .int .u64 0, .int .i64 0, .int .i64 0, .int .i64 0, .slice none 0 0, .int .u64 0] 27)) fun ww174 =>
  canStore ww174 ((blk ww173.heap.size).add 0) ∧
  thenW (ww174.setCell ((blk ww173.heap.size).add 0) (.int .i64 Writer163)) fun ww175 =>
  canStore ww175 ((blk ww173.heap.size).add 1) ∧
  thenW (ww175.setCell ((blk ww173.heap.size).add 1) (.int .i64 Index164)) fun ww176 =>
  canStore ww176 ((blk ww173.heap.size).add 2) ∧
  thenW (ww176.setCell ((blk ww173.heap.size).add 2) (.int .u64 Prev165)) fun ww177 =>
  canStore ww177 ((blk ww173.heap.size).add 3) ∧
  thenW (ww177.setCell ((blk ww173.heap.size).add 3) (.int .i64 AtT166)) fun ww178 =>
  canStore ww178 ((blk ww173.heap.size).add 4) ∧
  thenW (ww178.setCell ((blk ww173.heap.size).add 4) (.int .i64 AtW167)) fun ww179 =>
  canStore ww179 ((blk ww173.heap.size).add 5) ∧
  thenW (ww179.setCell ((blk ww173.heap.size).add 5) (.int .i64 Epoch168)) fun ww180 =>
  canStore ww180 ((blk ww173.heap.size).add 6) ∧
  thenW (ww180.setCell ((blk ww173.heap.size).add 6) (.slice Body169a Body169n Body169c)) fun ww181 =>
  canStore ww181 ((blk ww173.heap.size).add 7) ∧
  thenW (ww181.setCell ((blk ww173.heap.size).add 7) (.int .u64 Sig170)) fun ww182 =>
  bif read171 != 0 then (
  ∃ (xWriter183 : Int) (xIndex184 : Int) (xPrev185 : Int) (xAtT186 : Int) (xAtW187 : Int) (xEpoch188 : Int) (xBody189a : Option Addr) (xBody189n : Nat) (xBody189c : Nat) (xSig190 : Int), cellsAt ww182 (blk ww173.heap.size) [.int .i64 xWriter183, .int .i64 xIndex184, .int .u64 xPrev185, .int .i64 xAtT186, .int .i64 xAtW187, .int .i64 xEpoch188, .slice xBody189a xBody189n xBody189c, .int .u64 xSig190] 0 ∧
  Calls Try.prog 13 #[.agg #[.int .i64 xWriter183, .int .i64 xIndex184, .int .u64 xPrev185, .int .i64 xAtT186, .int .i64 xAtW187, .int .i64 xEpoch188, .slice xBody189a xBody189n xBody189c, .int .u64 xSig190], .agg #[.int .i64 0, .int .i64 0, .int .u64 0, .int .i64 0, .int .i64 0, .int .i64 0, .slice none 0 0, .int .u64 0]] ww182 fun ee192 ww193 => ∃ (same191 : Bool), ee192 = .returned (.bool same191) ∧
  bif same191 then (
  Calls Try.prog 9 #[] ww193 fun ee195 ww196 => ∃ (alive194 : Bool), ee195 = .returned (.bool alive194) ∧
  R (.bool alive194) ww196) else (
  R (.bool false) ww193)) else (
  ∃ (xWriter197 : Int) (xIndex198 : Int) (xPrev199 : Int) (xAtT200 : Int) (xAtW201 : Int) (xEpoch202 : Int) (xBody203a : Option Addr) (xBody203n : Nat) (xBody203c : Nat) (xSig204 : Int), cellsAt ww182 (blk ww173.heap.size) [.int .i64 xWriter197, .int .i64 xIndex198, .int .u64 xPrev199, .int .i64 xAtT200, .int .i64 xAtW201, .int .i64 xEpoch202, .slice xBody203a xBody203n xBody203c, .int .u64 xSig204] 0 ∧
  Calls Try.prog 10 #[.agg #[.int .i64 xWriter197, .int .i64 xIndex198, .int .u64 xPrev199, .int .i64 xAtT200, .int .i64 xAtW201, .int .i64 xEpoch202, .slice xBody203a xBody203n xBody203c, .int .u64 xSig204]] ww182 fun ee207 ww208 => ∃ (bytes205a : Option Addr) (bytes205n : Nat) (bytes205c : Nat) (bytes206 : Int), ee207 = .returned (.tuple #[.slice bytes205a bytes205n bytes205c, .int .i64 bytes206]) ∧
  bif bytes206 == 0 then (
  Calls Try.prog 14 #[.slice bytes205a bytes205n bytes205c, .slice b9a b9n b9c] ww208 fun ee210 ww211 => ∃ (same209 : Bool), ee210 = .returned (.bool same209) ∧
  bif same209 then (
  Calls Try.prog 9 #[] ww211 fun ee213 ww214 => ∃ (alive212 : Bool), ee213 = .returned (.bool alive212) ∧
  R (.bool alive212) ww214) else (
  R (.bool false) ww211)) else (
  R (.bool false) ww208)))) else (
  Calls Try.prog 12 #[.slice b9a b9n b9c] ww90 fun ee224 ww225 => ∃ (Writer215 : Int) (Index216 : Int) (Prev217 : Int) (AtT218 : Int) (AtW219 : Int) (Epoch220 : Int) (Body221a : Option Addr) (Body221n : Nat) (Body221c : Nat) (Sig222 : Int) (read223 : Int), ee224 = .returned (.tuple #[.agg #[.int .i64 Writer215, .int .i64 Index216, .int .u64 Prev217, .int .i64 AtT218, .int .i64 AtW219, .int .i64 Epoch220, .slice Body221a Body221n Body221c, .int .u64 Sig222], .int .i64 read223]) ∧
  thenW (ww225.alloc (.cells #[.int .i64 0, .int .i64 0, .int .u64 0, .int .i64 0, .int .i64 0, .int .i64 0, .slice none 0 0, .int .u64 0] 27)) fun ww226 =>
  canStore ww226 ((blk ww225.heap.size).add 0) ∧
  thenW (ww226.setCell ((blk ww225.heap.size).add 0) (.int .i64 Writer215)) fun ww227 =>
  canStore ww227 ((blk ww225.heap.size).add 1) ∧
  thenW (ww227.setCell ((blk ww225.heap.size).add 1) (.int .i64 Index216)) fun ww228 =>
  canStore ww228 ((blk ww225.heap.size).add 2) ∧
  thenW (ww228.setCell ((blk ww225.heap.size).add 2) (.int .u64 Prev217)) fun ww229 =>
  canStore ww229 ((blk ww225.heap.size).add 3) ∧
  thenW (ww229.setCell ((blk ww225.heap.size).add 3) (.int .i64 AtT218)) fun ww230 =>
  canStore ww230 ((blk ww225.heap.size).add 4) ∧
  thenW (ww230.setCell ((blk ww225.heap.size).add 4) (.int .i64 AtW219)) fun ww231 =>
  canStore ww231 ((blk ww225.heap.size).add 5) ∧
  thenW (ww231.setCell ((blk ww225.heap.size).add 5) (.int .i64 Epoch220)) fun ww232 =>
  canStore ww232 ((blk ww225.heap.size).add 6) ∧
  thenW (ww232.setCell ((blk ww225.heap.size).add 6) (.slice Body221a Body221n Body221c)) fun ww233 =>
  canStore ww233 ((blk ww225.heap.size).add 7) ∧
  thenW (ww233.setCell ((blk ww225.heap.size).add 7) (.int .u64 Sig222)) fun ww234 =>
  bif read223 != 0 then (
  ∃ (xWriter235 : Int) (xIndex236 : Int) (xPrev237 : Int) (xAtT238 : Int) (xAtW239 : Int) (xEpoch240 : Int) (xBody241a : Option Addr) (xBody241n : Nat) (xBody241c : Nat) (xSig242 : Int), cellsAt ww234 (blk ww225.heap.size) [.int .i64 xWriter235, .int .i64 xIndex236, .int .u64 xPrev237, .int .i64 xAtT238, .int .i64 xAtW239, .int .i64 xEpoch240, .slice xBody241a xBody241n xBody241c, .int .u64 xSig242] 0 ∧
  Calls Try.prog 13 #[.agg #[.int .i64 xWriter235, .int .i64 xIndex236, .int .u64 xPrev237, .int .i64 xAtT238, .int .i64 xAtW239, .int .i64 xEpoch240, .slice xBody241a xBody241n xBody241c, .int .u64 xSig242], .agg #[.int .i64 0, .int .i64 0, .int .u64 0, .int .i64 0, .int .i64 0, .int .i64 0, .slice none 0 0, .int .u64 0]] ww234 fun ee244 ww245 => ∃ (same243 : Bool), ee244 = .returned (.bool same243) ∧
  bif same243 then (
  Calls Try.prog 9 #[] ww245 fun ee247 ww248 => ∃ (alive246 : Bool), ee247 = .returned (.bool alive246) ∧
  R (.bool alive246) ww248) else (
  R (.bool false) ww245)) else (
  ∃ (xWriter249 : Int) (xIndex250 : Int) (xPrev251 : Int) (xAtT252 : Int) (xAtW253 : Int) (xEpoch254 : Int) (xBody255a : Option Addr) (xBody255n : Nat) (xBody255c : Nat) (xSig256 : Int), cellsAt ww234 (blk ww225.heap.size) [.int .i64 xWriter249, .int .i64 xIndex250, .int .u64 xPrev251, .int .i64 xAtT252, .int .i64 xAtW253, .int .i64 xEpoch254, .slice xBody255a xBody255n xBody255c, .int .u64 xSig256] 0 ∧
  Calls Try.prog 10 #[.agg #[.int .i64 xWriter249, .int .i64 xIndex250, .int .u64 xPrev251, .int .i64 xAtT252, .int .i64 xAtW253, .int .i64 xEpoch254, .slice xBody255a xBody255n xBody255c, .int .u64 xSig256]] ww234 fun ee259 ww260 => ∃ (bytes257a : Option Addr) (bytes257n : Nat) (bytes257c : Nat) (bytes258 : Int), ee259 = .returned (.tuple #[.slice bytes257a bytes257n bytes257c, .int .i64 bytes258]) ∧
  bif bytes258 == 0 then (
  Calls Try.prog 14 #[.slice bytes257a bytes257n bytes257c, .slice b9a b9n b9c] ww260 fun ee262 ww263 => ∃ (same261 : Bool), ee262 = .returned (.bool same261) ∧
  bif same261 then (
  Calls Try.prog 9 #[] ww263 fun ee265 ww266 => ∃ (alive264 : Bool), ee265 = .returned (.bool alive264) ∧
  R (.bool alive264) ww266) else (
  R (.bool false) ww263)) else (
  R (.bool false) ww260)))))) else (
  Calls Try.prog 12 #[.slice b9a b9n b9c] ww51 fun ee276 ww277 => ∃ (Writer267 : Int) (Index268 : Int) (Prev269 : Int) (AtT270 : Int) (AtW271 : Int) (Epoch272 : Int) (Body273a : Option Addr) (Body273n : Nat) (Body273c : Nat) (Sig274 : Int) (read275 : Int), ee276 = .returned (.tuple #[.agg #[.int .i64 Writer267, .int .i64 Index268, .int .u64 Prev269, .int .i64 AtT270, .int .i64 AtW271, .int .i64 Epoch272, .slice Body273a Body273n Body273c, .int .u64 Sig274], .int .i64 read275]) ∧
  thenW (ww277.alloc (.cells #[.int .i64 0, .int .i64 0, .int .u64 0, .int .i64 0, .int .i64 0, .int .i64 0, .slice none 0 0, .int .u64 0] 27)) fun ww278 =>
  canStore ww278 ((blk ww277.heap.size).add 0) ∧
  thenW (ww278.setCell ((blk ww277.heap.size).add 0) (.int .i64 Writer267)) fun ww279 =>
  canStore ww279 ((blk ww277.heap.size).add 1) ∧
  thenW (ww279.setCell ((blk ww277.heap.size).add 1) (.int .i64 Index268)) fun ww280 =>
  canStore ww280 ((blk ww277.heap.size).add 2) ∧
  thenW (ww280.setCell ((blk ww277.heap.size).add 2) (.int .u64 Prev269)) fun ww281 =>
  canStore ww281 ((blk ww277.heap.size).add 3) ∧
  thenW (ww281.setCell ((blk ww277.heap.size).add 3) (.int .i64 AtT270)) fun ww282 =>
  canStore ww282 ((blk ww277.heap.size).add 4) ∧
  thenW (ww282.setCell ((blk ww277.heap.size).add 4) (.int .i64 AtW271)) fun ww283 =>
  canStore ww283 ((blk ww277.heap.size).add 5) ∧
  thenW (ww283.setCell ((blk ww277.heap.size).add 5) (.int .i64 Epoch272)) fun ww284 =>
  canStore ww284 ((blk ww277.heap.size).add 6) ∧
  thenW (ww284.setCell ((blk ww277.heap.size).add 6) (.slice Body273a Body273n Body273c)) fun ww285 =>
  canStore ww285 ((blk ww277.heap.size).add 7) ∧
  thenW (ww285.setCell ((blk ww277.heap.size).add 7) (.int .u64 Sig274)) fun ww286 =>
  bif read275 != 0 then (
  ∃ (xWriter287 : Int) (xIndex288 : Int) (xPrev289 : Int) (xAtT290 : Int) (xAtW291 : Int) (xEpoch292 : Int) (xBody293a : Option Addr) (xBody293n : Nat) (xBody293c : Nat) (xSig294 : Int), cellsAt ww286 (blk ww277.heap.size) [.int .i64 xWriter287, .int .i64 xIndex288, .int .u64 xPrev289, .int .i64 xAtT290, .int .i64 xAtW291, .int .i64 xEpoch292, .slice xBody293a xBody293n xBody293c, .int .u64 xSig294] 0 ∧
  Calls Try.prog 13 #[.agg #[.int .i64 xWriter287, .int .i64 xIndex288, .int .u64 xPrev289, .int .i64 xAtT290, .int .i64 xAtW291, .int .i64 xEpoch292, .slice xBody293a xBody293n xBody293c, .int .u64 xSig294], .agg #[.int .i64 0, .int .i64 0, .int .u64 0, .int .i64 0, .int .i64 0, .int .i64 0, .slice none 0 0, .int .u64 0]] ww286 fun ee296 ww297 => ∃ (same295 : Bool), ee296 = .returned (.bool same295) ∧
  bif same295 then (
  Calls Try.prog 9 #[] ww297 fun ee299 ww300 => ∃ (alive298 : Bool), ee299 = .returned (.bool alive298) ∧
  R (.bool alive298) ww300) else (
  R (.bool false) ww297)) else (
  ∃ (xWriter301 : Int) (xIndex302 : Int) (xPrev303 : Int) (xAtT304 : Int) (xAtW305 : Int) (xEpoch306 : Int) (xBody307a : Option Addr) (xBody307n : Nat) (xBody307c : Nat) (xSig308 : Int), cellsAt ww286 (blk ww277.heap.size) [.int .i64 xWriter301, .int .i64 xIndex302, .int .u64 xPrev303, .int .i64 xAtT304, .int .i64 xAtW305, .int .i64 xEpoch306, .slice xBody307a xBody307n xBody307c, .int .u64 xSig308] 0 ∧
  Calls Try.prog 10 #[.agg #[.int .i64 xWriter301, .int .i64 xIndex302, .int .u64 xPrev303, .int .i64 xAtT304, .int .i64 xAtW305, .int .i64 xEpoch306, .slice xBody307a xBody307n xBody307c, .int .u64 xSig308]] ww286 fun ee311 ww312 => ∃ (bytes309a : Option Addr) (bytes309n : Nat) (bytes309c : Nat) (bytes310 : Int), ee311 = .returned (.tuple #[.slice bytes309a bytes309n bytes309c, .int .i64 bytes310]) ∧
  bif bytes310 == 0 then (
  Calls Try.prog 14 #[.slice bytes309a bytes309n bytes309c, .slice b9a b9n b9c] ww312 fun ee314 ww315 => ∃ (same313 : Bool), ee314 = .returned (.bool same313) ∧
  bif same313 then (
  Calls Try.prog 9 #[] ww315 fun ee317 ww318 => ∃ (alive316 : Bool), ee317 = .returned (.bool alive316) ∧
  R (.bool alive316) ww318) else (
  R (.bool false) ww315)) else (
  R (.bool false) ww312))))))

theorem cachettelaw06_EntryBack.eq (eWriter1 : Int) (eIndex2 : Int) (ePrev3 : Int) (eAtT4 : Int) (eAtW5 : Int) (eEpoch6 : Int) (eBody7a : Option Addr) (eBody7n : Nat) (eBody7c : Nat) (eSig8 : Int) (b9a : Option Addr) (b9n : Nat) (b9c : Nat) (cut10 : Int) (R : Value → World → Prop) (w : World) : mfunc Try.prog [] 3 [.agg #[.int .i64 eWriter1, .int .i64 eIndex2, .int .u64 ePrev3, .int .i64 eAtT4, .int .i64 eAtW5, .int .i64 eEpoch6, .slice eBody7a eBody7n eBody7c, .int .u64 eSig8], .slice b9a b9n b9c, .int .i64 cut10] R w = cachettelaw06_EntryBack.M eWriter1 eIndex2 ePrev3 eAtT4 eAtW5 eEpoch6 eBody7a eBody7n eBody7c eSig8 b9a b9n b9c cut10 R w := by kernel_rfl
theorem cachettelaw06_EntryBack.ok (eWriter1 : Int) (eIndex2 : Int) (ePrev3 : Int) (eAtT4 : Int) (eAtW5 : Int) (eEpoch6 : Int) (eBody7a : Option Addr) (eBody7n : Nat) (eBody7c : Nat) (eSig8 : Int) (b9a : Option Addr) (b9n : Nat) (b9c : Nat) (cut10 : Int) {R : Value → World → Prop} {w : World} (h : cachettelaw06_EntryBack.M eWriter1 eIndex2 ePrev3 eAtT4 eAtW5 eEpoch6 eBody7a eBody7n eBody7c eSig8 b9a b9n b9c cut10 R w) : Calls Try.prog 3 #[.agg #[.int .i64 eWriter1, .int .i64 eIndex2, .int .u64 ePrev3, .int .i64 eAtT4, .int .i64 eAtW5, .int .i64 eEpoch6, .slice eBody7a eBody7n eBody7c, .int .u64 eSig8], .slice b9a b9n b9c, .int .i64 cut10] w fun e w' => ∃ v, e = .returned v ∧ R v w' :=
  mfunc_ok follows (H := []) (args := [.agg #[.int .i64 eWriter1, .int .i64 eIndex2, .int .u64 ePrev3, .int .i64 eAtT4, .int .i64 eAtW5, .int .i64 eEpoch6, .slice eBody7a eBody7n eBody7c, .int .u64 eSig8], .slice b9a b9n b9c, .int .i64 cut10]) (by rw [cachettelaw06_EntryBack.eq]; exact h)

def cachettelaw06_EntryBack.N (eWriter1 : Int) (eIndex2 : Int) (ePrev3 : Int) (eAtT4 : Int) (eAtW5 : Int) (eEpoch6 : Int) (eBody7a : Option Addr) (eBody7n : Nat) (eBody7c : Nat) (eSig8 : Int) (b9a : Option Addr) (b9n : Nat) (b9c : Nat) (cut10 : Int) (R : Value → World → Prop) (w : World) : Prop :=
  ((cachettelaw06_light.F eWriter1 eIndex2 ePrev3 eAtT4 eAtW5 eEpoch6 eBody7a eBody7n eBody7c eSig8) = false →
    ∀ (ww12 : World), Ext no w ww12 →
    Calls Try.prog 9 #[] ww12 fun ee16 ww17 => ∃ (alive15 : Bool), ee16 = .returned (.bool alive15) ∧
    R (.bool alive15) ww17) ∧
  ((cachettelaw06_light.F eWriter1 eIndex2 ePrev3 eAtT4 eAtW5 eEpoch6 eBody7a eBody7n eBody7c eSig8) = true →
    ((b9n : Int) > 1500 →
      ∀ (ww12 : World), Ext no w ww12 →
      Calls Try.prog 9 #[] ww12 fun ee21 ww22 => ∃ (alive20 : Bool), ee21 = .returned (.bool alive20) ∧
      R (.bool alive20) ww22) ∧
    ((b9n : Int) ≤ 1500 →
      ∀ (ww12 : World) (p23 : Nat), Ext no w ww12 → Priv w ww12 [p23] →
      Calls Try.prog 10 #[.agg #[.int .i64 eWriter1, .int .i64 eIndex2, .int .u64 ePrev3, .int .i64 eAtT4, .int .i64 eAtW5, .int .i64 eEpoch6, .slice eBody7a eBody7n eBody7c, .int .u64 eSig8]] ww12 fun ee26 ww27 => ∃ (bytes24a : Option Addr) (bytes24n : Nat) (bytes24c : Nat) (bytes25 : Int), ee26 = .returned (.tuple #[.slice bytes24a bytes24n bytes24c, .int .i64 bytes25]) ∧
      Keep [p23] ww12 ww27 ∧
      ((bytes25 == 0) ≠ (entry_Right.F eWriter1 eIndex2 ePrev3 eAtT4 eAtW5 eEpoch6 eBody7a eBody7n eBody7c eSig8) →
        ∀ (ww28 : World), Ext no ww27 ww28 →
        R (.bool false) ww28) ∧
      ((bytes25 == 0) = (entry_Right.F eWriter1 eIndex2 ePrev3 eAtT4 eAtW5 eEpoch6 eBody7a eBody7n eBody7c eSig8) →
        (bytes25 = 0 →
          ∀ (ww28 : World), Ext no ww27 ww28 →
          Calls Try.prog 12 #[.slice bytes24a bytes24n bytes24c] ww28 fun ee40 ww41 => ∃ (Writer31 : Int) (Index32 : Int) (Prev33 : Int) (AtT34 : Int) (AtW35 : Int) (Epoch36 : Int) (Body37a : Option Addr) (Body37n : Nat) (Body37c : Nat) (Sig38 : Int) (read39 : Int), ee40 = .returned (.tuple #[.agg #[.int .i64 Writer31, .int .i64 Index32, .int .u64 Prev33, .int .i64 AtT34, .int .i64 AtW35, .int .i64 Epoch36, .slice Body37a Body37n Body37c, .int .u64 Sig38], .int .i64 read39]) ∧
          Keep [p23] ww28 ww41 ∧
          (read39 ≠ 0 →
            ∀ (ww50 : World), Ext no ww41 ww50 →
            R (.bool false) ww50) ∧
          (read39 = 0 →
            ∀ (ww50 : World), Ext no ww41 ww50 →
            Calls Try.prog 13 #[.agg #[.int .i64 eWriter1, .int .i64 eIndex2, .int .u64 ePrev3, .int .i64 eAtT4, .int .i64 eAtW5, .int .i64 eEpoch6, .slice eBody7a eBody7n eBody7c, .int .u64 eSig8], .agg #[.int .i64 Writer31, .int .i64 Index32, .int .u64 Prev33, .int .i64 AtT34, .int .i64 AtW35, .int .i64 Epoch36, .slice Body37a Body37n Body37c, .int .u64 Sig38]] ww50 fun ee55 ww56 => ∃ (same54 : Bool), ee55 = .returned (.bool same54) ∧
            (same54 = false →
              R (.bool false) ww56) ∧
            (same54 = true →
              (cut10 ≥ 0 →
                (cut10 < (bytes24n : Int) →
                  (0 : Int) ≤ (cut10 : Int) ∧ (cut10 : Int) ≤ (bytes24c : Int) ∧ 
                  Calls Try.prog 12 #[.slice bytes24a (Int.toNat cut10) bytes24c] ww56 fun ee69 ww70 => ∃ (Writer60 : Int) (Index61 : Int) (Prev62 : Int) (AtT63 : Int) (AtW64 : Int) (Epoch65 : Int) (Body66a : Option Addr) (Body66n : Nat) (Body66c : Nat) (Sig67 : Int) (read68 : Int), ee69 = .returned (.tuple #[.agg #[.int .i64 Writer60, .int .i64 Index61, .int .u64 Prev62, .int .i64 AtT63, .int .i64 AtW64, .int .i64 Epoch65, .slice Body66a Body66n Body66c, .int .u64 Sig67], .int .i64 read68]) ∧
                  (read68 = 0 →
                    ∀ (ww79 : World), Ext no ww70 ww79 →
                    R (.bool false) ww79) ∧
                  (read68 ≠ 0 →
                    ∀ (ww79 : World), Ext no ww70 ww79 →
                    Calls Try.prog 12 #[.slice b9a b9n b9c] ww79 fun ee92 ww93 => ∃ (Writer83 : Int) (Index84 : Int) (Prev85 : Int) (AtT86 : Int) (AtW87 : Int) (Epoch88 : Int) (Body89a : Option Addr) (Body89n : Nat) (Body89c : Nat) (Sig90 : Int) (read91 : Int), ee92 = .returned (.tuple #[.agg #[.int .i64 Writer83, .int .i64 Index84, .int .u64 Prev85, .int .i64 AtT86, .int .i64 AtW87, .int .i64 Epoch88, .slice Body89a Body89n Body89c, .int .u64 Sig90], .int .i64 read91]) ∧
                    (read91 ≠ 0 →
                      ∀ (ww102 : World), Ext no ww93 ww102 →
                      Calls Try.prog 13 #[.agg #[.int .i64 Writer83, .int .i64 Index84, .int .u64 Prev85, .int .i64 AtT86, .int .i64 AtW87, .int .i64 Epoch88, .slice Body89a Body89n Body89c, .int .u64 Sig90], .agg #[.int .i64 0, .int .i64 0, .int .u64 0, .int .i64 0, .int .i64 0, .int .i64 0, .slice none 0 0, .int .u64 0]] ww102 fun ee106 ww107 => ∃ (same105 : Bool), ee106 = .returned (.bool same105) ∧
                      (same105 = true →
                        Calls Try.prog 9 #[] ww107 fun ee110 ww111 => ∃ (alive109 : Bool), ee110 = .returned (.bool alive109) ∧
                        R (.bool alive109) ww111) ∧
                      (same105 = false →
                        R (.bool false) ww107)) ∧
                    (read91 = 0 →
                      ∀ (ww102 : World), Ext no ww93 ww102 →
                      Calls Try.prog 10 #[.agg #[.int .i64 Writer83, .int .i64 Index84, .int .u64 Prev85, .int .i64 AtT86, .int .i64 AtW87, .int .i64 Epoch88, .slice Body89a Body89n Body89c, .int .u64 Sig90]] ww102 fun ee115 ww116 => ∃ (bytes113a : Option Addr) (bytes113n : Nat) (bytes113c : Nat) (bytes114 : Int), ee115 = .returned (.tuple #[.slice bytes113a bytes113n bytes113c, .int .i64 bytes114]) ∧
                      (bytes114 = 0 →
                        Calls Try.prog 14 #[.slice bytes113a bytes113n bytes113c, .slice b9a b9n b9c] ww116 fun ee119 ww120 => ∃ (same118 : Bool), ee119 = .returned (.bool same118) ∧
                        (same118 = true →
                          Calls Try.prog 9 #[] ww120 fun ee123 ww124 => ∃ (alive122 : Bool), ee123 = .returned (.bool alive122) ∧
                          R (.bool alive122) ww124) ∧
                        (same118 = false →
                          R (.bool false) ww120)) ∧
                      (bytes114 ≠ 0 →
                        R (.bool false) ww116)))) ∧
                ((bytes24n : Int) ≤ cut10 →
                  Calls Try.prog 12 #[.slice b9a b9n b9c] ww56 fun ee134 ww135 => ∃ (Writer125 : Int) (Index126 : Int) (Prev127 : Int) (AtT128 : Int) (AtW129 : Int) (Epoch130 : Int) (Body131a : Option Addr) (Body131n : Nat) (Body131c : Nat) (Sig132 : Int) (read133 : Int), ee134 = .returned (.tuple #[.agg #[.int .i64 Writer125, .int .i64 Index126, .int .u64 Prev127, .int .i64 AtT128, .int .i64 AtW129, .int .i64 Epoch130, .slice Body131a Body131n Body131c, .int .u64 Sig132], .int .i64 read133]) ∧
                  (read133 ≠ 0 →
                    ∀ (ww144 : World), Ext no ww135 ww144 →
                    Calls Try.prog 13 #[.agg #[.int .i64 Writer125, .int .i64 Index126, .int .u64 Prev127, .int .i64 AtT128, .int .i64 AtW129, .int .i64 Epoch130, .slice Body131a Body131n Body131c, .int .u64 Sig132], .agg #[.int .i64 0, .int .i64 0, .int .u64 0, .int .i64 0, .int .i64 0, .int .i64 0, .slice none 0 0, .int .u64 0]] ww144 fun ee148 ww149 => ∃ (same147 : Bool), ee148 = .returned (.bool same147) ∧
                    (same147 = true →
                      Calls Try.prog 9 #[] ww149 fun ee152 ww153 => ∃ (alive151 : Bool), ee152 = .returned (.bool alive151) ∧
                      R (.bool alive151) ww153) ∧
                    (same147 = false →
                      R (.bool false) ww149)) ∧
                  (read133 = 0 →
                    ∀ (ww144 : World), Ext no ww135 ww144 →
                    Calls Try.prog 10 #[.agg #[.int .i64 Writer125, .int .i64 Index126, .int .u64 Prev127, .int .i64 AtT128, .int .i64 AtW129, .int .i64 Epoch130, .slice Body131a Body131n Body131c, .int .u64 Sig132]] ww144 fun ee157 ww158 => ∃ (bytes155a : Option Addr) (bytes155n : Nat) (bytes155c : Nat) (bytes156 : Int), ee157 = .returned (.tuple #[.slice bytes155a bytes155n bytes155c, .int .i64 bytes156]) ∧
                    (bytes156 = 0 →
                      Calls Try.prog 14 #[.slice bytes155a bytes155n bytes155c, .slice b9a b9n b9c] ww158 fun ee161 ww162 => ∃ (same160 : Bool), ee161 = .returned (.bool same160) ∧
                      (same160 = true →
                        Calls Try.prog 9 #[] ww162 fun ee165 ww166 => ∃ (alive164 : Bool), ee165 = .returned (.bool alive164) ∧
                        R (.bool alive164) ww166) ∧
                      (same160 = false →
                        R (.bool false) ww162)) ∧
                    (bytes156 ≠ 0 →
                      R (.bool false) ww158)))) ∧
              (cut10 < 0 →
                Calls Try.prog 12 #[.slice b9a b9n b9c] ww56 fun ee176 ww177 => ∃ (Writer167 : Int) (Index168 : Int) (Prev169 : Int) (AtT170 : Int) (AtW171 : Int) (Epoch172 : Int) (Body173a : Option Addr) (Body173n : Nat) (Body173c : Nat) (Sig174 : Int) (read175 : Int), ee176 = .returned (.tuple #[.agg #[.int .i64 Writer167, .int .i64 Index168, .int .u64 Prev169, .int .i64 AtT170, .int .i64 AtW171, .int .i64 Epoch172, .slice Body173a Body173n Body173c, .int .u64 Sig174], .int .i64 read175]) ∧
                (read175 ≠ 0 →
                  ∀ (ww186 : World), Ext no ww177 ww186 →
                  Calls Try.prog 13 #[.agg #[.int .i64 Writer167, .int .i64 Index168, .int .u64 Prev169, .int .i64 AtT170, .int .i64 AtW171, .int .i64 Epoch172, .slice Body173a Body173n Body173c, .int .u64 Sig174], .agg #[.int .i64 0, .int .i64 0, .int .u64 0, .int .i64 0, .int .i64 0, .int .i64 0, .slice none 0 0, .int .u64 0]] ww186 fun ee190 ww191 => ∃ (same189 : Bool), ee190 = .returned (.bool same189) ∧
                  (same189 = true →
                    Calls Try.prog 9 #[] ww191 fun ee194 ww195 => ∃ (alive193 : Bool), ee194 = .returned (.bool alive193) ∧
                    R (.bool alive193) ww195) ∧
                  (same189 = false →
                    R (.bool false) ww191)) ∧
                (read175 = 0 →
                  ∀ (ww186 : World), Ext no ww177 ww186 →
                  Calls Try.prog 10 #[.agg #[.int .i64 Writer167, .int .i64 Index168, .int .u64 Prev169, .int .i64 AtT170, .int .i64 AtW171, .int .i64 Epoch172, .slice Body173a Body173n Body173c, .int .u64 Sig174]] ww186 fun ee199 ww200 => ∃ (bytes197a : Option Addr) (bytes197n : Nat) (bytes197c : Nat) (bytes198 : Int), ee199 = .returned (.tuple #[.slice bytes197a bytes197n bytes197c, .int .i64 bytes198]) ∧
                  (bytes198 = 0 →
                    Calls Try.prog 14 #[.slice bytes197a bytes197n bytes197c, .slice b9a b9n b9c] ww200 fun ee203 ww204 => ∃ (same202 : Bool), ee203 = .returned (.bool same202) ∧
                    (same202 = true →
                      Calls Try.prog 9 #[] ww204 fun ee207 ww208 => ∃ (alive206 : Bool), ee207 = .returned (.bool alive206) ∧
                      R (.bool alive206) ww208) ∧
                    (same202 = false →
                      R (.bool false) ww204)) ∧
                  (bytes198 ≠ 0 →
                    R (.bool false) ww200)))))) ∧
        (bytes25 ≠ 0 →
          ∀ (ww28 : World), Ext no ww27 ww28 →
          Calls Try.prog 12 #[.slice b9a b9n b9c] ww28 fun ee218 ww219 => ∃ (Writer209 : Int) (Index210 : Int) (Prev211 : Int) (AtT212 : Int) (AtW213 : Int) (Epoch214 : Int) (Body215a : Option Addr) (Body215n : Nat) (Body215c : Nat) (Sig216 : Int) (read217 : Int), ee218 = .returned (.tuple #[.agg #[.int .i64 Writer209, .int .i64 Index210, .int .u64 Prev211, .int .i64 AtT212, .int .i64 AtW213, .int .i64 Epoch214, .slice Body215a Body215n Body215c, .int .u64 Sig216], .int .i64 read217]) ∧
          (read217 ≠ 0 →
            ∀ (ww228 : World), Ext no ww219 ww228 →
            Calls Try.prog 13 #[.agg #[.int .i64 Writer209, .int .i64 Index210, .int .u64 Prev211, .int .i64 AtT212, .int .i64 AtW213, .int .i64 Epoch214, .slice Body215a Body215n Body215c, .int .u64 Sig216], .agg #[.int .i64 0, .int .i64 0, .int .u64 0, .int .i64 0, .int .i64 0, .int .i64 0, .slice none 0 0, .int .u64 0]] ww228 fun ee232 ww233 => ∃ (same231 : Bool), ee232 = .returned (.bool same231) ∧
            (same231 = true →
              Calls Try.prog 9 #[] ww233 fun ee236 ww237 => ∃ (alive235 : Bool), ee236 = .returned (.bool alive235) ∧
              R (.bool alive235) ww237) ∧
            (same231 = false →
              R (.bool false) ww233)) ∧
          (read217 = 0 →
            ∀ (ww228 : World), Ext no ww219 ww228 →
            Calls Try.prog 10 #[.agg #[.int .i64 Writer209, .int .i64 Index210, .int .u64 Prev211, .int .i64 AtT212, .int .i64 AtW213, .int .i64 Epoch214, .slice Body215a Body215n Body215c, .int .u64 Sig216]] ww228 fun ee241 ww242 => ∃ (bytes239a : Option Addr) (bytes239n : Nat) (bytes239c : Nat) (bytes240 : Int), ee241 = .returned (.tuple #[.slice bytes239a bytes239n bytes239c, .int .i64 bytes240]) ∧
            (bytes240 = 0 →
              Calls Try.prog 14 #[.slice bytes239a bytes239n bytes239c, .slice b9a b9n b9c] ww242 fun ee245 ww246 => ∃ (same244 : Bool), ee245 = .returned (.bool same244) ∧
              (same244 = true →
                Calls Try.prog 9 #[] ww246 fun ee249 ww250 => ∃ (alive248 : Bool), ee249 = .returned (.bool alive248) ∧
                R (.bool alive248) ww250) ∧
              (same244 = false →
                R (.bool false) ww246)) ∧
            (bytes240 ≠ 0 →
              R (.bool false) ww242))))))

theorem cachettelaw06_EntryBack.up (eWriter1 : Int) (eIndex2 : Int) (ePrev3 : Int) (eAtT4 : Int) (eAtW5 : Int) (eEpoch6 : Int) (eBody7a : Option Addr) (eBody7n : Nat) (eBody7c : Nat) (eSig8 : Int) (b9a : Option Addr) (b9n : Nat) (b9c : Nat) (cut10 : Int) {R : Value → World → Prop} {w : World} (h : cachettelaw06_EntryBack.N eWriter1 eIndex2 ePrev3 eAtT4 eAtW5 eEpoch6 eBody7a eBody7n eBody7c eSig8 b9a b9n b9c cut10 R w) : cachettelaw06_EntryBack.M eWriter1 eIndex2 ePrev3 eAtT4 eAtW5 eEpoch6 eBody7a eBody7n eBody7c eSig8 b9a b9n b9c cut10 R w := by
  unfold cachettelaw06_EntryBack.M
  unfold cachettelaw06_EntryBack.N at h
  refine thenW_in fun ww11 e11 => ?_
  have hb1 := Blk.of_new e11
  have hg1 := ((Ext.refl no w)).size
  have hx11 := (Ext.refl no w).x_alloc e11
  refine ⟨eWriter1, eIndex2, ePrev3, eAtT4, eAtW5, eEpoch6, eBody7a, eBody7n, eBody7c, eSig8, ⟨hb1.celli 0 rfl rfl, hb1.celli 1 rfl rfl, hb1.celli 2 rfl rfl, hb1.celli 3 rfl rfl, hb1.celli 4 rfl rfl, hb1.celli 5 rfl rfl, hb1.celli 6 rfl rfl, hb1.celli 7 rfl rfl, trivial⟩, ?_⟩
  refine (cachettelaw06_light.pure eWriter1 eIndex2 ePrev3 eAtT4 eAtW5 eEpoch6 eBody7a eBody7n eBody7c eSig8).mono fun ee ww12 ⟨he, hxx⟩ => ⟨(cachettelaw06_light.F eWriter1 eIndex2 ePrev3 eAtT4 eAtW5 eEpoch6 eBody7a eBody7n eBody7c eSig8), he, ?_⟩
  have hx12 := hx11.trans hxx
  have hb1 := hb1.ext hxx id
  refine bif_of (fun c13 => ?_) (fun c13 => ?_)
  · have h := h.1 (not_t c13)
    have h := h ww12 hx12
    refine h.mono fun ee16 ww17 h => ?_
    obtain ⟨alive15, he, h⟩ := h
    refine ⟨alive15, he, ?_⟩
    exact h
  · have h := h.2 (not_f c13)
    refine bif_of (fun c18 => ?_) (fun c18 => ?_)
    · have h := h.1 (of_decide_eq_true c18)
      have h := h ww12 hx12
      refine h.mono fun ee21 ww22 h => ?_
      obtain ⟨alive20, he, h⟩ := h
      refine ⟨alive20, he, ?_⟩
      exact h
    · have h := h.2 (Int.not_lt.1 (of_decide_eq_false c18))
      refine ⟨eWriter1, eIndex2, ePrev3, eAtT4, eAtW5, eEpoch6, eBody7a, eBody7n, eBody7c, eSig8, ⟨hb1.celli 0 rfl rfl, hb1.celli 1 rfl rfl, hb1.celli 2 rfl rfl, hb1.celli 3 rfl rfl, hb1.celli 4 rfl rfl, hb1.celli 5 rfl rfl, hb1.celli 6 rfl rfl, hb1.celli 7 rfl rfl, trivial⟩, ?_⟩
      have h := h ww12 (w.heap.size) hx12 (Priv.cons hg1 hb1.lt Priv.nil)
      refine h.mono fun ee26 ww27 h => ?_
      obtain ⟨bytes24a, bytes24n, bytes24c, bytes25, he, hk, h⟩ := h
      refine ⟨bytes24a, bytes24n, bytes24c, bytes25, he, ?_⟩
      have hb1 := hk.blk hb1 (by simp)
      refine ⟨eWriter1, eIndex2, ePrev3, eAtT4, eAtW5, eEpoch6, eBody7a, eBody7n, eBody7c, eSig8, ⟨hb1.celli 0 rfl rfl, hb1.celli 1 rfl rfl, hb1.celli 2 rfl rfl, hb1.celli 3 rfl rfl, hb1.celli 4 rfl rfl, hb1.celli 5 rfl rfl, hb1.celli 6 rfl rfl, hb1.celli 7 rfl rfl, trivial⟩, ?_⟩
      refine (entry_Right.pure eWriter1 eIndex2 ePrev3 eAtT4 eAtW5 eEpoch6 eBody7a eBody7n eBody7c eSig8).mono fun ee ww28 ⟨he, hxx⟩ => ⟨(entry_Right.F eWriter1 eIndex2 ePrev3 eAtT4 eAtW5 eEpoch6 eBody7a eBody7n eBody7c eSig8), he, ?_⟩
      have hx28 := (Ext.refl no ww27).trans hxx
      have hb1 := hb1.ext hxx id
      refine bif_of (fun c29 => ?_) (fun c29 => ?_)
      · have h := h.1 (bbeq_f (not_t c29))
        have h := h ww28 hx28
        exact h
      · have h := h.2 (bbeq_t (not_f c29))
        refine bif_of (fun c30 => ?_) (fun c30 => ?_)
        · have h := h.1 (beq_t c30)
          have h := h ww28 hx28
          refine h.mono fun ee40 ww41 h => ?_
          obtain ⟨Writer31, Index32, Prev33, AtT34, AtW35, Epoch36, Body37a, Body37n, Body37c, Sig38, read39, he, hk, h⟩ := h
          refine ⟨Writer31, Index32, Prev33, AtT34, AtW35, Epoch36, Body37a, Body37n, Body37c, Sig38, read39, he, ?_⟩
          have hb1 := hk.blk hb1 (by simp)
          refine thenW_in fun ww42 e42 => ?_
          have hb2 := Blk.of_new e42
          have hg2 := ((Ext.refl no ww41)).size
          have hb1_2 := Nat.ne_of_lt hb1.lt
          have hb1 := hb1.x_alloc e42
          have hx42 := (Ext.refl no ww41).x_alloc e42
          refine ⟨hb2.cani 0 rfl rfl, thenW_in fun ww43 e43 => ?_⟩
          have hx43 := hx42.x_set (q := ww41.heap.size) (i := 0) rfl (.inr hg2) e43
          have hb1 := hb1.oth (q := ww41.heap.size) (i := 0) rfl hb1_2 e43
          have hb2 := hb2.seti 0 rfl e43
          refine ⟨hb2.cani 1 rfl rfl, thenW_in fun ww44 e44 => ?_⟩
          have hx44 := hx43.x_set (q := ww41.heap.size) (i := 1) rfl (.inr hg2) e44
          have hb1 := hb1.oth (q := ww41.heap.size) (i := 1) rfl hb1_2 e44
          have hb2 := hb2.seti 1 rfl e44
          refine ⟨hb2.cani 2 rfl rfl, thenW_in fun ww45 e45 => ?_⟩
          have hx45 := hx44.x_set (q := ww41.heap.size) (i := 2) rfl (.inr hg2) e45
          have hb1 := hb1.oth (q := ww41.heap.size) (i := 2) rfl hb1_2 e45
          have hb2 := hb2.seti 2 rfl e45
          refine ⟨hb2.cani 3 rfl rfl, thenW_in fun ww46 e46 => ?_⟩
          have hx46 := hx45.x_set (q := ww41.heap.size) (i := 3) rfl (.inr hg2) e46
          have hb1 := hb1.oth (q := ww41.heap.size) (i := 3) rfl hb1_2 e46
          have hb2 := hb2.seti 3 rfl e46
          refine ⟨hb2.cani 4 rfl rfl, thenW_in fun ww47 e47 => ?_⟩
          have hx47 := hx46.x_set (q := ww41.heap.size) (i := 4) rfl (.inr hg2) e47
          have hb1 := hb1.oth (q := ww41.heap.size) (i := 4) rfl hb1_2 e47
          have hb2 := hb2.seti 4 rfl e47
          refine ⟨hb2.cani 5 rfl rfl, thenW_in fun ww48 e48 => ?_⟩
          have hx48 := hx47.x_set (q := ww41.heap.size) (i := 5) rfl (.inr hg2) e48
          have hb1 := hb1.oth (q := ww41.heap.size) (i := 5) rfl hb1_2 e48
          have hb2 := hb2.seti 5 rfl e48
          refine ⟨hb2.cani 6 rfl rfl, thenW_in fun ww49 e49 => ?_⟩
          have hx49 := hx48.x_set (q := ww41.heap.size) (i := 6) rfl (.inr hg2) e49
          have hb1 := hb1.oth (q := ww41.heap.size) (i := 6) rfl hb1_2 e49
          have hb2 := hb2.seti 6 rfl e49
          refine ⟨hb2.cani 7 rfl rfl, thenW_in fun ww50 e50 => ?_⟩
          have hx50 := hx49.x_set (q := ww41.heap.size) (i := 7) rfl (.inr hg2) e50
          have hb1 := hb1.oth (q := ww41.heap.size) (i := 7) rfl hb1_2 e50
          have hb2 := hb2.seti 7 rfl e50
          refine bif_of (fun c51 => ?_) (fun c51 => ?_)
          · have h := h.1 (bne_t c51)
            have h := h ww50 hx50
            exact h
          · have h := h.2 (bne_f c51)
            refine ⟨eWriter1, eIndex2, ePrev3, eAtT4, eAtW5, eEpoch6, eBody7a, eBody7n, eBody7c, eSig8, ⟨hb1.celli 0 rfl rfl, hb1.celli 1 rfl rfl, hb1.celli 2 rfl rfl, hb1.celli 3 rfl rfl, hb1.celli 4 rfl rfl, hb1.celli 5 rfl rfl, hb1.celli 6 rfl rfl, hb1.celli 7 rfl rfl, trivial⟩, ?_⟩
            refine ⟨Writer31, Index32, Prev33, AtT34, AtW35, Epoch36, Body37a, Body37n, Body37c, Sig38, ⟨hb2.celli 0 rfl rfl, hb2.celli 1 rfl rfl, hb2.celli 2 rfl rfl, hb2.celli 3 rfl rfl, hb2.celli 4 rfl rfl, hb2.celli 5 rfl rfl, hb2.celli 6 rfl rfl, hb2.celli 7 rfl rfl, trivial⟩, ?_⟩
            have h := h ww50 hx50
            refine h.mono fun ee55 ww56 h => ?_
            obtain ⟨same54, he, h⟩ := h
            refine ⟨same54, he, ?_⟩
            refine bif_of (fun c57 => ?_) (fun c57 => ?_)
            · have h := h.1 (not_t c57)
              exact h
            · have h := h.2 (not_f c57)
              refine bif_of (fun c58 => ?_) (fun c58 => ?_)
              · have h := h.1 (of_decide_eq_true c58)
                refine bif_of (fun c59 => ?_) (fun c59 => ?_)
                · have h := h.1 (of_decide_eq_true c59)
                  obtain ⟨hq0, hq1, h⟩ := h
                  refine ⟨hq0, hq1, ?_⟩
                  try rw [cut_zero]
                  refine h.mono fun ee69 ww70 h => ?_
                  obtain ⟨Writer60, Index61, Prev62, AtT63, AtW64, Epoch65, Body66a, Body66n, Body66c, Sig67, read68, he, h⟩ := h
                  refine ⟨Writer60, Index61, Prev62, AtT63, AtW64, Epoch65, Body66a, Body66n, Body66c, Sig67, read68, he, ?_⟩
                  refine thenW_in fun ww71 e71 => ?_
                  have hb3 := Blk.of_new e71
                  have hg3 := ((Ext.refl no ww70)).size
                  have hx71 := (Ext.refl no ww70).x_alloc e71
                  refine ⟨hb3.cani 0 rfl rfl, thenW_in fun ww72 e72 => ?_⟩
                  have hx72 := hx71.x_set (q := ww70.heap.size) (i := 0) rfl (.inr hg3) e72
                  have hb3 := hb3.seti 0 rfl e72
                  refine ⟨hb3.cani 1 rfl rfl, thenW_in fun ww73 e73 => ?_⟩
                  have hx73 := hx72.x_set (q := ww70.heap.size) (i := 1) rfl (.inr hg3) e73
                  have hb3 := hb3.seti 1 rfl e73
                  refine ⟨hb3.cani 2 rfl rfl, thenW_in fun ww74 e74 => ?_⟩
                  have hx74 := hx73.x_set (q := ww70.heap.size) (i := 2) rfl (.inr hg3) e74
                  have hb3 := hb3.seti 2 rfl e74
                  refine ⟨hb3.cani 3 rfl rfl, thenW_in fun ww75 e75 => ?_⟩
                  have hx75 := hx74.x_set (q := ww70.heap.size) (i := 3) rfl (.inr hg3) e75
                  have hb3 := hb3.seti 3 rfl e75
                  refine ⟨hb3.cani 4 rfl rfl, thenW_in fun ww76 e76 => ?_⟩
                  have hx76 := hx75.x_set (q := ww70.heap.size) (i := 4) rfl (.inr hg3) e76
                  have hb3 := hb3.seti 4 rfl e76
                  refine ⟨hb3.cani 5 rfl rfl, thenW_in fun ww77 e77 => ?_⟩
                  have hx77 := hx76.x_set (q := ww70.heap.size) (i := 5) rfl (.inr hg3) e77
                  have hb3 := hb3.seti 5 rfl e77
                  refine ⟨hb3.cani 6 rfl rfl, thenW_in fun ww78 e78 => ?_⟩
                  have hx78 := hx77.x_set (q := ww70.heap.size) (i := 6) rfl (.inr hg3) e78
                  have hb3 := hb3.seti 6 rfl e78
                  refine ⟨hb3.cani 7 rfl rfl, thenW_in fun ww79 e79 => ?_⟩
                  have hx79 := hx78.x_set (q := ww70.heap.size) (i := 7) rfl (.inr hg3) e79
                  have hb3 := hb3.seti 7 rfl e79
                  refine bif_of (fun c80 => ?_) (fun c80 => ?_)
                  · have h := h.1 (beq_t c80)
                    have h := h ww79 hx79
                    exact h
                  · have h := h.2 (beq_f c80)
                    have h := h ww79 hx79
                    refine h.mono fun ee92 ww93 h => ?_
                    obtain ⟨Writer83, Index84, Prev85, AtT86, AtW87, Epoch88, Body89a, Body89n, Body89c, Sig90, read91, he, h⟩ := h
                    refine ⟨Writer83, Index84, Prev85, AtT86, AtW87, Epoch88, Body89a, Body89n, Body89c, Sig90, read91, he, ?_⟩
                    refine thenW_in fun ww94 e94 => ?_
                    have hb4 := Blk.of_new e94
                    have hg4 := ((Ext.refl no ww93)).size
                    have hx94 := (Ext.refl no ww93).x_alloc e94
                    refine ⟨hb4.cani 0 rfl rfl, thenW_in fun ww95 e95 => ?_⟩
                    have hx95 := hx94.x_set (q := ww93.heap.size) (i := 0) rfl (.inr hg4) e95
                    have hb4 := hb4.seti 0 rfl e95
                    refine ⟨hb4.cani 1 rfl rfl, thenW_in fun ww96 e96 => ?_⟩
                    have hx96 := hx95.x_set (q := ww93.heap.size) (i := 1) rfl (.inr hg4) e96
                    have hb4 := hb4.seti 1 rfl e96
                    refine ⟨hb4.cani 2 rfl rfl, thenW_in fun ww97 e97 => ?_⟩
                    have hx97 := hx96.x_set (q := ww93.heap.size) (i := 2) rfl (.inr hg4) e97
                    have hb4 := hb4.seti 2 rfl e97
                    refine ⟨hb4.cani 3 rfl rfl, thenW_in fun ww98 e98 => ?_⟩
                    have hx98 := hx97.x_set (q := ww93.heap.size) (i := 3) rfl (.inr hg4) e98
                    have hb4 := hb4.seti 3 rfl e98
                    refine ⟨hb4.cani 4 rfl rfl, thenW_in fun ww99 e99 => ?_⟩
                    have hx99 := hx98.x_set (q := ww93.heap.size) (i := 4) rfl (.inr hg4) e99
                    have hb4 := hb4.seti 4 rfl e99
                    refine ⟨hb4.cani 5 rfl rfl, thenW_in fun ww100 e100 => ?_⟩
                    have hx100 := hx99.x_set (q := ww93.heap.size) (i := 5) rfl (.inr hg4) e100
                    have hb4 := hb4.seti 5 rfl e100
                    refine ⟨hb4.cani 6 rfl rfl, thenW_in fun ww101 e101 => ?_⟩
                    have hx101 := hx100.x_set (q := ww93.heap.size) (i := 6) rfl (.inr hg4) e101
                    have hb4 := hb4.seti 6 rfl e101
                    refine ⟨hb4.cani 7 rfl rfl, thenW_in fun ww102 e102 => ?_⟩
                    have hx102 := hx101.x_set (q := ww93.heap.size) (i := 7) rfl (.inr hg4) e102
                    have hb4 := hb4.seti 7 rfl e102
                    refine bif_of (fun c103 => ?_) (fun c103 => ?_)
                    · have h := h.1 (bne_t c103)
                      refine ⟨Writer83, Index84, Prev85, AtT86, AtW87, Epoch88, Body89a, Body89n, Body89c, Sig90, ⟨hb4.celli 0 rfl rfl, hb4.celli 1 rfl rfl, hb4.celli 2 rfl rfl, hb4.celli 3 rfl rfl, hb4.celli 4 rfl rfl, hb4.celli 5 rfl rfl, hb4.celli 6 rfl rfl, hb4.celli 7 rfl rfl, trivial⟩, ?_⟩
                      have h := h ww102 hx102
                      refine h.mono fun ee106 ww107 h => ?_
                      obtain ⟨same105, he, h⟩ := h
                      refine ⟨same105, he, ?_⟩
                      refine bif_of (fun c108 => ?_) (fun c108 => ?_)
                      · have h := h.1 c108
                        refine h.mono fun ee110 ww111 h => ?_
                        obtain ⟨alive109, he, h⟩ := h
                        refine ⟨alive109, he, ?_⟩
                        exact h
                      · have h := h.2 c108
                        exact h
                    · have h := h.2 (bne_f c103)
                      refine ⟨Writer83, Index84, Prev85, AtT86, AtW87, Epoch88, Body89a, Body89n, Body89c, Sig90, ⟨hb4.celli 0 rfl rfl, hb4.celli 1 rfl rfl, hb4.celli 2 rfl rfl, hb4.celli 3 rfl rfl, hb4.celli 4 rfl rfl, hb4.celli 5 rfl rfl, hb4.celli 6 rfl rfl, hb4.celli 7 rfl rfl, trivial⟩, ?_⟩
                      have h := h ww102 hx102
                      refine h.mono fun ee115 ww116 h => ?_
                      obtain ⟨bytes113a, bytes113n, bytes113c, bytes114, he, h⟩ := h
                      refine ⟨bytes113a, bytes113n, bytes113c, bytes114, he, ?_⟩
                      refine bif_of (fun c117 => ?_) (fun c117 => ?_)
                      · have h := h.1 (beq_t c117)
                        refine h.mono fun ee119 ww120 h => ?_
                        obtain ⟨same118, he, h⟩ := h
                        refine ⟨same118, he, ?_⟩
                        refine bif_of (fun c121 => ?_) (fun c121 => ?_)
                        · have h := h.1 c121
                          refine h.mono fun ee123 ww124 h => ?_
                          obtain ⟨alive122, he, h⟩ := h
                          refine ⟨alive122, he, ?_⟩
                          exact h
                        · have h := h.2 c121
                          exact h
                      · have h := h.2 (beq_f c117)
                        exact h
                · have h := h.2 (Int.not_lt.1 (of_decide_eq_false c59))
                  refine h.mono fun ee134 ww135 h => ?_
                  obtain ⟨Writer125, Index126, Prev127, AtT128, AtW129, Epoch130, Body131a, Body131n, Body131c, Sig132, read133, he, h⟩ := h
                  refine ⟨Writer125, Index126, Prev127, AtT128, AtW129, Epoch130, Body131a, Body131n, Body131c, Sig132, read133, he, ?_⟩
                  refine thenW_in fun ww136 e136 => ?_
                  have hb5 := Blk.of_new e136
                  have hg5 := ((Ext.refl no ww135)).size
                  have hx136 := (Ext.refl no ww135).x_alloc e136
                  refine ⟨hb5.cani 0 rfl rfl, thenW_in fun ww137 e137 => ?_⟩
                  have hx137 := hx136.x_set (q := ww135.heap.size) (i := 0) rfl (.inr hg5) e137
                  have hb5 := hb5.seti 0 rfl e137
                  refine ⟨hb5.cani 1 rfl rfl, thenW_in fun ww138 e138 => ?_⟩
                  have hx138 := hx137.x_set (q := ww135.heap.size) (i := 1) rfl (.inr hg5) e138
                  have hb5 := hb5.seti 1 rfl e138
                  refine ⟨hb5.cani 2 rfl rfl, thenW_in fun ww139 e139 => ?_⟩
                  have hx139 := hx138.x_set (q := ww135.heap.size) (i := 2) rfl (.inr hg5) e139
                  have hb5 := hb5.seti 2 rfl e139
                  refine ⟨hb5.cani 3 rfl rfl, thenW_in fun ww140 e140 => ?_⟩
                  have hx140 := hx139.x_set (q := ww135.heap.size) (i := 3) rfl (.inr hg5) e140
                  have hb5 := hb5.seti 3 rfl e140
                  refine ⟨hb5.cani 4 rfl rfl, thenW_in fun ww141 e141 => ?_⟩
                  have hx141 := hx140.x_set (q := ww135.heap.size) (i := 4) rfl (.inr hg5) e141
                  have hb5 := hb5.seti 4 rfl e141
                  refine ⟨hb5.cani 5 rfl rfl, thenW_in fun ww142 e142 => ?_⟩
                  have hx142 := hx141.x_set (q := ww135.heap.size) (i := 5) rfl (.inr hg5) e142
                  have hb5 := hb5.seti 5 rfl e142
                  refine ⟨hb5.cani 6 rfl rfl, thenW_in fun ww143 e143 => ?_⟩
                  have hx143 := hx142.x_set (q := ww135.heap.size) (i := 6) rfl (.inr hg5) e143
                  have hb5 := hb5.seti 6 rfl e143
                  refine ⟨hb5.cani 7 rfl rfl, thenW_in fun ww144 e144 => ?_⟩
                  have hx144 := hx143.x_set (q := ww135.heap.size) (i := 7) rfl (.inr hg5) e144
                  have hb5 := hb5.seti 7 rfl e144
                  refine bif_of (fun c145 => ?_) (fun c145 => ?_)
                  · have h := h.1 (bne_t c145)
                    refine ⟨Writer125, Index126, Prev127, AtT128, AtW129, Epoch130, Body131a, Body131n, Body131c, Sig132, ⟨hb5.celli 0 rfl rfl, hb5.celli 1 rfl rfl, hb5.celli 2 rfl rfl, hb5.celli 3 rfl rfl, hb5.celli 4 rfl rfl, hb5.celli 5 rfl rfl, hb5.celli 6 rfl rfl, hb5.celli 7 rfl rfl, trivial⟩, ?_⟩
                    have h := h ww144 hx144
                    refine h.mono fun ee148 ww149 h => ?_
                    obtain ⟨same147, he, h⟩ := h
                    refine ⟨same147, he, ?_⟩
                    refine bif_of (fun c150 => ?_) (fun c150 => ?_)
                    · have h := h.1 c150
                      refine h.mono fun ee152 ww153 h => ?_
                      obtain ⟨alive151, he, h⟩ := h
                      refine ⟨alive151, he, ?_⟩
                      exact h
                    · have h := h.2 c150
                      exact h
                  · have h := h.2 (bne_f c145)
                    refine ⟨Writer125, Index126, Prev127, AtT128, AtW129, Epoch130, Body131a, Body131n, Body131c, Sig132, ⟨hb5.celli 0 rfl rfl, hb5.celli 1 rfl rfl, hb5.celli 2 rfl rfl, hb5.celli 3 rfl rfl, hb5.celli 4 rfl rfl, hb5.celli 5 rfl rfl, hb5.celli 6 rfl rfl, hb5.celli 7 rfl rfl, trivial⟩, ?_⟩
                    have h := h ww144 hx144
                    refine h.mono fun ee157 ww158 h => ?_
                    obtain ⟨bytes155a, bytes155n, bytes155c, bytes156, he, h⟩ := h
                    refine ⟨bytes155a, bytes155n, bytes155c, bytes156, he, ?_⟩
                    refine bif_of (fun c159 => ?_) (fun c159 => ?_)
                    · have h := h.1 (beq_t c159)
                      refine h.mono fun ee161 ww162 h => ?_
                      obtain ⟨same160, he, h⟩ := h
                      refine ⟨same160, he, ?_⟩
                      refine bif_of (fun c163 => ?_) (fun c163 => ?_)
                      · have h := h.1 c163
                        refine h.mono fun ee165 ww166 h => ?_
                        obtain ⟨alive164, he, h⟩ := h
                        refine ⟨alive164, he, ?_⟩
                        exact h
                      · have h := h.2 c163
                        exact h
                    · have h := h.2 (beq_f c159)
                      exact h
              · have h := h.2 (Int.not_le.1 (of_decide_eq_false c58))
                refine h.mono fun ee176 ww177 h => ?_
                obtain ⟨Writer167, Index168, Prev169, AtT170, AtW171, Epoch172, Body173a, Body173n, Body173c, Sig174, read175, he, h⟩ := h
                refine ⟨Writer167, Index168, Prev169, AtT170, AtW171, Epoch172, Body173a, Body173n, Body173c, Sig174, read175, he, ?_⟩
                refine thenW_in fun ww178 e178 => ?_
                have hb6 := Blk.of_new e178
                have hg6 := ((Ext.refl no ww177)).size
                have hx178 := (Ext.refl no ww177).x_alloc e178
                refine ⟨hb6.cani 0 rfl rfl, thenW_in fun ww179 e179 => ?_⟩
                have hx179 := hx178.x_set (q := ww177.heap.size) (i := 0) rfl (.inr hg6) e179
                have hb6 := hb6.seti 0 rfl e179
                refine ⟨hb6.cani 1 rfl rfl, thenW_in fun ww180 e180 => ?_⟩
                have hx180 := hx179.x_set (q := ww177.heap.size) (i := 1) rfl (.inr hg6) e180
                have hb6 := hb6.seti 1 rfl e180
                refine ⟨hb6.cani 2 rfl rfl, thenW_in fun ww181 e181 => ?_⟩
                have hx181 := hx180.x_set (q := ww177.heap.size) (i := 2) rfl (.inr hg6) e181
                have hb6 := hb6.seti 2 rfl e181
                refine ⟨hb6.cani 3 rfl rfl, thenW_in fun ww182 e182 => ?_⟩
                have hx182 := hx181.x_set (q := ww177.heap.size) (i := 3) rfl (.inr hg6) e182
                have hb6 := hb6.seti 3 rfl e182
                refine ⟨hb6.cani 4 rfl rfl, thenW_in fun ww183 e183 => ?_⟩
                have hx183 := hx182.x_set (q := ww177.heap.size) (i := 4) rfl (.inr hg6) e183
                have hb6 := hb6.seti 4 rfl e183
                refine ⟨hb6.cani 5 rfl rfl, thenW_in fun ww184 e184 => ?_⟩
                have hx184 := hx183.x_set (q := ww177.heap.size) (i := 5) rfl (.inr hg6) e184
                have hb6 := hb6.seti 5 rfl e184
                refine ⟨hb6.cani 6 rfl rfl, thenW_in fun ww185 e185 => ?_⟩
                have hx185 := hx184.x_set (q := ww177.heap.size) (i := 6) rfl (.inr hg6) e185
                have hb6 := hb6.seti 6 rfl e185
                refine ⟨hb6.cani 7 rfl rfl, thenW_in fun ww186 e186 => ?_⟩
                have hx186 := hx185.x_set (q := ww177.heap.size) (i := 7) rfl (.inr hg6) e186
                have hb6 := hb6.seti 7 rfl e186
                refine bif_of (fun c187 => ?_) (fun c187 => ?_)
                · have h := h.1 (bne_t c187)
                  refine ⟨Writer167, Index168, Prev169, AtT170, AtW171, Epoch172, Body173a, Body173n, Body173c, Sig174, ⟨hb6.celli 0 rfl rfl, hb6.celli 1 rfl rfl, hb6.celli 2 rfl rfl, hb6.celli 3 rfl rfl, hb6.celli 4 rfl rfl, hb6.celli 5 rfl rfl, hb6.celli 6 rfl rfl, hb6.celli 7 rfl rfl, trivial⟩, ?_⟩
                  have h := h ww186 hx186
                  refine h.mono fun ee190 ww191 h => ?_
                  obtain ⟨same189, he, h⟩ := h
                  refine ⟨same189, he, ?_⟩
                  refine bif_of (fun c192 => ?_) (fun c192 => ?_)
                  · have h := h.1 c192
                    refine h.mono fun ee194 ww195 h => ?_
                    obtain ⟨alive193, he, h⟩ := h
                    refine ⟨alive193, he, ?_⟩
                    exact h
                  · have h := h.2 c192
                    exact h
                · have h := h.2 (bne_f c187)
                  refine ⟨Writer167, Index168, Prev169, AtT170, AtW171, Epoch172, Body173a, Body173n, Body173c, Sig174, ⟨hb6.celli 0 rfl rfl, hb6.celli 1 rfl rfl, hb6.celli 2 rfl rfl, hb6.celli 3 rfl rfl, hb6.celli 4 rfl rfl, hb6.celli 5 rfl rfl, hb6.celli 6 rfl rfl, hb6.celli 7 rfl rfl, trivial⟩, ?_⟩
                  have h := h ww186 hx186
                  refine h.mono fun ee199 ww200 h => ?_
                  obtain ⟨bytes197a, bytes197n, bytes197c, bytes198, he, h⟩ := h
                  refine ⟨bytes197a, bytes197n, bytes197c, bytes198, he, ?_⟩
                  refine bif_of (fun c201 => ?_) (fun c201 => ?_)
                  · have h := h.1 (beq_t c201)
                    refine h.mono fun ee203 ww204 h => ?_
                    obtain ⟨same202, he, h⟩ := h
                    refine ⟨same202, he, ?_⟩
                    refine bif_of (fun c205 => ?_) (fun c205 => ?_)
                    · have h := h.1 c205
                      refine h.mono fun ee207 ww208 h => ?_
                      obtain ⟨alive206, he, h⟩ := h
                      refine ⟨alive206, he, ?_⟩
                      exact h
                    · have h := h.2 c205
                      exact h
                  · have h := h.2 (beq_f c201)
                    exact h
        · have h := h.2 (beq_f c30)
          have h := h ww28 hx28
          refine h.mono fun ee218 ww219 h => ?_
          obtain ⟨Writer209, Index210, Prev211, AtT212, AtW213, Epoch214, Body215a, Body215n, Body215c, Sig216, read217, he, h⟩ := h
          refine ⟨Writer209, Index210, Prev211, AtT212, AtW213, Epoch214, Body215a, Body215n, Body215c, Sig216, read217, he, ?_⟩
          refine thenW_in fun ww220 e220 => ?_
          have hb7 := Blk.of_new e220
          have hg7 := ((Ext.refl no ww219)).size
          have hx220 := (Ext.refl no ww219).x_alloc e220
          refine ⟨hb7.cani 0 rfl rfl, thenW_in fun ww221 e221 => ?_⟩
          have hx221 := hx220.x_set (q := ww219.heap.size) (i := 0) rfl (.inr hg7) e221
          have hb7 := hb7.seti 0 rfl e221
          refine ⟨hb7.cani 1 rfl rfl, thenW_in fun ww222 e222 => ?_⟩
          have hx222 := hx221.x_set (q := ww219.heap.size) (i := 1) rfl (.inr hg7) e222
          have hb7 := hb7.seti 1 rfl e222
          refine ⟨hb7.cani 2 rfl rfl, thenW_in fun ww223 e223 => ?_⟩
          have hx223 := hx222.x_set (q := ww219.heap.size) (i := 2) rfl (.inr hg7) e223
          have hb7 := hb7.seti 2 rfl e223
          refine ⟨hb7.cani 3 rfl rfl, thenW_in fun ww224 e224 => ?_⟩
          have hx224 := hx223.x_set (q := ww219.heap.size) (i := 3) rfl (.inr hg7) e224
          have hb7 := hb7.seti 3 rfl e224
          refine ⟨hb7.cani 4 rfl rfl, thenW_in fun ww225 e225 => ?_⟩
          have hx225 := hx224.x_set (q := ww219.heap.size) (i := 4) rfl (.inr hg7) e225
          have hb7 := hb7.seti 4 rfl e225
          refine ⟨hb7.cani 5 rfl rfl, thenW_in fun ww226 e226 => ?_⟩
          have hx226 := hx225.x_set (q := ww219.heap.size) (i := 5) rfl (.inr hg7) e226
          have hb7 := hb7.seti 5 rfl e226
          refine ⟨hb7.cani 6 rfl rfl, thenW_in fun ww227 e227 => ?_⟩
          have hx227 := hx226.x_set (q := ww219.heap.size) (i := 6) rfl (.inr hg7) e227
          have hb7 := hb7.seti 6 rfl e227
          refine ⟨hb7.cani 7 rfl rfl, thenW_in fun ww228 e228 => ?_⟩
          have hx228 := hx227.x_set (q := ww219.heap.size) (i := 7) rfl (.inr hg7) e228
          have hb7 := hb7.seti 7 rfl e228
          refine bif_of (fun c229 => ?_) (fun c229 => ?_)
          · have h := h.1 (bne_t c229)
            refine ⟨Writer209, Index210, Prev211, AtT212, AtW213, Epoch214, Body215a, Body215n, Body215c, Sig216, ⟨hb7.celli 0 rfl rfl, hb7.celli 1 rfl rfl, hb7.celli 2 rfl rfl, hb7.celli 3 rfl rfl, hb7.celli 4 rfl rfl, hb7.celli 5 rfl rfl, hb7.celli 6 rfl rfl, hb7.celli 7 rfl rfl, trivial⟩, ?_⟩
            have h := h ww228 hx228
            refine h.mono fun ee232 ww233 h => ?_
            obtain ⟨same231, he, h⟩ := h
            refine ⟨same231, he, ?_⟩
            refine bif_of (fun c234 => ?_) (fun c234 => ?_)
            · have h := h.1 c234
              refine h.mono fun ee236 ww237 h => ?_
              obtain ⟨alive235, he, h⟩ := h
              refine ⟨alive235, he, ?_⟩
              exact h
            · have h := h.2 c234
              exact h
          · have h := h.2 (bne_f c229)
            refine ⟨Writer209, Index210, Prev211, AtT212, AtW213, Epoch214, Body215a, Body215n, Body215c, Sig216, ⟨hb7.celli 0 rfl rfl, hb7.celli 1 rfl rfl, hb7.celli 2 rfl rfl, hb7.celli 3 rfl rfl, hb7.celli 4 rfl rfl, hb7.celli 5 rfl rfl, hb7.celli 6 rfl rfl, hb7.celli 7 rfl rfl, trivial⟩, ?_⟩
            have h := h ww228 hx228
            refine h.mono fun ee241 ww242 h => ?_
            obtain ⟨bytes239a, bytes239n, bytes239c, bytes240, he, h⟩ := h
            refine ⟨bytes239a, bytes239n, bytes239c, bytes240, he, ?_⟩
            refine bif_of (fun c243 => ?_) (fun c243 => ?_)
            · have h := h.1 (beq_t c243)
              refine h.mono fun ee245 ww246 h => ?_
              obtain ⟨same244, he, h⟩ := h
              refine ⟨same244, he, ?_⟩
              refine bif_of (fun c247 => ?_) (fun c247 => ?_)
              · have h := h.1 c247
                refine h.mono fun ee249 ww250 h => ?_
                obtain ⟨alive248, he, h⟩ := h
                refine ⟨alive248, he, ?_⟩
                exact h
              · have h := h.2 c247
                exact h
            · have h := h.2 (beq_f c243)
              exact h

theorem cachettelaw06_EntryBack.go (eWriter1 : Int) (eIndex2 : Int) (ePrev3 : Int) (eAtT4 : Int) (eAtW5 : Int) (eEpoch6 : Int) (eBody7a : Option Addr) (eBody7n : Nat) (eBody7c : Nat) (eSig8 : Int) (b9a : Option Addr) (b9n : Nat) (b9c : Nat) (cut10 : Int) {R : Value → World → Prop} {w : World} (h : cachettelaw06_EntryBack.N eWriter1 eIndex2 ePrev3 eAtT4 eAtW5 eEpoch6 eBody7a eBody7n eBody7c eSig8 b9a b9n b9c cut10 R w) : Calls Try.prog 3 #[.agg #[.int .i64 eWriter1, .int .i64 eIndex2, .int .u64 ePrev3, .int .i64 eAtT4, .int .i64 eAtW5, .int .i64 eEpoch6, .slice eBody7a eBody7n eBody7c, .int .u64 eSig8], .slice b9a b9n b9c, .int .i64 cut10] w fun e w' => ∃ v, e = .returned v ∧ R v w' := cachettelaw06_EntryBack.ok eWriter1 eIndex2 ePrev3 eAtT4 eAtW5 eEpoch6 eBody7a eBody7n eBody7c eSig8 b9a b9n b9c cut10 (cachettelaw06_EntryBack.up eWriter1 eIndex2 ePrev3 eAtT4 eAtW5 eEpoch6 eBody7a eBody7n eBody7c eSig8 b9a b9n b9c cut10 h)
theorem cachettelaw06_EntryBack.run (eWriter1 : Int) (eIndex2 : Int) (ePrev3 : Int) (eAtT4 : Int) (eAtW5 : Int) (eEpoch6 : Int) (eBody7a : Option Addr) (eBody7n : Nat) (eBody7c : Nat) (eSig8 : Int) (b9a : Option Addr) (b9n : Nat) (b9c : Nat) (cut10 : Int) {V : Value} {Q : World → Prop} {w : World} (h : cachettelaw06_EntryBack.N eWriter1 eIndex2 ePrev3 eAtT4 eAtW5 eEpoch6 eBody7a eBody7n eBody7c eSig8 b9a b9n b9c cut10 (fun v w' => v = V ∧ Q w') w) : Calls Try.prog 3 #[.agg #[.int .i64 eWriter1, .int .i64 eIndex2, .int .u64 ePrev3, .int .i64 eAtT4, .int .i64 eAtW5, .int .i64 eEpoch6, .slice eBody7a eBody7n eBody7c, .int .u64 eSig8], .slice b9a b9n b9c, .int .i64 cut10] w (Ret V Q) := (cachettelaw06_EntryBack.go eWriter1 eIndex2 ePrev3 eAtT4 eAtW5 eEpoch6 eBody7a eBody7n eBody7c eSig8 b9a b9n b9c cut10 h).mono fun e w' ⟨v, he, hv, hq⟩ => ⟨by rw [he, hv], hq⟩

theorem EntryBack_spec (w : World) {e : Ent} {ea ba : Option Addr} {ec bc : Nat} {b : List UInt8} (hf : e.fit) (he : RowAt w ea (bytesV e.body)) (hb : RowAt w ba (bytesV b)) (hbc : b.length ≤ bc) (cut : Int) :
    Calls Try.prog 3 #[entV e ea ec, .slice ba b.length bc, .int .i64 cut] w (Ret (.bool true) fun w' => Ext no w w') := by
  refine cachettelaw06_EntryBack.run e.w e.i e.pv e.t e.tw e.ep ea e.body.length ec e.sg ba b.length bc cut ?_
  unfold cachettelaw06_EntryBack.N
  have hal : ∀ w1, Ext no w w1 → Calls Try.prog 9 #[] w1 fun e w' => ∃ v : Bool, e = .returned (.bool v) ∧ (fun v w' => v = Value.bool true ∧ Ext no w w') (.bool v) w' := fun w1 hx =>
    (alive6_spec w1).mono fun e w' ⟨he, hw⟩ => ⟨true, he, rfl, hx.trans hw⟩
  rw [entRight_F]
  refine ⟨fun hl w15 X15 => hal _ X15, fun hl => ⟨fun h5 w15 X15 => hal _ X15, fun h5 w15 p X15 hp => ?_⟩⟩
  refine (EBytes_spec (fun _ => hf) (he.no X15)).mono fun x w27 ⟨X27', hor⟩ => ?_
  have X27 := X15.trans X27'
  rcases hor with ⟨hr, he'⟩ | ⟨hr, xa, xc, he', hX⟩
  · refine ⟨_, _, _, _, he', X27'.kept, ?_⟩
    rw [hr]
    refine ⟨fun h => by simp at h, fun _ => ⟨fun h => by simp at h, fun _ w28 X28' => ?_⟩⟩
    have XX := X27.trans X28'
    refine (Read_spec (hb.no XX) hbc (by omega)).mono fun x w30 ⟨ra, rc, he, hra, hro, X30⟩ => ⟨_, _, _, _, _, _, _, _, _, _, _, he, fun hk w31 X31 => ?_, fun hk w31 X31 => ?_⟩
    · rw [readE_none hk] at *
      refine (ESame_spec (e := Ent.zero) (f := Ent.zero) (RowAt.nil _ _) (RowAt.nil _ _)).mono fun x w34 ⟨he, X34⟩ => ⟨_, he, fun _ => ?_, fun h => by simp at h⟩
      exact hal _ ((((XX).trans X30).trans X31).trans X34)
    · obtain ⟨g1, g2, g3⟩ := readE_back hk
      have g4 := bytesL_le (readE b).1
      have g5 := ((entRight_iff _).1 g2).2.2.2.2.2.2.2.2.2.1
      refine (EBytes_spec (e := (readE b).1) (fun _ => g3) (hra.no X31)).mono fun x w35 ⟨X35, hor⟩ => ?_
      rcases hor with ⟨h, _⟩ | ⟨_, a1, c1, he, hO⟩
      · rw [g2] at h; cases h
      refine ⟨_, _, _, _, he, fun _ => ?_, fun h => absurd rfl h⟩
      have Y := (((XX).trans X30).trans X31).trans X35
      refine (W.sameB_spec hO.row (hb.no Y) (by omega)).mono fun x w38 ⟨he, X38⟩ => ⟨_, he, fun _ => hal _ (Y.trans X38), fun h => ?_⟩
      rw [decide_eq_true g1] at h; cases h
  · refine ⟨_, _, _, _, he', X27'.kept, ?_⟩
    rw [hr]
    refine ⟨fun h => by simp at h, fun _ => ⟨fun _ w28 X28 => ?_, fun h => absurd rfl h⟩⟩
    have hbl := bytesL_le e
    have hel := ((entRight_iff e).1 hr).2.2.2.2.2.2.2.2.2.1
    have hX28 := hX.no X28
    refine (Read_spec hX28.row hX28.le (by omega)).mono fun x w41 ⟨ra, rc, hx, hra, hro, X41⟩ => ?_
    rw [readE_write hr hf] at hx hra
    refine ⟨_, _, _, _, _, _, _, _, _, _, _, hx, X41.kept, fun h => absurd rfl h, fun _ w50 X50 => ?_⟩
    have Y50 := ((X27.trans X28).trans X41).trans X50
    refine (ESame_spec (he.no Y50) (hra.no X50)).mono fun x w56 ⟨hx, X56⟩ => ⟨_, hx, fun h => by simp at h, fun _ => ⟨fun hc0 => ⟨fun hc1 => ?_, fun hc1 => ?_⟩, fun hc0 => ?_⟩⟩
    · have XX0 := Y50.trans X56
      have hX56 := ((hX28.no X41).no X50).no X56
      refine ⟨hc0, by have := hX.le; omega, ?_⟩
      obtain ⟨n, rfl⟩ : ∃ n : Nat, cut = n := ⟨cut.toNat, by omega⟩
      rw [Int.toNat_natCast]
      have hn : n < (bytesL e).length := by omega
      have hlt : ((bytesL e).take n).length = n := by rw [List.length_take]; omega
      have hcut := Read_spec (w := w56) (a := xa) (c := xc) (bs := (bytesL e).take n) (by rw [show bytesV ((bytesL e).take n) = (bytesV (bytesL e)).take n by simp [bytesV]]; exact hX56.row.take n) (by have := hX.le; omega) (by omega)
      rw [hlt] at hcut
      refine hcut.mono fun x w70 ⟨ra, rc, hx, hra, hro, X70⟩ => ⟨_, _, _, _, _, _, _, _, _, _, _, hx, fun h => absurd h (readE_cut hr hf hn), fun _ w79 X79 => ?_⟩
      have XX := (XX0.trans X70).trans X79
      refine (Read_spec (hb.no XX) hbc (by omega)).mono fun x w30 ⟨ra, rc, he, hra, hro, X30⟩ => ⟨_, _, _, _, _, _, _, _, _, _, _, he, fun hk w31 X31 => ?_, fun hk w31 X31 => ?_⟩
      · rw [readE_none hk] at *
        refine (ESame_spec (e := Ent.zero) (f := Ent.zero) (RowAt.nil _ _) (RowAt.nil _ _)).mono fun x w34 ⟨he, X34⟩ => ⟨_, he, fun _ => ?_, fun h => by simp at h⟩
        exact hal _ ((((XX).trans X30).trans X31).trans X34)
      · obtain ⟨g1, g2, g3⟩ := readE_back hk
        have g4 := bytesL_le (readE b).1
        have g5 := ((entRight_iff _).1 g2).2.2.2.2.2.2.2.2.2.1
        refine (EBytes_spec (e := (readE b).1) (fun _ => g3) (hra.no X31)).mono fun x w35 ⟨X35, hor⟩ => ?_
        rcases hor with ⟨h, _⟩ | ⟨_, a1, c1, he, hO⟩
        · rw [g2] at h; cases h
        refine ⟨_, _, _, _, he, fun _ => ?_, fun h => absurd rfl h⟩
        have Y := (((XX).trans X30).trans X31).trans X35
        refine (W.sameB_spec hO.row (hb.no Y) (by omega)).mono fun x w38 ⟨he, X38⟩ => ⟨_, he, fun _ => hal _ (Y.trans X38), fun h => ?_⟩
        rw [decide_eq_true g1] at h; cases h
    · have XX := Y50.trans X56
      refine (Read_spec (hb.no XX) hbc (by omega)).mono fun x w30 ⟨ra, rc, he, hra, hro, X30⟩ => ⟨_, _, _, _, _, _, _, _, _, _, _, he, fun hk w31 X31 => ?_, fun hk w31 X31 => ?_⟩
      · rw [readE_none hk] at *
        refine (ESame_spec (e := Ent.zero) (f := Ent.zero) (RowAt.nil _ _) (RowAt.nil _ _)).mono fun x w34 ⟨he, X34⟩ => ⟨_, he, fun _ => ?_, fun h => by simp at h⟩
        exact hal _ ((((XX).trans X30).trans X31).trans X34)
      · obtain ⟨g1, g2, g3⟩ := readE_back hk
        have g4 := bytesL_le (readE b).1
        have g5 := ((entRight_iff _).1 g2).2.2.2.2.2.2.2.2.2.1
        refine (EBytes_spec (e := (readE b).1) (fun _ => g3) (hra.no X31)).mono fun x w35 ⟨X35, hor⟩ => ?_
        rcases hor with ⟨h, _⟩ | ⟨_, a1, c1, he, hO⟩
        · rw [g2] at h; cases h
        refine ⟨_, _, _, _, he, fun _ => ?_, fun h => absurd rfl h⟩
        have Y := (((XX).trans X30).trans X31).trans X35
        refine (W.sameB_spec hO.row (hb.no Y) (by omega)).mono fun x w38 ⟨he, X38⟩ => ⟨_, he, fun _ => hal _ (Y.trans X38), fun h => ?_⟩
        rw [decide_eq_true g1] at h; cases h
    · have XX := Y50.trans X56
      refine (Read_spec (hb.no XX) hbc (by omega)).mono fun x w30 ⟨ra, rc, he, hra, hro, X30⟩ => ⟨_, _, _, _, _, _, _, _, _, _, _, he, fun hk w31 X31 => ?_, fun hk w31 X31 => ?_⟩
      · rw [readE_none hk] at *
        refine (ESame_spec (e := Ent.zero) (f := Ent.zero) (RowAt.nil _ _) (RowAt.nil _ _)).mono fun x w34 ⟨he, X34⟩ => ⟨_, he, fun _ => ?_, fun h => by simp at h⟩
        exact hal _ ((((XX).trans X30).trans X31).trans X34)
      · obtain ⟨g1, g2, g3⟩ := readE_back hk
        have g4 := bytesL_le (readE b).1
        have g5 := ((entRight_iff _).1 g2).2.2.2.2.2.2.2.2.2.1
        refine (EBytes_spec (e := (readE b).1) (fun _ => g3) (hra.no X31)).mono fun x w35 ⟨X35, hor⟩ => ?_
        rcases hor with ⟨h, _⟩ | ⟨_, a1, c1, he, hO⟩
        · rw [g2] at h; cases h
        refine ⟨_, _, _, _, he, fun _ => ?_, fun h => absurd rfl h⟩
        have Y := (((XX).trans X30).trans X31).trans X35
        refine (W.sameB_spec hO.row (hb.no Y) (by omega)).mono fun x w38 ⟨he, X38⟩ => ⟨_, he, fun _ => hal _ (Y.trans X38), fun h => ?_⟩
        rw [decide_eq_true g1] at h; cases h
theorem EntryBack_walk (W : World) (cs0 : Array Value) (a1 : Option Addr) (len1 cap1 : Nat) (a2 : Int) (o0 : EntQ W cs0.toList) (o1 : BytesQ W [.slice a1 len1 cap1]) (w2 : (Lit.int .i64 a2).wf = true) :
    Calls Try.prog 3 #[.agg cs0, .slice a1 len1 cap1, .int .i64 a2] W (Ret (.bool true) fun w' => Ext no W w') := by
  obtain ⟨e, ea, ec, h0, f0, _, _, _, r0⟩ := o0
  obtain ⟨_, _, b, e1, l1, _, r1⟩ := o1
  cases e1
  rw [ent_of h0]
  exact EntryBack_spec W f0 r0 r1 l1 a2
end Go.Proofs.Ytomajjnoekfmoaa
