/- EntryApart: what the law's function answers. -/
import Derived.Test.YtomajjnoekfmoaaEntS
import Derived.Test.YtomajjnoekfmoaaOraP
set_option linter.unusedVariables false
set_option linter.unusedSimpArgs false
set_option maxRecDepth 20000
namespace Go.Proofs.Ytomajjnoekfmoaa
open Go Go.Mx Go.Proofs
open W (OwnB Rd RdR GivesW numR countR doneR zig unzig intR)
/-- cachettelaw06.EntryApart -/
def cachettelaw06_EntryApart.M (draws1a : Option Addr) (draws1n : Nat) (draws1c : Nat) (eWriter2 : Int) (eIndex3 : Int) (ePrev4 : Int) (eAtT5 : Int) (eAtW6 : Int) (eEpoch7 : Int) (eBody8a : Option Addr) (eBody8n : Nat) (eBody8c : Nat) (eSig9 : Int) (fWriter10 : Int) (fIndex11 : Int) (fPrev12 : Int) (fAtT13 : Int) (fAtW14 : Int) (fEpoch15 : Int) (fBody16a : Option Addr) (fBody16n : Nat) (fBody16c : Nat) (fSig17 : Int) (R : Value → World → Prop) (w : World) : Prop :=
  thenW (w.alloc (.cells #[.int .i64 eWriter2, .int .i64 eIndex3, .int .u64 ePrev4, .int .i64 eAtT5, .int .i64 eAtW6, .int .i64 eEpoch7, .slice eBody8a eBody8n eBody8c, .int .u64 eSig9] 27)) fun ww18 =>
  thenW (ww18.alloc (.cells #[.int .i64 fWriter10, .int .i64 fIndex11, .int .u64 fPrev12, .int .i64 fAtT13, .int .i64 fAtW14, .int .i64 fEpoch15, .slice fBody16a fBody16n fBody16c, .int .u64 fSig17] 27)) fun ww19 =>
  ∃ (xWriter20 : Int) (xIndex21 : Int) (xPrev22 : Int) (xAtT23 : Int) (xAtW24 : Int) (xEpoch25 : Int) (xBody26a : Option Addr) (xBody26n : Nat) (xBody26c : Nat) (xSig27 : Int), cellsAt ww19 (blk w.heap.size) [.int .i64 xWriter20, .int .i64 xIndex21, .int .u64 xPrev22, .int .i64 xAtT23, .int .i64 xAtW24, .int .i64 xEpoch25, .slice xBody26a xBody26n xBody26c, .int .u64 xSig27] 0 ∧
  Calls Try.prog 11 #[.agg #[.int .i64 xWriter20, .int .i64 xIndex21, .int .u64 xPrev22, .int .i64 xAtT23, .int .i64 xAtW24, .int .i64 xEpoch25, .slice xBody26a xBody26n xBody26c, .int .u64 xSig27]] ww19 fun ee29 ww30 => ∃ (right28 : Bool), ee29 = .returned (.bool right28) ∧
  bif !right28 then (
  Calls Try.prog 9 #[] ww30 fun ee32 ww33 => ∃ (alive31 : Bool), ee32 = .returned (.bool alive31) ∧
  R (.bool alive31) ww33) else (
  ∃ (xWriter34 : Int) (xIndex35 : Int) (xPrev36 : Int) (xAtT37 : Int) (xAtW38 : Int) (xEpoch39 : Int) (xBody40a : Option Addr) (xBody40n : Nat) (xBody40c : Nat) (xSig41 : Int), cellsAt ww30 (blk ww18.heap.size) [.int .i64 xWriter34, .int .i64 xIndex35, .int .u64 xPrev36, .int .i64 xAtT37, .int .i64 xAtW38, .int .i64 xEpoch39, .slice xBody40a xBody40n xBody40c, .int .u64 xSig41] 0 ∧
  Calls Try.prog 11 #[.agg #[.int .i64 xWriter34, .int .i64 xIndex35, .int .u64 xPrev36, .int .i64 xAtT37, .int .i64 xAtW38, .int .i64 xEpoch39, .slice xBody40a xBody40n xBody40c, .int .u64 xSig41]] ww30 fun ee43 ww44 => ∃ (right42 : Bool), ee43 = .returned (.bool right42) ∧
  bif !right42 then (
  Calls Try.prog 9 #[] ww44 fun ee46 ww47 => ∃ (alive45 : Bool), ee46 = .returned (.bool alive45) ∧
  R (.bool alive45) ww47) else (
  ∃ (xWriter48 : Int) (xIndex49 : Int) (xPrev50 : Int) (xAtT51 : Int) (xAtW52 : Int) (xEpoch53 : Int) (xBody54a : Option Addr) (xBody54n : Nat) (xBody54c : Nat) (xSig55 : Int), cellsAt ww44 (blk w.heap.size) [.int .i64 xWriter48, .int .i64 xIndex49, .int .u64 xPrev50, .int .i64 xAtT51, .int .i64 xAtW52, .int .i64 xEpoch53, .slice xBody54a xBody54n xBody54c, .int .u64 xSig55] 0 ∧
  Calls Try.prog 8 #[.agg #[.int .i64 xWriter48, .int .i64 xIndex49, .int .u64 xPrev50, .int .i64 xAtT51, .int .i64 xAtW52, .int .i64 xEpoch53, .slice xBody54a xBody54n xBody54c, .int .u64 xSig55]] ww44 fun ee57 ww58 => ∃ (light56 : Bool), ee57 = .returned (.bool light56) ∧
  bif !light56 then (
  Calls Try.prog 9 #[] ww58 fun ee60 ww61 => ∃ (alive59 : Bool), ee60 = .returned (.bool alive59) ∧
  R (.bool alive59) ww61) else (
  ∃ (xWriter62 : Int) (xIndex63 : Int) (xPrev64 : Int) (xAtT65 : Int) (xAtW66 : Int) (xEpoch67 : Int) (xBody68a : Option Addr) (xBody68n : Nat) (xBody68c : Nat) (xSig69 : Int), cellsAt ww58 (blk ww18.heap.size) [.int .i64 xWriter62, .int .i64 xIndex63, .int .u64 xPrev64, .int .i64 xAtT65, .int .i64 xAtW66, .int .i64 xEpoch67, .slice xBody68a xBody68n xBody68c, .int .u64 xSig69] 0 ∧
  Calls Try.prog 8 #[.agg #[.int .i64 xWriter62, .int .i64 xIndex63, .int .u64 xPrev64, .int .i64 xAtT65, .int .i64 xAtW66, .int .i64 xEpoch67, .slice xBody68a xBody68n xBody68c, .int .u64 xSig69]] ww58 fun ee71 ww72 => ∃ (light70 : Bool), ee71 = .returned (.bool light70) ∧
  bif !light70 then (
  Calls Try.prog 9 #[] ww72 fun ee74 ww75 => ∃ (alive73 : Bool), ee74 = .returned (.bool alive73) ∧
  R (.bool alive73) ww75) else (
  bif decide ((draws1n : Int) > 50) then (
  Calls Try.prog 9 #[] ww72 fun ee77 ww78 => ∃ (alive76 : Bool), ee77 = .returned (.bool alive76) ∧
  R (.bool alive76) ww78) else (
  Calls Try.prog 26 #[.slice draws1a draws1n draws1c] ww72 fun ee80 ww81 => ∃ (new79 : Option Addr), ee80 = .returned (.pointer new79) ∧
  ∃ (xWriter82 : Int) (xIndex83 : Int) (xPrev84 : Int) (xAtT85 : Int) (xAtW86 : Int) (xEpoch87 : Int) (xBody88a : Option Addr) (xBody88n : Nat) (xBody88c : Nat) (xSig89 : Int), cellsAt ww81 (blk w.heap.size) [.int .i64 xWriter82, .int .i64 xIndex83, .int .u64 xPrev84, .int .i64 xAtT85, .int .i64 xAtW86, .int .i64 xEpoch87, .slice xBody88a xBody88n xBody88c, .int .u64 xSig89] 0 ∧
  Calls Try.prog 23 #[.pointer new79, .agg #[.int .i64 xWriter82, .int .i64 xIndex83, .int .u64 xPrev84, .int .i64 xAtT85, .int .i64 xAtW86, .int .i64 xEpoch87, .slice xBody88a xBody88n xBody88c, .int .u64 xSig89]] ww81 fun ee92 ww93 => ∃ (sum90 : Int) (sum91 : Int), ee92 = .returned (.tuple #[.int .u64 sum90, .int .i64 sum91]) ∧
  ∃ (xWriter94 : Int) (xIndex95 : Int) (xPrev96 : Int) (xAtT97 : Int) (xAtW98 : Int) (xEpoch99 : Int) (xBody100a : Option Addr) (xBody100n : Nat) (xBody100c : Nat) (xSig101 : Int), cellsAt ww93 (blk ww18.heap.size) [.int .i64 xWriter94, .int .i64 xIndex95, .int .u64 xPrev96, .int .i64 xAtT97, .int .i64 xAtW98, .int .i64 xEpoch99, .slice xBody100a xBody100n xBody100c, .int .u64 xSig101] 0 ∧
  Calls Try.prog 23 #[.pointer new79, .agg #[.int .i64 xWriter94, .int .i64 xIndex95, .int .u64 xPrev96, .int .i64 xAtT97, .int .i64 xAtW98, .int .i64 xEpoch99, .slice xBody100a xBody100n xBody100c, .int .u64 xSig101]] ww93 fun ee104 ww105 => ∃ (sum102 : Int) (sum103 : Int), ee104 = .returned (.tuple #[.int .u64 sum102, .int .i64 sum103]) ∧
  bif sum91 != 0 then (
  R (.bool false) ww105) else (
  bif sum103 != 0 then (
  R (.bool false) ww105) else (
  ∃ (xWriter106 : Int) (xIndex107 : Int) (xPrev108 : Int) (xAtT109 : Int) (xAtW110 : Int) (xEpoch111 : Int) (xBody112a : Option Addr) (xBody112n : Nat) (xBody112c : Nat) (xSig113 : Int), cellsAt ww105 (blk w.heap.size) [.int .i64 xWriter106, .int .i64 xIndex107, .int .u64 xPrev108, .int .i64 xAtT109, .int .i64 xAtW110, .int .i64 xEpoch111, .slice xBody112a xBody112n xBody112c, .int .u64 xSig113] 0 ∧
  ∃ (xWriter114 : Int) (xIndex115 : Int) (xPrev116 : Int) (xAtT117 : Int) (xAtW118 : Int) (xEpoch119 : Int) (xBody120a : Option Addr) (xBody120n : Nat) (xBody120c : Nat) (xSig121 : Int), cellsAt ww105 (blk ww18.heap.size) [.int .i64 xWriter114, .int .i64 xIndex115, .int .u64 xPrev116, .int .i64 xAtT117, .int .i64 xAtW118, .int .i64 xEpoch119, .slice xBody120a xBody120n xBody120c, .int .u64 xSig121] 0 ∧
  Calls Try.prog 13 #[.agg #[.int .i64 xWriter106, .int .i64 xIndex107, .int .u64 xPrev108, .int .i64 xAtT109, .int .i64 xAtW110, .int .i64 xEpoch111, .slice xBody112a xBody112n xBody112c, .int .u64 xSig113], .agg #[.int .i64 xWriter114, .int .i64 xIndex115, .int .u64 xPrev116, .int .i64 xAtT117, .int .i64 xAtW118, .int .i64 xEpoch119, .slice xBody120a xBody120n xBody120c, .int .u64 xSig121]] ww105 fun ee123 ww124 => ∃ (same122 : Bool), ee123 = .returned (.bool same122) ∧
  bif !((sum90 == sum102) == same122) then (
  R (.bool false) ww124) else (
  Calls Try.prog 27 #[.pointer new79] ww124 fun ee127 ww128 => ∃ (pair125 : Int) (pair126 : Int), ee127 = .returned (.tuple #[.int .u64 pair125, .int .u64 pair126]) ∧
  ∃ (xWriter129 : Int) (xIndex130 : Int) (xPrev131 : Int) (xAtT132 : Int) (xAtW133 : Int) (xEpoch134 : Int) (xBody135a : Option Addr) (xBody135n : Nat) (xBody135c : Nat) (xSig136 : Int), cellsAt ww128 (blk w.heap.size) [.int .i64 xWriter129, .int .i64 xIndex130, .int .u64 xPrev131, .int .i64 xAtT132, .int .i64 xAtW133, .int .i64 xEpoch134, .slice xBody135a xBody135n xBody135c, .int .u64 xSig136] 0 ∧
  Calls Try.prog 24 #[.pointer new79, .int .u64 pair125, .agg #[.int .i64 xWriter129, .int .i64 xIndex130, .int .u64 xPrev131, .int .i64 xAtT132, .int .i64 xAtW133, .int .i64 xEpoch134, .slice xBody135a xBody135n xBody135c, .int .u64 xSig136]] ww128 fun ee146 ww147 => ∃ (Writer137 : Int) (Index138 : Int) (Prev139 : Int) (AtT140 : Int) (AtW141 : Int) (Epoch142 : Int) (Body143a : Option Addr) (Body143n : Nat) (Body143c : Nat) (Sig144 : Int) (sign145 : Int), ee146 = .returned (.tuple #[.agg #[.int .i64 Writer137, .int .i64 Index138, .int .u64 Prev139, .int .i64 AtT140, .int .i64 AtW141, .int .i64 Epoch142, .slice Body143a Body143n Body143c, .int .u64 Sig144], .int .i64 sign145]) ∧
  thenW (ww147.alloc (.cells #[.int .i64 0, .int .i64 0, .int .u64 0, .int .i64 0, .int .i64 0, .int .i64 0, .slice none 0 0, .int .u64 0] 27)) fun ww148 =>
  canStore ww148 ((blk ww147.heap.size).add 0) ∧
  thenW (ww148.setCell ((blk ww147.heap.size).add 0) (.int .i64 Writer137)) fun ww149 =>
  canStore ww149 ((blk ww147.heap.size).add 1) ∧
  thenW (ww149.setCell ((blk ww147.heap.size).add 1) (.int .i64 Index138)) fun ww150 =>
  canStore ww150 ((blk ww147.heap.size).add 2) ∧
  thenW (ww150.setCell ((blk ww147.heap.size).add 2) (.int .u64 Prev139)) fun ww151 =>
  canStore ww151 ((blk ww147.heap.size).add 3) ∧
  thenW (ww151.setCell ((blk ww147.heap.size).add 3) (.int .i64 AtT140)) fun ww152 =>
  canStore ww152 ((blk ww147.heap.size).add 4) ∧
  thenW (ww152.setCell ((blk ww147.heap.size).add 4) (.int .i64 AtW141)) fun ww153 =>
  canStore ww153 ((blk ww147.heap.size).add 5) ∧
  thenW (ww153.setCell ((blk ww147.heap.size).add 5) (.int .i64 Epoch142)) fun ww154 =>
  canStore ww154 ((blk ww147.heap.size).add 6) ∧
  thenW (ww154.setCell ((blk ww147.heap.size).add 6) (.slice Body143a Body143n Body143c)) fun ww155 =>
  canStore ww155 ((blk ww147.heap.size).add 7) ∧
  thenW (ww155.setCell ((blk ww147.heap.size).add 7) (.int .u64 Sig144)) fun ww156 =>
  ∃ (xWriter157 : Int) (xIndex158 : Int) (xPrev159 : Int) (xAtT160 : Int) (xAtW161 : Int) (xEpoch162 : Int) (xBody163a : Option Addr) (xBody163n : Nat) (xBody163c : Nat) (xSig164 : Int), cellsAt ww156 (blk ww18.heap.size) [.int .i64 xWriter157, .int .i64 xIndex158, .int .u64 xPrev159, .int .i64 xAtT160, .int .i64 xAtW161, .int .i64 xEpoch162, .slice xBody163a xBody163n xBody163c, .int .u64 xSig164] 0 ∧
  thenW (ww156.alloc (.cells #[.int .i64 0, .int .i64 0, .int .u64 0, .int .i64 0, .int .i64 0, .int .i64 0, .slice none 0 0, .int .u64 0] 27)) fun ww165 =>
  canStore ww165 ((blk ww156.heap.size).add 0) ∧
  thenW (ww165.setCell ((blk ww156.heap.size).add 0) (.int .i64 xWriter157)) fun ww166 =>
  canStore ww166 ((blk ww156.heap.size).add 1) ∧
  thenW (ww166.setCell ((blk ww156.heap.size).add 1) (.int .i64 xIndex158)) fun ww167 =>
  canStore ww167 ((blk ww156.heap.size).add 2) ∧
  thenW (ww167.setCell ((blk ww156.heap.size).add 2) (.int .u64 xPrev159)) fun ww168 =>
  canStore ww168 ((blk ww156.heap.size).add 3) ∧
  thenW (ww168.setCell ((blk ww156.heap.size).add 3) (.int .i64 xAtT160)) fun ww169 =>
  canStore ww169 ((blk ww156.heap.size).add 4) ∧
  thenW (ww169.setCell ((blk ww156.heap.size).add 4) (.int .i64 xAtW161)) fun ww170 =>
  canStore ww170 ((blk ww156.heap.size).add 5) ∧
  thenW (ww170.setCell ((blk ww156.heap.size).add 5) (.int .i64 xEpoch162)) fun ww171 =>
  canStore ww171 ((blk ww156.heap.size).add 6) ∧
  thenW (ww171.setCell ((blk ww156.heap.size).add 6) (.slice xBody163a xBody163n xBody163c)) fun ww172 =>
  canStore ww172 ((blk ww156.heap.size).add 7) ∧
  thenW (ww172.setCell ((blk ww156.heap.size).add 7) (.int .u64 xSig164)) fun ww173 =>
  ∃ (Sig174 : Int), ww173.cell? ((blk ww147.heap.size).add 7) = some (.int .u64 Sig174) ∧
  canStore ww173 (((blk ww156.heap.size).add 7).add 0) ∧
  thenW (ww173.setCell (((blk ww156.heap.size).add 7).add 0) (.int .u64 Sig174)) fun ww175 =>
  thenW (ww175.drew) fun ww176 =>
  bif sign145 == 0 then (
  ∃ (xWriter177 : Int) (xIndex178 : Int) (xPrev179 : Int) (xAtT180 : Int) (xAtW181 : Int) (xEpoch182 : Int) (xBody183a : Option Addr) (xBody183n : Nat) (xBody183c : Nat) (xSig184 : Int), cellsAt ww176 (blk ww147.heap.size) [.int .i64 xWriter177, .int .i64 xIndex178, .int .u64 xPrev179, .int .i64 xAtT180, .int .i64 xAtW181, .int .i64 xEpoch182, .slice xBody183a xBody183n xBody183c, .int .u64 xSig184] 0 ∧
  Calls Try.prog 25 #[.pointer new79, .int .u64 pair126, .agg #[.int .i64 xWriter177, .int .i64 xIndex178, .int .u64 xPrev179, .int .i64 xAtT180, .int .i64 xAtW181, .int .i64 xEpoch182, .slice xBody183a xBody183n xBody183c, .int .u64 xSig184]] ww176 fun ee186 ww187 => ∃ (holds185 : Bool), ee186 = .returned (.bool holds185) ∧
  bif holds185 then (
  ∃ (xWriter188 : Int) (xIndex189 : Int) (xPrev190 : Int) (xAtT191 : Int) (xAtW192 : Int) (xEpoch193 : Int) (xBody194a : Option Addr) (xBody194n : Nat) (xBody194c : Nat) (xSig195 : Int), cellsAt ww187 (blk ww156.heap.size) [.int .i64 xWriter188, .int .i64 xIndex189, .int .u64 xPrev190, .int .i64 xAtT191, .int .i64 xAtW192, .int .i64 xEpoch193, .slice xBody194a xBody194n xBody194c, .int .u64 xSig195] 0 ∧
  ∃ (xWriter196 : Int) (xIndex197 : Int) (xPrev198 : Int) (xAtT199 : Int) (xAtW200 : Int) (xEpoch201 : Int) (xBody202a : Option Addr) (xBody202n : Nat) (xBody202c : Nat) (xSig203 : Int), cellsAt ww187 (blk ww147.heap.size) [.int .i64 xWriter196, .int .i64 xIndex197, .int .u64 xPrev198, .int .i64 xAtT199, .int .i64 xAtW200, .int .i64 xEpoch201, .slice xBody202a xBody202n xBody202c, .int .u64 xSig203] 0 ∧
  ∃ (xWriter204 : Int) (xIndex205 : Int) (xPrev206 : Int) (xAtT207 : Int) (xAtW208 : Int) (xEpoch209 : Int) (xBody210a : Option Addr) (xBody210n : Nat) (xBody210c : Nat) (xSig211 : Int), cellsAt ww187 (blk ww156.heap.size) [.int .i64 xWriter204, .int .i64 xIndex205, .int .u64 xPrev206, .int .i64 xAtT207, .int .i64 xAtW208, .int .i64 xEpoch209, .slice xBody210a xBody210n xBody210c, .int .u64 xSig211] 0 ∧
  Calls Try.prog 25 #[.pointer new79, .int .u64 pair126, .agg #[.int .i64 xWriter188, .int .i64 xIndex189, .int .u64 xPrev190, .int .i64 xAtT191, .int .i64 xAtW192, .int .i64 xEpoch193, .slice xBody194a xBody194n xBody194c, .int .u64 xSig195]] ww187 fun ee213 ww214 => ∃ (holds212 : Bool), ee213 = .returned (.bool holds212) ∧
  cellsAt ww214 (blk ww156.heap.size) [.int .i64 xWriter204, .int .i64 xIndex205, .int .u64 xPrev206, .int .i64 xAtT207, .int .i64 xAtW208, .int .i64 xEpoch209, .slice xBody210a xBody210n xBody210c, .int .u64 xSig211] 0 ∧
  cellsAt ww214 (blk ww147.heap.size) [.int .i64 xWriter196, .int .i64 xIndex197, .int .u64 xPrev198, .int .i64 xAtT199, .int .i64 xAtW200, .int .i64 xEpoch201, .slice xBody202a xBody202n xBody202c, .int .u64 xSig203] 0 ∧
  Calls Try.prog 13 #[.agg #[.int .i64 xWriter196, .int .i64 xIndex197, .int .u64 xPrev198, .int .i64 xAtT199, .int .i64 xAtW200, .int .i64 xEpoch201, .slice xBody202a xBody202n xBody202c, .int .u64 xSig203], .agg #[.int .i64 xWriter204, .int .i64 xIndex205, .int .u64 xPrev206, .int .i64 xAtT207, .int .i64 xAtW208, .int .i64 xEpoch209, .slice xBody210a xBody210n xBody210c, .int .u64 xSig211]] ww214 fun ee216 ww217 => ∃ (same215 : Bool), ee216 = .returned (.bool same215) ∧
  bif holds212 == same215 then (
  Calls Try.prog 9 #[] ww217 fun ee219 ww220 => ∃ (alive218 : Bool), ee219 = .returned (.bool alive218) ∧
  R (.bool alive218) ww220) else (
  R (.bool false) ww217)) else (
  R (.bool false) ww187)) else (
  R (.bool false) ww176)))))))))

theorem cachettelaw06_EntryApart.eq (draws1a : Option Addr) (draws1n : Nat) (draws1c : Nat) (eWriter2 : Int) (eIndex3 : Int) (ePrev4 : Int) (eAtT5 : Int) (eAtW6 : Int) (eEpoch7 : Int) (eBody8a : Option Addr) (eBody8n : Nat) (eBody8c : Nat) (eSig9 : Int) (fWriter10 : Int) (fIndex11 : Int) (fPrev12 : Int) (fAtT13 : Int) (fAtW14 : Int) (fEpoch15 : Int) (fBody16a : Option Addr) (fBody16n : Nat) (fBody16c : Nat) (fSig17 : Int) (R : Value → World → Prop) (w : World) : mfunc Try.prog [] 7 [.slice draws1a draws1n draws1c, .agg #[.int .i64 eWriter2, .int .i64 eIndex3, .int .u64 ePrev4, .int .i64 eAtT5, .int .i64 eAtW6, .int .i64 eEpoch7, .slice eBody8a eBody8n eBody8c, .int .u64 eSig9], .agg #[.int .i64 fWriter10, .int .i64 fIndex11, .int .u64 fPrev12, .int .i64 fAtT13, .int .i64 fAtW14, .int .i64 fEpoch15, .slice fBody16a fBody16n fBody16c, .int .u64 fSig17]] R w = cachettelaw06_EntryApart.M draws1a draws1n draws1c eWriter2 eIndex3 ePrev4 eAtT5 eAtW6 eEpoch7 eBody8a eBody8n eBody8c eSig9 fWriter10 fIndex11 fPrev12 fAtT13 fAtW14 fEpoch15 fBody16a fBody16n fBody16c fSig17 R w := by kernel_rfl
theorem cachettelaw06_EntryApart.ok (draws1a : Option Addr) (draws1n : Nat) (draws1c : Nat) (eWriter2 : Int) (eIndex3 : Int) (ePrev4 : Int) (eAtT5 : Int) (eAtW6 : Int) (eEpoch7 : Int) (eBody8a : Option Addr) (eBody8n : Nat) (eBody8c : Nat) (eSig9 : Int) (fWriter10 : Int) (fIndex11 : Int) (fPrev12 : Int) (fAtT13 : Int) (fAtW14 : Int) (fEpoch15 : Int) (fBody16a : Option Addr) (fBody16n : Nat) (fBody16c : Nat) (fSig17 : Int) {R : Value → World → Prop} {w : World} (h : cachettelaw06_EntryApart.M draws1a draws1n draws1c eWriter2 eIndex3 ePrev4 eAtT5 eAtW6 eEpoch7 eBody8a eBody8n eBody8c eSig9 fWriter10 fIndex11 fPrev12 fAtT13 fAtW14 fEpoch15 fBody16a fBody16n fBody16c fSig17 R w) : Calls Try.prog 7 #[.slice draws1a draws1n draws1c, .agg #[.int .i64 eWriter2, .int .i64 eIndex3, .int .u64 ePrev4, .int .i64 eAtT5, .int .i64 eAtW6, .int .i64 eEpoch7, .slice eBody8a eBody8n eBody8c, .int .u64 eSig9], .agg #[.int .i64 fWriter10, .int .i64 fIndex11, .int .u64 fPrev12, .int .i64 fAtT13, .int .i64 fAtW14, .int .i64 fEpoch15, .slice fBody16a fBody16n fBody16c, .int .u64 fSig17]] w fun e w' => ∃ v, e = .returned v ∧ R v w' :=
  mfunc_ok follows (H := []) (args := [.slice draws1a draws1n draws1c, .agg #[.int .i64 eWriter2, .int .i64 eIndex3, .int .u64 ePrev4, .int .i64 eAtT5, .int .i64 eAtW6, .int .i64 eEpoch7, .slice eBody8a eBody8n eBody8c, .int .u64 eSig9], .agg #[.int .i64 fWriter10, .int .i64 fIndex11, .int .u64 fPrev12, .int .i64 fAtT13, .int .i64 fAtW14, .int .i64 fEpoch15, .slice fBody16a fBody16n fBody16c, .int .u64 fSig17]]) (by rw [cachettelaw06_EntryApart.eq]; exact h)

def cachettelaw06_EntryApart.N (draws1a : Option Addr) (draws1n : Nat) (draws1c : Nat) (eWriter2 : Int) (eIndex3 : Int) (ePrev4 : Int) (eAtT5 : Int) (eAtW6 : Int) (eEpoch7 : Int) (eBody8a : Option Addr) (eBody8n : Nat) (eBody8c : Nat) (eSig9 : Int) (fWriter10 : Int) (fIndex11 : Int) (fPrev12 : Int) (fAtT13 : Int) (fAtW14 : Int) (fEpoch15 : Int) (fBody16a : Option Addr) (fBody16n : Nat) (fBody16c : Nat) (fSig17 : Int) (R : Value → World → Prop) (w : World) : Prop :=
  ((entry_Right.F eWriter2 eIndex3 ePrev4 eAtT5 eAtW6 eEpoch7 eBody8a eBody8n eBody8c eSig9) = false →
    ∀ (ww20 : World), Ext no w ww20 →
    Calls Try.prog 9 #[] ww20 fun ee25 ww26 => ∃ (alive24 : Bool), ee25 = .returned (.bool alive24) ∧
    R (.bool alive24) ww26) ∧
  ((entry_Right.F eWriter2 eIndex3 ePrev4 eAtT5 eAtW6 eEpoch7 eBody8a eBody8n eBody8c eSig9) = true →
    ((entry_Right.F fWriter10 fIndex11 fPrev12 fAtT13 fAtW14 fEpoch15 fBody16a fBody16n fBody16c fSig17) = false →
      ∀ (ww27 : World), Ext no w ww27 →
      Calls Try.prog 9 #[] ww27 fun ee32 ww33 => ∃ (alive31 : Bool), ee32 = .returned (.bool alive31) ∧
      R (.bool alive31) ww33) ∧
    ((entry_Right.F fWriter10 fIndex11 fPrev12 fAtT13 fAtW14 fEpoch15 fBody16a fBody16n fBody16c fSig17) = true →
      ((cachettelaw06_light.F eWriter2 eIndex3 ePrev4 eAtT5 eAtW6 eEpoch7 eBody8a eBody8n eBody8c eSig9) = false →
        ∀ (ww34 : World), Ext no w ww34 →
        Calls Try.prog 9 #[] ww34 fun ee39 ww40 => ∃ (alive38 : Bool), ee39 = .returned (.bool alive38) ∧
        R (.bool alive38) ww40) ∧
      ((cachettelaw06_light.F eWriter2 eIndex3 ePrev4 eAtT5 eAtW6 eEpoch7 eBody8a eBody8n eBody8c eSig9) = true →
        ((cachettelaw06_light.F fWriter10 fIndex11 fPrev12 fAtT13 fAtW14 fEpoch15 fBody16a fBody16n fBody16c fSig17) = false →
          ∀ (ww41 : World), Ext no w ww41 →
          Calls Try.prog 9 #[] ww41 fun ee46 ww47 => ∃ (alive45 : Bool), ee46 = .returned (.bool alive45) ∧
          R (.bool alive45) ww47) ∧
        ((cachettelaw06_light.F fWriter10 fIndex11 fPrev12 fAtT13 fAtW14 fEpoch15 fBody16a fBody16n fBody16c fSig17) = true →
          ((draws1n : Int) > 50 →
            ∀ (ww41 : World), Ext no w ww41 →
            Calls Try.prog 9 #[] ww41 fun ee52 ww53 => ∃ (alive51 : Bool), ee52 = .returned (.bool alive51) ∧
            R (.bool alive51) ww53) ∧
          ((draws1n : Int) ≤ 50 →
            ∀ (ww41 : World) (p54 : Nat) (p55 : Nat), Ext no w ww41 → Priv w ww41 [p54, p55] →
            Calls Try.prog 26 #[.slice draws1a draws1n draws1c] ww41 fun ee57 ww58 => ∃ (new56 : Option Addr), ee57 = .returned (.pointer new56) ∧
            Keep [p54, p55] ww41 ww58 ∧
            Calls Try.prog 23 #[.pointer new56, .agg #[.int .i64 eWriter2, .int .i64 eIndex3, .int .u64 ePrev4, .int .i64 eAtT5, .int .i64 eAtW6, .int .i64 eEpoch7, .slice eBody8a eBody8n eBody8c, .int .u64 eSig9]] ww58 fun ee61 ww62 => ∃ (sum59 : Int) (sum60 : Int), ee61 = .returned (.tuple #[.int .u64 sum59, .int .i64 sum60]) ∧
            Keep [p54, p55] ww58 ww62 ∧
            Calls Try.prog 23 #[.pointer new56, .agg #[.int .i64 fWriter10, .int .i64 fIndex11, .int .u64 fPrev12, .int .i64 fAtT13, .int .i64 fAtW14, .int .i64 fEpoch15, .slice fBody16a fBody16n fBody16c, .int .u64 fSig17]] ww62 fun ee65 ww66 => ∃ (sum63 : Int) (sum64 : Int), ee65 = .returned (.tuple #[.int .u64 sum63, .int .i64 sum64]) ∧
            Keep [p54, p55] ww62 ww66 ∧
            (sum60 ≠ 0 →
              R (.bool false) ww66) ∧
            (sum60 = 0 →
              (sum64 ≠ 0 →
                R (.bool false) ww66) ∧
              (sum64 = 0 →
                Calls Try.prog 13 #[.agg #[.int .i64 eWriter2, .int .i64 eIndex3, .int .u64 ePrev4, .int .i64 eAtT5, .int .i64 eAtW6, .int .i64 eEpoch7, .slice eBody8a eBody8n eBody8c, .int .u64 eSig9], .agg #[.int .i64 fWriter10, .int .i64 fIndex11, .int .u64 fPrev12, .int .i64 fAtT13, .int .i64 fAtW14, .int .i64 fEpoch15, .slice fBody16a fBody16n fBody16c, .int .u64 fSig17]] ww66 fun ee70 ww71 => ∃ (same69 : Bool), ee70 = .returned (.bool same69) ∧
                Keep [p54, p55] ww66 ww71 ∧
                ((sum59 == sum63) ≠ same69 →
                  R (.bool false) ww71) ∧
                ((sum59 == sum63) = same69 →
                  Calls Try.prog 27 #[.pointer new56] ww71 fun ee75 ww76 => ∃ (pair73 : Int) (pair74 : Int), ee75 = .returned (.tuple #[.int .u64 pair73, .int .u64 pair74]) ∧
                  Keep [p54, p55] ww71 ww76 ∧
                  Calls Try.prog 24 #[.pointer new56, .int .u64 pair73, .agg #[.int .i64 eWriter2, .int .i64 eIndex3, .int .u64 ePrev4, .int .i64 eAtT5, .int .i64 eAtW6, .int .i64 eEpoch7, .slice eBody8a eBody8n eBody8c, .int .u64 eSig9]] ww76 fun ee86 ww87 => ∃ (Writer77 : Int) (Index78 : Int) (Prev79 : Int) (AtT80 : Int) (AtW81 : Int) (Epoch82 : Int) (Body83a : Option Addr) (Body83n : Nat) (Body83c : Nat) (Sig84 : Int) (sign85 : Int), ee86 = .returned (.tuple #[.agg #[.int .i64 Writer77, .int .i64 Index78, .int .u64 Prev79, .int .i64 AtT80, .int .i64 AtW81, .int .i64 Epoch82, .slice Body83a Body83n Body83c, .int .u64 Sig84], .int .i64 sign85]) ∧
                  Keep [p55] ww76 ww87 ∧
                  (sign85 = 0 →
                    ∀ (ww107 : World) (p109 : Nat) (p110 : Nat), Ext no ww87 ww107 → Priv ww87 ww107 [p109, p110] →
                    Calls Try.prog 25 #[.pointer new56, .int .u64 pair74, .agg #[.int .i64 Writer77, .int .i64 Index78, .int .u64 Prev79, .int .i64 AtT80, .int .i64 AtW81, .int .i64 Epoch82, .slice Body83a Body83n Body83c, .int .u64 Sig84]] ww107 fun ee112 ww113 => ∃ (holds111 : Bool), ee112 = .returned (.bool holds111) ∧
                    Keep [p109, p110] ww107 ww113 ∧
                    (holds111 = true →
                      Calls Try.prog 25 #[.pointer new56, .int .u64 pair74, .agg #[.int .i64 fWriter10, .int .i64 fIndex11, .int .u64 fPrev12, .int .i64 fAtT13, .int .i64 fAtW14, .int .i64 fEpoch15, .slice fBody16a fBody16n fBody16c, .int .u64 Sig84]] ww113 fun ee116 ww117 => ∃ (holds115 : Bool), ee116 = .returned (.bool holds115) ∧
                      Keep [p109, p110] ww113 ww117 ∧
                      Calls Try.prog 13 #[.agg #[.int .i64 Writer77, .int .i64 Index78, .int .u64 Prev79, .int .i64 AtT80, .int .i64 AtW81, .int .i64 Epoch82, .slice Body83a Body83n Body83c, .int .u64 Sig84], .agg #[.int .i64 fWriter10, .int .i64 fIndex11, .int .u64 fPrev12, .int .i64 fAtT13, .int .i64 fAtW14, .int .i64 fEpoch15, .slice fBody16a fBody16n fBody16c, .int .u64 Sig84]] ww117 fun ee119 ww120 => ∃ (same118 : Bool), ee119 = .returned (.bool same118) ∧
                      (holds115 = same118 →
                        Calls Try.prog 9 #[] ww120 fun ee123 ww124 => ∃ (alive122 : Bool), ee123 = .returned (.bool alive122) ∧
                        R (.bool alive122) ww124) ∧
                      (holds115 ≠ same118 →
                        R (.bool false) ww120)) ∧
                    (holds111 = false →
                      R (.bool false) ww113)) ∧
                  (sign85 ≠ 0 →
                    ∀ (ww107 : World), Ext no ww87 ww107 →
                    R (.bool false) ww107)))))))))

theorem cachettelaw06_EntryApart.up (draws1a : Option Addr) (draws1n : Nat) (draws1c : Nat) (eWriter2 : Int) (eIndex3 : Int) (ePrev4 : Int) (eAtT5 : Int) (eAtW6 : Int) (eEpoch7 : Int) (eBody8a : Option Addr) (eBody8n : Nat) (eBody8c : Nat) (eSig9 : Int) (fWriter10 : Int) (fIndex11 : Int) (fPrev12 : Int) (fAtT13 : Int) (fAtW14 : Int) (fEpoch15 : Int) (fBody16a : Option Addr) (fBody16n : Nat) (fBody16c : Nat) (fSig17 : Int) {R : Value → World → Prop} {w : World} (h : cachettelaw06_EntryApart.N draws1a draws1n draws1c eWriter2 eIndex3 ePrev4 eAtT5 eAtW6 eEpoch7 eBody8a eBody8n eBody8c eSig9 fWriter10 fIndex11 fPrev12 fAtT13 fAtW14 fEpoch15 fBody16a fBody16n fBody16c fSig17 R w) : cachettelaw06_EntryApart.M draws1a draws1n draws1c eWriter2 eIndex3 ePrev4 eAtT5 eAtW6 eEpoch7 eBody8a eBody8n eBody8c eSig9 fWriter10 fIndex11 fPrev12 fAtT13 fAtW14 fEpoch15 fBody16a fBody16n fBody16c fSig17 R w := by
  unfold cachettelaw06_EntryApart.M
  unfold cachettelaw06_EntryApart.N at h
  refine thenW_in fun ww18 e18 => ?_
  have hb1 := Blk.of_new e18
  have hg1 := ((Ext.refl no w)).size
  have hx18 := (Ext.refl no w).x_alloc e18
  refine thenW_in fun ww19 e19 => ?_
  have hb2 := Blk.of_new e19
  have hg2 := (hx18).size
  have hb1_2 := Nat.ne_of_lt hb1.lt
  have hb1 := hb1.x_alloc e19
  have hx19 := hx18.x_alloc e19
  refine ⟨eWriter2, eIndex3, ePrev4, eAtT5, eAtW6, eEpoch7, eBody8a, eBody8n, eBody8c, eSig9, ⟨hb1.celli 0 rfl rfl, hb1.celli 1 rfl rfl, hb1.celli 2 rfl rfl, hb1.celli 3 rfl rfl, hb1.celli 4 rfl rfl, hb1.celli 5 rfl rfl, hb1.celli 6 rfl rfl, hb1.celli 7 rfl rfl, trivial⟩, ?_⟩
  refine (entry_Right.pure eWriter2 eIndex3 ePrev4 eAtT5 eAtW6 eEpoch7 eBody8a eBody8n eBody8c eSig9).mono fun ee ww20 ⟨he, hxx⟩ => ⟨(entry_Right.F eWriter2 eIndex3 ePrev4 eAtT5 eAtW6 eEpoch7 eBody8a eBody8n eBody8c eSig9), he, ?_⟩
  have hx20 := hx19.trans hxx
  have hb1 := hb1.ext hxx id
  have hb2 := hb2.ext hxx id
  refine bif_of (fun c21 => ?_) (fun c21 => ?_)
  · have h := h.1 (not_t c21)
    have h := h ww20 hx20
    refine h.mono fun ee25 ww26 h => ?_
    obtain ⟨alive24, he, h⟩ := h
    refine ⟨alive24, he, ?_⟩
    exact h
  · have h := h.2 (not_f c21)
    refine ⟨fWriter10, fIndex11, fPrev12, fAtT13, fAtW14, fEpoch15, fBody16a, fBody16n, fBody16c, fSig17, ⟨hb2.celli 0 rfl rfl, hb2.celli 1 rfl rfl, hb2.celli 2 rfl rfl, hb2.celli 3 rfl rfl, hb2.celli 4 rfl rfl, hb2.celli 5 rfl rfl, hb2.celli 6 rfl rfl, hb2.celli 7 rfl rfl, trivial⟩, ?_⟩
    refine (entry_Right.pure fWriter10 fIndex11 fPrev12 fAtT13 fAtW14 fEpoch15 fBody16a fBody16n fBody16c fSig17).mono fun ee ww27 ⟨he, hxx⟩ => ⟨(entry_Right.F fWriter10 fIndex11 fPrev12 fAtT13 fAtW14 fEpoch15 fBody16a fBody16n fBody16c fSig17), he, ?_⟩
    have hx27 := hx20.trans hxx
    have hb1 := hb1.ext hxx id
    have hb2 := hb2.ext hxx id
    refine bif_of (fun c28 => ?_) (fun c28 => ?_)
    · have h := h.1 (not_t c28)
      have h := h ww27 hx27
      refine h.mono fun ee32 ww33 h => ?_
      obtain ⟨alive31, he, h⟩ := h
      refine ⟨alive31, he, ?_⟩
      exact h
    · have h := h.2 (not_f c28)
      refine ⟨eWriter2, eIndex3, ePrev4, eAtT5, eAtW6, eEpoch7, eBody8a, eBody8n, eBody8c, eSig9, ⟨hb1.celli 0 rfl rfl, hb1.celli 1 rfl rfl, hb1.celli 2 rfl rfl, hb1.celli 3 rfl rfl, hb1.celli 4 rfl rfl, hb1.celli 5 rfl rfl, hb1.celli 6 rfl rfl, hb1.celli 7 rfl rfl, trivial⟩, ?_⟩
      refine (cachettelaw06_light.pure eWriter2 eIndex3 ePrev4 eAtT5 eAtW6 eEpoch7 eBody8a eBody8n eBody8c eSig9).mono fun ee ww34 ⟨he, hxx⟩ => ⟨(cachettelaw06_light.F eWriter2 eIndex3 ePrev4 eAtT5 eAtW6 eEpoch7 eBody8a eBody8n eBody8c eSig9), he, ?_⟩
      have hx34 := hx27.trans hxx
      have hb1 := hb1.ext hxx id
      have hb2 := hb2.ext hxx id
      refine bif_of (fun c35 => ?_) (fun c35 => ?_)
      · have h := h.1 (not_t c35)
        have h := h ww34 hx34
        refine h.mono fun ee39 ww40 h => ?_
        obtain ⟨alive38, he, h⟩ := h
        refine ⟨alive38, he, ?_⟩
        exact h
      · have h := h.2 (not_f c35)
        refine ⟨fWriter10, fIndex11, fPrev12, fAtT13, fAtW14, fEpoch15, fBody16a, fBody16n, fBody16c, fSig17, ⟨hb2.celli 0 rfl rfl, hb2.celli 1 rfl rfl, hb2.celli 2 rfl rfl, hb2.celli 3 rfl rfl, hb2.celli 4 rfl rfl, hb2.celli 5 rfl rfl, hb2.celli 6 rfl rfl, hb2.celli 7 rfl rfl, trivial⟩, ?_⟩
        refine (cachettelaw06_light.pure fWriter10 fIndex11 fPrev12 fAtT13 fAtW14 fEpoch15 fBody16a fBody16n fBody16c fSig17).mono fun ee ww41 ⟨he, hxx⟩ => ⟨(cachettelaw06_light.F fWriter10 fIndex11 fPrev12 fAtT13 fAtW14 fEpoch15 fBody16a fBody16n fBody16c fSig17), he, ?_⟩
        have hx41 := hx34.trans hxx
        have hb1 := hb1.ext hxx id
        have hb2 := hb2.ext hxx id
        refine bif_of (fun c42 => ?_) (fun c42 => ?_)
        · have h := h.1 (not_t c42)
          have h := h ww41 hx41
          refine h.mono fun ee46 ww47 h => ?_
          obtain ⟨alive45, he, h⟩ := h
          refine ⟨alive45, he, ?_⟩
          exact h
        · have h := h.2 (not_f c42)
          refine bif_of (fun c48 => ?_) (fun c48 => ?_)
          · have h := h.1 (of_decide_eq_true c48)
            have h := h ww41 hx41
            refine h.mono fun ee52 ww53 h => ?_
            obtain ⟨alive51, he, h⟩ := h
            refine ⟨alive51, he, ?_⟩
            exact h
          · have h := h.2 (Int.not_lt.1 (of_decide_eq_false c48))
            have h := h ww41 (w.heap.size) (ww18.heap.size) hx41 (Priv.cons hg1 hb1.lt (Priv.cons hg2 hb2.lt Priv.nil))
            refine h.mono fun ee57 ww58 h => ?_
            obtain ⟨new56, he, hk, h⟩ := h
            refine ⟨new56, he, ?_⟩
            have hb1 := hk.blk hb1 (by simp)
            have hb2 := hk.blk hb2 (by simp)
            refine ⟨eWriter2, eIndex3, ePrev4, eAtT5, eAtW6, eEpoch7, eBody8a, eBody8n, eBody8c, eSig9, ⟨hb1.celli 0 rfl rfl, hb1.celli 1 rfl rfl, hb1.celli 2 rfl rfl, hb1.celli 3 rfl rfl, hb1.celli 4 rfl rfl, hb1.celli 5 rfl rfl, hb1.celli 6 rfl rfl, hb1.celli 7 rfl rfl, trivial⟩, ?_⟩
            refine h.mono fun ee61 ww62 h => ?_
            obtain ⟨sum59, sum60, he, hk, h⟩ := h
            refine ⟨sum59, sum60, he, ?_⟩
            have hb1 := hk.blk hb1 (by simp)
            have hb2 := hk.blk hb2 (by simp)
            refine ⟨fWriter10, fIndex11, fPrev12, fAtT13, fAtW14, fEpoch15, fBody16a, fBody16n, fBody16c, fSig17, ⟨hb2.celli 0 rfl rfl, hb2.celli 1 rfl rfl, hb2.celli 2 rfl rfl, hb2.celli 3 rfl rfl, hb2.celli 4 rfl rfl, hb2.celli 5 rfl rfl, hb2.celli 6 rfl rfl, hb2.celli 7 rfl rfl, trivial⟩, ?_⟩
            refine h.mono fun ee65 ww66 h => ?_
            obtain ⟨sum63, sum64, he, hk, h⟩ := h
            refine ⟨sum63, sum64, he, ?_⟩
            have hb1 := hk.blk hb1 (by simp)
            have hb2 := hk.blk hb2 (by simp)
            refine bif_of (fun c67 => ?_) (fun c67 => ?_)
            · have h := h.1 (bne_t c67)
              exact h
            · have h := h.2 (bne_f c67)
              refine bif_of (fun c68 => ?_) (fun c68 => ?_)
              · have h := h.1 (bne_t c68)
                exact h
              · have h := h.2 (bne_f c68)
                refine ⟨eWriter2, eIndex3, ePrev4, eAtT5, eAtW6, eEpoch7, eBody8a, eBody8n, eBody8c, eSig9, ⟨hb1.celli 0 rfl rfl, hb1.celli 1 rfl rfl, hb1.celli 2 rfl rfl, hb1.celli 3 rfl rfl, hb1.celli 4 rfl rfl, hb1.celli 5 rfl rfl, hb1.celli 6 rfl rfl, hb1.celli 7 rfl rfl, trivial⟩, ?_⟩
                refine ⟨fWriter10, fIndex11, fPrev12, fAtT13, fAtW14, fEpoch15, fBody16a, fBody16n, fBody16c, fSig17, ⟨hb2.celli 0 rfl rfl, hb2.celli 1 rfl rfl, hb2.celli 2 rfl rfl, hb2.celli 3 rfl rfl, hb2.celli 4 rfl rfl, hb2.celli 5 rfl rfl, hb2.celli 6 rfl rfl, hb2.celli 7 rfl rfl, trivial⟩, ?_⟩
                refine h.mono fun ee70 ww71 h => ?_
                obtain ⟨same69, he, hk, h⟩ := h
                refine ⟨same69, he, ?_⟩
                have hb1 := hk.blk hb1 (by simp)
                have hb2 := hk.blk hb2 (by simp)
                refine bif_of (fun c72 => ?_) (fun c72 => ?_)
                · have h := h.1 (bbeq_f (not_t c72))
                  exact h
                · have h := h.2 (bbeq_t (not_f c72))
                  refine h.mono fun ee75 ww76 h => ?_
                  obtain ⟨pair73, pair74, he, hk, h⟩ := h
                  refine ⟨pair73, pair74, he, ?_⟩
                  have hb1 := hk.blk hb1 (by simp)
                  have hb2 := hk.blk hb2 (by simp)
                  refine ⟨eWriter2, eIndex3, ePrev4, eAtT5, eAtW6, eEpoch7, eBody8a, eBody8n, eBody8c, eSig9, ⟨hb1.celli 0 rfl rfl, hb1.celli 1 rfl rfl, hb1.celli 2 rfl rfl, hb1.celli 3 rfl rfl, hb1.celli 4 rfl rfl, hb1.celli 5 rfl rfl, hb1.celli 6 rfl rfl, hb1.celli 7 rfl rfl, trivial⟩, ?_⟩
                  refine h.mono fun ee86 ww87 h => ?_
                  obtain ⟨Writer77, Index78, Prev79, AtT80, AtW81, Epoch82, Body83a, Body83n, Body83c, Sig84, sign85, he, hk, h⟩ := h
                  refine ⟨Writer77, Index78, Prev79, AtT80, AtW81, Epoch82, Body83a, Body83n, Body83c, Sig84, sign85, he, ?_⟩
                  have hb2 := hk.blk hb2 (by simp)
                  refine thenW_in fun ww88 e88 => ?_
                  have hb3 := Blk.of_new e88
                  have hg3 := ((Ext.refl no ww87)).size
                  have hb2_3 := Nat.ne_of_lt hb2.lt
                  have hb2 := hb2.x_alloc e88
                  have hx88 := (Ext.refl no ww87).x_alloc e88
                  refine ⟨hb3.cani 0 rfl rfl, thenW_in fun ww89 e89 => ?_⟩
                  have hx89 := hx88.x_set (q := ww87.heap.size) (i := 0) rfl (.inr hg3) e89
                  have hb2 := hb2.oth (q := ww87.heap.size) (i := 0) rfl hb2_3 e89
                  have hb3 := hb3.seti 0 rfl e89
                  refine ⟨hb3.cani 1 rfl rfl, thenW_in fun ww90 e90 => ?_⟩
                  have hx90 := hx89.x_set (q := ww87.heap.size) (i := 1) rfl (.inr hg3) e90
                  have hb2 := hb2.oth (q := ww87.heap.size) (i := 1) rfl hb2_3 e90
                  have hb3 := hb3.seti 1 rfl e90
                  refine ⟨hb3.cani 2 rfl rfl, thenW_in fun ww91 e91 => ?_⟩
                  have hx91 := hx90.x_set (q := ww87.heap.size) (i := 2) rfl (.inr hg3) e91
                  have hb2 := hb2.oth (q := ww87.heap.size) (i := 2) rfl hb2_3 e91
                  have hb3 := hb3.seti 2 rfl e91
                  refine ⟨hb3.cani 3 rfl rfl, thenW_in fun ww92 e92 => ?_⟩
                  have hx92 := hx91.x_set (q := ww87.heap.size) (i := 3) rfl (.inr hg3) e92
                  have hb2 := hb2.oth (q := ww87.heap.size) (i := 3) rfl hb2_3 e92
                  have hb3 := hb3.seti 3 rfl e92
                  refine ⟨hb3.cani 4 rfl rfl, thenW_in fun ww93 e93 => ?_⟩
                  have hx93 := hx92.x_set (q := ww87.heap.size) (i := 4) rfl (.inr hg3) e93
                  have hb2 := hb2.oth (q := ww87.heap.size) (i := 4) rfl hb2_3 e93
                  have hb3 := hb3.seti 4 rfl e93
                  refine ⟨hb3.cani 5 rfl rfl, thenW_in fun ww94 e94 => ?_⟩
                  have hx94 := hx93.x_set (q := ww87.heap.size) (i := 5) rfl (.inr hg3) e94
                  have hb2 := hb2.oth (q := ww87.heap.size) (i := 5) rfl hb2_3 e94
                  have hb3 := hb3.seti 5 rfl e94
                  refine ⟨hb3.cani 6 rfl rfl, thenW_in fun ww95 e95 => ?_⟩
                  have hx95 := hx94.x_set (q := ww87.heap.size) (i := 6) rfl (.inr hg3) e95
                  have hb2 := hb2.oth (q := ww87.heap.size) (i := 6) rfl hb2_3 e95
                  have hb3 := hb3.seti 6 rfl e95
                  refine ⟨hb3.cani 7 rfl rfl, thenW_in fun ww96 e96 => ?_⟩
                  have hx96 := hx95.x_set (q := ww87.heap.size) (i := 7) rfl (.inr hg3) e96
                  have hb2 := hb2.oth (q := ww87.heap.size) (i := 7) rfl hb2_3 e96
                  have hb3 := hb3.seti 7 rfl e96
                  refine ⟨fWriter10, fIndex11, fPrev12, fAtT13, fAtW14, fEpoch15, fBody16a, fBody16n, fBody16c, fSig17, ⟨hb2.celli 0 rfl rfl, hb2.celli 1 rfl rfl, hb2.celli 2 rfl rfl, hb2.celli 3 rfl rfl, hb2.celli 4 rfl rfl, hb2.celli 5 rfl rfl, hb2.celli 6 rfl rfl, hb2.celli 7 rfl rfl, trivial⟩, ?_⟩
                  refine thenW_in fun ww97 e97 => ?_
                  have hb4 := Blk.of_new e97
                  have hg4 := (hx96).size
                  have hb3_4 := Nat.ne_of_lt hb3.lt
                  have hb3 := hb3.x_alloc e97
                  have hx97 := hx96.x_alloc e97
                  refine ⟨hb4.cani 0 rfl rfl, thenW_in fun ww98 e98 => ?_⟩
                  have hx98 := hx97.x_set (q := ww96.heap.size) (i := 0) rfl (.inr hg4) e98
                  have hb3 := hb3.oth (q := ww96.heap.size) (i := 0) rfl hb3_4 e98
                  have hb4 := hb4.seti 0 rfl e98
                  refine ⟨hb4.cani 1 rfl rfl, thenW_in fun ww99 e99 => ?_⟩
                  have hx99 := hx98.x_set (q := ww96.heap.size) (i := 1) rfl (.inr hg4) e99
                  have hb3 := hb3.oth (q := ww96.heap.size) (i := 1) rfl hb3_4 e99
                  have hb4 := hb4.seti 1 rfl e99
                  refine ⟨hb4.cani 2 rfl rfl, thenW_in fun ww100 e100 => ?_⟩
                  have hx100 := hx99.x_set (q := ww96.heap.size) (i := 2) rfl (.inr hg4) e100
                  have hb3 := hb3.oth (q := ww96.heap.size) (i := 2) rfl hb3_4 e100
                  have hb4 := hb4.seti 2 rfl e100
                  refine ⟨hb4.cani 3 rfl rfl, thenW_in fun ww101 e101 => ?_⟩
                  have hx101 := hx100.x_set (q := ww96.heap.size) (i := 3) rfl (.inr hg4) e101
                  have hb3 := hb3.oth (q := ww96.heap.size) (i := 3) rfl hb3_4 e101
                  have hb4 := hb4.seti 3 rfl e101
                  refine ⟨hb4.cani 4 rfl rfl, thenW_in fun ww102 e102 => ?_⟩
                  have hx102 := hx101.x_set (q := ww96.heap.size) (i := 4) rfl (.inr hg4) e102
                  have hb3 := hb3.oth (q := ww96.heap.size) (i := 4) rfl hb3_4 e102
                  have hb4 := hb4.seti 4 rfl e102
                  refine ⟨hb4.cani 5 rfl rfl, thenW_in fun ww103 e103 => ?_⟩
                  have hx103 := hx102.x_set (q := ww96.heap.size) (i := 5) rfl (.inr hg4) e103
                  have hb3 := hb3.oth (q := ww96.heap.size) (i := 5) rfl hb3_4 e103
                  have hb4 := hb4.seti 5 rfl e103
                  refine ⟨hb4.cani 6 rfl rfl, thenW_in fun ww104 e104 => ?_⟩
                  have hx104 := hx103.x_set (q := ww96.heap.size) (i := 6) rfl (.inr hg4) e104
                  have hb3 := hb3.oth (q := ww96.heap.size) (i := 6) rfl hb3_4 e104
                  have hb4 := hb4.seti 6 rfl e104
                  refine ⟨hb4.cani 7 rfl rfl, thenW_in fun ww105 e105 => ?_⟩
                  have hx105 := hx104.x_set (q := ww96.heap.size) (i := 7) rfl (.inr hg4) e105
                  have hb3 := hb3.oth (q := ww96.heap.size) (i := 7) rfl hb3_4 e105
                  have hb4 := hb4.seti 7 rfl e105
                  refine ⟨Sig84, hb3.celli 7 rfl rfl, ?_⟩
                  refine ⟨hb4.cani 7 rfl rfl, thenW_in fun ww106 e106 => ?_⟩
                  have hx106 := hx105.x_set (q := ww96.heap.size) (i := 7) rfl (.inr hg4) e106
                  have hb3 := hb3.oth (q := ww96.heap.size) (i := 7) rfl hb3_4 e106
                  have hb4 := hb4.seti 7 rfl e106
                  refine thenW_in fun ww107 e107 => ?_
                  have hx107 := hx106.x_drew e107
                  have hb3 := hb3.x_drew e107
                  have hb4 := hb4.x_drew e107
                  refine bif_of (fun c108 => ?_) (fun c108 => ?_)
                  · have h := h.1 (beq_t c108)
                    refine ⟨Writer77, Index78, Prev79, AtT80, AtW81, Epoch82, Body83a, Body83n, Body83c, Sig84, ⟨hb3.celli 0 rfl rfl, hb3.celli 1 rfl rfl, hb3.celli 2 rfl rfl, hb3.celli 3 rfl rfl, hb3.celli 4 rfl rfl, hb3.celli 5 rfl rfl, hb3.celli 6 rfl rfl, hb3.celli 7 rfl rfl, trivial⟩, ?_⟩
                    have h := h ww107 (ww87.heap.size) (ww96.heap.size) hx107 (Priv.cons hg3 hb3.lt (Priv.cons hg4 hb4.lt Priv.nil))
                    refine h.mono fun ee112 ww113 h => ?_
                    obtain ⟨holds111, he, hk, h⟩ := h
                    refine ⟨holds111, he, ?_⟩
                    have hb3 := hk.blk hb3 (by simp)
                    have hb4 := hk.blk hb4 (by simp)
                    refine bif_of (fun c114 => ?_) (fun c114 => ?_)
                    · have h := h.1 c114
                      refine ⟨fWriter10, fIndex11, fPrev12, fAtT13, fAtW14, fEpoch15, fBody16a, fBody16n, fBody16c, Sig84, ⟨hb4.celli 0 rfl rfl, hb4.celli 1 rfl rfl, hb4.celli 2 rfl rfl, hb4.celli 3 rfl rfl, hb4.celli 4 rfl rfl, hb4.celli 5 rfl rfl, hb4.celli 6 rfl rfl, hb4.celli 7 rfl rfl, trivial⟩, ?_⟩
                      refine ⟨Writer77, Index78, Prev79, AtT80, AtW81, Epoch82, Body83a, Body83n, Body83c, Sig84, ⟨hb3.celli 0 rfl rfl, hb3.celli 1 rfl rfl, hb3.celli 2 rfl rfl, hb3.celli 3 rfl rfl, hb3.celli 4 rfl rfl, hb3.celli 5 rfl rfl, hb3.celli 6 rfl rfl, hb3.celli 7 rfl rfl, trivial⟩, ?_⟩
                      refine ⟨fWriter10, fIndex11, fPrev12, fAtT13, fAtW14, fEpoch15, fBody16a, fBody16n, fBody16c, Sig84, ⟨hb4.celli 0 rfl rfl, hb4.celli 1 rfl rfl, hb4.celli 2 rfl rfl, hb4.celli 3 rfl rfl, hb4.celli 4 rfl rfl, hb4.celli 5 rfl rfl, hb4.celli 6 rfl rfl, hb4.celli 7 rfl rfl, trivial⟩, ?_⟩
                      refine h.mono fun ee116 ww117 h => ?_
                      obtain ⟨holds115, he, hk, h⟩ := h
                      refine ⟨holds115, he, ?_⟩
                      have hb3 := hk.blk hb3 (by simp)
                      have hb4 := hk.blk hb4 (by simp)
                      refine ⟨⟨hb4.celli 0 rfl rfl, hb4.celli 1 rfl rfl, hb4.celli 2 rfl rfl, hb4.celli 3 rfl rfl, hb4.celli 4 rfl rfl, hb4.celli 5 rfl rfl, hb4.celli 6 rfl rfl, hb4.celli 7 rfl rfl, trivial⟩, ⟨hb3.celli 0 rfl rfl, hb3.celli 1 rfl rfl, hb3.celli 2 rfl rfl, hb3.celli 3 rfl rfl, hb3.celli 4 rfl rfl, hb3.celli 5 rfl rfl, hb3.celli 6 rfl rfl, hb3.celli 7 rfl rfl, trivial⟩, ?_⟩
                      refine h.mono fun ee119 ww120 h => ?_
                      obtain ⟨same118, he, h⟩ := h
                      refine ⟨same118, he, ?_⟩
                      refine bif_of (fun c121 => ?_) (fun c121 => ?_)
                      · have h := h.1 (bbeq_t c121)
                        refine h.mono fun ee123 ww124 h => ?_
                        obtain ⟨alive122, he, h⟩ := h
                        refine ⟨alive122, he, ?_⟩
                        exact h
                      · have h := h.2 (bbeq_f c121)
                        exact h
                    · have h := h.2 c114
                      exact h
                  · have h := h.2 (beq_f c108)
                    have h := h ww107 hx107
                    exact h

theorem cachettelaw06_EntryApart.go (draws1a : Option Addr) (draws1n : Nat) (draws1c : Nat) (eWriter2 : Int) (eIndex3 : Int) (ePrev4 : Int) (eAtT5 : Int) (eAtW6 : Int) (eEpoch7 : Int) (eBody8a : Option Addr) (eBody8n : Nat) (eBody8c : Nat) (eSig9 : Int) (fWriter10 : Int) (fIndex11 : Int) (fPrev12 : Int) (fAtT13 : Int) (fAtW14 : Int) (fEpoch15 : Int) (fBody16a : Option Addr) (fBody16n : Nat) (fBody16c : Nat) (fSig17 : Int) {R : Value → World → Prop} {w : World} (h : cachettelaw06_EntryApart.N draws1a draws1n draws1c eWriter2 eIndex3 ePrev4 eAtT5 eAtW6 eEpoch7 eBody8a eBody8n eBody8c eSig9 fWriter10 fIndex11 fPrev12 fAtT13 fAtW14 fEpoch15 fBody16a fBody16n fBody16c fSig17 R w) : Calls Try.prog 7 #[.slice draws1a draws1n draws1c, .agg #[.int .i64 eWriter2, .int .i64 eIndex3, .int .u64 ePrev4, .int .i64 eAtT5, .int .i64 eAtW6, .int .i64 eEpoch7, .slice eBody8a eBody8n eBody8c, .int .u64 eSig9], .agg #[.int .i64 fWriter10, .int .i64 fIndex11, .int .u64 fPrev12, .int .i64 fAtT13, .int .i64 fAtW14, .int .i64 fEpoch15, .slice fBody16a fBody16n fBody16c, .int .u64 fSig17]] w fun e w' => ∃ v, e = .returned v ∧ R v w' := cachettelaw06_EntryApart.ok draws1a draws1n draws1c eWriter2 eIndex3 ePrev4 eAtT5 eAtW6 eEpoch7 eBody8a eBody8n eBody8c eSig9 fWriter10 fIndex11 fPrev12 fAtT13 fAtW14 fEpoch15 fBody16a fBody16n fBody16c fSig17 (cachettelaw06_EntryApart.up draws1a draws1n draws1c eWriter2 eIndex3 ePrev4 eAtT5 eAtW6 eEpoch7 eBody8a eBody8n eBody8c eSig9 fWriter10 fIndex11 fPrev12 fAtT13 fAtW14 fEpoch15 fBody16a fBody16n fBody16c fSig17 h)
theorem cachettelaw06_EntryApart.run (draws1a : Option Addr) (draws1n : Nat) (draws1c : Nat) (eWriter2 : Int) (eIndex3 : Int) (ePrev4 : Int) (eAtT5 : Int) (eAtW6 : Int) (eEpoch7 : Int) (eBody8a : Option Addr) (eBody8n : Nat) (eBody8c : Nat) (eSig9 : Int) (fWriter10 : Int) (fIndex11 : Int) (fPrev12 : Int) (fAtT13 : Int) (fAtW14 : Int) (fEpoch15 : Int) (fBody16a : Option Addr) (fBody16n : Nat) (fBody16c : Nat) (fSig17 : Int) {V : Value} {Q : World → Prop} {w : World} (h : cachettelaw06_EntryApart.N draws1a draws1n draws1c eWriter2 eIndex3 ePrev4 eAtT5 eAtW6 eEpoch7 eBody8a eBody8n eBody8c eSig9 fWriter10 fIndex11 fPrev12 fAtT13 fAtW14 fEpoch15 fBody16a fBody16n fBody16c fSig17 (fun v w' => v = V ∧ Q w') w) : Calls Try.prog 7 #[.slice draws1a draws1n draws1c, .agg #[.int .i64 eWriter2, .int .i64 eIndex3, .int .u64 ePrev4, .int .i64 eAtT5, .int .i64 eAtW6, .int .i64 eEpoch7, .slice eBody8a eBody8n eBody8c, .int .u64 eSig9], .agg #[.int .i64 fWriter10, .int .i64 fIndex11, .int .u64 fPrev12, .int .i64 fAtT13, .int .i64 fAtW14, .int .i64 fEpoch15, .slice fBody16a fBody16n fBody16c, .int .u64 fSig17]] w (Ret V Q) := (cachettelaw06_EntryApart.go draws1a draws1n draws1c eWriter2 eIndex3 ePrev4 eAtT5 eAtW6 eEpoch7 eBody8a eBody8n eBody8c eSig9 fWriter10 fIndex11 fPrev12 fAtT13 fAtW14 fEpoch15 fBody16a fBody16n fBody16c fSig17 h).mono fun e w' ⟨v, he, hv, hq⟩ => ⟨by rw [he, hv], hq⟩

theorem textL_sg (e : Ent) (x : Int) : textL { e with sg := x } = textL e := rfl
theorem right_sg (e : Ent) (x : Int) : entRight { e with sg := x } = entRight e := rfl
/-- right entries of the same text are the same but for their signatures. -/
theorem textL_inj {e f : Ent} (he : entRight e = true) (hf : entRight f = true) (h1 : e.fit) (h2 : f.fit) (h : textL e = textL f) (x : Int) : ({ e with sg := x } : Ent) = { f with sg := x } := by
  have k : ({ e with sg := 0 } : Ent) = { f with sg := 0 } := by
    refine bytesL_inj he hf ⟨h1.pv0, h1.pv1, by show (0 : Int) ≤ 0; decide, by show (0 : Int) < _; decide⟩ ⟨h2.pv0, h2.pv1, by show (0 : Int) ≤ 0; decide, by show (0 : Int) < _; decide⟩ ?_
    unfold bytesL
    show textL e ++ _ = textL f ++ _
    rw [h]
  obtain ⟨a1, a2, a3, a4, a5, a6, a7, a8⟩ := e
  obtain ⟨b1, b2, b3, b4, b5, b6, b7, b8⟩ := f
  simp only [Ent.mk.injEq] at k ⊢
  simp only [k.1, k.2.1, k.2.2.1, k.2.2.2.1, k.2.2.2.2.1, k.2.2.2.2.2.1, k.2.2.2.2.2.2.1, and_self]
theorem apart_plain {d : List Int} (hd : ∀ x ∈ d, 0 ≤ x ∧ x < 18446744073709551616) {e f : Ent} (he : entRight e = true) (hf : entRight f = true) (h1 : e.fit) (h2 : f.fit) :
    let S1 := (sumE (OS.init d) e).2; let S2 := (sumE S1 f).2; let S3 := (pairOf S2).2; let s := (pairOf S2).1.1; let p := (pairOf S2).1.2; let x := (signE S3 s e).1.1; let S4 := (signE S3 s e).2
    OInv S1 ∧ OInv S2 ∧ OInv S3 ∧ OInv S4 ∧ S1.used.length ≤ 1 ∧ S2.used.length ≤ 2 ∧ S3.used.length ≤ 4 ∧ (sumE (OS.init d) e).1.2 = 0 ∧ (sumE S1 f).1.2 = 0 ∧ ((sumE (OS.init d) e).1.1 = (sumE S1 f).1.1 ↔ e = f) ∧
    (signE S3 s e).1.2 = 0 ∧ x = { e with sg := x.sg } ∧ holdsE S4 p x = true ∧ (holdsE S4 p { f with sg := x.sg } = decide (x = { f with sg := x.sg })) ∧ x.fit := by
  intro S1 S2 S3 s p x S4
  have i0 := OInv.init hd
  obtain ⟨i1, l1, a1, _⟩ := hash_inv i0 (bytesL e)
  have e1 : sumE (OS.init d) e = (((hashOf (OS.init d) (bytesL e)).1, 0), (hashOf (OS.init d) (bytesL e)).2) := by unfold sumE; rw [if_pos he]
  have hS1 : S1 = (hashOf (OS.init d) (bytesL e)).2 := by show (sumE (OS.init d) e).2 = _; rw [e1]
  rw [← hS1] at i1 l1 a1
  obtain ⟨i2, l2, a2, _⟩ := hash_inv i1 (bytesL f)
  have e2 : sumE S1 f = (((hashOf S1 (bytesL f)).1, 0), (hashOf S1 (bytesL f)).2) := by unfold sumE; rw [if_pos hf]
  have hS2 : S2 = (hashOf S1 (bytesL f)).2 := by show (sumE S1 f).2 = _; rw [e2]
  rw [← hS2] at i2 l2 a2
  have u1 : S1.used.length ≤ 0 + 1 := by rw [hS1]; exact (hashOf_ok i0.ok _).2
  have u2 : S2.used.length ≤ S1.used.length + 1 := by rw [hS2]; exact (hashOf_ok i1.ok _).2
  have u3 : S3.used.length ≤ S2.used.length + 2 := (pairOf_ok i2.ok).2
  obtain ⟨i3, l3, a3, b3, c3, _⟩ := pair_inv i2
  obtain ⟨i4, l4, a4, b4, c4, d4, f4, g4⟩ := sign_inv i3 b3 (textL e)
  have e4 : signE S3 s e = (({ e with sg := (signOf S3 s (textL e)).1.1 }, 0), (signOf S3 s (textL e)).2) := by unfold signE; rw [if_pos he, if_pos a4]
  have hx : x = { e with sg := (signOf S3 s (textL e)).1.1 } := by show (signE S3 s e).1.1 = _; rw [e4]
  have hS4 : S4 = (signOf S3 s (textL e)).2 := by show (signE S3 s e).2 = _; rw [e4]
  have hxs : x.sg = (signOf S3 s (textL e)).1.1 := by rw [hx]
  rw [← hS4] at i4 b4 c4 f4 l4
  rw [← hxs] at b4 c4
  have hp : alook S4.publics p = some s := by rw [f4]; exact a3
  refine ⟨i1, i2, i3, i4, by omega, by omega, by omega, by rw [e1], by rw [e2], ?_, by rw [e4], by rw [hx], ?_, ?_, ?_⟩
  · rw [e1, e2]
    constructor
    · intro h
      have h : (hashOf (OS.init d) (bytesL e)).1 = (hashOf S1 (bytesL f)).1 := h
      rw [← h] at a2
      exact bytesL_inj he hf h1 h2 (i2.hi _ _ _ (l2.hashes _ _ a1) a2)
    · rintro rfl
      have := hash_eq a1
      rw [this]
  · unfold holdsE
    rw [hx, right_sg, he, textL_sg, Bool.true_and, verify_at hp, decide_eq_true_eq]
    show alook S4.signed (signOf S3 s (textL e)).1.1 = _
    rw [← hxs]; exact b4
  · unfold holdsE
    rw [right_sg, hf, textL_sg, Bool.true_and, verify_at hp, decide_eq_decide]
    show alook S4.signed x.sg = some (s, textL f) ↔ _
    rw [b4]
    constructor
    · intro h
      have h := (Prod.mk.inj (Option.some.inj h)).2
      have := textL_inj he hf h1 h2 h x.sg
      rw [← this, hxs]; exact hx
    · intro h
      have : textL x = textL f := by rw [h]; rfl
      rw [hx] at this
      rw [← this]; rfl
  · have u4 : S4.used.length ≤ S3.used.length + 1 := by rw [hS4]; exact (signOf_ok i3.ok s (textL e)).2
    have := i4.fit (by omega) (i4.su _ _ b4)
    rw [hxs] at this
    rw [hx]
    exact ⟨h1.pv0, h1.pv1, this.1, this.2⟩
theorem EntryApart_spec (w : World) {da ea fa : Option Addr} {dc ec fc : Nat} {d : List Int} {e f : Ent} (hd : ∀ x ∈ d, 0 ≤ x ∧ x < 18446744073709551616) (hda : RowAt w da (d.map u64V)) (hef : e.fit) (hff : f.fit) (he : RowAt w ea (bytesV e.body)) (hf : RowAt w fa (bytesV f.body)) :
    Calls Try.prog 7 #[.slice da d.length dc, entV e ea ec, entV f fa fc] w (Ret (.bool true) fun w' => Ext no w w') := by
  refine cachettelaw06_EntryApart.run da d.length dc e.w e.i e.pv e.t e.tw e.ep ea e.body.length ec e.sg f.w f.i f.pv f.t f.tw f.ep fa f.body.length fc f.sg ?_
  unfold cachettelaw06_EntryApart.N
  have hal : ∀ w1, Ext no w w1 → Calls Try.prog 9 #[] w1 fun e w' => ∃ v : Bool, e = .returned (.bool v) ∧ (fun v w' => v = Value.bool true ∧ Ext no w w') (.bool v) w' := fun w1 hx =>
    (alive6_spec w1).mono fun e w' ⟨he, hw⟩ => ⟨true, he, rfl, hx.trans hw⟩
  rw [entRight_F, entRight_F]
  refine ⟨fun hr w20 X => hal _ X, fun hre => ⟨fun hr w20 X => hal _ X, fun hrf => ⟨fun hr w20 X => hal _ X, fun hl1 => ⟨fun hr w20 X => hal _ X, fun hl2 => ⟨fun hr w20 X => hal _ X, fun h5 w41 p54 p55 X41 hp => ?_⟩⟩⟩⟩⟩
  obtain ⟨i1, i2, i3, i4, u1, u2, u3, z1, z2, z3, z4, z5, z6, z7, z8⟩ := apart_plain hd hre hrf hef hff
  -- nobody owns anything ahead
  have ok0 : Tags w (fun _ => none) := fun b j _ h => by cases h
  have s41 := Step.of_no X41 ok0
  have F41 : Free [p54, p55] w41 (grow w fun _ => none) := Free.of hp
  have re : Row w (fun _ => none) ea (bytesV e.body) := ⟨he, fun _ _ _ => rfl⟩
  have rf : Row w (fun _ => none) fa (bytesV f.body) := ⟨hf, fun _ _ _ => rfl⟩
  refine (NewO s41.ok (hda.no X41) (by omega)).mono fun x w58 ⟨k, o58, hx, hk, s58', P58⟩ => ⟨_, hx, F41.keep s58', ?_⟩
  have s58 := s41.trans s58'
  have F58 := F41.step s58'
  refine (SumO P58 s58.ok (OS.init_ok d hd) (by simp [OS.init]) (fun _ => hef) (re.step s58).1).mono fun x w62 ⟨o62, hx, s62', P62⟩ => ⟨_, _, hx, F58.keep s62', ?_⟩
  have new : ∀ {w1 w2 : World} {o1 o2 : Own}, Step no w (fun _ => none) w1 o1 → Step (fun j => j = k) w1 o1 w2 o2 → Step no w (fun _ => none) w2 o2 := fun h1 h2 => h1.trans' h2 fun j hj => .inr (by have := X41.size; omega)
  have s62 := new s58 s62'
  have F62 := F58.step s62'
  refine (SumO P62 s62.ok i1.ok (by omega) (fun _ => hff) (rf.step s62).1).mono fun x w66 ⟨o66, hx, s66', P66⟩ => ⟨_, _, hx, F62.keep s66', fun h => absurd z1 h, fun _ => ⟨fun h => absurd z2 h, fun _ => ?_⟩⟩
  have s66 := new s62 s66'
  have F66 := F62.step s66'
  refine (ESame_spec (e := e) (f := f) (re.step s66).1 (rf.step s66).1).mono fun x w71 ⟨hx, X71⟩ => ⟨_, hx, X71.kept, fun h => ?_, fun _ => ?_⟩
  · refine absurd ?_ h
    rw [Bool.eq_iff_iff, beq_iff_eq, decide_eq_true_eq]; exact z3
  have s71' := Step.of_no X71 s66.ok
  have s71 := s66.trans s71'
  have F71 := F66.step s71'
  refine (PairO (P66.step s71' id) s71.ok i2.ok (by omega)).mono fun x w76 ⟨o76, hx, s76', P76⟩ => ⟨_, _, hx, F71.keep s76', ?_⟩
  have s76 := new s71 s76'
  have F76 := F71.step s76'
  refine (SignE P76 s76.ok i3.ok (by omega) _ (fun _ => hef) (re.step s76)).mono fun x w87 ⟨o87, xa, xc, hx, s87', P87, rx, lx⟩ => ⟨_, _, _, _, _, _, _, _, _, _, _, hx, (F76.sub (by simp)).keep s87', fun _ w107 p109 p110 X107 hp107 => ?_, fun h => absurd z4 h⟩
  have s87 := new s76 s87'
  have s107' := Step.of_no X107 s87.ok
  have s107 := s87.trans s107'
  have F107 : Free [p109, p110] w107 (grow w87 o87) := Free.of hp107
  generalize hX : (signE (pairOf (sumE (sumE (OS.init d) e).2 f).2).2 (pairOf (sumE (sumE (OS.init d) e).2 f).2).1.1 e).1.1 = x at *
  have P107 := P87.step s107' id
  have rx107 := rx.step s107'
  refine (HoldsO P107 s107.ok _ (e := x) (fun _ => z8) rx107.1).mono fun y w113 ⟨hy, X113⟩ => ⟨_, hy, X113.kept, fun _ => ?_, fun h => by rw [z6] at h; cases h⟩
  have s113' := Step.of_no X113 s107.ok
  have s113 := s107.trans s113'
  refine (HoldsO (P107.step s113' id) s113.ok _ (e := { f with sg := x.sg }) (fun _ => ⟨hff.pv0, hff.pv1, z8.sg0, z8.sg1⟩) (rf.step s113).1).mono fun y w117 ⟨hy, X117⟩ => ⟨_, hy, X117.kept, ?_⟩
  have s117' := Step.of_no X117 s113.ok
  have s117 := s113.trans s117'
  refine (ESame_spec (e := x) (f := { f with sg := x.sg }) ((rx107.step s113').step s117').1 (rf.step s117).1).mono fun y w120 ⟨hy, X120⟩ => ⟨_, hy, fun _ => hal _ ?_, fun h => absurd z7 h⟩
  exact (s117.ext.mono fun b ⟨_, h, _⟩ _ => by cases h).trans X120
theorem EntryApart_walk (W : World) (a0 : Option Addr) (len0 cap0 : Nat) (cs1 cs2 : Array Value) (o0 : IntsQ .u64 W [.slice a0 len0 cap0]) (o1 : EntQ W cs1.toList) (o2 : EntQ W cs2.toList) :
    Calls Try.prog 7 #[.slice a0 len0 cap0, .agg cs1, .agg cs2] W (Ret (.bool true) fun w' => Ext no W w') := by
  obtain ⟨_, _, d, e0, _, _, r0, f0⟩ := o0
  cases e0
  obtain ⟨e, ea, ec, h1, f1, _, _, _, r1⟩ := o1
  obtain ⟨f, fa, fc, h2, f2, _, _, _, r2⟩ := o2
  rw [ent_of h1, ent_of h2]
  exact EntryApart_spec W (fun x hx => wf_u64 (f0 x hx)) r0 f1 f2 r1 r2
end Go.Proofs.Ytomajjnoekfmoaa
