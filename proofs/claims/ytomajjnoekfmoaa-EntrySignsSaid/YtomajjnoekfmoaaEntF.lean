/- EntryForms: what the law's function answers. -/
import Derived.Test.YtomajjnoekfmoaaEntE
import Derived.Test.YtomajjnoekfmoaaEntO
set_option linter.unusedVariables false
set_option linter.unusedSimpArgs false
set_option maxRecDepth 20000
namespace Go.Proofs.Ytomajjnoekfmoaa
open Go Go.Mx Go.Proofs
open W (OwnB Rd RdR GivesW numR countR doneR zig unzig intR)
/-- cachettelaw06.EntryForms -/
def cachettelaw06_EntryForms.M (eWriter1 : Int) (eIndex2 : Int) (ePrev3 : Int) (eAtT4 : Int) (eAtW5 : Int) (eEpoch6 : Int) (eBody7a : Option Addr) (eBody7n : Nat) (eBody7c : Nat) (eSig8 : Int) (fWriter9 : Int) (fIndex10 : Int) (fPrev11 : Int) (fAtT12 : Int) (fAtW13 : Int) (fEpoch14 : Int) (fBody15a : Option Addr) (fBody15n : Nat) (fBody15c : Nat) (fSig16 : Int) (b17a : Option Addr) (b17n : Nat) (b17c : Nat) (R : Value → World → Prop) (w : World) : Prop :=
  thenW (w.alloc (.cells #[.int .i64 eWriter1, .int .i64 eIndex2, .int .u64 ePrev3, .int .i64 eAtT4, .int .i64 eAtW5, .int .i64 eEpoch6, .slice eBody7a eBody7n eBody7c, .int .u64 eSig8] 27)) fun ww18 =>
  thenW (ww18.alloc (.cells #[.int .i64 fWriter9, .int .i64 fIndex10, .int .u64 fPrev11, .int .i64 fAtT12, .int .i64 fAtW13, .int .i64 fEpoch14, .slice fBody15a fBody15n fBody15c, .int .u64 fSig16] 27)) fun ww19 =>
  ∃ (xWriter20 : Int) (xIndex21 : Int) (xPrev22 : Int) (xAtT23 : Int) (xAtW24 : Int) (xEpoch25 : Int) (xBody26a : Option Addr) (xBody26n : Nat) (xBody26c : Nat) (xSig27 : Int), cellsAt ww19 (blk w.heap.size) [.int .i64 xWriter20, .int .i64 xIndex21, .int .u64 xPrev22, .int .i64 xAtT23, .int .i64 xAtW24, .int .i64 xEpoch25, .slice xBody26a xBody26n xBody26c, .int .u64 xSig27] 0 ∧
  Calls Try.prog 8 #[.agg #[.int .i64 xWriter20, .int .i64 xIndex21, .int .u64 xPrev22, .int .i64 xAtT23, .int .i64 xAtW24, .int .i64 xEpoch25, .slice xBody26a xBody26n xBody26c, .int .u64 xSig27]] ww19 fun ee29 ww30 => ∃ (light28 : Bool), ee29 = .returned (.bool light28) ∧
  bif !light28 then (
  Calls Try.prog 9 #[] ww30 fun ee32 ww33 => ∃ (alive31 : Bool), ee32 = .returned (.bool alive31) ∧
  R (.bool alive31) ww33) else (
  ∃ (xWriter34 : Int) (xIndex35 : Int) (xPrev36 : Int) (xAtT37 : Int) (xAtW38 : Int) (xEpoch39 : Int) (xBody40a : Option Addr) (xBody40n : Nat) (xBody40c : Nat) (xSig41 : Int), cellsAt ww30 (blk ww18.heap.size) [.int .i64 xWriter34, .int .i64 xIndex35, .int .u64 xPrev36, .int .i64 xAtT37, .int .i64 xAtW38, .int .i64 xEpoch39, .slice xBody40a xBody40n xBody40c, .int .u64 xSig41] 0 ∧
  Calls Try.prog 8 #[.agg #[.int .i64 xWriter34, .int .i64 xIndex35, .int .u64 xPrev36, .int .i64 xAtT37, .int .i64 xAtW38, .int .i64 xEpoch39, .slice xBody40a xBody40n xBody40c, .int .u64 xSig41]] ww30 fun ee43 ww44 => ∃ (light42 : Bool), ee43 = .returned (.bool light42) ∧
  bif !light42 then (
  Calls Try.prog 9 #[] ww44 fun ee46 ww47 => ∃ (alive45 : Bool), ee46 = .returned (.bool alive45) ∧
  R (.bool alive45) ww47) else (
  bif decide ((b17n : Int) > 1500) then (
  Calls Try.prog 9 #[] ww44 fun ee49 ww50 => ∃ (alive48 : Bool), ee49 = .returned (.bool alive48) ∧
  R (.bool alive48) ww50) else (
  ∃ (xWriter51 : Int) (xIndex52 : Int) (xPrev53 : Int) (xAtT54 : Int) (xAtW55 : Int) (xEpoch56 : Int) (xBody57a : Option Addr) (xBody57n : Nat) (xBody57c : Nat) (xSig58 : Int), cellsAt ww44 (blk w.heap.size) [.int .i64 xWriter51, .int .i64 xIndex52, .int .u64 xPrev53, .int .i64 xAtT54, .int .i64 xAtW55, .int .i64 xEpoch56, .slice xBody57a xBody57n xBody57c, .int .u64 xSig58] 0 ∧
  Calls Try.prog 15 #[.agg #[.int .i64 xWriter51, .int .i64 xIndex52, .int .u64 xPrev53, .int .i64 xAtT54, .int .i64 xAtW55, .int .i64 xEpoch56, .slice xBody57a xBody57n xBody57c, .int .u64 xSig58]] ww44 fun ee61 ww62 => ∃ (text59a : Option Addr) (text59n : Nat) (text59c : Nat) (text60 : Int), ee61 = .returned (.tuple #[.slice text59a text59n text59c, .int .i64 text60]) ∧
  ∃ (xWriter63 : Int) (xIndex64 : Int) (xPrev65 : Int) (xAtT66 : Int) (xAtW67 : Int) (xEpoch68 : Int) (xBody69a : Option Addr) (xBody69n : Nat) (xBody69c : Nat) (xSig70 : Int), cellsAt ww62 (blk w.heap.size) [.int .i64 xWriter63, .int .i64 xIndex64, .int .u64 xPrev65, .int .i64 xAtT66, .int .i64 xAtW67, .int .i64 xEpoch68, .slice xBody69a xBody69n xBody69c, .int .u64 xSig70] 0 ∧
  Calls Try.prog 16 #[.agg #[.int .i64 xWriter63, .int .i64 xIndex64, .int .u64 xPrev65, .int .i64 xAtT66, .int .i64 xAtW67, .int .i64 xEpoch68, .slice xBody69a xBody69n xBody69c, .int .u64 xSig70]] ww62 fun ee73 ww74 => ∃ (text71a : Option Addr) (text71n : Nat) (text71c : Nat) (text72 : Int), ee73 = .returned (.tuple #[.slice text71a text71n text71c, .int .i64 text72]) ∧
  ∃ (xWriter75 : Int) (xIndex76 : Int) (xPrev77 : Int) (xAtT78 : Int) (xAtW79 : Int) (xEpoch80 : Int) (xBody81a : Option Addr) (xBody81n : Nat) (xBody81c : Nat) (xSig82 : Int), cellsAt ww74 (blk w.heap.size) [.int .i64 xWriter75, .int .i64 xIndex76, .int .u64 xPrev77, .int .i64 xAtT78, .int .i64 xAtW79, .int .i64 xEpoch80, .slice xBody81a xBody81n xBody81c, .int .u64 xSig82] 0 ∧
  Calls Try.prog 10 #[.agg #[.int .i64 xWriter75, .int .i64 xIndex76, .int .u64 xPrev77, .int .i64 xAtT78, .int .i64 xAtW79, .int .i64 xEpoch80, .slice xBody81a xBody81n xBody81c, .int .u64 xSig82]] ww74 fun ee85 ww86 => ∃ (bytes83a : Option Addr) (bytes83n : Nat) (bytes83c : Nat) (bytes84 : Int), ee85 = .returned (.tuple #[.slice bytes83a bytes83n bytes83c, .int .i64 bytes84]) ∧
  ∃ (xWriter87 : Int) (xIndex88 : Int) (xPrev89 : Int) (xAtT90 : Int) (xAtW91 : Int) (xEpoch92 : Int) (xBody93a : Option Addr) (xBody93n : Nat) (xBody93c : Nat) (xSig94 : Int), cellsAt ww86 (blk w.heap.size) [.int .i64 xWriter87, .int .i64 xIndex88, .int .u64 xPrev89, .int .i64 xAtT90, .int .i64 xAtW91, .int .i64 xEpoch92, .slice xBody93a xBody93n xBody93c, .int .u64 xSig94] 0 ∧
  Calls Try.prog 17 #[.agg #[.int .i64 xWriter87, .int .i64 xIndex88, .int .u64 xPrev89, .int .i64 xAtT90, .int .i64 xAtW91, .int .i64 xEpoch92, .slice xBody93a xBody93n xBody93c, .int .u64 xSig94]] ww86 fun ee97 ww98 => ∃ (bytes95a : Option Addr) (bytes95n : Nat) (bytes95c : Nat) (bytes96 : Int), ee97 = .returned (.tuple #[.slice bytes95a bytes95n bytes95c, .int .i64 bytes96]) ∧
  Calls Try.prog 12 #[.slice b17a b17n b17c] ww98 fun ee108 ww109 => ∃ (Writer99 : Int) (Index100 : Int) (Prev101 : Int) (AtT102 : Int) (AtW103 : Int) (Epoch104 : Int) (Body105a : Option Addr) (Body105n : Nat) (Body105c : Nat) (Sig106 : Int) (read107 : Int), ee108 = .returned (.tuple #[.agg #[.int .i64 Writer99, .int .i64 Index100, .int .u64 Prev101, .int .i64 AtT102, .int .i64 AtW103, .int .i64 Epoch104, .slice Body105a Body105n Body105c, .int .u64 Sig106], .int .i64 read107]) ∧
  thenW (ww109.alloc (.cells #[.int .i64 0, .int .i64 0, .int .u64 0, .int .i64 0, .int .i64 0, .int .i64 0, .slice none 0 0, .int .u64 0] 27)) fun ww110 =>
  canStore ww110 ((blk ww109.heap.size).add 0) ∧
  thenW (ww110.setCell ((blk ww109.heap.size).add 0) (.int .i64 Writer99)) fun ww111 =>
  canStore ww111 ((blk ww109.heap.size).add 1) ∧
  thenW (ww111.setCell ((blk ww109.heap.size).add 1) (.int .i64 Index100)) fun ww112 =>
  canStore ww112 ((blk ww109.heap.size).add 2) ∧
  thenW (ww112.setCell ((blk ww109.heap.size).add 2) (.int .u64 Prev101)) fun ww113 =>
  canStore ww113 ((blk ww109.heap.size).add 3) ∧
  thenW (ww113.setCell ((blk ww109.heap.size).add 3) (.int .i64 AtT102)) fun ww114 =>
  canStore ww114 ((blk ww109.heap.size).add 4) ∧
  thenW (ww114.setCell ((blk ww109.heap.size).add 4) (.int .i64 AtW103)) fun ww115 =>
  canStore ww115 ((blk ww109.heap.size).add 5) ∧
  thenW (ww115.setCell ((blk ww109.heap.size).add 5) (.int .i64 Epoch104)) fun ww116 =>
  canStore ww116 ((blk ww109.heap.size).add 6) ∧
  thenW (ww116.setCell ((blk ww109.heap.size).add 6) (.slice Body105a Body105n Body105c)) fun ww117 =>
  canStore ww117 ((blk ww109.heap.size).add 7) ∧
  thenW (ww117.setCell ((blk ww109.heap.size).add 7) (.int .u64 Sig106)) fun ww118 =>
  Calls Try.prog 18 #[.slice b17a b17n b17c] ww118 fun ee128 ww129 => ∃ (Writer119 : Int) (Index120 : Int) (Prev121 : Int) (AtT122 : Int) (AtW123 : Int) (Epoch124 : Int) (Body125a : Option Addr) (Body125n : Nat) (Body125c : Nat) (Sig126 : Int) (read127 : Int), ee128 = .returned (.tuple #[.agg #[.int .i64 Writer119, .int .i64 Index120, .int .u64 Prev121, .int .i64 AtT122, .int .i64 AtW123, .int .i64 Epoch124, .slice Body125a Body125n Body125c, .int .u64 Sig126], .int .i64 read127]) ∧
  thenW (ww129.alloc (.cells #[.int .i64 0, .int .i64 0, .int .u64 0, .int .i64 0, .int .i64 0, .int .i64 0, .slice none 0 0, .int .u64 0] 27)) fun ww130 =>
  canStore ww130 ((blk ww129.heap.size).add 0) ∧
  thenW (ww130.setCell ((blk ww129.heap.size).add 0) (.int .i64 Writer119)) fun ww131 =>
  canStore ww131 ((blk ww129.heap.size).add 1) ∧
  thenW (ww131.setCell ((blk ww129.heap.size).add 1) (.int .i64 Index120)) fun ww132 =>
  canStore ww132 ((blk ww129.heap.size).add 2) ∧
  thenW (ww132.setCell ((blk ww129.heap.size).add 2) (.int .u64 Prev121)) fun ww133 =>
  canStore ww133 ((blk ww129.heap.size).add 3) ∧
  thenW (ww133.setCell ((blk ww129.heap.size).add 3) (.int .i64 AtT122)) fun ww134 =>
  canStore ww134 ((blk ww129.heap.size).add 4) ∧
  thenW (ww134.setCell ((blk ww129.heap.size).add 4) (.int .i64 AtW123)) fun ww135 =>
  canStore ww135 ((blk ww129.heap.size).add 5) ∧
  thenW (ww135.setCell ((blk ww129.heap.size).add 5) (.int .i64 Epoch124)) fun ww136 =>
  canStore ww136 ((blk ww129.heap.size).add 6) ∧
  thenW (ww136.setCell ((blk ww129.heap.size).add 6) (.slice Body125a Body125n Body125c)) fun ww137 =>
  canStore ww137 ((blk ww129.heap.size).add 7) ∧
  thenW (ww137.setCell ((blk ww129.heap.size).add 7) (.int .u64 Sig126)) fun ww138 =>
  thenW (ww138.drew) fun ww139 =>
  ∃ (xWriter140 : Int) (xIndex141 : Int) (xPrev142 : Int) (xAtT143 : Int) (xAtW144 : Int) (xEpoch145 : Int) (xBody146a : Option Addr) (xBody146n : Nat) (xBody146c : Nat) (xSig147 : Int), cellsAt ww139 (blk w.heap.size) [.int .i64 xWriter140, .int .i64 xIndex141, .int .u64 xPrev142, .int .i64 xAtT143, .int .i64 xAtW144, .int .i64 xEpoch145, .slice xBody146a xBody146n xBody146c, .int .u64 xSig147] 0 ∧
  ∃ (xWriter148 : Int) (xIndex149 : Int) (xPrev150 : Int) (xAtT151 : Int) (xAtW152 : Int) (xEpoch153 : Int) (xBody154a : Option Addr) (xBody154n : Nat) (xBody154c : Nat) (xSig155 : Int), cellsAt ww139 (blk w.heap.size) [.int .i64 xWriter148, .int .i64 xIndex149, .int .u64 xPrev150, .int .i64 xAtT151, .int .i64 xAtW152, .int .i64 xEpoch153, .slice xBody154a xBody154n xBody154c, .int .u64 xSig155] 0 ∧
  Calls Try.prog 11 #[.agg #[.int .i64 xWriter140, .int .i64 xIndex141, .int .u64 xPrev142, .int .i64 xAtT143, .int .i64 xAtW144, .int .i64 xEpoch145, .slice xBody146a xBody146n xBody146c, .int .u64 xSig147]] ww139 fun ee157 ww158 => ∃ (right156 : Bool), ee157 = .returned (.bool right156) ∧
  cellsAt ww158 (blk w.heap.size) [.int .i64 xWriter148, .int .i64 xIndex149, .int .u64 xPrev150, .int .i64 xAtT151, .int .i64 xAtW152, .int .i64 xEpoch153, .slice xBody154a xBody154n xBody154c, .int .u64 xSig155] 0 ∧
  Calls Try.prog 19 #[.agg #[.int .i64 xWriter148, .int .i64 xIndex149, .int .u64 xPrev150, .int .i64 xAtT151, .int .i64 xAtW152, .int .i64 xEpoch153, .slice xBody154a xBody154n xBody154c, .int .u64 xSig155]] ww158 fun ee160 ww161 => ∃ (right159 : Bool), ee160 = .returned (.bool right159) ∧
  bif right156 == right159 then (
  Calls Try.prog 14 #[.slice text59a text59n text59c, .slice text71a text71n text71c] ww161 fun ee163 ww164 => ∃ (same162 : Bool), ee163 = .returned (.bool same162) ∧
  bif same162 then (
  bif text60 == text72 then (
  Calls Try.prog 14 #[.slice bytes83a bytes83n bytes83c, .slice bytes95a bytes95n bytes95c] ww164 fun ee166 ww167 => ∃ (same165 : Bool), ee166 = .returned (.bool same165) ∧
  bif same165 then (
  bif bytes84 == bytes96 then (
  ∃ (xWriter168 : Int) (xIndex169 : Int) (xPrev170 : Int) (xAtT171 : Int) (xAtW172 : Int) (xEpoch173 : Int) (xBody174a : Option Addr) (xBody174n : Nat) (xBody174c : Nat) (xSig175 : Int), cellsAt ww167 (blk ww109.heap.size) [.int .i64 xWriter168, .int .i64 xIndex169, .int .u64 xPrev170, .int .i64 xAtT171, .int .i64 xAtW172, .int .i64 xEpoch173, .slice xBody174a xBody174n xBody174c, .int .u64 xSig175] 0 ∧
  ∃ (xWriter176 : Int) (xIndex177 : Int) (xPrev178 : Int) (xAtT179 : Int) (xAtW180 : Int) (xEpoch181 : Int) (xBody182a : Option Addr) (xBody182n : Nat) (xBody182c : Nat) (xSig183 : Int), cellsAt ww167 (blk ww129.heap.size) [.int .i64 xWriter176, .int .i64 xIndex177, .int .u64 xPrev178, .int .i64 xAtT179, .int .i64 xAtW180, .int .i64 xEpoch181, .slice xBody182a xBody182n xBody182c, .int .u64 xSig183] 0 ∧
  Calls Try.prog 20 #[.agg #[.int .i64 xWriter168, .int .i64 xIndex169, .int .u64 xPrev170, .int .i64 xAtT171, .int .i64 xAtW172, .int .i64 xEpoch173, .slice xBody174a xBody174n xBody174c, .int .u64 xSig175], .agg #[.int .i64 xWriter176, .int .i64 xIndex177, .int .u64 xPrev178, .int .i64 xAtT179, .int .i64 xAtW180, .int .i64 xEpoch181, .slice xBody182a xBody182n xBody182c, .int .u64 xSig183]] ww167 fun ee185 ww186 => ∃ (same184 : Bool), ee185 = .returned (.bool same184) ∧
  bif same184 then (
  bif read107 == read127 then (
  ∃ (Writer187 : Int), ww186.cell? ((blk w.heap.size).add 0) = some (.int .i64 Writer187) ∧
  ∃ (Index188 : Int), ww186.cell? ((blk w.heap.size).add 1) = some (.int .i64 Index188) ∧
  ∃ (Epoch189 : Int), ww186.cell? ((blk w.heap.size).add 5) = some (.int .i64 Epoch189) ∧
  ∃ (Writer190 : Int), ww186.cell? ((blk w.heap.size).add 0) = some (.int .i64 Writer190) ∧
  ∃ (Index191 : Int), ww186.cell? ((blk w.heap.size).add 1) = some (.int .i64 Index191) ∧
  ∃ (Epoch192 : Int), ww186.cell? ((blk w.heap.size).add 5) = some (.int .i64 Epoch192) ∧
  Calls Try.prog 21 #[.int .i64 Writer187, .int .i64 Index188, .int .i64 Epoch189] ww186 fun ee194 ww195 => ∃ (bound193a : Option Addr) (bound193n : Nat) (bound193c : Nat), ee194 = .returned (.slice bound193a bound193n bound193c) ∧
  ww195.cell? ((blk w.heap.size).add 5) = some (.int .i64 Epoch192) ∧
  ww195.cell? ((blk w.heap.size).add 1) = some (.int .i64 Index191) ∧
  ww195.cell? ((blk w.heap.size).add 0) = some (.int .i64 Writer190) ∧
  Calls Try.prog 22 #[.int .i64 Writer190, .int .i64 Index191, .int .i64 Epoch192] ww195 fun ee197 ww198 => ∃ (bound196a : Option Addr) (bound196n : Nat) (bound196c : Nat), ee197 = .returned (.slice bound196a bound196n bound196c) ∧
  Calls Try.prog 14 #[.slice bound193a bound193n bound193c, .slice bound196a bound196n bound196c] ww198 fun ee200 ww201 => ∃ (same199 : Bool), ee200 = .returned (.bool same199) ∧
  bif same199 then (
  ∃ (xWriter202 : Int) (xIndex203 : Int) (xPrev204 : Int) (xAtT205 : Int) (xAtW206 : Int) (xEpoch207 : Int) (xBody208a : Option Addr) (xBody208n : Nat) (xBody208c : Nat) (xSig209 : Int), cellsAt ww201 (blk w.heap.size) [.int .i64 xWriter202, .int .i64 xIndex203, .int .u64 xPrev204, .int .i64 xAtT205, .int .i64 xAtW206, .int .i64 xEpoch207, .slice xBody208a xBody208n xBody208c, .int .u64 xSig209] 0 ∧
  ∃ (xWriter210 : Int) (xIndex211 : Int) (xPrev212 : Int) (xAtT213 : Int) (xAtW214 : Int) (xEpoch215 : Int) (xBody216a : Option Addr) (xBody216n : Nat) (xBody216c : Nat) (xSig217 : Int), cellsAt ww201 (blk ww18.heap.size) [.int .i64 xWriter210, .int .i64 xIndex211, .int .u64 xPrev212, .int .i64 xAtT213, .int .i64 xAtW214, .int .i64 xEpoch215, .slice xBody216a xBody216n xBody216c, .int .u64 xSig217] 0 ∧
  ∃ (xWriter218 : Int) (xIndex219 : Int) (xPrev220 : Int) (xAtT221 : Int) (xAtW222 : Int) (xEpoch223 : Int) (xBody224a : Option Addr) (xBody224n : Nat) (xBody224c : Nat) (xSig225 : Int), cellsAt ww201 (blk w.heap.size) [.int .i64 xWriter218, .int .i64 xIndex219, .int .u64 xPrev220, .int .i64 xAtT221, .int .i64 xAtW222, .int .i64 xEpoch223, .slice xBody224a xBody224n xBody224c, .int .u64 xSig225] 0 ∧
  ∃ (xWriter226 : Int) (xIndex227 : Int) (xPrev228 : Int) (xAtT229 : Int) (xAtW230 : Int) (xEpoch231 : Int) (xBody232a : Option Addr) (xBody232n : Nat) (xBody232c : Nat) (xSig233 : Int), cellsAt ww201 (blk ww18.heap.size) [.int .i64 xWriter226, .int .i64 xIndex227, .int .u64 xPrev228, .int .i64 xAtT229, .int .i64 xAtW230, .int .i64 xEpoch231, .slice xBody232a xBody232n xBody232c, .int .u64 xSig233] 0 ∧
  Calls Try.prog 13 #[.agg #[.int .i64 xWriter202, .int .i64 xIndex203, .int .u64 xPrev204, .int .i64 xAtT205, .int .i64 xAtW206, .int .i64 xEpoch207, .slice xBody208a xBody208n xBody208c, .int .u64 xSig209], .agg #[.int .i64 xWriter210, .int .i64 xIndex211, .int .u64 xPrev212, .int .i64 xAtT213, .int .i64 xAtW214, .int .i64 xEpoch215, .slice xBody216a xBody216n xBody216c, .int .u64 xSig217]] ww201 fun ee235 ww236 => ∃ (same234 : Bool), ee235 = .returned (.bool same234) ∧
  cellsAt ww236 (blk ww18.heap.size) [.int .i64 xWriter226, .int .i64 xIndex227, .int .u64 xPrev228, .int .i64 xAtT229, .int .i64 xAtW230, .int .i64 xEpoch231, .slice xBody232a xBody232n xBody232c, .int .u64 xSig233] 0 ∧
  cellsAt ww236 (blk w.heap.size) [.int .i64 xWriter218, .int .i64 xIndex219, .int .u64 xPrev220, .int .i64 xAtT221, .int .i64 xAtW222, .int .i64 xEpoch223, .slice xBody224a xBody224n xBody224c, .int .u64 xSig225] 0 ∧
  Calls Try.prog 20 #[.agg #[.int .i64 xWriter218, .int .i64 xIndex219, .int .u64 xPrev220, .int .i64 xAtT221, .int .i64 xAtW222, .int .i64 xEpoch223, .slice xBody224a xBody224n xBody224c, .int .u64 xSig225], .agg #[.int .i64 xWriter226, .int .i64 xIndex227, .int .u64 xPrev228, .int .i64 xAtT229, .int .i64 xAtW230, .int .i64 xEpoch231, .slice xBody232a xBody232n xBody232c, .int .u64 xSig233]] ww236 fun ee238 ww239 => ∃ (same237 : Bool), ee238 = .returned (.bool same237) ∧
  bif same234 == same237 then (
  Calls Try.prog 9 #[] ww239 fun ee241 ww242 => ∃ (alive240 : Bool), ee241 = .returned (.bool alive240) ∧
  R (.bool alive240) ww242) else (
  R (.bool false) ww239)) else (
  R (.bool false) ww201)) else (
  R (.bool false) ww186)) else (
  R (.bool false) ww186)) else (
  R (.bool false) ww167)) else (
  R (.bool false) ww167)) else (
  R (.bool false) ww164)) else (
  R (.bool false) ww164)) else (
  R (.bool false) ww161))))

theorem cachettelaw06_EntryForms.eq (eWriter1 : Int) (eIndex2 : Int) (ePrev3 : Int) (eAtT4 : Int) (eAtW5 : Int) (eEpoch6 : Int) (eBody7a : Option Addr) (eBody7n : Nat) (eBody7c : Nat) (eSig8 : Int) (fWriter9 : Int) (fIndex10 : Int) (fPrev11 : Int) (fAtT12 : Int) (fAtW13 : Int) (fEpoch14 : Int) (fBody15a : Option Addr) (fBody15n : Nat) (fBody15c : Nat) (fSig16 : Int) (b17a : Option Addr) (b17n : Nat) (b17c : Nat) (R : Value → World → Prop) (w : World) : mfunc Try.prog [] 4 [.agg #[.int .i64 eWriter1, .int .i64 eIndex2, .int .u64 ePrev3, .int .i64 eAtT4, .int .i64 eAtW5, .int .i64 eEpoch6, .slice eBody7a eBody7n eBody7c, .int .u64 eSig8], .agg #[.int .i64 fWriter9, .int .i64 fIndex10, .int .u64 fPrev11, .int .i64 fAtT12, .int .i64 fAtW13, .int .i64 fEpoch14, .slice fBody15a fBody15n fBody15c, .int .u64 fSig16], .slice b17a b17n b17c] R w = cachettelaw06_EntryForms.M eWriter1 eIndex2 ePrev3 eAtT4 eAtW5 eEpoch6 eBody7a eBody7n eBody7c eSig8 fWriter9 fIndex10 fPrev11 fAtT12 fAtW13 fEpoch14 fBody15a fBody15n fBody15c fSig16 b17a b17n b17c R w := by kernel_rfl
theorem cachettelaw06_EntryForms.ok (eWriter1 : Int) (eIndex2 : Int) (ePrev3 : Int) (eAtT4 : Int) (eAtW5 : Int) (eEpoch6 : Int) (eBody7a : Option Addr) (eBody7n : Nat) (eBody7c : Nat) (eSig8 : Int) (fWriter9 : Int) (fIndex10 : Int) (fPrev11 : Int) (fAtT12 : Int) (fAtW13 : Int) (fEpoch14 : Int) (fBody15a : Option Addr) (fBody15n : Nat) (fBody15c : Nat) (fSig16 : Int) (b17a : Option Addr) (b17n : Nat) (b17c : Nat) {R : Value → World → Prop} {w : World} (h : cachettelaw06_EntryForms.M eWriter1 eIndex2 ePrev3 eAtT4 eAtW5 eEpoch6 eBody7a eBody7n eBody7c eSig8 fWriter9 fIndex10 fPrev11 fAtT12 fAtW13 fEpoch14 fBody15a fBody15n fBody15c fSig16 b17a b17n b17c R w) : Calls Try.prog 4 #[.agg #[.int .i64 eWriter1, .int .i64 eIndex2, .int .u64 ePrev3, .int .i64 eAtT4, .int .i64 eAtW5, .int .i64 eEpoch6, .slice eBody7a eBody7n eBody7c, .int .u64 eSig8], .agg #[.int .i64 fWriter9, .int .i64 fIndex10, .int .u64 fPrev11, .int .i64 fAtT12, .int .i64 fAtW13, .int .i64 fEpoch14, .slice fBody15a fBody15n fBody15c, .int .u64 fSig16], .slice b17a b17n b17c] w fun e w' => ∃ v, e = .returned v ∧ R v w' :=
  mfunc_ok follows (H := []) (args := [.agg #[.int .i64 eWriter1, .int .i64 eIndex2, .int .u64 ePrev3, .int .i64 eAtT4, .int .i64 eAtW5, .int .i64 eEpoch6, .slice eBody7a eBody7n eBody7c, .int .u64 eSig8], .agg #[.int .i64 fWriter9, .int .i64 fIndex10, .int .u64 fPrev11, .int .i64 fAtT12, .int .i64 fAtW13, .int .i64 fEpoch14, .slice fBody15a fBody15n fBody15c, .int .u64 fSig16], .slice b17a b17n b17c]) (by rw [cachettelaw06_EntryForms.eq]; exact h)

def cachettelaw06_EntryForms.N (eWriter1 : Int) (eIndex2 : Int) (ePrev3 : Int) (eAtT4 : Int) (eAtW5 : Int) (eEpoch6 : Int) (eBody7a : Option Addr) (eBody7n : Nat) (eBody7c : Nat) (eSig8 : Int) (fWriter9 : Int) (fIndex10 : Int) (fPrev11 : Int) (fAtT12 : Int) (fAtW13 : Int) (fEpoch14 : Int) (fBody15a : Option Addr) (fBody15n : Nat) (fBody15c : Nat) (fSig16 : Int) (b17a : Option Addr) (b17n : Nat) (b17c : Nat) (R : Value → World → Prop) (w : World) : Prop :=
  ((cachettelaw06_light.F eWriter1 eIndex2 ePrev3 eAtT4 eAtW5 eEpoch6 eBody7a eBody7n eBody7c eSig8) = false →
    ∀ (ww20 : World), Ext no w ww20 →
    Calls Try.prog 9 #[] ww20 fun ee25 ww26 => ∃ (alive24 : Bool), ee25 = .returned (.bool alive24) ∧
    R (.bool alive24) ww26) ∧
  ((cachettelaw06_light.F eWriter1 eIndex2 ePrev3 eAtT4 eAtW5 eEpoch6 eBody7a eBody7n eBody7c eSig8) = true →
    ((cachettelaw06_light.F fWriter9 fIndex10 fPrev11 fAtT12 fAtW13 fEpoch14 fBody15a fBody15n fBody15c fSig16) = false →
      ∀ (ww27 : World), Ext no w ww27 →
      Calls Try.prog 9 #[] ww27 fun ee32 ww33 => ∃ (alive31 : Bool), ee32 = .returned (.bool alive31) ∧
      R (.bool alive31) ww33) ∧
    ((cachettelaw06_light.F fWriter9 fIndex10 fPrev11 fAtT12 fAtW13 fEpoch14 fBody15a fBody15n fBody15c fSig16) = true →
      ((b17n : Int) > 1500 →
        ∀ (ww27 : World), Ext no w ww27 →
        Calls Try.prog 9 #[] ww27 fun ee38 ww39 => ∃ (alive37 : Bool), ee38 = .returned (.bool alive37) ∧
        R (.bool alive37) ww39) ∧
      ((b17n : Int) ≤ 1500 →
        ∀ (ww27 : World) (p40 : Nat) (p41 : Nat), Ext no w ww27 → Priv w ww27 [p40, p41] →
        Calls Try.prog 15 #[.agg #[.int .i64 eWriter1, .int .i64 eIndex2, .int .u64 ePrev3, .int .i64 eAtT4, .int .i64 eAtW5, .int .i64 eEpoch6, .slice eBody7a eBody7n eBody7c, .int .u64 eSig8]] ww27 fun ee44 ww45 => ∃ (text42a : Option Addr) (text42n : Nat) (text42c : Nat) (text43 : Int), ee44 = .returned (.tuple #[.slice text42a text42n text42c, .int .i64 text43]) ∧
        Keep [p40, p41] ww27 ww45 ∧
        Calls Try.prog 16 #[.agg #[.int .i64 eWriter1, .int .i64 eIndex2, .int .u64 ePrev3, .int .i64 eAtT4, .int .i64 eAtW5, .int .i64 eEpoch6, .slice eBody7a eBody7n eBody7c, .int .u64 eSig8]] ww45 fun ee48 ww49 => ∃ (text46a : Option Addr) (text46n : Nat) (text46c : Nat) (text47 : Int), ee48 = .returned (.tuple #[.slice text46a text46n text46c, .int .i64 text47]) ∧
        Keep [p40, p41] ww45 ww49 ∧
        Calls Try.prog 10 #[.agg #[.int .i64 eWriter1, .int .i64 eIndex2, .int .u64 ePrev3, .int .i64 eAtT4, .int .i64 eAtW5, .int .i64 eEpoch6, .slice eBody7a eBody7n eBody7c, .int .u64 eSig8]] ww49 fun ee52 ww53 => ∃ (bytes50a : Option Addr) (bytes50n : Nat) (bytes50c : Nat) (bytes51 : Int), ee52 = .returned (.tuple #[.slice bytes50a bytes50n bytes50c, .int .i64 bytes51]) ∧
        Keep [p40, p41] ww49 ww53 ∧
        Calls Try.prog 17 #[.agg #[.int .i64 eWriter1, .int .i64 eIndex2, .int .u64 ePrev3, .int .i64 eAtT4, .int .i64 eAtW5, .int .i64 eEpoch6, .slice eBody7a eBody7n eBody7c, .int .u64 eSig8]] ww53 fun ee56 ww57 => ∃ (bytes54a : Option Addr) (bytes54n : Nat) (bytes54c : Nat) (bytes55 : Int), ee56 = .returned (.tuple #[.slice bytes54a bytes54n bytes54c, .int .i64 bytes55]) ∧
        Keep [p40, p41] ww53 ww57 ∧
        Calls Try.prog 12 #[.slice b17a b17n b17c] ww57 fun ee67 ww68 => ∃ (Writer58 : Int) (Index59 : Int) (Prev60 : Int) (AtT61 : Int) (AtW62 : Int) (Epoch63 : Int) (Body64a : Option Addr) (Body64n : Nat) (Body64c : Nat) (Sig65 : Int) (read66 : Int), ee67 = .returned (.tuple #[.agg #[.int .i64 Writer58, .int .i64 Index59, .int .u64 Prev60, .int .i64 AtT61, .int .i64 AtW62, .int .i64 Epoch63, .slice Body64a Body64n Body64c, .int .u64 Sig65], .int .i64 read66]) ∧
        Keep [p40, p41] ww57 ww68 ∧
        ∀ (ww77 : World) (p78 : Nat), Ext no ww68 ww77 → Priv ww68 ww77 [p78] →
        Calls Try.prog 18 #[.slice b17a b17n b17c] ww77 fun ee88 ww89 => ∃ (Writer79 : Int) (Index80 : Int) (Prev81 : Int) (AtT82 : Int) (AtW83 : Int) (Epoch84 : Int) (Body85a : Option Addr) (Body85n : Nat) (Body85c : Nat) (Sig86 : Int) (read87 : Int), ee88 = .returned (.tuple #[.agg #[.int .i64 Writer79, .int .i64 Index80, .int .u64 Prev81, .int .i64 AtT82, .int .i64 AtW83, .int .i64 Epoch84, .slice Body85a Body85n Body85c, .int .u64 Sig86], .int .i64 read87]) ∧
        Keep [p40, p41, p78] ww77 ww89 ∧
        ((entry_Right.F eWriter1 eIndex2 ePrev3 eAtT4 eAtW5 eEpoch6 eBody7a eBody7n eBody7c eSig8) = (cachetteref06_Right.F eWriter1 eIndex2 ePrev3 eAtT4 eAtW5 eEpoch6 eBody7a eBody7n eBody7c eSig8) →
          ∀ (ww101 : World) (p103 : Nat), Ext no ww89 ww101 → Priv ww89 ww101 [p103] →
          Calls Try.prog 14 #[.slice text42a text42n text42c, .slice text46a text46n text46c] ww101 fun ee105 ww106 => ∃ (same104 : Bool), ee105 = .returned (.bool same104) ∧
          Keep [p40, p41, p78, p103] ww101 ww106 ∧
          (same104 = true →
            (text43 = text47 →
              Calls Try.prog 14 #[.slice bytes50a bytes50n bytes50c, .slice bytes54a bytes54n bytes54c] ww106 fun ee110 ww111 => ∃ (same109 : Bool), ee110 = .returned (.bool same109) ∧
              Keep [p40, p41, p78, p103] ww106 ww111 ∧
              (same109 = true →
                (bytes51 = bytes55 →
                  Calls Try.prog 20 #[.agg #[.int .i64 Writer58, .int .i64 Index59, .int .u64 Prev60, .int .i64 AtT61, .int .i64 AtW62, .int .i64 Epoch63, .slice Body64a Body64n Body64c, .int .u64 Sig65], .agg #[.int .i64 Writer79, .int .i64 Index80, .int .u64 Prev81, .int .i64 AtT82, .int .i64 AtW83, .int .i64 Epoch84, .slice Body85a Body85n Body85c, .int .u64 Sig86]] ww111 fun ee115 ww116 => ∃ (same114 : Bool), ee115 = .returned (.bool same114) ∧
                  Keep [p40, p41] ww111 ww116 ∧
                  (same114 = true →
                    (read66 = read87 →
                      Calls Try.prog 21 #[.int .i64 eWriter1, .int .i64 eIndex2, .int .i64 eEpoch6] ww116 fun ee120 ww121 => ∃ (bound119a : Option Addr) (bound119n : Nat) (bound119c : Nat), ee120 = .returned (.slice bound119a bound119n bound119c) ∧
                      Keep [p40, p41] ww116 ww121 ∧
                      Calls Try.prog 22 #[.int .i64 eWriter1, .int .i64 eIndex2, .int .i64 eEpoch6] ww121 fun ee123 ww124 => ∃ (bound122a : Option Addr) (bound122n : Nat) (bound122c : Nat), ee123 = .returned (.slice bound122a bound122n bound122c) ∧
                      Keep [p40, p41] ww121 ww124 ∧
                      Calls Try.prog 14 #[.slice bound119a bound119n bound119c, .slice bound122a bound122n bound122c] ww124 fun ee126 ww127 => ∃ (same125 : Bool), ee126 = .returned (.bool same125) ∧
                      Keep [p40, p41] ww124 ww127 ∧
                      (same125 = true →
                        Calls Try.prog 13 #[.agg #[.int .i64 eWriter1, .int .i64 eIndex2, .int .u64 ePrev3, .int .i64 eAtT4, .int .i64 eAtW5, .int .i64 eEpoch6, .slice eBody7a eBody7n eBody7c, .int .u64 eSig8], .agg #[.int .i64 fWriter9, .int .i64 fIndex10, .int .u64 fPrev11, .int .i64 fAtT12, .int .i64 fAtW13, .int .i64 fEpoch14, .slice fBody15a fBody15n fBody15c, .int .u64 fSig16]] ww127 fun ee130 ww131 => ∃ (same129 : Bool), ee130 = .returned (.bool same129) ∧
                        Keep [p40, p41] ww127 ww131 ∧
                        Calls Try.prog 20 #[.agg #[.int .i64 eWriter1, .int .i64 eIndex2, .int .u64 ePrev3, .int .i64 eAtT4, .int .i64 eAtW5, .int .i64 eEpoch6, .slice eBody7a eBody7n eBody7c, .int .u64 eSig8], .agg #[.int .i64 fWriter9, .int .i64 fIndex10, .int .u64 fPrev11, .int .i64 fAtT12, .int .i64 fAtW13, .int .i64 fEpoch14, .slice fBody15a fBody15n fBody15c, .int .u64 fSig16]] ww131 fun ee133 ww134 => ∃ (same132 : Bool), ee133 = .returned (.bool same132) ∧
                        (same129 = same132 →
                          Calls Try.prog 9 #[] ww134 fun ee137 ww138 => ∃ (alive136 : Bool), ee137 = .returned (.bool alive136) ∧
                          R (.bool alive136) ww138) ∧
                        (same129 ≠ same132 →
                          R (.bool false) ww134)) ∧
                      (same125 = false →
                        R (.bool false) ww127)) ∧
                    (read66 ≠ read87 →
                      R (.bool false) ww116)) ∧
                  (same114 = false →
                    R (.bool false) ww116)) ∧
                (bytes51 ≠ bytes55 →
                  R (.bool false) ww111)) ∧
              (same109 = false →
                R (.bool false) ww111)) ∧
            (text43 ≠ text47 →
              R (.bool false) ww106)) ∧
          (same104 = false →
            R (.bool false) ww106)) ∧
        ((entry_Right.F eWriter1 eIndex2 ePrev3 eAtT4 eAtW5 eEpoch6 eBody7a eBody7n eBody7c eSig8) ≠ (cachetteref06_Right.F eWriter1 eIndex2 ePrev3 eAtT4 eAtW5 eEpoch6 eBody7a eBody7n eBody7c eSig8) →
          ∀ (ww101 : World), Ext no ww89 ww101 →
          R (.bool false) ww101))))

theorem cachettelaw06_EntryForms.up (eWriter1 : Int) (eIndex2 : Int) (ePrev3 : Int) (eAtT4 : Int) (eAtW5 : Int) (eEpoch6 : Int) (eBody7a : Option Addr) (eBody7n : Nat) (eBody7c : Nat) (eSig8 : Int) (fWriter9 : Int) (fIndex10 : Int) (fPrev11 : Int) (fAtT12 : Int) (fAtW13 : Int) (fEpoch14 : Int) (fBody15a : Option Addr) (fBody15n : Nat) (fBody15c : Nat) (fSig16 : Int) (b17a : Option Addr) (b17n : Nat) (b17c : Nat) {R : Value → World → Prop} {w : World} (h : cachettelaw06_EntryForms.N eWriter1 eIndex2 ePrev3 eAtT4 eAtW5 eEpoch6 eBody7a eBody7n eBody7c eSig8 fWriter9 fIndex10 fPrev11 fAtT12 fAtW13 fEpoch14 fBody15a fBody15n fBody15c fSig16 b17a b17n b17c R w) : cachettelaw06_EntryForms.M eWriter1 eIndex2 ePrev3 eAtT4 eAtW5 eEpoch6 eBody7a eBody7n eBody7c eSig8 fWriter9 fIndex10 fPrev11 fAtT12 fAtW13 fEpoch14 fBody15a fBody15n fBody15c fSig16 b17a b17n b17c R w := by
  unfold cachettelaw06_EntryForms.M
  unfold cachettelaw06_EntryForms.N at h
  refine thenW_in fun ww18 e18 => ?_
  have hb1 := Blk.of_new e18
  have hg1 := ((Ext.refl no w)).size
  have hx18 := (Ext.refl no w).x_alloc e18
  refine thenW_in fun ww19 e19 => ?_
  have hb2 := Blk.of_new e19
  have hg2 := (hx18).size
  have hb1_2 := Nat.ne_of_lt hb1.lt
  have hb1 := hb1.x_alloc e19
  have hx19 := hx18.x_alloc e19
  refine ⟨eWriter1, eIndex2, ePrev3, eAtT4, eAtW5, eEpoch6, eBody7a, eBody7n, eBody7c, eSig8, ⟨hb1.celli 0 rfl rfl, hb1.celli 1 rfl rfl, hb1.celli 2 rfl rfl, hb1.celli 3 rfl rfl, hb1.celli 4 rfl rfl, hb1.celli 5 rfl rfl, hb1.celli 6 rfl rfl, hb1.celli 7 rfl rfl, trivial⟩, ?_⟩
  refine (cachettelaw06_light.pure eWriter1 eIndex2 ePrev3 eAtT4 eAtW5 eEpoch6 eBody7a eBody7n eBody7c eSig8).mono fun ee ww20 ⟨he, hxx⟩ => ⟨(cachettelaw06_light.F eWriter1 eIndex2 ePrev3 eAtT4 eAtW5 eEpoch6 eBody7a eBody7n eBody7c eSig8), he, ?_⟩
  have hx20 := hx19.trans hxx
  have hb1 := hb1.ext hxx id
  have hb2 := hb2.ext hxx id
  refine bif_of (fun c21 => ?_) (fun c21 => ?_)
  · have h := h.1 (not_t c21)
    have h := h ww20 hx20
    refine h.mono fun ee25 ww26 h => ?_
    obtain ⟨alive24, he, h⟩ := h
    refine ⟨alive24, he, ?_⟩
    exact h
  · have h := h.2 (not_f c21)
    refine ⟨fWriter9, fIndex10, fPrev11, fAtT12, fAtW13, fEpoch14, fBody15a, fBody15n, fBody15c, fSig16, ⟨hb2.celli 0 rfl rfl, hb2.celli 1 rfl rfl, hb2.celli 2 rfl rfl, hb2.celli 3 rfl rfl, hb2.celli 4 rfl rfl, hb2.celli 5 rfl rfl, hb2.celli 6 rfl rfl, hb2.celli 7 rfl rfl, trivial⟩, ?_⟩
    refine (cachettelaw06_light.pure fWriter9 fIndex10 fPrev11 fAtT12 fAtW13 fEpoch14 fBody15a fBody15n fBody15c fSig16).mono fun ee ww27 ⟨he, hxx⟩ => ⟨(cachettelaw06_light.F fWriter9 fIndex10 fPrev11 fAtT12 fAtW13 fEpoch14 fBody15a fBody15n fBody15c fSig16), he, ?_⟩
    have hx27 := hx20.trans hxx
    have hb1 := hb1.ext hxx id
    have hb2 := hb2.ext hxx id
    refine bif_of (fun c28 => ?_) (fun c28 => ?_)
    · have h := h.1 (not_t c28)
      have h := h ww27 hx27
      refine h.mono fun ee32 ww33 h => ?_
      obtain ⟨alive31, he, h⟩ := h
      refine ⟨alive31, he, ?_⟩
      exact h
    · have h := h.2 (not_f c28)
      refine bif_of (fun c34 => ?_) (fun c34 => ?_)
      · have h := h.1 (of_decide_eq_true c34)
        have h := h ww27 hx27
        refine h.mono fun ee38 ww39 h => ?_
        obtain ⟨alive37, he, h⟩ := h
        refine ⟨alive37, he, ?_⟩
        exact h
      · have h := h.2 (Int.not_lt.1 (of_decide_eq_false c34))
        refine ⟨eWriter1, eIndex2, ePrev3, eAtT4, eAtW5, eEpoch6, eBody7a, eBody7n, eBody7c, eSig8, ⟨hb1.celli 0 rfl rfl, hb1.celli 1 rfl rfl, hb1.celli 2 rfl rfl, hb1.celli 3 rfl rfl, hb1.celli 4 rfl rfl, hb1.celli 5 rfl rfl, hb1.celli 6 rfl rfl, hb1.celli 7 rfl rfl, trivial⟩, ?_⟩
        have h := h ww27 (w.heap.size) (ww18.heap.size) hx27 (Priv.cons hg1 hb1.lt (Priv.cons hg2 hb2.lt Priv.nil))
        refine h.mono fun ee44 ww45 h => ?_
        obtain ⟨text42a, text42n, text42c, text43, he, hk, h⟩ := h
        refine ⟨text42a, text42n, text42c, text43, he, ?_⟩
        have hb1 := hk.blk hb1 (by simp)
        have hb2 := hk.blk hb2 (by simp)
        refine ⟨eWriter1, eIndex2, ePrev3, eAtT4, eAtW5, eEpoch6, eBody7a, eBody7n, eBody7c, eSig8, ⟨hb1.celli 0 rfl rfl, hb1.celli 1 rfl rfl, hb1.celli 2 rfl rfl, hb1.celli 3 rfl rfl, hb1.celli 4 rfl rfl, hb1.celli 5 rfl rfl, hb1.celli 6 rfl rfl, hb1.celli 7 rfl rfl, trivial⟩, ?_⟩
        refine h.mono fun ee48 ww49 h => ?_
        obtain ⟨text46a, text46n, text46c, text47, he, hk, h⟩ := h
        refine ⟨text46a, text46n, text46c, text47, he, ?_⟩
        have hb1 := hk.blk hb1 (by simp)
        have hb2 := hk.blk hb2 (by simp)
        refine ⟨eWriter1, eIndex2, ePrev3, eAtT4, eAtW5, eEpoch6, eBody7a, eBody7n, eBody7c, eSig8, ⟨hb1.celli 0 rfl rfl, hb1.celli 1 rfl rfl, hb1.celli 2 rfl rfl, hb1.celli 3 rfl rfl, hb1.celli 4 rfl rfl, hb1.celli 5 rfl rfl, hb1.celli 6 rfl rfl, hb1.celli 7 rfl rfl, trivial⟩, ?_⟩
        refine h.mono fun ee52 ww53 h => ?_
        obtain ⟨bytes50a, bytes50n, bytes50c, bytes51, he, hk, h⟩ := h
        refine ⟨bytes50a, bytes50n, bytes50c, bytes51, he, ?_⟩
        have hb1 := hk.blk hb1 (by simp)
        have hb2 := hk.blk hb2 (by simp)
        refine ⟨eWriter1, eIndex2, ePrev3, eAtT4, eAtW5, eEpoch6, eBody7a, eBody7n, eBody7c, eSig8, ⟨hb1.celli 0 rfl rfl, hb1.celli 1 rfl rfl, hb1.celli 2 rfl rfl, hb1.celli 3 rfl rfl, hb1.celli 4 rfl rfl, hb1.celli 5 rfl rfl, hb1.celli 6 rfl rfl, hb1.celli 7 rfl rfl, trivial⟩, ?_⟩
        refine h.mono fun ee56 ww57 h => ?_
        obtain ⟨bytes54a, bytes54n, bytes54c, bytes55, he, hk, h⟩ := h
        refine ⟨bytes54a, bytes54n, bytes54c, bytes55, he, ?_⟩
        have hb1 := hk.blk hb1 (by simp)
        have hb2 := hk.blk hb2 (by simp)
        refine h.mono fun ee67 ww68 h => ?_
        obtain ⟨Writer58, Index59, Prev60, AtT61, AtW62, Epoch63, Body64a, Body64n, Body64c, Sig65, read66, he, hk, h⟩ := h
        refine ⟨Writer58, Index59, Prev60, AtT61, AtW62, Epoch63, Body64a, Body64n, Body64c, Sig65, read66, he, ?_⟩
        have hb1 := hk.blk hb1 (by simp)
        have hb2 := hk.blk hb2 (by simp)
        refine thenW_in fun ww69 e69 => ?_
        have hb3 := Blk.of_new e69
        have hg3 := ((Ext.refl no ww68)).size
        have hb1_3 := Nat.ne_of_lt hb1.lt
        have hb1 := hb1.x_alloc e69
        have hb2_3 := Nat.ne_of_lt hb2.lt
        have hb2 := hb2.x_alloc e69
        have hx69 := (Ext.refl no ww68).x_alloc e69
        refine ⟨hb3.cani 0 rfl rfl, thenW_in fun ww70 e70 => ?_⟩
        have hx70 := hx69.x_set (q := ww68.heap.size) (i := 0) rfl (.inr hg3) e70
        have hb1 := hb1.oth (q := ww68.heap.size) (i := 0) rfl hb1_3 e70
        have hb2 := hb2.oth (q := ww68.heap.size) (i := 0) rfl hb2_3 e70
        have hb3 := hb3.seti 0 rfl e70
        refine ⟨hb3.cani 1 rfl rfl, thenW_in fun ww71 e71 => ?_⟩
        have hx71 := hx70.x_set (q := ww68.heap.size) (i := 1) rfl (.inr hg3) e71
        have hb1 := hb1.oth (q := ww68.heap.size) (i := 1) rfl hb1_3 e71
        have hb2 := hb2.oth (q := ww68.heap.size) (i := 1) rfl hb2_3 e71
        have hb3 := hb3.seti 1 rfl e71
        refine ⟨hb3.cani 2 rfl rfl, thenW_in fun ww72 e72 => ?_⟩
        have hx72 := hx71.x_set (q := ww68.heap.size) (i := 2) rfl (.inr hg3) e72
        have hb1 := hb1.oth (q := ww68.heap.size) (i := 2) rfl hb1_3 e72
        have hb2 := hb2.oth (q := ww68.heap.size) (i := 2) rfl hb2_3 e72
        have hb3 := hb3.seti 2 rfl e72
        refine ⟨hb3.cani 3 rfl rfl, thenW_in fun ww73 e73 => ?_⟩
        have hx73 := hx72.x_set (q := ww68.heap.size) (i := 3) rfl (.inr hg3) e73
        have hb1 := hb1.oth (q := ww68.heap.size) (i := 3) rfl hb1_3 e73
        have hb2 := hb2.oth (q := ww68.heap.size) (i := 3) rfl hb2_3 e73
        have hb3 := hb3.seti 3 rfl e73
        refine ⟨hb3.cani 4 rfl rfl, thenW_in fun ww74 e74 => ?_⟩
        have hx74 := hx73.x_set (q := ww68.heap.size) (i := 4) rfl (.inr hg3) e74
        have hb1 := hb1.oth (q := ww68.heap.size) (i := 4) rfl hb1_3 e74
        have hb2 := hb2.oth (q := ww68.heap.size) (i := 4) rfl hb2_3 e74
        have hb3 := hb3.seti 4 rfl e74
        refine ⟨hb3.cani 5 rfl rfl, thenW_in fun ww75 e75 => ?_⟩
        have hx75 := hx74.x_set (q := ww68.heap.size) (i := 5) rfl (.inr hg3) e75
        have hb1 := hb1.oth (q := ww68.heap.size) (i := 5) rfl hb1_3 e75
        have hb2 := hb2.oth (q := ww68.heap.size) (i := 5) rfl hb2_3 e75
        have hb3 := hb3.seti 5 rfl e75
        refine ⟨hb3.cani 6 rfl rfl, thenW_in fun ww76 e76 => ?_⟩
        have hx76 := hx75.x_set (q := ww68.heap.size) (i := 6) rfl (.inr hg3) e76
        have hb1 := hb1.oth (q := ww68.heap.size) (i := 6) rfl hb1_3 e76
        have hb2 := hb2.oth (q := ww68.heap.size) (i := 6) rfl hb2_3 e76
        have hb3 := hb3.seti 6 rfl e76
        refine ⟨hb3.cani 7 rfl rfl, thenW_in fun ww77 e77 => ?_⟩
        have hx77 := hx76.x_set (q := ww68.heap.size) (i := 7) rfl (.inr hg3) e77
        have hb1 := hb1.oth (q := ww68.heap.size) (i := 7) rfl hb1_3 e77
        have hb2 := hb2.oth (q := ww68.heap.size) (i := 7) rfl hb2_3 e77
        have hb3 := hb3.seti 7 rfl e77
        have h := h ww77 (ww68.heap.size) hx77 (Priv.cons hg3 hb3.lt Priv.nil)
        refine h.mono fun ee88 ww89 h => ?_
        obtain ⟨Writer79, Index80, Prev81, AtT82, AtW83, Epoch84, Body85a, Body85n, Body85c, Sig86, read87, he, hk, h⟩ := h
        refine ⟨Writer79, Index80, Prev81, AtT82, AtW83, Epoch84, Body85a, Body85n, Body85c, Sig86, read87, he, ?_⟩
        have hb1 := hk.blk hb1 (by simp)
        have hb2 := hk.blk hb2 (by simp)
        have hb3 := hk.blk hb3 (by simp)
        refine thenW_in fun ww90 e90 => ?_
        have hb4 := Blk.of_new e90
        have hg4 := ((Ext.refl no ww89)).size
        have hb1_4 := Nat.ne_of_lt hb1.lt
        have hb1 := hb1.x_alloc e90
        have hb2_4 := Nat.ne_of_lt hb2.lt
        have hb2 := hb2.x_alloc e90
        have hb3_4 := Nat.ne_of_lt hb3.lt
        have hb3 := hb3.x_alloc e90
        have hx90 := (Ext.refl no ww89).x_alloc e90
        refine ⟨hb4.cani 0 rfl rfl, thenW_in fun ww91 e91 => ?_⟩
        have hx91 := hx90.x_set (q := ww89.heap.size) (i := 0) rfl (.inr hg4) e91
        have hb1 := hb1.oth (q := ww89.heap.size) (i := 0) rfl hb1_4 e91
        have hb2 := hb2.oth (q := ww89.heap.size) (i := 0) rfl hb2_4 e91
        have hb3 := hb3.oth (q := ww89.heap.size) (i := 0) rfl hb3_4 e91
        have hb4 := hb4.seti 0 rfl e91
        refine ⟨hb4.cani 1 rfl rfl, thenW_in fun ww92 e92 => ?_⟩
        have hx92 := hx91.x_set (q := ww89.heap.size) (i := 1) rfl (.inr hg4) e92
        have hb1 := hb1.oth (q := ww89.heap.size) (i := 1) rfl hb1_4 e92
        have hb2 := hb2.oth (q := ww89.heap.size) (i := 1) rfl hb2_4 e92
        have hb3 := hb3.oth (q := ww89.heap.size) (i := 1) rfl hb3_4 e92
        have hb4 := hb4.seti 1 rfl e92
        refine ⟨hb4.cani 2 rfl rfl, thenW_in fun ww93 e93 => ?_⟩
        have hx93 := hx92.x_set (q := ww89.heap.size) (i := 2) rfl (.inr hg4) e93
        have hb1 := hb1.oth (q := ww89.heap.size) (i := 2) rfl hb1_4 e93
        have hb2 := hb2.oth (q := ww89.heap.size) (i := 2) rfl hb2_4 e93
        have hb3 := hb3.oth (q := ww89.heap.size) (i := 2) rfl hb3_4 e93
        have hb4 := hb4.seti 2 rfl e93
        refine ⟨hb4.cani 3 rfl rfl, thenW_in fun ww94 e94 => ?_⟩
        have hx94 := hx93.x_set (q := ww89.heap.size) (i := 3) rfl (.inr hg4) e94
        have hb1 := hb1.oth (q := ww89.heap.size) (i := 3) rfl hb1_4 e94
        have hb2 := hb2.oth (q := ww89.heap.size) (i := 3) rfl hb2_4 e94
        have hb3 := hb3.oth (q := ww89.heap.size) (i := 3) rfl hb3_4 e94
        have hb4 := hb4.seti 3 rfl e94
        refine ⟨hb4.cani 4 rfl rfl, thenW_in fun ww95 e95 => ?_⟩
        have hx95 := hx94.x_set (q := ww89.heap.size) (i := 4) rfl (.inr hg4) e95
        have hb1 := hb1.oth (q := ww89.heap.size) (i := 4) rfl hb1_4 e95
        have hb2 := hb2.oth (q := ww89.heap.size) (i := 4) rfl hb2_4 e95
        have hb3 := hb3.oth (q := ww89.heap.size) (i := 4) rfl hb3_4 e95
        have hb4 := hb4.seti 4 rfl e95
        refine ⟨hb4.cani 5 rfl rfl, thenW_in fun ww96 e96 => ?_⟩
        have hx96 := hx95.x_set (q := ww89.heap.size) (i := 5) rfl (.inr hg4) e96
        have hb1 := hb1.oth (q := ww89.heap.size) (i := 5) rfl hb1_4 e96
        have hb2 := hb2.oth (q := ww89.heap.size) (i := 5) rfl hb2_4 e96
        have hb3 := hb3.oth (q := ww89.heap.size) (i := 5) rfl hb3_4 e96
        have hb4 := hb4.seti 5 rfl e96
        refine ⟨hb4.cani 6 rfl rfl, thenW_in fun ww97 e97 => ?_⟩
        have hx97 := hx96.x_set (q := ww89.heap.size) (i := 6) rfl (.inr hg4) e97
        have hb1 := hb1.oth (q := ww89.heap.size) (i := 6) rfl hb1_4 e97
        have hb2 := hb2.oth (q := ww89.heap.size) (i := 6) rfl hb2_4 e97
        have hb3 := hb3.oth (q := ww89.heap.size) (i := 6) rfl hb3_4 e97
        have hb4 := hb4.seti 6 rfl e97
        refine ⟨hb4.cani 7 rfl rfl, thenW_in fun ww98 e98 => ?_⟩
        have hx98 := hx97.x_set (q := ww89.heap.size) (i := 7) rfl (.inr hg4) e98
        have hb1 := hb1.oth (q := ww89.heap.size) (i := 7) rfl hb1_4 e98
        have hb2 := hb2.oth (q := ww89.heap.size) (i := 7) rfl hb2_4 e98
        have hb3 := hb3.oth (q := ww89.heap.size) (i := 7) rfl hb3_4 e98
        have hb4 := hb4.seti 7 rfl e98
        refine thenW_in fun ww99 e99 => ?_
        have hx99 := hx98.x_drew e99
        have hb1 := hb1.x_drew e99
        have hb2 := hb2.x_drew e99
        have hb3 := hb3.x_drew e99
        have hb4 := hb4.x_drew e99
        refine ⟨eWriter1, eIndex2, ePrev3, eAtT4, eAtW5, eEpoch6, eBody7a, eBody7n, eBody7c, eSig8, ⟨hb1.celli 0 rfl rfl, hb1.celli 1 rfl rfl, hb1.celli 2 rfl rfl, hb1.celli 3 rfl rfl, hb1.celli 4 rfl rfl, hb1.celli 5 rfl rfl, hb1.celli 6 rfl rfl, hb1.celli 7 rfl rfl, trivial⟩, ?_⟩
        refine ⟨eWriter1, eIndex2, ePrev3, eAtT4, eAtW5, eEpoch6, eBody7a, eBody7n, eBody7c, eSig8, ⟨hb1.celli 0 rfl rfl, hb1.celli 1 rfl rfl, hb1.celli 2 rfl rfl, hb1.celli 3 rfl rfl, hb1.celli 4 rfl rfl, hb1.celli 5 rfl rfl, hb1.celli 6 rfl rfl, hb1.celli 7 rfl rfl, trivial⟩, ?_⟩
        refine (entry_Right.pure eWriter1 eIndex2 ePrev3 eAtT4 eAtW5 eEpoch6 eBody7a eBody7n eBody7c eSig8).mono fun ee ww100 ⟨he, hxx⟩ => ⟨(entry_Right.F eWriter1 eIndex2 ePrev3 eAtT4 eAtW5 eEpoch6 eBody7a eBody7n eBody7c eSig8), he, ?_⟩
        have hx100 := hx99.trans hxx
        have hb1 := hb1.ext hxx id
        have hb2 := hb2.ext hxx id
        have hb3 := hb3.ext hxx id
        have hb4 := hb4.ext hxx id
        refine ⟨⟨hb1.celli 0 rfl rfl, hb1.celli 1 rfl rfl, hb1.celli 2 rfl rfl, hb1.celli 3 rfl rfl, hb1.celli 4 rfl rfl, hb1.celli 5 rfl rfl, hb1.celli 6 rfl rfl, hb1.celli 7 rfl rfl, trivial⟩, ?_⟩
        refine (cachetteref06_Right.pure eWriter1 eIndex2 ePrev3 eAtT4 eAtW5 eEpoch6 eBody7a eBody7n eBody7c eSig8).mono fun ee ww101 ⟨he, hxx⟩ => ⟨(cachetteref06_Right.F eWriter1 eIndex2 ePrev3 eAtT4 eAtW5 eEpoch6 eBody7a eBody7n eBody7c eSig8), he, ?_⟩
        have hx101 := hx100.trans hxx
        have hb1 := hb1.ext hxx id
        have hb2 := hb2.ext hxx id
        have hb3 := hb3.ext hxx id
        have hb4 := hb4.ext hxx id
        refine bif_of (fun c102 => ?_) (fun c102 => ?_)
        · have h := h.1 (bbeq_t c102)
          have h := h ww101 (ww89.heap.size) hx101 (Priv.cons hg4 hb4.lt Priv.nil)
          refine h.mono fun ee105 ww106 h => ?_
          obtain ⟨same104, he, hk, h⟩ := h
          refine ⟨same104, he, ?_⟩
          have hb1 := hk.blk hb1 (by simp)
          have hb2 := hk.blk hb2 (by simp)
          have hb3 := hk.blk hb3 (by simp)
          have hb4 := hk.blk hb4 (by simp)
          refine bif_of (fun c107 => ?_) (fun c107 => ?_)
          · have h := h.1 c107
            refine bif_of (fun c108 => ?_) (fun c108 => ?_)
            · have h := h.1 (beq_t c108)
              refine h.mono fun ee110 ww111 h => ?_
              obtain ⟨same109, he, hk, h⟩ := h
              refine ⟨same109, he, ?_⟩
              have hb1 := hk.blk hb1 (by simp)
              have hb2 := hk.blk hb2 (by simp)
              have hb3 := hk.blk hb3 (by simp)
              have hb4 := hk.blk hb4 (by simp)
              refine bif_of (fun c112 => ?_) (fun c112 => ?_)
              · have h := h.1 c112
                refine bif_of (fun c113 => ?_) (fun c113 => ?_)
                · have h := h.1 (beq_t c113)
                  refine ⟨Writer58, Index59, Prev60, AtT61, AtW62, Epoch63, Body64a, Body64n, Body64c, Sig65, ⟨hb3.celli 0 rfl rfl, hb3.celli 1 rfl rfl, hb3.celli 2 rfl rfl, hb3.celli 3 rfl rfl, hb3.celli 4 rfl rfl, hb3.celli 5 rfl rfl, hb3.celli 6 rfl rfl, hb3.celli 7 rfl rfl, trivial⟩, ?_⟩
                  refine ⟨Writer79, Index80, Prev81, AtT82, AtW83, Epoch84, Body85a, Body85n, Body85c, Sig86, ⟨hb4.celli 0 rfl rfl, hb4.celli 1 rfl rfl, hb4.celli 2 rfl rfl, hb4.celli 3 rfl rfl, hb4.celli 4 rfl rfl, hb4.celli 5 rfl rfl, hb4.celli 6 rfl rfl, hb4.celli 7 rfl rfl, trivial⟩, ?_⟩
                  refine h.mono fun ee115 ww116 h => ?_
                  obtain ⟨same114, he, hk, h⟩ := h
                  refine ⟨same114, he, ?_⟩
                  have hb1 := hk.blk hb1 (by simp)
                  have hb2 := hk.blk hb2 (by simp)
                  refine bif_of (fun c117 => ?_) (fun c117 => ?_)
                  · have h := h.1 c117
                    refine bif_of (fun c118 => ?_) (fun c118 => ?_)
                    · have h := h.1 (beq_t c118)
                      refine ⟨eWriter1, hb1.celli 0 rfl rfl, ?_⟩
                      refine ⟨eIndex2, hb1.celli 1 rfl rfl, ?_⟩
                      refine ⟨eEpoch6, hb1.celli 5 rfl rfl, ?_⟩
                      refine ⟨eWriter1, hb1.celli 0 rfl rfl, ?_⟩
                      refine ⟨eIndex2, hb1.celli 1 rfl rfl, ?_⟩
                      refine ⟨eEpoch6, hb1.celli 5 rfl rfl, ?_⟩
                      refine h.mono fun ee120 ww121 h => ?_
                      obtain ⟨bound119a, bound119n, bound119c, he, hk, h⟩ := h
                      refine ⟨bound119a, bound119n, bound119c, he, ?_⟩
                      have hb1 := hk.blk hb1 (by simp)
                      have hb2 := hk.blk hb2 (by simp)
                      refine ⟨hb1.celli 5 rfl rfl, hb1.celli 1 rfl rfl, hb1.celli 0 rfl rfl, ?_⟩
                      refine h.mono fun ee123 ww124 h => ?_
                      obtain ⟨bound122a, bound122n, bound122c, he, hk, h⟩ := h
                      refine ⟨bound122a, bound122n, bound122c, he, ?_⟩
                      have hb1 := hk.blk hb1 (by simp)
                      have hb2 := hk.blk hb2 (by simp)
                      refine h.mono fun ee126 ww127 h => ?_
                      obtain ⟨same125, he, hk, h⟩ := h
                      refine ⟨same125, he, ?_⟩
                      have hb1 := hk.blk hb1 (by simp)
                      have hb2 := hk.blk hb2 (by simp)
                      refine bif_of (fun c128 => ?_) (fun c128 => ?_)
                      · have h := h.1 c128
                        refine ⟨eWriter1, eIndex2, ePrev3, eAtT4, eAtW5, eEpoch6, eBody7a, eBody7n, eBody7c, eSig8, ⟨hb1.celli 0 rfl rfl, hb1.celli 1 rfl rfl, hb1.celli 2 rfl rfl, hb1.celli 3 rfl rfl, hb1.celli 4 rfl rfl, hb1.celli 5 rfl rfl, hb1.celli 6 rfl rfl, hb1.celli 7 rfl rfl, trivial⟩, ?_⟩
                        refine ⟨fWriter9, fIndex10, fPrev11, fAtT12, fAtW13, fEpoch14, fBody15a, fBody15n, fBody15c, fSig16, ⟨hb2.celli 0 rfl rfl, hb2.celli 1 rfl rfl, hb2.celli 2 rfl rfl, hb2.celli 3 rfl rfl, hb2.celli 4 rfl rfl, hb2.celli 5 rfl rfl, hb2.celli 6 rfl rfl, hb2.celli 7 rfl rfl, trivial⟩, ?_⟩
                        refine ⟨eWriter1, eIndex2, ePrev3, eAtT4, eAtW5, eEpoch6, eBody7a, eBody7n, eBody7c, eSig8, ⟨hb1.celli 0 rfl rfl, hb1.celli 1 rfl rfl, hb1.celli 2 rfl rfl, hb1.celli 3 rfl rfl, hb1.celli 4 rfl rfl, hb1.celli 5 rfl rfl, hb1.celli 6 rfl rfl, hb1.celli 7 rfl rfl, trivial⟩, ?_⟩
                        refine ⟨fWriter9, fIndex10, fPrev11, fAtT12, fAtW13, fEpoch14, fBody15a, fBody15n, fBody15c, fSig16, ⟨hb2.celli 0 rfl rfl, hb2.celli 1 rfl rfl, hb2.celli 2 rfl rfl, hb2.celli 3 rfl rfl, hb2.celli 4 rfl rfl, hb2.celli 5 rfl rfl, hb2.celli 6 rfl rfl, hb2.celli 7 rfl rfl, trivial⟩, ?_⟩
                        refine h.mono fun ee130 ww131 h => ?_
                        obtain ⟨same129, he, hk, h⟩ := h
                        refine ⟨same129, he, ?_⟩
                        have hb1 := hk.blk hb1 (by simp)
                        have hb2 := hk.blk hb2 (by simp)
                        refine ⟨⟨hb2.celli 0 rfl rfl, hb2.celli 1 rfl rfl, hb2.celli 2 rfl rfl, hb2.celli 3 rfl rfl, hb2.celli 4 rfl rfl, hb2.celli 5 rfl rfl, hb2.celli 6 rfl rfl, hb2.celli 7 rfl rfl, trivial⟩, ⟨hb1.celli 0 rfl rfl, hb1.celli 1 rfl rfl, hb1.celli 2 rfl rfl, hb1.celli 3 rfl rfl, hb1.celli 4 rfl rfl, hb1.celli 5 rfl rfl, hb1.celli 6 rfl rfl, hb1.celli 7 rfl rfl, trivial⟩, ?_⟩
                        refine h.mono fun ee133 ww134 h => ?_
                        obtain ⟨same132, he, h⟩ := h
                        refine ⟨same132, he, ?_⟩
                        refine bif_of (fun c135 => ?_) (fun c135 => ?_)
                        · have h := h.1 (bbeq_t c135)
                          refine h.mono fun ee137 ww138 h => ?_
                          obtain ⟨alive136, he, h⟩ := h
                          refine ⟨alive136, he, ?_⟩
                          exact h
                        · have h := h.2 (bbeq_f c135)
                          exact h
                      · have h := h.2 c128
                        exact h
                    · have h := h.2 (beq_f c118)
                      exact h
                  · have h := h.2 c117
                    exact h
                · have h := h.2 (beq_f c113)
                  exact h
              · have h := h.2 c112
                exact h
            · have h := h.2 (beq_f c108)
              exact h
          · have h := h.2 c107
            exact h
        · have h := h.2 (bbeq_f c102)
          have h := h ww101 hx101
          exact h

theorem cachettelaw06_EntryForms.go (eWriter1 : Int) (eIndex2 : Int) (ePrev3 : Int) (eAtT4 : Int) (eAtW5 : Int) (eEpoch6 : Int) (eBody7a : Option Addr) (eBody7n : Nat) (eBody7c : Nat) (eSig8 : Int) (fWriter9 : Int) (fIndex10 : Int) (fPrev11 : Int) (fAtT12 : Int) (fAtW13 : Int) (fEpoch14 : Int) (fBody15a : Option Addr) (fBody15n : Nat) (fBody15c : Nat) (fSig16 : Int) (b17a : Option Addr) (b17n : Nat) (b17c : Nat) {R : Value → World → Prop} {w : World} (h : cachettelaw06_EntryForms.N eWriter1 eIndex2 ePrev3 eAtT4 eAtW5 eEpoch6 eBody7a eBody7n eBody7c eSig8 fWriter9 fIndex10 fPrev11 fAtT12 fAtW13 fEpoch14 fBody15a fBody15n fBody15c fSig16 b17a b17n b17c R w) : Calls Try.prog 4 #[.agg #[.int .i64 eWriter1, .int .i64 eIndex2, .int .u64 ePrev3, .int .i64 eAtT4, .int .i64 eAtW5, .int .i64 eEpoch6, .slice eBody7a eBody7n eBody7c, .int .u64 eSig8], .agg #[.int .i64 fWriter9, .int .i64 fIndex10, .int .u64 fPrev11, .int .i64 fAtT12, .int .i64 fAtW13, .int .i64 fEpoch14, .slice fBody15a fBody15n fBody15c, .int .u64 fSig16], .slice b17a b17n b17c] w fun e w' => ∃ v, e = .returned v ∧ R v w' := cachettelaw06_EntryForms.ok eWriter1 eIndex2 ePrev3 eAtT4 eAtW5 eEpoch6 eBody7a eBody7n eBody7c eSig8 fWriter9 fIndex10 fPrev11 fAtT12 fAtW13 fEpoch14 fBody15a fBody15n fBody15c fSig16 b17a b17n b17c (cachettelaw06_EntryForms.up eWriter1 eIndex2 ePrev3 eAtT4 eAtW5 eEpoch6 eBody7a eBody7n eBody7c eSig8 fWriter9 fIndex10 fPrev11 fAtT12 fAtW13 fEpoch14 fBody15a fBody15n fBody15c fSig16 b17a b17n b17c h)
theorem cachettelaw06_EntryForms.run (eWriter1 : Int) (eIndex2 : Int) (ePrev3 : Int) (eAtT4 : Int) (eAtW5 : Int) (eEpoch6 : Int) (eBody7a : Option Addr) (eBody7n : Nat) (eBody7c : Nat) (eSig8 : Int) (fWriter9 : Int) (fIndex10 : Int) (fPrev11 : Int) (fAtT12 : Int) (fAtW13 : Int) (fEpoch14 : Int) (fBody15a : Option Addr) (fBody15n : Nat) (fBody15c : Nat) (fSig16 : Int) (b17a : Option Addr) (b17n : Nat) (b17c : Nat) {V : Value} {Q : World → Prop} {w : World} (h : cachettelaw06_EntryForms.N eWriter1 eIndex2 ePrev3 eAtT4 eAtW5 eEpoch6 eBody7a eBody7n eBody7c eSig8 fWriter9 fIndex10 fPrev11 fAtT12 fAtW13 fEpoch14 fBody15a fBody15n fBody15c fSig16 b17a b17n b17c (fun v w' => v = V ∧ Q w') w) : Calls Try.prog 4 #[.agg #[.int .i64 eWriter1, .int .i64 eIndex2, .int .u64 ePrev3, .int .i64 eAtT4, .int .i64 eAtW5, .int .i64 eEpoch6, .slice eBody7a eBody7n eBody7c, .int .u64 eSig8], .agg #[.int .i64 fWriter9, .int .i64 fIndex10, .int .u64 fPrev11, .int .i64 fAtT12, .int .i64 fAtW13, .int .i64 fEpoch14, .slice fBody15a fBody15n fBody15c, .int .u64 fSig16], .slice b17a b17n b17c] w (Ret V Q) := (cachettelaw06_EntryForms.go eWriter1 eIndex2 ePrev3 eAtT4 eAtW5 eEpoch6 eBody7a eBody7n eBody7c eSig8 fWriter9 fIndex10 fPrev11 fAtT12 fAtW13 fEpoch14 fBody15a fBody15n fBody15c fSig16 b17a b17n b17c h).mono fun e w' ⟨v, he, hv, hq⟩ => ⟨by rw [he, hv], hq⟩

def textK (e : Ent) : List UInt8 × Int := if entRight e = true then (textL e, 0) else ([], 1)
def bytesK (e : Ent) : List UInt8 × Int := if entRight e = true then (bytesL e, 0) else ([], 1)
theorem textK_le (e : Ent) : (textK e).1.length ≤ 1200 := by
  unfold textK
  split
  · rename_i h; have := textL_le e; have := ((entRight_iff _).1 h).2.2.2.2.2.2.2.2.2.1; show (textL e).length ≤ 1200; omega
  · simp
theorem bytesK_le (e : Ent) : (bytesK e).1.length ≤ 1200 := by
  unfold bytesK
  split
  · rename_i h; have := bytesL_le e; have := ((entRight_iff _).1 h).2.2.2.2.2.2.2.2.2.1; show (bytesL e).length ≤ 1200; omega
  · simp
def Tup (w : World) (k : List UInt8 × Int) (x : Ending) (w' : World) : Prop := ∃ a' c', x = .returned (.tuple #[.slice a' k.1.length c', .int .i64 k.2]) ∧ OwnB w.heap.size w' a' c' k.1 ∧ Ext no w w'
section
variable {w w' : World} {a : Option Addr} {c N p : Nat} {bs : List UInt8} {k : Int}
theorem TextK_spec {e : Ent} (hf : entRight e = true → e.fit) {ba : Option Addr} {bc : Nat} (hb : RowAt w ba (bytesV e.body)) : Calls Try.prog 15 #[entV e ba bc] w (Tup w (textK e)) :=
  (Text_spec hf hb).mono fun x w' ⟨X, h⟩ => by
    unfold textK
    rcases h with ⟨h, he⟩ | ⟨h, a', c', he, hO⟩
    · rw [if_neg (by simp [h])]; exact ⟨none, 0, he, OwnB.nil _ _, X⟩
    · rw [if_pos h]; exact ⟨a', c', he, hO, X⟩
theorem rTextK_spec {e : Ent} (hf : entRight e = true → e.fit) {ba : Option Addr} {bc : Nat} (hb : RowAt w ba (bytesV e.body)) : Calls Try.prog 16 #[entV e ba bc] w (Tup w (textK e)) :=
  (rText_spec hf hb).mono fun x w' ⟨X, h⟩ => by
    unfold textK
    rcases h with ⟨h, he⟩ | ⟨h, a', c', he, hO⟩
    · rw [if_neg (by simp [h])]; exact ⟨none, 0, he, OwnB.nil _ _, X⟩
    · rw [if_pos h]; exact ⟨a', c', he, hO, X⟩
theorem EBytesK_spec {e : Ent} (hf : entRight e = true → e.fit) {ba : Option Addr} {bc : Nat} (hb : RowAt w ba (bytesV e.body)) : Calls Try.prog 10 #[entV e ba bc] w (Tup w (bytesK e)) :=
  (EBytes_spec hf hb).mono fun x w' ⟨X, h⟩ => by
    unfold bytesK
    rcases h with ⟨h, he⟩ | ⟨h, a', c', he, hO⟩
    · rw [if_neg (by simp [h])]; exact ⟨none, 0, he, OwnB.nil _ _, X⟩
    · rw [if_pos h]; exact ⟨a', c', he, hO, X⟩
theorem rEBytesK_spec {e : Ent} (hf : entRight e = true → e.fit) {ba : Option Addr} {bc : Nat} (hb : RowAt w ba (bytesV e.body)) : Calls Try.prog 17 #[entV e ba bc] w (Tup w (bytesK e)) :=
  (rEBytes_spec hf hb).mono fun x w' ⟨X, h⟩ => by
    unfold bytesK
    rcases h with ⟨h, he⟩ | ⟨h, a', c', he, hO⟩
    · rw [if_neg (by simp [h])]; exact ⟨none, 0, he, OwnB.nil _ _, X⟩
    · rw [if_pos h]; exact ⟨a', c', he, hO, X⟩
end
theorem keep3 {w w' : World} {m : Nat → Prop} {p q r : Nat} (h : Ext m w w') (hp : ¬ m p) (hq : ¬ m q) (hr : ¬ m r) : Keep [p, q, r] w w' := h.keep fun x hx _ => by
  simp at hx
  rcases hx with rfl | rfl | rfl
  · exact hp
  · exact hq
  · exact hr
theorem EntryForms_spec (w : World) {e f : Ent} {ea fa ba : Option Addr} {ec fc bc : Nat} {b : List UInt8} (hef : e.fit) (hew : e.wide) (he : RowAt w ea (bytesV e.body)) (hf : RowAt w fa (bytesV f.body)) (hb : RowAt w ba (bytesV b)) (hbc : b.length ≤ bc) :
    Calls Try.prog 4 #[entV e ea ec, entV f fa fc, .slice ba b.length bc] w (Ret (.bool true) fun w' => Ext no w w') := by
  refine cachettelaw06_EntryForms.run e.w e.i e.pv e.t e.tw e.ep ea e.body.length ec e.sg f.w f.i f.pv f.t f.tw f.ep fa f.body.length fc f.sg ba b.length bc ?_
  unfold cachettelaw06_EntryForms.N
  have hal : ∀ w1, Ext no w w1 → Calls Try.prog 9 #[] w1 fun e w' => ∃ v : Bool, e = .returned (.bool v) ∧ (fun v w' => v = Value.bool true ∧ Ext no w w') (.bool v) w' := fun w1 hx =>
    (alive6_spec w1).mono fun e w' ⟨he, hw⟩ => ⟨true, he, rfl, hx.trans hw⟩
  rw [entRight_F, refRight_F]
  refine ⟨fun hl w15 X15 => hal _ X15, fun hl => ⟨fun hl2 w15 X15 => hal _ X15, fun hl2 => ⟨fun h5 w15 X15 => hal _ X15, fun h5 w27 p40 p41 Y hp => ?_⟩⟩⟩
  unfold cachettelaw06_light.F at hl hl2
  have hl := of_decide_eq_true hl
  have hl2 := of_decide_eq_true hl2
  have k1 := textK_le e
  have k2 := bytesK_le e
  refine (TextK_spec (fun _ => hef) (he.no Y)).mono fun x w45 ⟨a1, c1, hx, o1, X⟩ => ⟨_, _, _, _, hx, X.kept, ?_⟩
  have Y := Y.trans X
  refine (rTextK_spec (fun _ => hef) (he.no Y)).mono fun x w49 ⟨a2, c2, hx, o2, X⟩ => ⟨_, _, _, _, hx, X.kept, ?_⟩
  have Y := Y.trans X
  have o1 := o1.no X
  refine (EBytesK_spec (fun _ => hef) (he.no Y)).mono fun x w53 ⟨a3, c3, hx, o3, X⟩ => ⟨_, _, _, _, hx, X.kept, ?_⟩
  have Y := Y.trans X
  have o1 := o1.no X; have o2 := o2.no X
  refine (rEBytesK_spec (fun _ => hef) (he.no Y)).mono fun x w57 ⟨a4, c4, hx, o4, X⟩ => ⟨_, _, _, _, hx, X.kept, ?_⟩
  have Y := Y.trans X
  have o1 := o1.no X; have o2 := o2.no X; have o3 := o3.no X
  refine (Read_spec (hb.no Y) hbc (by omega)).mono fun x w68 ⟨ra, rc, hx, o5, hro, X⟩ => ⟨_, _, _, _, _, _, _, _, _, _, _, hx, X.kept, fun w77 p78 X' hp78 => ?_⟩
  have X := X.trans X'
  have Y := Y.trans X
  have o1 := o1.no X; have o2 := o2.no X; have o3 := o3.no X; have o4 := o4.no X; have o5 := o5.no X'
  refine (rRead_spec (hb.no Y) hbc (by omega)).mono fun x w89 ⟨qa, qc, hx, o6, X⟩ => ⟨_, _, _, _, _, _, _, _, _, _, _, hx, X.kept, fun _ w101 p103 X' hp103 => ?_, fun h => absurd rfl h⟩
  have X := X.trans X'
  have Y := Y.trans X
  have o1 := o1.no X; have o2 := o2.no X; have o3 := o3.no X; have o4 := o4.no X; have o5 := o5.no X; have o6 := o6.no X'
  refine (W.sameB_spec o1.row o2.row (by omega)).mono fun x w106 ⟨hx, X⟩ => ⟨_, hx, X.kept, fun _ => ⟨fun _ => ?_, fun h => absurd rfl h⟩, fun h => by simp at h⟩
  have Y := Y.trans X
  have o3 := o3.no X; have o4 := o4.no X; have o5 := o5.no X; have o6 := o6.no X
  refine (W.sameB_spec o3.row o4.row (by omega)).mono fun x w111 ⟨hx, X⟩ => ⟨_, hx, X.kept, fun _ => ⟨fun _ => ?_, fun h => absurd rfl h⟩, fun h => by simp at h⟩
  have Y := Y.trans X
  have o5 := o5.no X; have o6 := o6.no X
  have hbody : (readE b).1.body.length < 1000000 := by
    by_cases h : (readE b).2 = 0
    · have := ((entRight_iff _).1 (readE_back h).2.1).2.2.2.2.2.2.2.2.2.1; omega
    · rw [readE_none h]; decide
  refine (rESame_spec (e := (readE b).1) (f := (readE b).1) o5 o6 hbody).mono fun x w116 ⟨hx, X⟩ => ⟨_, hx, X.kept, fun _ => ⟨fun _ => ?_, fun h => absurd rfl h⟩, fun h => by simp at h⟩
  have Y := Y.trans X
  have g1 := W.numL_le e.w.toNat; have g2 := W.numL_le e.i.toNat; have g3 := W.numL_le (zig e.ep)
  have hbl : (boundL e.w e.i e.ep).length ≤ 30 := by unfold boundL; simp only [List.length_append]; omega
  refine (Bound_spec hew.w.2 hew.i.2 hew.ep.1 hew.ep.2).mono fun x w121 ⟨a1, c1, hx, o1, X⟩ => ⟨_, _, _, hx, X.kept, ?_⟩
  have Y := Y.trans X
  refine (rBound_spec hew.w.2 hew.i.2 hew.ep.1 hew.ep.2).mono fun x w124 ⟨a2, c2, hx, o2, X⟩ => ⟨_, _, _, hx, X.kept, ?_⟩
  have Y := Y.trans X
  refine (W.sameB_spec (o1.no X).row o2.row (by omega)).mono fun x w127 ⟨hx, X⟩ => ⟨_, hx, X.kept, fun _ => ?_, fun h => by simp at h⟩
  have Y := Y.trans X
  refine (ESame_spec (e := e) (f := f) (he.no Y) (hf.no Y)).mono fun x w131 ⟨hx, X⟩ => ⟨_, hx, X.kept, ?_⟩
  have Y := Y.trans X
  refine (rESame_spec (e := e) (f := f) (he.no Y) (hf.no Y) (by omega)).mono fun x w134 ⟨hx, X⟩ => ⟨_, hx, fun _ => hal _ (Y.trans X), fun h => absurd rfl h⟩
theorem EntryForms_walk (W : World) (cs0 cs1 : Array Value) (a2 : Option Addr) (len2 cap2 : Nat) (o0 : EntQ W cs0.toList) (o1 : EntQ W cs1.toList) (o2 : BytesQ W [.slice a2 len2 cap2]) :
    Calls Try.prog 4 #[.agg cs0, .agg cs1, .slice a2 len2 cap2] W (Ret (.bool true) fun w' => Ext no W w') := by
  obtain ⟨e, ea, ec, h0, f0, g0, _, _, r0⟩ := o0
  obtain ⟨f, fa, fc, h1, _, _, _, _, r1⟩ := o1
  obtain ⟨_, _, b, e2, l2, _, r2⟩ := o2
  cases e2
  rw [ent_of h0, ent_of h1]
  exact EntryForms_spec W f0 g0 r0 r1 r2 l2
end Go.Proofs.Ytomajjnoekfmoaa
