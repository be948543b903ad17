/- EntrySigns: what the law's function answers. -/
import Derived.Test.YtomajjnoekfmoaaRefE
import Derived.Test.YtomajjnoekfmoaaEntC
set_option linter.unusedVariables false
set_option linter.unusedSimpArgs false
set_option maxRecDepth 20000
namespace Go.Proofs.Ytomajjnoekfmoaa
open Go Go.Mx Go.Proofs
open W (OwnB Rd RdR GivesW numR countR doneR zig unzig intR)
/-- cachettelaw06.EntrySigns -/
def cachettelaw06_EntrySigns.M (draws1a : Option Addr) (draws1n : Nat) (draws1c : Nat) (eWriter2 : Int) (eIndex3 : Int) (ePrev4 : Int) (eAtT5 : Int) (eAtW6 : Int) (eEpoch7 : Int) (eBody8a : Option Addr) (eBody8n : Nat) (eBody8c : Nat) (eSig9 : Int) (fWriter10 : Int) (fIndex11 : Int) (fPrev12 : Int) (fAtT13 : Int) (fAtW14 : Int) (fEpoch15 : Int) (fBody16a : Option Addr) (fBody16n : Nat) (fBody16c : Nat) (fSig17 : Int) (sig18 : Int) (R : Value → World → Prop) (w : World) : Prop :=
  thenW (w.alloc (.cells #[.int .i64 eWriter2, .int .i64 eIndex3, .int .u64 ePrev4, .int .i64 eAtT5, .int .i64 eAtW6, .int .i64 eEpoch7, .slice eBody8a eBody8n eBody8c, .int .u64 eSig9] 27)) fun ww19 =>
  thenW (ww19.alloc (.cells #[.int .i64 fWriter10, .int .i64 fIndex11, .int .u64 fPrev12, .int .i64 fAtT13, .int .i64 fAtW14, .int .i64 fEpoch15, .slice fBody16a fBody16n fBody16c, .int .u64 fSig17] 27)) fun ww20 =>
  ∃ (xWriter21 : Int) (xIndex22 : Int) (xPrev23 : Int) (xAtT24 : Int) (xAtW25 : Int) (xEpoch26 : Int) (xBody27a : Option Addr) (xBody27n : Nat) (xBody27c : Nat) (xSig28 : Int), cellsAt ww20 (blk w.heap.size) [.int .i64 xWriter21, .int .i64 xIndex22, .int .u64 xPrev23, .int .i64 xAtT24, .int .i64 xAtW25, .int .i64 xEpoch26, .slice xBody27a xBody27n xBody27c, .int .u64 xSig28] 0 ∧
  Calls Try.prog 8 #[.agg #[.int .i64 xWriter21, .int .i64 xIndex22, .int .u64 xPrev23, .int .i64 xAtT24, .int .i64 xAtW25, .int .i64 xEpoch26, .slice xBody27a xBody27n xBody27c, .int .u64 xSig28]] ww20 fun ee30 ww31 => ∃ (light29 : Bool), ee30 = .returned (.bool light29) ∧
  bif !light29 then (
  Calls Try.prog 9 #[] ww31 fun ee33 ww34 => ∃ (alive32 : Bool), ee33 = .returned (.bool alive32) ∧
  R (.bool alive32) ww34) else (
  ∃ (xWriter35 : Int) (xIndex36 : Int) (xPrev37 : Int) (xAtT38 : Int) (xAtW39 : Int) (xEpoch40 : Int) (xBody41a : Option Addr) (xBody41n : Nat) (xBody41c : Nat) (xSig42 : Int), cellsAt ww31 (blk ww19.heap.size) [.int .i64 xWriter35, .int .i64 xIndex36, .int .u64 xPrev37, .int .i64 xAtT38, .int .i64 xAtW39, .int .i64 xEpoch40, .slice xBody41a xBody41n xBody41c, .int .u64 xSig42] 0 ∧
  Calls Try.prog 8 #[.agg #[.int .i64 xWriter35, .int .i64 xIndex36, .int .u64 xPrev37, .int .i64 xAtT38, .int .i64 xAtW39, .int .i64 xEpoch40, .slice xBody41a xBody41n xBody41c, .int .u64 xSig42]] ww31 fun ee44 ww45 => ∃ (light43 : Bool), ee44 = .returned (.bool light43) ∧
  bif !light43 then (
  Calls Try.prog 9 #[] ww45 fun ee47 ww48 => ∃ (alive46 : Bool), ee47 = .returned (.bool alive46) ∧
  R (.bool alive46) ww48) else (
  bif decide ((draws1n : Int) > 50) then (
  Calls Try.prog 9 #[] ww45 fun ee50 ww51 => ∃ (alive49 : Bool), ee50 = .returned (.bool alive49) ∧
  R (.bool alive49) ww51) else (
  Calls Try.prog 26 #[.slice draws1a draws1n draws1c] ww45 fun ee53 ww54 => ∃ (new52 : Option Addr), ee53 = .returned (.pointer new52) ∧
  thenW (ww54.alloc (.cells #[.slice draws1a draws1n draws1c, .slice none 0 0] 51)) fun ww55 =>
  Calls Try.prog 27 #[.pointer new52] ww55 fun ee58 ww59 => ∃ (pair56 : Int) (pair57 : Int), ee58 = .returned (.tuple #[.int .u64 pair56, .int .u64 pair57]) ∧
  Calls Try.prog 28 #[.pointer (some (blk ww54.heap.size))] ww59 fun ee62 ww63 => ∃ (pair60 : Int) (pair61 : Int), ee62 = .returned (.tuple #[.int .u64 pair60, .int .u64 pair61]) ∧
  ∃ (xWriter64 : Int) (xIndex65 : Int) (xPrev66 : Int) (xAtT67 : Int) (xAtW68 : Int) (xEpoch69 : Int) (xBody70a : Option Addr) (xBody70n : Nat) (xBody70c : Nat) (xSig71 : Int), cellsAt ww63 (blk w.heap.size) [.int .i64 xWriter64, .int .i64 xIndex65, .int .u64 xPrev66, .int .i64 xAtT67, .int .i64 xAtW68, .int .i64 xEpoch69, .slice xBody70a xBody70n xBody70c, .int .u64 xSig71] 0 ∧
  Calls Try.prog 23 #[.pointer new52, .agg #[.int .i64 xWriter64, .int .i64 xIndex65, .int .u64 xPrev66, .int .i64 xAtT67, .int .i64 xAtW68, .int .i64 xEpoch69, .slice xBody70a xBody70n xBody70c, .int .u64 xSig71]] ww63 fun ee74 ww75 => ∃ (sum72 : Int) (sum73 : Int), ee74 = .returned (.tuple #[.int .u64 sum72, .int .i64 sum73]) ∧
  ∃ (xWriter76 : Int) (xIndex77 : Int) (xPrev78 : Int) (xAtT79 : Int) (xAtW80 : Int) (xEpoch81 : Int) (xBody82a : Option Addr) (xBody82n : Nat) (xBody82c : Nat) (xSig83 : Int), cellsAt ww75 (blk w.heap.size) [.int .i64 xWriter76, .int .i64 xIndex77, .int .u64 xPrev78, .int .i64 xAtT79, .int .i64 xAtW80, .int .i64 xEpoch81, .slice xBody82a xBody82n xBody82c, .int .u64 xSig83] 0 ∧
  Calls Try.prog 29 #[.pointer (some (blk ww54.heap.size)), .agg #[.int .i64 xWriter76, .int .i64 xIndex77, .int .u64 xPrev78, .int .i64 xAtT79, .int .i64 xAtW80, .int .i64 xEpoch81, .slice xBody82a xBody82n xBody82c, .int .u64 xSig83]] ww75 fun ee86 ww87 => ∃ (sum84 : Int) (sum85 : Int), ee86 = .returned (.tuple #[.int .u64 sum84, .int .i64 sum85]) ∧
  ∃ (xWriter88 : Int) (xIndex89 : Int) (xPrev90 : Int) (xAtT91 : Int) (xAtW92 : Int) (xEpoch93 : Int) (xBody94a : Option Addr) (xBody94n : Nat) (xBody94c : Nat) (xSig95 : Int), cellsAt ww87 (blk w.heap.size) [.int .i64 xWriter88, .int .i64 xIndex89, .int .u64 xPrev90, .int .i64 xAtT91, .int .i64 xAtW92, .int .i64 xEpoch93, .slice xBody94a xBody94n xBody94c, .int .u64 xSig95] 0 ∧
  Calls Try.prog 24 #[.pointer new52, .int .u64 pair56, .agg #[.int .i64 xWriter88, .int .i64 xIndex89, .int .u64 xPrev90, .int .i64 xAtT91, .int .i64 xAtW92, .int .i64 xEpoch93, .slice xBody94a xBody94n xBody94c, .int .u64 xSig95]] ww87 fun ee105 ww106 => ∃ (Writer96 : Int) (Index97 : Int) (Prev98 : Int) (AtT99 : Int) (AtW100 : Int) (Epoch101 : Int) (Body102a : Option Addr) (Body102n : Nat) (Body102c : Nat) (Sig103 : Int) (sign104 : Int), ee105 = .returned (.tuple #[.agg #[.int .i64 Writer96, .int .i64 Index97, .int .u64 Prev98, .int .i64 AtT99, .int .i64 AtW100, .int .i64 Epoch101, .slice Body102a Body102n Body102c, .int .u64 Sig103], .int .i64 sign104]) ∧
  thenW (ww106.alloc (.cells #[.int .i64 0, .int .i64 0, .int .u64 0, .int .i64 0, .int .i64 0, .int .i64 0, .slice none 0 0, .int .u64 0] 27)) fun ww107 =>
  canStore ww107 ((blk ww106.heap.size).add 0) ∧
  thenW (ww107.setCell ((blk ww106.heap.size).add 0) (.int .i64 Writer96)) fun ww108 =>
  canStore ww108 ((blk ww106.heap.size).add 1) ∧
  thenW (ww108.setCell ((blk ww106.heap.size).add 1) (.int .i64 Index97)) fun ww109 =>
  canStore ww109 ((blk ww106.heap.size).add 2) ∧
  thenW (ww109.setCell ((blk ww106.heap.size).add 2) (.int .u64 Prev98)) fun ww110 =>
  canStore ww110 ((blk ww106.heap.size).add 3) ∧
  thenW (ww110.setCell ((blk ww106.heap.size).add 3) (.int .i64 AtT99)) fun ww111 =>
  canStore ww111 ((blk ww106.heap.size).add 4) ∧
  thenW (ww111.setCell ((blk ww106.heap.size).add 4) (.int .i64 AtW100)) fun ww112 =>
  canStore ww112 ((blk ww106.heap.size).add 5) ∧
  thenW (ww112.setCell ((blk ww106.heap.size).add 5) (.int .i64 Epoch101)) fun ww113 =>
  canStore ww113 ((blk ww106.heap.size).add 6) ∧
  thenW (ww113.setCell ((blk ww106.heap.size).add 6) (.slice Body102a Body102n Body102c)) fun ww114 =>
  canStore ww114 ((blk ww106.heap.size).add 7) ∧
  thenW (ww114.setCell ((blk ww106.heap.size).add 7) (.int .u64 Sig103)) fun ww115 =>
  ∃ (xWriter116 : Int) (xIndex117 : Int) (xPrev118 : Int) (xAtT119 : Int) (xAtW120 : Int) (xEpoch121 : Int) (xBody122a : Option Addr) (xBody122n : Nat) (xBody122c : Nat) (xSig123 : Int), cellsAt ww115 (blk w.heap.size) [.int .i64 xWriter116, .int .i64 xIndex117, .int .u64 xPrev118, .int .i64 xAtT119, .int .i64 xAtW120, .int .i64 xEpoch121, .slice xBody122a xBody122n xBody122c, .int .u64 xSig123] 0 ∧
  Calls Try.prog 30 #[.pointer (some (blk ww54.heap.size)), .int .u64 pair56, .agg #[.int .i64 xWriter116, .int .i64 xIndex117, .int .u64 xPrev118, .int .i64 xAtT119, .int .i64 xAtW120, .int .i64 xEpoch121, .slice xBody122a xBody122n xBody122c, .int .u64 xSig123]] ww115 fun ee133 ww134 => ∃ (Writer124 : Int) (Index125 : Int) (Prev126 : Int) (AtT127 : Int) (AtW128 : Int) (Epoch129 : Int) (Body130a : Option Addr) (Body130n : Nat) (Body130c : Nat) (Sig131 : Int) (sign132 : Int), ee133 = .returned (.tuple #[.agg #[.int .i64 Writer124, .int .i64 Index125, .int .u64 Prev126, .int .i64 AtT127, .int .i64 AtW128, .int .i64 Epoch129, .slice Body130a Body130n Body130c, .int .u64 Sig131], .int .i64 sign132]) ∧
  thenW (ww134.alloc (.cells #[.int .i64 0, .int .i64 0, .int .u64 0, .int .i64 0, .int .i64 0, .int .i64 0, .slice none 0 0, .int .u64 0] 27)) fun ww135 =>
  canStore ww135 ((blk ww134.heap.size).add 0) ∧
  thenW (ww135.setCell ((blk ww134.heap.size).add 0) (.int .i64 Writer124)) fun ww136 =>
  canStore ww136 ((blk ww134.heap.size).add 1) ∧
  thenW (ww136.setCell ((blk ww134.heap.size).add 1) (.int .i64 Index125)) fun ww137 =>
  canStore ww137 ((blk ww134.heap.size).add 2) ∧
  thenW (ww137.setCell ((blk ww134.heap.size).add 2) (.int .u64 Prev126)) fun ww138 =>
  canStore ww138 ((blk ww134.heap.size).add 3) ∧
  thenW (ww138.setCell ((blk ww134.heap.size).add 3) (.int .i64 AtT127)) fun ww139 =>
  canStore ww139 ((blk ww134.heap.size).add 4) ∧
  thenW (ww139.setCell ((blk ww134.heap.size).add 4) (.int .i64 AtW128)) fun ww140 =>
  canStore ww140 ((blk ww134.heap.size).add 5) ∧
  thenW (ww140.setCell ((blk ww134.heap.size).add 5) (.int .i64 Epoch129)) fun ww141 =>
  canStore ww141 ((blk ww134.heap.size).add 6) ∧
  thenW (ww141.setCell ((blk ww134.heap.size).add 6) (.slice Body130a Body130n Body130c)) fun ww142 =>
  canStore ww142 ((blk ww134.heap.size).add 7) ∧
  thenW (ww142.setCell ((blk ww134.heap.size).add 7) (.int .u64 Sig131)) fun ww143 =>
  ∃ (xWriter144 : Int) (xIndex145 : Int) (xPrev146 : Int) (xAtT147 : Int) (xAtW148 : Int) (xEpoch149 : Int) (xBody150a : Option Addr) (xBody150n : Nat) (xBody150c : Nat) (xSig151 : Int), cellsAt ww143 (blk w.heap.size) [.int .i64 xWriter144, .int .i64 xIndex145, .int .u64 xPrev146, .int .i64 xAtT147, .int .i64 xAtW148, .int .i64 xEpoch149, .slice xBody150a xBody150n xBody150c, .int .u64 xSig151] 0 ∧
  Calls Try.prog 24 #[.pointer new52, .int .u64 pair57, .agg #[.int .i64 xWriter144, .int .i64 xIndex145, .int .u64 xPrev146, .int .i64 xAtT147, .int .i64 xAtW148, .int .i64 xEpoch149, .slice xBody150a xBody150n xBody150c, .int .u64 xSig151]] ww143 fun ee161 ww162 => ∃ (Writer152 : Int) (Index153 : Int) (Prev154 : Int) (AtT155 : Int) (AtW156 : Int) (Epoch157 : Int) (Body158a : Option Addr) (Body158n : Nat) (Body158c : Nat) (Sig159 : Int) (sign160 : Int), ee161 = .returned (.tuple #[.agg #[.int .i64 Writer152, .int .i64 Index153, .int .u64 Prev154, .int .i64 AtT155, .int .i64 AtW156, .int .i64 Epoch157, .slice Body158a Body158n Body158c, .int .u64 Sig159], .int .i64 sign160]) ∧
  thenW (ww162.alloc (.cells #[.int .i64 0, .int .i64 0, .int .u64 0, .int .i64 0, .int .i64 0, .int .i64 0, .slice none 0 0, .int .u64 0] 27)) fun ww163 =>
  canStore ww163 ((blk ww162.heap.size).add 0) ∧
  thenW (ww163.setCell ((blk ww162.heap.size).add 0) (.int .i64 Writer152)) fun ww164 =>
  canStore ww164 ((blk ww162.heap.size).add 1) ∧
  thenW (ww164.setCell ((blk ww162.heap.size).add 1) (.int .i64 Index153)) fun ww165 =>
  canStore ww165 ((blk ww162.heap.size).add 2) ∧
  thenW (ww165.setCell ((blk ww162.heap.size).add 2) (.int .u64 Prev154)) fun ww166 =>
  canStore ww166 ((blk ww162.heap.size).add 3) ∧
  thenW (ww166.setCell ((blk ww162.heap.size).add 3) (.int .i64 AtT155)) fun ww167 =>
  canStore ww167 ((blk ww162.heap.size).add 4) ∧
  thenW (ww167.setCell ((blk ww162.heap.size).add 4) (.int .i64 AtW156)) fun ww168 =>
  canStore ww168 ((blk ww162.heap.size).add 5) ∧
  thenW (ww168.setCell ((blk ww162.heap.size).add 5) (.int .i64 Epoch157)) fun ww169 =>
  canStore ww169 ((blk ww162.heap.size).add 6) ∧
  thenW (ww169.setCell ((blk ww162.heap.size).add 6) (.slice Body158a Body158n Body158c)) fun ww170 =>
  canStore ww170 ((blk ww162.heap.size).add 7) ∧
  thenW (ww170.setCell ((blk ww162.heap.size).add 7) (.int .u64 Sig159)) fun ww171 =>
  ∃ (xWriter172 : Int) (xIndex173 : Int) (xPrev174 : Int) (xAtT175 : Int) (xAtW176 : Int) (xEpoch177 : Int) (xBody178a : Option Addr) (xBody178n : Nat) (xBody178c : Nat) (xSig179 : Int), cellsAt ww171 (blk w.heap.size) [.int .i64 xWriter172, .int .i64 xIndex173, .int .u64 xPrev174, .int .i64 xAtT175, .int .i64 xAtW176, .int .i64 xEpoch177, .slice xBody178a xBody178n xBody178c, .int .u64 xSig179] 0 ∧
  Calls Try.prog 30 #[.pointer (some (blk ww54.heap.size)), .int .u64 pair57, .agg #[.int .i64 xWriter172, .int .i64 xIndex173, .int .u64 xPrev174, .int .i64 xAtT175, .int .i64 xAtW176, .int .i64 xEpoch177, .slice xBody178a xBody178n xBody178c, .int .u64 xSig179]] ww171 fun ee189 ww190 => ∃ (Writer180 : Int) (Index181 : Int) (Prev182 : Int) (AtT183 : Int) (AtW184 : Int) (Epoch185 : Int) (Body186a : Option Addr) (Body186n : Nat) (Body186c : Nat) (Sig187 : Int) (sign188 : Int), ee189 = .returned (.tuple #[.agg #[.int .i64 Writer180, .int .i64 Index181, .int .u64 Prev182, .int .i64 AtT183, .int .i64 AtW184, .int .i64 Epoch185, .slice Body186a Body186n Body186c, .int .u64 Sig187], .int .i64 sign188]) ∧
  thenW (ww190.alloc (.cells #[.int .i64 0, .int .i64 0, .int .u64 0, .int .i64 0, .int .i64 0, .int .i64 0, .slice none 0 0, .int .u64 0] 27)) fun ww191 =>
  canStore ww191 ((blk ww190.heap.size).add 0) ∧
  thenW (ww191.setCell ((blk ww190.heap.size).add 0) (.int .i64 Writer180)) fun ww192 =>
  canStore ww192 ((blk ww190.heap.size).add 1) ∧
  thenW (ww192.setCell ((blk ww190.heap.size).add 1) (.int .i64 Index181)) fun ww193 =>
  canStore ww193 ((blk ww190.heap.size).add 2) ∧
  thenW (ww193.setCell ((blk ww190.heap.size).add 2) (.int .u64 Prev182)) fun ww194 =>
  canStore ww194 ((blk ww190.heap.size).add 3) ∧
  thenW (ww194.setCell ((blk ww190.heap.size).add 3) (.int .i64 AtT183)) fun ww195 =>
  canStore ww195 ((blk ww190.heap.size).add 4) ∧
  thenW (ww195.setCell ((blk ww190.heap.size).add 4) (.int .i64 AtW184)) fun ww196 =>
  canStore ww196 ((blk ww190.heap.size).add 5) ∧
  thenW (ww196.setCell ((blk ww190.heap.size).add 5) (.int .i64 Epoch185)) fun ww197 =>
  canStore ww197 ((blk ww190.heap.size).add 6) ∧
  thenW (ww197.setCell ((blk ww190.heap.size).add 6) (.slice Body186a Body186n Body186c)) fun ww198 =>
  canStore ww198 ((blk ww190.heap.size).add 7) ∧
  thenW (ww198.setCell ((blk ww190.heap.size).add 7) (.int .u64 Sig187)) fun ww199 =>
  canStore ww199 (((blk ww19.heap.size).add 7).add 0) ∧
  thenW (ww199.setCell (((blk ww19.heap.size).add 7).add 0) (.int .u64 sig18)) fun ww200 =>
  thenW (ww200.drew) fun ww201 =>
  bif sum72 == sum84 then (
  bif sum73 == sum85 then (
  ∃ (xWriter202 : Int) (xIndex203 : Int) (xPrev204 : Int) (xAtT205 : Int) (xAtW206 : Int) (xEpoch207 : Int) (xBody208a : Option Addr) (xBody208n : Nat) (xBody208c : Nat) (xSig209 : Int), cellsAt ww201 (blk ww106.heap.size) [.int .i64 xWriter202, .int .i64 xIndex203, .int .u64 xPrev204, .int .i64 xAtT205, .int .i64 xAtW206, .int .i64 xEpoch207, .slice xBody208a xBody208n xBody208c, .int .u64 xSig209] 0 ∧
  ∃ (xWriter210 : Int) (xIndex211 : Int) (xPrev212 : Int) (xAtT213 : Int) (xAtW214 : Int) (xEpoch215 : Int) (xBody216a : Option Addr) (xBody216n : Nat) (xBody216c : Nat) (xSig217 : Int), cellsAt ww201 (blk ww134.heap.size) [.int .i64 xWriter210, .int .i64 xIndex211, .int .u64 xPrev212, .int .i64 xAtT213, .int .i64 xAtW214, .int .i64 xEpoch215, .slice xBody216a xBody216n xBody216c, .int .u64 xSig217] 0 ∧
  Calls Try.prog 20 #[.agg #[.int .i64 xWriter202, .int .i64 xIndex203, .int .u64 xPrev204, .int .i64 xAtT205, .int .i64 xAtW206, .int .i64 xEpoch207, .slice xBody208a xBody208n xBody208c, .int .u64 xSig209], .agg #[.int .i64 xWriter210, .int .i64 xIndex211, .int .u64 xPrev212, .int .i64 xAtT213, .int .i64 xAtW214, .int .i64 xEpoch215, .slice xBody216a xBody216n xBody216c, .int .u64 xSig217]] ww201 fun ee219 ww220 => ∃ (same218 : Bool), ee219 = .returned (.bool same218) ∧
  bif same218 then (
  bif sign104 == sign132 then (
  bif sign160 == sign188 then (
  ∃ (xWriter221 : Int) (xIndex222 : Int) (xPrev223 : Int) (xAtT224 : Int) (xAtW225 : Int) (xEpoch226 : Int) (xBody227a : Option Addr) (xBody227n : Nat) (xBody227c : Nat) (xSig228 : Int), cellsAt ww220 (blk ww106.heap.size) [.int .i64 xWriter221, .int .i64 xIndex222, .int .u64 xPrev223, .int .i64 xAtT224, .int .i64 xAtW225, .int .i64 xEpoch226, .slice xBody227a xBody227n xBody227c, .int .u64 xSig228] 0 ∧
  ∃ (xWriter229 : Int) (xIndex230 : Int) (xPrev231 : Int) (xAtT232 : Int) (xAtW233 : Int) (xEpoch234 : Int) (xBody235a : Option Addr) (xBody235n : Nat) (xBody235c : Nat) (xSig236 : Int), cellsAt ww220 (blk ww134.heap.size) [.int .i64 xWriter229, .int .i64 xIndex230, .int .u64 xPrev231, .int .i64 xAtT232, .int .i64 xAtW233, .int .i64 xEpoch234, .slice xBody235a xBody235n xBody235c, .int .u64 xSig236] 0 ∧
  Calls Try.prog 25 #[.pointer new52, .int .u64 pair57, .agg #[.int .i64 xWriter221, .int .i64 xIndex222, .int .u64 xPrev223, .int .i64 xAtT224, .int .i64 xAtW225, .int .i64 xEpoch226, .slice xBody227a xBody227n xBody227c, .int .u64 xSig228]] ww220 fun ee238 ww239 => ∃ (holds237 : Bool), ee238 = .returned (.bool holds237) ∧
  cellsAt ww239 (blk ww134.heap.size) [.int .i64 xWriter229, .int .i64 xIndex230, .int .u64 xPrev231, .int .i64 xAtT232, .int .i64 xAtW233, .int .i64 xEpoch234, .slice xBody235a xBody235n xBody235c, .int .u64 xSig236] 0 ∧
  Calls Try.prog 31 #[.pointer (some (blk ww54.heap.size)), .int .u64 pair57, .agg #[.int .i64 xWriter229, .int .i64 xIndex230, .int .u64 xPrev231, .int .i64 xAtT232, .int .i64 xAtW233, .int .i64 xEpoch234, .slice xBody235a xBody235n xBody235c, .int .u64 xSig236]] ww239 fun ee241 ww242 => ∃ (holds240 : Bool), ee241 = .returned (.bool holds240) ∧
  bif holds237 == holds240 then (
  ∃ (xWriter243 : Int) (xIndex244 : Int) (xPrev245 : Int) (xAtT246 : Int) (xAtW247 : Int) (xEpoch248 : Int) (xBody249a : Option Addr) (xBody249n : Nat) (xBody249c : Nat) (xSig250 : Int), cellsAt ww242 (blk ww19.heap.size) [.int .i64 xWriter243, .int .i64 xIndex244, .int .u64 xPrev245, .int .i64 xAtT246, .int .i64 xAtW247, .int .i64 xEpoch248, .slice xBody249a xBody249n xBody249c, .int .u64 xSig250] 0 ∧
  ∃ (xWriter251 : Int) (xIndex252 : Int) (xPrev253 : Int) (xAtT254 : Int) (xAtW255 : Int) (xEpoch256 : Int) (xBody257a : Option Addr) (xBody257n : Nat) (xBody257c : Nat) (xSig258 : Int), cellsAt ww242 (blk ww19.heap.size) [.int .i64 xWriter251, .int .i64 xIndex252, .int .u64 xPrev253, .int .i64 xAtT254, .int .i64 xAtW255, .int .i64 xEpoch256, .slice xBody257a xBody257n xBody257c, .int .u64 xSig258] 0 ∧
  Calls Try.prog 25 #[.pointer new52, .int .u64 pair57, .agg #[.int .i64 xWriter243, .int .i64 xIndex244, .int .u64 xPrev245, .int .i64 xAtT246, .int .i64 xAtW247, .int .i64 xEpoch248, .slice xBody249a xBody249n xBody249c, .int .u64 xSig250]] ww242 fun ee260 ww261 => ∃ (holds259 : Bool), ee260 = .returned (.bool holds259) ∧
  cellsAt ww261 (blk ww19.heap.size) [.int .i64 xWriter251, .int .i64 xIndex252, .int .u64 xPrev253, .int .i64 xAtT254, .int .i64 xAtW255, .int .i64 xEpoch256, .slice xBody257a xBody257n xBody257c, .int .u64 xSig258] 0 ∧
  Calls Try.prog 31 #[.pointer (some (blk ww54.heap.size)), .int .u64 pair57, .agg #[.int .i64 xWriter251, .int .i64 xIndex252, .int .u64 xPrev253, .int .i64 xAtT254, .int .i64 xAtW255, .int .i64 xEpoch256, .slice xBody257a xBody257n xBody257c, .int .u64 xSig258]] ww261 fun ee263 ww264 => ∃ (holds262 : Bool), ee263 = .returned (.bool holds262) ∧
  bif holds259 == holds262 then (
  Calls Try.prog 9 #[] ww264 fun ee266 ww267 => ∃ (alive265 : Bool), ee266 = .returned (.bool alive265) ∧
  R (.bool alive265) ww267) else (
  R (.bool false) ww264)) else (
  R (.bool false) ww242)) else (
  R (.bool false) ww220)) else (
  R (.bool false) ww220)) else (
  R (.bool false) ww220)) else (
  R (.bool false) ww201)) else (
  R (.bool false) ww201))))

theorem cachettelaw06_EntrySigns.eq (draws1a : Option Addr) (draws1n : Nat) (draws1c : Nat) (eWriter2 : Int) (eIndex3 : Int) (ePrev4 : Int) (eAtT5 : Int) (eAtW6 : Int) (eEpoch7 : Int) (eBody8a : Option Addr) (eBody8n : Nat) (eBody8c : Nat) (eSig9 : Int) (fWriter10 : Int) (fIndex11 : Int) (fPrev12 : Int) (fAtT13 : Int) (fAtW14 : Int) (fEpoch15 : Int) (fBody16a : Option Addr) (fBody16n : Nat) (fBody16c : Nat) (fSig17 : Int) (sig18 : Int) (R : Value → World → Prop) (w : World) : mfunc Try.prog [] 6 [.slice draws1a draws1n draws1c, .agg #[.int .i64 eWriter2, .int .i64 eIndex3, .int .u64 ePrev4, .int .i64 eAtT5, .int .i64 eAtW6, .int .i64 eEpoch7, .slice eBody8a eBody8n eBody8c, .int .u64 eSig9], .agg #[.int .i64 fWriter10, .int .i64 fIndex11, .int .u64 fPrev12, .int .i64 fAtT13, .int .i64 fAtW14, .int .i64 fEpoch15, .slice fBody16a fBody16n fBody16c, .int .u64 fSig17], .int .u64 sig18] R w = cachettelaw06_EntrySigns.M draws1a draws1n draws1c eWriter2 eIndex3 ePrev4 eAtT5 eAtW6 eEpoch7 eBody8a eBody8n eBody8c eSig9 fWriter10 fIndex11 fPrev12 fAtT13 fAtW14 fEpoch15 fBody16a fBody16n fBody16c fSig17 sig18 R w := by kernel_rfl
theorem cachettelaw06_EntrySigns.ok (draws1a : Option Addr) (draws1n : Nat) (draws1c : Nat) (eWriter2 : Int) (eIndex3 : Int) (ePrev4 : Int) (eAtT5 : Int) (eAtW6 : Int) (eEpoch7 : Int) (eBody8a : Option Addr) (eBody8n : Nat) (eBody8c : Nat) (eSig9 : Int) (fWriter10 : Int) (fIndex11 : Int) (fPrev12 : Int) (fAtT13 : Int) (fAtW14 : Int) (fEpoch15 : Int) (fBody16a : Option Addr) (fBody16n : Nat) (fBody16c : Nat) (fSig17 : Int) (sig18 : Int) {R : Value → World → Prop} {w : World} (h : cachettelaw06_EntrySigns.M draws1a draws1n draws1c eWriter2 eIndex3 ePrev4 eAtT5 eAtW6 eEpoch7 eBody8a eBody8n eBody8c eSig9 fWriter10 fIndex11 fPrev12 fAtT13 fAtW14 fEpoch15 fBody16a fBody16n fBody16c fSig17 sig18 R w) : Calls Try.prog 6 #[.slice draws1a draws1n draws1c, .agg #[.int .i64 eWriter2, .int .i64 eIndex3, .int .u64 ePrev4, .int .i64 eAtT5, .int .i64 eAtW6, .int .i64 eEpoch7, .slice eBody8a eBody8n eBody8c, .int .u64 eSig9], .agg #[.int .i64 fWriter10, .int .i64 fIndex11, .int .u64 fPrev12, .int .i64 fAtT13, .int .i64 fAtW14, .int .i64 fEpoch15, .slice fBody16a fBody16n fBody16c, .int .u64 fSig17], .int .u64 sig18] w fun e w' => ∃ v, e = .returned v ∧ R v w' :=
  mfunc_ok follows (H := []) (args := [.slice draws1a draws1n draws1c, .agg #[.int .i64 eWriter2, .int .i64 eIndex3, .int .u64 ePrev4, .int .i64 eAtT5, .int .i64 eAtW6, .int .i64 eEpoch7, .slice eBody8a eBody8n eBody8c, .int .u64 eSig9], .agg #[.int .i64 fWriter10, .int .i64 fIndex11, .int .u64 fPrev12, .int .i64 fAtT13, .int .i64 fAtW14, .int .i64 fEpoch15, .slice fBody16a fBody16n fBody16c, .int .u64 fSig17], .int .u64 sig18]) (by rw [cachettelaw06_EntrySigns.eq]; exact h)

def cachettelaw06_EntrySigns.N (draws1a : Option Addr) (draws1n : Nat) (draws1c : Nat) (eWriter2 : Int) (eIndex3 : Int) (ePrev4 : Int) (eAtT5 : Int) (eAtW6 : Int) (eEpoch7 : Int) (eBody8a : Option Addr) (eBody8n : Nat) (eBody8c : Nat) (eSig9 : Int) (fWriter10 : Int) (fIndex11 : Int) (fPrev12 : Int) (fAtT13 : Int) (fAtW14 : Int) (fEpoch15 : Int) (fBody16a : Option Addr) (fBody16n : Nat) (fBody16c : Nat) (fSig17 : Int) (sig18 : Int) (R : Value → World → Prop) (w : World) : Prop :=
  ((cachettelaw06_light.F eWriter2 eIndex3 ePrev4 eAtT5 eAtW6 eEpoch7 eBody8a eBody8n eBody8c eSig9) = false →
    ∀ (ww21 : World), Ext no w ww21 →
    Calls Try.prog 9 #[] ww21 fun ee26 ww27 => ∃ (alive25 : Bool), ee26 = .returned (.bool alive25) ∧
    R (.bool alive25) ww27) ∧
  ((cachettelaw06_light.F eWriter2 eIndex3 ePrev4 eAtT5 eAtW6 eEpoch7 eBody8a eBody8n eBody8c eSig9) = true →
    ((cachettelaw06_light.F fWriter10 fIndex11 fPrev12 fAtT13 fAtW14 fEpoch15 fBody16a fBody16n fBody16c fSig17) = false →
      ∀ (ww28 : World), Ext no w ww28 →
      Calls Try.prog 9 #[] ww28 fun ee33 ww34 => ∃ (alive32 : Bool), ee33 = .returned (.bool alive32) ∧
      R (.bool alive32) ww34) ∧
    ((cachettelaw06_light.F fWriter10 fIndex11 fPrev12 fAtT13 fAtW14 fEpoch15 fBody16a fBody16n fBody16c fSig17) = true →
      ((draws1n : Int) > 50 →
        ∀ (ww28 : World), Ext no w ww28 →
        Calls Try.prog 9 #[] ww28 fun ee39 ww40 => ∃ (alive38 : Bool), ee39 = .returned (.bool alive38) ∧
        R (.bool alive38) ww40) ∧
      ((draws1n : Int) ≤ 50 →
        ∀ (ww28 : World) (p41 : Nat) (p42 : Nat), Ext no w ww28 → Priv w ww28 [p41, p42] →
        Calls Try.prog 26 #[.slice draws1a draws1n draws1c] ww28 fun ee44 ww45 => ∃ (new43 : Option Addr), ee44 = .returned (.pointer new43) ∧
        Keep [p41, p42] ww28 ww45 ∧
        ∀ (ww46 : World) (q47 : Nat), Ext no ww45 ww46 → Blk ww46 q47 51 [.slice draws1a draws1n draws1c, .slice none 0 0] → ww45.heap.size ≤ q47 → q47 < ww46.heap.size →
        Calls Try.prog 27 #[.pointer new43] ww46 fun ee50 ww51 => ∃ (pair48 : Int) (pair49 : Int), ee50 = .returned (.tuple #[.int .u64 pair48, .int .u64 pair49]) ∧
        Keep [p41, p42] ww46 ww51 ∧
        Calls Try.prog 28 #[.pointer (some (blk q47))] ww51 fun ee54 ww55 => ∃ (pair52 : Int) (pair53 : Int), ee54 = .returned (.tuple #[.int .u64 pair52, .int .u64 pair53]) ∧
        Keep [p41, p42] ww51 ww55 ∧
        Calls Try.prog 23 #[.pointer new43, .agg #[.int .i64 eWriter2, .int .i64 eIndex3, .int .u64 ePrev4, .int .i64 eAtT5, .int .i64 eAtW6, .int .i64 eEpoch7, .slice eBody8a eBody8n eBody8c, .int .u64 eSig9]] ww55 fun ee58 ww59 => ∃ (sum56 : Int) (sum57 : Int), ee58 = .returned (.tuple #[.int .u64 sum56, .int .i64 sum57]) ∧
        Keep [p41, p42] ww55 ww59 ∧
        Calls Try.prog 29 #[.pointer (some (blk q47)), .agg #[.int .i64 eWriter2, .int .i64 eIndex3, .int .u64 ePrev4, .int .i64 eAtT5, .int .i64 eAtW6, .int .i64 eEpoch7, .slice eBody8a eBody8n eBody8c, .int .u64 eSig9]] ww59 fun ee62 ww63 => ∃ (sum60 : Int) (sum61 : Int), ee62 = .returned (.tuple #[.int .u64 sum60, .int .i64 sum61]) ∧
        Keep [p41, p42] ww59 ww63 ∧
        Calls Try.prog 24 #[.pointer new43, .int .u64 pair48, .agg #[.int .i64 eWriter2, .int .i64 eIndex3, .int .u64 ePrev4, .int .i64 eAtT5, .int .i64 eAtW6, .int .i64 eEpoch7, .slice eBody8a eBody8n eBody8c, .int .u64 eSig9]] ww63 fun ee73 ww74 => ∃ (Writer64 : Int) (Index65 : Int) (Prev66 : Int) (AtT67 : Int) (AtW68 : Int) (Epoch69 : Int) (Body70a : Option Addr) (Body70n : Nat) (Body70c : Nat) (Sig71 : Int) (sign72 : Int), ee73 = .returned (.tuple #[.agg #[.int .i64 Writer64, .int .i64 Index65, .int .u64 Prev66, .int .i64 AtT67, .int .i64 AtW68, .int .i64 Epoch69, .slice Body70a Body70n Body70c, .int .u64 Sig71], .int .i64 sign72]) ∧
        Keep [p41, p42] ww63 ww74 ∧
        ∀ (ww83 : World) (p84 : Nat), Ext no ww74 ww83 → Priv ww74 ww83 [p84] →
        Calls Try.prog 30 #[.pointer (some (blk q47)), .int .u64 pair48, .agg #[.int .i64 eWriter2, .int .i64 eIndex3, .int .u64 ePrev4, .int .i64 eAtT5, .int .i64 eAtW6, .int .i64 eEpoch7, .slice eBody8a eBody8n eBody8c, .int .u64 eSig9]] ww83 fun ee94 ww95 => ∃ (Writer85 : Int) (Index86 : Int) (Prev87 : Int) (AtT88 : Int) (AtW89 : Int) (Epoch90 : Int) (Body91a : Option Addr) (Body91n : Nat) (Body91c : Nat) (Sig92 : Int) (sign93 : Int), ee94 = .returned (.tuple #[.agg #[.int .i64 Writer85, .int .i64 Index86, .int .u64 Prev87, .int .i64 AtT88, .int .i64 AtW89, .int .i64 Epoch90, .slice Body91a Body91n Body91c, .int .u64 Sig92], .int .i64 sign93]) ∧
        Keep [p41, p42, p84] ww83 ww95 ∧
        ∀ (ww104 : World) (p105 : Nat), Ext no ww95 ww104 → Priv ww95 ww104 [p105] →
        Calls Try.prog 24 #[.pointer new43, .int .u64 pair49, .agg #[.int .i64 eWriter2, .int .i64 eIndex3, .int .u64 ePrev4, .int .i64 eAtT5, .int .i64 eAtW6, .int .i64 eEpoch7, .slice eBody8a eBody8n eBody8c, .int .u64 eSig9]] ww104 fun ee115 ww116 => ∃ (Writer106 : Int) (Index107 : Int) (Prev108 : Int) (AtT109 : Int) (AtW110 : Int) (Epoch111 : Int) (Body112a : Option Addr) (Body112n : Nat) (Body112c : Nat) (Sig113 : Int) (sign114 : Int), ee115 = .returned (.tuple #[.agg #[.int .i64 Writer106, .int .i64 Index107, .int .u64 Prev108, .int .i64 AtT109, .int .i64 AtW110, .int .i64 Epoch111, .slice Body112a Body112n Body112c, .int .u64 Sig113], .int .i64 sign114]) ∧
        Keep [p41, p42, p84, p105] ww104 ww116 ∧
        ∀ (ww125 : World), Ext no ww116 ww125 →
        Calls Try.prog 30 #[.pointer (some (blk q47)), .int .u64 pair49, .agg #[.int .i64 eWriter2, .int .i64 eIndex3, .int .u64 ePrev4, .int .i64 eAtT5, .int .i64 eAtW6, .int .i64 eEpoch7, .slice eBody8a eBody8n eBody8c, .int .u64 eSig9]] ww125 fun ee136 ww137 => ∃ (Writer127 : Int) (Index128 : Int) (Prev129 : Int) (AtT130 : Int) (AtW131 : Int) (Epoch132 : Int) (Body133a : Option Addr) (Body133n : Nat) (Body133c : Nat) (Sig134 : Int) (sign135 : Int), ee136 = .returned (.tuple #[.agg #[.int .i64 Writer127, .int .i64 Index128, .int .u64 Prev129, .int .i64 AtT130, .int .i64 AtW131, .int .i64 Epoch132, .slice Body133a Body133n Body133c, .int .u64 Sig134], .int .i64 sign135]) ∧
        Keep [p42, p84, p105] ww125 ww137 ∧
        (sum56 = sum60 →
          (sum57 = sum61 →
            ∀ (ww148 : World), Ext (fun b => b = p42) ww137 ww148 →
            Calls Try.prog 20 #[.agg #[.int .i64 Writer64, .int .i64 Index65, .int .u64 Prev66, .int .i64 AtT67, .int .i64 AtW68, .int .i64 Epoch69, .slice Body70a Body70n Body70c, .int .u64 Sig71], .agg #[.int .i64 Writer85, .int .i64 Index86, .int .u64 Prev87, .int .i64 AtT88, .int .i64 AtW89, .int .i64 Epoch90, .slice Body91a Body91n Body91c, .int .u64 Sig92]] ww148 fun ee153 ww154 => ∃ (same152 : Bool), ee153 = .returned (.bool same152) ∧
            Keep [p42, p84, p105] ww148 ww154 ∧
            (same152 = true →
              (sign72 = sign93 →
                (sign114 = sign135 →
                  Calls Try.prog 25 #[.pointer new43, .int .u64 pair49, .agg #[.int .i64 Writer64, .int .i64 Index65, .int .u64 Prev66, .int .i64 AtT67, .int .i64 AtW68, .int .i64 Epoch69, .slice Body70a Body70n Body70c, .int .u64 Sig71]] ww154 fun ee159 ww160 => ∃ (holds158 : Bool), ee159 = .returned (.bool holds158) ∧
                  Keep [p42, p105] ww154 ww160 ∧
                  Calls Try.prog 31 #[.pointer (some (blk q47)), .int .u64 pair49, .agg #[.int .i64 Writer85, .int .i64 Index86, .int .u64 Prev87, .int .i64 AtT88, .int .i64 AtW89, .int .i64 Epoch90, .slice Body91a Body91n Body91c, .int .u64 Sig92]] ww160 fun ee162 ww163 => ∃ (holds161 : Bool), ee162 = .returned (.bool holds161) ∧
                  Keep [p42] ww160 ww163 ∧
                  (holds158 = holds161 →
                    Calls Try.prog 25 #[.pointer new43, .int .u64 pair49, .agg #[.int .i64 fWriter10, .int .i64 fIndex11, .int .u64 fPrev12, .int .i64 fAtT13, .int .i64 fAtW14, .int .i64 fEpoch15, .slice fBody16a fBody16n fBody16c, .int .u64 sig18]] ww163 fun ee166 ww167 => ∃ (holds165 : Bool), ee166 = .returned (.bool holds165) ∧
                    Keep [p42] ww163 ww167 ∧
                    Calls Try.prog 31 #[.pointer (some (blk q47)), .int .u64 pair49, .agg #[.int .i64 fWriter10, .int .i64 fIndex11, .int .u64 fPrev12, .int .i64 fAtT13, .int .i64 fAtW14, .int .i64 fEpoch15, .slice fBody16a fBody16n fBody16c, .int .u64 sig18]] ww167 fun ee169 ww170 => ∃ (holds168 : Bool), ee169 = .returned (.bool holds168) ∧
                    (holds165 = holds168 →
                      Calls Try.prog 9 #[] ww170 fun ee173 ww174 => ∃ (alive172 : Bool), ee173 = .returned (.bool alive172) ∧
                      R (.bool alive172) ww174) ∧
                    (holds165 ≠ holds168 →
                      R (.bool false) ww170)) ∧
                  (holds158 ≠ holds161 →
                    R (.bool false) ww163)) ∧
                (sign114 ≠ sign135 →
                  R (.bool false) ww154)) ∧
              (sign72 ≠ sign93 →
                R (.bool false) ww154)) ∧
            (same152 = false →
              R (.bool false) ww154)) ∧
          (sum57 ≠ sum61 →
            ∀ (ww148 : World), Ext (fun b => b = p42) ww137 ww148 →
            R (.bool false) ww148)) ∧
        (sum56 ≠ sum60 →
          ∀ (ww148 : World), Ext (fun b => b = p42) ww137 ww148 →
          R (.bool false) ww148))))

theorem cachettelaw06_EntrySigns.up (draws1a : Option Addr) (draws1n : Nat) (draws1c : Nat) (eWriter2 : Int) (eIndex3 : Int) (ePrev4 : Int) (eAtT5 : Int) (eAtW6 : Int) (eEpoch7 : Int) (eBody8a : Option Addr) (eBody8n : Nat) (eBody8c : Nat) (eSig9 : Int) (fWriter10 : Int) (fIndex11 : Int) (fPrev12 : Int) (fAtT13 : Int) (fAtW14 : Int) (fEpoch15 : Int) (fBody16a : Option Addr) (fBody16n : Nat) (fBody16c : Nat) (fSig17 : Int) (sig18 : Int) {R : Value → World → Prop} {w : World} (h : cachettelaw06_EntrySigns.N draws1a draws1n draws1c eWriter2 eIndex3 ePrev4 eAtT5 eAtW6 eEpoch7 eBody8a eBody8n eBody8c eSig9 fWriter10 fIndex11 fPrev12 fAtT13 fAtW14 fEpoch15 fBody16a fBody16n fBody16c fSig17 sig18 R w) : cachettelaw06_EntrySigns.M draws1a draws1n draws1c eWriter2 eIndex3 ePrev4 eAtT5 eAtW6 eEpoch7 eBody8a eBody8n eBody8c eSig9 fWriter10 fIndex11 fPrev12 fAtT13 fAtW14 fEpoch15 fBody16a fBody16n fBody16c fSig17 sig18 R w := by
  unfold cachettelaw06_EntrySigns.M
  unfold cachettelaw06_EntrySigns.N at h
  refine thenW_in fun ww19 e19 => ?_
  have hb1 := Blk.of_new e19
  have hg1 := ((Ext.refl no w)).size
  have hx19 := (Ext.refl no w).x_alloc e19
  refine thenW_in fun ww20 e20 => ?_
  have hb2 := Blk.of_new e20
  have hg2 := (hx19).size
  have hb1_2 := Nat.ne_of_lt hb1.lt
  have hb1 := hb1.x_alloc e20
  have hx20 := hx19.x_alloc e20
  refine ⟨eWriter2, eIndex3, ePrev4, eAtT5, eAtW6, eEpoch7, eBody8a, eBody8n, eBody8c, eSig9, ⟨hb1.celli 0 rfl rfl, hb1.celli 1 rfl rfl, hb1.celli 2 rfl rfl, hb1.celli 3 rfl rfl, hb1.celli 4 rfl rfl, hb1.celli 5 rfl rfl, hb1.celli 6 rfl rfl, hb1.celli 7 rfl rfl, trivial⟩, ?_⟩
  refine (cachettelaw06_light.pure eWriter2 eIndex3 ePrev4 eAtT5 eAtW6 eEpoch7 eBody8a eBody8n eBody8c eSig9).mono fun ee ww21 ⟨he, hxx⟩ => ⟨(cachettelaw06_light.F eWriter2 eIndex3 ePrev4 eAtT5 eAtW6 eEpoch7 eBody8a eBody8n eBody8c eSig9), he, ?_⟩
  have hx21 := hx20.trans hxx
  have hb1 := hb1.ext hxx id
  have hb2 := hb2.ext hxx id
  refine bif_of (fun c22 => ?_) (fun c22 => ?_)
  · have h := h.1 (not_t c22)
    have h := h ww21 hx21
    refine h.mono fun ee26 ww27 h => ?_
    obtain ⟨alive25, he, h⟩ := h
    refine ⟨alive25, he, ?_⟩
    exact h
  · have h := h.2 (not_f c22)
    refine ⟨fWriter10, fIndex11, fPrev12, fAtT13, fAtW14, fEpoch15, fBody16a, fBody16n, fBody16c, fSig17, ⟨hb2.celli 0 rfl rfl, hb2.celli 1 rfl rfl, hb2.celli 2 rfl rfl, hb2.celli 3 rfl rfl, hb2.celli 4 rfl rfl, hb2.celli 5 rfl rfl, hb2.celli 6 rfl rfl, hb2.celli 7 rfl rfl, trivial⟩, ?_⟩
    refine (cachettelaw06_light.pure fWriter10 fIndex11 fPrev12 fAtT13 fAtW14 fEpoch15 fBody16a fBody16n fBody16c fSig17).mono fun ee ww28 ⟨he, hxx⟩ => ⟨(cachettelaw06_light.F fWriter10 fIndex11 fPrev12 fAtT13 fAtW14 fEpoch15 fBody16a fBody16n fBody16c fSig17), he, ?_⟩
    have hx28 := hx21.trans hxx
    have hb1 := hb1.ext hxx id
    have hb2 := hb2.ext hxx id
    refine bif_of (fun c29 => ?_) (fun c29 => ?_)
    · have h := h.1 (not_t c29)
      have h := h ww28 hx28
      refine h.mono fun ee33 ww34 h => ?_
      obtain ⟨alive32, he, h⟩ := h
      refine ⟨alive32, he, ?_⟩
      exact h
    · have h := h.2 (not_f c29)
      refine bif_of (fun c35 => ?_) (fun c35 => ?_)
      · have h := h.1 (of_decide_eq_true c35)
        have h := h ww28 hx28
        refine h.mono fun ee39 ww40 h => ?_
        obtain ⟨alive38, he, h⟩ := h
        refine ⟨alive38, he, ?_⟩
        exact h
      · have h := h.2 (Int.not_lt.1 (of_decide_eq_false c35))
        have h := h ww28 (w.heap.size) (ww19.heap.size) hx28 (Priv.cons hg1 hb1.lt (Priv.cons hg2 hb2.lt Priv.nil))
        refine h.mono fun ee44 ww45 h => ?_
        obtain ⟨new43, he, hk, h⟩ := h
        refine ⟨new43, he, ?_⟩
        have hb1 := hk.blk hb1 (by simp)
        have hb2 := hk.blk hb2 (by simp)
        refine thenW_in fun ww46 e46 => ?_
        have hb1 := hb1.x_alloc e46
        have hb2 := hb2.x_alloc e46
        have h := h ww46 ww45.heap.size ((Ext.refl no ww45).x_alloc e46) (Blk.of_new e46) ((Ext.refl no ww45)).size (size_lt_alloc e46)
        refine h.mono fun ee50 ww51 h => ?_
        obtain ⟨pair48, pair49, he, hk, h⟩ := h
        refine ⟨pair48, pair49, he, ?_⟩
        have hb1 := hk.blk hb1 (by simp)
        have hb2 := hk.blk hb2 (by simp)
        refine h.mono fun ee54 ww55 h => ?_
        obtain ⟨pair52, pair53, he, hk, h⟩ := h
        refine ⟨pair52, pair53, he, ?_⟩
        have hb1 := hk.blk hb1 (by simp)
        have hb2 := hk.blk hb2 (by simp)
        refine ⟨eWriter2, eIndex3, ePrev4, eAtT5, eAtW6, eEpoch7, eBody8a, eBody8n, eBody8c, eSig9, ⟨hb1.celli 0 rfl rfl, hb1.celli 1 rfl rfl, hb1.celli 2 rfl rfl, hb1.celli 3 rfl rfl, hb1.celli 4 rfl rfl, hb1.celli 5 rfl rfl, hb1.celli 6 rfl rfl, hb1.celli 7 rfl rfl, trivial⟩, ?_⟩
        refine h.mono fun ee58 ww59 h => ?_
        obtain ⟨sum56, sum57, he, hk, h⟩ := h
        refine ⟨sum56, sum57, he, ?_⟩
        have hb1 := hk.blk hb1 (by simp)
        have hb2 := hk.blk hb2 (by simp)
        refine ⟨eWriter2, eIndex3, ePrev4, eAtT5, eAtW6, eEpoch7, eBody8a, eBody8n, eBody8c, eSig9, ⟨hb1.celli 0 rfl rfl, hb1.celli 1 rfl rfl, hb1.celli 2 rfl rfl, hb1.celli 3 rfl rfl, hb1.celli 4 rfl rfl, hb1.celli 5 rfl rfl, hb1.celli 6 rfl rfl, hb1.celli 7 rfl rfl, trivial⟩, ?_⟩
        refine h.mono fun ee62 ww63 h => ?_
        obtain ⟨sum60, sum61, he, hk, h⟩ := h
        refine ⟨sum60, sum61, he, ?_⟩
        have hb1 := hk.blk hb1 (by simp)
        have hb2 := hk.blk hb2 (by simp)
        refine ⟨eWriter2, eIndex3, ePrev4, eAtT5, eAtW6, eEpoch7, eBody8a, eBody8n, eBody8c, eSig9, ⟨hb1.celli 0 rfl rfl, hb1.celli 1 rfl rfl, hb1.celli 2 rfl rfl, hb1.celli 3 rfl rfl, hb1.celli 4 rfl rfl, hb1.celli 5 rfl rfl, hb1.celli 6 rfl rfl, hb1.celli 7 rfl rfl, trivial⟩, ?_⟩
        refine h.mono fun ee73 ww74 h => ?_
        obtain ⟨Writer64, Index65, Prev66, AtT67, AtW68, Epoch69, Body70a, Body70n, Body70c, Sig71, sign72, he, hk, h⟩ := h
        refine ⟨Writer64, Index65, Prev66, AtT67, AtW68, Epoch69, Body70a, Body70n, Body70c, Sig71, sign72, he, ?_⟩
        have hb1 := hk.blk hb1 (by simp)
        have hb2 := hk.blk hb2 (by simp)
        refine thenW_in fun ww75 e75 => ?_
        have hb3 := Blk.of_new e75
        have hg3 := ((Ext.refl no ww74)).size
        have hb1_3 := Nat.ne_of_lt hb1.lt
        have hb1 := hb1.x_alloc e75
        have hb2_3 := Nat.ne_of_lt hb2.lt
        have hb2 := hb2.x_alloc e75
        have hx75 := (Ext.refl no ww74).x_alloc e75
        refine ⟨hb3.cani 0 rfl rfl, thenW_in fun ww76 e76 => ?_⟩
        have hx76 := hx75.x_set (q := ww74.heap.size) (i := 0) rfl (.inr hg3) e76
        have hb1 := hb1.oth (q := ww74.heap.size) (i := 0) rfl hb1_3 e76
        have hb2 := hb2.oth (q := ww74.heap.size) (i := 0) rfl hb2_3 e76
        have hb3 := hb3.seti 0 rfl e76
        refine ⟨hb3.cani 1 rfl rfl, thenW_in fun ww77 e77 => ?_⟩
        have hx77 := hx76.x_set (q := ww74.heap.size) (i := 1) rfl (.inr hg3) e77
        have hb1 := hb1.oth (q := ww74.heap.size) (i := 1) rfl hb1_3 e77
        have hb2 := hb2.oth (q := ww74.heap.size) (i := 1) rfl hb2_3 e77
        have hb3 := hb3.seti 1 rfl e77
        refine ⟨hb3.cani 2 rfl rfl, thenW_in fun ww78 e78 => ?_⟩
        have hx78 := hx77.x_set (q := ww74.heap.size) (i := 2) rfl (.inr hg3) e78
        have hb1 := hb1.oth (q := ww74.heap.size) (i := 2) rfl hb1_3 e78
        have hb2 := hb2.oth (q := ww74.heap.size) (i := 2) rfl hb2_3 e78
        have hb3 := hb3.seti 2 rfl e78
        refine ⟨hb3.cani 3 rfl rfl, thenW_in fun ww79 e79 => ?_⟩
        have hx79 := hx78.x_set (q := ww74.heap.size) (i := 3) rfl (.inr hg3) e79
        have hb1 := hb1.oth (q := ww74.heap.size) (i := 3) rfl hb1_3 e79
        have hb2 := hb2.oth (q := ww74.heap.size) (i := 3) rfl hb2_3 e79
        have hb3 := hb3.seti 3 rfl e79
        refine ⟨hb3.cani 4 rfl rfl, thenW_in fun ww80 e80 => ?_⟩
        have hx80 := hx79.x_set (q := ww74.heap.size) (i := 4) rfl (.inr hg3) e80
        have hb1 := hb1.oth (q := ww74.heap.size) (i := 4) rfl hb1_3 e80
        have hb2 := hb2.oth (q := ww74.heap.size) (i := 4) rfl hb2_3 e80
        have hb3 := hb3.seti 4 rfl e80
        refine ⟨hb3.cani 5 rfl rfl, thenW_in fun ww81 e81 => ?_⟩
        have hx81 := hx80.x_set (q := ww74.heap.size) (i := 5) rfl (.inr hg3) e81
        have hb1 := hb1.oth (q := ww74.heap.size) (i := 5) rfl hb1_3 e81
        have hb2 := hb2.oth (q := ww74.heap.size) (i := 5) rfl hb2_3 e81
        have hb3 := hb3.seti 5 rfl e81
        refine ⟨hb3.cani 6 rfl rfl, thenW_in fun ww82 e82 => ?_⟩
        have hx82 := hx81.x_set (q := ww74.heap.size) (i := 6) rfl (.inr hg3) e82
        have hb1 := hb1.oth (q := ww74.heap.size) (i := 6) rfl hb1_3 e82
        have hb2 := hb2.oth (q := ww74.heap.size) (i := 6) rfl hb2_3 e82
        have hb3 := hb3.seti 6 rfl e82
        refine ⟨hb3.cani 7 rfl rfl, thenW_in fun ww83 e83 => ?_⟩
        have hx83 := hx82.x_set (q := ww74.heap.size) (i := 7) rfl (.inr hg3) e83
        have hb1 := hb1.oth (q := ww74.heap.size) (i := 7) rfl hb1_3 e83
        have hb2 := hb2.oth (q := ww74.heap.size) (i := 7) rfl hb2_3 e83
        have hb3 := hb3.seti 7 rfl e83
        refine ⟨eWriter2, eIndex3, ePrev4, eAtT5, eAtW6, eEpoch7, eBody8a, eBody8n, eBody8c, eSig9, ⟨hb1.celli 0 rfl rfl, hb1.celli 1 rfl rfl, hb1.celli 2 rfl rfl, hb1.celli 3 rfl rfl, hb1.celli 4 rfl rfl, hb1.celli 5 rfl rfl, hb1.celli 6 rfl rfl, hb1.celli 7 rfl rfl, trivial⟩, ?_⟩
        have h := h ww83 (ww74.heap.size) hx83 (Priv.cons hg3 hb3.lt Priv.nil)
        refine h.mono fun ee94 ww95 h => ?_
        obtain ⟨Writer85, Index86, Prev87, AtT88, AtW89, Epoch90, Body91a, Body91n, Body91c, Sig92, sign93, he, hk, h⟩ := h
        refine ⟨Writer85, Index86, Prev87, AtT88, AtW89, Epoch90, Body91a, Body91n, Body91c, Sig92, sign93, he, ?_⟩
        have hb1 := hk.blk hb1 (by simp)
        have hb2 := hk.blk hb2 (by simp)
        have hb3 := hk.blk hb3 (by simp)
        refine thenW_in fun ww96 e96 => ?_
        have hb4 := Blk.of_new e96
        have hg4 := ((Ext.refl no ww95)).size
        have hb1_4 := Nat.ne_of_lt hb1.lt
        have hb1 := hb1.x_alloc e96
        have hb2_4 := Nat.ne_of_lt hb2.lt
        have hb2 := hb2.x_alloc e96
        have hb3_4 := Nat.ne_of_lt hb3.lt
        have hb3 := hb3.x_alloc e96
        have hx96 := (Ext.refl no ww95).x_alloc e96
        refine ⟨hb4.cani 0 rfl rfl, thenW_in fun ww97 e97 => ?_⟩
        have hx97 := hx96.x_set (q := ww95.heap.size) (i := 0) rfl (.inr hg4) e97
        have hb1 := hb1.oth (q := ww95.heap.size) (i := 0) rfl hb1_4 e97
        have hb2 := hb2.oth (q := ww95.heap.size) (i := 0) rfl hb2_4 e97
        have hb3 := hb3.oth (q := ww95.heap.size) (i := 0) rfl hb3_4 e97
        have hb4 := hb4.seti 0 rfl e97
        refine ⟨hb4.cani 1 rfl rfl, thenW_in fun ww98 e98 => ?_⟩
        have hx98 := hx97.x_set (q := ww95.heap.size) (i := 1) rfl (.inr hg4) e98
        have hb1 := hb1.oth (q := ww95.heap.size) (i := 1) rfl hb1_4 e98
        have hb2 := hb2.oth (q := ww95.heap.size) (i := 1) rfl hb2_4 e98
        have hb3 := hb3.oth (q := ww95.heap.size) (i := 1) rfl hb3_4 e98
        have hb4 := hb4.seti 1 rfl e98
        refine ⟨hb4.cani 2 rfl rfl, thenW_in fun ww99 e99 => ?_⟩
        have hx99 := hx98.x_set (q := ww95.heap.size) (i := 2) rfl (.inr hg4) e99
        have hb1 := hb1.oth (q := ww95.heap.size) (i := 2) rfl hb1_4 e99
        have hb2 := hb2.oth (q := ww95.heap.size) (i := 2) rfl hb2_4 e99
        have hb3 := hb3.oth (q := ww95.heap.size) (i := 2) rfl hb3_4 e99
        have hb4 := hb4.seti 2 rfl e99
        refine ⟨hb4.cani 3 rfl rfl, thenW_in fun ww100 e100 => ?_⟩
        have hx100 := hx99.x_set (q := ww95.heap.size) (i := 3) rfl (.inr hg4) e100
        have hb1 := hb1.oth (q := ww95.heap.size) (i := 3) rfl hb1_4 e100
        have hb2 := hb2.oth (q := ww95.heap.size) (i := 3) rfl hb2_4 e100
        have hb3 := hb3.oth (q := ww95.heap.size) (i := 3) rfl hb3_4 e100
        have hb4 := hb4.seti 3 rfl e100
        refine ⟨hb4.cani 4 rfl rfl, thenW_in fun ww101 e101 => ?_⟩
        have hx101 := hx100.x_set (q := ww95.heap.size) (i := 4) rfl (.inr hg4) e101
        have hb1 := hb1.oth (q := ww95.heap.size) (i := 4) rfl hb1_4 e101
        have hb2 := hb2.oth (q := ww95.heap.size) (i := 4) rfl hb2_4 e101
        have hb3 := hb3.oth (q := ww95.heap.size) (i := 4) rfl hb3_4 e101
        have hb4 := hb4.seti 4 rfl e101
        refine ⟨hb4.cani 5 rfl rfl, thenW_in fun ww102 e102 => ?_⟩
        have hx102 := hx101.x_set (q := ww95.heap.size) (i := 5) rfl (.inr hg4) e102
        have hb1 := hb1.oth (q := ww95.heap.size) (i := 5) rfl hb1_4 e102
        have hb2 := hb2.oth (q := ww95.heap.size) (i := 5) rfl hb2_4 e102
        have hb3 := hb3.oth (q := ww95.heap.size) (i := 5) rfl hb3_4 e102
        have hb4 := hb4.seti 5 rfl e102
        refine ⟨hb4.cani 6 rfl rfl, thenW_in fun ww103 e103 => ?_⟩
        have hx103 := hx102.x_set (q := ww95.heap.size) (i := 6) rfl (.inr hg4) e103
        have hb1 := hb1.oth (q := ww95.heap.size) (i := 6) rfl hb1_4 e103
        have hb2 := hb2.oth (q := ww95.heap.size) (i := 6) rfl hb2_4 e103
        have hb3 := hb3.oth (q := ww95.heap.size) (i := 6) rfl hb3_4 e103
        have hb4 := hb4.seti 6 rfl e103
        refine ⟨hb4.cani 7 rfl rfl, thenW_in fun ww104 e104 => ?_⟩
        have hx104 := hx103.x_set (q := ww95.heap.size) (i := 7) rfl (.inr hg4) e104
        have hb1 := hb1.oth (q := ww95.heap.size) (i := 7) rfl hb1_4 e104
        have hb2 := hb2.oth (q := ww95.heap.size) (i := 7) rfl hb2_4 e104
        have hb3 := hb3.oth (q := ww95.heap.size) (i := 7) rfl hb3_4 e104
        have hb4 := hb4.seti 7 rfl e104
        refine ⟨eWriter2, eIndex3, ePrev4, eAtT5, eAtW6, eEpoch7, eBody8a, eBody8n, eBody8c, eSig9, ⟨hb1.celli 0 rfl rfl, hb1.celli 1 rfl rfl, hb1.celli 2 rfl rfl, hb1.celli 3 rfl rfl, hb1.celli 4 rfl rfl, hb1.celli 5 rfl rfl, hb1.celli 6 rfl rfl, hb1.celli 7 rfl rfl, trivial⟩, ?_⟩
        have h := h ww104 (ww95.heap.size) hx104 (Priv.cons hg4 hb4.lt Priv.nil)
        refine h.mono fun ee115 ww116 h => ?_
        obtain ⟨Writer106, Index107, Prev108, AtT109, AtW110, Epoch111, Body112a, Body112n, Body112c, Sig113, sign114, he, hk, h⟩ := h
        refine ⟨Writer106, Index107, Prev108, AtT109, AtW110, Epoch111, Body112a, Body112n, Body112c, Sig113, sign114, he, ?_⟩
        have hb1 := hk.blk hb1 (by simp)
        have hb2 := hk.blk hb2 (by simp)
        have hb3 := hk.blk hb3 (by simp)
        have hb4 := hk.blk hb4 (by simp)
        refine thenW_in fun ww117 e117 => ?_
        have hb5 := Blk.of_new e117
        have hg5 := ((Ext.refl no ww116)).size
        have hb1_5 := Nat.ne_of_lt hb1.lt
        have hb1 := hb1.x_alloc e117
        have hb2_5 := Nat.ne_of_lt hb2.lt
        have hb2 := hb2.x_alloc e117
        have hb3_5 := Nat.ne_of_lt hb3.lt
        have hb3 := hb3.x_alloc e117
        have hb4_5 := Nat.ne_of_lt hb4.lt
        have hb4 := hb4.x_alloc e117
        have hx117 := (Ext.refl no ww116).x_alloc e117
        refine ⟨hb5.cani 0 rfl rfl, thenW_in fun ww118 e118 => ?_⟩
        have hx118 := hx117.x_set (q := ww116.heap.size) (i := 0) rfl (.inr hg5) e118
        have hb1 := hb1.oth (q := ww116.heap.size) (i := 0) rfl hb1_5 e118
        have hb2 := hb2.oth (q := ww116.heap.size) (i := 0) rfl hb2_5 e118
        have hb3 := hb3.oth (q := ww116.heap.size) (i := 0) rfl hb3_5 e118
        have hb4 := hb4.oth (q := ww116.heap.size) (i := 0) rfl hb4_5 e118
        have hb5 := hb5.seti 0 rfl e118
        refine ⟨hb5.cani 1 rfl rfl, thenW_in fun ww119 e119 => ?_⟩
        have hx119 := hx118.x_set (q := ww116.heap.size) (i := 1) rfl (.inr hg5) e119
        have hb1 := hb1.oth (q := ww116.heap.size) (i := 1) rfl hb1_5 e119
        have hb2 := hb2.oth (q := ww116.heap.size) (i := 1) rfl hb2_5 e119
        have hb3 := hb3.oth (q := ww116.heap.size) (i := 1) rfl hb3_5 e119
        have hb4 := hb4.oth (q := ww116.heap.size) (i := 1) rfl hb4_5 e119
        have hb5 := hb5.seti 1 rfl e119
        refine ⟨hb5.cani 2 rfl rfl, thenW_in fun ww120 e120 => ?_⟩
        have hx120 := hx119.x_set (q := ww116.heap.size) (i := 2) rfl (.inr hg5) e120
        have hb1 := hb1.oth (q := ww116.heap.size) (i := 2) rfl hb1_5 e120
        have hb2 := hb2.oth (q := ww116.heap.size) (i := 2) rfl hb2_5 e120
        have hb3 := hb3.oth (q := ww116.heap.size) (i := 2) rfl hb3_5 e120
        have hb4 := hb4.oth (q := ww116.heap.size) (i := 2) rfl hb4_5 e120
        have hb5 := hb5.seti 2 rfl e120
        refine ⟨hb5.cani 3 rfl rfl, thenW_in fun ww121 e121 => ?_⟩
        have hx121 := hx120.x_set (q := ww116.heap.size) (i := 3) rfl (.inr hg5) e121
        have hb1 := hb1.oth (q := ww116.heap.size) (i := 3) rfl hb1_5 e121
        have hb2 := hb2.oth (q := ww116.heap.size) (i := 3) rfl hb2_5 e121
        have hb3 := hb3.oth (q := ww116.heap.size) (i := 3) rfl hb3_5 e121
        have hb4 := hb4.oth (q := ww116.heap.size) (i := 3) rfl hb4_5 e121
        have hb5 := hb5.seti 3 rfl e121
        refine ⟨hb5.cani 4 rfl rfl, thenW_in fun ww122 e122 => ?_⟩
        have hx122 := hx121.x_set (q := ww116.heap.size) (i := 4) rfl (.inr hg5) e122
        have hb1 := hb1.oth (q := ww116.heap.size) (i := 4) rfl hb1_5 e122
        have hb2 := hb2.oth (q := ww116.heap.size) (i := 4) rfl hb2_5 e122
        have hb3 := hb3.oth (q := ww116.heap.size) (i := 4) rfl hb3_5 e122
        have hb4 := hb4.oth (q := ww116.heap.size) (i := 4) rfl hb4_5 e122
        have hb5 := hb5.seti 4 rfl e122
        refine ⟨hb5.cani 5 rfl rfl, thenW_in fun ww123 e123 => ?_⟩
        have hx123 := hx122.x_set (q := ww116.heap.size) (i := 5) rfl (.inr hg5) e123
        have hb1 := hb1.oth (q := ww116.heap.size) (i := 5) rfl hb1_5 e123
        have hb2 := hb2.oth (q := ww116.heap.size) (i := 5) rfl hb2_5 e123
        have hb3 := hb3.oth (q := ww116.heap.size) (i := 5) rfl hb3_5 e123
        have hb4 := hb4.oth (q := ww116.heap.size) (i := 5) rfl hb4_5 e123
        have hb5 := hb5.seti 5 rfl e123
        refine ⟨hb5.cani 6 rfl rfl, thenW_in fun ww124 e124 => ?_⟩
        have hx124 := hx123.x_set (q := ww116.heap.size) (i := 6) rfl (.inr hg5) e124
        have hb1 := hb1.oth (q := ww116.heap.size) (i := 6) rfl hb1_5 e124
        have hb2 := hb2.oth (q := ww116.heap.size) (i := 6) rfl hb2_5 e124
        have hb3 := hb3.oth (q := ww116.heap.size) (i := 6) rfl hb3_5 e124
        have hb4 := hb4.oth (q := ww116.heap.size) (i := 6) rfl hb4_5 e124
        have hb5 := hb5.seti 6 rfl e124
        refine ⟨hb5.cani 7 rfl rfl, thenW_in fun ww125 e125 => ?_⟩
        have hx125 := hx124.x_set (q := ww116.heap.size) (i := 7) rfl (.inr hg5) e125
        have hb1 := hb1.oth (q := ww116.heap.size) (i := 7) rfl hb1_5 e125
        have hb2 := hb2.oth (q := ww116.heap.size) (i := 7) rfl hb2_5 e125
        have hb3 := hb3.oth (q := ww116.heap.size) (i := 7) rfl hb3_5 e125
        have hb4 := hb4.oth (q := ww116.heap.size) (i := 7) rfl hb4_5 e125
        have hb5 := hb5.seti 7 rfl e125
        refine ⟨eWriter2, eIndex3, ePrev4, eAtT5, eAtW6, eEpoch7, eBody8a, eBody8n, eBody8c, eSig9, ⟨hb1.celli 0 rfl rfl, hb1.celli 1 rfl rfl, hb1.celli 2 rfl rfl, hb1.celli 3 rfl rfl, hb1.celli 4 rfl rfl, hb1.celli 5 rfl rfl, hb1.celli 6 rfl rfl, hb1.celli 7 rfl rfl, trivial⟩, ?_⟩
        have h := h ww125 hx125
        refine h.mono fun ee136 ww137 h => ?_
        obtain ⟨Writer127, Index128, Prev129, AtT130, AtW131, Epoch132, Body133a, Body133n, Body133c, Sig134, sign135, he, hk, h⟩ := h
        refine ⟨Writer127, Index128, Prev129, AtT130, AtW131, Epoch132, Body133a, Body133n, Body133c, Sig134, sign135, he, ?_⟩
        have hb2 := hk.blk hb2 (by simp)
        have hb3 := hk.blk hb3 (by simp)
        have hb4 := hk.blk hb4 (by simp)
        refine thenW_in fun ww138 e138 => ?_
        have hb6 := Blk.of_new e138
        have hg6 := ((Ext.refl no ww137)).size
        have hb2_6 := Nat.ne_of_lt hb2.lt
        have hb2 := hb2.x_alloc e138
        have hb3_6 := Nat.ne_of_lt hb3.lt
        have hb3 := hb3.x_alloc e138
        have hb4_6 := Nat.ne_of_lt hb4.lt
        have hb4 := hb4.x_alloc e138
        have hx138 := (Ext.refl no ww137).x_alloc e138
        refine ⟨hb6.cani 0 rfl rfl, thenW_in fun ww139 e139 => ?_⟩
        have hx139 := hx138.x_set (q := ww137.heap.size) (i := 0) rfl (.inr hg6) e139
        have hb2 := hb2.oth (q := ww137.heap.size) (i := 0) rfl hb2_6 e139
        have hb3 := hb3.oth (q := ww137.heap.size) (i := 0) rfl hb3_6 e139
        have hb4 := hb4.oth (q := ww137.heap.size) (i := 0) rfl hb4_6 e139
        have hb6 := hb6.seti 0 rfl e139
        refine ⟨hb6.cani 1 rfl rfl, thenW_in fun ww140 e140 => ?_⟩
        have hx140 := hx139.x_set (q := ww137.heap.size) (i := 1) rfl (.inr hg6) e140
        have hb2 := hb2.oth (q := ww137.heap.size) (i := 1) rfl hb2_6 e140
        have hb3 := hb3.oth (q := ww137.heap.size) (i := 1) rfl hb3_6 e140
        have hb4 := hb4.oth (q := ww137.heap.size) (i := 1) rfl hb4_6 e140
        have hb6 := hb6.seti 1 rfl e140
        refine ⟨hb6.cani 2 rfl rfl, thenW_in fun ww141 e141 => ?_⟩
        have hx141 := hx140.x_set (q := ww137.heap.size) (i := 2) rfl (.inr hg6) e141
        have hb2 := hb2.oth (q := ww137.heap.size) (i := 2) rfl hb2_6 e141
        have hb3 := hb3.oth (q := ww137.heap.size) (i := 2) rfl hb3_6 e141
        have hb4 := hb4.oth (q := ww137.heap.size) (i := 2) rfl hb4_6 e141
        have hb6 := hb6.seti 2 rfl e141
        refine ⟨hb6.cani 3 rfl rfl, thenW_in fun ww142 e142 => ?_⟩
        have hx142 := hx141.x_set (q := ww137.heap.size) (i := 3) rfl (.inr hg6) e142
        have hb2 := hb2.oth (q := ww137.heap.size) (i := 3) rfl hb2_6 e142
        have hb3 := hb3.oth (q := ww137.heap.size) (i := 3) rfl hb3_6 e142
        have hb4 := hb4.oth (q := ww137.heap.size) (i := 3) rfl hb4_6 e142
        have hb6 := hb6.seti 3 rfl e142
        refine ⟨hb6.cani 4 rfl rfl, thenW_in fun ww143 e143 => ?_⟩
        have hx143 := hx142.x_set (q := ww137.heap.size) (i := 4) rfl (.inr hg6) e143
        have hb2 := hb2.oth (q := ww137.heap.size) (i := 4) rfl hb2_6 e143
        have hb3 := hb3.oth (q := ww137.heap.size) (i := 4) rfl hb3_6 e143
        have hb4 := hb4.oth (q := ww137.heap.size) (i := 4) rfl hb4_6 e143
        have hb6 := hb6.seti 4 rfl e143
        refine ⟨hb6.cani 5 rfl rfl, thenW_in fun ww144 e144 => ?_⟩
        have hx144 := hx143.x_set (q := ww137.heap.size) (i := 5) rfl (.inr hg6) e144
        have hb2 := hb2.oth (q := ww137.heap.size) (i := 5) rfl hb2_6 e144
        have hb3 := hb3.oth (q := ww137.heap.size) (i := 5) rfl hb3_6 e144
        have hb4 := hb4.oth (q := ww137.heap.size) (i := 5) rfl hb4_6 e144
        have hb6 := hb6.seti 5 rfl e144
        refine ⟨hb6.cani 6 rfl rfl, thenW_in fun ww145 e145 => ?_⟩
        have hx145 := hx144.x_set (q := ww137.heap.size) (i := 6) rfl (.inr hg6) e145
        have hb2 := hb2.oth (q := ww137.heap.size) (i := 6) rfl hb2_6 e145
        have hb3 := hb3.oth (q := ww137.heap.size) (i := 6) rfl hb3_6 e145
        have hb4 := hb4.oth (q := ww137.heap.size) (i := 6) rfl hb4_6 e145
        have hb6 := hb6.seti 6 rfl e145
        refine ⟨hb6.cani 7 rfl rfl, thenW_in fun ww146 e146 => ?_⟩
        have hx146 := hx145.x_set (q := ww137.heap.size) (i := 7) rfl (.inr hg6) e146
        have hb2 := hb2.oth (q := ww137.heap.size) (i := 7) rfl hb2_6 e146
        have hb3 := hb3.oth (q := ww137.heap.size) (i := 7) rfl hb3_6 e146
        have hb4 := hb4.oth (q := ww137.heap.size) (i := 7) rfl hb4_6 e146
        have hb6 := hb6.seti 7 rfl e146
        have hm147 : Ext (fun b => b = ww19.heap.size) ww137 ww146 := (hx146).none
        refine ⟨hb2.cani 7 rfl rfl, thenW_in fun ww147 e147 => ?_⟩
        have hx147 := hm147.x_set (q := ww19.heap.size) (i := 7) rfl (.inl rfl) e147
        have hb2 := hb2.seti 7 rfl e147
        have hb3 := hb3.oth (q := ww19.heap.size) (i := 7) rfl (Ne.symm hb2_3) e147
        have hb4 := hb4.oth (q := ww19.heap.size) (i := 7) rfl (Ne.symm hb2_4) e147
        refine thenW_in fun ww148 e148 => ?_
        have hx148 := hx147.x_drew e148
        have hb2 := hb2.x_drew e148
        have hb3 := hb3.x_drew e148
        have hb4 := hb4.x_drew e148
        refine bif_of (fun c149 => ?_) (fun c149 => ?_)
        · have h := h.1 (beq_t c149)
          refine bif_of (fun c150 => ?_) (fun c150 => ?_)
          · have h := h.1 (beq_t c150)
            refine ⟨Writer64, Index65, Prev66, AtT67, AtW68, Epoch69, Body70a, Body70n, Body70c, Sig71, ⟨hb3.celli 0 rfl rfl, hb3.celli 1 rfl rfl, hb3.celli 2 rfl rfl, hb3.celli 3 rfl rfl, hb3.celli 4 rfl rfl, hb3.celli 5 rfl rfl, hb3.celli 6 rfl rfl, hb3.celli 7 rfl rfl, trivial⟩, ?_⟩
            refine ⟨Writer85, Index86, Prev87, AtT88, AtW89, Epoch90, Body91a, Body91n, Body91c, Sig92, ⟨hb4.celli 0 rfl rfl, hb4.celli 1 rfl rfl, hb4.celli 2 rfl rfl, hb4.celli 3 rfl rfl, hb4.celli 4 rfl rfl, hb4.celli 5 rfl rfl, hb4.celli 6 rfl rfl, hb4.celli 7 rfl rfl, trivial⟩, ?_⟩
            have h := h ww148 hx148
            refine h.mono fun ee153 ww154 h => ?_
            obtain ⟨same152, he, hk, h⟩ := h
            refine ⟨same152, he, ?_⟩
            have hb2 := hk.blk hb2 (by simp)
            have hb3 := hk.blk hb3 (by simp)
            have hb4 := hk.blk hb4 (by simp)
            refine bif_of (fun c155 => ?_) (fun c155 => ?_)
            · have h := h.1 c155
              refine bif_of (fun c156 => ?_) (fun c156 => ?_)
              · have h := h.1 (beq_t c156)
                refine bif_of (fun c157 => ?_) (fun c157 => ?_)
                · have h := h.1 (beq_t c157)
                  refine ⟨Writer64, Index65, Prev66, AtT67, AtW68, Epoch69, Body70a, Body70n, Body70c, Sig71, ⟨hb3.celli 0 rfl rfl, hb3.celli 1 rfl rfl, hb3.celli 2 rfl rfl, hb3.celli 3 rfl rfl, hb3.celli 4 rfl rfl, hb3.celli 5 rfl rfl, hb3.celli 6 rfl rfl, hb3.celli 7 rfl rfl, trivial⟩, ?_⟩
                  refine ⟨Writer85, Index86, Prev87, AtT88, AtW89, Epoch90, Body91a, Body91n, Body91c, Sig92, ⟨hb4.celli 0 rfl rfl, hb4.celli 1 rfl rfl, hb4.celli 2 rfl rfl, hb4.celli 3 rfl rfl, hb4.celli 4 rfl rfl, hb4.celli 5 rfl rfl, hb4.celli 6 rfl rfl, hb4.celli 7 rfl rfl, trivial⟩, ?_⟩
                  refine h.mono fun ee159 ww160 h => ?_
                  obtain ⟨holds158, he, hk, h⟩ := h
                  refine ⟨holds158, he, ?_⟩
                  have hb2 := hk.blk hb2 (by simp)
                  have hb4 := hk.blk hb4 (by simp)
                  refine ⟨⟨hb4.celli 0 rfl rfl, hb4.celli 1 rfl rfl, hb4.celli 2 rfl rfl, hb4.celli 3 rfl rfl, hb4.celli 4 rfl rfl, hb4.celli 5 rfl rfl, hb4.celli 6 rfl rfl, hb4.celli 7 rfl rfl, trivial⟩, ?_⟩
                  refine h.mono fun ee162 ww163 h => ?_
                  obtain ⟨holds161, he, hk, h⟩ := h
                  refine ⟨holds161, he, ?_⟩
                  have hb2 := hk.blk hb2 (by simp)
                  refine bif_of (fun c164 => ?_) (fun c164 => ?_)
                  · have h := h.1 (bbeq_t c164)
                    refine ⟨fWriter10, fIndex11, fPrev12, fAtT13, fAtW14, fEpoch15, fBody16a, fBody16n, fBody16c, sig18, ⟨hb2.celli 0 rfl rfl, hb2.celli 1 rfl rfl, hb2.celli 2 rfl rfl, hb2.celli 3 rfl rfl, hb2.celli 4 rfl rfl, hb2.celli 5 rfl rfl, hb2.celli 6 rfl rfl, hb2.celli 7 rfl rfl, trivial⟩, ?_⟩
                    refine ⟨fWriter10, fIndex11, fPrev12, fAtT13, fAtW14, fEpoch15, fBody16a, fBody16n, fBody16c, sig18, ⟨hb2.celli 0 rfl rfl, hb2.celli 1 rfl rfl, hb2.celli 2 rfl rfl, hb2.celli 3 rfl rfl, hb2.celli 4 rfl rfl, hb2.celli 5 rfl rfl, hb2.celli 6 rfl rfl, hb2.celli 7 rfl rfl, trivial⟩, ?_⟩
                    refine h.mono fun ee166 ww167 h => ?_
                    obtain ⟨holds165, he, hk, h⟩ := h
                    refine ⟨holds165, he, ?_⟩
                    have hb2 := hk.blk hb2 (by simp)
                    refine ⟨⟨hb2.celli 0 rfl rfl, hb2.celli 1 rfl rfl, hb2.celli 2 rfl rfl, hb2.celli 3 rfl rfl, hb2.celli 4 rfl rfl, hb2.celli 5 rfl rfl, hb2.celli 6 rfl rfl, hb2.celli 7 rfl rfl, trivial⟩, ?_⟩
                    refine h.mono fun ee169 ww170 h => ?_
                    obtain ⟨holds168, he, h⟩ := h
                    refine ⟨holds168, he, ?_⟩
                    refine bif_of (fun c171 => ?_) (fun c171 => ?_)
                    · have h := h.1 (bbeq_t c171)
                      refine h.mono fun ee173 ww174 h => ?_
                      obtain ⟨alive172, he, h⟩ := h
                      refine ⟨alive172, he, ?_⟩
                      exact h
                    · have h := h.2 (bbeq_f c171)
                      exact h
                  · have h := h.2 (bbeq_f c164)
                    exact h
                · have h := h.2 (beq_f c157)
                  exact h
              · have h := h.2 (beq_f c156)
                exact h
            · have h := h.2 c155
              exact h
          · have h := h.2 (beq_f c150)
            have h := h ww148 hx148
            exact h
        · have h := h.2 (beq_f c149)
          have h := h ww148 hx148
          exact h

theorem cachettelaw06_EntrySigns.go (draws1a : Option Addr) (draws1n : Nat) (draws1c : Nat) (eWriter2 : Int) (eIndex3 : Int) (ePrev4 : Int) (eAtT5 : Int) (eAtW6 : Int) (eEpoch7 : Int) (eBody8a : Option Addr) (eBody8n : Nat) (eBody8c : Nat) (eSig9 : Int) (fWriter10 : Int) (fIndex11 : Int) (fPrev12 : Int) (fAtT13 : Int) (fAtW14 : Int) (fEpoch15 : Int) (fBody16a : Option Addr) (fBody16n : Nat) (fBody16c : Nat) (fSig17 : Int) (sig18 : Int) {R : Value → World → Prop} {w : World} (h : cachettelaw06_EntrySigns.N draws1a draws1n draws1c eWriter2 eIndex3 ePrev4 eAtT5 eAtW6 eEpoch7 eBody8a eBody8n eBody8c eSig9 fWriter10 fIndex11 fPrev12 fAtT13 fAtW14 fEpoch15 fBody16a fBody16n fBody16c fSig17 sig18 R w) : Calls Try.prog 6 #[.slice draws1a draws1n draws1c, .agg #[.int .i64 eWriter2, .int .i64 eIndex3, .int .u64 ePrev4, .int .i64 eAtT5, .int .i64 eAtW6, .int .i64 eEpoch7, .slice eBody8a eBody8n eBody8c, .int .u64 eSig9], .agg #[.int .i64 fWriter10, .int .i64 fIndex11, .int .u64 fPrev12, .int .i64 fAtT13, .int .i64 fAtW14, .int .i64 fEpoch15, .slice fBody16a fBody16n fBody16c, .int .u64 fSig17], .int .u64 sig18] w fun e w' => ∃ v, e = .returned v ∧ R v w' := cachettelaw06_EntrySigns.ok draws1a draws1n draws1c eWriter2 eIndex3 ePrev4 eAtT5 eAtW6 eEpoch7 eBody8a eBody8n eBody8c eSig9 fWriter10 fIndex11 fPrev12 fAtT13 fAtW14 fEpoch15 fBody16a fBody16n fBody16c fSig17 sig18 (cachettelaw06_EntrySigns.up draws1a draws1n draws1c eWriter2 eIndex3 ePrev4 eAtT5 eAtW6 eEpoch7 eBody8a eBody8n eBody8c eSig9 fWriter10 fIndex11 fPrev12 fAtT13 fAtW14 fEpoch15 fBody16a fBody16n fBody16c fSig17 sig18 h)
theorem cachettelaw06_EntrySigns.run (draws1a : Option Addr) (draws1n : Nat) (draws1c : Nat) (eWriter2 : Int) (eIndex3 : Int) (ePrev4 : Int) (eAtT5 : Int) (eAtW6 : Int) (eEpoch7 : Int) (eBody8a : Option Addr) (eBody8n : Nat) (eBody8c : Nat) (eSig9 : Int) (fWriter10 : Int) (fIndex11 : Int) (fPrev12 : Int) (fAtT13 : Int) (fAtW14 : Int) (fEpoch15 : Int) (fBody16a : Option Addr) (fBody16n : Nat) (fBody16c : Nat) (fSig17 : Int) (sig18 : Int) {V : Value} {Q : World → Prop} {w : World} (h : cachettelaw06_EntrySigns.N draws1a draws1n draws1c eWriter2 eIndex3 ePrev4 eAtT5 eAtW6 eEpoch7 eBody8a eBody8n eBody8c eSig9 fWriter10 fIndex11 fPrev12 fAtT13 fAtW14 fEpoch15 fBody16a fBody16n fBody16c fSig17 sig18 (fun v w' => v = V ∧ Q w') w) : Calls Try.prog 6 #[.slice draws1a draws1n draws1c, .agg #[.int .i64 eWriter2, .int .i64 eIndex3, .int .u64 ePrev4, .int .i64 eAtT5, .int .i64 eAtW6, .int .i64 eEpoch7, .slice eBody8a eBody8n eBody8c, .int .u64 eSig9], .agg #[.int .i64 fWriter10, .int .i64 fIndex11, .int .u64 fPrev12, .int .i64 fAtT13, .int .i64 fAtW14, .int .i64 fEpoch15, .slice fBody16a fBody16n fBody16c, .int .u64 fSig17], .int .u64 sig18] w (Ret V Q) := (cachettelaw06_EntrySigns.go draws1a draws1n draws1c eWriter2 eIndex3 ePrev4 eAtT5 eAtW6 eEpoch7 eBody8a eBody8n eBody8c eSig9 fWriter10 fIndex11 fPrev12 fAtT13 fAtW14 fEpoch15 fBody16a fBody16n fBody16c fSig17 sig18 h).mono fun e w' ⟨v, he, hv, hq⟩ => ⟨by rw [he, hv], hq⟩

theorem signE_body (S : OS) (s : Int) (e : Ent) : (signE S s e).1.1.body.length ≤ e.body.length := by
  unfold signE
  split
  · split
    · exact Nat.le_refl _
    · exact Nat.zero_le _
  · exact Nat.zero_le _
theorem EntrySigns_spec (w : World) {da ea fa : Option Addr} {dc ec fc : Nat} {d : List Int} {e f : Ent} {sig : Int} (hd : ∀ x ∈ d, 0 ≤ x ∧ x < 18446744073709551616) (hda : RowAt w da (d.map u64V)) (hdc : d.length ≤ dc) (hef : e.fit) (hff : f.fit) (hsig : 0 ≤ sig ∧ sig < 18446744073709551616) (he : RowAt w ea (bytesV e.body)) (hec : e.body.length ≤ ec) (hf : RowAt w fa (bytesV f.body)) :
    Calls Try.prog 6 #[.slice da d.length dc, entV e ea ec, entV f fa fc, .int .u64 sig] w (Ret (.bool true) fun w' => Ext no w w') := by
  refine cachettelaw06_EntrySigns.run da d.length dc e.w e.i e.pv e.t e.tw e.ep ea e.body.length ec e.sg f.w f.i f.pv f.t f.tw f.ep fa f.body.length fc f.sg sig ?_
  unfold cachettelaw06_EntrySigns.N
  have hal : ∀ w1, Ext no w w1 → Calls Try.prog 9 #[] w1 fun e w' => ∃ v : Bool, e = .returned (.bool v) ∧ (fun v w' => v = Value.bool true ∧ Ext no w w') (.bool v) w' := fun w1 hx =>
    (alive6_spec w1).mono fun e w' ⟨he, hw⟩ => ⟨true, he, rfl, hx.trans hw⟩
  refine ⟨fun hr w20 X => hal _ X, fun hl1 => ⟨fun hr w20 X => hal _ X, fun hl2 => ⟨fun hr w20 X => hal _ X, fun h5 w28 p41 p42 X28 hp => ?_⟩⟩⟩
  have hlight : e.body.length ≤ 1500 := by
    unfold cachettelaw06_light.F at hl1
    have := of_decide_eq_true hl1
    omega
  have ok0 : Tags w (fun _ => none) := fun b j _ h => by cases h
  have re : Row w (fun _ => none) ea (bytesV e.body) := ⟨he, fun _ _ _ => rfl⟩
  have rf : Row w (fun _ => none) fa (bytesV f.body) := ⟨hf, fun _ _ _ => rfl⟩
  have rd : Row w (fun _ => none) da (d.map u64V) := ⟨hda, fun _ _ _ => rfl⟩
  obtain ⟨s28, M28⟩ := Step.priv X28 hp ok0
  have g41 := hp p41 (by simp)
  have g42 := hp p42 (by simp)
  refine (NewO s28.ok (hda.no X28) (by omega)).mono fun x w45 ⟨k, o45, hx, hk, s45', P45⟩ => ⟨_, hx, M28.keep s45' (fun _ _ => id), fun w46 j X46 hb46 hj hj' => ?_⟩
  have s45 := s28.trans s45'
  have M45 := M28.step s45'
  have hk45 := P45.lt
  obtain ⟨o46, s46', R46⟩ := ROrc.init X46 hb46 hj hj' s45.ok (rd.step s45) hdc
  have s46 := s45.trans s46'
  have M46 := M45.step s46'
  have hkj : k ≠ j := by omega
  have l45 := s45'.size
  have T46 : Two w46 o46 k j (OS.init d) d [] 0 := ⟨P45.step s46' id, R46, Sim.init hd, OInv.init hd, ⟨hd, by simp, fun r hr => by cases hr⟩, s46.ok, hkj⟩
  have both : ∀ {w1 w2 : World} {o1 o2 : Own}, Step no w (fun _ => none) w1 o1 → Step (fun i => i = k ∨ i = j) w1 o1 w2 o2 → Step no w (fun _ => none) w2 o2 := fun h1 h2 => h1.trans' h2 fun i hi => .inr (by have := X28.size; omega)
  have nk : ∀ {K : Nat → Prop}, (∀ i, K i → i = k ∨ i = j) → ∀ p ∈ [p41, p42], ¬ K p := fun hK p hp hKp => by
    have := hK p hKp
    simp at hp; omega
  -- a pair of each
  refine (PairO T46.p T46.ok T46.sim.ok (by have := T46.len; omega)).mono fun x w51 ⟨o51, hx, s51, P51⟩ => ⟨_, _, hx, M46.keep s51 (nk fun i h => .inl h), ?_⟩
  have R51 := T46.r.step s51 (fun e => hkj e.symm)
  refine (rPair_spec R51 (T46.fine.rok s51.ok (by omega)) (by simp)).mono fun x w55 ⟨o55, hx, s55, R55⟩ => ⟨_, _, hx, (M46.step s51).keep s55 (nk fun i h => .inr h), ?_⟩
  obtain ⟨e55, m55⟩ := pair_sim T46.sim
  obtain ⟨T55, s55'⟩ := T46.turn s51 P51 s55 R55 m55 (pair_inv T46.inv).1 T46.fine.pair
  have M55 := M46.step s55'
  have s55 := both s46 s55'
  generalize pairOf (OS.init d) = PP at *
  generalize pairR d [] = PR at *
  obtain ⟨⟨qs, qp⟩, S5⟩ := PP
  obtain ⟨⟨ps, pp⟩, d5, L5⟩ := PR
  simp only [Prod.mk.injEq] at e55
  obtain ⟨rfl, rfl⟩ := e55
  simp only [] at T55
  -- a sum of each
  refine (SumO T55.p T55.ok T55.sim.ok (by have := T55.len; omega) (fun _ => hef) (re.step s55).1).mono fun x w59 ⟨o59, hx, s59, P59⟩ => ⟨_, _, hx, M55.keep s59 (nk fun i h => .inl h), ?_⟩
  have R59 := T55.r.step s59 (fun e => hkj e.symm)
  refine (rSum_spec R59 (T55.fine.rok s59.ok (by omega)) (fun _ => hef) ((re.step s55).step s59).1).mono fun x w63 ⟨o63, hx, s63, R63⟩ => ⟨_, _, hx, (M55.step s59).keep s63 (nk fun i h => .inr h), ?_⟩
  obtain ⟨e63, m63⟩ := sum_sim T55.sim e
  obtain ⟨T63, s63'⟩ := T55.turn s59 P59 s63 R63 m63 (sum_inv T55.inv e) (T55.fine.sum e)
  have M63 := M55.step s63'
  have s63 := both s55 s63'
  rw [e63]
  generalize sumE S5 e = A at *
  generalize sumR d5 L5 e = B at *
  obtain ⟨⟨a1, a2⟩, S6⟩ := A
  obtain ⟨b1, d6, L6⟩ := B
  simp only [] at T63
  -- the first signature of each
  have re63 := re.step s63
  refine (SignE T63.p T63.ok T63.sim.ok (by have := T63.len; omega) _ (fun _ => hef) re63).mono fun x w74 ⟨o74, xa, xc, hx, s74, P74, rx, lx⟩ => ⟨_, _, _, _, _, _, _, _, _, _, _, hx, M63.keep s74 (nk fun i h => .inl h), fun w83 p84 X83 hp84 => ?_⟩
  have M74 := M63.step s74
  obtain ⟨s83, M83'⟩ := Step.priv X83 hp84 s74.ok
  have M83 := (M74.step s83).app M83'
  have g84 := hp84 p84 (by simp)
  have s74b : Step (fun i => i = k) w63 o63 w83 _ := s74.trans s83.none
  have R83 := T63.r.step s74b (fun e => hkj e.symm)
  have l74 := s74.size
  have l63 : w46.heap.size ≤ w63.heap.size := Nat.le_trans s55'.size s63'.size
  have nk3 : ∀ {K : Nat → Prop}, (∀ i, K i → i = k ∨ i = j) → ∀ p ∈ [p41, p42, p84], ¬ K p := fun hK p hp hKp => by
    have := hK p hKp
    have := s46'.size
    simp at hp; omega
  refine (rESign_spec R83 (T63.fine.rok s83.ok (by omega)) _ (fun _ => hef) (re63.step s74b) hec).mono fun x w95 ⟨o95, ya, yc, hx, s95, R95, ry, ly⟩ => ⟨_, _, _, _, _, _, _, _, _, _, _, hx, M83.keep s95 (nk3 fun i h => .inr h), fun w104 p105 X104 hp105 => ?_⟩
  obtain ⟨e95, m95⟩ := esign_sim T63.sim ps e
  obtain ⟨T95, s95'⟩ := T63.turn s74b (P74.step s83 id) s95 R95 m95 (esign_inv T63.inv ps e) (T63.fine.esign ps e)
  have hbl := signE_body S6 ps e
  have hfit := esign_fit T63.inv (by have := T63.len; omega) ps hef
  have M95 := M83.step s95
  have rx := (rx.step s83).step s95
  have s95 := both s63 s95'
  rw [e95] at ry ⊢
  generalize signE S6 ps e = A at *
  generalize signRE d6 L6 ps e = B at *
  obtain ⟨⟨x1, x2⟩, S9⟩ := A
  obtain ⟨b1, d9, L9⟩ := B
  simp only [] at T95 rx ry hfit hbl
  -- the second
  obtain ⟨s104, M104'⟩ := Step.priv X104 hp105 T95.ok
  have T104 := T95.step s104
  have M104 := (M95.step s104).app M104'
  have g105 := hp105 p105 (by simp)
  have s104' := s95.trans s104
  have l95 := s95'.size
  have nk4 : ∀ {K : Nat → Prop}, (∀ i, K i → i = k ∨ i = j) → ∀ p ∈ [p41, p42, p84, p105], ¬ K p := fun hK p hp hKp => by
    have := hK p hKp
    have := s46'.size
    simp at hp; omega
  have re104 := re.step s104'
  refine (SignE T104.p T104.ok T104.sim.ok (by have := T104.len; omega) _ (fun _ => hef) re104).mono fun x w116 ⟨o116, za, zc, hx, s116, P116, rz, lz⟩ => ⟨_, _, _, _, _, _, _, _, _, _, _, hx, M104.keep s116 (nk4 fun i h => .inl h), fun w125 X125 => ?_⟩
  have s125 := Step.of_no X125 s116.ok
  have M125 := ((M104.step s116).step s125).sub (M := [p42, p84, p105]) (by simp)
  have s125b : Step (fun i => i = k) w104 _ w125 _ := s116.trans s125.none
  have R125 := T104.r.step s125b (fun e => hkj e.symm)
  refine (rESign_spec R125 (T104.fine.rok s125.ok (by omega)) _ (fun _ => hef) (re104.step s125b) hec).mono fun x w137 ⟨o137, va, vc, hx, s137, R137, rv, lv⟩ => ⟨_, _, _, _, _, _, _, _, _, _, _, hx, M125.keep s137 (fun p hp => nk4 (fun i h => .inr h) p (by simp at hp ⊢; omega)), fun _ => ⟨fun _ w148 X148 => ?_, fun h => absurd rfl h⟩, fun h => absurd rfl h⟩
  obtain ⟨e137, m137⟩ := esign_sim T104.sim pp e
  obtain ⟨T137, s137'⟩ := T104.turn s125b (P116.step s125 id) s137 R137 m137 (esign_inv T104.inv pp e) (T104.fine.esign pp e)
  have M137 := M125.step s137
  have rx := ((rx.step s104).step s137')
  have ry := ((ry.step s104).step s137')
  have s137 := both s104' s137'
  rw [e137]
  generalize signE S9 pp e = A at *
  generalize signRE d9 L9 pp e = B at *
  obtain ⟨⟨z1, z2⟩, SA⟩ := A
  obtain ⟨b1, dA, LA⟩ := B
  simp only [] at T137
  -- what holds
  have s148 := Step.stores X148 T137.ok M137 (by simp)
  have s148w : Step no w (fun _ => none) w148 _ := s137.trans' s148 fun i hi => .inr (by have := X28.size; simp at hi; omega)
  have hnk : ¬ k ∈ [p42, p84, p105] := fun h => nk4 (K := fun i => i = k) (fun i h => .inl h) k (by simp at h ⊢; omega) rfl
  have hnj : ¬ j ∈ [p42, p84, p105] := fun h => nk4 (K := fun i => i = j) (fun i h => .inr h) j (by simp at h ⊢; omega) rfl
  have P148 := T137.p.step s148 hnk
  have R148 := T137.r.step s148 hnj
  have ok148 := T137.fine.rok s148.ok (by omega)
  have rx := rx.step s148
  have ry := ry.step s148
  refine (rESame_spec (e := x1) (f := x1) rx.1 ry.1 ?_).mono fun x w154 ⟨hx, X154⟩ => ⟨_, hx, X154.kept, fun _ => ⟨fun _ => ⟨fun _ => ?_, fun h => absurd rfl h⟩, fun h => absurd rfl h⟩, fun h => absurd h (by simp)⟩
  · omega
  have s154 := Step.of_no X154 s148.ok
  have P154 := P148.step s154 id
  have R154 := R148.step s154 id
  refine (HoldsO P154 s154.ok _ (e := x1) (fun _ => hfit) (rx.step s154).1).mono fun y w160 ⟨hy, X160⟩ => ⟨_, hy, X160.kept, ?_⟩
  have s160' := Step.of_no X160 s154.ok
  have s160 := s154.trans s160'
  refine (rHolds_spec (R154.step s160' id) (T137.fine.rok s160.ok (by omega)) _ (e := x1) (fun _ => hfit) (ry.step s160).1).mono fun y w163 ⟨hy, X163⟩ => ⟨_, hy, X163.kept, fun _ => ?_, fun h => absurd (holds_sim T137.sim _ _).symm h⟩
  have s163 := s160.trans (Step.of_no X163 s160.ok)
  have hfit2 : ({ f with sg := sig } : Ent).fit := ⟨hff.pv0, hff.pv1, hsig.1, hsig.2⟩
  have rf163 := (rf.step s148w).step s163
  refine (HoldsO (P148.step s163 id) s163.ok _ (e := { f with sg := sig }) (fun _ => hfit2) rf163.1).mono fun y w167 ⟨hy, X167⟩ => ⟨_, hy, X167.kept, ?_⟩
  have s167' := Step.of_no X167 s163.ok
  have s167 := s163.trans s167'
  refine (rHolds_spec (R148.step s167 id) (T137.fine.rok s167.ok (by omega)) _ (e := { f with sg := sig }) (fun _ => hfit2) (rf163.step s167').1).mono fun y w170 ⟨hy, X170⟩ => ⟨_, hy, fun _ => hal _ ?_, fun h => absurd (holds_sim T137.sim _ _).symm h⟩
  exact ((s148w.trans s167).ext.mono fun b ⟨_, h, _⟩ _ => by cases h).trans X170
theorem EntrySigns_walk (W : World) (a0 : Option Addr) (len0 cap0 : Nat) (cs1 cs2 : Array Value) (n3 : Int) (o0 : IntsQ .u64 W [.slice a0 len0 cap0]) (o1 : EntQ W cs1.toList) (o2 : EntQ W cs2.toList) (w3 : (Lit.int .u64 n3).wf = true) :
    Calls Try.prog 6 #[.slice a0 len0 cap0, .agg cs1, .agg cs2, .int .u64 n3] W (Ret (.bool true) fun w' => Ext no W w') := by
  obtain ⟨_, c0, d, e0, l0, _, r0, f0⟩ := o0
  cases e0
  obtain ⟨e, ea, ec, h1, f1, _, l1, _, r1⟩ := o1
  obtain ⟨f, fa, fc, h2, f2, _, _, _, r2⟩ := o2
  rw [ent_of h1, ent_of h2]
  exact EntrySigns_spec W (fun x hx => wf_u64 (f0 x hx)) r0 l0 f1 f2 (wf_u64 w3) r1 l1 r2
end Go.Proofs.Ytomajjnoekfmoaa
