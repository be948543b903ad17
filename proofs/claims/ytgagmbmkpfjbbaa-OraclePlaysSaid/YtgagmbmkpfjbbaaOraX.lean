/- The player's calls. -/
import Derived.Test.YtgagmbmkpfjbbaaOraV
set_option linter.unusedVariables false
set_option linter.unusedSimpArgs false
set_option maxRecDepth 20000
set_option maxHeartbeats 2000000
namespace Go.Proofs.Ytgagmbmkpfjbbaa
open Go Go.Mx Go.Proofs
/-- (*cachettelaw03.player).do -/
def cachettelaw03_player_do.M (p1 : Option Addr) (xKind2 : Int) (xX3 : Int) (xY4 : Int) (xA5a : Option Addr) (xA5n : Nat) (xA5c : Nat) (xB6a : Option Addr) (xB6n : Nat) (xB6c : Nat) (R : Value → World → Prop) (w : World) : Prop :=
  thenW (w.alloc (.cells #[.int .i64 xKind2, .int .u64 xX3, .int .u64 xY4, .slice xA5a xA5n xA5c, .slice xB6a xB6n xB6c] 50)) fun ww7 =>
  ∃ (Kind8 : Int), ww7.cell? ((blk w.heap.size).add 0) = some (.int .i64 Kind8) ∧
  bif Kind8 == 0 then (
  thenW (ww7.drew) fun ww9 =>
  p1.elim False fun a10 =>
  ∃ (o11 : Option Addr), ww9.cell? (a10.add 0) = some (.pointer o11) ∧
  ∃ (A12a : Option Addr) (A12n : Nat) (A12c : Nat), ww9.cell? ((blk w.heap.size).add 3) = some (.slice A12a A12n A12c) ∧
  p1.elim False fun a13 =>
  ∃ (m14 : Option Addr), ww9.cell? (a13.add 1) = some (.pointer m14) ∧
  ∃ (A15a : Option Addr) (A15n : Nat) (A15c : Nat), ww9.cell? ((blk w.heap.size).add 3) = some (.slice A15a A15n A15c) ∧
  Calls Try.prog 8 #[.pointer o11, .slice A12a A12n A12c] ww9 fun ee17 ww18 => ∃ (hash16 : Int), ee17 = .returned (.int .u64 hash16) ∧
  ww18.cell? ((blk w.heap.size).add 3) = some (.slice A15a A15n A15c) ∧
  ww18.cell? (a13.add 1) = some (.pointer m14) ∧
  Calls Try.prog 19 #[.pointer m14, .slice A15a A15n A15c] ww18 fun ee20 ww21 => ∃ (hash19 : Int), ee20 = .returned (.int .u64 hash19) ∧
  Calls Try.prog 20 #[.pointer p1, .int .u64 hash19] ww21 fun ee22 ww23 => ee22 = .returned (.tuple #[]) ∧
  R (.bool (hash16 == hash19)) ww23) else (
  bif Kind8 == 1 then (
  thenW (ww7.drew) fun ww24 =>
  p1.elim False fun a25 =>
  ∃ (o26 : Option Addr), ww24.cell? (a25.add 0) = some (.pointer o26) ∧
  p1.elim False fun a27 =>
  ∃ (m28 : Option Addr), ww24.cell? (a27.add 1) = some (.pointer m28) ∧
  Calls Try.prog 16 #[.pointer o26] ww24 fun ee30 ww31 => ∃ (key29 : Int), ee30 = .returned (.int .u64 key29) ∧
  ww31.cell? (a27.add 1) = some (.pointer m28) ∧
  Calls Try.prog 21 #[.pointer m28] ww31 fun ee33 ww34 => ∃ (key32 : Int), ee33 = .returned (.int .u64 key32) ∧
  Calls Try.prog 20 #[.pointer p1, .int .u64 key32] ww34 fun ee35 ww36 => ee35 = .returned (.tuple #[]) ∧
  R (.bool (key29 == key32)) ww36) else (
  bif Kind8 == 2 then (
  p1.elim False fun a37 =>
  ∃ (o38 : Option Addr), ww7.cell? (a37.add 0) = some (.pointer o38) ∧
  Calls Try.prog 10 #[.pointer o38] ww7 fun ee41 ww42 => ∃ (pair39 : Int) (pair40 : Int), ee41 = .returned (.tuple #[.int .u64 pair39, .int .u64 pair40]) ∧
  p1.elim False fun a43 =>
  ∃ (m44 : Option Addr), ww42.cell? (a43.add 1) = some (.pointer m44) ∧
  Calls Try.prog 22 #[.pointer m44] ww42 fun ee47 ww48 => ∃ (pair45 : Int) (pair46 : Int), ee47 = .returned (.tuple #[.int .u64 pair45, .int .u64 pair46]) ∧
  Calls Try.prog 20 #[.pointer p1, .int .u64 pair45] ww48 fun ee49 ww50 => ee49 = .returned (.tuple #[]) ∧
  Calls Try.prog 20 #[.pointer p1, .int .u64 pair46] ww50 fun ee51 ww52 => ee51 = .returned (.tuple #[]) ∧
  bif pair39 == pair45 then (
  R (.bool (pair40 == pair46)) ww52) else (
  R (.bool false) ww52)) else (
  bif Kind8 == 3 then (
  thenW (ww7.drew) fun ww53 =>
  p1.elim False fun a54 =>
  ∃ (o55 : Option Addr), ww53.cell? (a54.add 0) = some (.pointer o55) ∧
  ∃ (X56 : Int), ww53.cell? ((blk w.heap.size).add 1) = some (.int .u64 X56) ∧
  ∃ (A57a : Option Addr) (A57n : Nat) (A57c : Nat), ww53.cell? ((blk w.heap.size).add 3) = some (.slice A57a A57n A57c) ∧
  Calls Try.prog 23 #[.pointer p1, .int .u64 X56] ww53 fun ee59 ww60 => ∃ (pick58 : Int), ee59 = .returned (.int .u64 pick58) ∧
  ww60.cell? ((blk w.heap.size).add 3) = some (.slice A57a A57n A57c) ∧
  ww60.cell? (a54.add 0) = some (.pointer o55) ∧
  Calls Try.prog 11 #[.pointer o55, .int .u64 pick58, .slice A57a A57n A57c] ww60 fun ee63 ww64 => ∃ (sign61 : Int) (sign62 : Int), ee63 = .returned (.tuple #[.int .u64 sign61, .int .i64 sign62]) ∧
  thenW (ww64.drew) fun ww65 =>
  p1.elim False fun a66 =>
  ∃ (m67 : Option Addr), ww65.cell? (a66.add 1) = some (.pointer m67) ∧
  ∃ (X68 : Int), ww65.cell? ((blk w.heap.size).add 1) = some (.int .u64 X68) ∧
  ∃ (A69a : Option Addr) (A69n : Nat) (A69c : Nat), ww65.cell? ((blk w.heap.size).add 3) = some (.slice A69a A69n A69c) ∧
  Calls Try.prog 23 #[.pointer p1, .int .u64 X68] ww65 fun ee71 ww72 => ∃ (pick70 : Int), ee71 = .returned (.int .u64 pick70) ∧
  ww72.cell? ((blk w.heap.size).add 3) = some (.slice A69a A69n A69c) ∧
  ww72.cell? (a66.add 1) = some (.pointer m67) ∧
  Calls Try.prog 24 #[.pointer m67, .int .u64 pick70, .slice A69a A69n A69c] ww72 fun ee75 ww76 => ∃ (sign73 : Int) (sign74 : Int), ee75 = .returned (.tuple #[.int .u64 sign73, .int .i64 sign74]) ∧
  Calls Try.prog 20 #[.pointer p1, .int .u64 sign73] ww76 fun ee77 ww78 => ee77 = .returned (.tuple #[]) ∧
  bif sign61 == sign73 then (
  R (.bool (sign62 == sign74)) ww78) else (
  R (.bool false) ww78)) else (
  bif Kind8 == 4 then (
  thenW (ww7.drew) fun ww79 =>
  p1.elim False fun a80 =>
  ∃ (o81 : Option Addr), ww79.cell? (a80.add 0) = some (.pointer o81) ∧
  ∃ (X82 : Int), ww79.cell? ((blk w.heap.size).add 1) = some (.int .u64 X82) ∧
  ∃ (A83a : Option Addr) (A83n : Nat) (A83c : Nat), ww79.cell? ((blk w.heap.size).add 3) = some (.slice A83a A83n A83c) ∧
  ∃ (Y84 : Int), ww79.cell? ((blk w.heap.size).add 2) = some (.int .u64 Y84) ∧
  p1.elim False fun a85 =>
  ∃ (m86 : Option Addr), ww79.cell? (a85.add 1) = some (.pointer m86) ∧
  ∃ (X87 : Int), ww79.cell? ((blk w.heap.size).add 1) = some (.int .u64 X87) ∧
  ∃ (A88a : Option Addr) (A88n : Nat) (A88c : Nat), ww79.cell? ((blk w.heap.size).add 3) = some (.slice A88a A88n A88c) ∧
  ∃ (Y89 : Int), ww79.cell? ((blk w.heap.size).add 2) = some (.int .u64 Y89) ∧
  Calls Try.prog 23 #[.pointer p1, .int .u64 X82] ww79 fun ee91 ww92 => ∃ (pick90 : Int), ee91 = .returned (.int .u64 pick90) ∧
  ww92.cell? ((blk w.heap.size).add 2) = some (.int .u64 Y89) ∧
  ww92.cell? ((blk w.heap.size).add 3) = some (.slice A88a A88n A88c) ∧
  ww92.cell? ((blk w.heap.size).add 1) = some (.int .u64 X87) ∧
  ww92.cell? (a85.add 1) = some (.pointer m86) ∧
  ww92.cell? ((blk w.heap.size).add 2) = some (.int .u64 Y84) ∧
  ww92.cell? ((blk w.heap.size).add 3) = some (.slice A83a A83n A83c) ∧
  ww92.cell? (a80.add 0) = some (.pointer o81) ∧
  Calls Try.prog 23 #[.pointer p1, .int .u64 Y84] ww92 fun ee94 ww95 => ∃ (pick93 : Int), ee94 = .returned (.int .u64 pick93) ∧
  ww95.cell? ((blk w.heap.size).add 2) = some (.int .u64 Y89) ∧
  ww95.cell? ((blk w.heap.size).add 3) = some (.slice A88a A88n A88c) ∧
  ww95.cell? ((blk w.heap.size).add 1) = some (.int .u64 X87) ∧
  ww95.cell? (a85.add 1) = some (.pointer m86) ∧
  ww95.cell? ((blk w.heap.size).add 3) = some (.slice A83a A83n A83c) ∧
  ww95.cell? (a80.add 0) = some (.pointer o81) ∧
  Calls Try.prog 12 #[.pointer o81, .int .u64 pick90, .slice A83a A83n A83c, .int .u64 pick93] ww95 fun ee97 ww98 => ∃ (verify96 : Bool), ee97 = .returned (.bool verify96) ∧
  ww98.cell? ((blk w.heap.size).add 2) = some (.int .u64 Y89) ∧
  ww98.cell? ((blk w.heap.size).add 3) = some (.slice A88a A88n A88c) ∧
  ww98.cell? ((blk w.heap.size).add 1) = some (.int .u64 X87) ∧
  ww98.cell? (a85.add 1) = some (.pointer m86) ∧
  Calls Try.prog 23 #[.pointer p1, .int .u64 X87] ww98 fun ee100 ww101 => ∃ (pick99 : Int), ee100 = .returned (.int .u64 pick99) ∧
  ww101.cell? ((blk w.heap.size).add 2) = some (.int .u64 Y89) ∧
  ww101.cell? ((blk w.heap.size).add 3) = some (.slice A88a A88n A88c) ∧
  ww101.cell? (a85.add 1) = some (.pointer m86) ∧
  Calls Try.prog 23 #[.pointer p1, .int .u64 Y89] ww101 fun ee103 ww104 => ∃ (pick102 : Int), ee103 = .returned (.int .u64 pick102) ∧
  ww104.cell? ((blk w.heap.size).add 3) = some (.slice A88a A88n A88c) ∧
  ww104.cell? (a85.add 1) = some (.pointer m86) ∧
  Calls Try.prog 25 #[.pointer m86, .int .u64 pick99, .slice A88a A88n A88c, .int .u64 pick102] ww104 fun ee106 ww107 => ∃ (verify105 : Bool), ee106 = .returned (.bool verify105) ∧
  R (.bool (verify96 == verify105)) ww107) else (
  bif Kind8 == 5 then (
  bif Kind8 == 5 then (
  thenW (ww7.drew) fun ww108 =>
  p1.elim False fun a109 =>
  ∃ (o110 : Option Addr), ww108.cell? (a109.add 0) = some (.pointer o110) ∧
  ∃ (X111 : Int), ww108.cell? ((blk w.heap.size).add 1) = some (.int .u64 X111) ∧
  ∃ (A112a : Option Addr) (A112n : Nat) (A112c : Nat), ww108.cell? ((blk w.heap.size).add 3) = some (.slice A112a A112n A112c) ∧
  ∃ (B113a : Option Addr) (B113n : Nat) (B113c : Nat), ww108.cell? ((blk w.heap.size).add 4) = some (.slice B113a B113n B113c) ∧
  Calls Try.prog 23 #[.pointer p1, .int .u64 X111] ww108 fun ee115 ww116 => ∃ (pick114 : Int), ee115 = .returned (.int .u64 pick114) ∧
  ww116.cell? ((blk w.heap.size).add 4) = some (.slice B113a B113n B113c) ∧
  ww116.cell? ((blk w.heap.size).add 3) = some (.slice A112a A112n A112c) ∧
  ww116.cell? (a109.add 0) = some (.pointer o110) ∧
  Calls Try.prog 26 #[.pointer o110, .int .u64 pick114, .slice A112a A112n A112c, .slice B113a B113n B113c] ww116 fun ee119 ww120 => ∃ (sealv117a : Option Addr) (sealv117n : Nat) (sealv117c : Nat) (sealv118 : Int), ee119 = .returned (.tuple #[.slice sealv117a sealv117n sealv117c, .int .i64 sealv118]) ∧
  thenW (ww120.drew) fun ww121 =>
  p1.elim False fun a122 =>
  ∃ (m123 : Option Addr), ww121.cell? (a122.add 1) = some (.pointer m123) ∧
  ∃ (X124 : Int), ww121.cell? ((blk w.heap.size).add 1) = some (.int .u64 X124) ∧
  ∃ (A125a : Option Addr) (A125n : Nat) (A125c : Nat), ww121.cell? ((blk w.heap.size).add 3) = some (.slice A125a A125n A125c) ∧
  ∃ (B126a : Option Addr) (B126n : Nat) (B126c : Nat), ww121.cell? ((blk w.heap.size).add 4) = some (.slice B126a B126n B126c) ∧
  Calls Try.prog 23 #[.pointer p1, .int .u64 X124] ww121 fun ee128 ww129 => ∃ (pick127 : Int), ee128 = .returned (.int .u64 pick127) ∧
  ww129.cell? ((blk w.heap.size).add 4) = some (.slice B126a B126n B126c) ∧
  ww129.cell? ((blk w.heap.size).add 3) = some (.slice A125a A125n A125c) ∧
  ww129.cell? (a122.add 1) = some (.pointer m123) ∧
  Calls Try.prog 27 #[.pointer m123, .int .u64 pick127, .slice A125a A125n A125c, .slice B126a B126n B126c] ww129 fun ee132 ww133 => ∃ (sealv130a : Option Addr) (sealv130n : Nat) (sealv130c : Nat) (sealv131 : Int), ee132 = .returned (.tuple #[.slice sealv130a sealv130n sealv130c, .int .i64 sealv131]) ∧
  ∃ (Kind134 : Int), ww133.cell? ((blk w.heap.size).add 0) = some (.int .i64 Kind134) ∧
  bif Kind134 == 7 then (
  thenW (ww133.drew) fun ww135 =>
  p1.elim False fun a136 =>
  ∃ (o137 : Option Addr), ww135.cell? (a136.add 0) = some (.pointer o137) ∧
  ∃ (X138 : Int), ww135.cell? ((blk w.heap.size).add 1) = some (.int .u64 X138) ∧
  ∃ (Y139 : Int), ww135.cell? ((blk w.heap.size).add 2) = some (.int .u64 Y139) ∧
  Calls Try.prog 23 #[.pointer p1, .int .u64 X138] ww135 fun ee141 ww142 => ∃ (pick140 : Int), ee141 = .returned (.int .u64 pick140) ∧
  ww142.cell? ((blk w.heap.size).add 2) = some (.int .u64 Y139) ∧
  ww142.cell? (a136.add 0) = some (.pointer o137) ∧
  Calls Try.prog 23 #[.pointer p1, .int .u64 Y139] ww142 fun ee144 ww145 => ∃ (pick143 : Int), ee144 = .returned (.int .u64 pick143) ∧
  ww145.cell? (a136.add 0) = some (.pointer o137) ∧
  Calls Try.prog 28 #[.pointer o137, .int .u64 pick140, .int .u64 pick143] ww145 fun ee148 ww149 => ∃ (wrap146a : Option Addr) (wrap146n : Nat) (wrap146c : Nat) (wrap147 : Int), ee148 = .returned (.tuple #[.slice wrap146a wrap146n wrap146c, .int .i64 wrap147]) ∧
  thenW (ww149.drew) fun ww150 =>
  p1.elim False fun a151 =>
  ∃ (m152 : Option Addr), ww150.cell? (a151.add 1) = some (.pointer m152) ∧
  ∃ (X153 : Int), ww150.cell? ((blk w.heap.size).add 1) = some (.int .u64 X153) ∧
  ∃ (Y154 : Int), ww150.cell? ((blk w.heap.size).add 2) = some (.int .u64 Y154) ∧
  Calls Try.prog 23 #[.pointer p1, .int .u64 X153] ww150 fun ee156 ww157 => ∃ (pick155 : Int), ee156 = .returned (.int .u64 pick155) ∧
  ww157.cell? ((blk w.heap.size).add 2) = some (.int .u64 Y154) ∧
  ww157.cell? (a151.add 1) = some (.pointer m152) ∧
  Calls Try.prog 23 #[.pointer p1, .int .u64 Y154] ww157 fun ee159 ww160 => ∃ (pick158 : Int), ee159 = .returned (.int .u64 pick158) ∧
  ww160.cell? (a151.add 1) = some (.pointer m152) ∧
  Calls Try.prog 29 #[.pointer m152, .int .u64 pick155, .int .u64 pick158] ww160 fun ee163 ww164 => ∃ (wrap161a : Option Addr) (wrap161n : Nat) (wrap161c : Nat) (wrap162 : Int), ee163 = .returned (.tuple #[.slice wrap161a wrap161n wrap161c, .int .i64 wrap162]) ∧
  bif wrap162 == 0 then (
  p1.elim False fun a165 =>
  ∃ (texts166a : Option Addr) (texts166n : Nat) (texts166c : Nat), ww164.cell? (a165.add 3) = some (.slice texts166a texts166n texts166c) ∧
  thenW (ww164.alloc (.cells #[.slice wrap161a wrap161n wrap161c] 23)) fun ww167 =>
  ∃ (a168a : Option Addr) (a168n : Nat) (a168c : Nat) (ww169 : World), (Builtin.append_ #[45, 45] 45 #[.slice texts166a texts166n texts166c, .slice (some (blk ww164.heap.size)) 1 1]).run Try.prog ww167 = .ok (.slice a168a a168n a168c) ww169 ∧
  p1.elim False fun a170 =>
  canStore ww169 ((a170.add 3).add 0) ∧
  thenW (ww169.setCell ((a170.add 3).add 0) (.slice a168a a168n a168c)) fun ww171 =>
  Calls Try.prog 9 #[.slice wrap146a wrap146n wrap146c, .slice wrap161a wrap161n wrap161c] ww171 fun ee173 ww174 => ∃ (same172 : Bool), ee173 = .returned (.bool same172) ∧
  bif same172 then (
  R (.bool (wrap147 == wrap162)) ww174) else (
  R (.bool false) ww174)) else (
  Calls Try.prog 9 #[.slice wrap146a wrap146n wrap146c, .slice wrap161a wrap161n wrap161c] ww164 fun ee176 ww177 => ∃ (same175 : Bool), ee176 = .returned (.bool same175) ∧
  bif same175 then (
  R (.bool (wrap147 == wrap162)) ww177) else (
  R (.bool false) ww177))) else (
  bif sealv131 == 0 then (
  p1.elim False fun a178 =>
  ∃ (texts179a : Option Addr) (texts179n : Nat) (texts179c : Nat), ww133.cell? (a178.add 3) = some (.slice texts179a texts179n texts179c) ∧
  thenW (ww133.alloc (.cells #[.slice sealv130a sealv130n sealv130c] 23)) fun ww180 =>
  ∃ (a181a : Option Addr) (a181n : Nat) (a181c : Nat) (ww182 : World), (Builtin.append_ #[45, 45] 45 #[.slice texts179a texts179n texts179c, .slice (some (blk ww133.heap.size)) 1 1]).run Try.prog ww180 = .ok (.slice a181a a181n a181c) ww182 ∧
  p1.elim False fun a183 =>
  canStore ww182 ((a183.add 3).add 0) ∧
  thenW (ww182.setCell ((a183.add 3).add 0) (.slice a181a a181n a181c)) fun ww184 =>
  Calls Try.prog 9 #[.slice sealv117a sealv117n sealv117c, .slice sealv130a sealv130n sealv130c] ww184 fun ee186 ww187 => ∃ (same185 : Bool), ee186 = .returned (.bool same185) ∧
  bif same185 then (
  R (.bool (sealv118 == sealv131)) ww187) else (
  R (.bool false) ww187)) else (
  Calls Try.prog 9 #[.slice sealv117a sealv117n sealv117c, .slice sealv130a sealv130n sealv130c] ww133 fun ee189 ww190 => ∃ (same188 : Bool), ee189 = .returned (.bool same188) ∧
  bif same188 then (
  R (.bool (sealv118 == sealv131)) ww190) else (
  R (.bool false) ww190)))) else (
  bif Kind8 == 6 then (
  thenW (ww7.drew) fun ww191 =>
  p1.elim False fun a192 =>
  ∃ (o193 : Option Addr), ww191.cell? (a192.add 0) = some (.pointer o193) ∧
  ∃ (X194 : Int), ww191.cell? ((blk w.heap.size).add 1) = some (.int .u64 X194) ∧
  ∃ (A195a : Option Addr) (A195n : Nat) (A195c : Nat), ww191.cell? ((blk w.heap.size).add 3) = some (.slice A195a A195n A195c) ∧
  ∃ (xKind196 : Int) (xX197 : Int) (xY198 : Int) (xA199a : Option Addr) (xA199n : Nat) (xA199c : Nat) (xB200a : Option Addr) (xB200n : Nat) (xB200c : Nat), cellsAt ww191 (blk w.heap.size) [.int .i64 xKind196, .int .u64 xX197, .int .u64 xY198, .slice xA199a xA199n xA199c, .slice xB200a xB200n xB200c] 0 ∧
  Calls Try.prog 23 #[.pointer p1, .int .u64 X194] ww191 fun ee202 ww203 => ∃ (pick201 : Int), ee202 = .returned (.int .u64 pick201) ∧
  cellsAt ww203 (blk w.heap.size) [.int .i64 xKind196, .int .u64 xX197, .int .u64 xY198, .slice xA199a xA199n xA199c, .slice xB200a xB200n xB200c] 0 ∧
  ww203.cell? ((blk w.heap.size).add 3) = some (.slice A195a A195n A195c) ∧
  ww203.cell? (a192.add 0) = some (.pointer o193) ∧
  Calls Try.prog 31 #[.pointer p1, .agg #[.int .i64 xKind196, .int .u64 xX197, .int .u64 xY198, .slice xA199a xA199n xA199c, .slice xB200a xB200n xB200c]] ww203 fun ee205 ww206 => ∃ (text204a : Option Addr) (text204n : Nat) (text204c : Nat), ee205 = .returned (.slice text204a text204n text204c) ∧
  ww206.cell? ((blk w.heap.size).add 3) = some (.slice A195a A195n A195c) ∧
  ww206.cell? (a192.add 0) = some (.pointer o193) ∧
  Calls Try.prog 30 #[.pointer o193, .int .u64 pick201, .slice A195a A195n A195c, .slice text204a text204n text204c] ww206 fun ee209 ww210 => ∃ (openv207a : Option Addr) (openv207n : Nat) (openv207c : Nat) (openv208 : Int), ee209 = .returned (.tuple #[.slice openv207a openv207n openv207c, .int .i64 openv208]) ∧
  thenW (ww210.drew) fun ww211 =>
  p1.elim False fun a212 =>
  ∃ (m213 : Option Addr), ww211.cell? (a212.add 1) = some (.pointer m213) ∧
  ∃ (X214 : Int), ww211.cell? ((blk w.heap.size).add 1) = some (.int .u64 X214) ∧
  ∃ (A215a : Option Addr) (A215n : Nat) (A215c : Nat), ww211.cell? ((blk w.heap.size).add 3) = some (.slice A215a A215n A215c) ∧
  ∃ (xKind216 : Int) (xX217 : Int) (xY218 : Int) (xA219a : Option Addr) (xA219n : Nat) (xA219c : Nat) (xB220a : Option Addr) (xB220n : Nat) (xB220c : Nat), cellsAt ww211 (blk w.heap.size) [.int .i64 xKind216, .int .u64 xX217, .int .u64 xY218, .slice xA219a xA219n xA219c, .slice xB220a xB220n xB220c] 0 ∧
  Calls Try.prog 23 #[.pointer p1, .int .u64 X214] ww211 fun ee222 ww223 => ∃ (pick221 : Int), ee222 = .returned (.int .u64 pick221) ∧
  cellsAt ww223 (blk w.heap.size) [.int .i64 xKind216, .int .u64 xX217, .int .u64 xY218, .slice xA219a xA219n xA219c, .slice xB220a xB220n xB220c] 0 ∧
  ww223.cell? ((blk w.heap.size).add 3) = some (.slice A215a A215n A215c) ∧
  ww223.cell? (a212.add 1) = some (.pointer m213) ∧
  Calls Try.prog 31 #[.pointer p1, .agg #[.int .i64 xKind216, .int .u64 xX217, .int .u64 xY218, .slice xA219a xA219n xA219c, .slice xB220a xB220n xB220c]] ww223 fun ee225 ww226 => ∃ (text224a : Option Addr) (text224n : Nat) (text224c : Nat), ee225 = .returned (.slice text224a text224n text224c) ∧
  ww226.cell? ((blk w.heap.size).add 3) = some (.slice A215a A215n A215c) ∧
  ww226.cell? (a212.add 1) = some (.pointer m213) ∧
  Calls Try.prog 32 #[.pointer m213, .int .u64 pick221, .slice A215a A215n A215c, .slice text224a text224n text224c] ww226 fun ee229 ww230 => ∃ (openv227a : Option Addr) (openv227n : Nat) (openv227c : Nat) (openv228 : Int), ee229 = .returned (.tuple #[.slice openv227a openv227n openv227c, .int .i64 openv228]) ∧
  Calls Try.prog 9 #[.slice openv207a openv207n openv207c, .slice openv227a openv227n openv227c] ww230 fun ee232 ww233 => ∃ (same231 : Bool), ee232 = .returned (.bool same231) ∧
  bif same231 then (
  R (.bool (openv208 == openv228)) ww233) else (
  R (.bool false) ww233)) else (
  bif Kind8 == 8 then (
  thenW (ww7.drew) fun ww234 =>
  p1.elim False fun a235 =>
  ∃ (o236 : Option Addr), ww234.cell? (a235.add 0) = some (.pointer o236) ∧
  ∃ (X237 : Int), ww234.cell? ((blk w.heap.size).add 1) = some (.int .u64 X237) ∧
  ∃ (xKind238 : Int) (xX239 : Int) (xY240 : Int) (xA241a : Option Addr) (xA241n : Nat) (xA241c : Nat) (xB242a : Option Addr) (xB242n : Nat) (xB242c : Nat), cellsAt ww234 (blk w.heap.size) [.int .i64 xKind238, .int .u64 xX239, .int .u64 xY240, .slice xA241a xA241n xA241c, .slice xB242a xB242n xB242c] 0 ∧
  Calls Try.prog 23 #[.pointer p1, .int .u64 X237] ww234 fun ee244 ww245 => ∃ (pick243 : Int), ee244 = .returned (.int .u64 pick243) ∧
  cellsAt ww245 (blk w.heap.size) [.int .i64 xKind238, .int .u64 xX239, .int .u64 xY240, .slice xA241a xA241n xA241c, .slice xB242a xB242n xB242c] 0 ∧
  ww245.cell? (a235.add 0) = some (.pointer o236) ∧
  Calls Try.prog 31 #[.pointer p1, .agg #[.int .i64 xKind238, .int .u64 xX239, .int .u64 xY240, .slice xA241a xA241n xA241c, .slice xB242a xB242n xB242c]] ww245 fun ee247 ww248 => ∃ (text246a : Option Addr) (text246n : Nat) (text246c : Nat), ee247 = .returned (.slice text246a text246n text246c) ∧
  ww248.cell? (a235.add 0) = some (.pointer o236) ∧
  Calls Try.prog 33 #[.pointer o236, .int .u64 pick243, .slice text246a text246n text246c] ww248 fun ee251 ww252 => ∃ (unwrap249 : Int) (unwrap250 : Int), ee251 = .returned (.tuple #[.int .u64 unwrap249, .int .i64 unwrap250]) ∧
  thenW (ww252.drew) fun ww253 =>
  p1.elim False fun a254 =>
  ∃ (m255 : Option Addr), ww253.cell? (a254.add 1) = some (.pointer m255) ∧
  ∃ (X256 : Int), ww253.cell? ((blk w.heap.size).add 1) = some (.int .u64 X256) ∧
  ∃ (xKind257 : Int) (xX258 : Int) (xY259 : Int) (xA260a : Option Addr) (xA260n : Nat) (xA260c : Nat) (xB261a : Option Addr) (xB261n : Nat) (xB261c : Nat), cellsAt ww253 (blk w.heap.size) [.int .i64 xKind257, .int .u64 xX258, .int .u64 xY259, .slice xA260a xA260n xA260c, .slice xB261a xB261n xB261c] 0 ∧
  Calls Try.prog 23 #[.pointer p1, .int .u64 X256] ww253 fun ee263 ww264 => ∃ (pick262 : Int), ee263 = .returned (.int .u64 pick262) ∧
  cellsAt ww264 (blk w.heap.size) [.int .i64 xKind257, .int .u64 xX258, .int .u64 xY259, .slice xA260a xA260n xA260c, .slice xB261a xB261n xB261c] 0 ∧
  ww264.cell? (a254.add 1) = some (.pointer m255) ∧
  Calls Try.prog 31 #[.pointer p1, .agg #[.int .i64 xKind257, .int .u64 xX258, .int .u64 xY259, .slice xA260a xA260n xA260c, .slice xB261a xB261n xB261c]] ww264 fun ee266 ww267 => ∃ (text265a : Option Addr) (text265n : Nat) (text265c : Nat), ee266 = .returned (.slice text265a text265n text265c) ∧
  ww267.cell? (a254.add 1) = some (.pointer m255) ∧
  Calls Try.prog 34 #[.pointer m255, .int .u64 pick262, .slice text265a text265n text265c] ww267 fun ee270 ww271 => ∃ (unwrap268 : Int) (unwrap269 : Int), ee270 = .returned (.tuple #[.int .u64 unwrap268, .int .i64 unwrap269]) ∧
  bif unwrap249 == unwrap268 then (
  R (.bool (unwrap250 == unwrap269)) ww271) else (
  R (.bool false) ww271)) else (
  R (.bool true) ww7)))) else (
  bif Kind8 == 7 then (
  thenW (ww7.drew) fun ww272 =>
  p1.elim False fun a273 =>
  ∃ (o274 : Option Addr), ww272.cell? (a273.add 0) = some (.pointer o274) ∧
  ∃ (X275 : Int), ww272.cell? ((blk w.heap.size).add 1) = some (.int .u64 X275) ∧
  ∃ (A276a : Option Addr) (A276n : Nat) (A276c : Nat), ww272.cell? ((blk w.heap.size).add 3) = some (.slice A276a A276n A276c) ∧
  ∃ (B277a : Option Addr) (B277n : Nat) (B277c : Nat), ww272.cell? ((blk w.heap.size).add 4) = some (.slice B277a B277n B277c) ∧
  Calls Try.prog 23 #[.pointer p1, .int .u64 X275] ww272 fun ee279 ww280 => ∃ (pick278 : Int), ee279 = .returned (.int .u64 pick278) ∧
  ww280.cell? ((blk w.heap.size).add 4) = some (.slice B277a B277n B277c) ∧
  ww280.cell? ((blk w.heap.size).add 3) = some (.slice A276a A276n A276c) ∧
  ww280.cell? (a273.add 0) = some (.pointer o274) ∧
  Calls Try.prog 26 #[.pointer o274, .int .u64 pick278, .slice A276a A276n A276c, .slice B277a B277n B277c] ww280 fun ee283 ww284 => ∃ (sealv281a : Option Addr) (sealv281n : Nat) (sealv281c : Nat) (sealv282 : Int), ee283 = .returned (.tuple #[.slice sealv281a sealv281n sealv281c, .int .i64 sealv282]) ∧
  thenW (ww284.drew) fun ww285 =>
  p1.elim False fun a286 =>
  ∃ (m287 : Option Addr), ww285.cell? (a286.add 1) = some (.pointer m287) ∧
  ∃ (X288 : Int), ww285.cell? ((blk w.heap.size).add 1) = some (.int .u64 X288) ∧
  ∃ (A289a : Option Addr) (A289n : Nat) (A289c : Nat), ww285.cell? ((blk w.heap.size).add 3) = some (.slice A289a A289n A289c) ∧
  ∃ (B290a : Option Addr) (B290n : Nat) (B290c : Nat), ww285.cell? ((blk w.heap.size).add 4) = some (.slice B290a B290n B290c) ∧
  Calls Try.prog 23 #[.pointer p1, .int .u64 X288] ww285 fun ee292 ww293 => ∃ (pick291 : Int), ee292 = .returned (.int .u64 pick291) ∧
  ww293.cell? ((blk w.heap.size).add 4) = some (.slice B290a B290n B290c) ∧
  ww293.cell? ((blk w.heap.size).add 3) = some (.slice A289a A289n A289c) ∧
  ww293.cell? (a286.add 1) = some (.pointer m287) ∧
  Calls Try.prog 27 #[.pointer m287, .int .u64 pick291, .slice A289a A289n A289c, .slice B290a B290n B290c] ww293 fun ee296 ww297 => ∃ (sealv294a : Option Addr) (sealv294n : Nat) (sealv294c : Nat) (sealv295 : Int), ee296 = .returned (.tuple #[.slice sealv294a sealv294n sealv294c, .int .i64 sealv295]) ∧
  ∃ (Kind298 : Int), ww297.cell? ((blk w.heap.size).add 0) = some (.int .i64 Kind298) ∧
  bif Kind298 == 7 then (
  thenW (ww297.drew) fun ww299 =>
  p1.elim False fun a300 =>
  ∃ (o301 : Option Addr), ww299.cell? (a300.add 0) = some (.pointer o301) ∧
  ∃ (X302 : Int), ww299.cell? ((blk w.heap.size).add 1) = some (.int .u64 X302) ∧
  ∃ (Y303 : Int), ww299.cell? ((blk w.heap.size).add 2) = some (.int .u64 Y303) ∧
  Calls Try.prog 23 #[.pointer p1, .int .u64 X302] ww299 fun ee305 ww306 => ∃ (pick304 : Int), ee305 = .returned (.int .u64 pick304) ∧
  ww306.cell? ((blk w.heap.size).add 2) = some (.int .u64 Y303) ∧
  ww306.cell? (a300.add 0) = some (.pointer o301) ∧
  Calls Try.prog 23 #[.pointer p1, .int .u64 Y303] ww306 fun ee308 ww309 => ∃ (pick307 : Int), ee308 = .returned (.int .u64 pick307) ∧
  ww309.cell? (a300.add 0) = some (.pointer o301) ∧
  Calls Try.prog 28 #[.pointer o301, .int .u64 pick304, .int .u64 pick307] ww309 fun ee312 ww313 => ∃ (wrap310a : Option Addr) (wrap310n : Nat) (wrap310c : Nat) (wrap311 : Int), ee312 = .returned (.tuple #[.slice wrap310a wrap310n wrap310c, .int .i64 wrap311]) ∧
  thenW (ww313.drew) fun ww314 =>
  p1.elim False fun a315 =>
  ∃ (m316 : Option Addr), ww314.cell? (a315.add 1) = some (.pointer m316) ∧
  ∃ (X317 : Int), ww314.cell? ((blk w.heap.size).add 1) = some (.int .u64 X317) ∧
  ∃ (Y318 : Int), ww314.cell? ((blk w.heap.size).add 2) = some (.int .u64 Y318) ∧
  Calls Try.prog 23 #[.pointer p1, .int .u64 X317] ww314 fun ee320 ww321 => ∃ (pick319 : Int), ee320 = .returned (.int .u64 pick319) ∧
  ww321.cell? ((blk w.heap.size).add 2) = some (.int .u64 Y318) ∧
  ww321.cell? (a315.add 1) = some (.pointer m316) ∧
  Calls Try.prog 23 #[.pointer p1, .int .u64 Y318] ww321 fun ee323 ww324 => ∃ (pick322 : Int), ee323 = .returned (.int .u64 pick322) ∧
  ww324.cell? (a315.add 1) = some (.pointer m316) ∧
  Calls Try.prog 29 #[.pointer m316, .int .u64 pick319, .int .u64 pick322] ww324 fun ee327 ww328 => ∃ (wrap325a : Option Addr) (wrap325n : Nat) (wrap325c : Nat) (wrap326 : Int), ee327 = .returned (.tuple #[.slice wrap325a wrap325n wrap325c, .int .i64 wrap326]) ∧
  bif wrap326 == 0 then (
  p1.elim False fun a329 =>
  ∃ (texts330a : Option Addr) (texts330n : Nat) (texts330c : Nat), ww328.cell? (a329.add 3) = some (.slice texts330a texts330n texts330c) ∧
  thenW (ww328.alloc (.cells #[.slice wrap325a wrap325n wrap325c] 23)) fun ww331 =>
  ∃ (a332a : Option Addr) (a332n : Nat) (a332c : Nat) (ww333 : World), (Builtin.append_ #[45, 45] 45 #[.slice texts330a texts330n texts330c, .slice (some (blk ww328.heap.size)) 1 1]).run Try.prog ww331 = .ok (.slice a332a a332n a332c) ww333 ∧
  p1.elim False fun a334 =>
  canStore ww333 ((a334.add 3).add 0) ∧
  thenW (ww333.setCell ((a334.add 3).add 0) (.slice a332a a332n a332c)) fun ww335 =>
  Calls Try.prog 9 #[.slice wrap310a wrap310n wrap310c, .slice wrap325a wrap325n wrap325c] ww335 fun ee337 ww338 => ∃ (same336 : Bool), ee337 = .returned (.bool same336) ∧
  bif same336 then (
  R (.bool (wrap311 == wrap326)) ww338) else (
  R (.bool false) ww338)) else (
  Calls Try.prog 9 #[.slice wrap310a wrap310n wrap310c, .slice wrap325a wrap325n wrap325c] ww328 fun ee340 ww341 => ∃ (same339 : Bool), ee340 = .returned (.bool same339) ∧
  bif same339 then (
  R (.bool (wrap311 == wrap326)) ww341) else (
  R (.bool false) ww341))) else (
  bif sealv295 == 0 then (
  p1.elim False fun a342 =>
  ∃ (texts343a : Option Addr) (texts343n : Nat) (texts343c : Nat), ww297.cell? (a342.add 3) = some (.slice texts343a texts343n texts343c) ∧
  thenW (ww297.alloc (.cells #[.slice sealv294a sealv294n sealv294c] 23)) fun ww344 =>
  ∃ (a345a : Option Addr) (a345n : Nat) (a345c : Nat) (ww346 : World), (Builtin.append_ #[45, 45] 45 #[.slice texts343a texts343n texts343c, .slice (some (blk ww297.heap.size)) 1 1]).run Try.prog ww344 = .ok (.slice a345a a345n a345c) ww346 ∧
  p1.elim False fun a347 =>
  canStore ww346 ((a347.add 3).add 0) ∧
  thenW (ww346.setCell ((a347.add 3).add 0) (.slice a345a a345n a345c)) fun ww348 =>
  Calls Try.prog 9 #[.slice sealv281a sealv281n sealv281c, .slice sealv294a sealv294n sealv294c] ww348 fun ee350 ww351 => ∃ (same349 : Bool), ee350 = .returned (.bool same349) ∧
  bif same349 then (
  R (.bool (sealv282 == sealv295)) ww351) else (
  R (.bool false) ww351)) else (
  Calls Try.prog 9 #[.slice sealv281a sealv281n sealv281c, .slice sealv294a sealv294n sealv294c] ww297 fun ee353 ww354 => ∃ (same352 : Bool), ee353 = .returned (.bool same352) ∧
  bif same352 then (
  R (.bool (sealv282 == sealv295)) ww354) else (
  R (.bool false) ww354)))) else (
  bif Kind8 == 6 then (
  thenW (ww7.drew) fun ww355 =>
  p1.elim False fun a356 =>
  ∃ (o357 : Option Addr), ww355.cell? (a356.add 0) = some (.pointer o357) ∧
  ∃ (X358 : Int), ww355.cell? ((blk w.heap.size).add 1) = some (.int .u64 X358) ∧
  ∃ (A359a : Option Addr) (A359n : Nat) (A359c : Nat), ww355.cell? ((blk w.heap.size).add 3) = some (.slice A359a A359n A359c) ∧
  ∃ (xKind360 : Int) (xX361 : Int) (xY362 : Int) (xA363a : Option Addr) (xA363n : Nat) (xA363c : Nat) (xB364a : Option Addr) (xB364n : Nat) (xB364c : Nat), cellsAt ww355 (blk w.heap.size) [.int .i64 xKind360, .int .u64 xX361, .int .u64 xY362, .slice xA363a xA363n xA363c, .slice xB364a xB364n xB364c] 0 ∧
  Calls Try.prog 23 #[.pointer p1, .int .u64 X358] ww355 fun ee366 ww367 => ∃ (pick365 : Int), ee366 = .returned (.int .u64 pick365) ∧
  cellsAt ww367 (blk w.heap.size) [.int .i64 xKind360, .int .u64 xX361, .int .u64 xY362, .slice xA363a xA363n xA363c, .slice xB364a xB364n xB364c] 0 ∧
  ww367.cell? ((blk w.heap.size).add 3) = some (.slice A359a A359n A359c) ∧
  ww367.cell? (a356.add 0) = some (.pointer o357) ∧
  Calls Try.prog 31 #[.pointer p1, .agg #[.int .i64 xKind360, .int .u64 xX361, .int .u64 xY362, .slice xA363a xA363n xA363c, .slice xB364a xB364n xB364c]] ww367 fun ee369 ww370 => ∃ (text368a : Option Addr) (text368n : Nat) (text368c : Nat), ee369 = .returned (.slice text368a text368n text368c) ∧
  ww370.cell? ((blk w.heap.size).add 3) = some (.slice A359a A359n A359c) ∧
  ww370.cell? (a356.add 0) = some (.pointer o357) ∧
  Calls Try.prog 30 #[.pointer o357, .int .u64 pick365, .slice A359a A359n A359c, .slice text368a text368n text368c] ww370 fun ee373 ww374 => ∃ (openv371a : Option Addr) (openv371n : Nat) (openv371c : Nat) (openv372 : Int), ee373 = .returned (.tuple #[.slice openv371a openv371n openv371c, .int .i64 openv372]) ∧
  thenW (ww374.drew) fun ww375 =>
  p1.elim False fun a376 =>
  ∃ (m377 : Option Addr), ww375.cell? (a376.add 1) = some (.pointer m377) ∧
  ∃ (X378 : Int), ww375.cell? ((blk w.heap.size).add 1) = some (.int .u64 X378) ∧
  ∃ (A379a : Option Addr) (A379n : Nat) (A379c : Nat), ww375.cell? ((blk w.heap.size).add 3) = some (.slice A379a A379n A379c) ∧
  ∃ (xKind380 : Int) (xX381 : Int) (xY382 : Int) (xA383a : Option Addr) (xA383n : Nat) (xA383c : Nat) (xB384a : Option Addr) (xB384n : Nat) (xB384c : Nat), cellsAt ww375 (blk w.heap.size) [.int .i64 xKind380, .int .u64 xX381, .int .u64 xY382, .slice xA383a xA383n xA383c, .slice xB384a xB384n xB384c] 0 ∧
  Calls Try.prog 23 #[.pointer p1, .int .u64 X378] ww375 fun ee386 ww387 => ∃ (pick385 : Int), ee386 = .returned (.int .u64 pick385) ∧
  cellsAt ww387 (blk w.heap.size) [.int .i64 xKind380, .int .u64 xX381, .int .u64 xY382, .slice xA383a xA383n xA383c, .slice xB384a xB384n xB384c] 0 ∧
  ww387.cell? ((blk w.heap.size).add 3) = some (.slice A379a A379n A379c) ∧
  ww387.cell? (a376.add 1) = some (.pointer m377) ∧
  Calls Try.prog 31 #[.pointer p1, .agg #[.int .i64 xKind380, .int .u64 xX381, .int .u64 xY382, .slice xA383a xA383n xA383c, .slice xB384a xB384n xB384c]] ww387 fun ee389 ww390 => ∃ (text388a : Option Addr) (text388n : Nat) (text388c : Nat), ee389 = .returned (.slice text388a text388n text388c) ∧
  ww390.cell? ((blk w.heap.size).add 3) = some (.slice A379a A379n A379c) ∧
  ww390.cell? (a376.add 1) = some (.pointer m377) ∧
  Calls Try.prog 32 #[.pointer m377, .int .u64 pick385, .slice A379a A379n A379c, .slice text388a text388n text388c] ww390 fun ee393 ww394 => ∃ (openv391a : Option Addr) (openv391n : Nat) (openv391c : Nat) (openv392 : Int), ee393 = .returned (.tuple #[.slice openv391a openv391n openv391c, .int .i64 openv392]) ∧
  Calls Try.prog 9 #[.slice openv371a openv371n openv371c, .slice openv391a openv391n openv391c] ww394 fun ee396 ww397 => ∃ (same395 : Bool), ee396 = .returned (.bool same395) ∧
  bif same395 then (
  R (.bool (openv372 == openv392)) ww397) else (
  R (.bool false) ww397)) else (
  bif Kind8 == 8 then (
  thenW (ww7.drew) fun ww398 =>
  p1.elim False fun a399 =>
  ∃ (o400 : Option Addr), ww398.cell? (a399.add 0) = some (.pointer o400) ∧
  ∃ (X401 : Int), ww398.cell? ((blk w.heap.size).add 1) = some (.int .u64 X401) ∧
  ∃ (xKind402 : Int) (xX403 : Int) (xY404 : Int) (xA405a : Option Addr) (xA405n : Nat) (xA405c : Nat) (xB406a : Option Addr) (xB406n : Nat) (xB406c : Nat), cellsAt ww398 (blk w.heap.size) [.int .i64 xKind402, .int .u64 xX403, .int .u64 xY404, .slice xA405a xA405n xA405c, .slice xB406a xB406n xB406c] 0 ∧
  Calls Try.prog 23 #[.pointer p1, .int .u64 X401] ww398 fun ee408 ww409 => ∃ (pick407 : Int), ee408 = .returned (.int .u64 pick407) ∧
  cellsAt ww409 (blk w.heap.size) [.int .i64 xKind402, .int .u64 xX403, .int .u64 xY404, .slice xA405a xA405n xA405c, .slice xB406a xB406n xB406c] 0 ∧
  ww409.cell? (a399.add 0) = some (.pointer o400) ∧
  Calls Try.prog 31 #[.pointer p1, .agg #[.int .i64 xKind402, .int .u64 xX403, .int .u64 xY404, .slice xA405a xA405n xA405c, .slice xB406a xB406n xB406c]] ww409 fun ee411 ww412 => ∃ (text410a : Option Addr) (text410n : Nat) (text410c : Nat), ee411 = .returned (.slice text410a text410n text410c) ∧
  ww412.cell? (a399.add 0) = some (.pointer o400) ∧
  Calls Try.prog 33 #[.pointer o400, .int .u64 pick407, .slice text410a text410n text410c] ww412 fun ee415 ww416 => ∃ (unwrap413 : Int) (unwrap414 : Int), ee415 = .returned (.tuple #[.int .u64 unwrap413, .int .i64 unwrap414]) ∧
  thenW (ww416.drew) fun ww417 =>
  p1.elim False fun a418 =>
  ∃ (m419 : Option Addr), ww417.cell? (a418.add 1) = some (.pointer m419) ∧
  ∃ (X420 : Int), ww417.cell? ((blk w.heap.size).add 1) = some (.int .u64 X420) ∧
  ∃ (xKind421 : Int) (xX422 : Int) (xY423 : Int) (xA424a : Option Addr) (xA424n : Nat) (xA424c : Nat) (xB425a : Option Addr) (xB425n : Nat) (xB425c : Nat), cellsAt ww417 (blk w.heap.size) [.int .i64 xKind421, .int .u64 xX422, .int .u64 xY423, .slice xA424a xA424n xA424c, .slice xB425a xB425n xB425c] 0 ∧
  Calls Try.prog 23 #[.pointer p1, .int .u64 X420] ww417 fun ee427 ww428 => ∃ (pick426 : Int), ee427 = .returned (.int .u64 pick426) ∧
  cellsAt ww428 (blk w.heap.size) [.int .i64 xKind421, .int .u64 xX422, .int .u64 xY423, .slice xA424a xA424n xA424c, .slice xB425a xB425n xB425c] 0 ∧
  ww428.cell? (a418.add 1) = some (.pointer m419) ∧
  Calls Try.prog 31 #[.pointer p1, .agg #[.int .i64 xKind421, .int .u64 xX422, .int .u64 xY423, .slice xA424a xA424n xA424c, .slice xB425a xB425n xB425c]] ww428 fun ee430 ww431 => ∃ (text429a : Option Addr) (text429n : Nat) (text429c : Nat), ee430 = .returned (.slice text429a text429n text429c) ∧
  ww431.cell? (a418.add 1) = some (.pointer m419) ∧
  Calls Try.prog 34 #[.pointer m419, .int .u64 pick426, .slice text429a text429n text429c] ww431 fun ee434 ww435 => ∃ (unwrap432 : Int) (unwrap433 : Int), ee434 = .returned (.tuple #[.int .u64 unwrap432, .int .i64 unwrap433]) ∧
  bif unwrap413 == unwrap432 then (
  R (.bool (unwrap414 == unwrap433)) ww435) else (
  R (.bool false) ww435)) else (
  R (.bool true) ww7)))))))))

theorem cachettelaw03_player_do.eq (p1 : Option Addr) (xKind2 : Int) (xX3 : Int) (xY4 : Int) (xA5a : Option Addr) (xA5n : Nat) (xA5c : Nat) (xB6a : Option Addr) (xB6n : Nat) (xB6c : Nat) (R : Value → World → Prop) (w : World) : mfunc Try.prog [] 14 [.pointer p1, .agg #[.int .i64 xKind2, .int .u64 xX3, .int .u64 xY4, .slice xA5a xA5n xA5c, .slice xB6a xB6n xB6c]] R w = cachettelaw03_player_do.M p1 xKind2 xX3 xY4 xA5a xA5n xA5c xB6a xB6n xB6c R w := by kernel_rfl
theorem cachettelaw03_player_do.ok (p1 : Option Addr) (xKind2 : Int) (xX3 : Int) (xY4 : Int) (xA5a : Option Addr) (xA5n : Nat) (xA5c : Nat) (xB6a : Option Addr) (xB6n : Nat) (xB6c : Nat) {R : Value → World → Prop} {w : World} (h : cachettelaw03_player_do.M p1 xKind2 xX3 xY4 xA5a xA5n xA5c xB6a xB6n xB6c R w) : Calls Try.prog 14 #[.pointer p1, .agg #[.int .i64 xKind2, .int .u64 xX3, .int .u64 xY4, .slice xA5a xA5n xA5c, .slice xB6a xB6n xB6c]] w fun e w' => ∃ v, e = .returned v ∧ R v w' :=
  mfunc_ok follows (H := []) (args := [.pointer p1, .agg #[.int .i64 xKind2, .int .u64 xX3, .int .u64 xY4, .slice xA5a xA5n xA5c, .slice xB6a xB6n xB6c]]) (by rw [cachettelaw03_player_do.eq]; exact h)

def cachettelaw03_player_do.N (p1 : Option Addr) (xKind2 : Int) (xX3 : Int) (xY4 : Int) (xA5a : Option Addr) (xA5n : Nat) (xA5c : Nat) (xB6a : Option Addr) (xB6n : Nat) (xB6c : Nat) (R : Value → World → Prop) (w : World) : Prop :=
  (xKind2 = 0 →
    ∃ a10 : Addr, p1 = some a10 ∧
    ∃ (o12 : Option Addr), w.cell? (a10.add 0) = some (.pointer o12) ∧
    ∃ (m14 : Option Addr), w.cell? (a10.add 1) = some (.pointer m14) ∧
    ∀ (ww9 : World) (p15 : Nat), Ext no w ww9 → Priv w ww9 [p15] →
    Calls Try.prog 8 #[.pointer o12, .slice xA5a xA5n xA5c] ww9 fun ee17 ww18 => ∃ (hash16 : Int), ee17 = .returned (.int .u64 hash16) ∧
    Keep [p15] ww9 ww18 ∧
    ww18.cell? (a10.add 1) = some (.pointer m14) ∧
    Calls Try.prog 19 #[.pointer m14, .slice xA5a xA5n xA5c] ww18 fun ee21 ww22 => ∃ (hash20 : Int), ee21 = .returned (.int .u64 hash20) ∧
    Calls Try.prog 20 #[.pointer p1, .int .u64 hash20] ww22 fun ee23 ww24 => ee23 = .returned (.tuple #[]) ∧
    R (.bool (hash16 == hash20)) ww24) ∧
  (xKind2 ≠ 0 →
    (xKind2 = 1 →
      ∃ a27 : Addr, p1 = some a27 ∧
      ∃ (o29 : Option Addr), w.cell? (a27.add 0) = some (.pointer o29) ∧
      ∃ (m31 : Option Addr), w.cell? (a27.add 1) = some (.pointer m31) ∧
      ∀ (ww26 : World), Ext no w ww26 →
      Calls Try.prog 16 #[.pointer o29] ww26 fun ee34 ww35 => ∃ (key33 : Int), ee34 = .returned (.int .u64 key33) ∧
      ww35.cell? (a27.add 1) = some (.pointer m31) ∧
      Calls Try.prog 21 #[.pointer m31] ww35 fun ee38 ww39 => ∃ (key37 : Int), ee38 = .returned (.int .u64 key37) ∧
      Calls Try.prog 20 #[.pointer p1, .int .u64 key37] ww39 fun ee40 ww41 => ee40 = .returned (.tuple #[]) ∧
      R (.bool (key33 == key37)) ww41) ∧
    (xKind2 ≠ 1 →
      (xKind2 = 2 →
        ∃ a43 : Addr, p1 = some a43 ∧
        ∃ (o45 : Option Addr), w.cell? (a43.add 0) = some (.pointer o45) ∧
        ∀ (ww7 : World), Ext no w ww7 →
        Calls Try.prog 10 #[.pointer o45] ww7 fun ee49 ww50 => ∃ (pair47 : Int) (pair48 : Int), ee49 = .returned (.tuple #[.int .u64 pair47, .int .u64 pair48]) ∧
        ∃ (m52 : Option Addr), ww50.cell? (a43.add 1) = some (.pointer m52) ∧
        Calls Try.prog 22 #[.pointer m52] ww50 fun ee55 ww56 => ∃ (pair53 : Int) (pair54 : Int), ee55 = .returned (.tuple #[.int .u64 pair53, .int .u64 pair54]) ∧
        Calls Try.prog 20 #[.pointer p1, .int .u64 pair53] ww56 fun ee57 ww58 => ee57 = .returned (.tuple #[]) ∧
        Calls Try.prog 20 #[.pointer p1, .int .u64 pair54] ww58 fun ee59 ww60 => ee59 = .returned (.tuple #[]) ∧
        (pair47 = pair53 →
          R (.bool (pair48 == pair54)) ww60) ∧
        (pair47 ≠ pair53 →
          R (.bool false) ww60)) ∧
      (xKind2 ≠ 2 →
        (xKind2 = 3 →
          ∃ a64 : Addr, p1 = some a64 ∧
          ∃ (o66 : Option Addr), w.cell? (a64.add 0) = some (.pointer o66) ∧
          ∀ (ww63 : World) (p67 : Nat), Ext no w ww63 → Priv w ww63 [p67] →
          Calls Try.prog 23 #[.pointer p1, .int .u64 xX3] ww63 fun ee69 ww70 => ∃ (pick68 : Int), ee69 = .returned (.int .u64 pick68) ∧
          Keep [p67] ww63 ww70 ∧
          ww70.cell? (a64.add 0) = some (.pointer o66) ∧
          Calls Try.prog 11 #[.pointer o66, .int .u64 pick68, .slice xA5a xA5n xA5c] ww70 fun ee74 ww75 => ∃ (sign72 : Int) (sign73 : Int), ee74 = .returned (.tuple #[.int .u64 sign72, .int .i64 sign73]) ∧
          Keep [p67] ww70 ww75 ∧
          ∃ (m78 : Option Addr), ww75.cell? (a64.add 1) = some (.pointer m78) ∧
          ∀ (ww76 : World), Ext no ww75 ww76 →
          Calls Try.prog 23 #[.pointer p1, .int .u64 xX3] ww76 fun ee80 ww81 => ∃ (pick79 : Int), ee80 = .returned (.int .u64 pick79) ∧
          Keep [p67] ww76 ww81 ∧
          ww81.cell? (a64.add 1) = some (.pointer m78) ∧
          Calls Try.prog 24 #[.pointer m78, .int .u64 pick79, .slice xA5a xA5n xA5c] ww81 fun ee85 ww86 => ∃ (sign83 : Int) (sign84 : Int), ee85 = .returned (.tuple #[.int .u64 sign83, .int .i64 sign84]) ∧
          Calls Try.prog 20 #[.pointer p1, .int .u64 sign83] ww86 fun ee87 ww88 => ee87 = .returned (.tuple #[]) ∧
          (sign72 = sign83 →
            R (.bool (sign73 == sign84)) ww88) ∧
          (sign72 ≠ sign83 →
            R (.bool false) ww88)) ∧
        (xKind2 ≠ 3 →
          (xKind2 = 4 →
            ∃ a92 : Addr, p1 = some a92 ∧
            ∃ (o94 : Option Addr), w.cell? (a92.add 0) = some (.pointer o94) ∧
            ∃ (m96 : Option Addr), w.cell? (a92.add 1) = some (.pointer m96) ∧
            ∀ (ww91 : World) (p97 : Nat), Ext no w ww91 → Priv w ww91 [p97] →
            Calls Try.prog 23 #[.pointer p1, .int .u64 xX3] ww91 fun ee99 ww100 => ∃ (pick98 : Int), ee99 = .returned (.int .u64 pick98) ∧
            Keep [p97] ww91 ww100 ∧
            ww100.cell? (a92.add 1) = some (.pointer m96) ∧
            ww100.cell? (a92.add 0) = some (.pointer o94) ∧
            Calls Try.prog 23 #[.pointer p1, .int .u64 xY4] ww100 fun ee104 ww105 => ∃ (pick103 : Int), ee104 = .returned (.int .u64 pick103) ∧
            Keep [p97] ww100 ww105 ∧
            ww105.cell? (a92.add 1) = some (.pointer m96) ∧
            ww105.cell? (a92.add 0) = some (.pointer o94) ∧
            Calls Try.prog 12 #[.pointer o94, .int .u64 pick98, .slice xA5a xA5n xA5c, .int .u64 pick103] ww105 fun ee109 ww110 => ∃ (verify108 : Bool), ee109 = .returned (.bool verify108) ∧
            Keep [p97] ww105 ww110 ∧
            ww110.cell? (a92.add 1) = some (.pointer m96) ∧
            Calls Try.prog 23 #[.pointer p1, .int .u64 xX3] ww110 fun ee113 ww114 => ∃ (pick112 : Int), ee113 = .returned (.int .u64 pick112) ∧
            Keep [p97] ww110 ww114 ∧
            ww114.cell? (a92.add 1) = some (.pointer m96) ∧
            Calls Try.prog 23 #[.pointer p1, .int .u64 xY4] ww114 fun ee117 ww118 => ∃ (pick116 : Int), ee117 = .returned (.int .u64 pick116) ∧
            Keep [p97] ww114 ww118 ∧
            ww118.cell? (a92.add 1) = some (.pointer m96) ∧
            Calls Try.prog 25 #[.pointer m96, .int .u64 pick112, .slice xA5a xA5n xA5c, .int .u64 pick116] ww118 fun ee121 ww122 => ∃ (verify120 : Bool), ee121 = .returned (.bool verify120) ∧
            R (.bool (verify108 == verify120)) ww122) ∧
          (xKind2 ≠ 4 →
            (xKind2 = 5 →
              ∃ a125 : Addr, p1 = some a125 ∧
              ∃ (o127 : Option Addr), w.cell? (a125.add 0) = some (.pointer o127) ∧
              ∀ (ww124 : World) (p128 : Nat), Ext no w ww124 → Priv w ww124 [p128] →
              Calls Try.prog 23 #[.pointer p1, .int .u64 xX3] ww124 fun ee130 ww131 => ∃ (pick129 : Int), ee130 = .returned (.int .u64 pick129) ∧
              Keep [p128] ww124 ww131 ∧
              ww131.cell? (a125.add 0) = some (.pointer o127) ∧
              Calls Try.prog 26 #[.pointer o127, .int .u64 pick129, .slice xA5a xA5n xA5c, .slice xB6a xB6n xB6c] ww131 fun ee135 ww136 => ∃ (sealv133a : Option Addr) (sealv133n : Nat) (sealv133c : Nat) (sealv134 : Int), ee135 = .returned (.tuple #[.slice sealv133a sealv133n sealv133c, .int .i64 sealv134]) ∧
              Keep [p128] ww131 ww136 ∧
              ∃ (m139 : Option Addr), ww136.cell? (a125.add 1) = some (.pointer m139) ∧
              ∀ (ww137 : World), Ext no ww136 ww137 →
              Calls Try.prog 23 #[.pointer p1, .int .u64 xX3] ww137 fun ee141 ww142 => ∃ (pick140 : Int), ee141 = .returned (.int .u64 pick140) ∧
              Keep [p128] ww137 ww142 ∧
              ww142.cell? (a125.add 1) = some (.pointer m139) ∧
              Calls Try.prog 27 #[.pointer m139, .int .u64 pick140, .slice xA5a xA5n xA5c, .slice xB6a xB6n xB6c] ww142 fun ee146 ww147 => ∃ (sealv144a : Option Addr) (sealv144n : Nat) (sealv144c : Nat) (sealv145 : Int), ee146 = .returned (.tuple #[.slice sealv144a sealv144n sealv144c, .int .i64 sealv145]) ∧
              Keep [p128] ww142 ww147 ∧
              (xKind2 = 7 →
                ∃ (o151 : Option Addr), ww147.cell? (a125.add 0) = some (.pointer o151) ∧
                ∀ (ww149 : World), Ext no ww147 ww149 →
                Calls Try.prog 23 #[.pointer p1, .int .u64 xX3] ww149 fun ee153 ww154 => ∃ (pick152 : Int), ee153 = .returned (.int .u64 pick152) ∧
                Keep [p128] ww149 ww154 ∧
                ww154.cell? (a125.add 0) = some (.pointer o151) ∧
                Calls Try.prog 23 #[.pointer p1, .int .u64 xY4] ww154 fun ee157 ww158 => ∃ (pick156 : Int), ee157 = .returned (.int .u64 pick156) ∧
                Keep [p128] ww154 ww158 ∧
                ww158.cell? (a125.add 0) = some (.pointer o151) ∧
                Calls Try.prog 28 #[.pointer o151, .int .u64 pick152, .int .u64 pick156] ww158 fun ee162 ww163 => ∃ (wrap160a : Option Addr) (wrap160n : Nat) (wrap160c : Nat) (wrap161 : Int), ee162 = .returned (.tuple #[.slice wrap160a wrap160n wrap160c, .int .i64 wrap161]) ∧
                Keep [p128] ww158 ww163 ∧
                ∃ (m166 : Option Addr), ww163.cell? (a125.add 1) = some (.pointer m166) ∧
                ∀ (ww164 : World), Ext no ww163 ww164 →
                Calls Try.prog 23 #[.pointer p1, .int .u64 xX3] ww164 fun ee168 ww169 => ∃ (pick167 : Int), ee168 = .returned (.int .u64 pick167) ∧
                Keep [p128] ww164 ww169 ∧
                ww169.cell? (a125.add 1) = some (.pointer m166) ∧
                Calls Try.prog 23 #[.pointer p1, .int .u64 xY4] ww169 fun ee172 ww173 => ∃ (pick171 : Int), ee172 = .returned (.int .u64 pick171) ∧
                ww173.cell? (a125.add 1) = some (.pointer m166) ∧
                Calls Try.prog 29 #[.pointer m166, .int .u64 pick167, .int .u64 pick171] ww173 fun ee177 ww178 => ∃ (wrap175a : Option Addr) (wrap175n : Nat) (wrap175c : Nat) (wrap176 : Int), ee177 = .returned (.tuple #[.slice wrap175a wrap175n wrap175c, .int .i64 wrap176]) ∧
                (wrap176 = 0 →
                  ∃ (texts181a : Option Addr) (texts181n : Nat) (texts181c : Nat), ww178.cell? (a125.add 3) = some (.slice texts181a texts181n texts181c) ∧
                  ∀ (ww182 : World) (q183 : Nat), Ext no ww178 ww182 → Blk ww182 q183 23 [.slice wrap175a wrap175n wrap175c] → ww178.heap.size ≤ q183 → q183 < ww182.heap.size →
                  ∃ (a184a : Option Addr) (a184n : Nat) (a184c : Nat) (ww185 : World), (Builtin.append_ #[45, 45] 45 #[.slice texts181a texts181n texts181c, .slice (some (blk q183)) 1 1]).run Try.prog ww182 = .ok (.slice a184a a184n a184c) ww185 ∧
                  canStore ww185 ((a125.add 3).add 0) ∧
                  thenW (ww185.setCell ((a125.add 3).add 0) (.slice a184a a184n a184c)) fun ww186 =>
                  Calls Try.prog 9 #[.slice wrap160a wrap160n wrap160c, .slice wrap175a wrap175n wrap175c] ww186 fun ee188 ww189 => ∃ (same187 : Bool), ee188 = .returned (.bool same187) ∧
                  (same187 = true →
                    R (.bool (wrap161 == wrap176)) ww189) ∧
                  (same187 = false →
                    R (.bool false) ww189)) ∧
                (wrap176 ≠ 0 →
                  Calls Try.prog 9 #[.slice wrap160a wrap160n wrap160c, .slice wrap175a wrap175n wrap175c] ww178 fun ee192 ww193 => ∃ (same191 : Bool), ee192 = .returned (.bool same191) ∧
                  (same191 = true →
                    R (.bool (wrap161 == wrap176)) ww193) ∧
                  (same191 = false →
                    R (.bool false) ww193))) ∧
              (xKind2 ≠ 7 →
                (sealv145 = 0 →
                  ∃ (texts197a : Option Addr) (texts197n : Nat) (texts197c : Nat), ww147.cell? (a125.add 3) = some (.slice texts197a texts197n texts197c) ∧
                  ∀ (ww198 : World) (q199 : Nat), Ext no ww147 ww198 → Blk ww198 q199 23 [.slice sealv144a sealv144n sealv144c] → ww147.heap.size ≤ q199 → q199 < ww198.heap.size →
                  ∃ (a200a : Option Addr) (a200n : Nat) (a200c : Nat) (ww201 : World), (Builtin.append_ #[45, 45] 45 #[.slice texts197a texts197n texts197c, .slice (some (blk q199)) 1 1]).run Try.prog ww198 = .ok (.slice a200a a200n a200c) ww201 ∧
                  canStore ww201 ((a125.add 3).add 0) ∧
                  thenW (ww201.setCell ((a125.add 3).add 0) (.slice a200a a200n a200c)) fun ww202 =>
                  Calls Try.prog 9 #[.slice sealv133a sealv133n sealv133c, .slice sealv144a sealv144n sealv144c] ww202 fun ee204 ww205 => ∃ (same203 : Bool), ee204 = .returned (.bool same203) ∧
                  (same203 = true →
                    R (.bool (sealv134 == sealv145)) ww205) ∧
                  (same203 = false →
                    R (.bool false) ww205)) ∧
                (sealv145 ≠ 0 →
                  Calls Try.prog 9 #[.slice sealv133a sealv133n sealv133c, .slice sealv144a sealv144n sealv144c] ww147 fun ee208 ww209 => ∃ (same207 : Bool), ee208 = .returned (.bool same207) ∧
                  (same207 = true →
                    R (.bool (sealv134 == sealv145)) ww209) ∧
                  (same207 = false →
                    R (.bool false) ww209)))) ∧
            (xKind2 ≠ 5 →
              (xKind2 = 7 →
                ∃ a213 : Addr, p1 = some a213 ∧
                ∃ (o215 : Option Addr), w.cell? (a213.add 0) = some (.pointer o215) ∧
                ∀ (ww212 : World) (p216 : Nat), Ext no w ww212 → Priv w ww212 [p216] →
                Calls Try.prog 23 #[.pointer p1, .int .u64 xX3] ww212 fun ee218 ww219 => ∃ (pick217 : Int), ee218 = .returned (.int .u64 pick217) ∧
                Keep [p216] ww212 ww219 ∧
                ww219.cell? (a213.add 0) = some (.pointer o215) ∧
                Calls Try.prog 26 #[.pointer o215, .int .u64 pick217, .slice xA5a xA5n xA5c, .slice xB6a xB6n xB6c] ww219 fun ee223 ww224 => ∃ (sealv221a : Option Addr) (sealv221n : Nat) (sealv221c : Nat) (sealv222 : Int), ee223 = .returned (.tuple #[.slice sealv221a sealv221n sealv221c, .int .i64 sealv222]) ∧
                Keep [p216] ww219 ww224 ∧
                ∃ (m227 : Option Addr), ww224.cell? (a213.add 1) = some (.pointer m227) ∧
                ∀ (ww225 : World), Ext no ww224 ww225 →
                Calls Try.prog 23 #[.pointer p1, .int .u64 xX3] ww225 fun ee229 ww230 => ∃ (pick228 : Int), ee229 = .returned (.int .u64 pick228) ∧
                Keep [p216] ww225 ww230 ∧
                ww230.cell? (a213.add 1) = some (.pointer m227) ∧
                Calls Try.prog 27 #[.pointer m227, .int .u64 pick228, .slice xA5a xA5n xA5c, .slice xB6a xB6n xB6c] ww230 fun ee234 ww235 => ∃ (sealv232a : Option Addr) (sealv232n : Nat) (sealv232c : Nat) (sealv233 : Int), ee234 = .returned (.tuple #[.slice sealv232a sealv232n sealv232c, .int .i64 sealv233]) ∧
                Keep [p216] ww230 ww235 ∧
                ∃ (o238 : Option Addr), ww235.cell? (a213.add 0) = some (.pointer o238) ∧
                ∀ (ww236 : World), Ext no ww235 ww236 →
                Calls Try.prog 23 #[.pointer p1, .int .u64 xX3] ww236 fun ee240 ww241 => ∃ (pick239 : Int), ee240 = .returned (.int .u64 pick239) ∧
                Keep [p216] ww236 ww241 ∧
                ww241.cell? (a213.add 0) = some (.pointer o238) ∧
                Calls Try.prog 23 #[.pointer p1, .int .u64 xY4] ww241 fun ee244 ww245 => ∃ (pick243 : Int), ee244 = .returned (.int .u64 pick243) ∧
                Keep [p216] ww241 ww245 ∧
                ww245.cell? (a213.add 0) = some (.pointer o238) ∧
                Calls Try.prog 28 #[.pointer o238, .int .u64 pick239, .int .u64 pick243] ww245 fun ee249 ww250 => ∃ (wrap247a : Option Addr) (wrap247n : Nat) (wrap247c : Nat) (wrap248 : Int), ee249 = .returned (.tuple #[.slice wrap247a wrap247n wrap247c, .int .i64 wrap248]) ∧
                Keep [p216] ww245 ww250 ∧
                ∃ (m253 : Option Addr), ww250.cell? (a213.add 1) = some (.pointer m253) ∧
                ∀ (ww251 : World), Ext no ww250 ww251 →
                Calls Try.prog 23 #[.pointer p1, .int .u64 xX3] ww251 fun ee255 ww256 => ∃ (pick254 : Int), ee255 = .returned (.int .u64 pick254) ∧
                Keep [p216] ww251 ww256 ∧
                ww256.cell? (a213.add 1) = some (.pointer m253) ∧
                Calls Try.prog 23 #[.pointer p1, .int .u64 xY4] ww256 fun ee259 ww260 => ∃ (pick258 : Int), ee259 = .returned (.int .u64 pick258) ∧
                ww260.cell? (a213.add 1) = some (.pointer m253) ∧
                Calls Try.prog 29 #[.pointer m253, .int .u64 pick254, .int .u64 pick258] ww260 fun ee264 ww265 => ∃ (wrap262a : Option Addr) (wrap262n : Nat) (wrap262c : Nat) (wrap263 : Int), ee264 = .returned (.tuple #[.slice wrap262a wrap262n wrap262c, .int .i64 wrap263]) ∧
                (wrap263 = 0 →
                  ∃ (texts268a : Option Addr) (texts268n : Nat) (texts268c : Nat), ww265.cell? (a213.add 3) = some (.slice texts268a texts268n texts268c) ∧
                  ∀ (ww269 : World) (q270 : Nat), Ext no ww265 ww269 → Blk ww269 q270 23 [.slice wrap262a wrap262n wrap262c] → ww265.heap.size ≤ q270 → q270 < ww269.heap.size →
                  ∃ (a271a : Option Addr) (a271n : Nat) (a271c : Nat) (ww272 : World), (Builtin.append_ #[45, 45] 45 #[.slice texts268a texts268n texts268c, .slice (some (blk q270)) 1 1]).run Try.prog ww269 = .ok (.slice a271a a271n a271c) ww272 ∧
                  canStore ww272 ((a213.add 3).add 0) ∧
                  thenW (ww272.setCell ((a213.add 3).add 0) (.slice a271a a271n a271c)) fun ww273 =>
                  Calls Try.prog 9 #[.slice wrap247a wrap247n wrap247c, .slice wrap262a wrap262n wrap262c] ww273 fun ee275 ww276 => ∃ (same274 : Bool), ee275 = .returned (.bool same274) ∧
                  (same274 = true →
                    R (.bool (wrap248 == wrap263)) ww276) ∧
                  (same274 = false →
                    R (.bool false) ww276)) ∧
                (wrap263 ≠ 0 →
                  Calls Try.prog 9 #[.slice wrap247a wrap247n wrap247c, .slice wrap262a wrap262n wrap262c] ww265 fun ee279 ww280 => ∃ (same278 : Bool), ee279 = .returned (.bool same278) ∧
                  (same278 = true →
                    R (.bool (wrap248 == wrap263)) ww280) ∧
                  (same278 = false →
                    R (.bool false) ww280))) ∧
              (xKind2 ≠ 7 →
                (xKind2 = 6 →
                  ∃ a284 : Addr, p1 = some a284 ∧
                  ∃ (o286 : Option Addr), w.cell? (a284.add 0) = some (.pointer o286) ∧
                  ∀ (ww283 : World) (p287 : Nat), Ext no w ww283 → Priv w ww283 [p287] →
                  Calls Try.prog 23 #[.pointer p1, .int .u64 xX3] ww283 fun ee289 ww290 => ∃ (pick288 : Int), ee289 = .returned (.int .u64 pick288) ∧
                  Keep [p287] ww283 ww290 ∧
                  ww290.cell? (a284.add 0) = some (.pointer o286) ∧
                  Calls Try.prog 31 #[.pointer p1, .agg #[.int .i64 xKind2, .int .u64 xX3, .int .u64 xY4, .slice xA5a xA5n xA5c, .slice xB6a xB6n xB6c]] ww290 fun ee293 ww294 => ∃ (text292a : Option Addr) (text292n : Nat) (text292c : Nat), ee293 = .returned (.slice text292a text292n text292c) ∧
                  Keep [p287] ww290 ww294 ∧
                  ww294.cell? (a284.add 0) = some (.pointer o286) ∧
                  Calls Try.prog 30 #[.pointer o286, .int .u64 pick288, .slice xA5a xA5n xA5c, .slice text292a text292n text292c] ww294 fun ee298 ww299 => ∃ (openv296a : Option Addr) (openv296n : Nat) (openv296c : Nat) (openv297 : Int), ee298 = .returned (.tuple #[.slice openv296a openv296n openv296c, .int .i64 openv297]) ∧
                  Keep [p287] ww294 ww299 ∧
                  ∃ (m302 : Option Addr), ww299.cell? (a284.add 1) = some (.pointer m302) ∧
                  ∀ (ww300 : World), Ext no ww299 ww300 →
                  Calls Try.prog 23 #[.pointer p1, .int .u64 xX3] ww300 fun ee304 ww305 => ∃ (pick303 : Int), ee304 = .returned (.int .u64 pick303) ∧
                  Keep [p287] ww300 ww305 ∧
                  ww305.cell? (a284.add 1) = some (.pointer m302) ∧
                  Calls Try.prog 31 #[.pointer p1, .agg #[.int .i64 xKind2, .int .u64 xX3, .int .u64 xY4, .slice xA5a xA5n xA5c, .slice xB6a xB6n xB6c]] ww305 fun ee308 ww309 => ∃ (text307a : Option Addr) (text307n : Nat) (text307c : Nat), ee308 = .returned (.slice text307a text307n text307c) ∧
                  Keep [p287] ww305 ww309 ∧
                  ww309.cell? (a284.add 1) = some (.pointer m302) ∧
                  Calls Try.prog 32 #[.pointer m302, .int .u64 pick303, .slice xA5a xA5n xA5c, .slice text307a text307n text307c] ww309 fun ee313 ww314 => ∃ (openv311a : Option Addr) (openv311n : Nat) (openv311c : Nat) (openv312 : Int), ee313 = .returned (.tuple #[.slice openv311a openv311n openv311c, .int .i64 openv312]) ∧
                  Calls Try.prog 9 #[.slice openv296a openv296n openv296c, .slice openv311a openv311n openv311c] ww314 fun ee316 ww317 => ∃ (same315 : Bool), ee316 = .returned (.bool same315) ∧
                  (same315 = true →
                    R (.bool (openv297 == openv312)) ww317) ∧
                  (same315 = false →
                    R (.bool false) ww317)) ∧
                (xKind2 ≠ 6 →
                  (xKind2 = 8 →
                    ∃ a321 : Addr, p1 = some a321 ∧
                    ∃ (o323 : Option Addr), w.cell? (a321.add 0) = some (.pointer o323) ∧
                    ∀ (ww320 : World) (p324 : Nat), Ext no w ww320 → Priv w ww320 [p324] →
                    Calls Try.prog 23 #[.pointer p1, .int .u64 xX3] ww320 fun ee326 ww327 => ∃ (pick325 : Int), ee326 = .returned (.int .u64 pick325) ∧
                    Keep [p324] ww320 ww327 ∧
                    ww327.cell? (a321.add 0) = some (.pointer o323) ∧
                    Calls Try.prog 31 #[.pointer p1, .agg #[.int .i64 xKind2, .int .u64 xX3, .int .u64 xY4, .slice xA5a xA5n xA5c, .slice xB6a xB6n xB6c]] ww327 fun ee330 ww331 => ∃ (text329a : Option Addr) (text329n : Nat) (text329c : Nat), ee330 = .returned (.slice text329a text329n text329c) ∧
                    Keep [p324] ww327 ww331 ∧
                    ww331.cell? (a321.add 0) = some (.pointer o323) ∧
                    Calls Try.prog 33 #[.pointer o323, .int .u64 pick325, .slice text329a text329n text329c] ww331 fun ee335 ww336 => ∃ (unwrap333 : Int) (unwrap334 : Int), ee335 = .returned (.tuple #[.int .u64 unwrap333, .int .i64 unwrap334]) ∧
                    Keep [p324] ww331 ww336 ∧
                    ∃ (m339 : Option Addr), ww336.cell? (a321.add 1) = some (.pointer m339) ∧
                    ∀ (ww337 : World), Ext no ww336 ww337 →
                    Calls Try.prog 23 #[.pointer p1, .int .u64 xX3] ww337 fun ee341 ww342 => ∃ (pick340 : Int), ee341 = .returned (.int .u64 pick340) ∧
                    Keep [p324] ww337 ww342 ∧
                    ww342.cell? (a321.add 1) = some (.pointer m339) ∧
                    Calls Try.prog 31 #[.pointer p1, .agg #[.int .i64 xKind2, .int .u64 xX3, .int .u64 xY4, .slice xA5a xA5n xA5c, .slice xB6a xB6n xB6c]] ww342 fun ee345 ww346 => ∃ (text344a : Option Addr) (text344n : Nat) (text344c : Nat), ee345 = .returned (.slice text344a text344n text344c) ∧
                    ww346.cell? (a321.add 1) = some (.pointer m339) ∧
                    Calls Try.prog 34 #[.pointer m339, .int .u64 pick340, .slice text344a text344n text344c] ww346 fun ee350 ww351 => ∃ (unwrap348 : Int) (unwrap349 : Int), ee350 = .returned (.tuple #[.int .u64 unwrap348, .int .i64 unwrap349]) ∧
                    (unwrap333 = unwrap348 →
                      R (.bool (unwrap334 == unwrap349)) ww351) ∧
                    (unwrap333 ≠ unwrap348 →
                      R (.bool false) ww351)) ∧
                  (xKind2 ≠ 8 →
                    ∀ (ww7 : World), Ext no w ww7 →
                    R (.bool true) ww7)))))))))

theorem cachettelaw03_player_do.up (p1 : Option Addr) (xKind2 : Int) (xX3 : Int) (xY4 : Int) (xA5a : Option Addr) (xA5n : Nat) (xA5c : Nat) (xB6a : Option Addr) (xB6n : Nat) (xB6c : Nat) {R : Value → World → Prop} {w : World} (h : cachettelaw03_player_do.N p1 xKind2 xX3 xY4 xA5a xA5n xA5c xB6a xB6n xB6c R w) : cachettelaw03_player_do.M p1 xKind2 xX3 xY4 xA5a xA5n xA5c xB6a xB6n xB6c R w := by
  unfold cachettelaw03_player_do.M
  unfold cachettelaw03_player_do.N at h
  refine thenW_in fun ww7 e7 => ?_
  have hb1 := Blk.of_new e7
  have hg1 := ((Ext.refl no w)).size
  have hx7 := (Ext.refl no w).x_alloc e7
  refine ⟨xKind2, hb1.celli 0 rfl rfl, ?_⟩
  refine bif_of (fun c8 => ?_) (fun c8 => ?_)
  · have h := h.1 (beq_t c8)
    refine thenW_in fun ww9 e9 => ?_
    have hx9 := hx7.x_drew e9
    have hb1 := hb1.x_drew e9
    obtain ⟨a10, ha10, h⟩ := h
    refine elim_some ha10 ?_
    obtain ⟨o12, hc11, h⟩ := h
    refine ⟨o12, (hx9).cell hc11 id, ?_⟩
    refine ⟨xA5a, xA5n, xA5c, hb1.celli 3 rfl rfl, ?_⟩
    refine elim_some ha10 ?_
    obtain ⟨m14, hc13, h⟩ := h
    refine ⟨m14, (hx9).cell hc13 id, ?_⟩
    refine ⟨xA5a, xA5n, xA5c, hb1.celli 3 rfl rfl, ?_⟩
    have h := h ww9 (w.heap.size) hx9 (Priv.cons hg1 hb1.lt Priv.nil)
    refine h.mono fun ee17 ww18 h => ?_
    obtain ⟨hash16, he, hk, h⟩ := h
    refine ⟨hash16, he, ?_⟩
    have hb1 := hk.blk hb1 (by simp)
    obtain ⟨ho19, h⟩ := h
    refine ⟨hb1.celli 3 rfl rfl, ho19, ?_⟩
    refine h.mono fun ee21 ww22 h => ?_
    obtain ⟨hash20, he, h⟩ := h
    refine ⟨hash20, he, ?_⟩
    refine h.mono fun ee23 ww24 h => ?_
    obtain ⟨he, h⟩ := h
    refine ⟨he, ?_⟩
    exact h
  · have h := h.2 (beq_f c8)
    refine bif_of (fun c25 => ?_) (fun c25 => ?_)
    · have h := h.1 (beq_t c25)
      refine thenW_in fun ww26 e26 => ?_
      have hx26 := hx7.x_drew e26
      obtain ⟨a27, ha27, h⟩ := h
      refine elim_some ha27 ?_
      obtain ⟨o29, hc28, h⟩ := h
      refine ⟨o29, (hx26).cell hc28 id, ?_⟩
      refine elim_some ha27 ?_
      obtain ⟨m31, hc30, h⟩ := h
      refine ⟨m31, (hx26).cell hc30 id, ?_⟩
      have h := h ww26 hx26
      refine h.mono fun ee34 ww35 h => ?_
      obtain ⟨key33, he, h⟩ := h
      refine ⟨key33, he, ?_⟩
      obtain ⟨ho36, h⟩ := h
      refine ⟨ho36, ?_⟩
      refine h.mono fun ee38 ww39 h => ?_
      obtain ⟨key37, he, h⟩ := h
      refine ⟨key37, he, ?_⟩
      refine h.mono fun ee40 ww41 h => ?_
      obtain ⟨he, h⟩ := h
      refine ⟨he, ?_⟩
      exact h
    · have h := h.2 (beq_f c25)
      refine bif_of (fun c42 => ?_) (fun c42 => ?_)
      · have h := h.1 (beq_t c42)
        obtain ⟨a43, ha43, h⟩ := h
        refine elim_some ha43 ?_
        obtain ⟨o45, hc44, h⟩ := h
        refine ⟨o45, (hx7).cell hc44 id, ?_⟩
        have h := h ww7 hx7
        refine h.mono fun ee49 ww50 h => ?_
        obtain ⟨pair47, pair48, he, h⟩ := h
        refine ⟨pair47, pair48, he, ?_⟩
        refine elim_some ha43 ?_
        obtain ⟨m52, hc51, h⟩ := h
        refine ⟨m52, hc51, ?_⟩
        refine h.mono fun ee55 ww56 h => ?_
        obtain ⟨pair53, pair54, he, h⟩ := h
        refine ⟨pair53, pair54, he, ?_⟩
        refine h.mono fun ee57 ww58 h => ?_
        obtain ⟨he, h⟩ := h
        refine ⟨he, ?_⟩
        refine h.mono fun ee59 ww60 h => ?_
        obtain ⟨he, h⟩ := h
        refine ⟨he, ?_⟩
        refine bif_of (fun c61 => ?_) (fun c61 => ?_)
        · have h := h.1 (beq_t c61)
          exact h
        · have h := h.2 (beq_f c61)
          exact h
      · have h := h.2 (beq_f c42)
        refine bif_of (fun c62 => ?_) (fun c62 => ?_)
        · have h := h.1 (beq_t c62)
          refine thenW_in fun ww63 e63 => ?_
          have hx63 := hx7.x_drew e63
          have hb1 := hb1.x_drew e63
          obtain ⟨a64, ha64, h⟩ := h
          refine elim_some ha64 ?_
          obtain ⟨o66, hc65, h⟩ := h
          refine ⟨o66, (hx63).cell hc65 id, ?_⟩
          refine ⟨xX3, hb1.celli 1 rfl rfl, ?_⟩
          refine ⟨xA5a, xA5n, xA5c, hb1.celli 3 rfl rfl, ?_⟩
          have h := h ww63 (w.heap.size) hx63 (Priv.cons hg1 hb1.lt Priv.nil)
          refine h.mono fun ee69 ww70 h => ?_
          obtain ⟨pick68, he, hk, h⟩ := h
          refine ⟨pick68, he, ?_⟩
          have hb1 := hk.blk hb1 (by simp)
          obtain ⟨ho71, h⟩ := h
          refine ⟨hb1.celli 3 rfl rfl, ho71, ?_⟩
          refine h.mono fun ee74 ww75 h => ?_
          obtain ⟨sign72, sign73, he, hk, h⟩ := h
          refine ⟨sign72, sign73, he, ?_⟩
          have hb1 := hk.blk hb1 (by simp)
          refine thenW_in fun ww76 e76 => ?_
          have hx76 := (Ext.refl no ww75).x_drew e76
          have hb1 := hb1.x_drew e76
          refine elim_some ha64 ?_
          obtain ⟨m78, hc77, h⟩ := h
          refine ⟨m78, (hx76).cell hc77 id, ?_⟩
          refine ⟨xX3, hb1.celli 1 rfl rfl, ?_⟩
          refine ⟨xA5a, xA5n, xA5c, hb1.celli 3 rfl rfl, ?_⟩
          have h := h ww76 hx76
          refine h.mono fun ee80 ww81 h => ?_
          obtain ⟨pick79, he, hk, h⟩ := h
          refine ⟨pick79, he, ?_⟩
          have hb1 := hk.blk hb1 (by simp)
          obtain ⟨ho82, h⟩ := h
          refine ⟨hb1.celli 3 rfl rfl, ho82, ?_⟩
          refine h.mono fun ee85 ww86 h => ?_
          obtain ⟨sign83, sign84, he, h⟩ := h
          refine ⟨sign83, sign84, he, ?_⟩
          refine h.mono fun ee87 ww88 h => ?_
          obtain ⟨he, h⟩ := h
          refine ⟨he, ?_⟩
          refine bif_of (fun c89 => ?_) (fun c89 => ?_)
          · have h := h.1 (beq_t c89)
            exact h
          · have h := h.2 (beq_f c89)
            exact h
        · have h := h.2 (beq_f c62)
          refine bif_of (fun c90 => ?_) (fun c90 => ?_)
          · have h := h.1 (beq_t c90)
            refine thenW_in fun ww91 e91 => ?_
            have hx91 := hx7.x_drew e91
            have hb1 := hb1.x_drew e91
            obtain ⟨a92, ha92, h⟩ := h
            refine elim_some ha92 ?_
            obtain ⟨o94, hc93, h⟩ := h
            refine ⟨o94, (hx91).cell hc93 id, ?_⟩
            refine ⟨xX3, hb1.celli 1 rfl rfl, ?_⟩
            refine ⟨xA5a, xA5n, xA5c, hb1.celli 3 rfl rfl, ?_⟩
            refine ⟨xY4, hb1.celli 2 rfl rfl, ?_⟩
            refine elim_some ha92 ?_
            obtain ⟨m96, hc95, h⟩ := h
            refine ⟨m96, (hx91).cell hc95 id, ?_⟩
            refine ⟨xX3, hb1.celli 1 rfl rfl, ?_⟩
            refine ⟨xA5a, xA5n, xA5c, hb1.celli 3 rfl rfl, ?_⟩
            refine ⟨xY4, hb1.celli 2 rfl rfl, ?_⟩
            have h := h ww91 (w.heap.size) hx91 (Priv.cons hg1 hb1.lt Priv.nil)
            refine h.mono fun ee99 ww100 h => ?_
            obtain ⟨pick98, he, hk, h⟩ := h
            refine ⟨pick98, he, ?_⟩
            have hb1 := hk.blk hb1 (by simp)
            obtain ⟨ho101, ho102, h⟩ := h
            refine ⟨hb1.celli 2 rfl rfl, hb1.celli 3 rfl rfl, hb1.celli 1 rfl rfl, ho101, hb1.celli 2 rfl rfl, hb1.celli 3 rfl rfl, ho102, ?_⟩
            refine h.mono fun ee104 ww105 h => ?_
            obtain ⟨pick103, he, hk, h⟩ := h
            refine ⟨pick103, he, ?_⟩
            have hb1 := hk.blk hb1 (by simp)
            obtain ⟨ho106, ho107, h⟩ := h
            refine ⟨hb1.celli 2 rfl rfl, hb1.celli 3 rfl rfl, hb1.celli 1 rfl rfl, ho106, hb1.celli 3 rfl rfl, ho107, ?_⟩
            refine h.mono fun ee109 ww110 h => ?_
            obtain ⟨verify108, he, hk, h⟩ := h
            refine ⟨verify108, he, ?_⟩
            have hb1 := hk.blk hb1 (by simp)
            obtain ⟨ho111, h⟩ := h
            refine ⟨hb1.celli 2 rfl rfl, hb1.celli 3 rfl rfl, hb1.celli 1 rfl rfl, ho111, ?_⟩
            refine h.mono fun ee113 ww114 h => ?_
            obtain ⟨pick112, he, hk, h⟩ := h
            refine ⟨pick112, he, ?_⟩
            have hb1 := hk.blk hb1 (by simp)
            obtain ⟨ho115, h⟩ := h
            refine ⟨hb1.celli 2 rfl rfl, hb1.celli 3 rfl rfl, ho115, ?_⟩
            refine h.mono fun ee117 ww118 h => ?_
            obtain ⟨pick116, he, hk, h⟩ := h
            refine ⟨pick116, he, ?_⟩
            have hb1 := hk.blk hb1 (by simp)
            obtain ⟨ho119, h⟩ := h
            refine ⟨hb1.celli 3 rfl rfl, ho119, ?_⟩
            refine h.mono fun ee121 ww122 h => ?_
            obtain ⟨verify120, he, h⟩ := h
            refine ⟨verify120, he, ?_⟩
            exact h
          · have h := h.2 (beq_f c90)
            refine bif_of (fun c123 => ?_) (fun c123 => ?_)
            · have h := h.1 (beq_t c123)
              refine bif_tt c123 ?_
              refine thenW_in fun ww124 e124 => ?_
              have hx124 := hx7.x_drew e124
              have hb1 := hb1.x_drew e124
              obtain ⟨a125, ha125, h⟩ := h
              refine elim_some ha125 ?_
              obtain ⟨o127, hc126, h⟩ := h
              refine ⟨o127, (hx124).cell hc126 id, ?_⟩
              refine ⟨xX3, hb1.celli 1 rfl rfl, ?_⟩
              refine ⟨xA5a, xA5n, xA5c, hb1.celli 3 rfl rfl, ?_⟩
              refine ⟨xB6a, xB6n, xB6c, hb1.celli 4 rfl rfl, ?_⟩
              have h := h ww124 (w.heap.size) hx124 (Priv.cons hg1 hb1.lt Priv.nil)
              refine h.mono fun ee130 ww131 h => ?_
              obtain ⟨pick129, he, hk, h⟩ := h
              refine ⟨pick129, he, ?_⟩
              have hb1 := hk.blk hb1 (by simp)
              obtain ⟨ho132, h⟩ := h
              refine ⟨hb1.celli 4 rfl rfl, hb1.celli 3 rfl rfl, ho132, ?_⟩
              refine h.mono fun ee135 ww136 h => ?_
              obtain ⟨sealv133a, sealv133n, sealv133c, sealv134, he, hk, h⟩ := h
              refine ⟨sealv133a, sealv133n, sealv133c, sealv134, he, ?_⟩
              have hb1 := hk.blk hb1 (by simp)
              refine thenW_in fun ww137 e137 => ?_
              have hx137 := (Ext.refl no ww136).x_drew e137
              have hb1 := hb1.x_drew e137
              refine elim_some ha125 ?_
              obtain ⟨m139, hc138, h⟩ := h
              refine ⟨m139, (hx137).cell hc138 id, ?_⟩
              refine ⟨xX3, hb1.celli 1 rfl rfl, ?_⟩
              refine ⟨xA5a, xA5n, xA5c, hb1.celli 3 rfl rfl, ?_⟩
              refine ⟨xB6a, xB6n, xB6c, hb1.celli 4 rfl rfl, ?_⟩
              have h := h ww137 hx137
              refine h.mono fun ee141 ww142 h => ?_
              obtain ⟨pick140, he, hk, h⟩ := h
              refine ⟨pick140, he, ?_⟩
              have hb1 := hk.blk hb1 (by simp)
              obtain ⟨ho143, h⟩ := h
              refine ⟨hb1.celli 4 rfl rfl, hb1.celli 3 rfl rfl, ho143, ?_⟩
              refine h.mono fun ee146 ww147 h => ?_
              obtain ⟨sealv144a, sealv144n, sealv144c, sealv145, he, hk, h⟩ := h
              refine ⟨sealv144a, sealv144n, sealv144c, sealv145, he, ?_⟩
              have hb1 := hk.blk hb1 (by simp)
              refine ⟨xKind2, hb1.celli 0 rfl rfl, ?_⟩
              refine bif_of (fun c148 => ?_) (fun c148 => ?_)
              · have h := h.1 (beq_t c148)
                refine thenW_in fun ww149 e149 => ?_
                have hx149 := (Ext.refl no ww147).x_drew e149
                have hb1 := hb1.x_drew e149
                refine elim_some ha125 ?_
                obtain ⟨o151, hc150, h⟩ := h
                refine ⟨o151, (hx149).cell hc150 id, ?_⟩
                refine ⟨xX3, hb1.celli 1 rfl rfl, ?_⟩
                refine ⟨xY4, hb1.celli 2 rfl rfl, ?_⟩
                have h := h ww149 hx149
                refine h.mono fun ee153 ww154 h => ?_
                obtain ⟨pick152, he, hk, h⟩ := h
                refine ⟨pick152, he, ?_⟩
                have hb1 := hk.blk hb1 (by simp)
                obtain ⟨ho155, h⟩ := h
                refine ⟨hb1.celli 2 rfl rfl, ho155, ?_⟩
                refine h.mono fun ee157 ww158 h => ?_
                obtain ⟨pick156, he, hk, h⟩ := h
                refine ⟨pick156, he, ?_⟩
                have hb1 := hk.blk hb1 (by simp)
                obtain ⟨ho159, h⟩ := h
                refine ⟨ho159, ?_⟩
                refine h.mono fun ee162 ww163 h => ?_
                obtain ⟨wrap160a, wrap160n, wrap160c, wrap161, he, hk, h⟩ := h
                refine ⟨wrap160a, wrap160n, wrap160c, wrap161, he, ?_⟩
                have hb1 := hk.blk hb1 (by simp)
                refine thenW_in fun ww164 e164 => ?_
                have hx164 := (Ext.refl no ww163).x_drew e164
                have hb1 := hb1.x_drew e164
                refine elim_some ha125 ?_
                obtain ⟨m166, hc165, h⟩ := h
                refine ⟨m166, (hx164).cell hc165 id, ?_⟩
                refine ⟨xX3, hb1.celli 1 rfl rfl, ?_⟩
                refine ⟨xY4, hb1.celli 2 rfl rfl, ?_⟩
                have h := h ww164 hx164
                refine h.mono fun ee168 ww169 h => ?_
                obtain ⟨pick167, he, hk, h⟩ := h
                refine ⟨pick167, he, ?_⟩
                have hb1 := hk.blk hb1 (by simp)
                obtain ⟨ho170, h⟩ := h
                refine ⟨hb1.celli 2 rfl rfl, ho170, ?_⟩
                refine h.mono fun ee172 ww173 h => ?_
                obtain ⟨pick171, he, h⟩ := h
                refine ⟨pick171, he, ?_⟩
                obtain ⟨ho174, h⟩ := h
                refine ⟨ho174, ?_⟩
                refine h.mono fun ee177 ww178 h => ?_
                obtain ⟨wrap175a, wrap175n, wrap175c, wrap176, he, h⟩ := h
                refine ⟨wrap175a, wrap175n, wrap175c, wrap176, he, ?_⟩
                refine bif_of (fun c179 => ?_) (fun c179 => ?_)
                · have h := h.1 (beq_t c179)
                  refine elim_some ha125 ?_
                  obtain ⟨texts181a, texts181n, texts181c, hc180, h⟩ := h
                  refine ⟨texts181a, texts181n, texts181c, hc180, ?_⟩
                  refine thenW_in fun ww182 e182 => ?_
                  have h := h ww182 ww178.heap.size ((Ext.refl no ww178).x_alloc e182) (Blk.of_new e182) ((Ext.refl no ww178)).size (size_lt_alloc e182)
                  obtain ⟨a184a, a184n, a184c, ww185, hr, h⟩ := h
                  refine ⟨a184a, a184n, a184c, ww185, hr, ?_⟩
                  refine elim_some ha125 ?_
                  obtain ⟨hcs, h⟩ := h
                  refine ⟨hcs, thenW_in fun ww186 e186 => ?_⟩
                  replace h := thenW_out h e186
                  refine h.mono fun ee188 ww189 h => ?_
                  obtain ⟨same187, he, h⟩ := h
                  refine ⟨same187, he, ?_⟩
                  refine bif_of (fun c190 => ?_) (fun c190 => ?_)
                  · have h := h.1 c190
                    exact h
                  · have h := h.2 c190
                    exact h
                · have h := h.2 (beq_f c179)
                  refine h.mono fun ee192 ww193 h => ?_
                  obtain ⟨same191, he, h⟩ := h
                  refine ⟨same191, he, ?_⟩
                  refine bif_of (fun c194 => ?_) (fun c194 => ?_)
                  · have h := h.1 c194
                    exact h
                  · have h := h.2 c194
                    exact h
              · have h := h.2 (beq_f c148)
                refine bif_of (fun c195 => ?_) (fun c195 => ?_)
                · have h := h.1 (beq_t c195)
                  refine elim_some ha125 ?_
                  obtain ⟨texts197a, texts197n, texts197c, hc196, h⟩ := h
                  refine ⟨texts197a, texts197n, texts197c, hc196, ?_⟩
                  refine thenW_in fun ww198 e198 => ?_
                  have h := h ww198 ww147.heap.size ((Ext.refl no ww147).x_alloc e198) (Blk.of_new e198) ((Ext.refl no ww147)).size (size_lt_alloc e198)
                  obtain ⟨a200a, a200n, a200c, ww201, hr, h⟩ := h
                  refine ⟨a200a, a200n, a200c, ww201, hr, ?_⟩
                  refine elim_some ha125 ?_
                  obtain ⟨hcs, h⟩ := h
                  refine ⟨hcs, thenW_in fun ww202 e202 => ?_⟩
                  replace h := thenW_out h e202
                  refine h.mono fun ee204 ww205 h => ?_
                  obtain ⟨same203, he, h⟩ := h
                  refine ⟨same203, he, ?_⟩
                  refine bif_of (fun c206 => ?_) (fun c206 => ?_)
                  · have h := h.1 c206
                    exact h
                  · have h := h.2 c206
                    exact h
                · have h := h.2 (beq_f c195)
                  refine h.mono fun ee208 ww209 h => ?_
                  obtain ⟨same207, he, h⟩ := h
                  refine ⟨same207, he, ?_⟩
                  refine bif_of (fun c210 => ?_) (fun c210 => ?_)
                  · have h := h.1 c210
                    exact h
                  · have h := h.2 c210
                    exact h
            · have h := h.2 (beq_f c123)
              refine bif_of (fun c211 => ?_) (fun c211 => ?_)
              · have h := h.1 (beq_t c211)
                refine thenW_in fun ww212 e212 => ?_
                have hx212 := hx7.x_drew e212
                have hb1 := hb1.x_drew e212
                obtain ⟨a213, ha213, h⟩ := h
                refine elim_some ha213 ?_
                obtain ⟨o215, hc214, h⟩ := h
                refine ⟨o215, (hx212).cell hc214 id, ?_⟩
                refine ⟨xX3, hb1.celli 1 rfl rfl, ?_⟩
                refine ⟨xA5a, xA5n, xA5c, hb1.celli 3 rfl rfl, ?_⟩
                refine ⟨xB6a, xB6n, xB6c, hb1.celli 4 rfl rfl, ?_⟩
                have h := h ww212 (w.heap.size) hx212 (Priv.cons hg1 hb1.lt Priv.nil)
                refine h.mono fun ee218 ww219 h => ?_
                obtain ⟨pick217, he, hk, h⟩ := h
                refine ⟨pick217, he, ?_⟩
                have hb1 := hk.blk hb1 (by simp)
                obtain ⟨ho220, h⟩ := h
                refine ⟨hb1.celli 4 rfl rfl, hb1.celli 3 rfl rfl, ho220, ?_⟩
                refine h.mono fun ee223 ww224 h => ?_
                obtain ⟨sealv221a, sealv221n, sealv221c, sealv222, he, hk, h⟩ := h
                refine ⟨sealv221a, sealv221n, sealv221c, sealv222, he, ?_⟩
                have hb1 := hk.blk hb1 (by simp)
                refine thenW_in fun ww225 e225 => ?_
                have hx225 := (Ext.refl no ww224).x_drew e225
                have hb1 := hb1.x_drew e225
                refine elim_some ha213 ?_
                obtain ⟨m227, hc226, h⟩ := h
                refine ⟨m227, (hx225).cell hc226 id, ?_⟩
                refine ⟨xX3, hb1.celli 1 rfl rfl, ?_⟩
                refine ⟨xA5a, xA5n, xA5c, hb1.celli 3 rfl rfl, ?_⟩
                refine ⟨xB6a, xB6n, xB6c, hb1.celli 4 rfl rfl, ?_⟩
                have h := h ww225 hx225
                refine h.mono fun ee229 ww230 h => ?_
                obtain ⟨pick228, he, hk, h⟩ := h
                refine ⟨pick228, he, ?_⟩
                have hb1 := hk.blk hb1 (by simp)
                obtain ⟨ho231, h⟩ := h
                refine ⟨hb1.celli 4 rfl rfl, hb1.celli 3 rfl rfl, ho231, ?_⟩
                refine h.mono fun ee234 ww235 h => ?_
                obtain ⟨sealv232a, sealv232n, sealv232c, sealv233, he, hk, h⟩ := h
                refine ⟨sealv232a, sealv232n, sealv232c, sealv233, he, ?_⟩
                have hb1 := hk.blk hb1 (by simp)
                refine ⟨xKind2, hb1.celli 0 rfl rfl, ?_⟩
                refine bif_tt c211 ?_
                refine thenW_in fun ww236 e236 => ?_
                have hx236 := (Ext.refl no ww235).x_drew e236
                have hb1 := hb1.x_drew e236
                refine elim_some ha213 ?_
                obtain ⟨o238, hc237, h⟩ := h
                refine ⟨o238, (hx236).cell hc237 id, ?_⟩
                refine ⟨xX3, hb1.celli 1 rfl rfl, ?_⟩
                refine ⟨xY4, hb1.celli 2 rfl rfl, ?_⟩
                have h := h ww236 hx236
                refine h.mono fun ee240 ww241 h => ?_
                obtain ⟨pick239, he, hk, h⟩ := h
                refine ⟨pick239, he, ?_⟩
                have hb1 := hk.blk hb1 (by simp)
                obtain ⟨ho242, h⟩ := h
                refine ⟨hb1.celli 2 rfl rfl, ho242, ?_⟩
                refine h.mono fun ee244 ww245 h => ?_
                obtain ⟨pick243, he, hk, h⟩ := h
                refine ⟨pick243, he, ?_⟩
                have hb1 := hk.blk hb1 (by simp)
                obtain ⟨ho246, h⟩ := h
                refine ⟨ho246, ?_⟩
                refine h.mono fun ee249 ww250 h => ?_
                obtain ⟨wrap247a, wrap247n, wrap247c, wrap248, he, hk, h⟩ := h
                refine ⟨wrap247a, wrap247n, wrap247c, wrap248, he, ?_⟩
                have hb1 := hk.blk hb1 (by simp)
                refine thenW_in fun ww251 e251 => ?_
                have hx251 := (Ext.refl no ww250).x_drew e251
                have hb1 := hb1.x_drew e251
                refine elim_some ha213 ?_
                obtain ⟨m253, hc252, h⟩ := h
                refine ⟨m253, (hx251).cell hc252 id, ?_⟩
                refine ⟨xX3, hb1.celli 1 rfl rfl, ?_⟩
                refine ⟨xY4, hb1.celli 2 rfl rfl, ?_⟩
                have h := h ww251 hx251
                refine h.mono fun ee255 ww256 h => ?_
                obtain ⟨pick254, he, hk, h⟩ := h
                refine ⟨pick254, he, ?_⟩
                have hb1 := hk.blk hb1 (by simp)
                obtain ⟨ho257, h⟩ := h
                refine ⟨hb1.celli 2 rfl rfl, ho257, ?_⟩
                refine h.mono fun ee259 ww260 h => ?_
                obtain ⟨pick258, he, h⟩ := h
                refine ⟨pick258, he, ?_⟩
                obtain ⟨ho261, h⟩ := h
                refine ⟨ho261, ?_⟩
                refine h.mono fun ee264 ww265 h => ?_
                obtain ⟨wrap262a, wrap262n, wrap262c, wrap263, he, h⟩ := h
                refine ⟨wrap262a, wrap262n, wrap262c, wrap263, he, ?_⟩
                refine bif_of (fun c266 => ?_) (fun c266 => ?_)
                · have h := h.1 (beq_t c266)
                  refine elim_some ha213 ?_
                  obtain ⟨texts268a, texts268n, texts268c, hc267, h⟩ := h
                  refine ⟨texts268a, texts268n, texts268c, hc267, ?_⟩
                  refine thenW_in fun ww269 e269 => ?_
                  have h := h ww269 ww265.heap.size ((Ext.refl no ww265).x_alloc e269) (Blk.of_new e269) ((Ext.refl no ww265)).size (size_lt_alloc e269)
                  obtain ⟨a271a, a271n, a271c, ww272, hr, h⟩ := h
                  refine ⟨a271a, a271n, a271c, ww272, hr, ?_⟩
                  refine elim_some ha213 ?_
                  obtain ⟨hcs, h⟩ := h
                  refine ⟨hcs, thenW_in fun ww273 e273 => ?_⟩
                  replace h := thenW_out h e273
                  refine h.mono fun ee275 ww276 h => ?_
                  obtain ⟨same274, he, h⟩ := h
                  refine ⟨same274, he, ?_⟩
                  refine bif_of (fun c277 => ?_) (fun c277 => ?_)
                  · have h := h.1 c277
                    exact h
                  · have h := h.2 c277
                    exact h
                · have h := h.2 (beq_f c266)
                  refine h.mono fun ee279 ww280 h => ?_
                  obtain ⟨same278, he, h⟩ := h
                  refine ⟨same278, he, ?_⟩
                  refine bif_of (fun c281 => ?_) (fun c281 => ?_)
                  · have h := h.1 c281
                    exact h
                  · have h := h.2 c281
                    exact h
              · have h := h.2 (beq_f c211)
                refine bif_of (fun c282 => ?_) (fun c282 => ?_)
                · have h := h.1 (beq_t c282)
                  refine thenW_in fun ww283 e283 => ?_
                  have hx283 := hx7.x_drew e283
                  have hb1 := hb1.x_drew e283
                  obtain ⟨a284, ha284, h⟩ := h
                  refine elim_some ha284 ?_
                  obtain ⟨o286, hc285, h⟩ := h
                  refine ⟨o286, (hx283).cell hc285 id, ?_⟩
                  refine ⟨xX3, hb1.celli 1 rfl rfl, ?_⟩
                  refine ⟨xA5a, xA5n, xA5c, hb1.celli 3 rfl rfl, ?_⟩
                  refine ⟨xKind2, xX3, xY4, xA5a, xA5n, xA5c, xB6a, xB6n, xB6c, ⟨hb1.celli 0 rfl rfl, hb1.celli 1 rfl rfl, hb1.celli 2 rfl rfl, hb1.celli 3 rfl rfl, hb1.celli 4 rfl rfl, trivial⟩, ?_⟩
                  have h := h ww283 (w.heap.size) hx283 (Priv.cons hg1 hb1.lt Priv.nil)
                  refine h.mono fun ee289 ww290 h => ?_
                  obtain ⟨pick288, he, hk, h⟩ := h
                  refine ⟨pick288, he, ?_⟩
                  have hb1 := hk.blk hb1 (by simp)
                  obtain ⟨ho291, h⟩ := h
                  refine ⟨⟨hb1.celli 0 rfl rfl, hb1.celli 1 rfl rfl, hb1.celli 2 rfl rfl, hb1.celli 3 rfl rfl, hb1.celli 4 rfl rfl, trivial⟩, hb1.celli 3 rfl rfl, ho291, ?_⟩
                  refine h.mono fun ee293 ww294 h => ?_
                  obtain ⟨text292a, text292n, text292c, he, hk, h⟩ := h
                  refine ⟨text292a, text292n, text292c, he, ?_⟩
                  have hb1 := hk.blk hb1 (by simp)
                  obtain ⟨ho295, h⟩ := h
                  refine ⟨hb1.celli 3 rfl rfl, ho295, ?_⟩
                  refine h.mono fun ee298 ww299 h => ?_
                  obtain ⟨openv296a, openv296n, openv296c, openv297, he, hk, h⟩ := h
                  refine ⟨openv296a, openv296n, openv296c, openv297, he, ?_⟩
                  have hb1 := hk.blk hb1 (by simp)
                  refine thenW_in fun ww300 e300 => ?_
                  have hx300 := (Ext.refl no ww299).x_drew e300
                  have hb1 := hb1.x_drew e300
                  refine elim_some ha284 ?_
                  obtain ⟨m302, hc301, h⟩ := h
                  refine ⟨m302, (hx300).cell hc301 id, ?_⟩
                  refine ⟨xX3, hb1.celli 1 rfl rfl, ?_⟩
                  refine ⟨xA5a, xA5n, xA5c, hb1.celli 3 rfl rfl, ?_⟩
                  refine ⟨xKind2, xX3, xY4, xA5a, xA5n, xA5c, xB6a, xB6n, xB6c, ⟨hb1.celli 0 rfl rfl, hb1.celli 1 rfl rfl, hb1.celli 2 rfl rfl, hb1.celli 3 rfl rfl, hb1.celli 4 rfl rfl, trivial⟩, ?_⟩
                  have h := h ww300 hx300
                  refine h.mono fun ee304 ww305 h => ?_
                  obtain ⟨pick303, he, hk, h⟩ := h
                  refine ⟨pick303, he, ?_⟩
                  have hb1 := hk.blk hb1 (by simp)
                  obtain ⟨ho306, h⟩ := h
                  refine ⟨⟨hb1.celli 0 rfl rfl, hb1.celli 1 rfl rfl, hb1.celli 2 rfl rfl, hb1.celli 3 rfl rfl, hb1.celli 4 rfl rfl, trivial⟩, hb1.celli 3 rfl rfl, ho306, ?_⟩
                  refine h.mono fun ee308 ww309 h => ?_
                  obtain ⟨text307a, text307n, text307c, he, hk, h⟩ := h
                  refine ⟨text307a, text307n, text307c, he, ?_⟩
                  have hb1 := hk.blk hb1 (by simp)
                  obtain ⟨ho310, h⟩ := h
                  refine ⟨hb1.celli 3 rfl rfl, ho310, ?_⟩
                  refine h.mono fun ee313 ww314 h => ?_
                  obtain ⟨openv311a, openv311n, openv311c, openv312, he, h⟩ := h
                  refine ⟨openv311a, openv311n, openv311c, openv312, he, ?_⟩
                  refine h.mono fun ee316 ww317 h => ?_
                  obtain ⟨same315, he, h⟩ := h
                  refine ⟨same315, he, ?_⟩
                  refine bif_of (fun c318 => ?_) (fun c318 => ?_)
                  · have h := h.1 c318
                    exact h
                  · have h := h.2 c318
                    exact h
                · have h := h.2 (beq_f c282)
                  refine bif_of (fun c319 => ?_) (fun c319 => ?_)
                  · have h := h.1 (beq_t c319)
                    refine thenW_in fun ww320 e320 => ?_
                    have hx320 := hx7.x_drew e320
                    have hb1 := hb1.x_drew e320
                    obtain ⟨a321, ha321, h⟩ := h
                    refine elim_some ha321 ?_
                    obtain ⟨o323, hc322, h⟩ := h
                    refine ⟨o323, (hx320).cell hc322 id, ?_⟩
                    refine ⟨xX3, hb1.celli 1 rfl rfl, ?_⟩
                    refine ⟨xKind2, xX3, xY4, xA5a, xA5n, xA5c, xB6a, xB6n, xB6c, ⟨hb1.celli 0 rfl rfl, hb1.celli 1 rfl rfl, hb1.celli 2 rfl rfl, hb1.celli 3 rfl rfl, hb1.celli 4 rfl rfl, trivial⟩, ?_⟩
                    have h := h ww320 (w.heap.size) hx320 (Priv.cons hg1 hb1.lt Priv.nil)
                    refine h.mono fun ee326 ww327 h => ?_
                    obtain ⟨pick325, he, hk, h⟩ := h
                    refine ⟨pick325, he, ?_⟩
                    have hb1 := hk.blk hb1 (by simp)
                    obtain ⟨ho328, h⟩ := h
                    refine ⟨⟨hb1.celli 0 rfl rfl, hb1.celli 1 rfl rfl, hb1.celli 2 rfl rfl, hb1.celli 3 rfl rfl, hb1.celli 4 rfl rfl, trivial⟩, ho328, ?_⟩
                    refine h.mono fun ee330 ww331 h => ?_
                    obtain ⟨text329a, text329n, text329c, he, hk, h⟩ := h
                    refine ⟨text329a, text329n, text329c, he, ?_⟩
                    have hb1 := hk.blk hb1 (by simp)
                    obtain ⟨ho332, h⟩ := h
                    refine ⟨ho332, ?_⟩
                    refine h.mono fun ee335 ww336 h => ?_
                    obtain ⟨unwrap333, unwrap334, he, hk, h⟩ := h
                    refine ⟨unwrap333, unwrap334, he, ?_⟩
                    have hb1 := hk.blk hb1 (by simp)
                    refine thenW_in fun ww337 e337 => ?_
                    have hx337 := (Ext.refl no ww336).x_drew e337
                    have hb1 := hb1.x_drew e337
                    refine elim_some ha321 ?_
                    obtain ⟨m339, hc338, h⟩ := h
                    refine ⟨m339, (hx337).cell hc338 id, ?_⟩
                    refine ⟨xX3, hb1.celli 1 rfl rfl, ?_⟩
                    refine ⟨xKind2, xX3, xY4, xA5a, xA5n, xA5c, xB6a, xB6n, xB6c, ⟨hb1.celli 0 rfl rfl, hb1.celli 1 rfl rfl, hb1.celli 2 rfl rfl, hb1.celli 3 rfl rfl, hb1.celli 4 rfl rfl, trivial⟩, ?_⟩
                    have h := h ww337 hx337
                    refine h.mono fun ee341 ww342 h => ?_
                    obtain ⟨pick340, he, hk, h⟩ := h
                    refine ⟨pick340, he, ?_⟩
                    have hb1 := hk.blk hb1 (by simp)
                    obtain ⟨ho343, h⟩ := h
                    refine ⟨⟨hb1.celli 0 rfl rfl, hb1.celli 1 rfl rfl, hb1.celli 2 rfl rfl, hb1.celli 3 rfl rfl, hb1.celli 4 rfl rfl, trivial⟩, ho343, ?_⟩
                    refine h.mono fun ee345 ww346 h => ?_
                    obtain ⟨text344a, text344n, text344c, he, h⟩ := h
                    refine ⟨text344a, text344n, text344c, he, ?_⟩
                    obtain ⟨ho347, h⟩ := h
                    refine ⟨ho347, ?_⟩
                    refine h.mono fun ee350 ww351 h => ?_
                    obtain ⟨unwrap348, unwrap349, he, h⟩ := h
                    refine ⟨unwrap348, unwrap349, he, ?_⟩
                    refine bif_of (fun c352 => ?_) (fun c352 => ?_)
                    · have h := h.1 (beq_t c352)
                      exact h
                    · have h := h.2 (beq_f c352)
                      exact h
                  · have h := h.2 (beq_f c319)
                    have h := h ww7 hx7
                    exact h

theorem cachettelaw03_player_do.go (p1 : Option Addr) (xKind2 : Int) (xX3 : Int) (xY4 : Int) (xA5a : Option Addr) (xA5n : Nat) (xA5c : Nat) (xB6a : Option Addr) (xB6n : Nat) (xB6c : Nat) {R : Value → World → Prop} {w : World} (h : cachettelaw03_player_do.N p1 xKind2 xX3 xY4 xA5a xA5n xA5c xB6a xB6n xB6c R w) : Calls Try.prog 14 #[.pointer p1, .agg #[.int .i64 xKind2, .int .u64 xX3, .int .u64 xY4, .slice xA5a xA5n xA5c, .slice xB6a xB6n xB6c]] w fun e w' => ∃ v, e = .returned v ∧ R v w' := cachettelaw03_player_do.ok p1 xKind2 xX3 xY4 xA5a xA5n xA5c xB6a xB6n xB6c (cachettelaw03_player_do.up p1 xKind2 xX3 xY4 xA5a xA5n xA5c xB6a xB6n xB6c h)
theorem cachettelaw03_player_do.run (p1 : Option Addr) (xKind2 : Int) (xX3 : Int) (xY4 : Int) (xA5a : Option Addr) (xA5n : Nat) (xA5c : Nat) (xB6a : Option Addr) (xB6n : Nat) (xB6c : Nat) {V : Value} {Q : World → Prop} {w : World} (h : cachettelaw03_player_do.N p1 xKind2 xX3 xY4 xA5a xA5n xA5c xB6a xB6n xB6c (fun v w' => v = V ∧ Q w') w) : Calls Try.prog 14 #[.pointer p1, .agg #[.int .i64 xKind2, .int .u64 xX3, .int .u64 xY4, .slice xA5a xA5n xA5c, .slice xB6a xB6n xB6c]] w (Ret V Q) := (cachettelaw03_player_do.go p1 xKind2 xX3 xY4 xA5a xA5n xA5c xB6a xB6n xB6c h).mono fun e w' ⟨v, he, hv, hq⟩ => ⟨by rw [he, hv], hq⟩

/-- both oracles, and the player. -/
structure PlI (w : World) (o : Own) (q k j : Nat) (S : OS) (d : List Int) (L : List RRow) (n : Nat) (hs : List Int) (ts : List TB) : Prop where
  two : Two w o k j S d L n
  pl : Plr w o q k j hs ts
  qk : q ≠ k
  qj : q ≠ j
section
variable {w w' w1 : World} {o o' o1 : Own} {q k j n n' : Nat} {S S' : OS} {d d' : List Int} {L L' : List RRow} {hs : List Int} {ts : List TB}
theorem PlI.step (h : PlI w o q k j S d L n hs ts) (s : Step no w o w' o') : PlI w' o' q k j S d L n hs ts := ⟨h.two.step s, h.pl.step s id, h.qk, h.qj⟩
theorem PlI.more (h : PlI w o q k j S d L n hs ts) : PlI w o q k j S d L (n + 1) hs ts := ⟨⟨h.two.p, h.two.r, h.two.sim, h.two.inv, h.two.fine.more, h.two.ok, h.two.ne⟩, h.pl, h.qk, h.qj⟩
theorem PlI.turn (h : PlI w o q k j S d L n hs ts) (s1 : Step (fun i => i = k) w o w1 o1) (p1 : POrc w1 o1 k S') (s2 : Step (fun i => i = j) w1 o1 w' o') (r2 : ROrc w' o' j d' L')
    (sim : Sim S' d' L') (inv : OInv S') (fine : RFine n' d' L') : PlI w' o' q k j S' d' L' n' hs ts ∧ Step (fun i => i = k ∨ i = j) w o w' o' := by
  obtain ⟨t, s⟩ := h.two.turn s1 p1 s2 r2 sim inv fine
  exact ⟨⟨t, h.pl.step s (by have := h.qk; have := h.qj; omega), h.qk, h.qj⟩, s⟩
theorem PlI.cell0 (h : PlI w o q k j S d L n hs ts) : w.cell? ((blk q).add 0) = some (.pointer (some (blk k))) := by
  obtain ⟨_, _, _, _, b, _⟩ := h.pl.st; exact b.cella (i := 0) rfl
theorem PlI.cell1 (h : PlI w o q k j S d L n hs ts) : w.cell? ((blk q).add 1) = some (.pointer (some (blk j))) := by
  obtain ⟨_, _, _, _, b, _⟩ := h.pl.st; exact b.cella (i := 1) rfl
/-- a step of the player's. -/
theorem PlI.own {hs' : List Int} {ts' : List TB} (h : PlI w o q k j S d L n hs ts) (s : Step (fun i => i = q) w o w' o') (p : Plr w' o' q k j hs' ts') : PlI w' o' q k j S d L n hs' ts' :=
  ⟨⟨h.two.p.step s h.qk.symm, h.two.r.step s h.qj.symm, h.two.sim, h.two.inv, h.two.fine, s.ok, h.two.ne⟩, p, h.qk, h.qj⟩
end
end Go.Proofs.Ytgagmbmkpfjbbaa
