/- The player's calls: Seal, and Wrap. -/
import Derived.Test.YtgagmbmkpfjbbaaOraY
set_option linter.unusedVariables false
set_option linter.unusedSimpArgs false
set_option maxRecDepth 20000
set_option maxHeartbeats 2000000
namespace Go.Proofs.Ytgagmbmkpfjbbaa
open Go Go.Mx Go.Proofs
section
variable {w w' w1 : World} {o o' o1 : Own} {q k j n : Nat} {S : OS} {d : List Int} {L : List RRow} {hs : List Int} {ts : List TB}
/-- the end of Seal's and Wrap's case: what was told is kept, and both are held against each other. -/
theorem doEnd {w0 : World} {o0 : Own} {n0 a t : Nat} (P : PlI w o q k j S d L (n0 + 2) hs ts) (s0 : Step (fun i => (i = k ∨ i = j) ∨ i = q) w0 o0 w o) (hh : hs.length ≤ a + 2) (ht : ts.length ≤ t) (htl : ts.length < 1000000) {r : List UInt8 × Int} (hr2 : r.1.length ≤ 2000) {xa ya : Option Addr} {xc yc : Nat} (hx : Row w o xa (bytesV r.1)) (hy : Row w o ya (bytesV r.1)) (hyc : r.1.length ≤ yc) :
    (r.2 = 0 →
      ∃ (texts197a : Option Addr) (texts197n : Nat) (texts197c : Nat), w.cell? ((blk q).add 3) = some (.slice texts197a texts197n texts197c) ∧
      ∀ (ww198 : World) (q199 : Nat), Ext no w ww198 → Blk ww198 q199 23 [.slice ya r.1.length yc] → w.heap.size ≤ q199 → q199 < ww198.heap.size →
      ∃ (a200a : Option Addr) (a200n : Nat) (a200c : Nat) (ww201 : World), (Builtin.append_ #[45, 45] 45 #[.slice texts197a texts197n texts197c, .slice (some (blk q199)) 1 1]).run Try.prog ww198 = .ok (.slice a200a a200n a200c) ww201 ∧
      canStore ww201 (((blk q).add 3).add 0) ∧
      thenW (ww201.setCell (((blk q).add 3).add 0) (.slice a200a a200n a200c)) fun ww202 =>
      Calls Try.prog 9 #[.slice xa r.1.length xc, .slice ya r.1.length yc] ww202 fun ee204 ww205 => ∃ (same203 : Bool), ee204 = .returned (.bool same203) ∧
      (same203 = true →
        DoR w0 o0 q k j n0 a t (.bool (r.2 == r.2)) ww205) ∧
      (same203 = false →
        DoR w0 o0 q k j n0 a t (.bool false) ww205)) ∧
    (r.2 ≠ 0 →
      Calls Try.prog 9 #[.slice xa r.1.length xc, .slice ya r.1.length yc] w fun ee208 ww209 => ∃ (same207 : Bool), ee208 = .returned (.bool same207) ∧
      (same207 = true →
        DoR w0 o0 q k j n0 a t (.bool (r.2 == r.2)) ww209) ∧
      (same207 = false →
        DoR w0 o0 q k j n0 a t (.bool false) ww209)) := by
  refine ⟨fun _ => tpush P.pl P.two.ok htl ⟨r.1, ya, yc⟩ ⟨hy, hyc, hr2⟩ fun w11 o11 s11 p11 => ?_, fun _ => ?_⟩
  · have P11 := P.own s11 p11
    refine (W.sameB_spec (hx.step s11).1 (hy.step s11).1 (by omega)).mono fun e w12 ⟨he, X12⟩ => ⟨_, he, fun _ => ?_, fun h => absurd h (by simp)⟩
    have s12 := Step.of_no X12 P11.two.ok
    exact ⟨_, _, _, _, _, _, by simp, (s0.trans (s11.mono fun i h _ => .inr h)).trans s12.none, P11.step s12, hh, by simp; omega⟩
  · refine (W.sameB_spec hx.1 hy.1 (by omega)).mono fun e w12 ⟨he, X12⟩ => ⟨_, he, fun _ => ?_, fun h => absurd h (by simp)⟩
    have s12 := Step.of_no X12 P.two.ok
    exact ⟨_, _, _, _, _, _, by simp, s0.trans s12.none, P.step s12, hh, by omega⟩
/-- both seal. -/
theorem sealBoth (P : PlI w o q k j S d L n hs ts) (hn : n + 2 < 1000000) (hl : hs.length + 2 < 1000000) {X : Int} (x0 : 0 ≤ X) (x1 : X < 18446744073709551616) {aa ba : Option Addr} {ac bc : Nat} {A B : List UInt8} (ha : Row w o aa (bytesV A)) (hac : A.length ≤ ac) (hA : A.length ≤ 2000) (hb : Row w o ba (bytesV B)) (hbc : B.length ≤ bc) (hB : B.length ≤ 2000) {Φ : List UInt8 × Int → Option Addr → Nat → Option Addr → Nat → World → Prop} {w9 : World} {p15 : Nat} (X9 : Ext no w w9) (hp : Priv w w9 [p15])
    (hΦ : ∀ (r : List UInt8 × Int) (xa : Option Addr) (xc : Nat) (ya : Option Addr) (yc : Nat) (w' : World) (o' : Own) (S' : OS) (d' : List Int) (L' : List RRow), PlI w' o' q k j S' d' L' (n + 1) hs ts → Step (fun i => i = k ∨ i = j) w o w' o' → Free [p15] w' o' → r.1.length ≤ 2000 → Row w' o' xa (bytesV r.1) → Row w' o' ya (bytesV r.1) → r.1.length ≤ yc → Φ r xa xc ya yc w') :
    Calls Try.prog 23 #[.pointer (some (blk q)), .int .u64 X] w9 fun ee130 ww131 => ∃ (pick129 : Int), ee130 = .returned (.int .u64 pick129) ∧
    Keep [p15] w9 ww131 ∧
    ww131.cell? ((blk q).add 0) = some (.pointer (some (blk k))) ∧
    Calls Try.prog 26 #[.pointer (some (blk k)), .int .u64 pick129, .slice aa A.length ac, .slice ba B.length bc] ww131 fun ee135 ww136 => ∃ (r : List UInt8 × Int) (xa : Option Addr) (xc : Nat), ee135 = .returned (.tuple #[.slice xa r.1.length xc, .int .i64 r.2]) ∧
    Keep [p15] ww131 ww136 ∧
    ww136.cell? ((blk q).add 1) = some (.pointer (some (blk j))) ∧
    ∀ (ww137 : World), Ext no ww136 ww137 →
    Calls Try.prog 23 #[.pointer (some (blk q)), .int .u64 X] ww137 fun ee141 ww142 => ∃ (pick140 : Int), ee141 = .returned (.int .u64 pick140) ∧
    Keep [p15] ww137 ww142 ∧
    ww142.cell? ((blk q).add 1) = some (.pointer (some (blk j))) ∧
    Calls Try.prog 27 #[.pointer (some (blk j)), .int .u64 pick140, .slice aa A.length ac, .slice ba B.length bc] ww142 fun ee146 ww147 => ∃ (ya : Option Addr) (yc : Nat), ee146 = .returned (.tuple #[.slice ya r.1.length yc, .int .i64 r.2]) ∧
    Keep [p15] ww142 ww147 ∧ Φ r xa xc ya yc ww147 := by
  have s9 := Step.of_no X9 P.two.ok
  have F9 : Free [p15] w9 (grow w o) := Free.of hp
  have P9 := P.step s9
  refine (pick_spec P9.pl (by omega) x0 x1).mono fun e w10 ⟨he, hw⟩ => ⟨_, he, by subst hw; exact Keep.refl _ _, by subst hw; exact P9.cell0, ?_⟩
  subst hw
  refine (SealO P9.two.p P9.two.ok P9.two.sim.ok (by have := P9.two.len; omega) (pickL hs X) (ha.step s9) (hb.step s9) (by omega) (by omega)).mono fun e w18 ⟨o18, xa, xc, he, s18, rx, lx, p18⟩ => ⟨_, xa, xc, he, F9.keep s18, ?_⟩
  have Pl18 := P9.pl.step s18 P.qk
  refine ⟨by obtain ⟨_, _, _, _, b, _⟩ := Pl18.st; exact b.cella (i := 1) rfl, fun w19 X19 => ?_⟩
  have s19 := Step.of_no X19 s18.ok
  have Pl19 := Pl18.step s19 id
  refine (pick_spec Pl19 (by omega) x0 x1).mono fun e w20 ⟨he, hw⟩ => ⟨_, he, by subst hw; exact Keep.refl _ _, by subst hw; obtain ⟨_, _, _, _, b, _⟩ := Pl19.st; exact b.cella (i := 1) rfl, ?_⟩
  subst hw
  have s1819 := s18.trans s19.none
  refine (rSeal_spec (P9.two.r.step s1819 P.two.ne.symm) (P9.two.fine.rok s19.ok (by omega)) (pickL hs X) ((ha.step s9).step s1819) hac ((hb.step s9).step s1819) hbc).mono fun e w22 ⟨o22, ya, yc, he, s22, ry, ly, r22⟩ => ?_
  obtain ⟨e22, m22⟩ := seal_sim P9.two.sim (pickL hs X) A B
  rw [e22] at he ry ly
  obtain ⟨P22, s22'⟩ := P9.turn s1819 (p18.step s19 id) s22 r22 m22 (seal_inv P9.two.inv _ _ _) (P9.two.fine.seal (pickL hs X) (b := A) (p := B) (by omega) (by omega))
  exact ⟨ya, yc, he, ((F9.step s18).step s19).keep s22, hΦ _ xa xc ya yc w22 o22 _ _ _ P22 (s9.none.trans s22') (((F9.step s18).step s19).step s22) (seal_len _ _ _ _) ((rx.step s19).step s22) ry ly⟩
/-- both wrap. -/
theorem wrapBoth (P : PlI w o q k j S d L n hs ts) (hn : n + 2 < 1000000) (hl : hs.length + 2 < 1000000) {X Y : Int} (x0 : 0 ≤ X) (x1 : X < 18446744073709551616) (y0 : 0 ≤ Y) (y1 : Y < 18446744073709551616) {Φ : List UInt8 × Int → Option Addr → Nat → Option Addr → Nat → World → Prop} {p15 : Nat} (F : Free [p15] w o)
    (hΦ : ∀ (r : List UInt8 × Int) (xa : Option Addr) (xc : Nat) (ya : Option Addr) (yc : Nat) (w' : World) (o' : Own) (S' : OS) (d' : List Int) (L' : List RRow), PlI w' o' q k j S' d' L' (n + 1) hs ts → Step (fun i => i = k ∨ i = j) w o w' o' → r.1.length ≤ 2000 → Row w' o' xa (bytesV r.1) → Row w' o' ya (bytesV r.1) → r.1.length ≤ yc → Φ r xa xc ya yc w') :
    ∃ (o238 : Option Addr), w.cell? ((blk q).add 0) = some (.pointer o238) ∧
    ∀ (ww236 : World), Ext no w ww236 →
    Calls Try.prog 23 #[.pointer (some (blk q)), .int .u64 X] ww236 fun ee240 ww241 => ∃ (pick239 : Int), ee240 = .returned (.int .u64 pick239) ∧
    Keep [p15] ww236 ww241 ∧
    ww241.cell? ((blk q).add 0) = some (.pointer o238) ∧
    Calls Try.prog 23 #[.pointer (some (blk q)), .int .u64 Y] ww241 fun ee244 ww245 => ∃ (pick243 : Int), ee244 = .returned (.int .u64 pick243) ∧
    Keep [p15] ww241 ww245 ∧
    ww245.cell? ((blk q).add 0) = some (.pointer o238) ∧
    Calls Try.prog 28 #[.pointer o238, .int .u64 pick239, .int .u64 pick243] ww245 fun ee249 ww250 => ∃ (wrap247a : Option Addr) (wrap247n : Nat) (wrap247c : Nat) (wrap248 : Int), ee249 = .returned (.tuple #[.slice wrap247a wrap247n wrap247c, .int .i64 wrap248]) ∧
    Keep [p15] ww245 ww250 ∧
    ∃ (m253 : Option Addr), ww250.cell? ((blk q).add 1) = some (.pointer m253) ∧
    ∀ (ww251 : World), Ext no ww250 ww251 →
    Calls Try.prog 23 #[.pointer (some (blk q)), .int .u64 X] ww251 fun ee255 ww256 => ∃ (pick254 : Int), ee255 = .returned (.int .u64 pick254) ∧
    Keep [p15] ww251 ww256 ∧
    ww256.cell? ((blk q).add 1) = some (.pointer m253) ∧
    Calls Try.prog 23 #[.pointer (some (blk q)), .int .u64 Y] ww256 fun ee259 ww260 => ∃ (pick258 : Int), ee259 = .returned (.int .u64 pick258) ∧
    ww260.cell? ((blk q).add 1) = some (.pointer m253) ∧
    Calls Try.prog 29 #[.pointer m253, .int .u64 pick254, .int .u64 pick258] ww260 fun ee264 ww265 => ∃ (wrap262a : Option Addr) (wrap262n : Nat) (wrap262c : Nat) (wrap263 : Int), ee264 = .returned (.tuple #[.slice wrap262a wrap262n wrap262c, .int .i64 wrap263]) ∧
      ∃ r : List UInt8 × Int, wrap247n = r.1.length ∧ wrap248 = r.2 ∧ wrap262n = r.1.length ∧ wrap263 = r.2 ∧ Φ r wrap247a wrap247c wrap262a wrap262c ww265 := by
  refine ⟨_, P.cell0, fun w9 X9 => ?_⟩
  have s9 := Step.of_no X9 P.two.ok
  have F9 := F.step s9
  have P9 := P.step s9
  refine (pick_spec P9.pl (by omega) x0 x1).mono fun e w10 ⟨he, hw⟩ => ⟨_, he, by subst hw; exact Keep.refl _ _, by subst hw; exact P9.cell0, ?_⟩
  subst hw
  refine (pick_spec P9.pl (by omega) y0 y1).mono fun e w10 ⟨he, hw⟩ => ⟨_, he, by subst hw; exact Keep.refl _ _, by subst hw; exact P9.cell0, ?_⟩
  subst hw
  refine (WrapO P9.two.p P9.two.ok P9.two.sim.ok (by have := P9.two.len; omega) (pickL hs X) (pickL hs Y)).mono fun e w18 ⟨o18, xa, xc, he, s18, rx, lx, p18⟩ => ⟨_, _, _, _, he, F9.keep s18, ?_⟩
  have Pl18 := P9.pl.step s18 P.qk
  refine ⟨_, by obtain ⟨_, _, _, _, b, _⟩ := Pl18.st; exact b.cella (i := 1) rfl, fun w19 X19 => ?_⟩
  have s19 := Step.of_no X19 s18.ok
  have F19 := (F9.step s18).step s19
  have Pl19 := Pl18.step s19 id
  have c19 : w19.cell? ((blk q).add 1) = some (.pointer (some (blk j))) := by obtain ⟨_, _, _, _, b, _⟩ := Pl19.st; exact b.cella (i := 1) rfl
  refine (pick_spec Pl19 (by omega) x0 x1).mono fun e w20 ⟨he, hw⟩ => ⟨_, he, by subst hw; exact Keep.refl _ _, by subst hw; exact c19, ?_⟩
  subst hw
  refine (pick_spec Pl19 (by omega) y0 y1).mono fun e w20 ⟨he, hw⟩ => ⟨_, he, by subst hw; exact c19, ?_⟩
  subst hw
  have s1819 := s18.trans s19.none
  refine (rWrap_spec (P9.two.r.step s1819 P.two.ne.symm) (P9.two.fine.rok s19.ok (by omega)) (pickL hs X) (pickL hs Y)).mono fun e w22 ⟨o22, ya, yc, he, s22, ry, ly, r22⟩ => ⟨_, _, _, _, he, ?_⟩
  obtain ⟨e22, m22⟩ := wrap_sim P9.two.sim (pickL hs X) (pickL hs Y)
  obtain ⟨P22, s22'⟩ := P9.turn s1819 (p18.step s19 id) s22 r22 m22 (wrap_inv P9.two.inv _ _) (P9.two.fine.wrap (pickL hs X) (pickL hs Y))
  rw [e22] at ry ly ⊢
  exact ⟨_, rfl, rfl, rfl, rfl, hΦ _ xa xc ya yc w22 o22 _ _ _ P22 (s9.none.trans s22') (wrap_len _ _ _) ((rx.step s19).step s22) ry ly⟩
theorem do_spec (P : PlI w o q k j S d L n hs ts) (hn : n + 3 < 1000000) (hl : hs.length + 3 < 1000000) (htl : ts.length + 3 < 1000000) (kd : Int) {X Y : Int} (x0 : 0 ≤ X) (x1 : X < 18446744073709551616) (y0 : 0 ≤ Y) (y1 : Y < 18446744073709551616) {aa ba : Option Addr} {ac bc : Nat} {A B : List UInt8} (ha : Row w o aa (bytesV A)) (hac : A.length ≤ ac) (hA : A.length ≤ 2000) (hb : Row w o ba (bytesV B)) (hbc : B.length ≤ bc) (hB : B.length ≤ 2000) :
    Calls Try.prog 14 #[.pointer (some (blk q)), .agg #[.int .i64 kd, .int .u64 X, .int .u64 Y, .slice aa A.length ac, .slice ba B.length bc]] w (fun e w' => e = .returned (.bool true) ∧ DoR w o q k j n hs.length ts.length (.bool true) w') := by
  refine (cachettelaw03_player_do.go (some (blk q)) kd X Y aa A.length ac ba B.length bc (R := DoR w o q k j n hs.length ts.length) ?_).mono fun e w' ⟨v, he, h⟩ => by
    obtain ⟨o', S', d', L', hs', ts', hv, h⟩ := h
    exact ⟨by rw [he, hv], o', S', d', L', hs', ts', rfl, h⟩
  unfold cachettelaw03_player_do.N
  refine ⟨fun _ => do0 P (by omega) (by omega) ha hac hA, fun _ => ⟨fun _ => do1 P (by omega) (by omega), fun _ => ⟨fun _ => do2 P (by omega) (by omega), fun _ => ⟨fun _ => do3 P (by omega) (by omega) x0 x1 ha hac hA, fun _ => ⟨fun _ => do4 P (by omega) (by omega) x0 x1 y0 y1 ha, fun _ => ⟨fun h5 => ?_, fun _ => ⟨fun h7 => ?_, fun _ => ⟨fun _ => do6 P (by omega) (by omega) (by omega) x0 x1 y0 y1 ha hb hbc hB, fun _ => ⟨fun _ => do8 P (by omega) (by omega) (by omega) x0 x1 y0 y1 hb hbc hB, fun _ w7 X7 => ?_⟩⟩⟩⟩⟩⟩⟩⟩⟩
  · refine ⟨_, rfl, _, P.cell0, fun w9 p15 X9 hp => ?_⟩
    refine (sealBoth P (by omega) (by omega) x0 x1 ha hac hA hb hbc hB X9 hp (Φ := fun r xa xc ya yc w' => ∃ (S' : OS) (d' : List Int) (L' : List RRow) (o' : Own), PlI w' o' q k j S' d' L' (n + 2) hs ts ∧ Step (fun i => (i = k ∨ i = j) ∨ i = q) w o w' o' ∧ r.1.length ≤ 2000 ∧ Row w' o' xa (bytesV r.1) ∧ Row w' o' ya (bytesV r.1) ∧ r.1.length ≤ yc)
      fun r xa xc ya yc w' o' S' d' L' P' s _ h1 h2 h3 h4 => ⟨S', d', L', o', P'.more, s.mono fun i h _ => .inl h, h1, h2, h3, h4⟩).mono fun e w1 ⟨_, he, hk, hc, H⟩ => ⟨_, he, hk, hc, H.mono fun e w2 ⟨r, xa, xc, he, hk, hc, H⟩ => ⟨_, _, _, _, he, hk, _, hc, fun w3 X3 => (H w3 X3).mono fun e w4 ⟨_, he, hk, hc, H⟩ => ⟨_, he, hk, hc, H.mono fun e w5 ⟨ya, yc, he, hk, S', d', L', o', P', s, h1, h2, h3, h4⟩ => ⟨_, _, _, _, he, hk, fun h => by omega, fun _ => ?_⟩⟩⟩⟩
    exact doEnd P' s (Nat.le_add_right _ _) (Nat.le_refl _) (by omega) h1 h2 h3 h4
  · refine ⟨_, rfl, _, P.cell0, fun w9 p15 X9 hp => ?_⟩
    refine (sealBoth P (by omega) (by omega) x0 x1 ha hac hA hb hbc hB X9 hp (Φ := fun r xa xc ya yc w' => ∃ (S' : OS) (d' : List Int) (L' : List RRow) (o' : Own), PlI w' o' q k j S' d' L' (n + 1) hs ts ∧ Step (fun i => i = k ∨ i = j) w o w' o' ∧ Free [p15] w' o')
      fun r xa xc ya yc w' o' S' d' L' P' s F h1 h2 h3 h4 => ⟨S', d', L', o', P', s, F⟩).mono fun e w1 ⟨_, he, hk, hc, H⟩ => ⟨_, he, hk, hc, H.mono fun e w2 ⟨r, xa, xc, he, hk, hc, H⟩ => ⟨_, _, _, _, he, hk, _, hc, fun w3 X3 => (H w3 X3).mono fun e w4 ⟨_, he, hk, hc, H⟩ => ⟨_, he, hk, hc, H.mono fun e w5 ⟨ya, yc, he, hk, S', d', L', o', P', s, F⟩ => ⟨_, _, _, _, he, hk, ?_⟩⟩⟩⟩
    obtain ⟨oo, hoo, H⟩ := wrapBoth P' (by omega) (by omega) x0 x1 y0 y1 F (Φ := fun r xa xc ya yc w' => ∃ (S' : OS) (d' : List Int) (L' : List RRow) (o' : Own), PlI w' o' q k j S' d' L' (n + 2) hs ts ∧ Step (fun i => (i = k ∨ i = j) ∨ i = q) w o w' o' ∧ r.1.length ≤ 2000 ∧ Row w' o' xa (bytesV r.1) ∧ Row w' o' ya (bytesV r.1) ∧ r.1.length ≤ yc)
      fun r xa xc ya yc w' o' S' d' L' P' s' h1 h2 h3 h4 => ⟨S', d', L', o', P', (s.trans s').mono fun i h _ => .inl h, h1, h2, h3, h4⟩
    refine ⟨oo, hoo, fun w3 X3 => (H w3 X3).mono fun e w4 ⟨_, he, hk, hc, H⟩ => ⟨_, he, hk, hc, H.mono fun e w4 ⟨_, he, hk, hc, H⟩ => ⟨_, he, hk, hc, H.mono fun e w4 ⟨_, _, _, _, he, hk, _, hc, H⟩ => ⟨_, _, _, _, he, hk, _, hc, fun w3 X3 => (H w3 X3).mono fun e w4 ⟨_, he, hk, hc, H⟩ => ⟨_, he, hk, hc, H.mono fun e w4 ⟨_, he, hc, H⟩ => ⟨_, he, hc, H.mono fun e w4 ⟨_, _, _, _, he, r, e1, e2, e3, e4, S', d', L', o', P', s, h1, h2, h3, h4⟩ => ⟨_, _, _, _, he, ?_⟩⟩⟩⟩⟩⟩⟩
    subst e1; subst e2; subst e3; subst e4
    exact doEnd P' s (Nat.le_add_right _ _) (Nat.le_refl _) (by omega) h1 h2 h3 h4
  · have s7 := Step.of_no X7 P.two.ok
    exact ⟨_, _, _, _, _, _, rfl, s7.none, (P.step s7).more.more, Nat.le_add_right _ _, Nat.le_succ _⟩
end
end Go.Proofs.Ytgagmbmkpfjbbaa
