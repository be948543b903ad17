/- The player's calls: each answers alike. -/
import Derived.Test.YtgagmbmkpfjbbaaOraX
set_option linter.unusedVariables false
set_option linter.unusedSimpArgs false
set_option maxRecDepth 20000
set_option maxHeartbeats 2000000
namespace Go.Proofs.Ytgagmbmkpfjbbaa
open Go Go.Mx Go.Proofs
/-- what a call leaves. -/
def DoR (w : World) (o : Own) (q k j n a t : Nat) (v : Value) (w' : World) : Prop := ∃ (o' : Own) (S : OS) (d : List Int) (L : List RRow) (hs : List Int) (ts : List TB), v = .bool true ∧ Step (fun i => (i = k ∨ i = j) ∨ i = q) w o w' o' ∧ PlI w' o' q k j S d L (n + 2) hs ts ∧ hs.length ≤ a + 2 ∧ ts.length ≤ t + 1
section
variable {w w' w1 : World} {o o' o1 : Own} {q k j n : Nat} {S : OS} {d : List Int} {L : List RRow} {hs : List Int} {ts : List TB}
theorem toldL_le (hs : List Int) (h : Int) : (toldL hs h).length ≤ hs.length + 1 := by unfold toldL; split <;> simp
theorem toldI (P : PlI w o q k j S d L n hs ts) (hl : hs.length < 1000000) {h : Int} (h0 : 0 ≤ h ∧ h < 18446744073709551616) :
    Calls Try.prog 20 #[.pointer (some (blk q)), .int .u64 h] w (Gs (fun i => i = q) w o (.tuple #[]) fun w' o' => PlI w' o' q k j S d L n (toldL hs h) ts) :=
  (told_spec P.pl P.two.ok hl h0.1 h0.2).mono fun e w' ⟨o', he, s, p⟩ => ⟨o', he, s, P.own s p⟩
theorem key_inv (h : OInv S) : OInv (keyOf S).2 := by
  obtain ⟨f1, f2, f3, f4, f5⟩ := fresh_inv h
  exact ⟨f1.ok, f1.rng, f1.hu, f1.hi, f1.sg, f1.gs, f1.su, f1.pu, f1.ps, f1.eu⟩
theorem RFine.key (h : RFine n d L) : RFine (n + 1) (keyR d L).2.1 (keyR d L).2.2 := h.put _ (by decide)
theorem do0 (P : PlI w o q k j S d L n hs ts) (hn : n + 2 < 1000000) (hl : hs.length + 2 < 1000000) {aa : Option Addr} {ac : Nat} {A : List UInt8} (ha : Row w o aa (bytesV A)) (hac : A.length ≤ ac) (hA : A.length ≤ 2000) :
    ∃ a10 : Addr, (some (blk q)) = some a10 ∧
    ∃ (o12 : Option Addr), w.cell? (a10.add 0) = some (.pointer o12) ∧
    ∃ (m14 : Option Addr), w.cell? (a10.add 1) = some (.pointer m14) ∧
    ∀ (ww9 : World) (p15 : Nat), Ext no w ww9 → Priv w ww9 [p15] →
    Calls Try.prog 8 #[.pointer o12, .slice aa A.length ac] ww9 fun ee17 ww18 => ∃ (hash16 : Int), ee17 = .returned (.int .u64 hash16) ∧
    Keep [p15] ww9 ww18 ∧
    ww18.cell? (a10.add 1) = some (.pointer m14) ∧
    Calls Try.prog 19 #[.pointer m14, .slice aa A.length ac] ww18 fun ee21 ww22 => ∃ (hash20 : Int), ee21 = .returned (.int .u64 hash20) ∧
    Calls Try.prog 20 #[.pointer (some (blk q)), .int .u64 hash20] ww22 fun ee23 ww24 => ee23 = .returned (.tuple #[]) ∧
    DoR w o q k j n hs.length ts.length (.bool (hash16 == hash20)) ww24 := by
  refine ⟨_, rfl, _, P.cell0, _, P.cell1, fun w9 p15 X9 hp => ?_⟩
  have s9 := Step.of_no X9 P.two.ok
  have F9 : Free [p15] w9 (grow w o) := Free.of hp
  have P9 := P.step s9
  refine (HashO P9.two.p P9.two.ok P9.two.sim.ok (by have := P9.two.len; omega) (ha.step s9)).mono fun e w18 ⟨o18, he, s18, p18⟩ => ⟨_, he, F9.keep s18, ?_⟩
  have Pl18 := P9.pl.step s18 P.qk
  refine ⟨by obtain ⟨_, _, _, _, b, _⟩ := Pl18.st; exact b.cella (i := 1) rfl, ?_⟩
  refine (rHash_spec (P9.two.r.step s18 P.two.ne.symm) (P9.two.fine.rok s18.ok (by omega)) ((ha.step s9).step s18) hac).mono fun e w22 ⟨o22, he, s22, r22⟩ => ⟨_, he, ?_⟩
  obtain ⟨e22, m22⟩ := hash_sim P9.two.sim A
  have inv := (hash_inv P9.two.inv A)
  obtain ⟨P22, s22'⟩ := P9.turn s18 p18 s22 r22 m22 inv.1 (P9.two.fine.hash (b := A) (by omega))
  have hfit := inv.1.fit (by have := P22.two.len; omega) (inv.1.hu _ _ inv.2.2.1)
  rw [e22]
  refine (toldI P22 (by omega) hfit).mono fun e w24 ⟨o24, he, s24, P24⟩ => ⟨he, ?_⟩
  exact ⟨o24, _, _, _, _, _, by simp, (s9.none.trans (s22'.mono fun i h _ => .inl h)).trans (s24.mono fun i h _ => .inr h), P24.more, by have := toldL_le hs (hashOf S A).1; omega, Nat.le_succ _⟩
theorem do1 (P : PlI w o q k j S d L n hs ts) (hn : n + 2 < 1000000) (hl : hs.length + 2 < 1000000) :
    ∃ a27 : Addr, (some (blk q)) = some a27 ∧
    ∃ (o29 : Option Addr), w.cell? (a27.add 0) = some (.pointer o29) ∧
    ∃ (m31 : Option Addr), w.cell? (a27.add 1) = some (.pointer m31) ∧
    ∀ (ww26 : World), Ext no w ww26 →
    Calls Try.prog 16 #[.pointer o29] ww26 fun ee34 ww35 => ∃ (key33 : Int), ee34 = .returned (.int .u64 key33) ∧
    ww35.cell? (a27.add 1) = some (.pointer m31) ∧
    Calls Try.prog 21 #[.pointer m31] ww35 fun ee38 ww39 => ∃ (key37 : Int), ee38 = .returned (.int .u64 key37) ∧
    Calls Try.prog 20 #[.pointer (some (blk q)), .int .u64 key37] ww39 fun ee40 ww41 => ee40 = .returned (.tuple #[]) ∧
    DoR w o q k j n hs.length ts.length (.bool (key33 == key37)) ww41 := by
  refine ⟨_, rfl, _, P.cell0, _, P.cell1, fun w9 X9 => ?_⟩
  have s9 := Step.of_no X9 P.two.ok
  have P9 := P.step s9
  refine (KeyO P9.two.p P9.two.ok P9.two.sim.ok (by have := P9.two.len; omega)).mono fun e w18 ⟨o18, he, s18, p18⟩ => ⟨_, he, ?_⟩
  have Pl18 := P9.pl.step s18 P.qk
  refine ⟨by obtain ⟨_, _, _, _, b, _⟩ := Pl18.st; exact b.cella (i := 1) rfl, ?_⟩
  refine (rKey_spec (P9.two.r.step s18 P.two.ne.symm) (P9.two.fine.rok s18.ok (by omega))).mono fun e w22 ⟨o22, he, s22, r22⟩ => ⟨_, he, ?_⟩
  obtain ⟨e22, m22⟩ := key_sim P9.two.sim
  have inv := key_inv P9.two.inv
  obtain ⟨P22, s22'⟩ := P9.turn s18 p18 s22 r22 m22 inv P9.two.fine.key
  have hfit := inv.fit (x := (keyOf S).1) (by have := P22.two.len; omega) (fresh_inv P9.two.inv).2.2.2.1
  rw [e22]
  refine (toldI P22 (by omega) hfit).mono fun e w24 ⟨o24, he, s24, P24⟩ => ⟨he, ?_⟩
  exact ⟨o24, _, _, _, _, _, by simp, (s9.none.trans (s22'.mono fun i h _ => .inl h)).trans (s24.mono fun i h _ => .inr h), P24.more, by have := toldL_le hs (keyOf S).1; omega, Nat.le_succ _⟩
theorem do2 (P : PlI w o q k j S d L n hs ts) (hn : n + 2 < 1000000) (hl : hs.length + 2 < 1000000) :
    ∃ a43 : Addr, (some (blk q)) = some a43 ∧
    ∃ (o45 : Option Addr), w.cell? (a43.add 0) = some (.pointer o45) ∧
    ∀ (ww7 : World), Ext no w ww7 →
    Calls Try.prog 10 #[.pointer o45] ww7 fun ee49 ww50 => ∃ (pair47 : Int) (pair48 : Int), ee49 = .returned (.tuple #[.int .u64 pair47, .int .u64 pair48]) ∧
    ∃ (m52 : Option Addr), ww50.cell? (a43.add 1) = some (.pointer m52) ∧
    Calls Try.prog 22 #[.pointer m52] ww50 fun ee55 ww56 => ∃ (pair53 : Int) (pair54 : Int), ee55 = .returned (.tuple #[.int .u64 pair53, .int .u64 pair54]) ∧
    Calls Try.prog 20 #[.pointer (some (blk q)), .int .u64 pair53] ww56 fun ee57 ww58 => ee57 = .returned (.tuple #[]) ∧
    Calls Try.prog 20 #[.pointer (some (blk q)), .int .u64 pair54] ww58 fun ee59 ww60 => ee59 = .returned (.tuple #[]) ∧
    (pair47 = pair53 →
      DoR w o q k j n hs.length ts.length (.bool (pair48 == pair54)) ww60) ∧
    (pair47 ≠ pair53 →
      DoR w o q k j n hs.length ts.length (.bool false) ww60) := by
  refine ⟨_, rfl, _, P.cell0, fun w9 X9 => ?_⟩
  have s9 := Step.of_no X9 P.two.ok
  have P9 := P.step s9
  refine (PairO P9.two.p P9.two.ok P9.two.sim.ok (by have := P9.two.len; omega)).mono fun e w18 ⟨o18, he, s18, p18⟩ => ⟨_, _, he, ?_⟩
  have Pl18 := P9.pl.step s18 P.qk
  refine ⟨_, by obtain ⟨_, _, _, _, b, _⟩ := Pl18.st; exact b.cella (i := 1) rfl, ?_⟩
  refine (rPair_spec (P9.two.r.step s18 P.two.ne.symm) (P9.two.fine.rok s18.ok (by omega)) (by have := P9.two.fine.short; omega)).mono fun e w22 ⟨o22, he, s22, r22⟩ => ⟨_, _, he, ?_⟩
  obtain ⟨e22, m22⟩ := pair_sim P9.two.sim
  obtain ⟨inv, _, hpub, hsec, _⟩ := pair_inv P9.two.inv
  obtain ⟨P22, s22'⟩ := P9.turn s18 p18 s22 r22 m22 inv P9.two.fine.pair
  have hlen : (pairOf S).2.used.length < 1000000000 := by have := P22.two.len; omega
  have hf1 := inv.fit hlen (inv.eu _ hsec)
  have hf2 := inv.fit hlen (inv.pu _ _ hpub)
  rw [e22]
  refine (toldI P22 (by omega) hf1).mono fun e w24 ⟨o24, he, s24, P24⟩ => ⟨he, ?_⟩
  have t1 := toldL_le hs (pairOf S).1.1
  refine (toldI P24 (by omega) hf2).mono fun e w26 ⟨o26, he, s26, P26⟩ => ⟨he, fun _ => ?_, fun h => absurd rfl h⟩
  have t2 := toldL_le (toldL hs (pairOf S).1.1) (pairOf S).1.2
  exact ⟨o26, _, _, _, _, _, by simp, ((s9.none.trans (s22'.mono fun i h _ => .inl h)).trans (s24.mono fun i h _ => .inr h)).trans (s26.mono fun i h _ => .inr h), P26, by omega, Nat.le_succ _⟩
theorem sign_fit (h : OInv S) (hl : S.used.length < 1000000) (x : Int) (b : List UInt8) : 0 ≤ (signOf S x b).1.1 ∧ (signOf S x b).1.1 < 18446744073709551616 := by
  by_cases hk : x ∈ S.secrets
  · obtain ⟨a1, a2, a3, a4, _⟩ := sign_inv h hk b
    exact a1.fit (by have := (signOf_ok h.ok x b).2; omega) (a1.su _ _ a4)
  · rw [sign_no hk]; exact ⟨by show (0 : Int) ≤ 0; decide, by show (0 : Int) < _; decide⟩
theorem do3 (P : PlI w o q k j S d L n hs ts) (hn : n + 2 < 1000000) (hl : hs.length + 2 < 1000000) {X : Int} (x0 : 0 ≤ X) (x1 : X < 18446744073709551616) {aa : Option Addr} {ac : Nat} {A : List UInt8} (ha : Row w o aa (bytesV A)) (hac : A.length ≤ ac) (hA : A.length ≤ 2000) :
    ∃ a64 : Addr, (some (blk q)) = some a64 ∧
    ∃ (o66 : Option Addr), w.cell? (a64.add 0) = some (.pointer o66) ∧
    ∀ (ww63 : World) (p67 : Nat), Ext no w ww63 → Priv w ww63 [p67] →
    Calls Try.prog 23 #[.pointer (some (blk q)), .int .u64 X] ww63 fun ee69 ww70 => ∃ (pick68 : Int), ee69 = .returned (.int .u64 pick68) ∧
    Keep [p67] ww63 ww70 ∧
    ww70.cell? (a64.add 0) = some (.pointer o66) ∧
    Calls Try.prog 11 #[.pointer o66, .int .u64 pick68, .slice aa A.length ac] ww70 fun ee74 ww75 => ∃ (sign72 : Int) (sign73 : Int), ee74 = .returned (.tuple #[.int .u64 sign72, .int .i64 sign73]) ∧
    Keep [p67] ww70 ww75 ∧
    ∃ (m78 : Option Addr), ww75.cell? (a64.add 1) = some (.pointer m78) ∧
    ∀ (ww76 : World), Ext no ww75 ww76 →
    Calls Try.prog 23 #[.pointer (some (blk q)), .int .u64 X] ww76 fun ee80 ww81 => ∃ (pick79 : Int), ee80 = .returned (.int .u64 pick79) ∧
    Keep [p67] ww76 ww81 ∧
    ww81.cell? (a64.add 1) = some (.pointer m78) ∧
    Calls Try.prog 24 #[.pointer m78, .int .u64 pick79, .slice aa A.length ac] ww81 fun ee85 ww86 => ∃ (sign83 : Int) (sign84 : Int), ee85 = .returned (.tuple #[.int .u64 sign83, .int .i64 sign84]) ∧
    Calls Try.prog 20 #[.pointer (some (blk q)), .int .u64 sign83] ww86 fun ee87 ww88 => ee87 = .returned (.tuple #[]) ∧
    (sign72 = sign83 →
      DoR w o q k j n hs.length ts.length (.bool (sign73 == sign84)) ww88) ∧
    (sign72 ≠ sign83 →
      DoR w o q k j n hs.length ts.length (.bool false) ww88) := by
  refine ⟨_, rfl, _, P.cell0, fun w9 p15 X9 hp => ?_⟩
  have s9 := Step.of_no X9 P.two.ok
  have F9 : Free [p15] w9 (grow w o) := Free.of hp
  have P9 := P.step s9
  refine (pick_spec P9.pl (by omega) x0 x1).mono fun e w10 ⟨he, hw⟩ => ⟨_, he, by subst hw; exact Keep.refl _ _, by subst hw; exact P9.cell0, ?_⟩
  subst hw
  refine (SignO P9.two.p P9.two.ok P9.two.sim.ok (by have := P9.two.len; omega) (pickL hs X) (ha.step s9)).mono fun e w18 ⟨o18, he, s18, p18⟩ => ⟨_, _, he, F9.keep s18, ?_⟩
  have Pl18 := P9.pl.step s18 P.qk
  refine ⟨_, by obtain ⟨_, _, _, _, b, _⟩ := Pl18.st; exact b.cella (i := 1) rfl, fun w19 X19 => ?_⟩
  have s19 := Step.of_no X19 s18.ok
  have Pl19 := Pl18.step s19 id
  refine (pick_spec Pl19 (by omega) x0 x1).mono fun e w20 ⟨he, hw⟩ => ⟨_, he, by subst hw; exact Keep.refl _ _, by subst hw; obtain ⟨_, _, _, _, b, _⟩ := Pl19.st; exact b.cella (i := 1) rfl, ?_⟩
  subst hw
  have s1819 := s18.trans s19.none
  refine (rSign_spec (P9.two.r.step s1819 P.two.ne.symm) (P9.two.fine.rok s19.ok (by omega)) (pickL hs X) ((ha.step s9).step s1819) hac).mono fun e w22 ⟨o22, he, s22, r22⟩ => ⟨_, _, he, ?_⟩
  obtain ⟨e22, m22⟩ := sign_sim P9.two.sim (pickL hs X) A
  have inv := (sign_inv' P9.two.inv (pickL hs X) A).1
  obtain ⟨P22, s22'⟩ := P9.turn s1819 (p18.step s19 id) s22 r22 m22 inv (P9.two.fine.sign (pickL hs X) (b := A) (by omega))
  have hfit := sign_fit P9.two.inv (by have := P9.two.len; omega) (pickL hs X) A
  rw [e22]
  refine (toldI P22 (by omega) hfit).mono fun e w24 ⟨o24, he, s24, P24⟩ => ⟨he, fun _ => ?_, fun h => absurd rfl h⟩
  exact ⟨o24, _, _, _, _, _, by simp, (s9.none.trans (s22'.mono fun i h _ => .inl h)).trans (s24.mono fun i h _ => .inr h), P24.more, by have := toldL_le hs (signOf S (pickL hs X) A).1.1; omega, Nat.le_succ _⟩
theorem do4 (P : PlI w o q k j S d L n hs ts) (hn : n + 2 < 1000000) (hl : hs.length + 2 < 1000000) {X Y : Int} (x0 : 0 ≤ X) (x1 : X < 18446744073709551616) (y0 : 0 ≤ Y) (y1 : Y < 18446744073709551616) {aa : Option Addr} {ac : Nat} {A : List UInt8} (ha : Row w o aa (bytesV A)) :
    ∃ a92 : Addr, (some (blk q)) = some a92 ∧
    ∃ (o94 : Option Addr), w.cell? (a92.add 0) = some (.pointer o94) ∧
    ∃ (m96 : Option Addr), w.cell? (a92.add 1) = some (.pointer m96) ∧
    ∀ (ww91 : World) (p97 : Nat), Ext no w ww91 → Priv w ww91 [p97] →
    Calls Try.prog 23 #[.pointer (some (blk q)), .int .u64 X] ww91 fun ee99 ww100 => ∃ (pick98 : Int), ee99 = .returned (.int .u64 pick98) ∧
    Keep [p97] ww91 ww100 ∧
    ww100.cell? (a92.add 1) = some (.pointer m96) ∧
    ww100.cell? (a92.add 0) = some (.pointer o94) ∧
    Calls Try.prog 23 #[.pointer (some (blk q)), .int .u64 Y] ww100 fun ee104 ww105 => ∃ (pick103 : Int), ee104 = .returned (.int .u64 pick103) ∧
    Keep [p97] ww100 ww105 ∧
    ww105.cell? (a92.add 1) = some (.pointer m96) ∧
    ww105.cell? (a92.add 0) = some (.pointer o94) ∧
    Calls Try.prog 12 #[.pointer o94, .int .u64 pick98, .slice aa A.length ac, .int .u64 pick103] ww105 fun ee109 ww110 => ∃ (verify108 : Bool), ee109 = .returned (.bool verify108) ∧
    Keep [p97] ww105 ww110 ∧
    ww110.cell? (a92.add 1) = some (.pointer m96) ∧
    Calls Try.prog 23 #[.pointer (some (blk q)), .int .u64 X] ww110 fun ee113 ww114 => ∃ (pick112 : Int), ee113 = .returned (.int .u64 pick112) ∧
    Keep [p97] ww110 ww114 ∧
    ww114.cell? (a92.add 1) = some (.pointer m96) ∧
    Calls Try.prog 23 #[.pointer (some (blk q)), .int .u64 Y] ww114 fun ee117 ww118 => ∃ (pick116 : Int), ee117 = .returned (.int .u64 pick116) ∧
    Keep [p97] ww114 ww118 ∧
    ww118.cell? (a92.add 1) = some (.pointer m96) ∧
    Calls Try.prog 25 #[.pointer m96, .int .u64 pick112, .slice aa A.length ac, .int .u64 pick116] ww118 fun ee121 ww122 => ∃ (verify120 : Bool), ee121 = .returned (.bool verify120) ∧
    DoR w o q k j n hs.length ts.length (.bool (verify108 == verify120)) ww122 := by
  refine ⟨_, rfl, _, P.cell0, _, P.cell1, fun w9 p15 X9 hp => ?_⟩
  have s9 := Step.of_no X9 P.two.ok
  have P9 := P.step s9
  refine (pick_spec P9.pl (by omega) x0 x1).mono fun e w10 ⟨he, hw⟩ => ⟨_, he, by subst hw; exact Keep.refl _ _, by subst hw; exact P9.cell1, by subst hw; exact P9.cell0, ?_⟩
  subst hw
  refine (pick_spec P9.pl (by omega) y0 y1).mono fun e w11 ⟨he, hw⟩ => ⟨_, he, by subst hw; exact Keep.refl _ _, by subst hw; exact P9.cell1, by subst hw; exact P9.cell0, ?_⟩
  subst hw
  refine (VerifyO P9.two.p P9.two.ok (pickL hs X) (pickL hs Y) (ha.step s9)).mono fun e w12 ⟨he, X12⟩ => ⟨_, he, X12.kept, ?_⟩
  have s12 := Step.of_no X12 P9.two.ok
  have P12 := P9.step s12
  refine ⟨P12.cell1, ?_⟩
  refine (pick_spec P12.pl (by omega) x0 x1).mono fun e w13 ⟨he, hw⟩ => ⟨_, he, by subst hw; exact Keep.refl _ _, by subst hw; exact P12.cell1, ?_⟩
  subst hw
  refine (pick_spec P12.pl (by omega) y0 y1).mono fun e w14 ⟨he, hw⟩ => ⟨_, he, by subst hw; exact Keep.refl _ _, by subst hw; exact P12.cell1, ?_⟩
  subst hw
  refine (rVerify_spec P12.two.r (P12.two.rok (by omega)) (pickL hs X) (pickL hs Y) ((ha.step s9).step s12)).mono fun e w15 ⟨he, X15⟩ => ⟨_, he, ?_⟩
  have s15 := Step.of_no X15 P12.two.ok
  exact ⟨_, _, _, _, _, _, by rw [verify_sim P.two.sim]; simp, ((s9.trans s12).trans s15).none, (P12.step s15).more.more, Nat.le_add_right _ _, Nat.le_succ _⟩
theorem do8 (P : PlI w o q k j S d L n hs ts) (hn : n + 2 < 1000000) (hl : hs.length + 2 < 1000000) (htl : ts.length + 2 < 1000000) {kd X Y : Int} (x0 : 0 ≤ X) (x1 : X < 18446744073709551616) (y0 : 0 ≤ Y) (y1 : Y < 18446744073709551616) {aa ba : Option Addr} {an ac bc : Nat} {B : List UInt8} (hb : Row w o ba (bytesV B)) (hbc : B.length ≤ bc) (hB : B.length ≤ 2000) :
    ∃ a321 : Addr, (some (blk q)) = some a321 ∧
    ∃ (o323 : Option Addr), w.cell? (a321.add 0) = some (.pointer o323) ∧
    ∀ (ww320 : World) (p324 : Nat), Ext no w ww320 → Priv w ww320 [p324] →
    Calls Try.prog 23 #[.pointer (some (blk q)), .int .u64 X] ww320 fun ee326 ww327 => ∃ (pick325 : Int), ee326 = .returned (.int .u64 pick325) ∧
    Keep [p324] ww320 ww327 ∧
    ww327.cell? (a321.add 0) = some (.pointer o323) ∧
    Calls Try.prog 31 #[.pointer (some (blk q)), .agg #[.int .i64 kd, .int .u64 X, .int .u64 Y, .slice aa an ac, .slice ba B.length bc]] ww327 fun ee330 ww331 => ∃ (text329a : Option Addr) (text329n : Nat) (text329c : Nat), ee330 = .returned (.slice text329a text329n text329c) ∧
    Keep [p324] ww327 ww331 ∧
    ww331.cell? (a321.add 0) = some (.pointer o323) ∧
    Calls Try.prog 33 #[.pointer o323, .int .u64 pick325, .slice text329a text329n text329c] ww331 fun ee335 ww336 => ∃ (unwrap333 : Int) (unwrap334 : Int), ee335 = .returned (.tuple #[.int .u64 unwrap333, .int .i64 unwrap334]) ∧
    Keep [p324] ww331 ww336 ∧
    ∃ (m339 : Option Addr), ww336.cell? (a321.add 1) = some (.pointer m339) ∧
    ∀ (ww337 : World), Ext no ww336 ww337 →
    Calls Try.prog 23 #[.pointer (some (blk q)), .int .u64 X] ww337 fun ee341 ww342 => ∃ (pick340 : Int), ee341 = .returned (.int .u64 pick340) ∧
    Keep [p324] ww337 ww342 ∧
    ww342.cell? (a321.add 1) = some (.pointer m339) ∧
    Calls Try.prog 31 #[.pointer (some (blk q)), .agg #[.int .i64 kd, .int .u64 X, .int .u64 Y, .slice aa an ac, .slice ba B.length bc]] ww342 fun ee345 ww346 => ∃ (text344a : Option Addr) (text344n : Nat) (text344c : Nat), ee345 = .returned (.slice text344a text344n text344c) ∧
    ww346.cell? (a321.add 1) = some (.pointer m339) ∧
    Calls Try.prog 34 #[.pointer m339, .int .u64 pick340, .slice text344a text344n text344c] ww346 fun ee350 ww351 => ∃ (unwrap348 : Int) (unwrap349 : Int), ee350 = .returned (.tuple #[.int .u64 unwrap348, .int .i64 unwrap349]) ∧
    (unwrap333 = unwrap348 →
      DoR w o q k j n hs.length ts.length (.bool (unwrap334 == unwrap349)) ww351) ∧
    (unwrap333 ≠ unwrap348 →
      DoR w o q k j n hs.length ts.length (.bool false) ww351) := by
  refine ⟨_, rfl, _, P.cell0, fun w9 p15 X9 hp => ?_⟩
  have s9 := Step.of_no X9 P.two.ok
  have P9 := P.step s9
  refine (pick_spec P9.pl (by omega) x0 x1).mono fun e w10 ⟨he, hw⟩ => ⟨_, he, by subst hw; exact Keep.refl _ _, by subst hw; exact P9.cell0, ?_⟩
  subst hw
  refine (text_spec P9.pl P9.two.ok (by omega) y0 y1 (hb.step s9) hbc hB).mono fun e w11 ⟨ta, tc, he, X11, tr, tl, t2⟩ => ⟨_, _, _, he, X11.kept, ?_⟩
  have s11 := Step.of_no X11 P9.two.ok
  have P11 := P9.step s11
  refine ⟨P11.cell0, ?_⟩
  refine (UnwrapO P11.two.p (pickL hs X) (tr.step s11).1 (by omega) tl).mono fun e w12 ⟨he, X12⟩ => ⟨_, _, he, X12.kept, ?_⟩
  have s12 := Step.of_no X12 P11.two.ok
  have P12 := P11.step s12
  refine ⟨_, P12.cell1, fun w13 X13 => ?_⟩
  have s13 := Step.of_no X13 P12.two.ok
  have P13 := P12.step s13
  refine (pick_spec P13.pl (by omega) x0 x1).mono fun e w14 ⟨he, hw⟩ => ⟨_, he, by subst hw; exact Keep.refl _ _, by subst hw; exact P13.cell1, ?_⟩
  subst hw
  refine (text_spec P13.pl P13.two.ok (by omega) y0 y1 ((((hb.step s9).step s11).step s12).step s13) hbc hB).mono fun e w15 ⟨ua, uc, he, X15, ur, ul, u2⟩ => ⟨_, _, _, he, ?_⟩
  have s15 := Step.of_no X15 P13.two.ok
  have P15 := P13.step s15
  refine ⟨P15.cell1, ?_⟩
  refine (rUnwrap_spec P15.two.r (P15.two.rok (by omega)) (pickL hs X) (ur.step s15).1 (by omega)).mono fun e w16 ⟨he, X16⟩ => ⟨_, _, he, fun _ => ?_, fun h => absurd (by rw [unwrap_sim P.two.sim]) h⟩
  have s16 := Step.of_no X16 P15.two.ok
  exact ⟨_, _, _, _, _, _, by rw [unwrap_sim P.two.sim]; simp, (((((s9.trans s11).trans s12).trans s13).trans s15).trans s16).none, (P15.step s16).more.more, Nat.le_add_right _ _, Nat.le_succ _⟩
theorem do6 (P : PlI w o q k j S d L n hs ts) (hn : n + 2 < 1000000) (hl : hs.length + 2 < 1000000) (htl : ts.length + 2 < 1000000) {kd X Y : Int} (x0 : 0 ≤ X) (x1 : X < 18446744073709551616) (y0 : 0 ≤ Y) (y1 : Y < 18446744073709551616) {aa ba : Option Addr} {ac bc : Nat} {A B : List UInt8} (ha : Row w o aa (bytesV A)) (hb : Row w o ba (bytesV B)) (hbc : B.length ≤ bc) (hB : B.length ≤ 2000) :
    ∃ a284 : Addr, (some (blk q)) = some a284 ∧
    ∃ (o286 : Option Addr), w.cell? (a284.add 0) = some (.pointer o286) ∧
    ∀ (ww283 : World) (p287 : Nat), Ext no w ww283 → Priv w ww283 [p287] →
    Calls Try.prog 23 #[.pointer (some (blk q)), .int .u64 X] ww283 fun ee289 ww290 => ∃ (pick288 : Int), ee289 = .returned (.int .u64 pick288) ∧
    Keep [p287] ww283 ww290 ∧
    ww290.cell? (a284.add 0) = some (.pointer o286) ∧
    Calls Try.prog 31 #[.pointer (some (blk q)), .agg #[.int .i64 kd, .int .u64 X, .int .u64 Y, .slice aa A.length ac, .slice ba B.length bc]] ww290 fun ee293 ww294 => ∃ (text292a : Option Addr) (text292n : Nat) (text292c : Nat), ee293 = .returned (.slice text292a text292n text292c) ∧
    Keep [p287] ww290 ww294 ∧
    ww294.cell? (a284.add 0) = some (.pointer o286) ∧
    Calls Try.prog 30 #[.pointer o286, .int .u64 pick288, .slice aa A.length ac, .slice text292a text292n text292c] ww294 fun ee298 ww299 => ∃ (openv296a : Option Addr) (openv296n : Nat) (openv296c : Nat) (openv297 : Int), ee298 = .returned (.tuple #[.slice openv296a openv296n openv296c, .int .i64 openv297]) ∧
    Keep [p287] ww294 ww299 ∧
    ∃ (m302 : Option Addr), ww299.cell? (a284.add 1) = some (.pointer m302) ∧
    ∀ (ww300 : World), Ext no ww299 ww300 →
    Calls Try.prog 23 #[.pointer (some (blk q)), .int .u64 X] ww300 fun ee304 ww305 => ∃ (pick303 : Int), ee304 = .returned (.int .u64 pick303) ∧
    Keep [p287] ww300 ww305 ∧
    ww305.cell? (a284.add 1) = some (.pointer m302) ∧
    Calls Try.prog 31 #[.pointer (some (blk q)), .agg #[.int .i64 kd, .int .u64 X, .int .u64 Y, .slice aa A.length ac, .slice ba B.length bc]] ww305 fun ee308 ww309 => ∃ (text307a : Option Addr) (text307n : Nat) (text307c : Nat), ee308 = .returned (.slice text307a text307n text307c) ∧
    Keep [p287] ww305 ww309 ∧
    ww309.cell? (a284.add 1) = some (.pointer m302) ∧
    Calls Try.prog 32 #[.pointer m302, .int .u64 pick303, .slice aa A.length ac, .slice text307a text307n text307c] ww309 fun ee313 ww314 => ∃ (openv311a : Option Addr) (openv311n : Nat) (openv311c : Nat) (openv312 : Int), ee313 = .returned (.tuple #[.slice openv311a openv311n openv311c, .int .i64 openv312]) ∧
    Calls Try.prog 9 #[.slice openv296a openv296n openv296c, .slice openv311a openv311n openv311c] ww314 fun ee316 ww317 => ∃ (same315 : Bool), ee316 = .returned (.bool same315) ∧
    (same315 = true →
      DoR w o q k j n hs.length ts.length (.bool (openv297 == openv312)) ww317) ∧
    (same315 = false →
      DoR w o q k j n hs.length ts.length (.bool false) ww317) := by
  refine ⟨_, rfl, _, P.cell0, fun w9 p15 X9 hp => ?_⟩
  have s9 := Step.of_no X9 P.two.ok
  have F9 : Free [p15] w9 (grow w o) := Free.of hp
  have P9 := P.step s9
  have hpl : ∀ z s, alook S.sealed z = some s → s.plain.length ≤ 1000000 := fun z s hs => by
    obtain ⟨r, hr, _, _, rfl⟩ := (P.two.sim.se z s).1 hs
    exact Nat.le_of_lt (P.two.fine.bytes r hr).2
  refine (pick_spec P9.pl (by omega) x0 x1).mono fun e w10 ⟨he, hw⟩ => ⟨_, he, by subst hw; exact Keep.refl _ _, by subst hw; exact P9.cell0, ?_⟩
  subst hw
  refine (text_spec P9.pl P9.two.ok (by omega) y0 y1 (hb.step s9) hbc hB).mono fun e w11 ⟨ta, tc, he, X11, tr, tl, t2⟩ => ⟨_, _, _, he, X11.kept, ?_⟩
  have s11 := Step.of_no X11 P9.two.ok
  have P11 := P9.step s11
  have F11 := F9.step s11
  refine ⟨P11.cell0, ?_⟩
  refine (OpenO P11.two.p P11.two.ok (pickL hs X) ((ha.step s9).step s11).1 (tr.step s11).1 (by omega) tl (hpl _)).mono fun e w12 ⟨o12, oa, oc, he, s12, hro, hoc, _⟩ => ⟨_, _, _, _, he, F11.keep s12, ?_⟩
  have P12 := P11.step s12
  have F12 := F11.step s12
  refine ⟨_, P12.cell1, fun w13 X13 => ?_⟩
  have s13 := Step.of_no X13 P12.two.ok
  have P13 := P12.step s13
  refine (pick_spec P13.pl (by omega) x0 x1).mono fun e w14 ⟨he, hw⟩ => ⟨_, he, by subst hw; exact Keep.refl _ _, by subst hw; exact P13.cell1, ?_⟩
  subst hw
  refine (text_spec P13.pl P13.two.ok (by omega) y0 y1 ((((hb.step s9).step s11).step s12).step s13) hbc hB).mono fun e w15 ⟨ua, uc, he, X15, ur, ul, u2⟩ => ⟨_, _, _, he, X15.kept, ?_⟩
  have s15 := Step.of_no X15 P13.two.ok
  have P15 := P13.step s15
  refine ⟨P15.cell1, ?_⟩
  refine (rOpen_spec P15.two.r (P15.two.rok (by omega)) (pickL hs X) (((((ha.step s9).step s11).step s12).step s13).step s15) (ur.step s15) (by omega)).mono fun e w16 ⟨o16, va, vc, he, s16, hrv, hvc, _⟩ => ⟨_, _, _, _, he, ?_⟩
  have P16 := P15.step s16
  rw [open_sim P.two.sim] at hrv hvc ⊢
  have hlen : (openOf S (pickL hs X) A (textOf ts Y B)).1.length < 1000000 := by
    unfold openOf
    cases hs' : alook S.sealed (handL (textOf ts Y B)) with
    | none => show (0 : Nat) < _; decide
    | some s =>
      have := hpl _ _ hs'
      obtain ⟨r, hr, _, _, rfl⟩ := (P.two.sim.se _ s).1 hs'
      have := (P.two.fine.bytes r hr).2
      show (if _ then _ else _ : List UInt8 × Int).1.length < _
      split
      · show (0 : Nat) < _; decide
      · split
        · show (0 : Nat) < _; decide
        · split
          · show (0 : Nat) < _; decide
          · exact this
  refine (W.sameB_spec (((hro.step s13).step s15).step s16).1 hrv.1 hlen).mono fun e w17 ⟨he, X17⟩ => ⟨_, he, fun _ => ?_, fun h => absurd h (by simp)⟩
  have s17 := Step.of_no X17 P16.two.ok
  exact ⟨_, _, _, _, _, _, by simp, ((((((s9.trans s11).trans s12).trans s13).trans s15).trans s16).trans s17).none, (P16.step s17).more.more, Nat.le_add_right _ _, Nat.le_succ _⟩
theorem RFine.seal (h : RFine n d L) (key : Int) {b p : List UInt8} (hb : b.length < 1000000) (hp : p.length < 1000000) : RFine (n + 1) (sealR d L key b p).2.1 (sealR d L key b p).2.2 := by
  unfold sealR
  split
  · exact h.more
  · split
    · exact h.more
    · exact h.put _ ⟨hb, hp⟩
theorem RFine.wrap (h : RFine n d L) (p key : Int) : RFine (n + 1) (wrapR d L p key).2.1 (wrapR d L p key).2.2 := by
  unfold wrapR
  split
  · exact h.more
  · split
    · exact h.more
    · exact h.put _ ⟨by show (0 : Nat) < _; decide, by show (0 : Nat) < _; decide⟩
theorem seal_inv (h : OInv S) (key : Int) (b p : List UInt8) : OInv (sealOf S key b p).2 := by
  obtain ⟨f1, _⟩ := fresh_inv h
  unfold sealOf
  split
  · split
    · exact h
    · exact ⟨f1.ok, f1.rng, f1.hu, f1.hi, f1.sg, f1.gs, f1.su, f1.pu, f1.ps, f1.eu⟩
  · exact h
theorem wrap_inv (h : OInv S) (p key : Int) : OInv (wrapOf S p key).2 := by
  obtain ⟨f1, _⟩ := fresh_inv h
  unfold wrapOf
  split
  · split
    · exact ⟨f1.ok, f1.rng, f1.hu, f1.hi, f1.sg, f1.gs, f1.su, f1.pu, f1.ps, f1.eu⟩
    · exact h
  · exact h
theorem seal_len (S : OS) (key : Int) (b p : List UInt8) : (sealOf S key b p).1.1.length ≤ 2000 := by
  unfold sealOf
  split
  · split
    · exact Nat.zero_le _
    · show (boxL _ _).length ≤ 2000
      rw [boxL_length]; have := sizeN_le (classOf p.length); omega
  · exact Nat.zero_le _
theorem wrap_len (S : OS) (p key : Int) : (wrapOf S p key).1.1.length ≤ 2000 := by
  unfold wrapOf
  split
  · split
    · show (boxL _ _).length ≤ 2000
      rw [boxL_length]; decide
    · exact Nat.zero_le _
  · exact Nat.zero_le _
end
end Go.Proofs.Ytgagmbmkpfjbbaa
