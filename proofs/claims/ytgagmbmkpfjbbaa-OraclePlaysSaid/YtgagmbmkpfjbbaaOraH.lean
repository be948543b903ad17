/- OracleHashes: what the law's function answers. -/
import Derived.Test.YtgagmbmkpfjbbaaOraC
import Derived.Test.YtgagmbmkpfjbbaaMxW
set_option linter.unusedVariables false
set_option linter.unusedSimpArgs false
namespace Go.Proofs.Ytgagmbmkpfjbbaa
open Go Go.Mx Go.Proofs
/-- cachettelaw03.alive -/
def alive3.M  (R : Value → World → Prop) (w : World) : Prop :=
  thenW (w.alloc (.cells #[.int .u64 7, .int .u64 0, .int .u64 7, .int .u64 9] 27)) fun ww1 =>
  Calls Try.prog 7 #[.slice (some (blk w.heap.size)) 4 4] ww1 fun ee3 ww4 => ∃ (new2 : Option Addr), ee3 = .returned (.pointer new2) ∧
  Calls Try.prog 16 #[.pointer new2] ww4 fun ee6 ww7 => ∃ (key5 : Int), ee6 = .returned (.int .u64 key5) ∧
  thenW (ww7.alloc (.cells #[.int .u8 97] 5)) fun ww8 =>
  ∃ (c9a : Option Addr) (c9n : Nat) (c9c : Nat) (ww10 : World), (convert 23 23 (.slice (some (blk ww7.heap.size)) 1 1)).run Try.prog ww8 = .ok (.slice c9a c9n c9c) ww10 ∧
  Calls Try.prog 8 #[.pointer new2, .slice c9a c9n c9c] ww10 fun ee12 ww13 => ∃ (hash11 : Int), ee12 = .returned (.int .u64 hash11) ∧
  bif key5 == 7 then (
  bif hash11 == 9 then (
  thenW (ww13.alloc (.cells #[.int .u8 97] 5)) fun ww14 =>
  ∃ (c15a : Option Addr) (c15n : Nat) (c15c : Nat) (ww16 : World), (convert 23 23 (.slice (some (blk ww13.heap.size)) 1 1)).run Try.prog ww14 = .ok (.slice c15a c15n c15c) ww16 ∧
  Calls Try.prog 8 #[.pointer new2, .slice c15a c15n c15c] ww16 fun ee18 ww19 => ∃ (hash17 : Int), ee18 = .returned (.int .u64 hash17) ∧
  bif hash17 == 9 then (
  thenW (ww19.alloc (.cells #[.int .u8 98] 5)) fun ww20 =>
  ∃ (c21a : Option Addr) (c21n : Nat) (c21c : Nat) (ww22 : World), (convert 23 23 (.slice (some (blk ww19.heap.size)) 1 1)).run Try.prog ww20 = .ok (.slice c21a c21n c21c) ww22 ∧
  Calls Try.prog 8 #[.pointer new2, .slice c21a c21n c21c] ww22 fun ee24 ww25 => ∃ (hash23 : Int), ee24 = .returned (.int .u64 hash23) ∧
  bif hash23 == 1 then (
  Calls Try.prog 15 #[.pointer new2] ww25 fun ee27 ww28 => ∃ (used26 : Int), ee27 = .returned (.int .i64 used26) ∧
  R (.bool (used26 == 3)) ww28) else (
  R (.bool false) ww25)) else (
  R (.bool false) ww19)) else (
  R (.bool false) ww13)) else (
  R (.bool false) ww13)

theorem alive3.eq  (R : Value → World → Prop) (w : World) : mfunc Try.prog [] 6 [] R w = alive3.M  R w := by kernel_rfl
theorem alive3.ok  {R : Value → World → Prop} {w : World} (h : alive3.M  R w) : Calls Try.prog 6 #[] w fun e w' => ∃ v, e = .returned v ∧ R v w' :=
  mfunc_ok follows (H := []) (args := []) (by rw [alive3.eq]; exact h)

/-- cachettelaw03.OracleHashes -/
def lHashes.M (draws1a : Option Addr) (draws1n : Nat) (draws1c : Nat) (a2a : Option Addr) (a2n : Nat) (a2c : Nat) (b3a : Option Addr) (b3n : Nat) (b3c : Nat) (R : Value → World → Prop) (w : World) : Prop :=
  bif decide ((draws1n : Int) > 100) then (
  Calls Try.prog 6 #[] w fun ee5 ww6 => ∃ (alive4 : Bool), ee5 = .returned (.bool alive4) ∧
  R (.bool alive4) ww6) else (
  bif decide ((a2n : Int) > 300) then (
  Calls Try.prog 6 #[] w fun ee8 ww9 => ∃ (alive7 : Bool), ee8 = .returned (.bool alive7) ∧
  R (.bool alive7) ww9) else (
  bif decide ((b3n : Int) > 300) then (
  Calls Try.prog 6 #[] w fun ee11 ww12 => ∃ (alive10 : Bool), ee11 = .returned (.bool alive10) ∧
  R (.bool alive10) ww12) else (
  Calls Try.prog 7 #[.slice draws1a draws1n draws1c] w fun ee14 ww15 => ∃ (new13 : Option Addr), ee14 = .returned (.pointer new13) ∧
  Calls Try.prog 8 #[.pointer new13, .slice a2a a2n a2c] ww15 fun ee17 ww18 => ∃ (hash16 : Int), ee17 = .returned (.int .u64 hash16) ∧
  Calls Try.prog 8 #[.pointer new13, .slice b3a b3n b3c] ww18 fun ee20 ww21 => ∃ (hash19 : Int), ee20 = .returned (.int .u64 hash19) ∧
  bif hash16 != 0 then (
  bif hash19 != 0 then (
  Calls Try.prog 9 #[.slice a2a a2n a2c, .slice b3a b3n b3c] ww21 fun ee23 ww24 => ∃ (same22 : Bool), ee23 = .returned (.bool same22) ∧
  bif (hash16 == hash19) == same22 then (
  Calls Try.prog 8 #[.pointer new13, .slice a2a a2n a2c] ww24 fun ee26 ww27 => ∃ (hash25 : Int), ee26 = .returned (.int .u64 hash25) ∧
  bif hash25 == hash16 then (
  Calls Try.prog 6 #[] ww27 fun ee29 ww30 => ∃ (alive28 : Bool), ee29 = .returned (.bool alive28) ∧
  R (.bool alive28) ww30) else (
  R (.bool false) ww27)) else (
  R (.bool false) ww24)) else (
  R (.bool false) ww21)) else (
  R (.bool false) ww21))))

theorem lHashes.eq (draws1a : Option Addr) (draws1n : Nat) (draws1c : Nat) (a2a : Option Addr) (a2n : Nat) (a2c : Nat) (b3a : Option Addr) (b3n : Nat) (b3c : Nat) (R : Value → World → Prop) (w : World) : mfunc Try.prog [] 3 [.slice draws1a draws1n draws1c, .slice a2a a2n a2c, .slice b3a b3n b3c] R w = lHashes.M draws1a draws1n draws1c a2a a2n a2c b3a b3n b3c R w := by kernel_rfl
theorem lHashes.ok (draws1a : Option Addr) (draws1n : Nat) (draws1c : Nat) (a2a : Option Addr) (a2n : Nat) (a2c : Nat) (b3a : Option Addr) (b3n : Nat) (b3c : Nat) {R : Value → World → Prop} {w : World} (h : lHashes.M draws1a draws1n draws1c a2a a2n a2c b3a b3n b3c R w) : Calls Try.prog 3 #[.slice draws1a draws1n draws1c, .slice a2a a2n a2c, .slice b3a b3n b3c] w fun e w' => ∃ v, e = .returned v ∧ R v w' :=
  mfunc_ok follows (H := []) (args := [.slice draws1a draws1n draws1c, .slice a2a a2n a2c, .slice b3a b3n b3c]) (by rw [lHashes.eq]; exact h)


/-- the bytes of a text, as a slice of its own. -/
theorem lit_spec {w : World} {t e : TypeId} (hs : Try.prog.underlying t = some (.slice e)) (he : Try.prog.underlying e = some (.int .u8)) (bs : List UInt8) {w1 : World} (h1 : w1 = w.alloc (.cells (bytesV bs).toArray e)) :
    ∃ w2, (convert t t (.slice (some (blk w.heap.size)) bs.length bs.length)).run Try.prog w1 = .ok (.slice (some (blk w.heap.size)) bs.length bs.length) w2 ∧ RowAt w2 (some (blk w.heap.size)) (bytesV bs) ∧ Ext no w w2 := by
  subst h1
  have hb := Blk.new w e (bytesV bs)
  refine ⟨_, conv_mark hs he hb, (RowAt.of_blk hb).freeze _ _, ?_⟩
  exact Ext.freeze ((Ext.refl _ _).alloc _) (.inr (Nat.le_refl _)) _

/-- the chapter's example. -/
theorem alive_spec (w : World) : Calls Try.prog 6 #[] w (Gives (.bool true) fun w' => Ext no w w') := by
  refine (alive3.ok (R := fun v w' => v = .bool true ∧ Ext no w w') ?_).mono fun e w' ⟨v, he, hv, hw⟩ => ⟨by rw [he, hv], hw⟩
  unfold alive3.M
  refine thenW_in fun w1 h1 => ?_
  have hx1 : Ext no w w1 := by subst h1; exact (Ext.refl _ _).alloc _
  have hrow : RowAt w1 (some (blk w.heap.size)) (([7, 0, 7, 9] : List Int).map u64V) := by subst h1; exact RowAt.of_blk (Blk.new w 27 _)
  refine (New_spec (l := [7, 0, 7, 9]) (c := 4) hrow (by decide)).mono fun e w4 ⟨g, he, hO, hx4, hg⟩ => ⟨some (blk g.p), he, ?_⟩
  have hok0 := OS.init_ok [7, 0, 7, 9] (by decide)
  -- all blocks of the oracle are new
  have key : ∀ w', Ext no w w4 → Ext g.m w4 w' → Ext no w w' := fun w' h h' => h.then h' fun b hb => .inr (Nat.le_trans hx1.size (hg b hb).1)
  have hxa := hx1.trans hx4
  refine (Key_spec hO hok0 (by decide)).mono fun e w7 ⟨he, hO7, hx7⟩ => ⟨_, he, thenW_in fun w8 h8 => ?_⟩
  obtain ⟨hok7, _⟩ := keyOf_ok hok0
  obtain ⟨w10, hc10, hr10, hx10⟩ := lit_spec Try.underlying23 Try.underlying5 [97] h8
  refine ⟨_, _, _, w10, hc10, ?_⟩
  have hout : ∀ {w' : World}, Ext g.m w4 w' → Out g.m (some (blk w'.heap.size)) := fun hx ad ha hb => by
    cases ha
    have h1 := (hg _ hb).2
    have h2 := hx.size
    simp only [blk] at h1
    omega
  have hx4' := hx7.trans hx10.none
  refine (Hash_spec (bs := [97]) (c := 1) (hO7.none hx10) hok7 (by decide) hr10 (fun _ => hout hx7)).mono fun e w13 ⟨he, hO13, hx13⟩ => ⟨_, he, ?_⟩
  have hx13' := hx4'.trans hx13
  obtain ⟨hok13, _⟩ := hashOf_ok hok7 [97]
  have d1 : ((keyOf (OS.init [7, 0, 7, 9])).fst == 7) = true := by decide
  have d2 : ((hashOf (keyOf (OS.init [7, 0, 7, 9])).snd [97]).fst == 9) = true := by decide
  rw [d1, d2, cond_true, cond_true]
  refine thenW_in fun w14 h14 => ?_
  obtain ⟨w16, hc16, hr16, hx16⟩ := lit_spec Try.underlying23 Try.underlying5 [97] h14
  refine ⟨_, _, _, w16, hc16, ?_⟩
  refine (Hash_spec (bs := [97]) (c := 1) (hO13.none hx16) hok13 (by decide) hr16 (fun _ => hout hx13')).mono fun e w19 ⟨he, hO19, hx19⟩ => ⟨_, he, ?_⟩
  have hx19' := (hx13'.trans hx16.none).trans hx19
  obtain ⟨hok19, _⟩ := hashOf_ok hok13 [97]
  have d3 : ((hashOf (hashOf (keyOf (OS.init [7, 0, 7, 9])).snd [97]).snd [97]).fst == 9) = true := by decide
  rw [d3, cond_true]
  refine thenW_in fun w20 h20 => ?_
  obtain ⟨w22, hc22, hr22, hx22⟩ := lit_spec Try.underlying23 Try.underlying5 [98] h20
  refine ⟨_, _, _, w22, hc22, ?_⟩
  refine (Hash_spec (bs := [98]) (c := 1) (hO19.none hx22) hok19 (by decide) hr22 (fun _ => hout hx19')).mono fun e w25 ⟨he, hO25, hx25⟩ => ⟨_, he, ?_⟩
  have hx25' := (hx19'.trans hx22.none).trans hx25
  refine (Used_spec hO25).mono fun e w28 ⟨he, hw⟩ => ⟨_, he, ?_⟩
  subst hw
  exact ⟨rfl, key _ hxa hx25'⟩

theorem OracleHashes_spec (w : World) {da aa ba : Option Addr} {dc ac bc : Nat} {d : List Int} {a b : List UInt8} (hf : ∀ x ∈ d, 0 ≤ x ∧ x < 18446744073709551616) (hd : RowAt w da (d.map u64V)) (ha : RowAt w aa (bytesV a)) (hb : RowAt w ba (bytesV b)) :
    Calls Try.prog 3 #[.slice da d.length dc, .slice aa a.length ac, .slice ba b.length bc] w (Gives (.bool true) fun w' => Ext no w w') := by
  refine (lHashes.ok _ _ _ _ _ _ _ _ _ (R := fun v w' => v = .bool true ∧ Ext no w w') ?_).mono fun e w' ⟨v, he, hv, hw⟩ => ⟨by rw [he, hv], hw⟩
  unfold lHashes.M
  have hal : ∀ w1, Ext no w w1 → Calls Try.prog 6 #[] w1 fun e w' => ∃ v : Bool, e = .returned (.bool v) ∧ (fun v w' => v = Value.bool true ∧ Ext no w w') (.bool v) w' := fun w1 hx =>
    (alive_spec w1).mono fun e w' ⟨he, hw⟩ => ⟨true, he, rfl, hx.trans hw⟩
  by_cases h1 : (d.length : Int) > 100
  · rw [decide_eq_true h1]; exact hal w (Ext.refl _ _)
  rw [decide_eq_false h1, cond_false]
  by_cases h2 : (a.length : Int) > 300
  · rw [decide_eq_true h2]; exact hal w (Ext.refl _ _)
  rw [decide_eq_false h2, cond_false]
  by_cases h3 : (b.length : Int) > 300
  · rw [decide_eq_true h3]; exact hal w (Ext.refl _ _)
  rw [decide_eq_false h3, cond_false]
  refine (New_spec hd (by omega)).mono fun e w15 ⟨g, he, hO, hx15, hg⟩ => ⟨some (blk g.p), he, ?_⟩
  have hok0 := OS.init_ok d hf
  have key : ∀ w', Ext g.m w15 w' → Ext no w w' := fun w' h' => hx15.then h' fun b hb => .inr (hg b hb).1
  have hoa := ha.out (m := g.m) fun b hb => (hg b hb).1
  have hob := hb.out (m := g.m) fun b hb => (hg b hb).1
  have hno : ∀ x, Out no x := fun x ad _ h => h
  have hl0 : (OS.init d).used.length = 0 := rfl
  refine (Hash_spec (c := ac) hO hok0 (by simp [OS.init]) (ha.ext hx15 (hno _)) hoa).mono fun e w18 ⟨he, hO18, hx18⟩ => ⟨_, he, ?_⟩
  obtain ⟨hok18, hl18⟩ := hashOf_ok hok0 a
  refine (Hash_spec (c := bc) hO18 hok18 (by omega) (hb.ext (key _ hx18) (hno _)) hob).mono fun e w21 ⟨he, hO21, hx21⟩ => ⟨_, he, ?_⟩
  obtain ⟨hok21, hl21⟩ := hashOf_ok hok18 b
  have hx21' := hx18.trans hx21
  -- the plain law
  obtain ⟨f1, f2, f3, f4⟩ := freshOf_spec hok0
  have hA : hashOf (OS.init d) a = ((freshOf (OS.init d)).1, { (freshOf (OS.init d)).2 with hashes := [(a, (freshOf (OS.init d)).1)] }) := by
    unfold hashOf
    rw [show (OS.init d).hashes = [] from rfl]
    simp only [alook, aput]
  rw [hA] at hO21 hok18 hl18 hok21 hl21 ⊢
  generalize hs1 : ({ (freshOf (OS.init d)).2 with hashes := [(a, (freshOf (OS.init d)).1)] } : OS) = S1 at *
  generalize hx : (freshOf (OS.init d)).1 = x at *
  have hs1u : S1.used = [x] := by rw [← hs1]; exact f3
  have hs1h : S1.hashes = [(a, x)] := by rw [← hs1]
  have hB : (hashOf S1 b).1 ≠ 0 ∧ ((x == (hashOf S1 b).1) = decide (a = b)) ∧ (hashOf (hashOf S1 b).2 a).1 = x := by
    unfold hashOf
    rw [hs1h]
    by_cases hab : a = b
    · subst hab; simp [alook, hs1h, f1]
    · obtain ⟨q1, q2, q3, q4⟩ := freshOf_spec hok18
      have hq : x ≠ (freshOf S1).1 := fun e => q2 (by rw [hs1u, ← e]; simp)
      simp [alook, hab, aput, q1, hq]
  obtain ⟨hB1, hB2, hB3⟩ := hB
  have e1 : (x != 0) = true := by simpa using f1
  have e2 : ((hashOf S1 b).1 != 0) = true := by simpa using hB1
  rw [e1, e2, cond_true, cond_true]
  refine (same_spec (ha.ext (key _ hx21') (hno _)) (hb.ext (key _ hx21') (hno _)) (by omega)).mono fun e w24 ⟨he, hx24⟩ => ⟨_, he, ?_⟩
  have e3 : ((x == (hashOf S1 b).1) == decide (a = b)) = true := by rw [hB2]; simp
  rw [e3, cond_true]
  have hx24' := hx21'.trans hx24.none
  refine (Hash_spec (c := ac) (hO21.none hx24) hok21 (by omega) (ha.ext (key _ hx24') (hno _)) hoa).mono fun e w27 ⟨he, hO27, hx27⟩ => ⟨_, he, ?_⟩
  have e4 : ((hashOf (hashOf S1 b).2 a).1 == x) = true := by rw [hB3]; simp
  rw [e4, cond_true]
  exact hal _ (key _ (hx24'.trans hx27))

theorem OracleHashes_walk (W : World) (a0 : Option Addr) (len0 cap0 : Nat) (a1 : Option Addr) (len1 cap1 : Nat) (a2 : Option Addr) (len2 cap2 : Nat)
    (o0 : IntsQ .u64 W [.slice a0 len0 cap0]) (o1 : BytesQ W [.slice a1 len1 cap1]) (o2 : BytesQ W [.slice a2 len2 cap2]) :
    Calls Try.prog 3 #[.slice a0 len0 cap0, .slice a1 len1 cap1, .slice a2 len2 cap2] W (Gives (.bool true) fun w' => Ext no W w') := by
  obtain ⟨_, _, d, e0, _, _, r0, f0⟩ := o0
  obtain ⟨_, _, a, e1, _, _, r1⟩ := o1
  obtain ⟨_, _, b, e2, _, _, r2⟩ := o2
  cases e0; cases e1; cases e2
  exact OracleHashes_spec W (fun x hx => wf_u64 (f0 x hx)) r0 r1 r2
end Go.Proofs.Ytgagmbmkpfjbbaa
