/- ForkcheckProves: plainly; the ends of the law's function. -/
import Derived.Test.YtfmdpjhkojbocaaZE
set_option linter.unusedVariables false
set_option linter.unusedSimpArgs false
set_option maxRecDepth 20000
set_option maxHeartbeats 2000000
namespace Go.Proofs.Ytfmdpjhkojbocaa
open Go Go.Mx Go.Proofs
open W (OwnB GivesW numR countR doneR zig unzig intR)
section
variable {s p : Int} {S : OS} {L La Lb : CL} {wr pb : Int} {es : List Ent} {e A B : Ent}
theorem bodiesF (h : LOk S s p L) : ∀ e ∈ L.es, e.body.length ≤ 1100 := fun e he => by
  obtain ⟨i, hi⟩ := List.getElem?_of_mem he
  exact ((entRight_iff _).1 (h.good i e hi).1.right).2.2.2.2.2.2.2.2.2.1
theorem sum_zero (h : LOk S s p L) (inv : OInv S) : L.sum = 0 ↔ L.es.length = 0 := by
  rw [h.sum]
  unfold sumS
  cases hl : L.es.getLast? with
  | none =>
    rw [List.getLast?_eq_none_iff] at hl
    rw [hl]; simp
  | some x =>
    have hx := List.mem_of_getElem? (last_get hl)
    obtain ⟨y, hy⟩ := h.good.hashed x hx
    have h0 : hv S x ≠ 0 := by unfold hv; rw [hy]; exact inv.nz _ (inv.hu _ _ hy)
    have : L.es.length ≠ 0 := fun e => by rw [List.length_eq_zero_iff] at e; rw [e] at hx; cases hx
    exact ⟨fun h => absurd h h0, fun h => absurd h this⟩
/-- what is right, and comes later, is issued. -/
theorem issue_good (h : LOk S s p L) (inv : OInv S) (hk : Keyed S s p) (hw : L.wr = 1) (hl : L.es.length < 200) {t : Int} {body : List UInt8} (h0 : 0 < t) (h1 : t ≤ 1099511627776) (hb : body.length ≤ 1100) (late : ∀ x, L.es.getLast? = some x → x.t < t) :
    (issueC S L s t 1 0 body).1 = ({ nextE L t 1 0 body with sg := (signOf S s (textL (nextE L t 1 0 body))).1.1 }, 0) := by
  have hz := sum_zero h inv
  have hr : entRight (nextE L t 1 0 body) = true := (entRight_iff _).2 ⟨by show (0 : Int) ≤ L.wr; omega, by show L.wr < 8; omega, by show (0 : Int) ≤ (L.es.length : Int); omega, by show (L.es.length : Int) < 200; omega, by show (-1 : Int) ≤ 0; decide, by show (0 : Int) < 20; decide, h0, h1, by show (1 : Int) = L.wr; omega, hb, by show L.sum = 0 ↔ (L.es.length : Int) = 0; rw [hz]; omega⟩
  have hb0 : behindC L (nextE L t 1 0 body) = 0 := behind_ok rfl fun x hx => by
    have := late x hx
    show lessS x.t x.tw t 1 = true
    unfold lessS
    rw [decide_eq_true this]; rfl
  obtain ⟨a1, a2, a3, a4, a5, a6, a7, a8⟩ := sign_inv inv hk.sec (textL (nextE L t 1 0 body))
  unfold issueC
  rw [if_neg (by omega), if_pos hr, if_neg (not_not_intro hb0)]
  have hs : signE S s (nextE L t 1 0 body) = (({ nextE L t 1 0 body with sg := (signOf S s (textL (nextE L t 1 0 body))).1.1 }, 0), (signOf S s (textL (nextE L t 1 0 body))).2) := by
    unfold signE; rw [if_pos hr, if_pos a3]
  rw [hs, if_neg (show ¬ ((0 : Int) ≠ 0) by decide)]
theorem findP_pre : ∀ (a l r : List Ent), findP (a ++ l) (a ++ r) = findP l r
  | [], _, _ => rfl
  | x :: a, l, r => by
    show (if x = x then findP (a ++ l) (a ++ r) else _) = _
    rw [if_pos rfl]; exact findP_pre a l r
theorem findP_nil (l : List Ent) : findP l [] = ((Ent.zero, Ent.zero), false) := by cases l <;> rfl
theorem findP_self (l : List Ent) : findP l l = ((Ent.zero, Ent.zero), false) := by
  have := findP_pre l [] []
  rw [List.append_nil] at this
  rw [this]; rfl
theorem findP_some : ∀ {l r : List Ent} {A B : Ent}, findP l r = ((A, B), true) → ∃ i : Nat, l[i]? = some A ∧ r[i]? = some B ∧ A ≠ B
  | [], r, A, B, h => by cases r <;> cases h
  | a :: l, [], A, B, h => by cases h
  | a :: l, b :: r, A, B, h => by
    have h' : (if a = b then findP l r else ((a, b), true)) = ((A, B), true) := h
    by_cases hab : a = b
    · rw [if_pos hab] at h'
      obtain ⟨i, h1, h2, h3⟩ := findP_some h'
      exact ⟨i + 1, h1, h2, h3⟩
    · rw [if_neg hab] at h'
      cases h'
      exact ⟨0, rfl, rfl, hab⟩
/-- two entries of one place, each signed. -/
theorem odds_check (ha : LOk S s p La) (hb : LOk S s p Lb) (hk : Keyed S s p) (hw : La.wr = Lb.wr) (h : findP La.es Lb.es = ((A, B), true)) : checkP (holdsE S p) A B = 0 := by
  obtain ⟨i, h1, h2, h3⟩ := findP_some h
  obtain ⟨a1, _⟩ := ha.good i A h1
  obtain ⟨b1, _⟩ := hb.good i B h2
  have l1 := (List.getElem?_eq_some_iff.1 h1).1
  have l2 := (List.getElem?_eq_some_iff.1 h2).1
  unfold checkP
  rw [if_neg (not_not_intro ⟨a1.right, b1.right⟩), if_neg (not_not_intro (by rw [a1.w, b1.w, hw])), if_neg (not_not_intro (by rw [a1.i, b1.i, List.length_take, List.length_take]; omega)), if_neg h3,
    if_neg (not_not_intro ⟨(holdsE_iff hk).2 ⟨a1.right, a1.sg⟩, (holdsE_iff hk).2 ⟨b1.right, b1.sg⟩⟩)]
theorem findP_fit (ha : LOk S s p La) (hb : LOk S s p Lb) (h : findP La.es Lb.es = ((A, B), true)) : A.fit ∧ B.fit := by
  obtain ⟨i, h1, h2, _⟩ := findP_some h
  exact ⟨(ha.good i A h1).1.fit, (hb.good i B h2).1.fit⟩
end
section
variable {w w' w1 W : World} {o o' : Own} {q qa qb k n m : Nat} {K : Nat → Prop} {s p : Int} {S : OS} {L La Lb : CL}
/-- what is found between two logs. -/
theorem find_logs (DA : OneI w o qa k s p S La n) (DB : OneI w o qb k s p S Lb n) :
    Calls Try.prog 12 #[.pointer (some (blk qa))] w fun v w1 => ∃ (a : Option Addr) (an ac : Nat), v = .returned (.slice a an ac) ∧
      Calls Try.prog 12 #[.pointer (some (blk qb))] w1 fun v w2 => ∃ (b : Option Addr) (bn bc : Nat), v = .returned (.slice b bn bc) ∧
      Calls Try.prog 11 #[.slice a an ac, .slice b bn bc] w2 fun v w3 => ∃ o3 pv, v = .returned (.tuple #[pv, .bool (findP La.es Lb.es).2]) ∧ Step no w o w3 o3 ∧ PrfV w3 o3 (findP La.es Lb.es).1 pv := by
  have hfa := DA.lok.few
  have hfb := DB.lok.few
  have ba := bodiesF DA.lok
  have bb := bodiesF DB.lok
  refine (cAll_spec DA.log DA.ok fun e he => by have := ba e he; omega).mono fun v w1 ⟨o1, xa, xc, lx, hx, s1, mx, rx, lxc, okx⟩ => ⟨_, _, _, hx, ?_⟩
  have D1 := DB.step s1 id id
  refine (cAll_spec D1.log D1.ok fun e he => by have := bb e he; omega).mono fun v w2 ⟨o2, ya, yc, ly, hx, s2, my, ry, lyc, oky⟩ => ⟨_, _, _, hx, ?_⟩
  have e1 : lx.length = La.es.length := by rw [← mx, List.length_map]
  have e2 : ly.length = Lb.es.length := by rw [← my, List.length_map]
  have hF := Find_spec (ac := xc) (bc := yc) s2.ok (rx.step s2) ry (fun z hz => ⟨(okx z hz).step s2, by have := ba z.e (by rw [← mx]; exact List.mem_map_of_mem hz); omega⟩) (fun z hz => ⟨oky z hz, by have := bb z.e (by rw [← my]; exact List.mem_map_of_mem hz); omega⟩) (by omega) (by omega)
  rw [mx, my] at hF
  exact hF.mono fun v w3 ⟨o3, pv, hx, s3, hp⟩ => ⟨o3, pv, hx, (s1.trans s2).trans s3, hp⟩
end
end Go.Proofs.Ytfmdpjhkojbocaa

/- ForkcheckProves. -/
set_option linter.unusedVariables false
set_option linter.unusedSimpArgs false
set_option maxRecDepth 20000
set_option maxHeartbeats 4000000
namespace Go.Proofs.Ytfmdpjhkojbocaa
open Go Go.Mx Go.Proofs
open W (OwnB GivesW numR countR doneR zig unzig intR)
section
variable {w w' w1 W : World} {o o' : Own} {q qa qb k n m : Nat} {K : Nat → Prop} {s p : Int} {S : OS} {L La Lb : CL}
theorem noWF {W : World} {a : Option Addr} {cs : List Value} (h : RowAt W a cs) : Row W (fun _ => none) a cs := ⟨h, fun _ _ _ => rfl⟩
/-- what is behind the two logs: where they are at odds, and where not. -/
structure EndI (W : World) (qa qb k : Nat) (s p : Int) (n : Nat) (w : World) (o : Own) (S : OS) (La Lb : CL) : Prop where
  st : Step no W (fun _ => none) w o
  duo : DuoI w o qa qb k s p S La Lb n
  w : La.wr = Lb.wr
theorem EndI.step (h : EndI W qa qb k s p n w o S La Lb) (t : Step no w o w' o') : EndI W qa qb k s p n w' o' S La Lb := ⟨h.st.trans t, h.duo.step t id id id, h.w⟩
theorem EndI.fin (h : EndI W qa qb k s p n w o S La Lb) (X : Ext no w w') : Ext no W w' := (h.st.ext.mono fun b ⟨_, _, h⟩ _ => h).trans X
theorem end_alive (I : EndI W qa qb k s p n w o S La Lb) : Calls Try.prog 5 #[] w fun ee w2 => ∃ b : Bool, ee = .returned (.bool b) ∧ Value.bool b = Value.bool true ∧ Ext no W w2 :=
  (alive23_spec w).mono fun v w2 ⟨hx, X⟩ => ⟨_, hx, rfl, I.fin X⟩
theorem end_check (I : EndI W qa qb k s p n w o S La Lb) {A B : Ent} {aa ba : Option Addr} {ac bc : Nat} (hF : findP La.es Lb.es = ((A, B), true)) (ha : RowAt w aa (bytesV A.body)) (hb : RowAt w ba (bytesV B.body)) :
    Calls Try.prog 14 #[.pointer (some (blk k)), .int .u64 p, prfV A aa ac B ba bc] w fun ee w2 => ∃ c : Int, ee = .returned (.int .i64 c) ∧ c = 0 ∧ ∃ o2, EndI W qa qb k s p n w2 o2 S La Lb := by
  obtain ⟨f1, f2⟩ := findP_fit I.duo.a.lok I.duo.b.lok hF
  refine (Check_spec I.duo.a.orc I.duo.a.ok p (fun _ => f1) (fun _ => f2) ha hb).mono fun v w2 ⟨hx, X⟩ => ⟨_, hx, odds_check I.duo.a.lok I.duo.b.lok I.duo.a.key I.w hF, _, I.step (Step.of_no X I.duo.a.ok)⟩
theorem end_self (I : EndI W qa qb k s p n w o S La Lb) {Rf : World → Prop} :
    Calls Try.prog 12 #[.pointer (some (blk qa))] w fun v w1 => ∃ (a : Option Addr) (an ac : Nat), v = .returned (.slice a an ac) ∧
      Calls Try.prog 12 #[.pointer (some (blk qa))] w1 fun v w2 => ∃ (b : Option Addr) (bn bc : Nat), v = .returned (.slice b bn bc) ∧
      Calls Try.prog 11 #[.slice a an ac, .slice b bn bc] w2 fun v w3 => ∃ (a1 a2 a3 a4 a5 a6 : Int) (xa : Option Addr) (xn xc : Nat) (a7 b1 b2 b3 b4 b5 b6 : Int) (ya : Option Addr) (yn yc : Nat) (b7 : Int) (f : Bool), v = .returned (.tuple #[.agg #[.int .i64 a1, .int .i64 a2, .int .u64 a3, .int .i64 a4, .int .i64 a5, .int .i64 a6, .slice xa xn xc, .int .u64 a7, .int .i64 b1, .int .i64 b2, .int .u64 b3, .int .i64 b4, .int .i64 b5, .int .i64 b6, .slice ya yn yc, .int .u64 b7], .bool f]) ∧
      (f = false → ∀ (w4 : World), Ext no w3 w4 →
        Calls Try.prog 16 #[.agg #[.int .i64 a1, .int .i64 a2, .int .u64 a3, .int .i64 a4, .int .i64 a5, .int .i64 a6, .slice xa xn xc, .int .u64 a7, .int .i64 b1, .int .i64 b2, .int .u64 b3, .int .i64 b4, .int .i64 b5, .int .i64 b6, .slice ya yn yc, .int .u64 b7]] w4 fun v w5 => ∃ (c1 c2 c3 c4 c5 c6 : Int) (ua : Option Addr) (un uc : Nat) (c7 d1 d2 d3 d4 d5 d6 : Int) (va : Option Addr) (vn vc : Nat) (d7 : Int), v = .returned (.agg #[.int .i64 c1, .int .i64 c2, .int .u64 c3, .int .i64 c4, .int .i64 c5, .int .i64 c6, .slice ua un uc, .int .u64 c7, .int .i64 d1, .int .i64 d2, .int .u64 d3, .int .i64 d4, .int .i64 d5, .int .i64 d6, .slice va vn vc, .int .u64 d7]) ∧
        Calls Try.prog 15 #[.agg #[.int .i64 c1, .int .i64 c2, .int .u64 c3, .int .i64 c4, .int .i64 c5, .int .i64 c6, .slice ua un uc, .int .u64 c7, .int .i64 d1, .int .i64 d2, .int .u64 d3, .int .i64 d4, .int .i64 d5, .int .i64 d6, .slice va vn vc, .int .u64 d7], .agg #[.int .i64 0, .int .i64 0, .int .u64 0, .int .i64 0, .int .i64 0, .int .i64 0, .slice none 0 0, .int .u64 0, .int .i64 0, .int .i64 0, .int .u64 0, .int .i64 0, .int .i64 0, .int .i64 0, .slice none 0 0, .int .u64 0]] w5 fun v w6 => ∃ b : Bool, v = .returned (.bool b) ∧
        (b = true → Calls Try.prog 5 #[] w6 fun ee w2 => ∃ b : Bool, ee = .returned (.bool b) ∧ Value.bool b = Value.bool true ∧ Ext no W w2) ∧ (b = false → Rf w6)) ∧
      (f = true → ∀ (w4 : World), Ext no w3 w4 → Rf w4) := by
  refine (find_logs I.duo.a I.duo.a).mono fun v w1 ⟨a, an, ac, hx, h⟩ => ⟨a, an, ac, hx, h.mono fun v w2 ⟨b, bn, bc, hx, h⟩ => ⟨b, bn, bc, hx, h.mono fun v w3 ⟨o3, pv, hx, s3, hp⟩ => ?_⟩⟩
  rw [findP_self] at hx hp
  obtain ⟨xa, xc, ya, yc, rfl, rx, ry, lx, ly⟩ := hp
  refine ⟨_, _, _, _, _, _, _, _, _, _, _, _, _, _, _, _, _, _, _, _, _, hx, fun _ w4 X4 => ?_, fun h => absurd h (by decide)⟩
  have s4 := Step.of_no X4 s3.ok
  refine (back_spec (w := w4) (a := Ent.zero) (aa := xa) (ac := xc) (b := Ent.zero) (ba := ya) (bc := yc)).mono fun v w5 ⟨hx, X5⟩ => ⟨_, _, _, _, _, _, _, _, _, _, _, _, _, _, _, _, _, _, _, _, hx, ?_⟩
  have s5 := s4.trans (Step.of_no X5 s4.ok)
  refine (rPSame_spec (a := Ent.zero) (b := Ent.zero) (c := Ent.zero) (d := Ent.zero) (ca := none) (cc := 0) (da := none) (dc := 0) (rx.step s5).1 (ry.step s5).1 (RowAt.nil _ _) (RowAt.nil _ _) (by decide) (by decide)).mono fun v w6 ⟨hx, X6⟩ => ⟨_, hx, fun _ => ?_, fun h => absurd h (by decide)⟩
  exact end_alive ((I.step (s3.trans s5)).step (Step.of_no X6 s5.ok))
/-- as it ends where the place is none of the log's. -/
theorem end_off (I : EndI W qa qb k s p n w o S La Lb) {mn : Nat} (hm : mn = 0 → (findP La.es Lb.es).2 = false) {Rf Φ : World → Prop} (hΦ : ∀ w4 o4, EndI W qa qb k s p n w4 o4 S La Lb → Φ w4) :
    Calls Try.prog 12 #[.pointer (some (blk qa))] w fun v w1 => ∃ (a : Option Addr) (an ac : Nat), v = .returned (.slice a an ac) ∧
      Calls Try.prog 12 #[.pointer (some (blk qb))] w1 fun v w2 => ∃ (b : Option Addr) (bn bc : Nat), v = .returned (.slice b bn bc) ∧
      Calls Try.prog 11 #[.slice a an ac, .slice b bn bc] w2 fun v w3 => ∃ (a1 a2 a3 a4 a5 a6 : Int) (xa : Option Addr) (xn xc : Nat) (a7 b1 b2 b3 b4 b5 b6 : Int) (ya : Option Addr) (yn yc : Nat) (b7 : Int) (f : Bool), v = .returned (.tuple #[.agg #[.int .i64 a1, .int .i64 a2, .int .u64 a3, .int .i64 a4, .int .i64 a5, .int .i64 a6, .slice xa xn xc, .int .u64 a7, .int .i64 b1, .int .i64 b2, .int .u64 b3, .int .i64 b4, .int .i64 b5, .int .i64 b6, .slice ya yn yc, .int .u64 b7], .bool f]) ∧
      (f = true → ∀ (w4 : World), Ext no w3 w4 →
        Calls Try.prog 14 #[.pointer (some (blk k)), .int .u64 p, .agg #[.int .i64 a1, .int .i64 a2, .int .u64 a3, .int .i64 a4, .int .i64 a5, .int .i64 a6, .slice xa xn xc, .int .u64 a7, .int .i64 b1, .int .i64 b2, .int .u64 b3, .int .i64 b4, .int .i64 b5, .int .i64 b6, .slice ya yn yc, .int .u64 b7]] w4 fun ee w5 => ∃ c : Int, ee = .returned (.int .i64 c) ∧
        (c = 0 → ((mn : Int) > 0 → Calls Try.prog 5 #[] w5 fun ee w2 => ∃ b : Bool, ee = .returned (.bool b) ∧ Value.bool b = Value.bool true ∧ Ext no W w2) ∧ ((mn : Int) ≤ 0 → Rf w5)) ∧ (c ≠ 0 → Rf w5)) ∧
      (f = false → ∀ (w4 : World), Ext no w3 w4 → Φ w4) := by
  refine (find_logs I.duo.a I.duo.b).mono fun v w1 ⟨a, an, ac, hx, h⟩ => ⟨a, an, ac, hx, h.mono fun v w2 ⟨b, bn, bc, hx, h⟩ => ⟨b, bn, bc, hx, h.mono fun v w3 ⟨o3, pv, hx, s3, hp⟩ => ?_⟩⟩
  generalize hF : findP La.es Lb.es = F at *
  obtain ⟨⟨A, B⟩, f⟩ := F
  obtain ⟨xa, xc, ya, yc, rfl, rx, ry, lx, ly⟩ := hp
  refine ⟨_, _, _, _, _, _, _, _, _, _, _, _, _, _, _, _, _, _, _, _, _, hx, fun hf w4 X4 => ?_, fun hf w4 X4 => ?_⟩
  · have hf' : f = true := hf
    subst hf'
    have s4 := Step.of_no X4 s3.ok
    refine (end_check ((I.step s3).step s4) hF (rx.step s4).1 (ry.step s4).1).mono fun v w5 ⟨c, hx, hc, o5, I5⟩ => ⟨c, hx, fun _ => ⟨fun _ => end_alive I5, fun h => ?_⟩, fun h => absurd hc h⟩
    have := hm (by omega)
    cases this
  · exact hΦ _ _ ((I.step s3).step (Step.of_no X4 s3.ok))
end
end Go.Proofs.Ytfmdpjhkojbocaa

/- ForkcheckProves: the law's function. -/
set_option linter.unusedVariables false
set_option linter.unusedSimpArgs false
set_option maxRecDepth 20000
set_option maxHeartbeats 4000000
namespace Go.Proofs.Ytfmdpjhkojbocaa
open Go Go.Mx Go.Proofs
open W (OwnB GivesW numR countR doneR zig unzig intR)
section
variable {w w' w1 W : World} {o o' : Own} {q qa qb k n m : Nat} {K : Nat → Prop} {s p : Int} {S : OS} {L La Lb : CL}
theorem more_loop (I : EndI W qa qb k s p n w o S La Lb) (nd : W.heap.size ≤ qb ∧ W.heap.size ≤ k) {ma : Option Addr} {more : List CO} (hr : RowAt W ma (more.flatMap CO.C)) (hg : ∀ z ∈ more, z.good W) (hl : more.length ≤ 20) (hn : n + 100 < 1000000) {End : World → Prop}
    (hE : ∀ w2 o2 S2 Lb2 rest, EndI W qa qb k s p (n + 40) w2 o2 S2 La Lb2 → Lb2.es = Lb.es ++ rest → (more.length = 0 → rest = []) → End w2) :
    ∃ (I4 : Nat → List Value → World → Prop) (m130 : Nat), I4 m130 [.int .i64 0] w ∧ ∀ (m131 : Nat) (w1 : World) (i : Int), I4 m131 [.int .i64 i] w1 →
      (i < (more.length : Int) →
        (-9223372036854775808 : Int) ≤ ((100 : Int) + i) ∧ ((100 : Int) + i) < 9223372036854775808 ∧
        ∃ a134 : Addr, ma = some a134 ∧ 0 ≤ (i : Int) ∧ (i : Int) < (more.length : Int) ∧
        ∃ (xa : Option Addr) (xn : Nat) (xc : Nat), w1.cell? ((a134.add (Int.toNat i * 14)).add 3) = some (.slice xa xn xc) ∧
        Calls Try.prog 9 #[.pointer (some (blk qb)), .int .u64 s, .agg #[.int .i64 ((100 : Int) + i), .int .i64 1], .int .i64 0, .slice xa xn xc] w1 fun ee w2 => ∃ (e1 e2 e3 e4 e5 e6 : Int) (ba : Option Addr) (bn bc : Nat) (e7 : Int) (k1 : Int), ee = .returned (.tuple #[.agg #[.int .i64 e1, .int .i64 e2, .int .u64 e3, .int .i64 e4, .int .i64 e5, .int .i64 e6, .slice ba bn bc, .int .u64 e7], .int .i64 k1]) ∧
        (-9223372036854775808 : Int) ≤ (i + 1) ∧ (i + 1) < 9223372036854775808 ∧ ∃ m148, m148 < m131 ∧ I4 m148 [.int .i64 (i + 1)] w2) ∧
      ((more.length : Int) ≤ i → End w1) := by
  refine ⟨fun m vs w1 => ∃ (t : Nat) (o1 : Own) (S1 : OS) (Lb1 : CL) (rest : List Ent), vs = [.int .i64 t] ∧ m + t = more.length ∧ EndI W qa qb k s p (n + 2 * t) w1 o1 S1 La Lb1 ∧ Lb1.es = Lb.es ++ rest ∧ (t = 0 → rest = []), more.length, ⟨0, o, S, Lb, [], rfl, rfl, I, by rw [List.append_nil], fun _ => rfl⟩, ?_⟩
  rintro m w1 i ⟨t, o1, S1, Lb1, rest, hi, hm, I1, hes, hrest⟩
  simp only [List.cons.injEq, Value.int.injEq, true_and, and_true] at hi
  subst hi
  refine ⟨fun ht => ?_, fun ht => ?_⟩
  · have htl : t < more.length := by omega
    have hgt : more[t]? = some more[t] := List.getElem?_eq_getElem htl
    have hl1 := ((noWF hr).step I1.st)
    obtain ⟨ad, rfl⟩ := hr.faddr CO.len (by decide) htl
    have hgd := hg _ (List.getElem_mem htl)
    generalize more[t] = z at *
    refine ⟨by omega, by omega, ad, rfl, by omega, by omega, z.a, z.B.length, z.c, by rw [Int.toNat_natCast]; exact hl1.1.fcell CO.len hgt 3 rfl, ?_⟩
    refine (I1.duo.b.issue (by omega) (100 + t) 1 0 ((noWF hgd.ra).step I1.st)).mono fun v w2 ⟨o2, S2, L2, e', cd, hx, s2, one2, ok2, bl, hwr, hes2, _, le2, _⟩ => ⟨_, _, _, _, _, _, _, _, _, _, _, hx, by omega, by omega, m - 1, by omega, t + 1, o2, S2, L2, if cd = 0 then rest ++ [e'.e] else rest, rfl, by omega, ⟨I1.st.trans' s2 fun i hi => .inr (by omega), (I1.duo.onB s2 one2 le2).mono (by omega), by rw [hwr]; exact I1.w⟩, ?_, fun h => absurd h (by omega)⟩
    rw [hes2, hes]
    split
    · rw [List.append_assoc]
    · rfl
  · exact hE w1 o1 S1 Lb1 rest ⟨I1.st, I1.duo.mono (by omega), I1.w⟩ hes fun h => hrest (by omega)
end
theorem ForkcheckProves_spec (W : World) {la ba ma : Option Addr} {lc bc mc : Nat} {l more : List CO} {at_ : Int} {body : List UInt8} (hl : RowAt W la (l.flatMap CO.C)) (hg : ∀ p ∈ l, p.good W) (hb : RowAt W ba (bytesV body)) (hr : RowAt W ma (more.flatMap CO.C)) (hgm : ∀ p ∈ more, p.good W) :
    Calls Try.prog 3 #[.slice la l.length lc, .int .i64 at_, .slice ba body.length bc, .slice ma more.length mc] W (Ret (.bool true) fun w' => Ext no W w') := by
  refine cachettelaw23_ForkcheckProves.run _ _ _ _ _ _ _ _ _ _ ?_
  unfold cachettelaw23_ForkcheckProves.N
  have hal : ∀ w1, Ext no W w1 → Calls Try.prog 5 #[] w1 fun ee w2 => ∃ b : Bool, ee = .returned (.bool b) ∧ Value.bool b = Value.bool true ∧ Ext no W w2 := fun w1 X =>
    (alive23_spec w1).mono fun v w2 ⟨hx, X2⟩ => ⟨_, hx, rfl, X.trans X2⟩
  refine ⟨fun _ => hal W (Ext.refl _ _), fun g1 => ⟨fun _ => hal W (Ext.refl _ _), fun g2 => ⟨fun _ => hal W (Ext.refl _ _), fun g3 => ?_⟩⟩⟩
  refine ⟨fun m vs w1 => ∃ t : Nat, vs = [.int .i64 t] ∧ m + t = l.length + more.length ∧ w1 = W ∧ (∀ i x, i < t → l[i]? = some x → x.B.length ≤ 300) ∧ (∀ i x, i + l.length < t → more[i]? = some x → x.B.length ≤ 300), l.length + more.length, ⟨0, rfl, rfl, rfl, fun i x h => absurd h (by omega), fun i x h => absurd h (by omega)⟩, ?_⟩
  rintro m w1 i ⟨t, hi, hm, rfl, hs1, hs2⟩
  simp only [List.cons.injEq, Value.int.injEq, true_and, and_true] at hi
  subst hi
  refine ⟨by omega, by omega, fun ht => ⟨fun htl => ?_, fun htl => ⟨fun _ => ?_, fun h => absurd h (by omega)⟩⟩, fun ht => ?_⟩
  · have htl : t < l.length := by omega
    have hgt : l[t]? = some l[t] := List.getElem?_eq_getElem htl
    obtain ⟨ad, rfl⟩ := hl.faddr CO.len (by decide) htl
    generalize l[t] = x at *
    refine ⟨ad, rfl, by omega, by omega, x.a, x.B.length, x.c, by rw [Int.toNat_natCast]; exact hl.fcell CO.len hgt 3 rfl, fun _ => hal _ (Ext.refl _ _), fun h3 => ⟨fun h => absurd h (by omega), fun _ => ⟨by omega, by omega, m - 1, by omega, t + 1, rfl, by omega, rfl, fun i y hi hy => ?_, fun i y hi hy => hs2 i y (by omega) hy⟩⟩⟩
    by_cases hit : i = t
    · subst hit; rw [hgt] at hy; cases hy; omega
    · exact hs1 i y (by omega) hy
  · have hj : ((t : Int) - (l.length : Int)).toNat = t - l.length := by omega
    have htl : t - l.length < more.length := by omega
    have hgt : more[t - l.length]? = some more[t - l.length] := List.getElem?_eq_getElem htl
    obtain ⟨ad, rfl⟩ := hr.faddr CO.len (by decide) htl
    generalize more[t - l.length] = x at *
    refine ⟨by omega, by omega, ad, rfl, by omega, by omega, x.a, x.B.length, x.c, by rw [hj]; exact hr.fcell CO.len hgt 3 rfl, fun _ => hal _ (Ext.refl _ _), fun h3 => ⟨by omega, by omega, m - 1, by omega, t + 1, rfl, by omega, rfl, fun i y hi hy => hs1 i y (by
      have := (List.getElem?_eq_some_iff.1 hy).1; omega) hy, fun i y hi hy => ?_⟩⟩
    by_cases hit : i + l.length = t
    · have : i = t - l.length := by omega
      subst this; rw [hgt] at hy; cases hy; omega
    · exact hs2 i y (by omega) hy
  have hlB : ∀ x ∈ l, x.B.length ≤ 300 := fun x hx => by
    obtain ⟨i, hi⟩ := List.getElem?_of_mem hx
    exact hs1 i x (by have := (List.getElem?_eq_some_iff.1 hi).1; omega) hi
  clear hs1 hs2 hm m ht t
  refine start7 (d := []) (RowAt.nil _ _) (by simp) (by simp) fun w25 o25 k qa s p S1 hk hqa s25 one25 => ?_
  refine one25.second.mono fun v w29 ⟨qb, o29, hx, hqb, s29', duo29⟩ => ⟨_, _, hx, ?_⟩
  have s29 := s25.trans s29'
  have hqbW : w1.heap.size ≤ qb := Nat.le_trans s25.size hqb
  refine ⟨fun m vs w2 => ∃ (t : Nat) (o1 : Own) (S : OS) (La Lb : CL), vs = [.int .i64 t] ∧ m + t = l.length ∧ Step no w1 (fun _ => none) w2 o1 ∧ DuoI w2 o1 qa qb k s p S La Lb (2 + 4 * t) ∧ La.wr = 1 ∧ Lb.wr = 1 ∧ La.es.length = t ∧ (∀ (i : Nat) e, La.es[i]? = some e → e.t = i + 1 ∧ e.tw = 1 ∧ e.ep = 0 ∧ ∃ x, l[i]? = some x ∧ e.body = x.B) ∧ Lb.es = La.es.take at_.toNat, l.length, ⟨0, o29, S1, _, _, rfl, rfl, s29, duo29, rfl, rfl, rfl, fun i e h => by simp at h, by simp⟩, ?_⟩
  rintro m w2 i ⟨t, o1, S, La, Lb, hi, hm, s1, D, hwa, hwb, hlen, hfld, htake⟩
  simp only [List.cons.injEq, Value.int.injEq, true_and, and_true] at hi
  subst hi
  have hfa := D.a.lok.few
  have one : EndI w1 qa qb k s p (2 + 4 * t) w2 o1 S La Lb := ⟨s1, D, by rw [hwa, hwb]⟩
  refine ⟨fun htl => ?_, fun hge => ?_⟩
  · have htl : t < l.length := by omega
    have hgt : l[t]? = some l[t] := List.getElem?_eq_getElem htl
    have hl1 := (noWF hl).step s1
    obtain ⟨ad, rfl⟩ := hl.faddr CO.len (by decide) htl
    have hgd := hg _ (List.getElem_mem htl)
    have hxB := hlB _ (List.getElem_mem htl)
    generalize l[t] = x at *
    have hgood := issue_good D.a.lok D.a.inv D.a.key hwa (by omega) (t := (t : Int) + 1) (body := x.B) (by omega) (by omega) (by omega) fun y hy => by
      rw [List.getLast?_eq_getElem?] at hy
      have h1 := (hfld _ y hy).1
      have h2 := (List.getElem?_eq_some_iff.1 hy).1
      omega
    refine ⟨by omega, by omega, ad, rfl, by omega, by omega, x.a, x.B.length, x.c, by rw [Int.toNat_natCast]; exact hl1.1.fcell CO.len hgt 3 rfl, ?_⟩
    refine (D.a.issue (by omega) ((t : Int) + 1) 1 0 ((noWF hgd.ra).step s1)).mono fun v w3 ⟨o3, S3, L3, e', cd, hx, s3, one3, ok3, bl3, hwr3, hes3, hok3, le3, hiss⟩ => ⟨_, _, _, _, _, _, _, _, _, _, _, hx, ?_⟩
    rw [hiss] at hgood
    have hcd : cd = 0 := (Prod.mk.inj hgood).2
    have hee : e'.e = { nextE La ((t : Int) + 1) 1 0 x.B with sg := (signOf S s (textL (nextE La ((t : Int) + 1) 1 0 x.B))).1.1 } := (Prod.mk.inj hgood).1
    have D3 := D.onA s3 one3 le3
    have hesL : L3.es = La.es ++ [e'.e] := by rw [hes3, if_pos hcd]
    have hfld3 : ∀ (i : Nat) e, L3.es[i]? = some e → e.t = i + 1 ∧ e.tw = 1 ∧ e.ep = 0 ∧ ∃ x, l[i]? = some x ∧ e.body = x.B := fun i e he => by
      rw [hesL] at he
      by_cases hi : i < La.es.length
      · rw [List.getElem?_append_left hi] at he; exact hfld i e he
      · have hi2 : i = La.es.length := by have := (List.getElem?_eq_some_iff.1 he).1; simp at this; omega
        subst hi2
        rw [List.getElem?_append_right (Nat.le_refl _), Nat.sub_self] at he
        simp at he
        subst he
        rw [hee]
        exact ⟨by show (t : Int) + 1 = _; rw [hlen], rfl, rfl, x, by rw [hlen]; exact hgt, rfl⟩
    have s13 : Step no w1 (fun _ => none) w3 o3 := s1.trans' s3 fun i hi => .inr (by omega)
    refine ⟨fun h => absurd hcd h, fun _ => ⟨fun hlt w92 X92 => ?_, fun hle => ⟨by omega, by omega, fun w92 X92 => ?_⟩⟩⟩
    all_goals have s92 := Step.of_no X92 s3.ok
    all_goals have D92 := D3.step s92 id id id
    · have hbes : Lb.es = La.es := by rw [htake, List.take_of_length_le (by omega)]
      refine (D92.b.accept (by omega) (e := e'.e) (fun _ => ok3.2.2) (ok3.1.step s92)).mono fun v w4 ⟨o4, S4, L4, cd4, he, s4, one4, le4, hwr4, hes4, acc4⟩ => ⟨_, he, ?_⟩
      have hacc := D92.b.lok.accepts D92.b.key (e := e'.e) (by rw [hwb, hbes]; have := hok3 hcd; rwa [hwa] at this)
      have hcd4 : cd4 = 0 := by
        have : acceptC S3 Lb e'.e = (0, putC S3 Lb e'.e) := by unfold acceptC; rw [if_pos hacc]
        rw [this] at acc4
        exact (congrArg Prod.fst acc4).symm
      refine ⟨fun h => absurd hcd4 h, fun _ => ⟨by omega, by omega, m - 1, by omega, t + 1, o4, S4, L3, L4, rfl, by omega, (s13.trans s92).trans' s4 fun i hi => .inr (by omega), (D92.onB s4 one4 le4).mono (by omega), by rw [hwr3, hwa], by rw [hwr4, hwb], by rw [hesL, List.length_append, hlen]; rfl, hfld3, ?_⟩⟩
      rw [hes4, if_pos hcd4, hbes, hesL, List.take_of_length_le (by simp; omega)]
    · exact ⟨m - 1, by omega, t + 1, _, S3, L3, Lb, rfl, by omega, s13.trans s92, D92.mono (by omega), by rw [hwr3, hwa], hwb, by rw [hesL, List.length_append, hlen]; rfl, hfld3, by rw [htake, hesL, List.take_append_of_le_length (by omega)]⟩
  · have htn : t = l.length := by omega
    have off := fun (Lb' : CL) (rest : List Ent) (h1 : Lb'.es = Lb.es ++ rest) (h2 : more.length = 0 → rest = []) (h0 : more.length = 0) => show (findP La.es Lb'.es).2 = false by
        rw [h1, h2 h0, List.append_nil, htake]
        have := findP_pre (La.es.take at_.toNat) (La.es.drop at_.toNat) []
        rw [List.take_append_drop, List.append_nil] at this
        rw [this, findP_nil]
    refine ⟨fun h0 => ⟨fun hlt => ?_, fun _ => ?_⟩, fun _ => ?_⟩
    rotate_left
    · exact more_loop one ⟨hqbW, hk⟩ hr hgm (by omega) (by omega) fun w3 o3 S3 Lb3 rest I3 hes3 hrest => end_off I3 (mn := more.length) (off Lb3 rest hes3 hrest) fun w4 o4 I4 => end_self I4
    · exact more_loop one ⟨hqbW, hk⟩ hr hgm (by omega) (by omega) fun w3 o3 S3 Lb3 rest I3 hes3 hrest => end_off I3 (mn := more.length) (off Lb3 rest hes3 hrest) fun w4 o4 I4 => end_self I4
    -- another entry for a place that is there
    have hat : at_.toNat < La.es.length := by omega
    have hxe : La.es[at_.toNat]? = some La.es[at_.toNat] := List.getElem?_eq_getElem hat
    generalize La.es[at_.toNat] = x at *
    obtain ⟨g1, hh, hhs⟩ := D.a.lok.good _ _ hxe
    obtain ⟨f1, f2, f3, z, hz, f4⟩ := hfld _ _ hxe
    have hlb : Lb.es.length = at_.toNat := by rw [htake, List.length_take]; omega
    have hOk : OkAt S Lb.wr s Lb.es x := by rw [hwb, htake]; rwa [hwa] at g1
    have hiss := issue_as D.b.lok D.b.inv D.b.key hOk (by omega) (body := body) (by omega)
    have hT : at_ + 1 = x.t := by omega
    rw [show issueC S Lb s x.t x.tw x.ep body = issueC S Lb s (at_ + 1) 1 0 body by rw [hT, f2, f3]] at hiss
    refine ⟨by omega, by omega, (D.b.issue (by omega) (at_ + 1) 1 0 ((noWF hb).step s1)).mono fun v w3 ⟨o3, S3, L3, e', cd, hx, s3, one3, ok3, bl3, hwr3, hes3, hok3, le3, hiss3⟩ => ⟨_, _, _, _, _, _, _, _, _, _, _, hx, fun hne => absurd ?_ hne, fun _ w4 X4 => ?_⟩⟩
    · rw [hiss3] at hiss; exact (Prod.mk.inj hiss).2
    rw [hiss3] at hiss
    have he' : e'.e = { x with body := body, sg := (signOf S s (textL { x with body := body })).1.1 } := (Prod.mk.inj hiss).1
    have hcd : cd = 0 := (Prod.mk.inj hiss).2
    have hesL : L3.es = La.es.take at_.toNat ++ [e'.e] := by rw [hes3, if_pos hcd, htake]
    have D3 := D.onB s3 one3 le3
    have s4 := Step.of_no X4 s3.ok
    have s13 : Step no w1 (fun _ => none) w3 o3 := s1.trans' s3 fun i hi => .inr (by omega)
    have I4 : EndI w1 qa qb k s p (2 + 4 * t + 2) w4 _ S3 La L3 := ⟨s13.trans s4, D3.step s4 id id id, by rw [hwa, hwr3, hwb]⟩
    have hsame : body = x.body → e'.e = x := fun hbx => by
      rw [he']
      have : ({ x with body := body } : Ent) = x := by rw [hbx]
      rw [this, sign_again D.a.inv D.a.key g1.sg, hbx]
    have hsplit : La.es = La.es.take at_.toNat ++ x :: La.es.drop (at_.toNat + 1) := by
      have := List.take_append_drop at_.toNat La.es
      rw [List.drop_eq_getElem_cons hat] at this
      rw [List.getElem?_eq_getElem hat] at hxe
      injection hxe with hxe
      rw [hxe] at this
      exact this.symm
    refine more_loop I4 ⟨hqbW, hk⟩ hr hgm (by omega) (by omega) fun w5 o5 S5 L5 rest I5 hes5 hrest => ?_
    have hF : findP La.es L5.es = if x = e'.e then findP (La.es.drop (at_.toNat + 1)) rest else ((x, e'.e), true) := by
      have key : ∀ (pre suf : List Ent), La.es = pre ++ x :: suf → L5.es = pre ++ ([e'.e] ++ rest) → findP La.es L5.es = if x = e'.e then findP suf rest else ((x, e'.e), true) := fun pre suf h1 h2 => by
        rw [h1, h2, findP_pre]; rfl
      exact key _ _ hsplit (by rw [hes5, hesL, List.append_assoc])
    refine (find_logs I5.duo.a I5.duo.b).mono fun v w6 ⟨a, an, ac, hx, h⟩ => ⟨a, an, ac, hx, h.mono fun v w7 ⟨b, bn, bc, hx, h⟩ => ⟨b, bn, bc, hx, h.mono fun v w8 ⟨o8, pv, hx, s8, hp⟩ => ?_⟩⟩
    have I8 := I5.step s8
    generalize hFF : findP La.es L5.es = F at *
    obtain ⟨⟨A, B⟩, f⟩ := F
    obtain ⟨xa, xc, ya, yc, rfl, rx, ry, lx, ly⟩ := hp
    obtain ⟨ld, rfl⟩ := hl.faddr CO.len (by decide) (show at_.toNat < l.length by omega)
    refine ⟨_, _, _, _, _, _, _, _, _, _, _, _, _, _, _, _, _, _, _, _, _, hx, ld, rfl, by omega, by omega, z.a, z.B.length, z.c, ((noWF hl).step I8.st).1.fcell CO.len hz 3 rfl, fun w9 p94 X9 hp94 => ?_⟩
    have s9 := Step.of_no X9 s8.ok
    have I9 := I8.step s9
    refine (W.sameB_spec ((noWF hb).step I9.st).1 ((noWF (hg z (List.mem_of_getElem? hz)).ra).step I9.st).1 (by omega)).mono fun v w10 ⟨hx, X10⟩ => ⟨_, hx, X10.kept, fun hs => ?_, fun hs => ?_⟩
    all_goals have s10 := Step.of_no X10 s9.ok
    all_goals have I10 := I9.step s10
    all_goals have s810 := s9.trans s10
    · have hbx : body ≠ x.body := by rw [f4]; exact of_decide_eq_false hs
      have hne : x ≠ e'.e := fun h => hbx (by have := congrArg Ent.body h; rw [he'] at this; exact this.symm)
      rw [if_neg hne] at hF
      have hA : A = x := congrArg (fun q : (Ent × Ent) × Bool => q.1.1) hF
      have hf : f = true := congrArg (fun q : (Ent × Ent) × Bool => q.2) hF
      subst hf
      refine ⟨fun _ => ⟨fun _ => ?_, fun h => absurd ?_ h⟩, fun h => (by cases h)⟩
      · exact (end_check I10 hFF (rx.step s810).1 (ry.step s810).1).mono fun v w11 ⟨c, hx, hc, o11, I11⟩ => ⟨c, hx, fun _ => end_alive I11, fun h => absurd hc h⟩
      · show A.i = at_
        rw [hA, g1.i, List.length_take]
        omega
    · have hbx : body = x.body := by rw [f4]; exact of_decide_eq_true hs
      rw [if_pos (hsame hbx).symm] at hF
      refine ⟨fun hf => ?_, fun hf => end_self I10⟩
      have hf' : f = true := hf
      subst hf'
      refine (end_check I10 hFF (rx.step s810).1 (ry.step s810).1).mono fun v w11 ⟨c, hx, hc, o11, I11⟩ => ⟨c, hx, fun _ => ⟨fun _ => end_alive I11, fun h => ?_⟩, fun h => absurd hc h⟩
      rw [hrest (by omega), findP_nil] at hF
      cases hF
theorem ForkcheckProves_walk (W : World) (a0 : Option Addr) (len0 cap0 : Nat) (n1 : Int) (a2 : Option Addr) (len2 cap2 : Nat) (a3 : Option Addr) (len3 cap3 : Nat) (o0 : COsQ W [.slice a0 len0 cap0]) (w1 : (Lit.int .i64 n1).wf = true) (o2 : BytesQ W [.slice a2 len2 cap2]) (o3 : COsQ W [.slice a3 len3 cap3]) :
    Calls Try.prog 3 #[.slice a0 len0 cap0, .int .i64 n1, .slice a2 len2 cap2, .slice a3 len3 cap3] W (Ret (.bool true) fun w' => Ext no W w') := by
  obtain ⟨_, c0, l, e0, l0, _, r0, f0⟩ := o0
  obtain ⟨_, c2, b, e2, l2, _, r2⟩ := o2
  obtain ⟨_, c3, m, e3, l3, _, r3, f3⟩ := o3
  cases e0; cases e2; cases e3
  exact ForkcheckProves_spec W r0 f0 r2 r3 f3
end Go.Proofs.Ytfmdpjhkojbocaa
