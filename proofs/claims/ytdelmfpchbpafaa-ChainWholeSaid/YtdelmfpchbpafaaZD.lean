/- Chain: what turns a log; what it tells (the program's). -/
import Derived.Test.YtdelmfpchbpafaaZC
import Derived.Test.YtdelmfpchbpafaaZB
set_option linter.unusedVariables false
set_option linter.unusedSimpArgs false
set_option maxRecDepth 20000
set_option maxHeartbeats 2000000
namespace Go.Proofs.Ytdelmfpchbpafaa
open Go Go.Mx Go.Proofs
open W (OwnB GivesW numR countR doneR zig unzig intR)
section
variable {w w' w1 : World} {o o' o1 : Own} {q k n : Nat} {K : Nat → Prop} {S : OS} {L : CL} {e : Ent} {a : Option Addr} {c : Nat}
theorem PLog.cell {la : Option Addr} {n lc : Nat} {x0 x1 x2 x3 x4 : Value} (hb : Blk w q 82 [x0, x1, x2, x3, x4]) : w.cell? ((blk q).add 0) = some x0 ∧ w.cell? ((blk q).add 1) = some x1 ∧ w.cell? ((blk q).add 3) = some x3 ∧ w.cell? ((blk q).add 4) = some x4 :=
  ⟨hb.cella (i := 0) rfl, hb.cella (i := 1) rfl, hb.cella (i := 3) rfl, hb.cella (i := 4) rfl⟩
theorem cput_spec (P : PLog w o q k L) (h : POrc w o k S) (ok : Tags w o) (hqk : q ≠ k) (hok : S.ok) (hlen : S.used.length < 1000000) (hf : e.fit) (hb : Row w o a (bytesV e.body)) (hbl : e.body.length ≤ 1000000) (hes : L.es.length < 200) :
    Calls Try.prog 37 #[.pointer (some (blk q)), entV e a c] w (Gs (fun i => i = q ∨ i = k) w o (.tuple #[]) fun w' o' => PLog w' o' q k (putC S L e).1 ∧ POrc w' o' k (putC S L e).2) := by
  refine (chain_Log_put.go (some (blk q)) e.w e.i e.pv e.t e.tw e.ep a e.body.length c e.sg (R := fun v w' => ∃ o', v = .tuple #[] ∧ Step (fun i => i = q ∨ i = k) w o w' o' ∧ PLog w' o' q k (putC S L e).1 ∧ POrc w' o' k (putC S L e).2) ?_).mono fun x w' ⟨v, he, o', hv, hw⟩ => ⟨o', by rw [he, hv], hw⟩
  unfold chain_Log_put.N
  obtain ⟨la, lc, l, g0, b1, b2, b3, b4⟩ := P.st
  have hl := len_map_e g0
  have hlt := P.lt
  refine ⟨_, rfl, la, l.length, lc, b1.cella (i := 3) rfl, fun w11 p15 X11 hp => ?_⟩
  obtain ⟨s11, M11⟩ := Step.priv X11 hp ok
  have g15 := hp p15 (by simp)
  refine (cOwn_spec s11.ok (hb.step s11) hbl).mono fun x w25 ⟨o25, ba, bc, he, s25', rb, lb⟩ => ⟨e.w, e.i, e.pv, e.t, e.tw, e.ep, ba, e.body.length, bc, e.sg, he, M11.keep s25' (fun _ _ => id), ?_⟩
  have s25 := s11.trans s25'
  have P25 := P.step s25 id
  refine ⟨(s25.blk b1 P.own id).cella (i := 3) rfl, fun w27 q28 X27 hb28 hq28 hq28' => ?_⟩
  have s27' := Step.of_no X27 s25.ok
  have s27 := s25.trans s27'
  have b27 := s27.blk b1 P.own id
  have M27 := (M11.step s25').step s27'
  obtain ⟨i, hi, hz, hsz, hby⟩ := info_of inf47
  have hnews : RowAt w27 (some (blk q28)) (PE.C ⟨e, ba, bc⟩) := RowAt.of_blk hb28
  have l27 := s27.size
  obtain ⟨a', c', w31, o31, hr, s31', g31, hkeep, hblk⟩ := (b2.step s27 id).push (ty := 40) Try.underlying40 hi hz hsz hby rfl (by decide) s27.ok (Nat.lt_of_lt_of_le hlt l27) (xa := some (blk q28)) (m := 1) (xc := 1) (news := PE.C ⟨e, ba, bc⟩) rfl hnews (PE.one _) (by decide) (by omega) (by omega)
  have oq27 : grow w25 o25 q = some q := (s27.own hlt).trans P.own
  have b31 : Blk w31 q 82 [.pointer (some (blk k)), .int .i64 L.wr, .int .u64 L.pb, .slice la l.length lc, .int .u64 L.sum] := by
    unfold Blk at b27 ⊢
    rw [hkeep q (Nat.lt_of_lt_of_le hlt l27) fun ad hd e => b3 ad hd e.symm]; exact b27
  refine ⟨b27.cella (i := 3) rfl, a', _, c', w31, hr, M27.keep s31' (fun p hp e => by simp at hp; omega), b31.cana (i := 3) rfl, fun p hp => ?_, thenW_in fun w32 e32 => ?_⟩
  · simp at hp; subst hp; have : Addr.block ((blk q).add 3) = q := rfl; omega
  have hq31 : q < w31.heap.size := Nat.lt_of_lt_of_le hlt (Nat.le_trans l27 s31'.size)
  have tq31 : o31 q = some q := (s31'.own (Nat.lt_of_lt_of_le hlt l27)).trans oq27
  have hne : ∀ ad, a' = some ad → ad.block ≠ q := fun ad hd e => by
    rcases hblk ad hd with ⟨b, hb1, hb2⟩ | hq
    · exact b3 b hb1 (by omega)
    · omega
  have X32 : Ext (fun b => b = q) w31 w32 := (Ext.refl (fun b => b = q) w31).x_set (q := q) (i := 3) rfl (.inl rfl) e32
  obtain ⟨o32, s32'⟩ := Step.store1 X32 s31'.ok tq31
  have b32 := b31.seti 3 rfl e32
  have s2732 := s31'.trans s32'
  have h32 := (h.step s27 id).step s2732 (fun e => hqk e.symm)
  refine ⟨_, b32.cella (i := 0) rfl, fun w33 X33 => ?_⟩
  have s33' := Step.of_no X33 s32'.ok
  refine (SumO (h32.step s33' id) s33'.ok hok hlen (e := e) (fun _ => hf) ((((hb.step s27).step s2732).step s33').1)).mono fun x w39 ⟨o39, he, s39', p39⟩ => ⟨_, _, he, ?_⟩
  have b39 := s39'.blk (s33'.blk b32 ((s32'.own hq31).trans tq31) id) (((s33'.own (Nat.lt_of_lt_of_le hq31 s32'.size)).trans ((s32'.own hq31).trans tq31))) hqk
  refine ⟨b39.cana (i := 4) rfl, thenW_in fun w40 e40 => ?_⟩
  have X40 : Ext (fun b => b = q) w39 w40 := (Ext.refl (fun b => b = q) w39).x_set (q := q) (i := 4) rfl (.inl rfl) e40
  have l33 := s33'.size
  have l32 := s32'.size
  have tq39 : o39 q = some q := (s39'.own (by omega)).trans ((s33'.own (by omega)).trans ((s32'.own hq31).trans tq31))
  have hq39 : q < w39.heap.size := b39.lt
  obtain ⟨o40, s40'⟩ := Step.store1 X40 s39'.ok tq39
  have b40 := b39.seti 4 rfl e40
  have s2740 : Step (fun i => i = q ∨ i = k) w27 _ w40 o40 := (((s2732.mono fun _ h _ => .inl h).trans (s33'.none.trans (s39'.mono fun _ h _ => .inr h)))).trans (s40'.mono fun _ h _ => .inl h)
  refine ⟨o40, rfl, s27.none.trans s2740, ⟨(s40'.own hq39).trans tq39, ?_, a', c', l ++ [⟨e, ba, bc⟩], ?_, ?_, ?_, hne, fun x hx => ?_⟩, p39.step s40' (fun e => hqk e.symm)⟩
  · show (L.es ++ [e]).length ≤ 200; simp; omega
  · rw [List.map_append, g0]; rfl
  · rw [List.length_append]; exact b40
  · rw [List.length_append]
    have : PE.Cs (l ++ [⟨e, ba, bc⟩]) = PE.Cs l ++ PE.C ⟨e, ba, bc⟩ := by simp [PE.Cs]
    rw [this]
    exact (((g31.keep X32 (fun ad hd => hne ad hd) fun b hb => s32'.own hb).step s33' id).step s39' hqk).keep X40 (fun ad hd => hne ad hd) fun b hb => s40'.own hb
  · rcases List.mem_append.1 hx with hx | hx
    · exact ((b4 x hx).step s27).step s2740
    · simp at hx; subst hx
      exact ⟨((rb.step s27').step s2740), lb, hf⟩
theorem accept_out (hes : L.es.length ≤ 200) (h : checkC S L e = 0) : L.es.length < 200 ∧ entRight e = true ∧ e.w = L.wr ∧ holdsE S L.pb e = true ∧ e.i = L.es.length ∧ e.pv = L.sum := by
  unfold checkC at h
  by_cases h1 : rightC S L e = 0
  · rw [if_neg (not_not_intro h1)] at h
    by_cases h2 : placeC L e = 0
    · rw [if_neg (not_not_intro h2)] at h
      have hr := rightC_right h1
      have hi := ((entRight_iff _).1 hr).2.2.2.1
      have e1 : e.w = L.wr ∧ holdsE S L.pb e = true := by
        unfold rightC at h1
        rw [if_pos hr] at h1
        by_cases hw : e.w = L.wr
        · rw [if_pos hw] at h1
          by_cases hh : holdsE S L.pb e = true
          · exact ⟨hw, hh⟩
          · rw [if_neg hh] at h1; cases h1
        · rw [if_neg hw] at h1; cases h1
      have e2 : e.i = L.es.length := by
        unfold placeC at h2
        by_cases hg : e.i > L.es.length
        · rw [if_pos hg] at h2; cases h2
        · rw [if_neg hg] at h2
          by_cases he : e.i = L.es.length
          · exact he
          · rw [if_neg he] at h2; split at h2 <;> cases h2
      have e3 : e.pv = L.sum := by
        unfold behindC at h
        by_cases hp : e.pv = L.sum
        · exact hp
        · rw [if_neg hp] at h; cases h
      exact ⟨by omega, hr, e1.1, e1.2, e2, e3⟩
    · rw [if_pos h2] at h; exact absurd h h2
  · rw [if_pos h1] at h; exact absurd h h1
theorem cAccept_spec (P : PLog w o q k L) (h : POrc w o k S) (ok : Tags w o) (hqk : q ≠ k) (hok : S.ok) (hlen : S.used.length < 1000000) (hf : entRight e = true → e.fit) (hb : Row w o a (bytesV e.body)) :
    Calls Try.prog 21 #[.pointer (some (blk q)), entV e a c] w (Gs (fun i => i = q ∨ i = k) w o (.int .i64 (acceptC S L e).1) fun w' o' => PLog w' o' q k (acceptC S L e).2.1 ∧ POrc w' o' k (acceptC S L e).2.2) := by
  refine (chain_Log_Accept.go (some (blk q)) e.w e.i e.pv e.t e.tw e.ep a e.body.length c e.sg (R := fun v w' => ∃ o', v = .int .i64 (acceptC S L e).1 ∧ Step (fun i => i = q ∨ i = k) w o w' o' ∧ PLog w' o' q k (acceptC S L e).2.1 ∧ POrc w' o' k (acceptC S L e).2.2) ?_).mono fun x w' ⟨v, he, o', hv, hw⟩ => ⟨o', by rw [he, hv], hw⟩
  unfold chain_Log_Accept.N
  intro w10 p11 X10 hp
  have s10 := Step.of_no X10 ok
  refine (cCheck_spec (P.step s10 id) (h.step s10 id) s10.ok hf (hb.step s10).1).mono fun x w14 ⟨he, X14⟩ => ⟨_, he, X14.kept, fun h0 => ?_, fun h0 => ?_⟩
  · have s14 := s10.trans (Step.of_no X14 s10.ok)
    obtain ⟨q1, q2, _⟩ := accept_out P.few h0
    have hbl := ((entRight_iff _).1 q2).2.2.2.2.2.2.2.2.2.1
    refine (cput_spec (P.step s14 id) (h.step s14 id) s14.ok hqk hok hlen (hf q2) (hb.step s14) (by omega) q1).mono fun x w17 ⟨o17, he, s17, p17, h17⟩ => ⟨he, o17, ?_, s14.none.trans s17, ?_, ?_⟩
    · rw [h0]; unfold acceptC; rw [if_pos h0]
    · unfold acceptC; rw [if_pos h0]; exact p17
    · unfold acceptC; rw [if_pos h0]; exact h17
  · have s14 := s10.trans (Step.of_no X14 s10.ok)
    unfold acceptC
    rw [if_neg h0]
    exact ⟨_, rfl, s14.none, P.step s14 id, h.step s14 id⟩
theorem signE_body {s : Int} (h : entRight e = true) : (signE S s e).1.1.body.length ≤ 1100 := by
  unfold signE
  rw [if_pos h]
  split
  · exact ((entRight_iff _).1 h).2.2.2.2.2.2.2.2.2.1
  · exact Nat.zero_le _
theorem signE_e {s : Int} (h : (signE S s e).1.2 = 0) : entRight e = true ∧ (signE S s e).1.1 = { e with sg := (signOf S s (textL e)).1.1 } ∧ (signE S s e).2 = (signOf S s (textL e)).2 ∧ (signOf S s (textL e)).1.2 = true := by
  unfold signE at h ⊢
  by_cases hr : entRight e = true
  · rw [if_pos hr] at h ⊢
    by_cases hs : (signOf S s (textL e)).1.2 = true
    · rw [if_pos hs]; exact ⟨hr, rfl, rfl, hs⟩
    · rw [if_neg hs] at h; cases h
  · rw [if_neg hr] at h; cases h
theorem cIssue_spec (P : PLog w o q k L) (h : POrc w o k S) (ok : Tags w o) (hqk : q ≠ k) (hok : S.ok) (hlen : S.used.length + 1 < 1000000) (hsum : 0 ≤ L.sum ∧ L.sum < 18446744073709551616) (sec t tw ep : Int) {body : List UInt8} (hsg : 0 ≤ (signOf S sec (textL (nextE L t tw ep body))).1.1 ∧ (signOf S sec (textL (nextE L t tw ep body))).1.1 < 18446744073709551616) (hb : Row w o a (bytesV body)) :
    Calls Try.prog 15 #[.pointer (some (blk q)), .int .u64 sec, .agg #[.int .i64 t, .int .i64 tw], .int .i64 ep, .slice a body.length c] w (fun x w' => ∃ o' a' c', x = .returned (.tuple #[entV (issueC S L sec t tw ep body).1.1 a' c', .int .i64 (issueC S L sec t tw ep body).1.2]) ∧ Step (fun i => i = q ∨ i = k) w o w' o' ∧
      PLog w' o' q k (issueC S L sec t tw ep body).2.1 ∧ POrc w' o' k (issueC S L sec t tw ep body).2.2 ∧ Row w' o' a' (bytesV (issueC S L sec t tw ep body).1.1.body) ∧ (issueC S L sec t tw ep body).1.1.body.length ≤ c') := by
  refine (chain_Log_Issue.go (some (blk q)) sec t tw ep a body.length c (R := fun v w' => ∃ o' a' c', v = (.tuple #[entV (issueC S L sec t tw ep body).1.1 a' c', .int .i64 (issueC S L sec t tw ep body).1.2]) ∧ Step (fun i => i = q ∨ i = k) w o w' o' ∧
      PLog w' o' q k (issueC S L sec t tw ep body).2.1 ∧ POrc w' o' k (issueC S L sec t tw ep body).2.2 ∧ Row w' o' a' (bytesV (issueC S L sec t tw ep body).1.1.body) ∧ (issueC S L sec t tw ep body).1.1.body.length ≤ c') ?_).mono fun x w' ⟨v, he, o', a', c', hv, hw⟩ => ⟨o', a', c', by rw [he, hv], hw⟩
  unfold chain_Log_Issue.N
  obtain ⟨la, lc, l, g0, b1, b2, b3, b4⟩ := P.st
  have hl := len_map_e g0
  have hlt := P.lt
  have hF : entry_Right.F L.wr (l.length : Int) L.sum t tw ep a body.length c 0 = entRight (nextE L t tw ep body) := by
    rw [hl]; exact entRight_F (nextE L t tw ep body) a c
  refine ⟨fun h => (by cases h), fun _ => ⟨_, rfl, la, l.length, lc, b1.cella (i := 3) rfl, fun hge w31 X31 => ?_, fun hlt2 => ⟨_, b1.cella (i := 1) rfl, la, l.length, lc, b1.cella (i := 3) rfl, _, b1.cella (i := 4) rfl, ?_⟩⟩⟩
  · have s := Step.of_no X31 ok
    unfold issueC; rw [if_pos (show L.es.length ≥ 200 by omega)]
    exact ⟨_, none, 0, rfl, s.none, P.step s id, h.step s id, Row.nil _ _ _, Nat.le_refl _⟩
  rw [hF]
  have hn : ¬ (L.es.length ≥ 200) := by omega
  refine ⟨fun hr w59 X59 => ?_, fun hr w50 p64 p65 X50 hp => ?_⟩
  · have s := Step.of_no X59 ok
    unfold issueC; rw [if_neg hn, if_neg (by rw [hr]; decide)]
    exact ⟨_, none, 0, rfl, s.none, P.step s id, h.step s id, Row.nil _ _ _, Nat.le_refl _⟩
  obtain ⟨s50, M50⟩ := Step.priv X50 hp ok
  have g64 := hp p64 (by simp)
  have g65 := hp p65 (by simp)
  have hkl := h.lt
  have hE : ∀ (v : Value), v = entV (nextE L t tw ep body) a c → v = .agg #[.int .i64 L.wr, .int .i64 (l.length : Int), .int .u64 L.sum, .int .i64 t, .int .i64 tw, .int .i64 ep, .slice a body.length c, .int .u64 0] := fun v hv => by rw [hv, hl]; rfl
  have hf : (nextE L t tw ep body).fit := ⟨hsum.1, hsum.2, by show (0 : Int) ≤ 0; decide, by show (0 : Int) < _; decide⟩
  rw [← hE _ rfl]
  refine (cbehind_spec (P.step s50 id)).mono fun x w68 ⟨he, X68⟩ => ⟨_, he, X68.kept, fun hbe w77 X77 => ?_, fun hbe => ?_⟩
  · have s68' := Step.of_no X68 s50.ok
    have s77' := Step.stores X77 s68'.ok (M50.step s68') (by simp [or_comm])
    have s77 := (s50.trans s68').trans' s77' fun i hi => .inr (by simp at hi; omega)
    unfold issueC; rw [if_neg hn, if_pos hr, if_pos hbe]
    exact ⟨_, none, 0, rfl, s77.none, P.step s77 id, h.step s77 id, Row.nil _ _ _, Nat.le_refl _⟩
  have s68' := Step.of_no X68 s50.ok
  have s68 := s50.trans s68'
  have M68 := M50.step s68'
  refine ⟨_, (s68.blk b1 P.own id).cella (i := 0) rfl, fun w78 X78 => ?_⟩
  have s78' := Step.of_no X78 s68.ok
  have s78 := s68.trans s78'
  have M78 := M68.step s78'
  have l78 := s78.size
  refine (SignE (h.step s78 id) s78.ok hok (by omega) sec (e := nextE L t tw ep body) (fun _ => hf) (hb.step s78)).mono fun x w91 ⟨o91, sa, sc, he, s91', p91, rs, ls⟩ => ⟨_, _, _, _, _, _, _, _, _, _, _, he, M78.keep s91' (by simp; omega), ?_⟩
  have s91 : Step (fun i => i = q ∨ i = k) w o w91 o91 := s78.none.trans (s91'.mono fun i h _ => .inr h)
  have M91 := M78.step s91'
  have l91 := s91.size
  have P91 := (P.step s78 id).step s91' hqk
  refine ⟨fun hsi w108 X108 => ?_, fun hsi w99 X99 => ?_⟩
  · have s108' := Step.stores X108 s91.ok M91 (by simp [or_comm])
    have s108 := s91.trans' s108' fun i hi => .inr (by simp at hi; omega)
    unfold issueC; rw [if_neg hn, if_pos hr, if_neg (not_not_intro hbe), if_pos hsi]
    exact ⟨_, none, 0, rfl, s108, P91.step s108' (by simp; omega), p91.step s108' (by simp; omega), Row.nil _ _ _, Nat.le_refl _⟩
  · have s99' := Step.stores X99 s91.ok (M91.sub (M := [p65]) (by simp)) (by simp)
    have s99 := s91.trans' s99' fun i hi => .inr (by simp at hi; omega)
    have M99 := M91.step s99'
    obtain ⟨z1, z2, z3, z4⟩ := signE_e hsi
    have hfit : (signE S sec (nextE L t tw ep body)).1.1.fit := by rw [z2]; exact ⟨hf.1, hf.2, hsg.1, hsg.2⟩
    have hbl := signE_body (S := S) (s := sec) hr
    have hok9 : (signE S sec (nextE L t tw ep body)).2.ok ∧ (signE S sec (nextE L t tw ep body)).2.used.length ≤ S.used.length + 1 := by rw [z3]; exact signOf_ok hok sec _
    refine (cput_spec (P91.step s99' (by simp; omega)) (p91.step s99' (by simp; omega)) s99.ok hqk hok9.1 (by omega) hfit (rs.step s99') (by omega) (by omega)).mono fun x w110 ⟨o110, he, s110', p110, h110⟩ => ⟨he, (M99.sub (M := [p64, p65]) (by simp)).keep s110' (by simp; omega), fun w118 X118 => ?_⟩
    have s118' := Step.stores X118 s110'.ok ((M99.step s110').sub (M := [p64]) (by simp)) (by simp)
    have s118 : Step (fun i => i = q ∨ i = k) w o w118 _ := (s99.trans s110').trans' s118' fun i hi => .inr (by simp at hi; omega)
    unfold issueC; rw [if_neg hn, if_pos hr, if_neg (not_not_intro hbe), if_neg (not_not_intro hsi)]
    exact ⟨_, sa, sc, rfl, s118, p110.step s118' (by simp; omega), h110.step s118' (by simp; omega), ((rs.step s99').step s110').step s118', ls⟩
end
end Go.Proofs.Ytdelmfpchbpafaa

/- Chain: what a log tells (the program's). -/
set_option linter.unusedVariables false
set_option linter.unusedSimpArgs false
set_option maxRecDepth 20000
set_option maxHeartbeats 2000000
namespace Go.Proofs.Ytdelmfpchbpafaa
open Go Go.Mx Go.Proofs
open W (OwnB GivesW numR countR doneR zig unzig intR)
section
variable {w w' w1 : World} {o o' o1 : Own} {q k n : Nat} {K : Nat → Prop} {S : OS} {L : CL} {e : Ent} {a : Option Addr} {c : Nat}
theorem cHead_spec (P : PLog w o q k L) : Calls Try.prog 25 #[.pointer (some (blk q))] w (Ret (.agg #[.int .i64 L.wr, .int .i64 L.es.length, .int .u64 L.sum]) fun w' => Ext no w w') := by
  refine chain_Log_Head.run _ ?_
  unfold chain_Log_Head.N
  obtain ⟨la, lc, l, g0, b1, b2, b3, b4⟩ := P.st
  refine ⟨fun h => (by cases h), fun _ => ⟨_, rfl, _, b1.cella (i := 1) rfl, la, l.length, lc, b1.cella (i := 3) rfl, _, b1.cella (i := 4) rfl, fun w' X => ⟨by rw [len_map_e g0], X⟩⟩⟩
end
end Go.Proofs.Ytdelmfpchbpafaa

/- The oracle's tables, plainly: what stays true through all calls. -/
set_option linter.unusedVariables false
set_option linter.unusedSimpArgs false
namespace Go.Proofs.Ytdelmfpchbpafaa
open Go Go.Mx Go.Proofs
structure OInv (S : OS) : Prop where
  ok : S.ok
  rng : ∀ x ∈ S.used, 0 < x ∧ (x < 18446744073709551616 ∨ x ≤ 2 * S.used.length)
  hu : ∀ b h, alook S.hashes b = some h → h ∈ S.used
  hi : ∀ b c h, alook S.hashes b = some h → alook S.hashes c = some h → b = c
  sg : ∀ q x, alook S.signs q = some x → alook S.signed x = some q
  gs : ∀ x q, alook S.signed x = some q → alook S.signs q = some x
  su : ∀ x q, alook S.signed x = some q → x ∈ S.used
  pu : ∀ p s, alook S.publics p = some s → p ∈ S.used
  ps : ∀ p s, alook S.publics p = some s → s ∈ S.secrets
  eu : ∀ s ∈ S.secrets, s ∈ S.used
theorem OInv.nz {S : OS} (h : OInv S) : ∀ x ∈ S.used, x ≠ 0 := fun x hx => by have := (h.rng x hx).1; omega
theorem OInv.fit {S : OS} (h : OInv S) (hl : S.used.length < 1000000000) {x : Int} (hx : x ∈ S.used) : 0 ≤ x ∧ x < 18446744073709551616 := by
  have := h.rng x hx
  omega
theorem fresh_rng {S : OS} (h : S.ok) : 0 < (freshOf S).1 ∧ ((freshOf S).1 < 18446744073709551616 ∨ (freshOf S).1 ≤ 2 * ((S.used.length : Int) + 1)) := by
  obtain ⟨h1, h2, h3, h4⟩ := h
  unfold freshOf
  cases hp : pickD S.draws S.used with
  | some q =>
    obtain ⟨x, r⟩ := q
    obtain ⟨a, b, c⟩ := pickD_spec hp
    have := h4 x c
    exact ⟨by show 0 < x; omega, .inl this.2⟩
  | none =>
    obtain ⟨a, b, c, d, e⟩ := pickN_spec S.used (S.used.length + 1) S.next h1 (gap S.used _ _ (by omega))
    exact ⟨by show 0 < pickN _ _ _; omega, .inr (by show pickN _ _ _ ≤ _; omega)⟩
/-- nothing is lost. -/
structure OS.le (S S' : OS) : Prop where
  hashes : ∀ b h, alook S.hashes b = some h → alook S'.hashes b = some h
  signs : ∀ q x, alook S.signs q = some x → alook S'.signs q = some x
  signed : ∀ x q, alook S.signed x = some q → alook S'.signed x = some q
  publics : ∀ p s, alook S.publics p = some s → alook S'.publics p = some s
  secrets : ∀ s ∈ S.secrets, s ∈ S'.secrets
  used : ∀ x ∈ S.used, x ∈ S'.used
theorem OS.le.refl (S : OS) : OS.le S S := ⟨fun _ _ h => h, fun _ _ h => h, fun _ _ h => h, fun _ _ h => h, fun _ h => h, fun _ h => h⟩
theorem OS.le.trans {S T U : OS} (a : OS.le S T) (b : OS.le T U) : OS.le S U :=
  ⟨fun x y h => b.hashes x y (a.hashes x y h), fun x y h => b.signs x y (a.signs x y h), fun x y h => b.signed x y (a.signed x y h), fun x y h => b.publics x y (a.publics x y h), fun x h => b.secrets x (a.secrets x h), fun x h => b.used x (a.used x h)⟩
theorem OInv.init {l : List Int} (hl : ∀ d ∈ l, 0 ≤ d ∧ d < 18446744073709551616) : OInv (OS.init l) :=
  ⟨OS.init_ok l hl, fun x h => by simp [OS.init] at h, fun b h e => by simp [OS.init, alook] at e, fun b c h e => by simp [OS.init, alook] at e, fun q x e => by simp [OS.init, alook] at e, fun x q e => by simp [OS.init, alook] at e,
    fun x q e => by simp [OS.init, alook] at e, fun p s e => by simp [OS.init, alook] at e, fun p s e => by simp [OS.init, alook] at e, fun s h => by simp [OS.init] at h⟩
/-- after a fresh handle, the tables as they were. -/
theorem fresh_inv {S : OS} (h : OInv S) : OInv (freshOf S).2 ∧ OS.le S (freshOf S).2 ∧ (freshOf S).1 ∉ S.used ∧ (freshOf S).1 ∈ (freshOf S).2.used ∧ (freshOf S).1 ≠ 0 := by
  obtain ⟨a1, a2, a3, a4⟩ := freshOf_spec h.ok
  obtain ⟨c1, c2, c3, c4, c5, c6, c7, c8⟩ := freshOf_frame S
  have hsub : ∀ x ∈ S.used, x ∈ (freshOf S).2.used := fun x hx => by rw [a3]; simp [hx]
  refine ⟨⟨a4, fun x hx => ?_, fun b k e => hsub _ (h.hu b k (by rw [← c1]; exact e)), fun b c k e1 e2 => h.hi b c k (by rw [← c1]; exact e1) (by rw [← c1]; exact e2), fun q x e => ?_, fun x q e => ?_, fun x q e => ?_, fun p s e => ?_, fun p s e => ?_, fun s hs => ?_⟩,
    ⟨fun b k e => by rw [c1]; exact e, fun q x e => by rw [c5]; exact e, fun x q e => by rw [c6]; exact e, fun p s e => by rw [c4]; exact e, fun s hs => by rw [c3]; exact hs, hsub⟩, a2, by rw [a3]; simp, a1⟩
  · have hl : (freshOf S).2.used.length = S.used.length + 1 := by rw [a3]; simp
    rw [hl]
    rw [a3] at hx
    rcases List.mem_append.1 hx with hx | hx
    · have := h.rng x hx; omega
    · simp at hx; rw [hx]; have := fresh_rng h.ok; omega
  · rw [c5] at e; rw [c6]; exact h.sg q x e
  · rw [c6] at e; rw [c5]; exact h.gs x q e
  · rw [c6] at e; exact hsub _ (h.su x q e)
  · rw [c4] at e; exact hsub _ (h.pu p s e)
  · rw [c4] at e; rw [c3]; exact h.ps p s e
  · rw [c3] at hs; exact hsub _ (h.eu s hs)
theorem hash_inv {S : OS} (h : OInv S) (b : List UInt8) : OInv (hashOf S b).2 ∧ OS.le S (hashOf S b).2 ∧ alook (hashOf S b).2.hashes b = some (hashOf S b).1 ∧ (hashOf S b).1 ≠ 0 ∧
    (hashOf S b).2.signs = S.signs ∧ (hashOf S b).2.signed = S.signed ∧ (hashOf S b).2.publics = S.publics ∧ (hashOf S b).2.secrets = S.secrets := by
  obtain ⟨c1, c2, c3, c4, c5, c6, c7, c8⟩ := freshOf_frame S
  obtain ⟨f1, f2, f3, f4, f5⟩ := fresh_inv h
  unfold hashOf
  cases hk : alook S.hashes b with
  | some x => exact ⟨h, OS.le.refl _, hk, h.nz _ (h.hu b x hk), rfl, rfl, rfl, rfl⟩
  | none =>
    have hl : ∀ c k, alook (aput S.hashes b (freshOf S).1) c = some k → (b = c ∧ k = (freshOf S).1) ∨ alook S.hashes c = some k := fun c k e => by
      rw [alook_put] at e
      split at e
      · rename_i hbc; cases e; exact .inl ⟨hbc, rfl⟩
      · exact .inr e
    refine ⟨⟨f1.ok, f1.rng, fun c k e => ?_, fun c d k e1 e2 => ?_, f1.sg, f1.gs, f1.su, f1.pu, f1.ps, f1.eu⟩, ⟨fun c k e => ?_, f2.signs, f2.signed, f2.publics, f2.secrets, f2.used⟩, ?_, f5, c5, c6, c4, c3⟩
    · rcases hl c k e with ⟨_, rfl⟩ | e
      · exact f4
      · exact f2.used _ (h.hu c k e)
    · rcases hl c k e1 with ⟨rfl, rfl⟩ | e1 <;> rcases hl d _ e2 with ⟨rfl, _⟩ | e2
      · rfl
      · exact absurd (h.hu d _ e2) f3
      · rename_i hk2; subst hk2; exact absurd (h.hu c _ e1) f3
      · exact h.hi c d k e1 e2
    · show alook (aput S.hashes b (freshOf S).1) c = some k
      rw [alook_put, if_neg (fun e' => by subst e'; rw [hk] at e; cases e)]; exact e
    · show alook (aput S.hashes b (freshOf S).1) b = _
      rw [alook_put, if_pos rfl]
theorem hash_eq {S : OS} {b : List UInt8} {x : Int} (h : alook S.hashes b = some x) : hashOf S b = (x, S) := by unfold hashOf; rw [h]
theorem badd_mem {l : List Int} {x y : Int} : y ∈ badd l x ↔ y ∈ l ∨ y = x := by
  unfold badd
  split
  · constructor
    · exact .inl
    · rintro (h | rfl)
      · exact h
      · assumption
  · simp
theorem pair_inv {S : OS} (h : OInv S) : OInv (pairOf S).2 ∧ OS.le S (pairOf S).2 ∧ alook (pairOf S).2.publics (pairOf S).1.2 = some (pairOf S).1.1 ∧ (pairOf S).1.1 ∈ (pairOf S).2.secrets ∧ (pairOf S).1.2 ∉ (pairOf S).2.secrets ∧ (pairOf S).1.1 ∉ S.secrets ∧
    (pairOf S).2.hashes = S.hashes ∧ (pairOf S).2.signs = S.signs ∧ (pairOf S).2.signed = S.signed := by
  obtain ⟨a1, a2, a3, a4, a5, a6, a7, a8, a9, a10, a11, a12, a13, a14⟩ := pairOf_spec h.ok
  obtain ⟨k1, _⟩ := pairOf_ok h.ok
  have hsub : ∀ x ∈ S.used, x ∈ (pairOf S).2.used := fun x hx => by rw [a6]; simp [hx]
  have hl : ∀ c k, alook (pairOf S).2.publics c = some k → ((pairOf S).1.2 = c ∧ k = (pairOf S).1.1) ∨ alook S.publics c = some k := fun c k e => by
    rw [a8, alook_put] at e
    split at e
    · rename_i hbc; cases e; exact .inl ⟨hbc, rfl⟩
    · exact .inr e
  have hall : ∀ x ∈ (pairOf S).2.used, 0 < x ∧ (x < 18446744073709551616 ∨ x ≤ 2 * ((pairOf S).2.used.length : Int)) := fun x hx => by
    have h5 : OS.ok { (freshOf S).2 with secrets := badd S.secrets (freshOf S).1 } := (freshOf_spec h.ok).2.2.2
    have r1 := fresh_rng h.ok
    have r2 : 0 < (pairOf S).1.2 ∧ ((pairOf S).1.2 < 18446744073709551616 ∨ (pairOf S).1.2 ≤ 2 * (((freshOf S).2.used.length : Int) + 1)) := fresh_rng h5
    have r3 : (freshOf S).2.used.length = S.used.length + 1 := by rw [(freshOf_spec h.ok).2.2.1]; simp
    have r4 : (pairOf S).2.used.length = S.used.length + 2 := by rw [a6]; simp
    rw [r4]
    rw [a6] at hx
    rcases List.mem_append.1 hx with hx | hx
    · rcases List.mem_append.1 hx with hx | hx
      · have := h.rng x hx; omega
      · simp at hx; rw [hx]; show 0 < (freshOf S).1 ∧ ((freshOf S).1 < _ ∨ (freshOf S).1 ≤ _); omega
    · simp at hx; rw [hx]; omega
  refine ⟨⟨k1, hall, fun b k e => hsub _ (h.hu b k (by rw [← a9]; exact e)), fun b c k e1 e2 => h.hi b c k (by rw [← a9]; exact e1) (by rw [← a9]; exact e2), fun q x e => by rw [a11] at e; rw [a12]; exact h.sg q x e, fun x q e => by rw [a12] at e; rw [a11]; exact h.gs x q e,
    fun x q e => by rw [a12] at e; exact hsub _ (h.su x q e), fun p s e => ?_, fun p s e => ?_, fun s hs => ?_⟩, ⟨fun b k e => by rw [a9]; exact e, fun q x e => by rw [a11]; exact e, fun x q e => by rw [a12]; exact e, fun p s e => ?_, fun s hs => by rw [a7, badd_mem]; exact .inl hs, hsub⟩, ?_, by rw [a7, badd_mem]; exact .inr rfl, fun hs => ?_, fun hs => a3 (h.eu _ hs), a9, a11, a12⟩
  · rcases hl p s e with ⟨rfl, _⟩ | e
    · rw [a6]; simp
    · exact hsub _ (h.pu p s e)
  · rw [a7, badd_mem]
    rcases hl p s e with ⟨_, rfl⟩ | e
    · exact .inr rfl
    · exact .inl (h.ps p s e)
  · rw [a7, badd_mem] at hs
    rcases hs with hs | rfl
    · exact hsub _ (h.eu s hs)
    · rw [a6]; simp
  · rw [a8, alook_put, if_neg (fun e' => a4 (by rw [e']; exact h.pu p s e))]; exact e
  · rw [a8, alook_put, if_pos rfl]
  · rw [a7, badd_mem] at hs
    rcases hs with hs | hs
    · exact a4 (h.eu _ hs)
    · exact a5 hs.symm
theorem sign_inv {S : OS} (h : OInv S) {k : Int} (hk : k ∈ S.secrets) (b : List UInt8) : OInv (signOf S k b).2 ∧ OS.le S (signOf S k b).2 ∧ (signOf S k b).1.2 = true ∧ alook (signOf S k b).2.signed (signOf S k b).1.1 = some (k, b) ∧ alook (signOf S k b).2.signs (k, b) = some (signOf S k b).1.1 ∧
    (signOf S k b).2.hashes = S.hashes ∧ (signOf S k b).2.publics = S.publics ∧ (signOf S k b).2.secrets = S.secrets := by
  obtain ⟨c1, c2, c3, c4, c5, c6, c7, c8⟩ := freshOf_frame S
  obtain ⟨f1, f2, f3, f4, f5⟩ := fresh_inv h
  unfold signOf
  rw [if_pos hk]
  cases hs : alook S.signs (k, b) with
  | some x => exact ⟨h, OS.le.refl _, rfl, h.sg _ _ hs, hs, rfl, rfl, rfl⟩
  | none =>
    have hl : ∀ c z, alook (aput S.signs (k, b) (freshOf S).1) c = some z → ((k, b) = c ∧ z = (freshOf S).1) ∨ alook S.signs c = some z := fun c z e => by
      rw [alook_put] at e
      split at e
      · rename_i hbc; cases e; exact .inl ⟨hbc, rfl⟩
      · exact .inr e
    have hg : ∀ c z, alook (aput S.signed (freshOf S).1 (k, b)) c = some z → ((freshOf S).1 = c ∧ z = (k, b)) ∨ alook S.signed c = some z := fun c z e => by
      rw [alook_put] at e
      split at e
      · rename_i hbc; cases e; exact .inl ⟨hbc, rfl⟩
      · exact .inr e
    have hn : ∀ x q, alook S.signed x = some q → (freshOf S).1 ≠ x := fun x q e e' => f3 (by rw [e']; exact h.su x q e)
    refine ⟨⟨f1.ok, f1.rng, f1.hu, f1.hi, fun q x e => ?_, fun x q e => ?_, fun x q e => ?_, f1.pu, f1.ps, f1.eu⟩, ⟨f2.hashes, fun q x e => ?_, fun x q e => ?_, f2.publics, f2.secrets, f2.used⟩, rfl, ?_, ?_, c1, c4, c3⟩
    · show alook (aput S.signed (freshOf S).1 (k, b)) x = some q
      rcases hl q x e with ⟨rfl, rfl⟩ | e
      · rw [alook_put, if_pos rfl]
      · rw [alook_put, if_neg (hn x q (h.sg q x e))]; exact h.sg q x e
    · show alook (aput S.signs (k, b) (freshOf S).1) q = some x
      rcases hg x q e with ⟨rfl, rfl⟩ | e
      · rw [alook_put, if_pos rfl]
      · rw [alook_put, if_neg (fun e' => by subst e'; have := h.gs x _ e; rw [hs] at this; cases this)]; exact h.gs x q e
    · rcases hg x q e with ⟨rfl, rfl⟩ | e
      · exact f4
      · exact f2.used _ (h.su x q e)
    · show alook (aput S.signs (k, b) (freshOf S).1) q = some x
      rw [alook_put, if_neg (fun e' => by subst e'; rw [hs] at e; cases e)]; exact e
    · show alook (aput S.signed (freshOf S).1 (k, b)) x = some q
      rw [alook_put, if_neg (hn x q e)]; exact e
    · show alook (aput S.signed (freshOf S).1 (k, b)) (freshOf S).1 = _
      rw [alook_put, if_pos rfl]
    · show alook (aput S.signs (k, b) (freshOf S).1) (k, b) = _
      rw [alook_put, if_pos rfl]
theorem sign_no {S : OS} {k : Int} (hk : k ∉ S.secrets) (b : List UInt8) : signOf S k b = ((0, false), S) := by unfold signOf; rw [if_neg hk]
theorem verify_at {S : OS} {p s : Int} (hp : alook S.publics p = some s) (b : List UInt8) (x : Int) : verifyOf S p b x = decide (alook S.signed x = some (s, b)) := by
  unfold verifyOf
  rw [hp]
  cases alook S.signed x with
  | none => simp
  | some q => simp
theorem sign_inv' {S : OS} (h : OInv S) (k : Int) (b : List UInt8) : OInv (signOf S k b).2 ∧ OS.le S (signOf S k b).2 ∧ (signOf S k b).2.hashes = S.hashes ∧ (signOf S k b).2.publics = S.publics ∧ (signOf S k b).2.secrets = S.secrets := by
  by_cases hk : k ∈ S.secrets
  · obtain ⟨a1, a2, a3, a4, a5, a6, a7, a8⟩ := sign_inv h hk b; exact ⟨a1, a2, a6, a7, a8⟩
  · rw [sign_no hk]; exact ⟨h, OS.le.refl _, rfl, rfl, rfl⟩
end Go.Proofs.Ytdelmfpchbpafaa

/- Logs, plainly: what stays true. -/
set_option linter.unusedVariables false
set_option linter.unusedSimpArgs false
set_option maxRecDepth 20000
namespace Go.Proofs.Ytdelmfpchbpafaa
open Go Go.Mx Go.Proofs
def hv (S : OS) (e : Ent) : Int := (alook S.hashes (bytesL e)).getD 0
def sumS (S : OS) (es : List Ent) : Int := match es.getLast? with | none => 0 | some e => hv S e
structure OkAt (S : OS) (wr s : Int) (pre : List Ent) (e : Ent) : Prop where
  right : entRight e = true
  fit : e.fit
  w : e.w = wr
  sg : alook S.signed e.sg = some (s, textL e)
  i : e.i = pre.length
  pv : e.pv = sumS S pre
  late : ∀ x, pre.getLast? = some x → lessS x.t x.tw e.t e.tw = true
def Good (S : OS) (wr s : Int) (es : List Ent) : Prop := ∀ (i : Nat) (e : Ent), es[i]? = some e → OkAt S wr s (es.take i) e ∧ ∃ h, alook S.hashes (bytesL e) = some h
/-- a secret, and its public. -/
structure Keyed (S : OS) (s p : Int) : Prop where
  sec : s ∈ S.secrets
  pub : alook S.publics p = some s
theorem Keyed.le {S S' : OS} {s p : Int} (h : Keyed S s p) (l : OS.le S S') : Keyed S' s p := ⟨l.secrets _ h.sec, l.publics _ _ h.pub⟩
structure LOk (S : OS) (s p : Int) (L : CL) : Prop where
  good : Good S L.wr s L.es
  sum : L.sum = sumS S L.es
  pb : L.pb = p
  few : L.es.length ≤ 200
section
variable {S S' : OS} {s p wr : Int} {L : CL} {e : Ent} {es : List Ent}
theorem hv_le (l : OS.le S S') {h : Int} (hh : alook S.hashes (bytesL e) = some h) : hv S' e = hv S e := by unfold hv; rw [hh, l.hashes _ _ hh]
theorem last_get {es : List Ent} {x : Ent} (h : es.getLast? = some x) : es[es.length - 1]? = some x := by rw [← List.getLast?_eq_getElem?]; exact h
theorem sumS_le (l : OS.le S S') (h : ∀ e ∈ es, ∃ h, alook S.hashes (bytesL e) = some h) : sumS S' es = sumS S es := by
  unfold sumS
  cases hl : es.getLast? with
  | none => rfl
  | some x =>
    obtain ⟨y, hy⟩ := h x (List.mem_of_getElem? (last_get hl))
    exact hv_le l hy
theorem Good.hashed (g : Good S wr s es) : ∀ e ∈ es, ∃ h, alook S.hashes (bytesL e) = some h := fun e he => by
  obtain ⟨i, hi⟩ := List.getElem?_of_mem he
  exact (g i e hi).2
theorem Good.nil : Good S wr s [] := fun i e h => by simp at h
theorem Good.take (g : Good S wr s es) (n : Nat) : Good S wr s (es.take n) := fun i e h => by
  rw [List.getElem?_take] at h
  split at h
  · have := g i e h
    rw [List.take_take, Nat.min_eq_left (by omega)]; exact this
  · cases h
theorem OkAt.le {pre : List Ent} (h : OkAt S wr s pre e) (l : OS.le S S') (hp : ∀ e ∈ pre, ∃ h, alook S.hashes (bytesL e) = some h) : OkAt S' wr s pre e :=
  ⟨h.right, h.fit, h.w, l.signed _ _ h.sg, h.i, by rw [sumS_le l hp]; exact h.pv, h.late⟩
theorem Good.le (g : Good S wr s es) (l : OS.le S S') : Good S' wr s es := fun i e h => by
  obtain ⟨h1, x, hx⟩ := g i e h
  exact ⟨h1.le l (g.take i).hashed, x, l.hashes _ _ hx⟩
theorem Good.add (g : Good S wr s es) (h : OkAt S wr s es e) (hh : ∃ h, alook S.hashes (bytesL e) = some h) : Good S wr s (es ++ [e]) := fun i x hx => by
  by_cases hi : i < es.length
  · rw [List.getElem?_append_left hi] at hx
    have := g i x hx
    rwa [List.take_append_of_le_length (by omega)]
  · have hi2 : i = es.length := by
      have := (List.getElem?_eq_some_iff.1 hx).1
      simp at this; omega
    subst hi2
    rw [List.getElem?_append_right (Nat.le_refl _), Nat.sub_self] at hx
    simp at hx
    subst hx
    rw [List.take_append_of_le_length (Nat.le_refl _), List.take_length]
    exact ⟨h, hh⟩
theorem LOk.nil (wr : Int) : LOk S s p ⟨wr, p, [], 0⟩ := ⟨Good.nil, rfl, rfl, Nat.zero_le _⟩
theorem LOk.le (h : LOk S s p L) (l : OS.le S S') : LOk S' s p L := ⟨h.good.le l, by rw [sumS_le l h.good.hashed]; exact h.sum, h.pb, h.few⟩
theorem sumE_right (hr : entRight e = true) : sumE S e = (((hashOf S (bytesL e)).1, 0), (hashOf S (bytesL e)).2) := by unfold sumE; rw [if_pos hr]
theorem LOk.put (h : LOk S s p L) (inv : OInv S) (he : OkAt S L.wr s L.es e) (hl : L.es.length < 200) : LOk (putC S L e).2 s p (putC S L e).1 ∧ OInv (putC S L e).2 ∧ OS.le S (putC S L e).2 ∧ (putC S L e).2.used.length ≤ S.used.length + 1 := by
  obtain ⟨a1, a2, a3, a4, _⟩ := hash_inv inv (bytesL e)
  have hu := (hashOf_ok inv.ok (bytesL e)).2
  unfold putC
  rw [sumE_right he.right]
  have h' := h.le a2
  refine ⟨⟨h'.good.add (he.le a2 h.good.hashed) ⟨_, a3⟩, ?_, h.pb, by simp; omega⟩, a1, a2, hu⟩
  show (hashOf S (bytesL e)).1 = sumS _ (L.es ++ [e])
  unfold sumS
  rw [List.getLast?_append]
  simp [hv, a3]
theorem LOk.fit (h : LOk S s p L) (inv : OInv S) (hl : S.used.length < 1000000) : 0 ≤ L.sum ∧ L.sum < 18446744073709551616 := by
  rw [h.sum]
  unfold sumS
  cases hl' : L.es.getLast? with
  | none => exact ⟨by show (0 : Int) ≤ 0; decide, by show (0 : Int) < _; decide⟩
  | some x =>
    obtain ⟨y, hy⟩ := h.good.hashed x (List.mem_of_getElem? (last_get hl'))
    show 0 ≤ hv S x ∧ hv S x < _
    unfold hv; rw [hy]
    exact inv.fit (by omega) (inv.hu _ _ hy)
theorem holdsE_iff (hk : Keyed S s p) : holdsE S p e = true ↔ entRight e = true ∧ alook S.signed e.sg = some (s, textL e) := by
  unfold holdsE
  rw [Bool.and_eq_true, verify_at hk.pub, decide_eq_true_eq]
theorem behind_zero (h : behindC L e = 0) : e.pv = L.sum ∧ ∀ x, L.es.getLast? = some x → lessS x.t x.tw e.t e.tw = true := by
  unfold behindC at h
  by_cases hp : e.pv = L.sum
  · rw [if_pos hp] at h
    refine ⟨hp, fun x hx => ?_⟩
    rw [hx] at h
    simp only [] at h
    by_cases hl : lessS x.t x.tw e.t e.tw = true
    · exact hl
    · rw [if_neg hl] at h; cases h
  · rw [if_neg hp] at h; cases h
theorem behind_ok (h1 : e.pv = L.sum) (h2 : ∀ x, L.es.getLast? = some x → lessS x.t x.tw e.t e.tw = true) : behindC L e = 0 := by
  unfold behindC
  rw [if_pos h1]
  cases hl : L.es.getLast? with
  | none => rfl
  | some x => simp only []; rw [if_pos (h2 x hl)]
theorem check_behind (hes : L.es.length ≤ 200) (h : checkC S L e = 0) : behindC L e = 0 := by
  unfold checkC at h
  split at h
  · rename_i h1; exact absurd h h1
  · split at h
    · rename_i h1; exact absurd h h1
    · exact h
theorem LOk.accepted (h : LOk S s p L) (hk : Keyed S s p) (hf : entRight e = true → e.fit) (hc : checkC S L e = 0) : OkAt S L.wr s L.es e ∧ L.es.length < 200 := by
  obtain ⟨q1, q2, q3, q4, q5, q6⟩ := accept_out h.few hc
  rw [h.pb] at q4
  exact ⟨⟨q2, hf q2, q3, ((holdsE_iff hk).1 q4).2, q5, by rw [q6, h.sum], (behind_zero (check_behind h.few hc)).2⟩, q1⟩
theorem LOk.accept (h : LOk S s p L) (inv : OInv S) (hk : Keyed S s p) (hf : entRight e = true → e.fit) : LOk (acceptC S L e).2.2 s p (acceptC S L e).2.1 ∧ OInv (acceptC S L e).2.2 ∧ OS.le S (acceptC S L e).2.2 ∧ (acceptC S L e).2.2.used.length ≤ S.used.length + 1 ∧
    (acceptC S L e).2.1.wr = L.wr ∧ (acceptC S L e).2.1.es = (if (acceptC S L e).1 = 0 then L.es ++ [e] else L.es) := by
  unfold acceptC
  by_cases hc : checkC S L e = 0
  · rw [if_pos hc]
    obtain ⟨h1, h2⟩ := h.accepted hk hf hc
    obtain ⟨a1, a2, a3, a4⟩ := h.put inv h1 h2
    exact ⟨a1, a2, a3, a4, rfl, rfl⟩
  · rw [if_neg hc]
    exact ⟨h, inv, OS.le.refl _, Nat.le_succ _, rfl, by simp only [if_neg hc]⟩
/-- what comes next is accepted. -/
theorem LOk.accepts (h : LOk S s p L) (hk : Keyed S s p) (he : OkAt S L.wr s L.es e) : checkC S L e = 0 := by
  have h1 : rightC S L e = 0 := by
    unfold rightC
    rw [if_pos he.right, if_pos he.w, h.pb, if_pos ((holdsE_iff hk).2 ⟨he.right, he.sg⟩)]
  have h2 : placeC L e = 0 := by
    unfold placeC
    rw [if_neg (by rw [he.i]; omega), if_pos he.i]
  have h3 : behindC L e = 0 := behind_ok (by rw [he.pv, h.sum]) he.late
  unfold checkC
  rw [if_neg (not_not_intro h1), if_neg (not_not_intro h2), h3]
/-- what an issue leaves. -/
theorem LOk.issue (h : LOk S s p L) (inv : OInv S) (hk : Keyed S s p) (hl : S.used.length < 1000000) (t tw ep : Int) (body : List UInt8) :
    LOk (issueC S L s t tw ep body).2.2 s p (issueC S L s t tw ep body).2.1 ∧ OInv (issueC S L s t tw ep body).2.2 ∧ OS.le S (issueC S L s t tw ep body).2.2 ∧ (issueC S L s t tw ep body).2.2.used.length ≤ S.used.length + 2 ∧
    (issueC S L s t tw ep body).2.1.wr = L.wr ∧ (issueC S L s t tw ep body).2.1.es = (if (issueC S L s t tw ep body).1.2 = 0 then L.es ++ [(issueC S L s t tw ep body).1.1] else L.es) ∧
    ((issueC S L s t tw ep body).1.2 = 0 → OkAt (issueC S L s t tw ep body).2.2 L.wr s L.es (issueC S L s t tw ep body).1.1 ∧ L.es.length < 200) ∧ (issueC S L s t tw ep body).1.1.body.length ≤ 1100 ∧ (issueC S L s t tw ep body).1.1.fit := by
  have z0 : Ent.zero.body.length ≤ 1100 := by decide
  have z1 : Ent.zero.fit := ⟨by decide, by decide, by decide, by decide⟩
  unfold issueC
  by_cases h1 : L.es.length ≥ 200
  · rw [if_pos h1]; exact ⟨h, inv, OS.le.refl _, by show S.used.length ≤ _; omega, rfl, rfl, fun h => (by cases h), z0, z1⟩
  rw [if_neg h1]
  by_cases h2 : entRight (nextE L t tw ep body) = true
  · rw [if_pos h2]
    by_cases h3 : behindC L (nextE L t tw ep body) ≠ 0
    · rw [if_pos h3]; exact ⟨h, inv, OS.le.refl _, by show S.used.length ≤ _; omega, rfl, by simp only [if_neg h3], fun h => absurd h h3, z0, z1⟩
    rw [if_neg h3]
    obtain ⟨a1, a2, a3, a4, a5, a6, a7, a8⟩ := sign_inv inv hk.sec (textL (nextE L t tw ep body))
    have hu := (signOf_ok inv.ok s (textL (nextE L t tw ep body))).2
    have hs : signE S s (nextE L t tw ep body) = (({ nextE L t tw ep body with sg := (signOf S s (textL (nextE L t tw ep body))).1.1 }, 0), (signOf S s (textL (nextE L t tw ep body))).2) := by
      unfold signE; rw [if_pos h2, if_pos a3]
    rw [hs]
    rw [if_neg (by simp)]
    have hb3 := behind_zero (Decidable.not_not.1 h3)
    have hsgfit := a1.fit (by omega) (a1.su _ _ a4)
    have hsum := h.fit inv hl
    have hok : OkAt (signOf S s (textL (nextE L t tw ep body))).2 L.wr s L.es { nextE L t tw ep body with sg := (signOf S s (textL (nextE L t tw ep body))).1.1 } :=
      ⟨h2, ⟨hsum.1, hsum.2, hsgfit.1, hsgfit.2⟩, rfl, a4, rfl, by rw [sumS_le a2 h.good.hashed]; exact h.sum, hb3.2⟩
    obtain ⟨b1, b2, b3, b4⟩ := (h.le a2).put a1 hok (by omega)
    refine ⟨b1, b2, a2.trans b3, Nat.le_trans b4 (by omega), rfl, rfl, fun _ => ⟨hok.le b3 ((h.le a2).good.hashed), by omega⟩, ((entRight_iff _).1 h2).2.2.2.2.2.2.2.2.2.1, hok.fit⟩
  · rw [if_neg h2]; exact ⟨h, inv, OS.le.refl _, by show S.used.length ≤ _; omega, rfl, rfl, fun h => (by cases h), z0, z1⟩
theorem issue_sg (inv : OInv S) (hl : S.used.length < 1000000) (b : List UInt8) (hk : Keyed S s p) : 0 ≤ (signOf S s b).1.1 ∧ (signOf S s b).1.1 < 18446744073709551616 := by
  obtain ⟨a1, a2, a3, a4, a5, a6, a7, a8⟩ := sign_inv inv hk.sec b
  have hu := (signOf_ok inv.ok s b).2
  exact a1.fit (by omega) (a1.su _ _ a4)
end
end Go.Proofs.Ytdelmfpchbpafaa

/- The reference's oracle: one list of all that was handed out. -/
set_option linter.unusedVariables false
set_option linter.unusedSimpArgs false
set_option maxRecDepth 20000
namespace Go.Proofs.Ytdelmfpchbpafaa
open Go Go.Mx Go.Proofs
/-- (*cachetteref03.Oracle).at -/
def cachetteref03_Oracle_at.M (o1 : Option Addr) (h2 : Int) (R : Value → World → Prop) (w : World) : Prop :=
 ∃ (I0 : Nat → List Value → World → Prop) (m4 : Nat), I0 m4 [.int .i64 0] w ∧ ∀ (m5 : Nat) (a0 : World) (i3 : Int), I0 m5 [.int .i64 i3] a0 →
 o1.elim False fun a7 =>
 ∃ (a8 : Option Addr) (a5 : Nat) (aa : Nat), a0.cell? (a7.add 1) = some (.slice a8 a5 aa) ∧
 bif decide (i3 < (a5 : Int)) then (
 o1.elim False fun a9 =>
 ∃ (a1 : Option Addr) (a2 : Nat) (a3 : Nat), a0.cell? (a9.add 1) = some (.slice a1 a2 a3) ∧
 a1.elim False fun ab =>
 0 ≤ (i3 : Int) ∧ (i3 : Int) < (a2 : Int) ∧
 ∃ (a6 : Int), a0.cell? ((ab.add (Int.toNat i3 * 6)).add 0) = some (.int .u64 a6) ∧
 bif a6 == h2 then (
 R (.int .i64 i3) a0) else (
 ∃ a4, a4 < m5 ∧ I0 a4 [.int .i64 (IntKind.i64.wrap (i3 + 1))] a0)) else (
 R (.int .i64 (-1)) a0)

theorem cachetteref03_Oracle_at.eq (o1 : Option Addr) (h2 : Int) (R : Value → World → Prop) (w : World) : mfunc Try.prog [(0, [0, 1], [(5, (.one (.int .i64)))])] 46 [.pointer o1, .int .u64 h2] R w = cachetteref03_Oracle_at.M o1 h2 R w := by kernel_rfl
theorem cachetteref03_Oracle_at.ok (o1 : Option Addr) (h2 : Int) {R : Value → World → Prop} {w : World} (h : cachetteref03_Oracle_at.M o1 h2 R w) : Calls Try.prog 46 #[.pointer o1, .int .u64 h2] w fun e w' => ∃ v, e = .returned v ∧ R v w' :=
  mfunc_ok follows (H := [(0, [0, 1], [(5, (.one (.int .i64)))])]) (args := [.pointer o1, .int .u64 h2]) (by rw [cachetteref03_Oracle_at.eq]; exact h)

def cachetteref03_Oracle_at.N (o1 : Option Addr) (h2 : Int) (R : Value → World → Prop) (w : World) : Prop :=
 ∃ (I0 : Nat → List Value → World → Prop) (m4 : Nat), I0 m4 [.int .i64 0] w ∧ ∀ (m5 : Nat) (a0 : World) (i3 : Int), I0 m5 [.int .i64 i3] a0 →
 ∃ a7 : Addr, o1 = some a7 ∧
 ∃ (aa : Option Addr) (a3 : Nat) (a9 : Nat), a0.cell? (a7.add 1) = some (.slice aa a3 a9) ∧
 (i3 < (a3 : Int) →
 ∃ (a2 : Option Addr) (a1 : Nat) (a5 : Nat), a0.cell? (a7.add 1) = some (.slice a2 a1 a5) ∧
 ∃ a6 : Addr, a2 = some a6 ∧
 0 ≤ (i3 : Int) ∧ (i3 : Int) < (a1 : Int) ∧
 ∃ (a4 : Int), a0.cell? ((a6.add (Int.toNat i3 * 6)).add 0) = some (.int .u64 a4) ∧
 (a4 = h2 →
 R (.int .i64 i3) a0) ∧
 (a4 ≠ h2 →
 (-9223372036854775808 : Int) ≤ (i3 + 1) ∧ (i3 + 1) < 9223372036854775808 ∧
 ∃ a8, a8 < m5 ∧ I0 a8 [.int .i64 (i3 + 1)] a0)) ∧
 ((a3 : Int) ≤ i3 →
 R (.int .i64 (-1)) a0)

theorem cachetteref03_Oracle_at.up (o1 : Option Addr) (h2 : Int) {R : Value → World → Prop} {w : World} (h : cachetteref03_Oracle_at.N o1 h2 R w) : cachetteref03_Oracle_at.M o1 h2 R w := by
  unfold cachetteref03_Oracle_at.M
  unfold cachetteref03_Oracle_at.N at h
  obtain ⟨I0, m4, h0, h⟩ := h
  refine ⟨I0, m4, h0, fun m5 ai i3 hI => ?_⟩
  have h := h m5 ai i3 hI
  obtain ⟨a7, a9, h⟩ := h
  refine elim_some a9 ?_
  obtain ⟨af, ac, ak, ae, h⟩ := h
  refine ⟨af, ac, ak, ae, ?_⟩
  refine bif_of (fun a6 => ?_) (fun a6 => ?_)
  · have h := h.1 (of_decide_eq_true a6)
    refine elim_some a9 ?_
    obtain ⟨a1, a0, a8, a2, h⟩ := h
    refine ⟨a1, a0, a8, a2, ?_⟩
    obtain ⟨al, a3, h⟩ := h
    refine elim_some a3 ?_
    obtain ⟨ab, ad, h⟩ := h
    refine ⟨ab, ad, ?_⟩
    obtain ⟨aj, a4, h⟩ := h
    refine ⟨aj, a4, ?_⟩
    refine bif_of (fun a5 => ?_) (fun a5 => ?_)
    · have h := h.1 (beq_t a5)
      exact h
    · have h := h.2 (beq_f a5)
      obtain ⟨ah, ag, h⟩ := h
      try rw [w64 ah ag]
      obtain ⟨aa, hk, h⟩ := h
      exact ⟨aa, hk, h⟩
  · have h := h.2 (Int.not_lt.1 (of_decide_eq_false a6))
    exact h

theorem cachetteref03_Oracle_at.go (o1 : Option Addr) (h2 : Int) {R : Value → World → Prop} {w : World} (h : cachetteref03_Oracle_at.N o1 h2 R w) : Calls Try.prog 46 #[.pointer o1, .int .u64 h2] w fun e w' => ∃ v, e = .returned v ∧ R v w' := cachetteref03_Oracle_at.ok o1 h2 (cachetteref03_Oracle_at.up o1 h2 h)
theorem cachetteref03_Oracle_at.run (o1 : Option Addr) (h2 : Int) {V : Value} {Q : World → Prop} {w : World} (h : cachetteref03_Oracle_at.N o1 h2 (fun v w' => v = V ∧ Q w') w) : Calls Try.prog 46 #[.pointer o1, .int .u64 h2] w (Ret V Q) := (cachetteref03_Oracle_at.go o1 h2 h).mono fun e w' ⟨v, he, hv, hq⟩ => ⟨by rw [he, hv], hq⟩

/-- (*cachetteref03.Oracle).put -/
def cachetteref03_Oracle_put.M (o1 : Option Addr) (g8 : Int) (db : Int) (f3 : Option Addr) (ew : Nat) (f9 : Nat) (fd : Option Addr) (ey : Nat) (f4 : Nat) (g7 : Int) (ga : Int) (R : Value → World → Prop) (w : World) : Prop :=
 thenW (w.alloc (.cells #[.int .u64 g8, .int .i64 db, .slice f3 ew f9, .slice fd ey f4, .int .u64 g7, .int .u64 ga] 80)) fun g0 =>
 ∃ (I0 : Nat → List Value → World → Prop) (fy : Nat), I0 fy [.int .u64 0] g0 ∧ ∀ (ez : Nat) (a6 : World) (h9 : Int), I0 ez [.int .u64 h9] a6 →
 o1.elim False fun g6 =>
 ∃ (ao : Option Addr) (a7 : Nat) (ar : Nat), a6.cell? (g6.add 0) = some (.slice ao a7 ar) ∧
 bif decide ((a7 : Int) > 0) then (
 bif h9 == 0 then (
 o1.elim False fun g3 =>
 ∃ (ac : Option Addr) (aa : Nat) (bb : Nat), a6.cell? (g3.add 0) = some (.slice ac aa bb) ∧
 ac.elim False fun g2 =>
 0 ≤ (0 : Int) ∧ (0 : Int) < (aa : Int) ∧
 ∃ (fp : Int), a6.cell? (g2.add (Int.toNat 0 * 1)) = some (.int .u64 fp) ∧
 o1.elim False fun gb =>
 ∃ (a5 : Option Addr) (a3 : Nat) (a2 : Nat), a6.cell? (gb.add 0) = some (.slice a5 a3 a2) ∧
 (0 : Int) ≤ (1 : Int) ∧ (1 : Int) ≤ (a3 : Int) ∧
 o1.elim False fun ft =>
 canStore a6 ((ft.add 0).add 0) ∧
 thenW (a6.setCell ((ft.add 0).add 0) (.slice (if a2 = Int.toNat 1 then a5 else Option.map (fun z : Addr => z.add ((Int.toNat 1) * 1)) a5) (a3 - (Int.toNat 1)) (a2 - (Int.toNat 1)))) fun fe =>
 ∃ fq, fq < ez ∧ I0 fq [.int .u64 fp] fe) else (
 Calls Try.prog 46 #[.pointer o1, .int .u64 h9] a6 fun f0 af => ∃ (d6 : Int), f0 = .returned (.int .i64 d6) ∧
 bif decide (d6 ≥ 0) then (
 o1.elim False fun g1 =>
 ∃ (ae : Option Addr) (ab : Nat) (bs : Nat), af.cell? (g1.add 0) = some (.slice ae ab bs) ∧
 ae.elim False fun g9 =>
 0 ≤ (0 : Int) ∧ (0 : Int) < (ab : Int) ∧
 ∃ (fx : Int), af.cell? (g9.add (Int.toNat 0 * 1)) = some (.int .u64 fx) ∧
 o1.elim False fun g4 =>
 ∃ (a1 : Option Addr) (a0 : Nat) (a4 : Nat), af.cell? (g4.add 0) = some (.slice a1 a0 a4) ∧
 (0 : Int) ≤ (1 : Int) ∧ (1 : Int) ≤ (a0 : Int) ∧
 o1.elim False fun fr =>
 canStore af ((fr.add 0).add 0) ∧
 thenW (af.setCell ((fr.add 0).add 0) (.slice (if a4 = Int.toNat 1 then a1 else Option.map (fun z : Addr => z.add ((Int.toNat 1) * 1)) a1) (a0 - (Int.toNat 1)) (a4 - (Int.toNat 1)))) fun f8 =>
 ∃ fw, fw < ez ∧ I0 fw [.int .u64 fx] f8) else (
 bif h9 == 0 then (
 ∃ (I2 : Nat → List Value → World → Prop) (g5 : Nat), I2 g5 [.int .u64 1] af ∧ ∀ (fk : Nat) (e3 : World) (du : Int), I2 fk [.int .u64 du] e3 →
 Calls Try.prog 46 #[.pointer o1, .int .u64 du] e3 fun f2 d8 => ∃ (cr : Int), f2 = .returned (.int .i64 cr) ∧
 bif decide (cr ≥ 0) then (
 ∃ fs, fs < fk ∧ I2 fs [.int .u64 (IntKind.u64.wrap (du + 1))] d8) else (
 canStore d8 (((blk w.heap.size).add 0).add 0) ∧
 thenW (d8.setCell (((blk w.heap.size).add 0).add 0) (.int .u64 du)) fun f6 =>
 thenW (f6.drew) fun bw =>
 o1.elim False fun fo =>
 ∃ (dj : Option Addr) (dc : Nat) (d9 : Nat), bw.cell? (fo.add 1) = some (.slice dj dc d9) ∧
 ∃ (ea : Int) (ah : Int) (cu : Option Addr) (cn : Nat) (ck : Nat) (cl : Option Addr) (cy : Nat) (c9 : Nat) (e4 : Int) (eb : Int), cellsAt bw (blk w.heap.size) [.int .u64 ea, .int .i64 ah, .slice cu cn ck, .slice cl cy c9, .int .u64 e4, .int .u64 eb] 0 ∧
 thenW (bw.alloc (.cells #[.int .u64 ea, .int .i64 ah, .slice cu cn ck, .slice cl cy c9, .int .u64 e4, .int .u64 eb] 80)) fun e0 =>
 e0.cell? (fo.add 1) = some (.slice dj dc d9) ∧
 ∃ (ej : Option Addr) (e6 : Nat) (e2 : Nat) (d7 : World), (Builtin.append_ #[29, 29] 29 #[.slice dj dc d9, .slice (some (blk bw.heap.size)) 1 1]).run Try.prog e0 = .ok (.slice ej e6 e2) d7 ∧
 o1.elim False fun fu =>
 canStore d7 ((fu.add 1).add 0) ∧
 thenW (d7.setCell ((fu.add 1).add 0) (.slice ej e6 e2)) fun f5 =>
 R (.int .u64 du) f5)) else (
 Calls Try.prog 46 #[.pointer o1, .int .u64 h9] af fun fg di => ∃ (cx : Int), fg = .returned (.int .i64 cx) ∧
 bif decide (cx ≥ 0) then (
 ∃ (I2 : Nat → List Value → World → Prop) (fz : Nat), I2 fz [.int .u64 1] di ∧ ∀ (fl : Nat) (ed : World) (e8 : Int), I2 fl [.int .u64 e8] ed →
 Calls Try.prog 46 #[.pointer o1, .int .u64 e8] ed fun ex dl => ∃ (c7 : Int), ex = .returned (.int .i64 c7) ∧
 bif decide (c7 ≥ 0) then (
 ∃ fj, fj < fl ∧ I2 fj [.int .u64 (IntKind.u64.wrap (e8 + 1))] dl) else (
 canStore dl (((blk w.heap.size).add 0).add 0) ∧
 thenW (dl.setCell (((blk w.heap.size).add 0).add 0) (.int .u64 e8)) fun fa =>
 thenW (fa.drew) fun bu =>
 o1.elim False fun fv =>
 ∃ (da : Option Addr) (de : Nat) (dg : Nat), bu.cell? (fv.add 1) = some (.slice da de dg) ∧
 ∃ (em : Int) (ag : Int) (cg : Option Addr) (cs : Nat) (c1 : Nat) (c5 : Option Addr) (bz : Nat) (cv : Nat) (e5 : Int) (eg : Int), cellsAt bu (blk w.heap.size) [.int .u64 em, .int .i64 ag, .slice cg cs c1, .slice c5 bz cv, .int .u64 e5, .int .u64 eg] 0 ∧
 thenW (bu.alloc (.cells #[.int .u64 em, .int .i64 ag, .slice cg cs c1, .slice c5 bz cv, .int .u64 e5, .int .u64 eg] 80)) fun es =>
 es.cell? (fv.add 1) = some (.slice da de dg) ∧
 ∃ (en : Option Addr) (dy : Nat) (ei : Nat) (dh : World), (Builtin.append_ #[29, 29] 29 #[.slice da de dg, .slice (some (blk bu.heap.size)) 1 1]).run Try.prog es = .ok (.slice en dy ei) dh ∧
 o1.elim False fun fi =>
 canStore dh ((fi.add 1).add 0) ∧
 thenW (dh.setCell ((fi.add 1).add 0) (.slice en dy ei)) fun fc =>
 R (.int .u64 e8) fc)) else (
 canStore di (((blk w.heap.size).add 0).add 0) ∧
 thenW (di.setCell (((blk w.heap.size).add 0).add 0) (.int .u64 h9)) fun f1 =>
 thenW (f1.drew) fun bv =>
 o1.elim False fun fm =>
 ∃ (df : Option Addr) (dk : Nat) (dd : Nat), bv.cell? (fm.add 1) = some (.slice df dk dd) ∧
 ∃ (dn : Int) (ak : Int) (d2 : Option Addr) (c2 : Nat) (ci : Nat) (d0 : Option Addr) (ct : Nat) (d5 : Nat) (dr : Int) (ds : Int), cellsAt bv (blk w.heap.size) [.int .u64 dn, .int .i64 ak, .slice d2 c2 ci, .slice d0 ct d5, .int .u64 dr, .int .u64 ds] 0 ∧
 thenW (bv.alloc (.cells #[.int .u64 dn, .int .i64 ak, .slice d2 c2 ci, .slice d0 ct d5, .int .u64 dr, .int .u64 ds] 80)) fun dq =>
 dq.cell? (fm.add 1) = some (.slice df dk dd) ∧
 ∃ (dp : Option Addr) (ev : Nat) (dt : Nat) (dm : World), (Builtin.append_ #[29, 29] 29 #[.slice df dk dd, .slice (some (blk bv.heap.size)) 1 1]).run Try.prog dq = .ok (.slice dp ev dt) dm ∧
 o1.elim False fun fh =>
 canStore dm ((fh.add 1).add 0) ∧
 thenW (dm.setCell ((fh.add 1).add 0) (.slice dp ev dt)) fun fb =>
 R (.int .u64 h9) fb))))) else (
 bif h9 == 0 then (
 ∃ (I2 : Nat → List Value → World → Prop) (ff : Nat), I2 ff [.int .u64 1] a6 ∧ ∀ (eh : Nat) (cq : World) (bc : Int), I2 eh [.int .u64 bc] cq →
 Calls Try.prog 46 #[.pointer o1, .int .u64 bc] cq fun dz bg => ∃ (ax : Int), dz = .returned (.int .i64 ax) ∧
 bif decide (ax ≥ 0) then (
 ∃ dx, dx < eh ∧ I2 dx [.int .u64 (IntKind.u64.wrap (bc + 1))] bg) else (
 canStore bg (((blk w.heap.size).add 0).add 0) ∧
 thenW (bg.setCell (((blk w.heap.size).add 0).add 0) (.int .u64 bc)) fun dv =>
 thenW (dv.drew) fun ai =>
 o1.elim False fun ep =>
 ∃ (b9 : Option Addr) (ay : Nat) (b4 : Nat), ai.cell? (ep.add 1) = some (.slice b9 ay b4) ∧
 ∃ (cm : Int) (ad : Int) (bj : Option Addr) (br : Nat) (b8 : Nat) (bd : Option Addr) (av : Nat) (aq : Nat) (ce : Int) (c0 : Int), cellsAt ai (blk w.heap.size) [.int .u64 cm, .int .i64 ad, .slice bj br b8, .slice bd av aq, .int .u64 ce, .int .u64 c0] 0 ∧
 thenW (ai.alloc (.cells #[.int .u64 cm, .int .i64 ad, .slice bj br b8, .slice bd av aq, .int .u64 ce, .int .u64 c0] 80)) fun ca =>
 ca.cell? (ep.add 1) = some (.slice b9 ay b4) ∧
 ∃ (cj : Option Addr) (d1 : Nat) (c6 : Nat) (b0 : World), (Builtin.append_ #[29, 29] 29 #[.slice b9 ay b4, .slice (some (blk ai.heap.size)) 1 1]).run Try.prog ca = .ok (.slice cj d1 c6) b0 ∧
 o1.elim False fun eq =>
 canStore b0 ((eq.add 1).add 0) ∧
 thenW (b0.setCell ((eq.add 1).add 0) (.slice cj d1 c6)) fun eo =>
 R (.int .u64 bc) eo)) else (
 Calls Try.prog 46 #[.pointer o1, .int .u64 h9] a6 fun e7 bq => ∃ (b5 : Int), e7 = .returned (.int .i64 b5) ∧
 bif decide (b5 ≥ 0) then (
 ∃ (I2 : Nat → List Value → World → Prop) (f7 : Nat), I2 f7 [.int .u64 1] bq ∧ ∀ (el : Nat) (ch : World) (ap : Int), I2 el [.int .u64 ap] ch →
 Calls Try.prog 46 #[.pointer o1, .int .u64 ap] ch fun eu b3 => ∃ (au : Int), eu = .returned (.int .i64 au) ∧
 bif decide (au ≥ 0) then (
 ∃ ee, ee < el ∧ I2 ee [.int .u64 (IntKind.u64.wrap (ap + 1))] b3) else (
 canStore b3 (((blk w.heap.size).add 0).add 0) ∧
 thenW (b3.setCell (((blk w.heap.size).add 0).add 0) (.int .u64 ap)) fun e1 =>
 thenW (e1.drew) fun al =>
 o1.elim False fun et =>
 ∃ (bm : Option Addr) (am : Nat) (bk : Nat), al.cell? (et.add 1) = some (.slice bm am bk) ∧
 ∃ (c8 : Int) (a8 : Int) (bl : Option Addr) (bn : Nat) (b6 : Nat) (bp : Option Addr) (aw : Nat) (az : Nat) (cz : Int) (d4 : Int), cellsAt al (blk w.heap.size) [.int .u64 c8, .int .i64 a8, .slice bl bn b6, .slice bp aw az, .int .u64 cz, .int .u64 d4] 0 ∧
 thenW (al.alloc (.cells #[.int .u64 c8, .int .i64 a8, .slice bl bn b6, .slice bp aw az, .int .u64 cz, .int .u64 d4] 80)) fun co =>
 co.cell? (et.add 1) = some (.slice bm am bk) ∧
 ∃ (cp : Option Addr) (d3 : Nat) (bx : Nat) (b2 : World), (Builtin.append_ #[29, 29] 29 #[.slice bm am bk, .slice (some (blk al.heap.size)) 1 1]).run Try.prog co = .ok (.slice cp d3 bx) b2 ∧
 o1.elim False fun ec =>
 canStore b2 ((ec.add 1).add 0) ∧
 thenW (b2.setCell ((ec.add 1).add 0) (.slice cp d3 bx)) fun dw =>
 R (.int .u64 ap) dw)) else (
 canStore bq (((blk w.heap.size).add 0).add 0) ∧
 thenW (bq.setCell (((blk w.heap.size).add 0).add 0) (.int .u64 h9)) fun e9 =>
 thenW (e9.drew) fun aj =>
 o1.elim False fun ek =>
 ∃ (bo : Option Addr) (bi : Nat) (bf : Nat), aj.cell? (ek.add 1) = some (.slice bo bi bf) ∧
 ∃ (c3 : Int) (a9 : Int) (b7 : Option Addr) (bh : Nat) (be : Nat) (b1 : Option Addr) (bt : Nat) (an : Nat) (cd : Int) (cf : Int), cellsAt aj (blk w.heap.size) [.int .u64 c3, .int .i64 a9, .slice b7 bh be, .slice b1 bt an, .int .u64 cd, .int .u64 cf] 0 ∧
 thenW (aj.alloc (.cells #[.int .u64 c3, .int .i64 a9, .slice b7 bh be, .slice b1 bt an, .int .u64 cd, .int .u64 cf] 80)) fun cc =>
 cc.cell? (ek.add 1) = some (.slice bo bi bf) ∧
 ∃ (cb : Option Addr) (cw : Nat) (c4 : Nat) (ba : World), (Builtin.append_ #[29, 29] 29 #[.slice bo bi bf, .slice (some (blk aj.heap.size)) 1 1]).run Try.prog cc = .ok (.slice cb cw c4) ba ∧
 o1.elim False fun ef =>
 canStore ba ((ef.add 1).add 0) ∧
 thenW (ba.setCell ((ef.add 1).add 0) (.slice cb cw c4)) fun er =>
 R (.int .u64 h9) er)))

theorem cachetteref03_Oracle_put.eq (o1 : Option Addr) (rH2 : Int) (rKind3 : Int) (rA4a : Option Addr) (rA4n : Nat) (rA4c : Nat) (rB5a : Option Addr) (rB5n : Nat) (rB5c : Nat) (rN6 : Int) (rM7 : Int) (R : Value → World → Prop) (w : World) : mfunc Try.prog [(0, [0, 3], [(5, (.one (.int .u64)))]), (2, [0, 3], [(5, (.one (.int .u64)))])] 28 [.pointer o1, .agg #[.int .u64 rH2, .int .i64 rKind3, .slice rA4a rA4n rA4c, .slice rB5a rB5n rB5c, .int .u64 rN6, .int .u64 rM7]] R w = cachetteref03_Oracle_put.M o1 rH2 rKind3 rA4a rA4n rA4c rB5a rB5n rB5c rN6 rM7 R w := by kernel_rfl
theorem cachetteref03_Oracle_put.ok (o1 : Option Addr) (a7 : Int) (a0 : Int) (a4 : Option Addr) (a3 : Nat) (a2 : Nat) (a5 : Option Addr) (a6 : Nat) (a1 : Nat) (a9 : Int) (a8 : Int) {R : Value → World → Prop} {w : World} (h : cachetteref03_Oracle_put.M o1 a7 a0 a4 a3 a2 a5 a6 a1 a9 a8 R w) : Calls Try.prog 28 #[.pointer o1, .agg #[.int .u64 a7, .int .i64 a0, .slice a4 a3 a2, .slice a5 a6 a1, .int .u64 a9, .int .u64 a8]] w fun e w' => ∃ v, e = .returned v ∧ R v w' :=
  mfunc_ok follows (H := [(0, [0, 3], [(5, (.one (.int .u64)))]), (2, [0, 3], [(5, (.one (.int .u64)))])]) (args := [.pointer o1, .agg #[.int .u64 a7, .int .i64 a0, .slice a4 a3 a2, .slice a5 a6 a1, .int .u64 a9, .int .u64 a8]]) (by rw [cachetteref03_Oracle_put.eq]; exact h)

def cachetteref03_Oracle_put.N (o1 : Option Addr) (ep : Int) (ch : Int) (dv : Option Addr) (dp : Nat) (e2 : Nat) (e4 : Option Addr) (dr : Nat) (dw : Nat) (eo : Int) (eq : Int) (R : Value → World → Prop) (w : World) : Prop :=
 ∀ (ds : World) (p9 : Nat), Ext no w ds → Priv w ds [p9] →
 ∃ (I0 : Nat → List Value → World → Prop) (en : Nat), I0 en [.int .u64 0, .int .u64 ep, .int .i64 ch, .slice dv dp e2, .slice e4 dr dw, .int .u64 eo, .int .u64 eq] ds ∧ ∀ (dx : Nat) (a2 : World) (ay : Int) (d4 : Int) (a0 : Int) (ad : Option Addr) (ag : Nat) (ab : Nat) (ac : Option Addr) (ai : Nat) (aa : Nat) (c4 : Int) (cb : Int), I0 dx [.int .u64 ay, .int .u64 d4, .int .i64 a0, .slice ad ag ab, .slice ac ai aa, .int .u64 c4, .int .u64 cb] a2 →
 ∃ a1 : Addr, o1 = some a1 ∧
 ∃ (b0 : Option Addr) (a5 : Nat) (bc : Nat), a2.cell? (a1.add 0) = some (.slice b0 a5 bc) ∧
 ((a5 : Int) > 0 →
 (ay = 0 →
 ∃ (ak : Option Addr) (a9 : Nat) (br : Nat), a2.cell? (a1.add 0) = some (.slice ak a9 br) ∧
 ∃ ef : Addr, ak = some ef ∧
 (0 : Int) < (a9 : Int) ∧
 ∃ (eh : Int), a2.cell? (ef.add (Int.toNat 0 * 1)) = some (.int .u64 eh) ∧
 ∃ (al : Option Addr) (a3 : Nat) (a7 : Nat), a2.cell? (a1.add 0) = some (.slice al a3 a7) ∧
 (1 : Int) ≤ (a3 : Int) ∧ 
 canStore a2 ((a1.add 0).add 0) ∧
 (∀ p ∈ [p9], p ≠ Addr.block (a1.add 0)) ∧
 thenW (a2.setCell ((a1.add 0).add 0) (.slice (cutA al a7 1 1) (a3 - 1) (a7 - 1))) fun e6 =>
 ∃ eb, eb < dx ∧ I0 eb [.int .u64 eh, .int .u64 d4, .int .i64 a0, .slice ad ag ab, .slice ac ai aa, .int .u64 c4, .int .u64 cb] e6) ∧
 (ay ≠ 0 →
 Calls Try.prog 46 #[.pointer o1, .int .u64 ay] a2 fun e9 am => ∃ (b8 : Int), e9 = .returned (.int .i64 b8) ∧
 Keep [p9] a2 am ∧
 (b8 ≥ 0 →
 ∃ (an : Option Addr) (af : Nat) (bi : Nat), am.cell? (a1.add 0) = some (.slice an af bi) ∧
 ∃ eg : Addr, an = some eg ∧
 (0 : Int) < (af : Int) ∧
 ∃ (ec : Int), am.cell? (eg.add (Int.toNat 0 * 1)) = some (.int .u64 ec) ∧
 ∃ (ae : Option Addr) (a6 : Nat) (a4 : Nat), am.cell? (a1.add 0) = some (.slice ae a6 a4) ∧
 (1 : Int) ≤ (a6 : Int) ∧ 
 canStore am ((a1.add 0).add 0) ∧
 (∀ p ∈ [p9], p ≠ Addr.block (a1.add 0)) ∧
 thenW (am.setCell ((a1.add 0).add 0) (.slice (cutA ae a4 1 1) (a6 - 1) (a4 - 1))) fun e8 =>
 ∃ ek, ek < dx ∧ I0 ek [.int .u64 ec, .int .u64 d4, .int .i64 a0, .slice ad ag ab, .slice ac ai aa, .int .u64 c4, .int .u64 cb] e8) ∧
 (b8 < 0 →
 Calls Try.prog 46 #[.pointer o1, .int .u64 ay] am fun dy co => ∃ (b6 : Int), dy = .returned (.int .i64 b6) ∧
 Keep [p9] am co ∧
 (b6 ≥ 0 →
 ∃ (I2 : Nat → List Value → World → Prop) (em : Nat), I2 em [.int .u64 1, .int .u64 d4, .int .i64 a0, .slice ad ag ab, .slice ac ai aa, .int .u64 c4, .int .u64 cb] co ∧ ∀ (ed : Nat) (cs : World) (dd : Int) (ee : Int) (aq : Int) (ci : Option Addr) (d2 : Nat) (cg : Nat) (cr : Option Addr) (cu : Nat) (d3 : Nat) (e7 : Int) (dq : Int), I2 ed [.int .u64 dd, .int .u64 ee, .int .i64 aq, .slice ci d2 cg, .slice cr cu d3, .int .u64 e7, .int .u64 dq] cs →
 Calls Try.prog 46 #[.pointer o1, .int .u64 dd] cs fun e1 cq => ∃ (bl : Int), e1 = .returned (.int .i64 bl) ∧
 Keep [p9] cs cq ∧
 (bl ≥ 0 →
 ∃ ei, ei < ed ∧ I2 ei [.int .u64 (IntKind.u64.wrap (dd + 1)), .int .u64 ee, .int .i64 aq, .slice ci d2 cg, .slice cr cu d3, .int .u64 e7, .int .u64 dq] cq) ∧
 (bl < 0 →
 ∀ (bz : World), Ext (fun b => b = p9) cq bz →
 ∃ (cm : Option Addr) (cw : Nat) (ct : Nat), bz.cell? (a1.add 1) = some (.slice cm cw ct) ∧
 ∀ (bm : World) (dm : Nat), Ext no bz bm → Blk bm dm 80 [.int .u64 dd, .int .i64 aq, .slice ci d2 cg, .slice cr cu d3, .int .u64 e7, .int .u64 dq] → bz.heap.size ≤ dm → dm < bm.heap.size →
 bm.cell? (a1.add 1) = some (.slice cm cw ct) ∧
 ∃ (dk : Option Addr) (dc : Nat) (d5 : Nat) (cl : World), (Builtin.append_ #[29, 29] 29 #[.slice cm cw ct, .slice (some (blk dm)) 1 1]).run Try.prog bm = .ok (.slice dk dc d5) cl ∧
 canStore cl ((a1.add 1).add 0) ∧
 thenW (cl.setCell ((a1.add 1).add 0) (.slice dk dc d5)) fun e0 =>
 R (.int .u64 dd) e0)) ∧
 (b6 < 0 →
 ∀ (bw : World), Ext (fun b => b = p9) co bw →
 ∃ (cf : Option Addr) (d1 : Nat) (ce : Nat), bw.cell? (a1.add 1) = some (.slice cf d1 ce) ∧
 ∀ (bu : World) (dn : Nat), Ext no bw bu → Blk bu dn 80 [.int .u64 ay, .int .i64 a0, .slice ad ag ab, .slice ac ai aa, .int .u64 c4, .int .u64 cb] → bw.heap.size ≤ dn → dn < bu.heap.size →
 bu.cell? (a1.add 1) = some (.slice cf d1 ce) ∧
 ∃ (dl : Option Addr) (de : Nat) (df : Nat) (cx : World), (Builtin.append_ #[29, 29] 29 #[.slice cf d1 ce, .slice (some (blk dn)) 1 1]).run Try.prog bu = .ok (.slice dl de df) cx ∧
 canStore cx ((a1.add 1).add 0) ∧
 thenW (cx.setCell ((a1.add 1).add 0) (.slice dl de df)) fun du =>
 R (.int .u64 ay) du)))) ∧
 ((a5 : Int) ≤ 0 →
 (ay = 0 →
 ∃ (I2 : Nat → List Value → World → Prop) (el : Nat), I2 el [.int .u64 1, .int .u64 d4, .int .i64 a0, .slice ad ag ab, .slice ac ai aa, .int .u64 c4, .int .u64 cb] a2 ∧ ∀ (ea : Nat) (cj : World) (da : Int) (ej : Int) (ap : Int) (d0 : Option Addr) (cz : Nat) (cc : Nat) (cy : Option Addr) (ck : Nat) (cd : Nat) (dt : Int) (e5 : Int), I2 ea [.int .u64 da, .int .u64 ej, .int .i64 ap, .slice d0 cz cc, .slice cy ck cd, .int .u64 dt, .int .u64 e5] cj →
 Calls Try.prog 46 #[.pointer o1, .int .u64 da] cj fun dz cv => ∃ (bo : Int), dz = .returned (.int .i64 bo) ∧
 Keep [p9] cj cv ∧
 (bo ≥ 0 →
 ∃ dh, dh < ea ∧ I2 dh [.int .u64 (IntKind.u64.wrap (da + 1)), .int .u64 ej, .int .i64 ap, .slice d0 cz cc, .slice cy ck cd, .int .u64 dt, .int .u64 e5] cv) ∧
 (bo < 0 →
 ∀ (ax : World), Ext (fun b => b = p9) cv ax →
 ∃ (be : Option Addr) (b7 : Nat) (b5 : Nat), ax.cell? (a1.add 1) = some (.slice be b7 b5) ∧
 ∀ (aj : World) (bv : Nat), Ext no ax aj → Blk aj bv 80 [.int .u64 da, .int .i64 ap, .slice d0 cz cc, .slice cy ck cd, .int .u64 dt, .int .u64 e5] → ax.heap.size ≤ bv → bv < aj.heap.size →
 aj.cell? (a1.add 1) = some (.slice be b7 b5) ∧
 ∃ (c1 : Option Addr) (c3 : Nat) (c7 : Nat) (az : World), (Builtin.append_ #[29, 29] 29 #[.slice be b7 b5, .slice (some (blk bv)) 1 1]).run Try.prog aj = .ok (.slice c1 c3 c7) az ∧
 canStore az ((a1.add 1).add 0) ∧
 thenW (az.setCell ((a1.add 1).add 0) (.slice c1 c3 c7)) fun dg =>
 R (.int .u64 da) dg)) ∧
 (ay ≠ 0 →
 Calls Try.prog 46 #[.pointer o1, .int .u64 ay] a2 fun d6 bb => ∃ (ar : Int), d6 = .returned (.int .i64 ar) ∧
 Keep [p9] a2 bb ∧
 (ar ≥ 0 →
 ∃ (I2 : Nat → List Value → World → Prop) (e3 : Nat), I2 e3 [.int .u64 1, .int .u64 d4, .int .i64 a0, .slice ad ag ab, .slice ac ai aa, .int .u64 c4, .int .u64 cb] bb ∧ ∀ (d7 : Nat) (bs : World) (bd : Int) (di : Int) (a8 : Int) (bp : Option Addr) (b2 : Nat) (bh : Nat) (b4 : Option Addr) (ba : Nat) (b9 : Nat) (cn : Int) (cp : Int), I2 d7 [.int .u64 bd, .int .u64 di, .int .i64 a8, .slice bp b2 bh, .slice b4 ba b9, .int .u64 cn, .int .u64 cp] bs →
 Calls Try.prog 46 #[.pointer o1, .int .u64 bd] bs fun db bg => ∃ (au : Int), db = .returned (.int .i64 au) ∧
 Keep [p9] bs bg ∧
 (au ≥ 0 →
 ∃ d9, d9 < d7 ∧ I2 d9 [.int .u64 (IntKind.u64.wrap (bd + 1)), .int .u64 di, .int .i64 a8, .slice bp b2 bh, .slice b4 ba b9, .int .u64 cn, .int .u64 cp] bg) ∧
 (au < 0 →
 ∀ (av : World), Ext (fun b => b = p9) bg av →
 ∃ (bn : Option Addr) (b1 : Nat) (bf : Nat), av.cell? (a1.add 1) = some (.slice bn b1 bf) ∧
 ∀ (ao : World) (bx : Nat), Ext no av ao → Blk ao bx 80 [.int .u64 bd, .int .i64 a8, .slice bp b2 bh, .slice b4 ba b9, .int .u64 cn, .int .u64 cp] → av.heap.size ≤ bx → bx < ao.heap.size →
 ao.cell? (a1.add 1) = some (.slice bn b1 bf) ∧
 ∃ (c8 : Option Addr) (c9 : Nat) (c6 : Nat) (bk : World), (Builtin.append_ #[29, 29] 29 #[.slice bn b1 bf, .slice (some (blk bx)) 1 1]).run Try.prog ao = .ok (.slice c8 c9 c6) bk ∧
 canStore bk ((a1.add 1).add 0) ∧
 thenW (bk.setCell ((a1.add 1).add 0) (.slice c8 c9 c6)) fun d8 =>
 R (.int .u64 bd) d8)) ∧
 (ar < 0 →
 ∀ (aw : World), Ext (fun b => b = p9) bb aw →
 ∃ (bt : Option Addr) (bq : Nat) (b3 : Nat), aw.cell? (a1.add 1) = some (.slice bt bq b3) ∧
 ∀ (ah : World) (c0 : Nat), Ext no aw ah → Blk ah c0 80 [.int .u64 ay, .int .i64 a0, .slice ad ag ab, .slice ac ai aa, .int .u64 c4, .int .u64 cb] → aw.heap.size ≤ c0 → c0 < ah.heap.size →
 ah.cell? (a1.add 1) = some (.slice bt bq b3) ∧
 ∃ (c2 : Option Addr) (ca : Nat) (c5 : Nat) (bj : World), (Builtin.append_ #[29, 29] 29 #[.slice bt bq b3, .slice (some (blk c0)) 1 1]).run Try.prog ah = .ok (.slice c2 ca c5) bj ∧
 canStore bj ((a1.add 1).add 0) ∧
 thenW (bj.setCell ((a1.add 1).add 0) (.slice c2 ca c5)) fun dj =>
 R (.int .u64 ay) dj)))

theorem cachetteref03_Oracle_put.up (o1 : Option Addr) (f5 : Int) (al : Int) (bz : Option Addr) (bp : Nat) (c4 : Nat) (c6 : Option Addr) (br : Nat) (c1 : Nat) (f1 : Int) (f6 : Int) {R : Value → World → Prop} {w : World} (h : cachetteref03_Oracle_put.N o1 f5 al bz bp c4 c6 br c1 f1 f6 R w) : cachetteref03_Oracle_put.M o1 f5 al bz bp c4 c6 br c1 f1 f6 R w := by
  unfold cachetteref03_Oracle_put.M
  unfold cachetteref03_Oracle_put.N at h
  refine thenW_in fun g6 e8 => ?_
  have a0 := Blk.of_new e8
  have gl := ((Ext.refl no w)).size
  have gb := (Ext.refl no w).x_alloc e8
  have h := h g6 (w.heap.size) gb (Priv.cons gl a0.lt Priv.nil)
  obtain ⟨I0, gc, h0, h⟩ := h
  refine ⟨fun k vs ww => ∃ (bn : Int) (a1 : Int) (a9 : Option Addr) (aa : Nat) (a7 : Nat) (a8 : Option Addr) (ab : Nat) (a6 : Nat) (b2 : Int) (b3 : Int), Blk ww w.heap.size 80 [.int .u64 bn, .int .i64 a1, .slice a9 aa a7, .slice a8 ab a6, .int .u64 b2, .int .u64 b3] ∧ I0 k (vs ++ [.int .u64 bn, .int .i64 a1, .slice a9 aa a7, .slice a8 ab a6, .int .u64 b2, .int .u64 b3]) ww, gc, ⟨f5, al, bz, bp, c4, c6, br, c1, f1, f6, a0, h0⟩, fun gd eh cx hI => ?_⟩
  obtain ⟨bn, a1, a9, aa, a7, a8, ab, a6, b2, b3, a0, hI⟩ := hI
  have h := h gd eh cx bn a1 a9 aa a7 a8 ab a6 b2 b3 hI
  obtain ⟨gs, a3, h⟩ := h
  refine elim_some a3 ?_
  obtain ⟨b6, b8, ba, ea, h⟩ := h
  refine ⟨b6, b8, ba, ea, ?_⟩
  refine bif_of (fun eb => ?_) (fun eb => ?_)
  · have h := h.1 (of_decide_eq_true eb)
    refine bif_of (fun dx => ?_) (fun dx => ?_)
    · have h := h.1 (beq_t dx)
      refine elim_some a3 ?_
      obtain ⟨bg, b4, bl, e0, h⟩ := h
      refine ⟨bg, b4, bl, e0, ?_⟩
      obtain ⟨gq, ei, h⟩ := h
      refine elim_some ei ?_
      obtain ⟨fc, h⟩ := h
      refine ⟨by decide, fc, ?_⟩
      obtain ⟨ga, eq, h⟩ := h
      refine ⟨ga, eq, ?_⟩
      refine elim_some a3 ?_
      obtain ⟨bh, b5, bi, fg, h⟩ := h
      refine ⟨bh, b5, bi, fg, ?_⟩
      obtain ⟨fa, h⟩ := h
      refine ⟨by decide, fa, ?_⟩
      refine elim_some a3 ?_
      obtain ⟨hcs, hof, h⟩ := h
      refine ⟨hcs, thenW_in fun gk fp => ?_⟩
      replace h := thenW_out h fp
      have a0 := a0.off (by rw [block_add]; exact hof _ (by simp)) fp
      obtain ⟨g1, hk, h⟩ := h
      exact ⟨g1, hk, bn, a1, a9, aa, a7, a8, ab, a6, b2, b3, a0, h⟩
    · have h := h.2 (beq_f dx)
      refine h.mono fun gp gi h => ?_
      obtain ⟨cu, he, hk, h⟩ := h
      refine ⟨cu, he, ?_⟩
      have a0 := hk.blk a0 (by simp)
      refine bif_of (fun ek => ?_) (fun ek => ?_)
      · have h := h.1 (of_decide_eq_true ek)
        refine elim_some a3 ?_
        obtain ⟨bk, bc, be, ev, h⟩ := h
        refine ⟨bk, bc, be, ev, ?_⟩
        obtain ⟨gr, dy, h⟩ := h
        refine elim_some dy ?_
        obtain ⟨fc, h⟩ := h
        refine ⟨by decide, fc, ?_⟩
        obtain ⟨g4, fe, h⟩ := h
        refine ⟨g4, fe, ?_⟩
        refine elim_some a3 ?_
        obtain ⟨bb, bf, b7, fo, h⟩ := h
        refine ⟨bb, bf, b7, fo, ?_⟩
        obtain ⟨fa, h⟩ := h
        refine ⟨by decide, fa, ?_⟩
        refine elim_some a3 ?_
        obtain ⟨hcs, hof, h⟩ := h
        refine ⟨hcs, thenW_in fun gn fy => ?_⟩
        replace h := thenW_out h fy
        have a0 := a0.off (by rw [block_add]; exact hof _ (by simp)) fy
        obtain ⟨gm, hk, h⟩ := h
        exact ⟨gm, hk, bn, a1, a9, aa, a7, a8, ab, a6, b2, b3, a0, h⟩
      · have h := h.2 (Int.not_le.1 (of_decide_eq_false ek))
        refine bif_ff dx ?_
        refine h.mono fun ge bu h => ?_
        obtain ⟨cq, he, hk, h⟩ := h
        refine ⟨cq, he, ?_⟩
        have a0 := hk.blk a0 (by simp)
        refine bif_of (fun eo => ?_) (fun eo => ?_)
        · have h := h.1 (of_decide_eq_true eo)
          obtain ⟨I2, g9, h0, h⟩ := h
          refine ⟨fun k vs ww => ∃ (cv : Int) (a5 : Int) (am : Option Addr) (ax : Nat) (ak : Nat) (aq : Option Addr) (ar : Nat) (ay : Nat) (c8 : Int) (bq : Int), Blk ww w.heap.size 80 [.int .u64 cv, .int .i64 a5, .slice am ax ak, .slice aq ar ay, .int .u64 c8, .int .u64 bq] ∧ I2 k (vs ++ [.int .u64 cv, .int .i64 a5, .slice am ax ak, .slice aq ar ay, .int .u64 c8, .int .u64 bq]) ww, g9, ⟨bn, a1, a9, aa, a7, a8, ab, a6, b2, b3, a0, h0⟩, fun g5 es en hI => ?_⟩
          obtain ⟨cv, a5, am, ax, ak, aq, ar, ay, c8, bq, a0, hI⟩ := hI
          have h := h g5 es en cv a5 am ax ak aq ar ay c8 bq hI
          refine h.mono fun gh bw h => ?_
          obtain ⟨dd, he, hk, h⟩ := h
          refine ⟨dd, he, ?_⟩
          have a0 := hk.blk a0 (by simp)
          refine bif_of (fun f7 => ?_) (fun f7 => ?_)
          · have h := h.1 (of_decide_eq_true f7)
            obtain ⟨gj, hk, h⟩ := h
            exact ⟨gj, hk, cv, a5, am, ax, ak, aq, ar, ay, c8, bq, a0, h⟩
          · have h := h.2 (Int.not_le.1 (of_decide_eq_false f7))
            have dz : Ext (fun b => b = w.heap.size) bw bw := ((Ext.refl no bw)).none
            refine ⟨a0.cani 0 rfl rfl, thenW_in fun e5 fv => ?_⟩
            have fj := dz.x_set (q := w.heap.size) (i := 0) rfl (.inl rfl) fv
            have a0 : Blk e5 w.heap.size 80 [.int .u64 en, .int .i64 a5, .slice am ax ak, .slice aq ar ay, .int .u64 c8, .int .u64 bq] := a0.seti 0 rfl fv
            refine thenW_in fun bo fx => ?_
            have ex := fj.x_drew fx
            have a0 := a0.x_drew fx
            refine elim_some a3 ?_
            have h := h bo ex
            obtain ⟨ej, f2, ew, f8, h⟩ := h
            refine ⟨ej, f2, ew, f8, ?_⟩
            refine ⟨en, a5, am, ax, ak, aq, ar, ay, c8, bq, ⟨a0.celli 0 rfl rfl, a0.celli 1 rfl rfl, a0.celli 2 rfl rfl, a0.celli 3 rfl rfl, a0.celli 4 rfl rfl, a0.celli 5 rfl rfl, trivial⟩, ?_⟩
            refine thenW_in fun f0 f9 => ?_
            have h := h f0 bo.heap.size ((Ext.refl no bo).x_alloc f9) (Blk.of_new f9) ((Ext.refl no bo)).size (size_lt_alloc f9)
            obtain ⟨e7, h⟩ := h
            refine ⟨e7, ?_⟩
            obtain ⟨fk, el, e3, ef, hr, h⟩ := h
            refine ⟨fk, el, e3, ef, hr, ?_⟩
            refine elim_some a3 ?_
            obtain ⟨hcs, h⟩ := h
            refine ⟨hcs, thenW_in fun gg g8 => ?_⟩
            replace h := thenW_out h g8
            exact h
        · have h := h.2 (Int.not_le.1 (of_decide_eq_false eo))
          have eu : Ext (fun b => b = w.heap.size) bu bu := ((Ext.refl no bu)).none
          refine ⟨a0.cani 0 rfl rfl, thenW_in fun et ft => ?_⟩
          have fh := eu.x_set (q := w.heap.size) (i := 0) rfl (.inl rfl) ft
          have a0 : Blk et w.heap.size 80 [.int .u64 cx, .int .i64 a1, .slice a9 aa a7, .slice a8 ab a6, .int .u64 b2, .int .u64 b3] := a0.seti 0 rfl ft
          refine thenW_in fun bm fs => ?_
          have em := fh.x_drew fs
          have a0 := a0.x_drew fs
          refine elim_some a3 ?_
          have h := h bm em
          obtain ⟨e4, ff, e2, fm, h⟩ := h
          refine ⟨e4, ff, e2, fm, ?_⟩
          refine ⟨cx, a1, a9, aa, a7, a8, ab, a6, b2, b3, ⟨a0.celli 0 rfl rfl, a0.celli 1 rfl rfl, a0.celli 2 rfl rfl, a0.celli 3 rfl rfl, a0.celli 4 rfl rfl, a0.celli 5 rfl rfl, trivial⟩, ?_⟩
          refine thenW_in fun fi ec => ?_
          have h := h fi bm.heap.size ((Ext.refl no bm).x_alloc ec) (Blk.of_new ec) ((Ext.refl no bm)).size (size_lt_alloc ec)
          obtain ⟨eg, h⟩ := h
          refine ⟨eg, ?_⟩
          obtain ⟨fl, er, ez, f4, hr, h⟩ := h
          refine ⟨fl, er, ez, f4, hr, ?_⟩
          refine elim_some a3 ?_
          obtain ⟨hcs, h⟩ := h
          refine ⟨hcs, thenW_in fun g7 g2 => ?_⟩
          replace h := thenW_out h g2
          exact h
  · have h := h.2 (Int.not_lt.1 (of_decide_eq_false eb))
    refine bif_of (fun ep => ?_) (fun ep => ?_)
    · have h := h.1 (beq_t ep)
      obtain ⟨I2, g3, h0, h⟩ := h
      refine ⟨fun k vs ww => ∃ (dn : Int) (a4 : Int) (aw : Option Addr) (av : Nat) (ai : Nat) (au : Option Addr) (an : Nat) (aj : Nat) (bv : Int) (c7 : Int), Blk ww w.heap.size 80 [.int .u64 dn, .int .i64 a4, .slice aw av ai, .slice au an aj, .int .u64 bv, .int .u64 c7] ∧ I2 k (vs ++ [.int .u64 dn, .int .i64 a4, .slice aw av ai, .slice au an aj, .int .u64 bv, .int .u64 c7]) ww, g3, ⟨bn, a1, a9, aa, a7, a8, ab, a6, b2, b3, a0, h0⟩, fun g0 e9 ed hI => ?_⟩
      obtain ⟨dn, a4, aw, av, ai, au, an, aj, bv, c7, a0, hI⟩ := hI
      have h := h g0 e9 ed dn a4 aw av ai au an aj bv c7 hI
      refine h.mono fun gf c5 h => ?_
      obtain ⟨dk, he, hk, h⟩ := h
      refine ⟨dk, he, ?_⟩
      have a0 := hk.blk a0 (by simp)
      refine bif_of (fun bt => ?_) (fun bt => ?_)
      · have h := h.1 (of_decide_eq_true bt)
        obtain ⟨fd, hk, h⟩ := h
        exact ⟨fd, hk, dn, a4, aw, av, ai, au, an, aj, bv, c7, a0, h⟩
      · have h := h.2 (Int.not_le.1 (of_decide_eq_false bt))
        have ck : Ext (fun b => b = w.heap.size) c5 c5 := ((Ext.refl no c5)).none
        refine ⟨a0.cani 0 rfl rfl, thenW_in fun d4 co => ?_⟩
        have di := ck.x_set (q := w.heap.size) (i := 0) rfl (.inl rfl) co
        have a0 : Blk d4 w.heap.size 80 [.int .u64 ed, .int .i64 a4, .slice aw av ai, .slice au an aj, .int .u64 bv, .int .u64 c7] := a0.seti 0 rfl co
        refine thenW_in fun b1 dm => ?_
        have cd := di.x_drew dm
        have a0 := a0.x_drew dm
        refine elim_some a3 ?_
        have h := h b1 cd
        obtain ⟨d0, cs, dq, df, h⟩ := h
        refine ⟨d0, cs, dq, df, ?_⟩
        refine ⟨ed, a4, aw, av, ai, au, an, aj, bv, c7, ⟨a0.celli 0 rfl rfl, a0.celli 1 rfl rfl, a0.celli 2 rfl rfl, a0.celli 3 rfl rfl, a0.celli 4 rfl rfl, a0.celli 5 rfl rfl, trivial⟩, ?_⟩
        refine thenW_in fun dc c2 => ?_
        have h := h dc b1.heap.size ((Ext.refl no b1).x_alloc c2) (Blk.of_new c2) ((Ext.refl no b1)).size (size_lt_alloc c2)
        obtain ⟨cz, h⟩ := h
        refine ⟨cz, ?_⟩
        obtain ⟨cr, cw, d6, cc, hr, h⟩ := h
        refine ⟨cr, cw, d6, cc, hr, ?_⟩
        refine elim_some a3 ?_
        obtain ⟨hcs, h⟩ := h
        refine ⟨hcs, thenW_in fun fw fb => ?_⟩
        replace h := thenW_out h fb
        exact h
    · have h := h.2 (beq_f ep)
      refine h.mono fun fq b9 h => ?_
      obtain ⟨c0, he, hk, h⟩ := h
      refine ⟨c0, he, ?_⟩
      have a0 := hk.blk a0 (by simp)
      refine bif_of (fun bs => ?_) (fun bs => ?_)
      · have h := h.1 (of_decide_eq_true bs)
        obtain ⟨I2, f3, h0, h⟩ := h
        refine ⟨fun k vs ww => ∃ (bj : Int) (a2 : Int) (ah : Option Addr) (ac : Nat) (ag : Nat) (ad : Option Addr) (af : Nat) (ae : Nat) (ao : Int) (ap : Int), Blk ww w.heap.size 80 [.int .u64 bj, .int .i64 a2, .slice ah ac ag, .slice ad af ae, .int .u64 ao, .int .u64 ap] ∧ I2 k (vs ++ [.int .u64 bj, .int .i64 a2, .slice ah ac ag, .slice ad af ae, .int .u64 ao, .int .u64 ap]) ww, f3, ⟨bn, a1, a9, aa, a7, a8, ab, a6, b2, b3, a0, h0⟩, fun e6 ds bx hI => ?_⟩
        obtain ⟨bj, a2, ah, ac, ag, ad, af, ae, ao, ap, a0, hI⟩ := hI
        have h := h e6 ds bx bj a2 ah ac ag ad af ae ao ap hI
        refine h.mono fun fu bd h => ?_
        obtain ⟨c3, he, hk, h⟩ := h
        refine ⟨c3, he, ?_⟩
        have a0 := hk.blk a0 (by simp)
        refine bif_of (fun c9 => ?_) (fun c9 => ?_)
        · have h := h.1 (of_decide_eq_true c9)
          obtain ⟨ee, hk, h⟩ := h
          exact ⟨ee, hk, bj, a2, ah, ac, ag, ad, af, ae, ao, ap, a0, h⟩
        · have h := h.2 (Int.not_le.1 (of_decide_eq_false c9))
          have dt : Ext (fun b => b = w.heap.size) bd bd := ((Ext.refl no bd)).none
          refine ⟨a0.cani 0 rfl rfl, thenW_in fun cp cf => ?_⟩
          have ch := dt.x_set (q := w.heap.size) (i := 0) rfl (.inl rfl) cf
          have a0 : Blk cp w.heap.size 80 [.int .u64 bx, .int .i64 a2, .slice ah ac ag, .slice ad af ae, .int .u64 ao, .int .u64 ap] := a0.seti 0 rfl cf
          refine thenW_in fun az d8 => ?_
          have cl := ch.x_drew d8
          have a0 := a0.x_drew d8
          refine elim_some a3 ?_
          have h := h az cl
          obtain ⟨dj, ci, d1, dv, h⟩ := h
          refine ⟨dj, ci, d1, dv, ?_⟩
          refine ⟨bx, a2, ah, ac, ag, ad, af, ae, ao, ap, ⟨a0.celli 0 rfl rfl, a0.celli 1 rfl rfl, a0.celli 2 rfl rfl, a0.celli 3 rfl rfl, a0.celli 4 rfl rfl, a0.celli 5 rfl rfl, trivial⟩, ?_⟩
          refine thenW_in fun dw cb => ?_
          have h := h dw az.heap.size ((Ext.refl no az).x_alloc cb) (Blk.of_new cb) ((Ext.refl no az)).size (size_lt_alloc cb)
          obtain ⟨cy, h⟩ := h
          refine ⟨cy, ?_⟩
          obtain ⟨d7, d9, d5, da, hr, h⟩ := h
          refine ⟨d7, d9, d5, da, hr, ?_⟩
          refine elim_some a3 ?_
          obtain ⟨hcs, h⟩ := h
          refine ⟨hcs, thenW_in fun fr ey => ?_⟩
          replace h := thenW_out h ey
          exact h
      · have h := h.2 (Int.not_le.1 (of_decide_eq_false bs))
        have de : Ext (fun b => b = w.heap.size) b9 b9 := ((Ext.refl no b9)).none
        refine ⟨a0.cani 0 rfl rfl, thenW_in fun dp dr => ?_⟩
        have cg := de.x_set (q := w.heap.size) (i := 0) rfl (.inl rfl) dr
        have a0 : Blk dp w.heap.size 80 [.int .u64 cx, .int .i64 a1, .slice a9 aa a7, .slice a8 ab a6, .int .u64 b2, .int .u64 b3] := a0.seti 0 rfl dr
        refine thenW_in fun b0 cn => ?_
        have cm := cg.x_drew cn
        have a0 := a0.x_drew cn
        refine elim_some a3 ?_
        have h := h b0 cm
        obtain ⟨du, dl, cj, dg, h⟩ := h
        refine ⟨du, dl, cj, dg, ?_⟩
        refine ⟨cx, a1, a9, aa, a7, a8, ab, a6, b2, b3, ⟨a0.celli 0 rfl rfl, a0.celli 1 rfl rfl, a0.celli 2 rfl rfl, a0.celli 3 rfl rfl, a0.celli 4 rfl rfl, a0.celli 5 rfl rfl, trivial⟩, ?_⟩
        refine thenW_in fun d2 ca => ?_
        have h := h d2 b0.heap.size ((Ext.refl no b0).x_alloc ca) (Blk.of_new ca) ((Ext.refl no b0)).size (size_lt_alloc ca)
        obtain ⟨ce, h⟩ := h
        refine ⟨ce, ?_⟩
        obtain ⟨ct, dh, d3, db, hr, h⟩ := h
        refine ⟨ct, dh, d3, db, hr, ?_⟩
        refine elim_some a3 ?_
        obtain ⟨hcs, h⟩ := h
        refine ⟨hcs, thenW_in fun fz e1 => ?_⟩
        replace h := thenW_out h e1
        exact h

theorem cachetteref03_Oracle_put.go (o1 : Option Addr) (a7 : Int) (a0 : Int) (a4 : Option Addr) (a3 : Nat) (a2 : Nat) (a5 : Option Addr) (a6 : Nat) (a1 : Nat) (a9 : Int) (a8 : Int) {R : Value → World → Prop} {w : World} (h : cachetteref03_Oracle_put.N o1 a7 a0 a4 a3 a2 a5 a6 a1 a9 a8 R w) : Calls Try.prog 28 #[.pointer o1, .agg #[.int .u64 a7, .int .i64 a0, .slice a4 a3 a2, .slice a5 a6 a1, .int .u64 a9, .int .u64 a8]] w fun e w' => ∃ v, e = .returned v ∧ R v w' := cachetteref03_Oracle_put.ok o1 a7 a0 a4 a3 a2 a5 a6 a1 a9 a8 (cachetteref03_Oracle_put.up o1 a7 a0 a4 a3 a2 a5 a6 a1 a9 a8 h)
/-- (*cachetteref03.Oracle).is -/
def cachetteref03_Oracle_is.M (o1 : Option Addr) (h2 : Int) (bo : Int) (R : Value → World → Prop) (w : World) : Prop :=
 thenW (w.alloc (.cells #[.int .u64 0, .int .i64 0, .slice none 0 0, .slice none 0 0, .int .u64 0, .int .u64 0] 80)) fun c4 =>
 Calls Try.prog 46 #[.pointer o1, .int .u64 h2] c4 fun c1 az => ∃ (a3 : Int), c1 = .returned (.int .i64 a3) ∧
 bif decide (a3 < 0) then (
 canStore az ((blk w.heap.size).add 0) ∧
 thenW (az.setCell ((blk w.heap.size).add 0) (.int .u64 0)) fun bx =>
 canStore bx ((blk w.heap.size).add 1) ∧
 thenW (bx.setCell ((blk w.heap.size).add 1) (.int .i64 0)) fun bw =>
 canStore bw ((blk w.heap.size).add 2) ∧
 thenW (bw.setCell ((blk w.heap.size).add 2) (.slice none 0 0)) fun bb =>
 canStore bb ((blk w.heap.size).add 3) ∧
 thenW (bb.setCell ((blk w.heap.size).add 3) (.slice none 0 0)) fun bd =>
 canStore bd ((blk w.heap.size).add 4) ∧
 thenW (bd.setCell ((blk w.heap.size).add 4) (.int .u64 0)) fun bh =>
 canStore bh ((blk w.heap.size).add 5) ∧
 thenW (bh.setCell ((blk w.heap.size).add 5) (.int .u64 0)) fun be =>
 ∃ (ay : Int) (a2 : Int) (a4 : Option Addr) (al : Nat) (ag : Nat) (ac : Option Addr) (am : Nat) (a9 : Nat) (ar : Int) (aq : Int), cellsAt be (blk w.heap.size) [.int .u64 ay, .int .i64 a2, .slice a4 al ag, .slice ac am a9, .int .u64 ar, .int .u64 aq] 0 ∧
 R (.tuple #[.agg #[.int .u64 ay, .int .i64 a2, .slice a4 al ag, .slice ac am a9, .int .u64 ar, .int .u64 aq], .bool false]) be) else (
 o1.elim False fun c0 =>
 ∃ (bp : Option Addr) (b7 : Nat) (bv : Nat), az.cell? (c0.add 1) = some (.slice bp b7 bv) ∧
 bp.elim False fun bz =>
 0 ≤ (a3 : Int) ∧ (a3 : Int) < (b7 : Int) ∧
 ∃ (ax : Int), az.cell? ((bz.add (Int.toNat a3 * 6)).add 1) = some (.int .i64 ax) ∧
 bif ax != bo then (
 canStore az ((blk w.heap.size).add 0) ∧
 thenW (az.setCell ((blk w.heap.size).add 0) (.int .u64 0)) fun bs =>
 canStore bs ((blk w.heap.size).add 1) ∧
 thenW (bs.setCell ((blk w.heap.size).add 1) (.int .i64 0)) fun bf =>
 canStore bf ((blk w.heap.size).add 2) ∧
 thenW (bf.setCell ((blk w.heap.size).add 2) (.slice none 0 0)) fun bc =>
 canStore bc ((blk w.heap.size).add 3) ∧
 thenW (bc.setCell ((blk w.heap.size).add 3) (.slice none 0 0)) fun b8 =>
 canStore b8 ((blk w.heap.size).add 4) ∧
 thenW (b8.setCell ((blk w.heap.size).add 4) (.int .u64 0)) fun bg =>
 canStore bg ((blk w.heap.size).add 5) ∧
 thenW (bg.setCell ((blk w.heap.size).add 5) (.int .u64 0)) fun bq =>
 ∃ (an : Int) (a1 : Int) (a8 : Option Addr) (a7 : Nat) (aa : Nat) (a6 : Option Addr) (ak : Nat) (ae : Nat) (ap : Int) (aw : Int), cellsAt bq (blk w.heap.size) [.int .u64 an, .int .i64 a1, .slice a8 a7 aa, .slice a6 ak ae, .int .u64 ap, .int .u64 aw] 0 ∧
 R (.tuple #[.agg #[.int .u64 an, .int .i64 a1, .slice a8 a7 aa, .slice a6 ak ae, .int .u64 ap, .int .u64 aw], .bool false]) bq) else (
 o1.elim False fun c2 =>
 ∃ (bt : Option Addr) (bi : Nat) (bu : Nat), az.cell? (c2.add 1) = some (.slice bt bi bu) ∧
 bt.elim False fun c3 =>
 0 ≤ (a3 : Int) ∧ (a3 : Int) < (bi : Int) ∧
 ∃ (b6 : Int) (ad : Int) (b0 : Option Addr) (b5 : Nat) (b3 : Nat) (b2 : Option Addr) (b1 : Nat) (b4 : Nat) (bj : Int) (br : Int), cellsAt az (c3.add (Int.toNat a3 * 6)) [.int .u64 b6, .int .i64 ad, .slice b0 b5 b3, .slice b2 b1 b4, .int .u64 bj, .int .u64 br] 0 ∧
 canStore az ((blk w.heap.size).add 0) ∧
 thenW (az.setCell ((blk w.heap.size).add 0) (.int .u64 b6)) fun bl =>
 canStore bl ((blk w.heap.size).add 1) ∧
 thenW (bl.setCell ((blk w.heap.size).add 1) (.int .i64 ad)) fun bm =>
 canStore bm ((blk w.heap.size).add 2) ∧
 thenW (bm.setCell ((blk w.heap.size).add 2) (.slice b0 b5 b3)) fun bn =>
 canStore bn ((blk w.heap.size).add 3) ∧
 thenW (bn.setCell ((blk w.heap.size).add 3) (.slice b2 b1 b4)) fun b9 =>
 canStore b9 ((blk w.heap.size).add 4) ∧
 thenW (b9.setCell ((blk w.heap.size).add 4) (.int .u64 bj)) fun ba =>
 canStore ba ((blk w.heap.size).add 5) ∧
 thenW (ba.setCell ((blk w.heap.size).add 5) (.int .u64 br)) fun bk =>
 ∃ (ao : Int) (a0 : Int) (ai : Option Addr) (af : Nat) (aj : Nat) (a5 : Option Addr) (ab : Nat) (ah : Nat) (au : Int) (av : Int), cellsAt bk (blk w.heap.size) [.int .u64 ao, .int .i64 a0, .slice ai af aj, .slice a5 ab ah, .int .u64 au, .int .u64 av] 0 ∧
 R (.tuple #[.agg #[.int .u64 ao, .int .i64 a0, .slice ai af aj, .slice a5 ab ah, .int .u64 au, .int .u64 av], .bool true]) bk))

theorem cachetteref03_Oracle_is.eq (o1 : Option Addr) (h2 : Int) (kind3 : Int) (R : Value → World → Prop) (w : World) : mfunc Try.prog [] 75 [.pointer o1, .int .u64 h2, .int .i64 kind3] R w = cachetteref03_Oracle_is.M o1 h2 kind3 R w := by kernel_rfl
theorem cachetteref03_Oracle_is.ok (o1 : Option Addr) (h2 : Int) (a0 : Int) {R : Value → World → Prop} {w : World} (h : cachetteref03_Oracle_is.M o1 h2 a0 R w) : Calls Try.prog 75 #[.pointer o1, .int .u64 h2, .int .i64 a0] w fun e w' => ∃ v, e = .returned v ∧ R v w' :=
  mfunc_ok follows (H := []) (args := [.pointer o1, .int .u64 h2, .int .i64 a0]) (by rw [cachetteref03_Oracle_is.eq]; exact h)

def cachetteref03_Oracle_is.N (o1 : Option Addr) (h2 : Int) (a6 : Int) (R : Value → World → Prop) (w : World) : Prop :=
 ∀ (al : World) (p5 : Nat), Ext no w al → Priv w al [p5] →
 Calls Try.prog 46 #[.pointer o1, .int .u64 h2] al fun ar aa => ∃ (a0 : Int), ar = .returned (.int .i64 a0) ∧
 Keep [p5] al aa ∧
 (a0 < 0 →
 ∀ (aj : World), Ext (fun b => b = p5) aa aj →
 R (.tuple #[.agg #[.int .u64 0, .int .i64 0, .slice none 0 0, .slice none 0 0, .int .u64 0, .int .u64 0], .bool false]) aj) ∧
 ((0 : Int) ≤ a0 →
 ∃ ao : Addr, o1 = some ao ∧
 ∃ (ak : Option Addr) (ac : Nat) (an : Nat), aa.cell? (ao.add 1) = some (.slice ak ac an) ∧
 ∃ ap : Addr, ak = some ap ∧
 0 ≤ (a0 : Int) ∧ (a0 : Int) < (ac : Int) ∧
 ∃ (a1 : Int), aa.cell? ((ap.add (Int.toNat a0 * 6)).add 1) = some (.int .i64 a1) ∧
 (a1 ≠ a6 →
 ∀ (ai : World), Ext (fun b => b = p5) aa ai →
 R (.tuple #[.agg #[.int .u64 0, .int .i64 0, .slice none 0 0, .slice none 0 0, .int .u64 0, .int .u64 0], .bool false]) ai) ∧
 (a1 = a6 →
 ∃ (ad : Option Addr) (ab : Nat) (am : Nat), aa.cell? (ao.add 1) = some (.slice ad ab am) ∧
 ∃ aq : Addr, ad = some aq ∧
 0 ≤ (a0 : Int) ∧ (a0 : Int) < (ab : Int) ∧
 ∃ (ae : Int) (a2 : Int) (a4 : Option Addr) (a3 : Nat) (a5 : Nat) (a7 : Option Addr) (a9 : Nat) (a8 : Nat) (ah : Int) (ag : Int), cellsAt aa (aq.add (Int.toNat a0 * 6)) [.int .u64 ae, .int .i64 a2, .slice a4 a3 a5, .slice a7 a9 a8, .int .u64 ah, .int .u64 ag] 0 ∧
 ∀ (af : World), Ext (fun b => b = p5) aa af →
 R (.tuple #[.agg #[.int .u64 ae, .int .i64 a2, .slice a4 a3 a5, .slice a7 a9 a8, .int .u64 ah, .int .u64 ag], .bool true]) af))

theorem cachetteref03_Oracle_is.up (o1 : Option Addr) (h2 : Int) (ab : Int) {R : Value → World → Prop} {w : World} (h : cachetteref03_Oracle_is.N o1 h2 ab R w) : cachetteref03_Oracle_is.M o1 h2 ab R w := by
  unfold cachetteref03_Oracle_is.M
  unfold cachetteref03_Oracle_is.N at h
  refine thenW_in fun ck e4 => ?_
  have a0 := Blk.of_new e4
  have cm := ((Ext.refl no w)).size
  have cl := (Ext.refl no w).x_alloc e4
  have h := h ck (w.heap.size) cl (Priv.cons cm a0.lt Priv.nil)
  refine h.mono fun co a9 h => ?_
  obtain ⟨bg, he, hk, h⟩ := h
  refine ⟨bg, he, ?_⟩
  have a0 := hk.blk a0 (by simp)
  refine bif_of (fun c9 => ?_) (fun c9 => ?_)
  · have h := h.1 (of_decide_eq_true c9)
    have ao : Ext (fun b => b = w.heap.size) a9 a9 := ((Ext.refl no a9)).none
    refine ⟨a0.cani 0 rfl rfl, thenW_in fun bo c2 => ?_⟩
    have ar := ao.x_set (q := w.heap.size) (i := 0) rfl (.inl rfl) c2
    have a0 : Blk bo w.heap.size 80 [.int .u64 0, .int .i64 0, .slice none 0 0, .slice none 0 0, .int .u64 0, .int .u64 0] := a0.seti 0 rfl c2
    refine ⟨a0.cani 1 rfl rfl, thenW_in fun al c7 => ?_⟩
    have bt := ar.x_set (q := w.heap.size) (i := 1) rfl (.inl rfl) c7
    have a0 : Blk al w.heap.size 80 [.int .u64 0, .int .i64 0, .slice none 0 0, .slice none 0 0, .int .u64 0, .int .u64 0] := a0.seti 1 rfl c7
    refine ⟨a0.cani 2 rfl rfl, thenW_in fun br cj => ?_⟩
    have bv := bt.x_set (q := w.heap.size) (i := 2) rfl (.inl rfl) cj
    have a0 : Blk br w.heap.size 80 [.int .u64 0, .int .i64 0, .slice none 0 0, .slice none 0 0, .int .u64 0, .int .u64 0] := a0.seti 2 rfl cj
    refine ⟨a0.cani 3 rfl rfl, thenW_in fun bp cb => ?_⟩
    have bs := bv.x_set (q := w.heap.size) (i := 3) rfl (.inl rfl) cb
    have a0 : Blk bp w.heap.size 80 [.int .u64 0, .int .i64 0, .slice none 0 0, .slice none 0 0, .int .u64 0, .int .u64 0] := a0.seti 3 rfl cb
    refine ⟨a0.cani 4 rfl rfl, thenW_in fun ai ca => ?_⟩
    have b9 := bs.x_set (q := w.heap.size) (i := 4) rfl (.inl rfl) ca
    have a0 : Blk ai w.heap.size 80 [.int .u64 0, .int .i64 0, .slice none 0 0, .slice none 0 0, .int .u64 0, .int .u64 0] := a0.seti 4 rfl ca
    refine ⟨a0.cani 5 rfl rfl, thenW_in fun af cd => ?_⟩
    have b6 := b9.x_set (q := w.heap.size) (i := 5) rfl (.inl rfl) cd
    have a0 : Blk af w.heap.size 80 [.int .u64 0, .int .i64 0, .slice none 0 0, .slice none 0 0, .int .u64 0, .int .u64 0] := a0.seti 5 rfl cd
    refine ⟨0, 0, none, 0, 0, none, 0, 0, 0, 0, ⟨a0.celli 0 rfl rfl, a0.celli 1 rfl rfl, a0.celli 2 rfl rfl, a0.celli 3 rfl rfl, a0.celli 4 rfl rfl, a0.celli 5 rfl rfl, trivial⟩, ?_⟩
    have h := h af b6
    exact h
  · have h := h.2 (Int.not_lt.1 (of_decide_eq_false c9))
    obtain ⟨cq, ah, h⟩ := h
    refine elim_some ah ?_
    obtain ⟨au, av, be, b3, h⟩ := h
    refine ⟨au, av, be, b3, ?_⟩
    obtain ⟨cp, aw, h⟩ := h
    refine elim_some aw ?_
    obtain ⟨bk, bm, h⟩ := h
    refine ⟨bk, bm, ?_⟩
    obtain ⟨ad, bw, h⟩ := h
    refine ⟨ad, bw, ?_⟩
    refine bif_of (fun bu => ?_) (fun bu => ?_)
    · have h := h.1 (bne_t bu)
      have ax : Ext (fun b => b = w.heap.size) a9 a9 := ((Ext.refl no a9)).none
      refine ⟨a0.cani 0 rfl rfl, thenW_in fun b4 c1 => ?_⟩
      have bb := ax.x_set (q := w.heap.size) (i := 0) rfl (.inl rfl) c1
      have a0 : Blk b4 w.heap.size 80 [.int .u64 0, .int .i64 0, .slice none 0 0, .slice none 0 0, .int .u64 0, .int .u64 0] := a0.seti 0 rfl c1
      refine ⟨a0.cani 1 rfl rfl, thenW_in fun ba c5 => ?_⟩
      have bn := bb.x_set (q := w.heap.size) (i := 1) rfl (.inl rfl) c5
      have a0 : Blk ba w.heap.size 80 [.int .u64 0, .int .i64 0, .slice none 0 0, .slice none 0 0, .int .u64 0, .int .u64 0] := a0.seti 1 rfl c5
      refine ⟨a0.cani 2 rfl rfl, thenW_in fun bq cf => ?_⟩
      have bf := bn.x_set (q := w.heap.size) (i := 2) rfl (.inl rfl) cf
      have a0 : Blk bq w.heap.size 80 [.int .u64 0, .int .i64 0, .slice none 0 0, .slice none 0 0, .int .u64 0, .int .u64 0] := a0.seti 2 rfl cf
      refine ⟨a0.cani 3 rfl rfl, thenW_in fun b2 c8 => ?_⟩
      have am := bf.x_set (q := w.heap.size) (i := 3) rfl (.inl rfl) c8
      have a0 : Blk b2 w.heap.size 80 [.int .u64 0, .int .i64 0, .slice none 0 0, .slice none 0 0, .int .u64 0, .int .u64 0] := a0.seti 3 rfl c8
      refine ⟨a0.cani 4 rfl rfl, thenW_in fun bl ci => ?_⟩
      have b7 := am.x_set (q := w.heap.size) (i := 4) rfl (.inl rfl) ci
      have a0 : Blk bl w.heap.size 80 [.int .u64 0, .int .i64 0, .slice none 0 0, .slice none 0 0, .int .u64 0, .int .u64 0] := a0.seti 4 rfl ci
      refine ⟨a0.cani 5 rfl rfl, thenW_in fun ae c6 => ?_⟩
      have az := b7.x_set (q := w.heap.size) (i := 5) rfl (.inl rfl) c6
      have a0 : Blk ae w.heap.size 80 [.int .u64 0, .int .i64 0, .slice none 0 0, .slice none 0 0, .int .u64 0, .int .u64 0] := a0.seti 5 rfl c6
      refine ⟨0, 0, none, 0, 0, none, 0, 0, 0, 0, ⟨a0.celli 0 rfl rfl, a0.celli 1 rfl rfl, a0.celli 2 rfl rfl, a0.celli 3 rfl rfl, a0.celli 4 rfl rfl, a0.celli 5 rfl rfl, trivial⟩, ?_⟩
      have h := h ae az
      exact h
    · have h := h.2 (bne_f bu)
      refine elim_some ah ?_
      obtain ⟨ay, bc, bj, bz, h⟩ := h
      refine ⟨ay, bc, bj, bz, ?_⟩
      obtain ⟨cn, ap, h⟩ := h
      refine elim_some ap ?_
      obtain ⟨bk, bm, h⟩ := h
      refine ⟨bk, bm, ?_⟩
      obtain ⟨a5, a1, a4, a2, a3, a6, a8, a7, aa, ac, aq, h⟩ := h
      refine ⟨a5, a1, a4, a2, a3, a6, a8, a7, aa, ac, aq, ?_⟩
      have bh : Ext (fun b => b = w.heap.size) a9 a9 := ((Ext.refl no a9)).none
      refine ⟨a0.cani 0 rfl rfl, thenW_in fun b8 c4 => ?_⟩
      have bd := bh.x_set (q := w.heap.size) (i := 0) rfl (.inl rfl) c4
      have a0 : Blk b8 w.heap.size 80 [.int .u64 a5, .int .i64 0, .slice none 0 0, .slice none 0 0, .int .u64 0, .int .u64 0] := a0.seti 0 rfl c4
      refine ⟨a0.cani 1 rfl rfl, thenW_in fun b1 c3 => ?_⟩
      have bx := bd.x_set (q := w.heap.size) (i := 1) rfl (.inl rfl) c3
      have a0 : Blk b1 w.heap.size 80 [.int .u64 a5, .int .i64 a1, .slice none 0 0, .slice none 0 0, .int .u64 0, .int .u64 0] := a0.seti 1 rfl c3
      refine ⟨a0.cani 2 rfl rfl, thenW_in fun c0 cc => ?_⟩
      have b5 := bx.x_set (q := w.heap.size) (i := 2) rfl (.inl rfl) cc
      have a0 : Blk c0 w.heap.size 80 [.int .u64 a5, .int .i64 a1, .slice a4 a2 a3, .slice none 0 0, .int .u64 0, .int .u64 0] := a0.seti 2 rfl cc
      refine ⟨a0.cani 3 rfl rfl, thenW_in fun an ce => ?_⟩
      have bi := b5.x_set (q := w.heap.size) (i := 3) rfl (.inl rfl) ce
      have a0 : Blk an w.heap.size 80 [.int .u64 a5, .int .i64 a1, .slice a4 a2 a3, .slice a6 a8 a7, .int .u64 0, .int .u64 0] := a0.seti 3 rfl ce
      refine ⟨a0.cani 4 rfl rfl, thenW_in fun b0 ch => ?_⟩
      have aj := bi.x_set (q := w.heap.size) (i := 4) rfl (.inl rfl) ch
      have a0 : Blk b0 w.heap.size 80 [.int .u64 a5, .int .i64 a1, .slice a4 a2 a3, .slice a6 a8 a7, .int .u64 aa, .int .u64 0] := a0.seti 4 rfl ch
      refine ⟨a0.cani 5 rfl rfl, thenW_in fun ag cg => ?_⟩
      have ak := aj.x_set (q := w.heap.size) (i := 5) rfl (.inl rfl) cg
      have a0 : Blk ag w.heap.size 80 [.int .u64 a5, .int .i64 a1, .slice a4 a2 a3, .slice a6 a8 a7, .int .u64 aa, .int .u64 ac] := a0.seti 5 rfl cg
      refine ⟨a5, a1, a4, a2, a3, a6, a8, a7, aa, ac, ⟨a0.celli 0 rfl rfl, a0.celli 1 rfl rfl, a0.celli 2 rfl rfl, a0.celli 3 rfl rfl, a0.celli 4 rfl rfl, a0.celli 5 rfl rfl, trivial⟩, ?_⟩
      have h := h ag ak
      exact h

theorem cachetteref03_Oracle_is.go (o1 : Option Addr) (h2 : Int) (a0 : Int) {R : Value → World → Prop} {w : World} (h : cachetteref03_Oracle_is.N o1 h2 a0 R w) : Calls Try.prog 75 #[.pointer o1, .int .u64 h2, .int .i64 a0] w fun e w' => ∃ v, e = .returned v ∧ R v w' := cachetteref03_Oracle_is.ok o1 h2 a0 (cachetteref03_Oracle_is.up o1 h2 a0 h)
theorem inf80 : (Try.prog.info? 80).map (fun i => (i.zero, i.size, i.bytes)) = some (some (.agg #[.int .u64 0, .int .i64 0, .slice none 0 0, .slice none 0 0, .int .u64 0, .int .u64 0]), 6, 80) := by kernel_rfl
/-- a row. -/
structure RRow where
  h : Int
  kind : Int
  A : List UInt8
  B : List UInt8
  n : Int
  m : Int
/-- a row, and where its bytes lie. -/
structure PR where
  r : RRow
  aA : Option Addr
  cA : Nat
  aB : Option Addr
  cB : Nat
def PR.C (x : PR) : List Value := [.int .u64 x.r.h, .int .i64 x.r.kind, .slice x.aA x.r.A.length x.cA, .slice x.aB x.r.B.length x.cB, .int .u64 x.r.n, .int .u64 x.r.m]
def PR.ok (w : World) (o : Own) (x : PR) : Prop := Row w o x.aA (bytesV x.r.A) ∧ Row w o x.aB (bytesV x.r.B) ∧ x.r.A.length ≤ x.cA ∧ x.r.B.length ≤ x.cB
def PR.Cs (R : List PR) : List Value := R.flatMap PR.C
structure ROrcP (w : World) (o : Own) (k : Nat) (d : List Int) (R : List PR) : Prop where
  tk : o k = some k
  at_ : ∃ da dc la lc, Blk w k 31 [.slice da d.length dc, .slice la R.length lc] ∧ d.length ≤ dc ∧ Row w o da (d.map u64V) ∧ Grows 80 6 w o k la R.length lc (PR.Cs R) ∧ (∀ ad, la = some ad → ad.block ≠ k)
  rows : ∀ x ∈ R, x.ok w o
def ROrc (w : World) (o : Own) (k : Nat) (d : List Int) (L : List RRow) : Prop := ∃ R, L = R.map PR.r ∧ ROrcP w o k d R
theorem PR.Cs_length (R : List PR) : (PR.Cs R).length = R.length * 6 := by
  induction R with
  | nil => rfl
  | cons x r ih => simp only [PR.Cs, List.flatMap_cons, List.length_append, List.length_cons] at ih ⊢; rw [ih]; simp [PR.C]; omega
theorem PR.Cs_get : ∀ {R : List PR} {i : Nat} {x : PR}, R[i]? = some x → ∀ j, j < 6 → (PR.Cs R)[i * 6 + j]? = x.C[j]?
  | [], i, x, hi, j, hj => by simp at hi
  | a :: r, 0, x, hi, j, hj => by
    simp only [List.getElem?_cons_zero, Option.some.injEq] at hi
    subst hi
    simp only [PR.Cs, List.flatMap_cons, Nat.zero_mul, Nat.zero_add]
    rw [List.getElem?_append_left (by simp [PR.C]; omega)]
  | a :: r, i + 1, x, hi, j, hj => by
    simp only [List.getElem?_cons_succ] at hi
    have := PR.Cs_get hi j hj
    simp only [PR.Cs, List.flatMap_cons] at this ⊢
    rw [List.getElem?_append_right (by simp [PR.C]; omega), show (i + 1) * 6 + j - a.C.length = i * 6 + j by simp [PR.C]; omega]
    exact this
theorem PR.one (x : PR) : ∀ u ∈ x.C, u.oneCell' = true := fun u hu => by
  simp only [PR.C, List.mem_cons, List.not_mem_nil, or_false] at hu
  rcases hu with rfl | rfl | rfl | rfl | rfl | rfl <;> rfl
section
variable {w w' : World} {o o' : Own} {k : Nat} {K : Nat → Prop} {d : List Int} {R : List PR} {L : List RRow}
theorem PR.ok.step {x : PR} (h : x.ok w o) (s : Step K w o w' o') : x.ok w' o' := ⟨h.1.step s, h.2.1.step s, h.2.2⟩
theorem ROrcP.lt (h : ROrcP w o k d R) : k < w.heap.size := by obtain ⟨da, dc, la, lc, hb, _⟩ := h.at_; exact hb.lt
theorem ROrcP.step (h : ROrcP w o k d R) (s : Step K w o w' o') (hk : ¬ K k) : ROrcP w' o' k d R := by
  obtain ⟨da, dc, la, lc, h1, h2, h3, h4, h5⟩ := h.at_
  exact ⟨by rw [s.own h.lt]; exact h.tk, ⟨da, dc, la, lc, s.blk h1 h.tk hk, h2, h3.step s, h4.step s hk, h5⟩, fun x hx => (h.rows x hx).step s⟩
theorem ROrc.step (h : ROrc w o k d L) (s : Step K w o w' o') (hk : ¬ K k) : ROrc w' o' k d L := by
  obtain ⟨R, h1, h2⟩ := h; exact ⟨R, h1, h2.step s hk⟩
theorem ROrc.lt (h : ROrc w o k d L) : k < w.heap.size := by obtain ⟨R, _, h⟩ := h; exact h.lt
theorem ROrc.own (h : ROrc w o k d L) : o k = some k := by obtain ⟨R, _, h⟩ := h; exact h.tk
/-- where a handle stands. -/
def atI (L : List RRow) (h : Int) : Int := match L.findIdx? (fun r => r.h == h) with | some i => i | none => -1
theorem row_cell {la : Option Addr} {ad : Addr} (hr : RowAt w la (PR.Cs R)) (ha : la = some ad) {i : Nat} {x : PR} (hi : R[i]? = some x) {j : Nat} {v : Value} (hv : x.C[j]? = some v) : w.cell? ((ad.add (i * 6)).add j) = some v := by
  have hj : j < 6 := by have := (List.getElem?_eq_some_iff.1 hv).1; simpa [PR.C] using this
  subst ha
  rw [add_add]
  exact hr.at_ ((PR.Cs_get hi j hj).trans hv)
theorem Cs_ne (h : R ≠ []) : PR.Cs R ≠ [] := fun e => by
  have := PR.Cs_length R
  rw [e] at this
  simp at this
  exact h (List.eq_nil_of_length_eq_zero (by omega))
theorem at_spec (h : ROrcP w o k d R) (hl : R.length < 1000000) (x : Int) :
    Calls Try.prog 46 #[.pointer (some (blk k)), .int .u64 x] w (Ret (.int .i64 (atI (R.map PR.r) x)) fun w' => w' = w) := by
  refine cachetteref03_Oracle_at.run _ _ ?_
  unfold cachetteref03_Oracle_at.N
  obtain ⟨da, dc, la, lc, h1, h2, h3, h4, h5⟩ := h.at_
  refine ⟨fun q vs w1 => ∃ t : Nat, vs = [.int .i64 t] ∧ q + t = R.length ∧ (∀ y ∈ R.take t, y.r.h ≠ x) ∧ w1 = w, R.length, ⟨0, rfl, rfl, by simp, rfl⟩, ?_⟩
  rintro q w1 i ⟨t, hi, hq, hn, rfl⟩
  simp only [List.cons.injEq, Value.int.injEq, true_and, and_true] at hi
  subst hi
  refine ⟨_, rfl, la, R.length, lc, h1.cella (i := 1) rfl, fun ht => ?_, fun ht => ?_⟩
  · have htl : t < R.length := by omega
    have hne : R ≠ [] := by intro e; subst e; simp at htl
    obtain ⟨ad, ha⟩ := h4.row.addr (Cs_ne hne)
    have hg : R[t]? = some R[t] := List.getElem?_eq_getElem htl
    refine ⟨la, R.length, lc, h1.cella (i := 1) rfl, ad, ha, by omega, by omega, R[t].r.h, by rw [Int.toNat_natCast]; exact row_cell h4.row ha hg (j := 0) rfl, fun he => ?_, fun he => ?_⟩
    · refine ⟨?_, rfl⟩
      have : (R.map PR.r).findIdx? (fun r => r.h == x) = some t := by
        rw [List.findIdx?_eq_some_iff_getElem]
        refine ⟨by simpa using htl, by simpa using he, fun j hj => ?_⟩
        have := hn R[j] (List.mem_take_iff_getElem.2 ⟨j, by omega, rfl⟩)
        simpa using this
      unfold atI
      rw [this]
    · refine ⟨by omega, by omega, q - 1, by omega, t + 1, rfl, by omega, fun y hy => ?_, rfl⟩
      rw [List.take_add_one, hg] at hy
      rcases List.mem_append.1 hy with hy | hy
      · exact hn y hy
      · simp at hy; rw [hy]; exact he
  · obtain rfl : t = R.length := by omega
    rw [List.take_length] at hn
    refine ⟨?_, rfl⟩
    have : (R.map PR.r).findIdx? (fun r => r.h == x) = none := by
      rw [List.findIdx?_eq_none_iff]
      intro r hr
      obtain ⟨y, hy, rfl⟩ := List.mem_map.1 hr
      simpa using hn y hy
    unfold atI
    rw [this]
theorem atI_mem (L : List RRow) (x : Int) : 0 ≤ atI L x ↔ x ∈ L.map RRow.h := by
  unfold atI
  cases h : L.findIdx? (fun r => r.h == x) with
  | some i =>
    rw [List.findIdx?_eq_some_iff_getElem] at h
    obtain ⟨h1, h2, _⟩ := h
    simp only [Int.natCast_nonneg, true_iff]
    exact List.mem_map.2 ⟨L[i], List.getElem_mem h1, by simpa using h2⟩
  | none =>
    rw [List.findIdx?_eq_none_iff] at h
    constructor
    · intro h; exact absurd h (by show ¬ (0 : Int) ≤ -1; decide)
    · intro hm
      obtain ⟨r, hr, rfl⟩ := List.mem_map.1 hm
      have := h r hr
      simp at this
/-- a fresh handle, and the draws that are left. -/
def freshR (d used : List Int) : Int × List Int := match pickD d used with | some q => q | none => (pickN used (used.length + 1) 1, [])
/-- what is left of put, once the handle is found. -/
def putTail (RR : Value → World → Prop) (w : World) (p : Nat) (a : Addr) (h kind : Int) (aA : Option Addr) (nA cA : Nat) (aB : Option Addr) (nB cB : Nat) (n m : Int) : Prop :=
  ∀ (w67 : World), Ext (fun b => b = p) w w67 →
  ∃ (La : Option Addr) (Ln : Nat) (Lc : Nat), w67.cell? (a.add 1) = some (.slice La Ln Lc) ∧
  ∀ (w70 : World) (q : Nat), Ext no w67 w70 → Blk w70 q 80 [.int .u64 h, .int .i64 kind, .slice aA nA cA, .slice aB nB cB, .int .u64 n, .int .u64 m] → w67.heap.size ≤ q → q < w70.heap.size →
  w70.cell? (a.add 1) = some (.slice La Ln Lc) ∧
  ∃ (a73a : Option Addr) (a73n : Nat) (a73c : Nat) (w74 : World), (Builtin.append_ #[29, 29] 29 #[.slice La Ln Lc, .slice (some (blk q)) 1 1]).run Try.prog w70 = .ok (.slice a73a a73n a73c) w74 ∧
  canStore w74 ((a.add 1).add 0) ∧
  thenW (w74.setCell ((a.add 1).add 0) (.slice a73a a73n a73c)) fun w75 =>
  RR (.int .u64 h) w75
theorem tail_ok {w0 : World} {o0 : Own} {p : Nat} (h : ROrcP w o k d R) (s : Step (fun j => j = k) w0 o0 w o) (hl : R.length < 1000000) (hp : w0.heap.size ≤ p) (hp' : o p = some p) (hpk : p ≠ k) (x : PR) (hx : x.ok w o) :
    putTail (fun v w' => ∃ o', v = .int .u64 x.r.h ∧ Step (fun j => j = k) w0 o0 w' o' ∧ ROrc w' o' k d (R.map PR.r ++ [x.r])) w p (blk k) x.r.h x.r.kind x.aA x.r.A.length x.cA x.aB x.r.B.length x.cB x.r.n x.r.m := by
  intro w67 X67
  obtain ⟨o67, s67⟩ := Step.store1 X67 s.ok hp'
  have h67 := h.step s67 (fun e => hpk e.symm)
  have s067 := s.trans' s67 fun j hj => .inr (by omega)
  have hx67 := hx.step s67
  obtain ⟨da, dc, la, lc, h1, h2, h3, h4, h5⟩ := h67.at_
  refine ⟨la, R.length, lc, h1.cella (i := 1) rfl, fun w70 q X70 hq hq1 hq2 => ?_⟩
  have s70 := Step.of_no X70 s067.ok
  have h70 := h67.step s70 id
  have s070 := s067.trans s70.none
  have hx70 := hx67.step s70
  obtain ⟨i, hi, hz, hsz, hby⟩ := info_of inf80
  have hb70 := s70.blk h1 h67.tk id
  obtain ⟨a', c', w74, o74, hr, s74, g74, hkeep, hblk⟩ := (h4.step s70 id).push (ty := 29) Try.underlying29 hi hz hsz hby rfl (by decide) s070.ok h70.lt (xa := some (blk q)) (m := 1) (xc := 1) (news := x.C) rfl (RowAt.of_blk hq) x.one (by omega) (by omega)
  have hb74 : Blk w74 k 31 [.slice da d.length dc, .slice la R.length lc] := by
    unfold Blk at hb70 ⊢
    rw [hkeep k h70.lt fun ad ha e => h5 ad ha e.symm]; exact hb70
  have s074 := s070.trans s74
  refine ⟨hb70.cella (i := 1) rfl, a', _, c', w74, hr, hb74.cana (i := 1) rfl, thenW_in fun w75 e75 => ?_⟩
  have X75 : Ext (fun b => b = k) w74 w75 := (Ext.refl (fun b => b = k) w74).x_set (q := k) (i := 1) rfl (.inl rfl) e75
  have tk74 : o74 k = some k := (s74.own h70.lt).trans h70.tk
  obtain ⟨o75, s75⟩ := Step.store1 X75 s74.ok tk74
  have hk74 : k < w74.heap.size := Nat.lt_of_lt_of_le h70.lt s74.size
  have hne : ∀ ad, a' = some ad → ad.block ≠ k := fun ad ha e => by
    rcases hblk ad ha with ⟨b, hb1, hb2⟩ | hq
    · exact h5 b hb1 (by omega)
    · have := h70.lt; omega
  refine ⟨o75, rfl, s074.trans s75, R ++ [x], by simp, ⟨(s75.own hk74).trans tk74, ⟨da, dc, a', c', ?_, h2, ((h3.step s70).step s74).step s75, ?_, hne⟩, fun y hy => ?_⟩⟩
  · have := hb74.seti 1 rfl e75
    rw [List.length_append]; exact this
  · have := g74.keep X75 (fun ad ha => hne ad ha) (o' := o75) fun b hb => s75.own hb
    rw [List.length_append, show PR.Cs (R ++ [x]) = PR.Cs R ++ x.C by simp [PR.Cs]]; exact this
  · rcases List.mem_append.1 hy with hy | hy
    · exact ((h70.rows y hy).step s74).step s75
    · simp at hy; subst hy; exact (hx70.step s74).step s75
/-- the counter of put. -/
def putLoop (RR : Value → World → Prop) (w : World) (p : Nat) (op : Option Addr) (a : Addr) (rh kind : Int) (aA : Option Addr) (nA cA : Nat) (aB : Option Addr) (nB cB : Nat) (n m : Int) : Prop :=
  ∃ (I2 : Nat → List Value → World → Prop) (m58 : Nat), I2 m58 [.int .u64 1, .int .u64 rh, .int .i64 kind, .slice aA nA cA, .slice aB nB cB, .int .u64 n, .int .u64 m] w ∧ ∀ (m59 : Nat) (ww60 : World) (h51 : Int) (H52 : Int) (Kind53 : Int) (A54a : Option Addr) (A54n : Nat) (A54c : Nat) (B55a : Option Addr) (B55n : Nat) (B55c : Nat) (N56 : Int) (M57 : Int), I2 m59 [.int .u64 h51, .int .u64 H52, .int .i64 Kind53, .slice A54a A54n A54c, .slice B55a B55n B55c, .int .u64 N56, .int .u64 M57] ww60 →
    Calls Try.prog 46 #[.pointer op, .int .u64 h51] ww60 fun ee62 ww63 => ∃ (atv61 : Int), ee62 = .returned (.int .i64 atv61) ∧
    Keep [p] ww60 ww63 ∧
    (atv61 ≥ 0 →
      ∃ m65, m65 < m59 ∧ I2 m65 [.int .u64 (IntKind.u64.wrap (h51 + 1)), .int .u64 H52, .int .i64 Kind53, .slice A54a A54n A54c, .slice B55a B55n B55c, .int .u64 N56, .int .u64 M57] ww63) ∧
    (atv61 < 0 → putTail RR ww63 p a h51 Kind53 A54a A54n A54c B55a B55n B55c N56 M57)
theorem loop_ok {w0 : World} {o0 : Own} {p : Nat} (h : ROrcP w o k d R) (s : Step (fun j => j = k) w0 o0 w o) (hl : R.length < 1000000) (hp : w0.heap.size ≤ p) (hp' : o p = some p) (hpk : p ≠ k) (x : PR) (hx : x.ok w o) :
    putLoop (fun v w' => ∃ o', v = .int .u64 (pickN (R.map fun y => y.r.h) (R.length + 1) 1) ∧ Step (fun j => j = k) w0 o0 w' o' ∧ ROrc w' o' k d (R.map PR.r ++ [{ x.r with h := pickN (R.map fun y => y.r.h) (R.length + 1) 1 }])) w p (some (blk k)) (blk k) x.r.h x.r.kind x.aA x.r.A.length x.cA x.aB x.r.B.length x.cB x.r.n x.r.m := by
  obtain ⟨a1, a2, a3, a4, a5⟩ := pickN_spec (R.map fun y => y.r.h) (R.length + 1) 1 (Int.le_refl _) (gap _ _ _ (by simp))
  generalize pickN (R.map fun y => y.r.h) (R.length + 1) 1 = z at *
  refine ⟨fun q vs w1 => ∃ t : Int, 1 ≤ t ∧ t ≤ z ∧ q = (z - t).toNat ∧ vs = [.int .u64 t, .int .u64 x.r.h, .int .i64 x.r.kind, .slice x.aA x.r.A.length x.cA, .slice x.aB x.r.B.length x.cB, .int .u64 x.r.n, .int .u64 x.r.m] ∧ w1 = w, (z - 1).toNat, ⟨1, Int.le_refl _, a1, rfl, rfl, rfl⟩, ?_⟩
  rintro q w1 t H Kd Aa An Ac Ba Bn Bc Nn Mm ⟨t', ht1, ht2, rfl, hvs, rfl⟩
  simp only [List.cons.injEq, Value.int.injEq, Value.slice.injEq, true_and, and_true] at hvs
  obtain ⟨rfl, rfl, rfl, ⟨rfl, rfl, rfl⟩, ⟨rfl, rfl, rfl⟩, rfl, rfl⟩ := hvs
  refine (at_spec h hl t).mono fun e w63 ⟨he, hw⟩ => ⟨_, he, by subst hw; exact Keep.refl _ _, fun hat => ?_, fun hat => ?_⟩
  · subst hw
    have hm := (atI_mem _ _).1 hat
    rw [List.map_map] at hm
    have hne : t ≠ z := fun e => by subst e; exact a3 hm
    refine ⟨(z - (t + 1)).toNat, by omega, t + 1, by omega, by omega, rfl, ?_, rfl⟩
    rw [wu64 (by omega) (by omega)]
  · subst hw
    have hm : ¬ t ∈ R.map fun y => y.r.h := fun e => by
      have := (atI_mem (R.map PR.r) t).2 (by rw [List.map_map]; exact e)
      omega
    have : t = z := Decidable.byContradiction fun hne => hm (a5 t ht1 (by omega))
    subst this
    exact tail_ok h s hl hp hp' hpk { x with r := { x.r with h := t } } hx
def putR (d : List Int) (L : List RRow) (r : RRow) : Int × List Int × List RRow :=
  ((freshR d (L.map RRow.h)).1, (freshR d (L.map RRow.h)).2, L ++ [{ r with h := (freshR d (L.map RRow.h)).1 }])
/-- the handle at hand, and the draws behind it. -/
def pend (h : Int) (d used : List Int) : Option (Int × List Int) := if h ≠ 0 ∧ h ∉ used then some (h, d) else pickD d used
theorem put_spec (h : ROrc w o k d L) (ok : Tags w o) (hd : ∀ x ∈ d, 0 ≤ x ∧ x < 18446744073709551616) (hl : L.length < 1000000) (x : PR) (hx : x.ok w o) :
    Calls Try.prog 28 #[.pointer (some (blk k)), .agg #[.int .u64 x.r.h, .int .i64 x.r.kind, .slice x.aA x.r.A.length x.cA, .slice x.aB x.r.B.length x.cB, .int .u64 x.r.n, .int .u64 x.r.m]] w
      (Gs (fun j => j = k) w o (.int .u64 (putR d L x.r).1) fun w' o' => ROrc w' o' k (putR d L x.r).2.1 (putR d L x.r).2.2) := by
  obtain ⟨R, rfl, h⟩ := h
  rw [List.length_map] at hl
  refine (cachetteref03_Oracle_put.go _ _ _ _ _ _ _ _ _ _ _ (R := fun v w' => ∃ o', v = .int .u64 (putR d (R.map PR.r) x.r).1 ∧ Step (fun j => j = k) w o w' o' ∧ ROrc w' o' k (putR d (R.map PR.r) x.r).2.1 (putR d (R.map PR.r) x.r).2.2) ?_).mono fun e w' ⟨v, he, o', hv, hw⟩ => ⟨o', by rw [he, hv], hw⟩
  unfold cachetteref03_Oracle_put.N
  intro w8 p9 X8 hp
  obtain ⟨o8, s8, tp8⟩ := Step.priv1 X8 hp ok
  have hp := hp.one
  have hkl := h.lt
  have hpk : p9 ≠ k := by omega
  have hU : (R.map PR.r).map RRow.h = R.map fun y => y.r.h := by rw [List.map_map]; rfl
  refine ⟨fun q vs w1 => ∃ (t : Int) (d1 : List Int) (o1 : Own), vs = [.int .u64 t, .int .u64 x.r.h, .int .i64 x.r.kind, .slice x.aA x.r.A.length x.cA, .slice x.aB x.r.B.length x.cB, .int .u64 x.r.n, .int .u64 x.r.m] ∧ q = d1.length ∧ pend t d1 (R.map fun y => y.r.h) = pickD d (R.map fun y => y.r.h) ∧ (∀ y ∈ d1, 0 ≤ y ∧ y < 18446744073709551616) ∧
      Step (fun j => j = k) w o w1 o1 ∧ ROrcP w1 o1 k d1 R ∧ o1 p9 = some p9 ∧ p9 < w1.heap.size, d.length, ⟨0, d, o8, rfl, rfl, by unfold pend; rw [if_neg (fun h => h.1 rfl)], hd, s8.none, h.step s8 id, tp8, hp.2⟩, ?_⟩
  rintro q w1 t H Kd Aa An Ac Ba Bn Bc Nn Mm ⟨t', d1, o1, hvs, rfl, hpd, hd1, s1, h1, tp1, lp1⟩
  simp only [List.cons.injEq, Value.int.injEq, Value.slice.injEq, true_and, and_true] at hvs
  obtain ⟨rfl, rfl, rfl, ⟨rfl, rfl, rfl⟩, ⟨rfl, rfl, rfl⟩, rfl, rfl⟩ := hvs
  have hx1 := hx.step s1
  obtain ⟨da, dc, la, lc, b1, b2, b3, b4, b5⟩ := id h1.at_
  -- a draw is taken
  have draw : ∀ (y : Int) (r : List Int), d1 = y :: r → ∀ w32, w32 = w1.setCell (((blk k).add 0).add 0) (.slice (cutA da dc 1 1) (d1.length - 1) (dc - 1)) → ∃ o32, Step (fun j => j = k) w o w32 o32 ∧ ROrcP w32 o32 k r R ∧ o32 p9 = some p9 ∧ p9 < w32.heap.size := fun y r hy w32 e32 => by
    subst hy
    have X32 : Ext (fun b => b = k) w1 w32 := (Ext.refl (fun b => b = k) w1).x_set (q := k) (i := 0) rfl (.inl rfl) e32
    obtain ⟨o32, s32⟩ := Step.store1 X32 s1.ok h1.tk
    have hb := b1.seti 0 rfl e32
    refine ⟨o32, s1.trans s32, ⟨(s32.own h1.lt).trans h1.tk, ⟨cutA da dc 1 1, dc - 1, la, lc, hb, by simp at b2; omega, ?_, b4.keep X32 (fun ad ha => b5 ad ha) fun b hb => s32.own hb, b5⟩, fun z hz => (h1.rows z hz).step s32⟩, (s32.own lp1).trans tp1, Nat.lt_of_lt_of_le lp1 s32.size⟩
    have hc := b3.1.cut 1 dc (by rw [List.length_map]; exact b2)
    have e1 : List.drop 1 (List.map u64V (y :: r)) = r.map u64V := rfl
    rw [e1] at hc
    have : Row w1 o1 (cutA da dc 1 1) (r.map u64V) := ⟨hc, fun h0 ad ha => by
      obtain ⟨b, hb, hbb⟩ := cutA_block ha
      rw [← hbb]; exact b3.2 (by simp) b hb⟩
    exact this.step s32
  have hnone : pickD d (R.map fun y => y.r.h) = none → putR d (R.map PR.r) x.r = (pickN (R.map fun y => y.r.h) (R.length + 1) 1, [], R.map PR.r ++ [{ x.r with h := pickN (R.map fun y => y.r.h) (R.length + 1) 1 }]) := fun hn => by
    unfold putR freshR
    rw [hU, hn, List.length_map]
  have hsome : ∀ z r, pickD d (R.map fun y => y.r.h) = some (z, r) → putR d (R.map PR.r) x.r = (z, r, R.map PR.r ++ [{ x.r with h := z }]) := fun z r hn => by
    unfold putR freshR
    rw [hU, hn]
  have hin : ∀ z, 0 ≤ atI (R.map PR.r) z ↔ z ∈ R.map fun y => y.r.h := fun z => by rw [atI_mem, List.map_map]; rfl
  refine ⟨_, rfl, da, d1.length, dc, b1.cella (i := 0) rfl, fun hpos => ⟨fun h0 => ?_, fun h0 => ?_⟩, fun hneg => ⟨fun h0 => ?_, fun h0 => ?_⟩⟩
  · -- none at hand, and draws are left
    subst h0
    cases d1 with
    | nil => simp at hpos
    | cons y r =>
      obtain ⟨ad, ha⟩ := b3.1.addr (by simp)
      have hy := hd1 y (by simp)
      refine ⟨da, _, dc, b1.cella (i := 0) rfl, ad, ha, by omega, y, by subst ha; exact b3.1.at_ (i := 0) rfl, da, _, dc, b1.cella (i := 0) rfl, by simp only [List.length_cons]; omega, b1.cana (i := 0) rfl, fun z hz => by simp at hz; subst hz; exact hpk, thenW_in fun w32 e32 => ?_⟩
      obtain ⟨o32, s32, h32, t32, l32⟩ := draw y r rfl w32 e32
      refine ⟨r.length, by simp, y, r, o32, rfl, rfl, ?_, fun z hz => hd1 z (by simp [hz]), s32, h32, t32, l32⟩
      rw [← hpd, show pend 0 (y :: r) (R.map fun y => y.r.h) = pickD (y :: r) (R.map fun y => y.r.h) from if_neg fun h => h.1 rfl]
      unfold pend
      simp only [pickD]
      by_cases c : y ≠ 0 ∧ y ∉ R.map fun y => y.r.h
      · rw [if_pos c, if_neg (by rintro (h | h); exact c.1 h; exact c.2 h)]
      · rw [if_neg c, if_pos (by by_cases hy0 : y = 0; exact .inl hy0; exact .inr (Decidable.not_not.1 fun h => c ⟨hy0, h⟩))]
  · -- one at hand, and draws are left
    refine (at_spec h1 hl t).mono fun e w36 ⟨he, hw⟩ => ⟨_, he, by subst hw; exact Keep.refl _ _, fun hat => ?_, fun hat => ?_⟩ <;> subst hw
    · have hused := (hin t).1 hat
      cases d1 with
      | nil => simp at hpos
      | cons y r =>
        obtain ⟨ad, ha⟩ := b3.1.addr (by simp)
        refine ⟨da, _, dc, b1.cella (i := 0) rfl, ad, ha, by omega, y, by subst ha; exact b3.1.at_ (i := 0) rfl, da, _, dc, b1.cella (i := 0) rfl, by simp only [List.length_cons]; omega, b1.cana (i := 0) rfl, fun z hz => by simp at hz; subst hz; exact hpk, thenW_in fun w45 e45 => ?_⟩
        obtain ⟨o32, s32, h32, t32, l32⟩ := draw y r rfl w45 e45
        refine ⟨r.length, by simp, y, r, o32, rfl, rfl, ?_, fun z hz => hd1 z (by simp [hz]), s32, h32, t32, l32⟩
        rw [← hpd, show pend t (y :: r) (R.map fun y => y.r.h) = pickD (y :: r) (R.map fun y => y.r.h) from if_neg fun h => h.2 hused]
        unfold pend
        simp only [pickD]
        by_cases c : y ≠ 0 ∧ y ∉ R.map fun y => y.r.h
        · rw [if_pos c, if_neg (by rintro (h | h); exact c.1 h; exact c.2 h)]
        · rw [if_neg c, if_pos (by by_cases hy0 : y = 0; exact .inl hy0; exact .inr (Decidable.not_not.1 fun h => c ⟨hy0, h⟩))]
    · have hfree : t ∉ R.map fun y => y.r.h := fun e => by have := (hin t).2 e; omega
      refine (at_spec h1 hl t).mono fun e w49 ⟨he, hw⟩ => ⟨_, he, by subst hw; exact Keep.refl _ _, fun hat2 => absurd hat2 (by omega), fun _ => ?_⟩
      subst hw
      have : pickD d (R.map fun y => y.r.h) = some (t, d1) := by rw [← hpd]; unfold pend; rw [if_pos ⟨h0, hfree⟩]
      rw [hsome _ _ this]
      exact tail_ok h1 s1 hl hp.1 tp1 hpk { x with r := { x.r with h := t } } hx1
  · -- none at hand, none left
    obtain rfl : d1 = [] := List.eq_nil_of_length_eq_zero (by omega)
    subst h0
    have : pickD d (R.map fun y => y.r.h) = none := by rw [← hpd]; unfold pend; rw [if_neg (fun h => h.1 rfl)]; rfl
    rw [hnone this]
    exact loop_ok h1 s1 hl hp.1 tp1 hpk x hx1
  · -- one at hand, none left
    obtain rfl : d1 = [] := List.eq_nil_of_length_eq_zero (by omega)
    refine (at_spec h1 hl t).mono fun e w36 ⟨he, hw⟩ => ⟨_, he, by subst hw; exact Keep.refl _ _, fun hat => ?_, fun hat => ?_⟩ <;> subst hw
    · have hused := (hin t).1 hat
      have : pickD d (R.map fun y => y.r.h) = none := by rw [← hpd]; unfold pend; rw [if_neg (fun h : t ≠ 0 ∧ t ∉ _ => h.2 hused)]; rfl
      rw [hnone this]
      exact loop_ok h1 s1 hl hp.1 tp1 hpk x hx1
    · have hfree : t ∉ R.map fun y => y.r.h := fun e => by have := (hin t).2 e; omega
      have : pickD d (R.map fun y => y.r.h) = some (t, []) := by rw [← hpd]; unfold pend; rw [if_pos ⟨h0, hfree⟩]
      rw [hsome _ _ this]
      exact tail_ok h1 s1 hl hp.1 tp1 hpk { x with r := { x.r with h := t } } hx1
end
end Go.Proofs.Ytdelmfpchbpafaa

/- The reference's oracle: what its calls answer. -/
set_option linter.unusedVariables false
set_option linter.unusedSimpArgs false
set_option maxRecDepth 20000
namespace Go.Proofs.Ytdelmfpchbpafaa
open Go Go.Mx Go.Proofs
/-- (*cachetteref03.Oracle).Hash -/
def cachetteref03_Oracle_Hash.M (o1 : Option Addr) (an : Option Addr) (aq : Nat) (ar : Nat) (R : Value → World → Prop) (w : World) : Prop :=
 ∃ (I0 : Nat → List Value → World → Prop) (m4 : Nat), I0 m4 [.int .i64 0] w ∧ ∀ (m5 : Nat) (a3 : World) (i3 : Int), I0 m5 [.int .i64 i3] a3 →
 o1.elim False fun a7 =>
 ∃ (az : Option Addr) (ap : Nat) (ay : Nat), a3.cell? (a7.add 1) = some (.slice az ap ay) ∧
 bif decide (i3 < (ap : Int)) then (
 o1.elim False fun a9 =>
 ∃ (ab : Option Addr) (a6 : Nat) (al : Nat), a3.cell? (a9.add 1) = some (.slice ab a6 al) ∧
 ab.elim False fun b1 =>
 0 ≤ (i3 : Int) ∧ (i3 : Int) < (a6 : Int) ∧
 ∃ (a1 : Int), a3.cell? ((b1.add (Int.toNat i3 * 6)).add 1) = some (.int .i64 a1) ∧
 bif a1 == 1 then (
 o1.elim False fun b0 =>
 ∃ (ae : Option Addr) (ad : Nat) (aj : Nat), a3.cell? (b0.add 1) = some (.slice ae ad aj) ∧
 ae.elim False fun aw =>
 0 ≤ (i3 : Int) ∧ (i3 : Int) < (ad : Int) ∧
 ∃ (aa : Option Addr) (a8 : Nat) (ac : Nat), a3.cell? ((aw.add (Int.toNat i3 * 6)).add 2) = some (.slice aa a8 ac) ∧
 Calls Try.prog 41 #[.slice aa a8 ac, .slice an aq ar] a3 fun ak a2 => ∃ (a0 : Bool), ak = .returned (.bool a0) ∧
 bif a0 then (
 o1.elim False fun ax =>
 ∃ (af : Option Addr) (a5 : Nat) (ag : Nat), a2.cell? (ax.add 1) = some (.slice af a5 ag) ∧
 af.elim False fun av =>
 0 ≤ (i3 : Int) ∧ (i3 : Int) < (a5 : Int) ∧
 ∃ (au : Int), a2.cell? ((av.add (Int.toNat i3 * 6)).add 0) = some (.int .u64 au) ∧
 R (.int .u64 au) a2) else (
 ∃ ao, ao < m5 ∧ I0 ao [.int .i64 (IntKind.i64.wrap (i3 + 1))] a2)) else (
 ∃ am, am < m5 ∧ I0 am [.int .i64 (IntKind.i64.wrap (i3 + 1))] a3)) else (
 Calls Try.prog 28 #[.pointer o1, .agg #[.int .u64 0, .int .i64 1, .slice an aq ar, .slice none 0 0, .int .u64 0, .int .u64 0]] a3 fun ah ai => ∃ (a4 : Int), ah = .returned (.int .u64 a4) ∧
 R (.int .u64 a4) ai)

theorem cachetteref03_Oracle_Hash.eq (o1 : Option Addr) (b2a : Option Addr) (b2n : Nat) (b2c : Nat) (R : Value → World → Prop) (w : World) : mfunc Try.prog [(0, [0, 1], [(5, (.one (.int .i64)))])] 67 [.pointer o1, .slice b2a b2n b2c] R w = cachetteref03_Oracle_Hash.M o1 b2a b2n b2c R w := by kernel_rfl
theorem cachetteref03_Oracle_Hash.ok (o1 : Option Addr) (a1 : Option Addr) (a2 : Nat) (a0 : Nat) {R : Value → World → Prop} {w : World} (h : cachetteref03_Oracle_Hash.M o1 a1 a2 a0 R w) : Calls Try.prog 67 #[.pointer o1, .slice a1 a2 a0] w fun e w' => ∃ v, e = .returned v ∧ R v w' :=
  mfunc_ok follows (H := [(0, [0, 1], [(5, (.one (.int .i64)))])]) (args := [.pointer o1, .slice a1 a2 a0]) (by rw [cachetteref03_Oracle_Hash.eq]; exact h)

def cachetteref03_Oracle_Hash.N (o1 : Option Addr) (an : Option Addr) (ap : Nat) (aw : Nat) (R : Value → World → Prop) (w : World) : Prop :=
 ∃ (I0 : Nat → List Value → World → Prop) (m4 : Nat), I0 m4 [.int .i64 0] w ∧ ∀ (m5 : Nat) (a2 : World) (i3 : Int), I0 m5 [.int .i64 i3] a2 →
 ∃ a7 : Addr, o1 = some a7 ∧
 ∃ (ax : Option Addr) (af : Nat) (ay : Nat), a2.cell? (a7.add 1) = some (.slice ax af ay) ∧
 (i3 < (af : Int) →
 ∃ (a8 : Option Addr) (a6 : Nat) (al : Nat), a2.cell? (a7.add 1) = some (.slice a8 a6 al) ∧
 ∃ aq : Addr, a8 = some aq ∧
 0 ≤ (i3 : Int) ∧ (i3 : Int) < (a6 : Int) ∧
 ∃ (a1 : Int), a2.cell? ((aq.add (Int.toNat i3 * 6)).add 1) = some (.int .i64 a1) ∧
 (a1 = 1 →
 ∃ (ae : Option Addr) (a5 : Nat) (ah : Nat), a2.cell? (a7.add 1) = some (.slice ae a5 ah) ∧
 ∃ am : Addr, ae = some am ∧
 0 ≤ (i3 : Int) ∧ (i3 : Int) < (a5 : Int) ∧
 ∃ (aa : Option Addr) (a9 : Nat) (ab : Nat), a2.cell? ((am.add (Int.toNat i3 * 6)).add 2) = some (.slice aa a9 ab) ∧
 Calls Try.prog 41 #[.slice aa a9 ab, .slice an ap aw] a2 fun aj a3 => ∃ (a0 : Bool), aj = .returned (.bool a0) ∧
 (a0 = true →
 ∃ (ad : Option Addr) (ac : Nat) (ai : Nat), a3.cell? (a7.add 1) = some (.slice ad ac ai) ∧
 ∃ ao : Addr, ad = some ao ∧
 0 ≤ (i3 : Int) ∧ (i3 : Int) < (ac : Int) ∧
 ∃ (ar : Int), a3.cell? ((ao.add (Int.toNat i3 * 6)).add 0) = some (.int .u64 ar) ∧
 R (.int .u64 ar) a3) ∧
 (a0 = false →
 (-9223372036854775808 : Int) ≤ (i3 + 1) ∧ (i3 + 1) < 9223372036854775808 ∧
 ∃ av, av < m5 ∧ I0 av [.int .i64 (i3 + 1)] a3)) ∧
 (a1 ≠ 1 →
 (-9223372036854775808 : Int) ≤ (i3 + 1) ∧ (i3 + 1) < 9223372036854775808 ∧
 ∃ au, au < m5 ∧ I0 au [.int .i64 (i3 + 1)] a2)) ∧
 ((af : Int) ≤ i3 →
 Calls Try.prog 28 #[.pointer o1, .agg #[.int .u64 0, .int .i64 1, .slice an ap aw, .slice none 0 0, .int .u64 0, .int .u64 0]] a2 fun ag ak => ∃ (a4 : Int), ag = .returned (.int .u64 a4) ∧
 R (.int .u64 a4) ak)

theorem cachetteref03_Oracle_Hash.up (o1 : Option Addr) (az : Option Addr) (b0 : Nat) (b1 : Nat) {R : Value → World → Prop} {w : World} (h : cachetteref03_Oracle_Hash.N o1 az b0 b1 R w) : cachetteref03_Oracle_Hash.M o1 az b0 b1 R w := by
  unfold cachetteref03_Oracle_Hash.M
  unfold cachetteref03_Oracle_Hash.N at h
  obtain ⟨I0, m4, h0, h⟩ := h
  refine ⟨I0, m4, h0, fun m5 b7 i3 hI => ?_⟩
  have h := h m5 b7 i3 hI
  obtain ⟨a7, a5, h⟩ := h
  refine elim_some a5 ?_
  obtain ⟨b5, b2, ba, b3, h⟩ := h
  refine ⟨b5, b2, ba, b3, ?_⟩
  refine bif_of (fun av => ?_) (fun av => ?_)
  · have h := h.1 (of_decide_eq_true av)
    refine elim_some a5 ?_
    obtain ⟨ab, a9, ax, ag, h⟩ := h
    refine ⟨ab, a9, ax, ag, ?_⟩
    obtain ⟨bg, ah, h⟩ := h
    refine elim_some ah ?_
    obtain ⟨a2, a3, h⟩ := h
    refine ⟨a2, a3, ?_⟩
    obtain ⟨a1, ai, h⟩ := h
    refine ⟨a1, ai, ?_⟩
    refine bif_of (fun ao => ?_) (fun ao => ?_)
    · have h := h.1 (beq_t ao)
      refine elim_some a5 ?_
      obtain ⟨ay, a6, ac, al, h⟩ := h
      refine ⟨ay, a6, ac, al, ?_⟩
      obtain ⟨be, a8, h⟩ := h
      refine elim_some a8 ?_
      obtain ⟨a2, a3, h⟩ := h
      refine ⟨a2, a3, ?_⟩
      obtain ⟨ak, aj, ap, aq, h⟩ := h
      refine ⟨ak, aj, ap, aq, ?_⟩
      refine h.mono fun b9 b6 h => ?_
      obtain ⟨a0, he, h⟩ := h
      refine ⟨a0, he, ?_⟩
      refine bif_of (fun aa => ?_) (fun aa => ?_)
      · have h := h.1 aa
        refine elim_some a5 ?_
        obtain ⟨au, ar, an, ae, h⟩ := h
        refine ⟨au, ar, an, ae, ?_⟩
        obtain ⟨bf, am, h⟩ := h
        refine elim_some am ?_
        obtain ⟨a2, a3, h⟩ := h
        refine ⟨a2, a3, ?_⟩
        obtain ⟨b8, aw, h⟩ := h
        refine ⟨b8, aw, ?_⟩
        exact h
      · have h := h.2 aa
        obtain ⟨af, ad, h⟩ := h
        try rw [w64 af ad]
        obtain ⟨bc, hk, h⟩ := h
        exact ⟨bc, hk, h⟩
    · have h := h.2 (beq_f ao)
      obtain ⟨af, ad, h⟩ := h
      try rw [w64 af ad]
      obtain ⟨bb, hk, h⟩ := h
      exact ⟨bb, hk, h⟩
  · have h := h.2 (Int.not_lt.1 (of_decide_eq_false av))
    refine h.mono fun b4 bd h => ?_
    obtain ⟨a4, he, h⟩ := h
    refine ⟨a4, he, ?_⟩
    exact h

theorem cachetteref03_Oracle_Hash.go (o1 : Option Addr) (a1 : Option Addr) (a2 : Nat) (a0 : Nat) {R : Value → World → Prop} {w : World} (h : cachetteref03_Oracle_Hash.N o1 a1 a2 a0 R w) : Calls Try.prog 67 #[.pointer o1, .slice a1 a2 a0] w fun e w' => ∃ v, e = .returned v ∧ R v w' := cachetteref03_Oracle_Hash.ok o1 a1 a2 a0 (cachetteref03_Oracle_Hash.up o1 a1 a2 a0 h)
/-- (*cachetteref03.Oracle).Pair -/
def cachetteref03_Oracle_Pair.M (o1 : Option Addr) (R : Value → World → Prop) (w : World) : Prop :=
 Calls Try.prog 28 #[.pointer o1, .agg #[.int .u64 0, .int .i64 3, .slice none 0 0, .slice none 0 0, .int .u64 0, .int .u64 0]] w fun a3 a5 => ∃ (a0 : Int), a3 = .returned (.int .u64 a0) ∧
 Calls Try.prog 28 #[.pointer o1, .agg #[.int .u64 0, .int .i64 4, .slice none 0 0, .slice none 0 0, .int .u64 a0, .int .u64 0]] a5 fun a2 a4 => ∃ (a1 : Int), a2 = .returned (.int .u64 a1) ∧
 R (.tuple #[.int .u64 a0, .int .u64 a1]) a4

theorem cachetteref03_Oracle_Pair.eq (o1 : Option Addr) (R : Value → World → Prop) (w : World) : mfunc Try.prog [] 9 [.pointer o1] R w = cachetteref03_Oracle_Pair.M o1 R w := by kernel_rfl
theorem cachetteref03_Oracle_Pair.ok (o1 : Option Addr) {R : Value → World → Prop} {w : World} (h : cachetteref03_Oracle_Pair.M o1 R w) : Calls Try.prog 9 #[.pointer o1] w fun e w' => ∃ v, e = .returned v ∧ R v w' :=
  mfunc_ok follows (H := []) (args := [.pointer o1]) (by rw [cachetteref03_Oracle_Pair.eq]; exact h)

def cachetteref03_Oracle_Pair.N (o1 : Option Addr) (R : Value → World → Prop) (w : World) : Prop :=
 Calls Try.prog 28 #[.pointer o1, .agg #[.int .u64 0, .int .i64 3, .slice none 0 0, .slice none 0 0, .int .u64 0, .int .u64 0]] w fun a3 a5 => ∃ (a0 : Int), a3 = .returned (.int .u64 a0) ∧
 Calls Try.prog 28 #[.pointer o1, .agg #[.int .u64 0, .int .i64 4, .slice none 0 0, .slice none 0 0, .int .u64 a0, .int .u64 0]] a5 fun a2 a4 => ∃ (a1 : Int), a2 = .returned (.int .u64 a1) ∧
 R (.tuple #[.int .u64 a0, .int .u64 a1]) a4

theorem cachetteref03_Oracle_Pair.up (o1 : Option Addr) {R : Value → World → Prop} {w : World} (h : cachetteref03_Oracle_Pair.N o1 R w) : cachetteref03_Oracle_Pair.M o1 R w := by
  unfold cachetteref03_Oracle_Pair.M
  unfold cachetteref03_Oracle_Pair.N at h
  refine h.mono fun a3 a5 h => ?_
  obtain ⟨a1, he, h⟩ := h
  refine ⟨a1, he, ?_⟩
  refine h.mono fun a2 a4 h => ?_
  obtain ⟨a0, he, h⟩ := h
  refine ⟨a0, he, ?_⟩
  exact h

theorem cachetteref03_Oracle_Pair.go (o1 : Option Addr) {R : Value → World → Prop} {w : World} (h : cachetteref03_Oracle_Pair.N o1 R w) : Calls Try.prog 9 #[.pointer o1] w fun e w' => ∃ v, e = .returned v ∧ R v w' := cachetteref03_Oracle_Pair.ok o1 (cachetteref03_Oracle_Pair.up o1 h)
/-- (*cachetteref03.Oracle).Sign -/
def cachetteref03_Oracle_Sign.M (o1 : Option Addr) (a2 : Int) (b6 : Option Addr) (bj : Nat) (ba : Nat) (R : Value → World → Prop) (w : World) : Prop :=
 Calls Try.prog 75 #[.pointer o1, .int .u64 a2, .int .i64 3] w fun aw a0 => ∃ (H4 : Int) (a8 : Int) (bb : Option Addr) (bd : Nat) (b7 : Nat) (bc : Option Addr) (bg : Nat) (bi : Nat) (N8 : Int) (M9 : Int) (a9 : Bool), aw = .returned (.tuple #[.agg #[.int .u64 H4, .int .i64 a8, .slice bb bd b7, .slice bc bg bi, .int .u64 N8, .int .u64 M9], .bool a9]) ∧
 thenW (a0.alloc (.cells #[.int .u64 0, .int .i64 0, .slice none 0 0, .slice none 0 0, .int .u64 0, .int .u64 0] 80)) fun ai =>
 canStore ai ((blk a0.heap.size).add 0) ∧
 thenW (ai.setCell ((blk a0.heap.size).add 0) (.int .u64 H4)) fun ab =>
 canStore ab ((blk a0.heap.size).add 1) ∧
 thenW (ab.setCell ((blk a0.heap.size).add 1) (.int .i64 a8)) fun al =>
 canStore al ((blk a0.heap.size).add 2) ∧
 thenW (al.setCell ((blk a0.heap.size).add 2) (.slice bb bd b7)) fun am =>
 canStore am ((blk a0.heap.size).add 3) ∧
 thenW (am.setCell ((blk a0.heap.size).add 3) (.slice bc bg bi)) fun ar =>
 canStore ar ((blk a0.heap.size).add 4) ∧
 thenW (ar.setCell ((blk a0.heap.size).add 4) (.int .u64 N8)) fun af =>
 canStore af ((blk a0.heap.size).add 5) ∧
 thenW (af.setCell ((blk a0.heap.size).add 5) (.int .u64 M9)) fun ae =>
 bif !a9 then (
 R (.tuple #[.int .u64 0, .int .i64 11]) ae) else (
 ∃ (I0 : Nat → List Value → World → Prop) (bl : Nat), I0 bl [.int .i64 0] ae ∧ ∀ (av : Nat) (a1 : World) (a3 : Int), I0 av [.int .i64 a3] a1 →
 o1.elim False fun bq =>
 ∃ (ax : Option Addr) (an : Nat) (b1 : Nat), a1.cell? (bq.add 1) = some (.slice ax an b1) ∧
 bif decide (a3 < (an : Int)) then (
 o1.elim False fun bm =>
 ∃ (aq : Option Addr) (ao : Nat) (b4 : Nat), a1.cell? (bm.add 1) = some (.slice aq ao b4) ∧
 aq.elim False fun bk =>
 0 ≤ (a3 : Int) ∧ (a3 : Int) < (ao : Int) ∧
 ∃ (a4 : Int), a1.cell? ((bk.add (Int.toNat a3 * 6)).add 1) = some (.int .i64 a4) ∧
 bif a4 == 5 then (
 o1.elim False fun bs =>
 ∃ (ad : Option Addr) (ap : Nat) (b0 : Nat), a1.cell? (bs.add 1) = some (.slice ad ap b0) ∧
 ad.elim False fun br =>
 0 ≤ (a3 : Int) ∧ (a3 : Int) < (ap : Int) ∧
 ∃ (be : Int), a1.cell? ((br.add (Int.toNat a3 * 6)).add 4) = some (.int .u64 be) ∧
 bif be == a2 then (
 o1.elim False fun bn =>
 ∃ (ak : Option Addr) (au : Nat) (az : Nat), a1.cell? (bn.add 1) = some (.slice ak au az) ∧
 ak.elim False fun bp =>
 0 ≤ (a3 : Int) ∧ (a3 : Int) < (au : Int) ∧
 ∃ (ac : Option Addr) (aa : Nat) (ah : Nat), a1.cell? ((bp.add (Int.toNat a3 * 6)).add 2) = some (.slice ac aa ah) ∧
 Calls Try.prog 41 #[.slice ac aa ah, .slice b6 bj ba] a1 fun b2 a6 => ∃ (a5 : Bool), b2 = .returned (.bool a5) ∧
 bif a5 then (
 o1.elim False fun bt =>
 ∃ (aj : Option Addr) (ag : Nat) (b5 : Nat), a6.cell? (bt.add 1) = some (.slice aj ag b5) ∧
 aj.elim False fun bo =>
 0 ≤ (a3 : Int) ∧ (a3 : Int) < (ag : Int) ∧
 ∃ (bh : Int), a6.cell? ((bo.add (Int.toNat a3 * 6)).add 0) = some (.int .u64 bh) ∧
 R (.tuple #[.int .u64 bh, .int .i64 0]) a6) else (
 ∃ b8, b8 < av ∧ I0 b8 [.int .i64 (IntKind.i64.wrap (a3 + 1))] a6)) else (
 ∃ bf, bf < av ∧ I0 bf [.int .i64 (IntKind.i64.wrap (a3 + 1))] a1)) else (
 ∃ b9, b9 < av ∧ I0 b9 [.int .i64 (IntKind.i64.wrap (a3 + 1))] a1)) else (
 Calls Try.prog 28 #[.pointer o1, .agg #[.int .u64 0, .int .i64 5, .slice b6 bj ba, .slice none 0 0, .int .u64 a2, .int .u64 0]] a1 fun ay b3 => ∃ (a7 : Int), ay = .returned (.int .u64 a7) ∧
 R (.tuple #[.int .u64 a7, .int .i64 0]) b3))

theorem cachetteref03_Oracle_Sign.eq (o1 : Option Addr) (secret2 : Int) (b3a : Option Addr) (b3n : Nat) (b3c : Nat) (R : Value → World → Prop) (w : World) : mfunc Try.prog [(0, [0, 1, 2], [(10, (.one (.int .i64)))])] 60 [.pointer o1, .int .u64 secret2, .slice b3a b3n b3c] R w = cachetteref03_Oracle_Sign.M o1 secret2 b3a b3n b3c R w := by kernel_rfl
theorem cachetteref03_Oracle_Sign.ok (o1 : Option Addr) (a0 : Int) (a1 : Option Addr) (a2 : Nat) (a3 : Nat) {R : Value → World → Prop} {w : World} (h : cachetteref03_Oracle_Sign.M o1 a0 a1 a2 a3 R w) : Calls Try.prog 60 #[.pointer o1, .int .u64 a0, .slice a1 a2 a3] w fun e w' => ∃ v, e = .returned v ∧ R v w' :=
  mfunc_ok follows (H := [(0, [0, 1, 2], [(10, (.one (.int .i64)))])]) (args := [.pointer o1, .int .u64 a0, .slice a1 a2 a3]) (by rw [cachetteref03_Oracle_Sign.eq]; exact h)

def cachetteref03_Oracle_Sign.N (o1 : Option Addr) (a1 : Int) (b3 : Option Addr) (ba : Nat) (b5 : Nat) (R : Value → World → Prop) (w : World) : Prop :=
 Calls Try.prog 75 #[.pointer o1, .int .u64 a1, .int .i64 3] w fun au ah => ∃ (H4 : Int) (al : Int) (bf : Option Addr) (bh : Nat) (bd : Nat) (bg : Option Addr) (bi : Nat) (bj : Nat) (N8 : Int) (M9 : Int) (a6 : Bool), au = .returned (.tuple #[.agg #[.int .u64 H4, .int .i64 al, .slice bf bh bd, .slice bg bi bj, .int .u64 N8, .int .u64 M9], .bool a6]) ∧
 (a6 = false →
 ∀ (a5 : World), Ext no ah a5 →
 R (.tuple #[.int .u64 0, .int .i64 11]) a5) ∧
 (a6 = true →
 ∀ (a5 : World), Ext no ah a5 →
 ∃ (I0 : Nat → List Value → World → Prop) (be : Nat), I0 be [.int .i64 0] a5 ∧ ∀ (ao : Nat) (a0 : World) (a2 : Int), I0 ao [.int .i64 a2] a0 →
 ∃ aa : Addr, o1 = some aa ∧
 ∃ (aq : Option Addr) (a9 : Nat) (b1 : Nat), a0.cell? (aa.add 1) = some (.slice aq a9 b1) ∧
 (a2 < (a9 : Int) →
 ∃ (ae : Option Addr) (ad : Nat) (ay : Nat), a0.cell? (aa.add 1) = some (.slice ae ad ay) ∧
 ∃ bc : Addr, ae = some bc ∧
 0 ≤ (a2 : Int) ∧ (a2 : Int) < (ad : Int) ∧
 ∃ (a3 : Int), a0.cell? ((bc.add (Int.toNat a2 * 6)).add 1) = some (.int .i64 a3) ∧
 (a3 = 5 →
 ∃ (ak : Option Addr) (an : Nat) (ar : Nat), a0.cell? (aa.add 1) = some (.slice ak an ar) ∧
 ∃ b2 : Addr, ak = some b2 ∧
 0 ≤ (a2 : Int) ∧ (a2 : Int) < (an : Int) ∧
 ∃ (av : Int), a0.cell? ((b2.add (Int.toNat a2 * 6)).add 4) = some (.int .u64 av) ∧
 (av = a1 →
 ∃ (am : Option Addr) (ac : Nat) (ap : Nat), a0.cell? (aa.add 1) = some (.slice am ac ap) ∧
 ∃ b9 : Addr, am = some b9 ∧
 0 ≤ (a2 : Int) ∧ (a2 : Int) < (ac : Int) ∧
 ∃ (af : Option Addr) (ag : Nat) (aj : Nat), a0.cell? ((b9.add (Int.toNat a2 * 6)).add 2) = some (.slice af ag aj) ∧
 Calls Try.prog 41 #[.slice af ag aj, .slice b3 ba b5] a0 fun aw a7 => ∃ (a4 : Bool), aw = .returned (.bool a4) ∧
 (a4 = true →
 ∃ (ai : Option Addr) (ab : Nat) (az : Nat), a7.cell? (aa.add 1) = some (.slice ai ab az) ∧
 ∃ b6 : Addr, ai = some b6 ∧
 0 ≤ (a2 : Int) ∧ (a2 : Int) < (ab : Int) ∧
 ∃ (b8 : Int), a7.cell? ((b6.add (Int.toNat a2 * 6)).add 0) = some (.int .u64 b8) ∧
 R (.tuple #[.int .u64 b8, .int .i64 0]) a7) ∧
 (a4 = false →
 (-9223372036854775808 : Int) ≤ (a2 + 1) ∧ (a2 + 1) < 9223372036854775808 ∧
 ∃ b4, b4 < ao ∧ I0 b4 [.int .i64 (a2 + 1)] a7)) ∧
 (av ≠ a1 →
 (-9223372036854775808 : Int) ≤ (a2 + 1) ∧ (a2 + 1) < 9223372036854775808 ∧
 ∃ b7, b7 < ao ∧ I0 b7 [.int .i64 (a2 + 1)] a0)) ∧
 (a3 ≠ 5 →
 (-9223372036854775808 : Int) ≤ (a2 + 1) ∧ (a2 + 1) < 9223372036854775808 ∧
 ∃ bb, bb < ao ∧ I0 bb [.int .i64 (a2 + 1)] a0)) ∧
 ((a9 : Int) ≤ a2 →
 Calls Try.prog 28 #[.pointer o1, .agg #[.int .u64 0, .int .i64 5, .slice b3 ba b5, .slice none 0 0, .int .u64 a1, .int .u64 0]] a0 fun ax b0 => ∃ (a8 : Int), ax = .returned (.int .u64 a8) ∧
 R (.tuple #[.int .u64 a8, .int .i64 0]) b0))

theorem cachetteref03_Oracle_Sign.up (o1 : Option Addr) (a3 : Int) (c5 : Option Addr) (c3 : Nat) (c6 : Nat) {R : Value → World → Prop} {w : World} (h : cachetteref03_Oracle_Sign.N o1 a3 c5 c3 c6 R w) : cachetteref03_Oracle_Sign.M o1 a3 c5 c3 c6 R w := by
  unfold cachetteref03_Oracle_Sign.M
  unfold cachetteref03_Oracle_Sign.N at h
  refine h.mono fun cl a0 h => ?_
  obtain ⟨H4, a1, af, ai, ab, aj, ak, al, N8, M9, ad, he, h⟩ := h
  refine ⟨H4, a1, af, ai, ab, aj, ak, al, N8, M9, ad, he, ?_⟩
  refine thenW_in fun co c8 => ?_
  have a2 := Blk.of_new c8
  have aa := ((Ext.refl no a0)).size
  have bq := (Ext.refl no a0).x_alloc c8
  refine ⟨a2.cani 0 rfl rfl, thenW_in fun an c7 => ?_⟩
  have b7 := bq.x_set (q := a0.heap.size) (i := 0) rfl (.inr aa) c7
  have a2 : Blk an a0.heap.size 80 [.int .u64 H4, .int .i64 0, .slice none 0 0, .slice none 0 0, .int .u64 0, .int .u64 0] := a2.seti 0 rfl c7
  refine ⟨a2.cani 1 rfl rfl, thenW_in fun b1 c9 => ?_⟩
  have b5 := b7.x_set (q := a0.heap.size) (i := 1) rfl (.inr aa) c9
  have a2 : Blk b1 a0.heap.size 80 [.int .u64 H4, .int .i64 a1, .slice none 0 0, .slice none 0 0, .int .u64 0, .int .u64 0] := a2.seti 1 rfl c9
  refine ⟨a2.cani 2 rfl rfl, thenW_in fun bi c1 => ?_⟩
  have bk := b5.x_set (q := a0.heap.size) (i := 2) rfl (.inr aa) c1
  have a2 : Blk bi a0.heap.size 80 [.int .u64 H4, .int .i64 a1, .slice af ai ab, .slice none 0 0, .int .u64 0, .int .u64 0] := a2.seti 2 rfl c1
  refine ⟨a2.cani 3 rfl rfl, thenW_in fun bl ca => ?_⟩
  have bs := bk.x_set (q := a0.heap.size) (i := 3) rfl (.inr aa) ca
  have a2 : Blk bl a0.heap.size 80 [.int .u64 H4, .int .i64 a1, .slice af ai ab, .slice aj ak al, .int .u64 0, .int .u64 0] := a2.seti 3 rfl ca
  refine ⟨a2.cani 4 rfl rfl, thenW_in fun ap c2 => ?_⟩
  have aw := bs.x_set (q := a0.heap.size) (i := 4) rfl (.inr aa) c2
  have a2 : Blk ap a0.heap.size 80 [.int .u64 H4, .int .i64 a1, .slice af ai ab, .slice aj ak al, .int .u64 N8, .int .u64 0] := a2.seti 4 rfl c2
  refine ⟨a2.cani 5 rfl rfl, thenW_in fun a6 c4 => ?_⟩
  have ah := aw.x_set (q := a0.heap.size) (i := 5) rfl (.inr aa) c4
  have a2 : Blk a6 a0.heap.size 80 [.int .u64 H4, .int .i64 a1, .slice af ai ab, .slice aj ak al, .int .u64 N8, .int .u64 M9] := a2.seti 5 rfl c4
  refine bif_of (fun b9 => ?_) (fun b9 => ?_)
  · have h := h.1 (not_t b9)
    have h := h a6 ah
    exact h
  · have h := h.2 (not_f b9)
    have h := h a6 ah
    obtain ⟨I0, cc, h0, h⟩ := h
    refine ⟨I0, cc, h0, fun cb b0 ce hI => ?_⟩
    have h := h cb b0 ce hI
    obtain ⟨cp, a4, h⟩ := h
    refine elim_some a4 ?_
    obtain ⟨bn, bv, bz, b6, h⟩ := h
    refine ⟨bn, bv, bz, b6, ?_⟩
    refine bif_of (fun az => ?_) (fun az => ?_)
    · have h := h.1 (of_decide_eq_true az)
      refine elim_some a4 ?_
      obtain ⟨ar, bd, bf, bb, h⟩ := h
      refine ⟨ar, bd, bf, bb, ?_⟩
      obtain ⟨cq, bw, h⟩ := h
      refine elim_some bw ?_
      obtain ⟨a7, a8, h⟩ := h
      refine ⟨a7, a8, ?_⟩
      obtain ⟨a9, au, h⟩ := h
      refine ⟨a9, au, ?_⟩
      refine bif_of (fun av => ?_) (fun av => ?_)
      · have h := h.1 (beq_t av)
        refine elim_some a4 ?_
        obtain ⟨b3, ax, ba, bj, h⟩ := h
        refine ⟨b3, ax, ba, bj, ?_⟩
        obtain ⟨cs, bo, h⟩ := h
        refine elim_some bo ?_
        obtain ⟨a7, a8, h⟩ := h
        refine ⟨a7, a8, ?_⟩
        obtain ⟨cm, aq, h⟩ := h
        refine ⟨cm, aq, ?_⟩
        refine bif_of (fun bx => ?_) (fun bx => ?_)
        · have h := h.1 (beq_t bx)
          refine elim_some a4 ?_
          obtain ⟨b4, ao, b8, c0, h⟩ := h
          refine ⟨b4, ao, b8, c0, ?_⟩
          obtain ⟨cr, bc, h⟩ := h
          refine elim_some bc ?_
          obtain ⟨a7, a8, h⟩ := h
          refine ⟨a7, a8, ?_⟩
          obtain ⟨bp, bg, b2, be, h⟩ := h
          refine ⟨bp, bg, b2, be, ?_⟩
          refine h.mono fun cg ck h => ?_
          obtain ⟨a5, he, h⟩ := h
          refine ⟨a5, he, ?_⟩
          refine bif_of (fun bt => ?_) (fun bt => ?_)
          · have h := h.1 bt
            refine elim_some a4 ?_
            obtain ⟨br, am, bu, ay, h⟩ := h
            refine ⟨br, am, bu, ay, ?_⟩
            obtain ⟨ct, bh, h⟩ := h
            refine elim_some bh ?_
            obtain ⟨a7, a8, h⟩ := h
            refine ⟨a7, a8, ?_⟩
            obtain ⟨cj, bm, h⟩ := h
            refine ⟨cj, bm, ?_⟩
            exact h
          · have h := h.2 bt
            obtain ⟨ag, ac, h⟩ := h
            try rw [w64 ag ac]
            obtain ⟨ch, hk, h⟩ := h
            exact ⟨ch, hk, h⟩
        · have h := h.2 (beq_f bx)
          obtain ⟨ag, ac, h⟩ := h
          try rw [w64 ag ac]
          obtain ⟨ci, hk, h⟩ := h
          exact ⟨ci, hk, h⟩
      · have h := h.2 (beq_f av)
        obtain ⟨ag, ac, h⟩ := h
        try rw [w64 ag ac]
        obtain ⟨cf, hk, h⟩ := h
        exact ⟨cf, hk, h⟩
    · have h := h.2 (Int.not_lt.1 (of_decide_eq_false az))
      refine h.mono fun cn cd h => ?_
      obtain ⟨ae, he, h⟩ := h
      refine ⟨ae, he, ?_⟩
      exact h

theorem cachetteref03_Oracle_Sign.go (o1 : Option Addr) (a0 : Int) (a1 : Option Addr) (a2 : Nat) (a3 : Nat) {R : Value → World → Prop} {w : World} (h : cachetteref03_Oracle_Sign.N o1 a0 a1 a2 a3 R w) : Calls Try.prog 60 #[.pointer o1, .int .u64 a0, .slice a1 a2 a3] w fun e w' => ∃ v, e = .returned v ∧ R v w' := cachetteref03_Oracle_Sign.ok o1 a0 a1 a2 a3 (cachetteref03_Oracle_Sign.up o1 a0 a1 a2 a3 h)
/-- (*cachetteref03.Oracle).Verify -/
def cachetteref03_Oracle_Verify.M (o1 : Option Addr) (a3 : Int) (be : Option Addr) (bg : Nat) (bf : Nat) (b1 : Int) (R : Value → World → Prop) (w : World) : Prop :=
 Calls Try.prog 75 #[.pointer o1, .int .u64 a3, .int .i64 4] w fun ay a1 => ∃ (H5 : Int) (a8 : Int) (bb : Option Addr) (b3 : Nat) (b5 : Nat) (b4 : Option Addr) (b2 : Nat) (b6 : Nat) (N9 : Int) (ba : Int) (a6 : Bool), ay = .returned (.tuple #[.agg #[.int .u64 H5, .int .i64 a8, .slice bb b3 b5, .slice b4 b2 b6, .int .u64 N9, .int .u64 ba], .bool a6]) ∧
 thenW (a1.alloc (.cells #[.int .u64 0, .int .i64 0, .slice none 0 0, .slice none 0 0, .int .u64 0, .int .u64 0] 80)) fun aa =>
 canStore aa ((blk a1.heap.size).add 0) ∧
 thenW (aa.setCell ((blk a1.heap.size).add 0) (.int .u64 H5)) fun ai =>
 canStore ai ((blk a1.heap.size).add 1) ∧
 thenW (ai.setCell ((blk a1.heap.size).add 1) (.int .i64 a8)) fun ak =>
 canStore ak ((blk a1.heap.size).add 2) ∧
 thenW (ak.setCell ((blk a1.heap.size).add 2) (.slice bb b3 b5)) fun ar =>
 canStore ar ((blk a1.heap.size).add 3) ∧
 thenW (ar.setCell ((blk a1.heap.size).add 3) (.slice b4 b2 b6)) fun ad =>
 canStore ad ((blk a1.heap.size).add 4) ∧
 thenW (ad.setCell ((blk a1.heap.size).add 4) (.int .u64 N9)) fun ac =>
 canStore ac ((blk a1.heap.size).add 5) ∧
 thenW (ac.setCell ((blk a1.heap.size).add 5) (.int .u64 ba)) fun ax =>
 Calls Try.prog 75 #[.pointer o1, .int .u64 b1, .int .i64 5] ax fun aw a0 => ∃ (b9 : Int) (a5 : Int) (af : Option Addr) (aq : Nat) (an : Nat) (ab : Option Addr) (am : Nat) (ao : Nat) (bc : Int) (bd : Int) (a7 : Bool), aw = .returned (.tuple #[.agg #[.int .u64 b9, .int .i64 a5, .slice af aq an, .slice ab am ao, .int .u64 bc, .int .u64 bd], .bool a7]) ∧
 thenW (a0.alloc (.cells #[.int .u64 0, .int .i64 0, .slice none 0 0, .slice none 0 0, .int .u64 0, .int .u64 0] 80)) fun av =>
 canStore av ((blk a0.heap.size).add 0) ∧
 thenW (av.setCell ((blk a0.heap.size).add 0) (.int .u64 b9)) fun ae =>
 canStore ae ((blk a0.heap.size).add 1) ∧
 thenW (ae.setCell ((blk a0.heap.size).add 1) (.int .i64 a5)) fun a9 =>
 canStore a9 ((blk a0.heap.size).add 2) ∧
 thenW (a9.setCell ((blk a0.heap.size).add 2) (.slice af aq an)) fun al =>
 canStore al ((blk a0.heap.size).add 3) ∧
 thenW (al.setCell ((blk a0.heap.size).add 3) (.slice ab am ao)) fun ah =>
 canStore ah ((blk a0.heap.size).add 4) ∧
 thenW (ah.setCell ((blk a0.heap.size).add 4) (.int .u64 bc)) fun ap =>
 canStore ap ((blk a0.heap.size).add 5) ∧
 thenW (ap.setCell ((blk a0.heap.size).add 5) (.int .u64 bd)) fun a2 =>
 bif a6 then (
 bif a7 then (
 ∃ (b7 : Int), a2.cell? ((blk a0.heap.size).add 4) = some (.int .u64 b7) ∧
 ∃ (b8 : Int), a2.cell? ((blk a1.heap.size).add 4) = some (.int .u64 b8) ∧
 bif b7 == b8 then (
 ∃ (au : Option Addr) (aj : Nat) (ag : Nat), a2.cell? ((blk a0.heap.size).add 2) = some (.slice au aj ag) ∧
 Calls Try.prog 41 #[.slice au aj ag, .slice be bg bf] a2 fun az b0 => ∃ (a4 : Bool), az = .returned (.bool a4) ∧
 R (.bool a4) b0) else (
 R (.bool false) a2)) else (
 R (.bool false) a2)) else (
 R (.bool false) a2)

theorem cachetteref03_Oracle_Verify.eq (o1 : Option Addr) (publicv2 : Int) (b3a : Option Addr) (b3n : Nat) (b3c : Nat) (sig4 : Int) (R : Value → World → Prop) (w : World) : mfunc Try.prog [] 63 [.pointer o1, .int .u64 publicv2, .slice b3a b3n b3c, .int .u64 sig4] R w = cachetteref03_Oracle_Verify.M o1 publicv2 b3a b3n b3c sig4 R w := by kernel_rfl
theorem cachetteref03_Oracle_Verify.ok (o1 : Option Addr) (a0 : Int) (a3 : Option Addr) (a4 : Nat) (a2 : Nat) (a1 : Int) {R : Value → World → Prop} {w : World} (h : cachetteref03_Oracle_Verify.M o1 a0 a3 a4 a2 a1 R w) : Calls Try.prog 63 #[.pointer o1, .int .u64 a0, .slice a3 a4 a2, .int .u64 a1] w fun e w' => ∃ v, e = .returned v ∧ R v w' :=
  mfunc_ok follows (H := []) (args := [.pointer o1, .int .u64 a0, .slice a3 a4 a2, .int .u64 a1]) (by rw [cachetteref03_Oracle_Verify.eq]; exact h)

def cachetteref03_Oracle_Verify.N (o1 : Option Addr) (a2 : Int) (ao : Option Addr) (ay : Nat) (au : Nat) (aj : Int) (R : Value → World → Prop) (w : World) : Prop :=
 Calls Try.prog 75 #[.pointer o1, .int .u64 a2, .int .i64 4] w fun ag aa => ∃ (H5 : Int) (ac : Int) (b0 : Option Addr) (ap : Nat) (av : Nat) (aq : Option Addr) (an : Nat) (ax : Nat) (N9 : Int) (az : Int) (a1 : Bool), ag = .returned (.tuple #[.agg #[.int .u64 H5, .int .i64 ac, .slice b0 ap av, .slice aq an ax, .int .u64 N9, .int .u64 az], .bool a1]) ∧
 ∀ (a6 : World) (am : Nat), Ext no aa a6 → Priv aa a6 [am] →
 Calls Try.prog 75 #[.pointer o1, .int .u64 aj, .int .i64 5] a6 fun ad a5 => ∃ (ar : Int) (a7 : Int) (a8 : Option Addr) (ab : Nat) (a9 : Nat) (al : Option Addr) (ak : Nat) (ae : Nat) (ah : Int) (aw : Int) (a4 : Bool), ad = .returned (.tuple #[.agg #[.int .u64 ar, .int .i64 a7, .slice a8 ab a9, .slice al ak ae, .int .u64 ah, .int .u64 aw], .bool a4]) ∧
 Keep [am] a6 a5 ∧
 (a1 = true →
 (a4 = true →
 (ah = N9 →
 ∀ (a0 : World), Ext no a5 a0 →
 Calls Try.prog 41 #[.slice a8 ab a9, .slice ao ay au] a0 fun ai af => ∃ (a3 : Bool), ai = .returned (.bool a3) ∧
 R (.bool a3) af) ∧
 (ah ≠ N9 →
 ∀ (a0 : World), Ext no a5 a0 →
 R (.bool false) a0)) ∧
 (a4 = false →
 ∀ (a0 : World), Ext no a5 a0 →
 R (.bool false) a0)) ∧
 (a1 = false →
 ∀ (a0 : World), Ext no a5 a0 →
 R (.bool false) a0)

theorem cachetteref03_Oracle_Verify.up (o1 : Option Addr) (a7 : Int) (c0 : Option Addr) (bx : Nat) (c1 : Nat) (an : Int) {R : Value → World → Prop} {w : World} (h : cachetteref03_Oracle_Verify.N o1 a7 c0 bx c1 an R w) : cachetteref03_Oracle_Verify.M o1 a7 c0 bx c1 an R w := by
  unfold cachetteref03_Oracle_Verify.M
  unfold cachetteref03_Oracle_Verify.N at h
  refine h.mono fun c9 a2 h => ?_
  obtain ⟨H5, a5, ap, ao, al, aw, av, au, N9, c3, aq, he, h⟩ := h
  refine ⟨H5, a5, ap, ao, al, aw, av, au, N9, c3, aq, he, ?_⟩
  refine thenW_in fun c7 c2 => ?_
  have a1 := Blk.of_new c2
  have ai := ((Ext.refl no a2)).size
  have bg := (Ext.refl no a2).x_alloc c2
  refine ⟨a1.cani 0 rfl rfl, thenW_in fun bb c4 => ?_⟩
  have bf := bg.x_set (q := a2.heap.size) (i := 0) rfl (.inr ai) c4
  have a1 : Blk bb a2.heap.size 80 [.int .u64 H5, .int .i64 0, .slice none 0 0, .slice none 0 0, .int .u64 0, .int .u64 0] := a1.seti 0 rfl c4
  refine ⟨a1.cani 1 rfl rfl, thenW_in fun bl bu => ?_⟩
  have bn := bf.x_set (q := a2.heap.size) (i := 1) rfl (.inr ai) bu
  have a1 : Blk bl a2.heap.size 80 [.int .u64 H5, .int .i64 a5, .slice none 0 0, .slice none 0 0, .int .u64 0, .int .u64 0] := a1.seti 1 rfl bu
  refine ⟨a1.cani 2 rfl rfl, thenW_in fun bo c6 => ?_⟩
  have br := bn.x_set (q := a2.heap.size) (i := 2) rfl (.inr ai) c6
  have a1 : Blk bo a2.heap.size 80 [.int .u64 H5, .int .i64 a5, .slice ap ao al, .slice none 0 0, .int .u64 0, .int .u64 0] := a1.seti 2 rfl c6
  refine ⟨a1.cani 3 rfl rfl, thenW_in fun ay bv => ?_⟩
  have b5 := br.x_set (q := a2.heap.size) (i := 3) rfl (.inr ai) bv
  have a1 : Blk ay a2.heap.size 80 [.int .u64 H5, .int .i64 a5, .slice ap ao al, .slice aw av au, .int .u64 0, .int .u64 0] := a1.seti 3 rfl bv
  refine ⟨a1.cani 4 rfl rfl, thenW_in fun b7 bz => ?_⟩
  have bd := b5.x_set (q := a2.heap.size) (i := 4) rfl (.inr ai) bz
  have a1 : Blk b7 a2.heap.size 80 [.int .u64 H5, .int .i64 a5, .slice ap ao al, .slice aw av au, .int .u64 N9, .int .u64 0] := a1.seti 4 rfl bz
  refine ⟨a1.cani 5 rfl rfl, thenW_in fun ak bw => ?_⟩
  have b9 := bd.x_set (q := a2.heap.size) (i := 5) rfl (.inr ai) bw
  have a1 : Blk ak a2.heap.size 80 [.int .u64 H5, .int .i64 a5, .slice ap ao al, .slice aw av au, .int .u64 N9, .int .u64 c3] := a1.seti 5 rfl bw
  have h := h ak (a2.heap.size) b9 (Priv.cons ai a1.lt Priv.nil)
  refine h.mono fun cc a0 h => ?_
  obtain ⟨ag, a3, a8, a9, aa, af, ae, ac, ar, c5, am, he, hk, h⟩ := h
  refine ⟨ag, a3, a8, a9, aa, af, ae, ac, ar, c5, am, he, ?_⟩
  have a1 := hk.blk a1 (by simp)
  refine thenW_in fun c8 b0 => ?_
  have a4 := Blk.of_new b0
  have aj := ((Ext.refl no a0)).size
  have a6 := Nat.ne_of_lt a1.lt
  have a1 := a1.x_alloc b0
  have bq := (Ext.refl no a0).x_alloc b0
  refine ⟨a4.cani 0 rfl rfl, thenW_in fun bp b2 => ?_⟩
  have ba := bq.x_set (q := a0.heap.size) (i := 0) rfl (.inr aj) b2
  have a1 := a1.oth (q := a0.heap.size) (i := 0) rfl a6 b2
  have a4 : Blk bp a0.heap.size 80 [.int .u64 ag, .int .i64 0, .slice none 0 0, .slice none 0 0, .int .u64 0, .int .u64 0] := a4.seti 0 rfl b2
  refine ⟨a4.cani 1 rfl rfl, thenW_in fun b3 b8 => ?_⟩
  have b1 := ba.x_set (q := a0.heap.size) (i := 1) rfl (.inr aj) b8
  have a1 := a1.oth (q := a0.heap.size) (i := 1) rfl a6 b8
  have a4 : Blk b3 a0.heap.size 80 [.int .u64 ag, .int .i64 a3, .slice none 0 0, .slice none 0 0, .int .u64 0, .int .u64 0] := a4.seti 1 rfl b8
  refine ⟨a4.cani 2 rfl rfl, thenW_in fun bk bi => ?_⟩
  have b4 := b1.x_set (q := a0.heap.size) (i := 2) rfl (.inr aj) bi
  have a1 := a1.oth (q := a0.heap.size) (i := 2) rfl a6 bi
  have a4 : Blk bk a0.heap.size 80 [.int .u64 ag, .int .i64 a3, .slice a8 a9 aa, .slice none 0 0, .int .u64 0, .int .u64 0] := a4.seti 2 rfl bi
  refine ⟨a4.cani 3 rfl rfl, thenW_in fun b6 be => ?_⟩
  have ax := b4.x_set (q := a0.heap.size) (i := 3) rfl (.inr aj) be
  have a1 := a1.oth (q := a0.heap.size) (i := 3) rfl a6 be
  have a4 : Blk b6 a0.heap.size 80 [.int .u64 ag, .int .i64 a3, .slice a8 a9 aa, .slice af ae ac, .int .u64 0, .int .u64 0] := a4.seti 3 rfl be
  refine ⟨a4.cani 4 rfl rfl, thenW_in fun bm az => ?_⟩
  have bc := ax.x_set (q := a0.heap.size) (i := 4) rfl (.inr aj) az
  have a1 := a1.oth (q := a0.heap.size) (i := 4) rfl a6 az
  have a4 : Blk bm a0.heap.size 80 [.int .u64 ag, .int .i64 a3, .slice a8 a9 aa, .slice af ae ac, .int .u64 ar, .int .u64 0] := a4.seti 4 rfl az
  refine ⟨a4.cani 5 rfl rfl, thenW_in fun ab bs => ?_⟩
  have ad := bc.x_set (q := a0.heap.size) (i := 5) rfl (.inr aj) bs
  have a1 := a1.oth (q := a0.heap.size) (i := 5) rfl a6 bs
  have a4 : Blk ab a0.heap.size 80 [.int .u64 ag, .int .i64 a3, .slice a8 a9 aa, .slice af ae ac, .int .u64 ar, .int .u64 c5] := a4.seti 5 rfl bs
  refine bif_of (fun bh => ?_) (fun bh => ?_)
  · have h := h.1 bh
    refine bif_of (fun bt => ?_) (fun bt => ?_)
    · have h := h.1 bt
      refine ⟨ar, a4.celli 4 rfl rfl, ?_⟩
      refine ⟨N9, a1.celli 4 rfl rfl, ?_⟩
      refine bif_of (fun bj => ?_) (fun bj => ?_)
      · have h := h.1 (beq_t bj)
        refine ⟨a8, a9, aa, a4.celli 2 rfl rfl, ?_⟩
        have h := h ab ad
        refine h.mono fun cb ca h => ?_
        obtain ⟨ah, he, h⟩ := h
        refine ⟨ah, he, ?_⟩
        exact h
      · have h := h.2 (beq_f bj)
        have h := h ab ad
        exact h
    · have h := h.2 bt
      have h := h ab ad
      exact h
  · have h := h.2 bh
    have h := h ab ad
    exact h

theorem cachetteref03_Oracle_Verify.go (o1 : Option Addr) (a0 : Int) (a3 : Option Addr) (a4 : Nat) (a2 : Nat) (a1 : Int) {R : Value → World → Prop} {w : World} (h : cachetteref03_Oracle_Verify.N o1 a0 a3 a4 a2 a1 R w) : Calls Try.prog 63 #[.pointer o1, .int .u64 a0, .slice a3 a4 a2, .int .u64 a1] w fun e w' => ∃ v, e = .returned v ∧ R v w' := cachetteref03_Oracle_Verify.ok o1 a0 a3 a4 a2 a1 (cachetteref03_Oracle_Verify.up o1 a0 a3 a4 a2 a1 h)
theorem cachetteref03_Oracle_Verify.run (o1 : Option Addr) (a0 : Int) (a3 : Option Addr) (a4 : Nat) (a2 : Nat) (a1 : Int) {V : Value} {Q : World → Prop} {w : World} (h : cachetteref03_Oracle_Verify.N o1 a0 a3 a4 a2 a1 (fun v w' => v = V ∧ Q w') w) : Calls Try.prog 63 #[.pointer o1, .int .u64 a0, .slice a3 a4 a2, .int .u64 a1] w (Ret V Q) := (cachetteref03_Oracle_Verify.go o1 a0 a3 a4 a2 a1 h).mono fun e w' ⟨v, he, hv, hq⟩ => ⟨by rw [he, hv], hq⟩

def isR (L : List RRow) (x kind : Int) : Option RRow := (L.find? fun r => r.h == x).bind fun r => if r.kind = kind then some r else none
def hashR (d : List Int) (L : List RRow) (b : List UInt8) : Int × List Int × List RRow :=
  match L.find? (fun r => r.kind == 1 && decide (r.A = b)) with
  | some r => (r.h, d, L)
  | none => putR d L ⟨0, 1, b, [], 0, 0⟩
def pairR (d : List Int) (L : List RRow) : (Int × Int) × List Int × List RRow :=
  let p := putR d L ⟨0, 3, [], [], 0, 0⟩
  let q := putR p.2.1 p.2.2 ⟨0, 4, [], [], p.1, 0⟩
  ((p.1, q.1), q.2)
def signR (d : List Int) (L : List RRow) (s : Int) (b : List UInt8) : (Int × Int) × List Int × List RRow :=
  match isR L s 3 with
  | none => ((0, 11), d, L)
  | some _ =>
    match L.find? (fun r => r.kind == 5 && (r.n == s && decide (r.A = b))) with
    | some r => ((r.h, 0), d, L)
    | none => let q := putR d L ⟨0, 5, b, [], s, 0⟩; ((q.1, 0), q.2)
def verifyR (L : List RRow) (p : Int) (b : List UInt8) (x : Int) : Bool :=
  match isR L p 4, isR L x 5 with
  | some y, some z => decide (z.n = y.n ∧ z.A = b)
  | _, _ => false
def zeroC : Value := .agg #[.int .u64 0, .int .i64 0, .slice none 0 0, .slice none 0 0, .int .u64 0, .int .u64 0]
def PR.V (x : PR) : Value := .agg #[.int .u64 x.r.h, .int .i64 x.r.kind, .slice x.aA x.r.A.length x.cA, .slice x.aB x.r.B.length x.cB, .int .u64 x.r.n, .int .u64 x.r.m]
section
variable {w w' : World} {o o' : Own} {k : Nat} {K : Nat → Prop} {d : List Int} {R : List PR} {L : List RRow}
theorem atI_some {L : List RRow} {x : Int} {i : Nat} (h : atI L x = i) : ∃ hi : i < L.length, L[i].h = x ∧ L.find? (fun r => r.h == x) = some L[i] := by
  unfold atI at h
  cases hf : L.findIdx? (fun r => r.h == x) with
  | none => rw [hf] at h; simp at h
  | some j =>
    rw [hf] at h
    have : j = i := by simp at h; omega
    subst this
    rw [List.findIdx?_eq_some_iff_getElem] at hf
    obtain ⟨h1, h2, h3⟩ := hf
    refine ⟨h1, by simpa using h2, ?_⟩
    rw [List.find?_eq_some_iff_getElem]
    exact ⟨h2, j, h1, rfl, fun q hq => by simpa using h3 q hq⟩
theorem atI_none {L : List RRow} {x : Int} (h : atI L x < 0) : L.find? (fun r => r.h == x) = none := by
  rw [List.find?_eq_none]
  intro r hr
  have h1 : x ∉ L.map (·.h) := fun hm => by have := (atI_mem L x).2 hm; omega
  intro e
  exact h1 (List.mem_map.2 ⟨r, hr, by simpa using e⟩)
theorem is_spec (h : ROrcP w o k d R) (ht : Tags w o) (hl : R.length < 1000000) (x kind : Int) :
    Calls Try.prog 75 #[.pointer (some (blk k)), .int .u64 x, .int .i64 kind] w (fun e w' => Ext no w w' ∧ ((isR (R.map PR.r) x kind = none ∧ e = .returned (.tuple #[zeroC, .bool false])) ∨ ∃ y ∈ R, isR (R.map PR.r) x kind = some y.r ∧ e = .returned (.tuple #[y.V, .bool true]))) := by
  refine (cachetteref03_Oracle_is.go _ _ _ (R := fun v w' => Ext no w w' ∧ ((isR (R.map PR.r) x kind = none ∧ v = .tuple #[zeroC, .bool false]) ∨ ∃ y ∈ R, isR (R.map PR.r) x kind = some y.r ∧ v = .tuple #[y.V, .bool true])) ?_).mono fun e w' ⟨v, he, hx, hv⟩ => ⟨hx, hv.imp (fun ⟨a, b⟩ => ⟨a, by rw [he, b]⟩) fun ⟨y, a, b, c⟩ => ⟨y, a, b, by rw [he, c]⟩⟩
  unfold cachetteref03_Oracle_is.N
  intro w4 p5 X4 hp
  have hp := hp.one
  have X5 : ∀ {w1}, Ext (fun b => b = p5) w4 w1 → Ext no w w1 := fun h => X4.then h fun b hb => .inr (by omega)
  obtain ⟨da, dc, la, lc, h1, h2, h3, h4, h5⟩ := id h.at_
  have hb4 := h1.ext X4 id
  have hat : Calls Try.prog 46 #[.pointer (some (blk k)), .int .u64 x] w4 (Ret (.int .i64 (atI (R.map PR.r) x)) fun w' => w' = w4) := by
    exact at_spec (h.step (Step.of_no X4 ht) id) hl x
  refine hat.mono fun e w8 ⟨he, hw⟩ => ⟨_, he, by subst hw; exact Keep.refl _ _, fun hn => ?_, fun hn => ?_⟩ <;> subst hw
  · intro w15 X15
    refine ⟨X5 X15, .inl ⟨?_, rfl⟩⟩
    unfold isR
    rw [atI_none hn]; rfl
  · obtain ⟨i, hi⟩ : ∃ i : Nat, atI (R.map PR.r) x = i := ⟨(atI (R.map PR.r) x).toNat, by omega⟩
    obtain ⟨hil, hih, hif⟩ := atI_some hi
    rw [List.length_map] at hil
    rw [hi]
    have hg : R[i]? = some R[i] := List.getElem?_eq_getElem hil
    rw [List.getElem_map] at hih hif
    have hrow := h4.row.no X4
    obtain ⟨ad, ha⟩ := hrow.addr (Cs_ne (by intro e; subst e; simp at hil))
    refine ⟨_, rfl, la, R.length, lc, hb4.cella (i := 1) rfl, ad, ha, by omega, by omega, R[i].r.kind, by rw [Int.toNat_natCast]; exact row_cell hrow ha hg (j := 1) rfl, fun hk => ?_, fun hk => ?_⟩
    · intro w28 X28
      refine ⟨X5 X28, .inl ⟨?_, rfl⟩⟩
      unfold isR
      rw [hif]
      show (if R[i].r.kind = kind then some R[i].r else none) = none
      rw [if_neg hk]
    · refine ⟨la, R.length, lc, hb4.cella (i := 1) rfl, ad, ha, by omega, by omega, R[i].r.h, R[i].r.kind, R[i].aA, _, R[i].cA, R[i].aB, _, R[i].cB, R[i].r.n, R[i].r.m, ?_, fun w44 X44 => ⟨X5 X44, .inr ⟨R[i], List.getElem_mem hil, ?_, rfl⟩⟩⟩
      · rw [Int.toNat_natCast]
        exact ⟨row_cell hrow ha hg (j := 0) rfl, row_cell hrow ha hg (j := 1) rfl, row_cell hrow ha hg (j := 2) rfl, row_cell hrow ha hg (j := 3) rfl, row_cell hrow ha hg (j := 4) rfl, row_cell hrow ha hg (j := 5) rfl, trivial⟩
      · unfold isR
        rw [hif]
        show (if R[i].r.kind = kind then some R[i].r else none) = _
        rw [if_pos hk]
/-- what is asked of a row. -/
structure ROk (w : World) (o : Own) (d : List Int) (L : List RRow) : Prop where
  tags : Tags w o
  draws : ∀ x ∈ d, 0 ≤ x ∧ x < 18446744073709551616
  short : L.length < 1000000
  bytes : ∀ r ∈ L, r.A.length < 1000000 ∧ r.B.length < 1000000
theorem freshR_draws {d used : List Int} (hd : ∀ x ∈ d, 0 ≤ x ∧ x < 18446744073709551616) : ∀ x ∈ (freshR d used).2, 0 ≤ x ∧ x < 18446744073709551616 := fun x hx => by
  unfold freshR at hx
  cases hp : pickD d used with
  | none => rw [hp] at hx; simp at hx
  | some q => obtain ⟨a, b⟩ := q; rw [hp] at hx; exact hd x (pickD_rest hp x hx)
theorem putR_len (d : List Int) (L : List RRow) (r : RRow) : (putR d L r).2.2.length = L.length + 1 := by simp [putR]
theorem rPair_spec (h : ROrc w o k d L) (hk : ROk w o d L) (hl : L.length + 1 < 1000000) :
    Calls Try.prog 9 #[.pointer (some (blk k))] w (Gs (fun j => j = k) w o (.tuple #[.int .u64 (pairR d L).1.1, .int .u64 (pairR d L).1.2]) fun w' o' => ROrc w' o' k (pairR d L).2.1 (pairR d L).2.2) := by
  refine (cachetteref03_Oracle_Pair.go _ (R := fun v w' => ∃ o', v = .tuple #[.int .u64 (pairR d L).1.1, .int .u64 (pairR d L).1.2] ∧ Step (fun j => j = k) w o w' o' ∧ ROrc w' o' k (pairR d L).2.1 (pairR d L).2.2) ?_).mono fun e w' ⟨v, he, o', hv, hw⟩ => ⟨o', by rw [he, hv], hw⟩
  unfold cachetteref03_Oracle_Pair.N
  have z : ∀ (w : World) (o : Own) (kd n : Int), PR.ok w o ⟨⟨0, kd, [], [], n, 0⟩, none, 0, none, 0⟩ := fun w o kd n => ⟨Row.nil _ _ _, Row.nil _ _ _, Nat.le_refl _, Nat.le_refl _⟩
  refine (put_spec h hk.tags hk.draws hk.short ⟨⟨0, 3, [], [], 0, 0⟩, none, 0, none, 0⟩ (z _ _ _ _)).mono fun e w4 ⟨o4, he, s4, h4⟩ => ⟨_, he, ?_⟩
  refine (put_spec h4 s4.ok (freshR_draws hk.draws) (by rw [putR_len]; exact hl) ⟨⟨0, 4, [], [], (putR d L ⟨0, 3, [], [], 0, 0⟩).1, 0⟩, none, 0, none, 0⟩ (z _ _ _ _)).mono fun e w7 ⟨o7, he, s7, h7⟩ => ⟨_, he, o7, rfl, s4.trans s7, h7⟩
/-- a walk through the rows: none of those ahead is the one. -/
theorem find_at {L : List RRow} {p : RRow → Bool} {t : Nat} (hn : ∀ y ∈ L.take t, p y = false) (ht : t < L.length) (hp : p L[t] = true) : L.find? p = some L[t] := by
  rw [List.find?_eq_some_iff_getElem]
  exact ⟨hp, t, ht, rfl, fun j hj => by simp [hn L[j] (List.mem_take_iff_getElem.2 ⟨j, by omega, rfl⟩)]⟩
theorem find_end {L : List RRow} {p : RRow → Bool} (hn : ∀ y ∈ L, p y = false) : L.find? p = none := by
  rw [List.find?_eq_none]; intro y hy; simp [hn y hy]
theorem take_step {α : Type} {L : List α} {P : α → Prop} {t : Nat} (hn : ∀ y ∈ L.take t, P y) (ht : t < L.length) (hp : P L[t]) : ∀ y ∈ L.take (t + 1), P y := fun y hy => by
  rw [List.take_add_one, List.getElem?_eq_getElem ht] at hy
  rcases List.mem_append.1 hy with hy | hy
  · exact hn y hy
  · simp at hy; rw [hy]; exact hp
theorem rHash_spec (h : ROrc w o k d L) (hk : ROk w o d L) {a : Option Addr} {c : Nat} {b : List UInt8} (hr : Row w o a (bytesV b)) (hc : b.length ≤ c) :
    Calls Try.prog 67 #[.pointer (some (blk k)), .slice a b.length c] w (Gs (fun j => j = k) w o (.int .u64 (hashR d L b).1) fun w' o' => ROrc w' o' k (hashR d L b).2.1 (hashR d L b).2.2) := by
  refine (cachetteref03_Oracle_Hash.go _ _ _ _ (R := fun v w' => ∃ o', v = .int .u64 (hashR d L b).1 ∧ Step (fun j => j = k) w o w' o' ∧ ROrc w' o' k (hashR d L b).2.1 (hashR d L b).2.2) ?_).mono fun e w' ⟨v, he, o', hv, hw⟩ => ⟨o', by rw [he, hv], hw⟩
  unfold cachetteref03_Oracle_Hash.N
  obtain ⟨R, hLR, h0⟩ := id h
  have hlen : L.length = R.length := by rw [hLR, List.length_map]
  have hget : ∀ t (ht : t < R.length), L[t]'(by omega) = R[t].r := fun t ht => by simp [hLR]
  refine ⟨fun q vs w1 => ∃ (t : Nat) (o1 : Own), vs = [.int .i64 t] ∧ q + t = L.length ∧ (∀ y ∈ L.take t, (y.kind == 1 && decide (y.A = b)) = false) ∧ Step no w o w1 o1, L.length, ⟨0, o, rfl, rfl, by simp, Step.refl _ hk.tags⟩, ?_⟩
  rintro q w1 i ⟨t, o1, hi, hq, hn, s1⟩
  simp only [List.cons.injEq, Value.int.injEq, true_and, and_true] at hi
  subst hi
  have h1 := h0.step s1 id
  obtain ⟨da, dc, la, lc, b1, b2, b3, b4, b5⟩ := id h1.at_
  have hk1 := hk.short
  refine ⟨_, rfl, la, R.length, lc, b1.cella (i := 1) rfl, fun ht => ?_, fun ht => ?_⟩
  · have htl : t < R.length := by omega
    have htL : t < L.length := by omega
    have hg : R[t]? = some R[t] := List.getElem?_eq_getElem htl
    obtain ⟨ad, ha⟩ := b4.row.addr (Cs_ne (by intro e; subst e; simp at htl))
    have hst := hk.bytes L[t] (List.getElem_mem htL)
    rw [hget t htl] at hst
    refine ⟨la, R.length, lc, b1.cella (i := 1) rfl, ad, ha, by omega, by omega, R[t].r.kind, by rw [Int.toNat_natCast]; exact row_cell b4.row ha hg (j := 1) rfl, fun hkd => ?_, fun hkd => ?_⟩
    · refine ⟨la, R.length, lc, b1.cella (i := 1) rfl, ad, ha, by omega, by omega, R[t].aA, _, R[t].cA, by rw [Int.toNat_natCast]; exact row_cell b4.row ha hg (j := 2) rfl, ?_⟩
      refine (W.sameB_spec (h1.rows R[t] (List.getElem_mem htl)).1.1 (hr.step s1).1 (by omega)).mono fun e w24 ⟨he, X24⟩ => ⟨_, he, fun hs => ?_, fun hs => ?_⟩
      · have hs := of_decide_eq_true hs
        have s24' := Step.of_no X24 s1.ok
        have s24 := s1.trans s24'
        have h24 := h1.step s24' id
        obtain ⟨da, dc, la, lc, b1, b2, b3, b4, b5⟩ := id h24.at_
        obtain ⟨ad, ha⟩ := b4.row.addr (Cs_ne (by intro e; subst e; simp at htl))
        have hf : L.find? (fun r => r.kind == 1 && decide (r.A = b)) = some L[t] := find_at hn htL (by rw [hget t htl, hkd, hs]; simp)
        have hres : hashR d L b = (R[t].r.h, d, L) := by unfold hashR; rw [hf]; simp only [hget t htl]
        rw [hres]
        exact ⟨la, R.length, lc, b1.cella (i := 1) rfl, ad, ha, by omega, by omega, R[t].r.h, by rw [Int.toNat_natCast]; exact row_cell b4.row ha hg (j := 0) rfl, _, rfl, s24.none, R, hLR, h24⟩
      · have hs := of_decide_eq_false hs
        exact ⟨by omega, by omega, q - 1, by omega, t + 1, grow w1 o1, rfl, by omega, take_step hn htL (by rw [hget t htl]; simp [hs]), s1.trans (Step.of_no X24 s1.ok)⟩
    · exact ⟨by omega, by omega, q - 1, by omega, t + 1, o1, rfl, by omega, take_step hn htL (by rw [hget t htl]; simp [hkd]), s1⟩
  · obtain rfl : t = L.length := by omega
    rw [List.take_length] at hn
    have hres : hashR d L b = putR d L ⟨0, 1, b, [], 0, 0⟩ := by unfold hashR; rw [find_end hn]
    rw [hres]
    refine (put_spec (h.step s1 id) s1.ok hk.draws hk.short ⟨⟨0, 1, b, [], 0, 0⟩, a, c, none, 0⟩ ⟨hr.step s1, Row.nil _ _ _, hc, Nat.le_refl _⟩).mono fun e w35 ⟨o35, he, s35, h35⟩ => ⟨_, he, o35, rfl, s1.none.trans s35, h35⟩
theorem rSign_spec (h : ROrc w o k d L) (hk : ROk w o d L) (s : Int) {a : Option Addr} {c : Nat} {b : List UInt8} (hr : Row w o a (bytesV b)) (hc : b.length ≤ c) :
    Calls Try.prog 60 #[.pointer (some (blk k)), .int .u64 s, .slice a b.length c] w (Gs (fun j => j = k) w o (.tuple #[.int .u64 (signR d L s b).1.1, .int .i64 (signR d L s b).1.2]) fun w' o' => ROrc w' o' k (signR d L s b).2.1 (signR d L s b).2.2) := by
  refine (cachetteref03_Oracle_Sign.go _ _ _ _ _ (R := fun v w' => ∃ o', v = .tuple #[.int .u64 (signR d L s b).1.1, .int .i64 (signR d L s b).1.2] ∧ Step (fun j => j = k) w o w' o' ∧ ROrc w' o' k (signR d L s b).2.1 (signR d L s b).2.2) ?_).mono fun e w' ⟨v, he, o', hv, hw⟩ => ⟨o', by rw [he, hv], hw⟩
  unfold cachetteref03_Oracle_Sign.N
  obtain ⟨R, hLR, h0⟩ := id h
  have hlen : L.length = R.length := by rw [hLR, List.length_map]
  have hk1 := hk.short
  have hget : ∀ t (ht : t < R.length), L[t]'(by omega) = R[t].r := fun t ht => by simp [hLR]
  refine (is_spec h0 hk.tags (by omega) s 3).mono fun e w12 ⟨X12, hor⟩ => ?_
  rw [← hLR] at hor
  have s12 := Step.of_no X12 hk.tags
  rcases hor with ⟨hn, he⟩ | ⟨y, hy, hn, he⟩
  · refine ⟨_, _, _, _, _, _, _, _, _, _, _, he, fun _ w19 X19 => ?_, fun h => (by cases h)⟩
    have s19' := Step.of_no X19 s12.ok
    have s19 := s12.trans s19'
    have hres : signR d L s b = ((0, 11), d, L) := by unfold signR; rw [hn]
    rw [hres]
    exact ⟨_, rfl, s19.none, h.step s19 id⟩
  · refine ⟨_, _, _, _, _, _, _, _, _, _, _, he, fun h => (by cases h), fun _ w19 X19 => ?_⟩
    have s19' := Step.of_no X19 s12.ok
    have s19 := s12.trans s19'
    refine ⟨fun q vs w1 => ∃ (t : Nat) (o1 : Own), vs = [.int .i64 t] ∧ q + t = L.length ∧ (∀ y ∈ L.take t, (y.kind == 5 && (y.n == s && decide (y.A = b))) = false) ∧ Step no w o w1 o1, L.length, ⟨0, _, rfl, rfl, by simp, s19⟩, ?_⟩
    rintro q w1 i ⟨t, o1, hi, hq, hne, s1⟩
    simp only [List.cons.injEq, Value.int.injEq, true_and, and_true] at hi
    subst hi
    have h1 := h0.step s1 id
    obtain ⟨da, dc, la, lc, b1, b2, b3, b4, b5⟩ := id h1.at_
    refine ⟨_, rfl, la, R.length, lc, b1.cella (i := 1) rfl, fun ht => ?_, fun ht => ?_⟩
    · have htl : t < R.length := by omega
      have htL : t < L.length := by omega
      have hg : R[t]? = some R[t] := List.getElem?_eq_getElem htl
      obtain ⟨ad, ha⟩ := b4.row.addr (Cs_ne (by intro e; subst e; simp at htl))
      have hst := hk.bytes L[t] (List.getElem_mem htL)
      rw [hget t htl] at hst
      refine ⟨la, R.length, lc, b1.cella (i := 1) rfl, ad, ha, by omega, by omega, R[t].r.kind, by rw [Int.toNat_natCast]; exact row_cell b4.row ha hg (j := 1) rfl, fun hkd => ?_, fun hkd => ?_⟩
      · refine ⟨la, R.length, lc, b1.cella (i := 1) rfl, ad, ha, by omega, by omega, R[t].r.n, by rw [Int.toNat_natCast]; exact row_cell b4.row ha hg (j := 4) rfl, fun hnn => ?_, fun hnn => ?_⟩
        · refine ⟨la, R.length, lc, b1.cella (i := 1) rfl, ad, ha, by omega, by omega, R[t].aA, _, R[t].cA, by rw [Int.toNat_natCast]; exact row_cell b4.row ha hg (j := 2) rfl, ?_⟩
          refine (W.sameB_spec (h1.rows R[t] (List.getElem_mem htl)).1.1 (hr.step s1).1 (by omega)).mono fun e w24 ⟨he, X24⟩ => ⟨_, he, fun hs => ?_, fun hs => ?_⟩
          · have hs := of_decide_eq_true hs
            have s24' := Step.of_no X24 s1.ok
            have s24 := s1.trans s24'
            have h24 := h1.step s24' id
            obtain ⟨da, dc, la, lc, b1, b2, b3, b4, b5⟩ := id h24.at_
            obtain ⟨ad, ha⟩ := b4.row.addr (Cs_ne (by intro e; subst e; simp at htl))
            have hf : L.find? (fun r => r.kind == 5 && (r.n == s && decide (r.A = b))) = some L[t] := find_at hne htL (by rw [hget t htl, hkd, hnn, hs]; simp)
            have hres : signR d L s b = ((R[t].r.h, 0), d, L) := by unfold signR; rw [hn]; simp only [hf, hget t htl]
            rw [hres]
            exact ⟨la, R.length, lc, b1.cella (i := 1) rfl, ad, ha, by omega, by omega, R[t].r.h, by rw [Int.toNat_natCast]; exact row_cell b4.row ha hg (j := 0) rfl, _, rfl, s24.none, R, hLR, h24⟩
          · have hs := of_decide_eq_false hs
            exact ⟨by omega, by omega, q - 1, by omega, t + 1, grow w1 o1, rfl, by omega, take_step hne htL (by rw [hget t htl]; simp [hs]), s1.trans (Step.of_no X24 s1.ok)⟩
        · exact ⟨by omega, by omega, q - 1, by omega, t + 1, o1, rfl, by omega, take_step hne htL (by rw [hget t htl]; simp [hnn]), s1⟩
      · exact ⟨by omega, by omega, q - 1, by omega, t + 1, o1, rfl, by omega, take_step hne htL (by rw [hget t htl]; simp [hkd]), s1⟩
    · obtain rfl : t = L.length := by omega
      rw [List.take_length] at hne
      have hres : signR d L s b = (((putR d L ⟨0, 5, b, [], s, 0⟩).1, 0), (putR d L ⟨0, 5, b, [], s, 0⟩).2) := by unfold signR; rw [hn]; simp only [find_end hne]
      rw [hres]
      refine (put_spec (h.step s1 id) s1.ok hk.draws hk.short ⟨⟨0, 5, b, [], s, 0⟩, a, c, none, 0⟩ ⟨hr.step s1, Row.nil _ _ _, hc, Nat.le_refl _⟩).mono fun e w35 ⟨o35, he, s35, h35⟩ => ⟨_, he, o35, rfl, s1.none.trans s35, h35⟩
theorem rVerify_spec (h : ROrc w o k d L) (hk : ROk w o d L) (p x : Int) {a : Option Addr} {c : Nat} {b : List UInt8} (hr : Row w o a (bytesV b)) :
    Calls Try.prog 63 #[.pointer (some (blk k)), .int .u64 p, .slice a b.length c, .int .u64 x] w (Ret (.bool (verifyR L p b x)) fun w' => Ext no w w') := by
  refine cachetteref03_Oracle_Verify.run _ _ _ _ _ _ ?_
  unfold cachetteref03_Oracle_Verify.N
  obtain ⟨R, hLR, h0⟩ := id h
  have hlen : L.length = R.length := by rw [hLR, List.length_map]
  have hk1 := hk.short
  refine (is_spec h0 hk.tags (by omega) p 4).mono fun e w13 ⟨X13, hor⟩ => ?_
  rw [← hLR] at hor
  have s13 := Step.of_no X13 hk.tags
  have rest : ∀ (w20 : World) (p21 : Nat), Ext no w13 w20 → Priv w13 w20 [p21] → ∀ (N9 : Int) (b1 : Bool), (isR L p 4 = none ∧ b1 = false ∨ ∃ y, isR L p 4 = some y ∧ b1 = true ∧ y.n = N9) →
      Calls Try.prog 75 #[.pointer (some (blk k)), .int .u64 x, .int .i64 5] w20 fun ee29 ww30 => ∃ (H22 : Int) (Kind23 : Int) (A24a : Option Addr) (A24n : Nat) (A24c : Nat) (B25a : Option Addr) (B25n : Nat) (B25c : Nat) (N26 : Int) (M27 : Int) (isv28 : Bool), ee29 = .returned (.tuple #[.agg #[.int .u64 H22, .int .i64 Kind23, .slice A24a A24n A24c, .slice B25a B25n B25c, .int .u64 N26, .int .u64 M27], .bool isv28]) ∧
      Keep [p21] w20 ww30 ∧
      (b1 = true →
        (isv28 = true →
          (N26 = N9 →
            ∀ (ww37 : World), Ext no ww30 ww37 →
            Calls Try.prog 41 #[.slice A24a A24n A24c, .slice a b.length c] ww37 fun ee43 ww44 => ∃ (same42 : Bool), ee43 = .returned (.bool same42) ∧
            (Value.bool same42 = .bool (verifyR L p b x) ∧ Ext no w ww44)) ∧
          (N26 ≠ N9 →
            ∀ (ww37 : World), Ext no ww30 ww37 →
            (Value.bool false = .bool (verifyR L p b x) ∧ Ext no w ww37))) ∧
        (isv28 = false →
          ∀ (ww37 : World), Ext no ww30 ww37 →
          (Value.bool false = .bool (verifyR L p b x) ∧ Ext no w ww37))) ∧
      (b1 = false →
        ∀ (ww37 : World), Ext no ww30 ww37 →
        (Value.bool false = .bool (verifyR L p b x) ∧ Ext no w ww37)) := fun w20 p21 X20 hp N9 b1 hb1 => by
    have s20' := Step.of_no X20 s13.ok
    have s20 := s13.trans s20'
    refine (is_spec (h0.step s20 id) s20.ok (by omega) x 5).mono fun e w30 ⟨X30, hor⟩ => ?_
    rw [← hLR] at hor
    have Y30 := (X13.trans X20).trans X30
    have s30 := s20.trans (Step.of_no X30 s20.ok)
    rcases hor with ⟨hn, he⟩ | ⟨y, hy, hn, he⟩
    · have hf : verifyR L p b x = false := by unfold verifyR; rw [hn]; cases isR L p 4 <;> rfl
      exact ⟨_, _, _, _, _, _, _, _, _, _, _, he, X30.kept, fun _ => ⟨fun h => (by cases h), fun _ w37 X37 => ⟨by rw [hf], Y30.trans X37⟩⟩, fun _ w37 X37 => ⟨by rw [hf], Y30.trans X37⟩⟩
    · rcases hb1 with ⟨h4, rfl⟩ | ⟨z, h4, rfl, hz⟩
      · have hf : verifyR L p b x = false := by unfold verifyR; rw [h4]
        exact ⟨_, _, _, _, _, _, _, _, _, _, _, he, X30.kept, fun h => (by cases h), fun _ w37 X37 => ⟨by rw [hf], Y30.trans X37⟩⟩
      · have hv : verifyR L p b x = decide (y.r.n = z.n ∧ y.r.A = b) := by unfold verifyR; rw [h4, hn]
        refine ⟨_, _, _, _, _, _, _, _, _, _, _, he, X30.kept, fun _ => ⟨fun _ => ⟨fun hnn w37 X37 => ?_, fun hnn w37 X37 => ⟨by rw [hv, decide_eq_false fun h => hnn (h.1.trans hz)], Y30.trans X37⟩⟩, fun h => (by cases h)⟩, fun h => (by cases h)⟩
        have s37 := s30.trans (Step.of_no X37 s30.ok)
        have hyL : y.r ∈ L := by rw [hLR]; exact List.mem_map.2 ⟨y, hy, rfl⟩
        refine (W.sameB_spec ((h0.rows y hy).step s37).1.1 (hr.step s37).1 (hk.bytes _ hyL).1).mono fun e w44 ⟨he, X44⟩ => ⟨_, he, ?_, (Y30.trans X37).trans X44⟩
        rw [hv]
        congr 1
        rw [decide_eq_decide]
        exact ⟨fun h => ⟨hnn.trans hz.symm, h⟩, fun h => h.2⟩
  rcases hor with ⟨hn, he⟩ | ⟨y, hy, hn, he⟩
  · exact ⟨_, _, _, _, _, _, _, _, _, _, _, he, fun w20 p21 X20 hp => rest w20 p21 X20 hp 0 false (.inl ⟨hn, rfl⟩)⟩
  · exact ⟨_, _, _, _, _, _, _, _, _, _, _, he, fun w20 p21 X20 hp => rest w20 p21 X20 hp y.r.n true (.inr ⟨y.r, hn, rfl, rfl⟩)⟩
end
end Go.Proofs.Ytdelmfpchbpafaa

/- The two oracles side by side: tables against rows. -/
set_option linter.unusedVariables false
set_option linter.unusedSimpArgs false
namespace Go.Proofs.Ytdelmfpchbpafaa
open Go Go.Mx Go.Proofs
theorem ex_add {L : List RRow} {r0 : RRow} {f : RRow → Prop} : (∃ r ∈ L ++ [r0], f r) ↔ (∃ r ∈ L, f r) ∨ f r0 := by
  constructor
  · rintro ⟨r, hr, h⟩
    rcases List.mem_append.1 hr with hr | hr
    · exact .inl ⟨r, hr, h⟩
    · simp at hr; subst hr; exact .inr h
  · rintro (⟨r, hr, h⟩ | h)
    · exact ⟨r, List.mem_append_left _ hr, h⟩
    · exact ⟨r0, by simp, h⟩
theorem ex_no {L : List RRow} {r0 : RRow} {f : RRow → Prop} (h : ¬ f r0) : (∃ r ∈ L ++ [r0], f r) ↔ ∃ r ∈ L, f r := by
  rw [ex_add]; exact ⟨fun h' => h'.resolve_right h, .inl⟩
theorem alook_new {κ β : Type} [DecidableEq κ] {T : List (κ × β)} {k c : κ} {v y : β} (h : alook T k = none) : alook (aput T k v) c = some y ↔ alook T c = some y ∨ (k = c ∧ v = y) := by
  rw [alook_put]
  by_cases hc : k = c
  · subst hc; rw [if_pos rfl, h]; simp
  · rw [if_neg hc]; simp [hc]
structure Sim (S : OS) (d : List Int) (L : List RRow) : Prop where
  ok : S.ok
  dr : S.draws = d
  us : S.used = L.map RRow.h
  nd : (L.map RRow.h).Nodup
  nz : ∀ r ∈ L, r.h ≠ 0
  hs : ∀ b x, alook S.hashes b = some x ↔ ∃ r ∈ L, r.kind = 1 ∧ r.A = b ∧ r.h = x
  ky : ∀ k, k ∈ S.keys ↔ ∃ r ∈ L, r.kind = 2 ∧ r.h = k
  sc : ∀ s, s ∈ S.secrets ↔ ∃ r ∈ L, r.kind = 3 ∧ r.h = s
  pb : ∀ p s, alook S.publics p = some s ↔ ∃ r ∈ L, r.kind = 4 ∧ r.h = p ∧ r.n = s
  sg : ∀ q x, alook S.signs q = some x ↔ ∃ r ∈ L, r.kind = 5 ∧ (r.n, r.A) = q ∧ r.h = x
  sd : ∀ x q, alook S.signed x = some q ↔ ∃ r ∈ L, r.kind = 5 ∧ (r.n, r.A) = q ∧ r.h = x
  se : ∀ x q, alook S.sealed x = some q ↔ ∃ r ∈ L, r.kind = 6 ∧ r.h = x ∧ q = ⟨r.n, r.A, r.B⟩
  wr : ∀ x q, alook S.wrapped x = some q ↔ ∃ r ∈ L, r.kind = 7 ∧ r.h = x ∧ (r.n, r.m) = q
theorem Sim.init {l : List Int} (hl : ∀ d ∈ l, 0 ≤ d ∧ d < 18446744073709551616) : Sim (OS.init l) l [] := by
  refine ⟨OS.init_ok l hl, rfl, rfl, by simp, by simp, ?_, ?_, ?_, ?_, ?_, ?_, ?_, ?_⟩ <;> simp [OS.init, alook]
section
variable {S : OS} {d : List Int} {L : List RRow}
theorem Sim.mem_used (h : Sim S d L) {r : RRow} (hr : r ∈ L) : r.h ∈ S.used := by rw [h.us]; exact List.mem_map_of_mem hr
theorem uniq : ∀ {L : List RRow}, (L.map RRow.h).Nodup → ∀ {r s : RRow}, r ∈ L → s ∈ L → r.h = s.h → r = s
  | [], _, r, s, hr, _, _ => by cases hr
  | a :: l, hn, r, s, hr, hs, he => by
    simp only [List.map_cons, List.nodup_cons] at hn
    rcases List.mem_cons.1 hr with rfl | hr' <;> rcases List.mem_cons.1 hs with rfl | hs'
    · rfl
    · exact (hn.1 (List.mem_map.2 ⟨s, hs', he.symm⟩)).elim
    · exact (hn.1 (List.mem_map.2 ⟨r, hr', he⟩)).elim
    · exact uniq hn.2 hr' hs' he
theorem isR_some (hn : (L.map RRow.h).Nodup) {x k : Int} {r : RRow} : isR L x k = some r ↔ r ∈ L ∧ r.h = x ∧ r.kind = k := by
  unfold isR
  constructor
  · intro h
    rw [Option.bind_eq_some_iff] at h
    obtain ⟨a, h1, h2⟩ := h
    have m := List.mem_of_find?_eq_some h1
    have e := List.find?_some h1
    split at h2
    · rename_i hk; cases h2; exact ⟨m, by simpa using e, hk⟩
    · cases h2
  · rintro ⟨h1, h2, h3⟩
    cases hf : L.find? (fun r => r.h == x) with
    | none =>
      rw [List.find?_eq_none] at hf
      exact absurd (by simpa using h2) (hf r h1)
    | some a =>
      have m := List.mem_of_find?_eq_some hf
      have e := List.find?_some hf
      obtain rfl : a = r := uniq hn m h1 (by rw [h2]; simpa using e)
      show (if a.kind = k then some a else none) = some a
      rw [if_pos h3]
theorem isR_none (hn : (L.map RRow.h).Nodup) {x k : Int} : isR L x k = none ↔ ¬ ∃ r ∈ L, r.kind = k ∧ r.h = x := by
  constructor
  · rintro h ⟨r, h1, h2, h3⟩
    rw [(isR_some hn).2 ⟨h1, h3, h2⟩] at h; cases h
  · intro h
    cases hi : isR L x k with
    | none => rfl
    | some r => obtain ⟨a, b, c⟩ := (isR_some hn).1 hi; exact absurd ⟨r, a, c, b⟩ h
/-- the same handle. -/
theorem Sim.fresh (h : Sim S d L) (r : RRow) : (putR d L r).1 = (freshOf S).1 ∧ (putR d L r).2.1 = (freshOf S).2.draws := by
  obtain ⟨h1, h2, h3, h4⟩ := h.ok
  unfold putR freshOf freshR
  rw [← h.us, ← h.dr]
  cases hp : pickD S.draws S.used with
  | some q => exact ⟨rfl, rfl⟩
  | none =>
    refine ⟨?_, rfl⟩
    obtain ⟨a1, a2, a3, a4, a5⟩ := pickN_spec S.used (S.used.length + 1) S.next h1 (gap S.used _ _ (by omega))
    obtain ⟨b1, b2, b3, b4, b5⟩ := pickN_spec S.used (S.used.length + 1) 1 (Int.le_refl _) (gap S.used _ _ (by omega))
    show pickN S.used (S.used.length + 1) 1 = pickN S.used (S.used.length + 1) S.next
    generalize pickN S.used (S.used.length + 1) 1 = x at *
    generalize pickN S.used (S.used.length + 1) S.next = y at *
    rcases Int.lt_trichotomy x y with c | c | c
    · exfalso
      by_cases hx : x < S.next
      · exact b3 (h2 x b1 hx)
      · exact b3 (a5 x (by omega) c)
    · exact c
    · exact absurd (b5 y (by omega) c) a3
/-- a row more: all but the tables. -/
theorem Sim.put (h : Sim S d L) (r : RRow) : (freshOf S).2.ok ∧ (freshOf S).2.draws = (putR d L r).2.1 ∧ (freshOf S).2.used = (putR d L r).2.2.map RRow.h ∧ ((putR d L r).2.2.map RRow.h).Nodup ∧ (∀ z ∈ (putR d L r).2.2, z.h ≠ 0) ∧
    (putR d L r).2.2 = L ++ [{ r with h := (freshOf S).1 }] ∧ (∀ z ∈ L, z.h ≠ (freshOf S).1) := by
  obtain ⟨a1, a2, a3, a4⟩ := freshOf_spec h.ok
  obtain ⟨b1, b2⟩ := h.fresh r
  have e : (putR d L r).2.2 = L ++ [{ r with h := (freshOf S).1 }] := by rw [← b1]; rfl
  have hne : ∀ z ∈ L, z.h ≠ (freshOf S).1 := fun z hz he => a2 (he ▸ h.mem_used hz)
  refine ⟨a4, b2.symm, by rw [a3, e, h.us]; simp, ?_, ?_, e, hne⟩
  · rw [e, List.map_append, List.nodup_append]
    refine ⟨h.nd, by simp, fun a ha b hb => ?_⟩
    obtain ⟨z, hz, rfl⟩ := List.mem_map.1 ha
    simp at hb; subst hb; exact hne z hz
  · rw [e]
    intro z hz
    rcases List.mem_append.1 hz with hz | hz
    · exact h.nz z hz
    · simp at hz; subst hz; exact a1
theorem new_none {κ β : Type} [DecidableEq κ] {T : List (κ × β)} {k : κ} (h : ∀ y, ¬ alook T k = some y) : alook T k = none := by
  cases hk : alook T k with
  | none => rfl
  | some y => exact absurd hk (h y)
theorem Sim.find (h : Sim S d L) {p : RRow → Bool} {x : Int} (hx : ∃ r ∈ L, p r = true ∧ r.h = x) (hu : ∀ r ∈ L, p r = true → r.h = x) : ∃ r, L.find? p = some r ∧ r.h = x := by
  cases hf : L.find? p with
  | none => obtain ⟨r, a, b, _⟩ := hx; rw [List.find?_eq_none] at hf; exact absurd b (hf r a)
  | some r => exact ⟨r, rfl, hu r (List.mem_of_find?_eq_some hf) (List.find?_some hf)⟩
theorem hash_sim (h : Sim S d L) (b : List UInt8) : (hashR d L b).1 = (hashOf S b).1 ∧ Sim (hashOf S b).2 (hashR d L b).2.1 (hashR d L b).2.2 := by
  unfold hashR hashOf
  cases hk : alook S.hashes b with
  | some x =>
    obtain ⟨r, h1, h2, h3, h4⟩ := (h.hs b x).1 hk
    obtain ⟨z, hz, hx⟩ := h.find (p := fun r => r.kind == 1 && decide (r.A = b)) ⟨r, h1, by simp [h2, h3], h4⟩ fun r hr hp => by
      simp at hp
      have := (h.hs b r.h).2 ⟨r, hr, hp.1, hp.2, rfl⟩
      rw [hk] at this; exact (Option.some.inj this).symm
    rw [hz]
    exact ⟨hx, h⟩
  | none =>
    have hf : L.find? (fun r => r.kind == 1 && decide (r.A = b)) = none := by
      rw [List.find?_eq_none]
      intro r hr hp
      simp at hp
      rw [(h.hs b r.h).2 ⟨r, hr, hp.1, hp.2, rfl⟩] at hk; cases hk
    rw [hf]
    obtain ⟨a1, a2, a3, a4, a5, a6, a7⟩ := h.put ⟨0, 1, b, [], 0, 0⟩
    obtain ⟨c1, c2, c3, c4, c5, c6, c7, c8⟩ := freshOf_frame S
    refine ⟨(h.fresh _).1, ⟨a1, a2, a3, a4, a5, fun c x => ?_, fun k => ?_, fun s => ?_, fun p s => ?_, fun q x => ?_, fun x q => ?_, fun x q => ?_, fun x q => ?_⟩⟩ <;> simp only [a6]
    · rw [alook_new hk, h.hs, ex_add]; simp
    · rw [c2, h.ky, ex_no (by simp)]
    · rw [c3, h.sc, ex_no (by simp)]
    · rw [c4, h.pb, ex_no (by simp)]
    · rw [c5, h.sg, ex_no (by simp)]
    · rw [c6, h.sd, ex_no (by simp)]
    · rw [c7, h.se, ex_no (by simp)]
    · rw [c8, h.wr, ex_no (by simp)]
theorem sec_sim (h : Sim S d L) : (putR d L ⟨0, 3, [], [], 0, 0⟩).1 = (freshOf S).1 ∧ Sim { (freshOf S).2 with secrets := badd S.secrets (freshOf S).1 } (putR d L ⟨0, 3, [], [], 0, 0⟩).2.1 (putR d L ⟨0, 3, [], [], 0, 0⟩).2.2 := by
  obtain ⟨a1, a2, a3, a4, a5, a6, a7⟩ := h.put ⟨0, 3, [], [], 0, 0⟩
  obtain ⟨c1, c2, c3, c4, c5, c6, c7, c8⟩ := freshOf_frame S
  refine ⟨(h.fresh _).1, ⟨a1, a2, a3, a4, a5, fun c x => ?_, fun k => ?_, fun s => ?_, fun p s => ?_, fun q x => ?_, fun x q => ?_, fun x q => ?_, fun x q => ?_⟩⟩ <;> simp only [a6]
  · rw [c1, h.hs, ex_no (by simp)]
  · rw [c2, h.ky, ex_no (by simp)]
  · rw [badd_mem, h.sc, ex_add]; simp [eq_comm]
  · rw [c4, h.pb, ex_no (by simp)]
  · rw [c5, h.sg, ex_no (by simp)]
  · rw [c6, h.sd, ex_no (by simp)]
  · rw [c7, h.se, ex_no (by simp)]
  · rw [c8, h.wr, ex_no (by simp)]
theorem pair_sim (h : Sim S d L) : (pairR d L).1 = (pairOf S).1 ∧ Sim (pairOf S).2 (pairR d L).2.1 (pairR d L).2.2 := by
  obtain ⟨e1, h1⟩ := sec_sim h
  unfold pairR pairOf
  simp only []
  rw [e1]
  generalize putR d L ⟨0, 3, [], [], 0, 0⟩ = P at *
  obtain ⟨a1, a2, a3, a4, a5, a6, a7⟩ := h1.put ⟨0, 4, [], [], (freshOf S).1, 0⟩
  obtain ⟨c1, c2, c3, c4, c5, c6, c7, c8⟩ := freshOf_frame S
  obtain ⟨d1, d2, d3, d4, d5, d6, d7, d8⟩ := freshOf_frame { (freshOf S).2 with secrets := badd S.secrets (freshOf S).1 }
  have e2 := (h1.fresh ⟨0, 4, [], [], (freshOf S).1, 0⟩).1
  refine ⟨by rw [e2], ⟨a1, a2, a3, a4, a5, fun c x => ?_, fun k => ?_, fun s => ?_, fun p s => ?_, fun q x => ?_, fun x q => ?_, fun x q => ?_, fun x q => ?_⟩⟩ <;> simp only [a6]
  · rw [d1, h1.hs, ex_no (by simp)]
  · rw [d2, h1.ky, ex_no (by simp)]
  · rw [d3, h1.sc, ex_no (by simp)]
  · have hpb : alook S.publics p = some s ↔ _ := (by rw [congrArg (fun t => alook t p) c4.symm] : alook S.publics p = some s ↔ alook (freshOf S).2.publics p = some s).trans (h1.pb p s)
    rw [alook_new (new_none fun y hy => ?_), hpb, ex_add]
    · simp
    · have hy := (congrArg (fun t => alook t _) c4).trans hy
      obtain ⟨r, q1, q2, q3, q4⟩ := (h1.pb _ _).1 hy
      exact a7 r q1 q3
  · rw [d5, h1.sg, ex_no (by simp)]
  · rw [d6, h1.sd, ex_no (by simp)]
  · rw [d7, h1.se, ex_no (by simp)]
  · rw [d8, h1.wr, ex_no (by simp)]
theorem sec_is (h : Sim S d L) (s : Int) : (∃ r, isR L s 3 = some r) ↔ s ∈ S.secrets := by
  rw [h.sc]
  constructor
  · rintro ⟨r, hr⟩; obtain ⟨a, b, c⟩ := (isR_some h.nd).1 hr; exact ⟨r, a, c, b⟩
  · rintro ⟨r, a, c, b⟩; exact ⟨r, (isR_some h.nd).2 ⟨a, b, c⟩⟩
theorem sign_sim (h : Sim S d L) (s : Int) (b : List UInt8) : (signR d L s b).1 = ((signOf S s b).1.1, if (signOf S s b).1.2 then 0 else 11) ∧ Sim (signOf S s b).2 (signR d L s b).2.1 (signR d L s b).2.2 := by
  unfold signR signOf
  by_cases hs : s ∈ S.secrets
  · obtain ⟨r0, hr0⟩ := (sec_is h s).2 hs
    rw [if_pos hs, hr0]
    simp only []
    cases hk : alook S.signs (s, b) with
    | some x =>
      obtain ⟨r, h1, h2, h3, h4⟩ := (h.sg _ x).1 hk
      obtain ⟨z, hz, hx⟩ := h.find (p := fun r => r.kind == 5 && (r.n == s && decide (r.A = b))) ⟨r, h1, by cases h3; simp [h2], h4⟩ fun r hr hp => by
        simp at hp
        have := (h.sg (s, b) r.h).2 ⟨r, hr, hp.1, by rw [hp.2.1, hp.2.2], rfl⟩
        rw [hk] at this; exact (Option.some.inj this).symm
      rw [hz]
      exact ⟨by simp [hx], h⟩
    | none =>
      have hf : L.find? (fun r => r.kind == 5 && (r.n == s && decide (r.A = b))) = none := by
        rw [List.find?_eq_none]
        intro r hr hp
        simp at hp
        rw [(h.sg (s, b) r.h).2 ⟨r, hr, hp.1, by rw [hp.2.1, hp.2.2], rfl⟩] at hk; cases hk
      rw [hf]
      obtain ⟨a1, a2, a3, a4, a5, a6, a7⟩ := h.put ⟨0, 5, b, [], s, 0⟩
      obtain ⟨c1, c2, c3, c4, c5, c6, c7, c8⟩ := freshOf_frame S
      refine ⟨by simp [(h.fresh _).1], ⟨a1, a2, a3, a4, a5, fun c x => ?_, fun k => ?_, fun s => ?_, fun p s => ?_, fun q x => ?_, fun x q => ?_, fun x q => ?_, fun x q => ?_⟩⟩ <;> simp only [a6]
      · rw [c1, h.hs, ex_no (by simp)]
      · rw [c2, h.ky, ex_no (by simp)]
      · rw [c3, h.sc, ex_no (by simp)]
      · rw [c4, h.pb, ex_no (by simp)]
      · rw [alook_new hk, h.sg, ex_add]; simp
      · rw [alook_new (new_none fun y hy => ?_), h.sd, ex_add]
        · simp [and_comm]
        · obtain ⟨r, q1, q2, q3, q4⟩ := (h.sd _ _).1 hy
          exact a7 r q1 q4
      · rw [c7, h.se, ex_no (by simp)]
      · rw [c8, h.wr, ex_no (by simp)]
  · have hi : isR L s 3 = none := by
      cases hi : isR L s 3 with
      | none => rfl
      | some r => exact absurd ((sec_is h s).1 ⟨r, hi⟩) hs
    rw [if_neg hs, hi]
    exact ⟨rfl, h⟩
theorem pub_is (h : Sim S d L) (p : Int) : (isR L p 4).map RRow.n = alook S.publics p := by
  cases hi : isR L p 4 with
  | none =>
    cases hk : alook S.publics p with
    | none => rfl
    | some s => obtain ⟨r, a, b, c, _⟩ := (h.pb p s).1 hk; exact absurd ⟨r, a, b, c⟩ ((isR_none h.nd).1 hi)
  | some r => obtain ⟨a, b, c⟩ := (isR_some h.nd).1 hi; exact ((h.pb p r.n).2 ⟨r, a, c, b, rfl⟩).symm
theorem sig_is (h : Sim S d L) (x : Int) : (isR L x 5).map (fun r => (r.n, r.A)) = alook S.signed x := by
  cases hi : isR L x 5 with
  | none =>
    cases hk : alook S.signed x with
    | none => rfl
    | some s => obtain ⟨r, a, b, _, c⟩ := (h.sd x s).1 hk; exact absurd ⟨r, a, b, c⟩ ((isR_none h.nd).1 hi)
  | some r => obtain ⟨a, b, c⟩ := (isR_some h.nd).1 hi; exact ((h.sd x (r.n, r.A)).2 ⟨r, a, c, rfl, b⟩).symm
theorem verify_sim (h : Sim S d L) (p : Int) (b : List UInt8) (x : Int) : verifyR L p b x = verifyOf S p b x := by
  unfold verifyR verifyOf
  rw [← pub_is h p, ← sig_is h x]
  cases isR L p 4 with
  | none => rfl
  | some y =>
    cases isR L x 5 with
    | none => rfl
    | some z => show decide (z.n = y.n ∧ z.A = b) = decide ((z.n, z.A) = (y.n, b)); congr 1; simp
end
end Go.Proofs.Ytdelmfpchbpafaa

/- The reference's rows, few and short; both oracles. -/
set_option linter.unusedVariables false
set_option linter.unusedSimpArgs false
set_option maxRecDepth 20000
namespace Go.Proofs.Ytdelmfpchbpafaa
open Go Go.Mx Go.Proofs
/-- the rows are few, and short. -/
structure RFine (n : Nat) (d : List Int) (L : List RRow) : Prop where
  draws : ∀ x ∈ d, 0 ≤ x ∧ x < 18446744073709551616
  short : L.length ≤ n
  bytes : ∀ r ∈ L, r.A.length < 1000000 ∧ r.B.length < 1000000
section
variable {w w' : World} {o o' : Own} {k n : Nat} {K : Nat → Prop} {S : OS} {d : List Int} {L : List RRow}
theorem RFine.rok (h : RFine n d L) (ok : Tags w o) (hn : n < 1000000) : ROk w o d L := ⟨ok, h.draws, Nat.lt_of_le_of_lt h.short hn, h.bytes⟩
theorem RFine.more (h : RFine n d L) : RFine (n + 1) d L := ⟨h.draws, Nat.le_succ_of_le h.short, h.bytes⟩
theorem RFine.put (h : RFine n d L) (r : RRow) (hr : r.A.length < 1000000 ∧ r.B.length < 1000000) : RFine (n + 1) (putR d L r).2.1 (putR d L r).2.2 := by
  refine ⟨freshR_draws h.draws, ?_, fun z hz => ?_⟩
  · have := h.short; rw [putR_len]; omega
  · rcases List.mem_append.1 hz with hz | hz
    · exact h.bytes z hz
    · simp at hz; subst hz; exact hr
theorem RFine.hash (h : RFine n d L) {b : List UInt8} (hb : b.length < 1000000) : RFine (n + 1) (hashR d L b).2.1 (hashR d L b).2.2 := by
  unfold hashR
  split
  · exact h.more
  · exact h.put _ ⟨hb, by show (0 : Nat) < _; decide⟩
theorem RFine.pair (h : RFine n d L) : RFine (n + 2) (pairR d L).2.1 (pairR d L).2.2 :=
  (h.put ⟨0, 3, [], [], 0, 0⟩ (by decide)).put _ ⟨by show (0 : Nat) < _; decide, by show (0 : Nat) < _; decide⟩
theorem RFine.sign (h : RFine n d L) (s : Int) {b : List UInt8} (hb : b.length < 1000000) : RFine (n + 1) (signR d L s b).2.1 (signR d L s b).2.2 := by
  unfold signR
  split
  · exact h.more
  · split
    · exact h.more
    · exact h.put _ ⟨hb, by show (0 : Nat) < _; decide⟩
/-- both oracles. -/
structure Two (w : World) (o : Own) (k j : Nat) (S : OS) (d : List Int) (L : List RRow) (n : Nat) : Prop where
  p : POrc w o k S
  r : ROrc w o j d L
  sim : Sim S d L
  inv : OInv S
  fine : RFine n d L
  ok : Tags w o
  ne : k ≠ j
variable {j : Nat}
theorem Two.step (h : Two w o k j S d L n) (s : Step no w o w' o') : Two w' o' k j S d L n := ⟨h.p.step s id, h.r.step s id, h.sim, h.inv, h.fine, s.ok, h.ne⟩
theorem Two.len (h : Two w o k j S d L n) : S.used.length ≤ n := by rw [h.sim.us, List.length_map]; exact h.fine.short
theorem Two.rok (h : Two w o k j S d L n) (hn : n < 1000000) : ROk w o d L := h.fine.rok h.ok hn
theorem Two.turn {w1 : World} {o1 : Own} {S' : OS} {d' : List Int} {L' : List RRow} {n' : Nat} (h : Two w o k j S d L n) (s1 : Step (fun i => i = k) w o w1 o1) (p1 : POrc w1 o1 k S') (s2 : Step (fun i => i = j) w1 o1 w' o') (r2 : ROrc w' o' j d' L')
    (sim : Sim S' d' L') (inv : OInv S') (fine : RFine n' d' L') : Two w' o' k j S' d' L' n' ∧ Step (fun i => i = k ∨ i = j) w o w' o' :=
  ⟨⟨p1.step s2 h.ne, r2, sim, inv, fine, s2.ok, h.ne⟩, (s1.mono fun _ h _ => .inl h).trans (s2.mono fun _ h _ => .inr h)⟩
end
/-- the reference's, as it is made. -/
theorem ROrc.init {w w' : World} {o : Own} {q : Nat} {da : Option Addr} {dc : Nat} {d : List Int} (X : Ext no w w') (hb : Blk w' q 31 [.slice da d.length dc, .slice none 0 0]) (h1 : w.heap.size ≤ q) (h2 : q < w'.heap.size) (ok : Tags w o) (hd : Row w o da (d.map u64V)) (hc : d.length ≤ dc) :
    ∃ o', Step no w o w' o' ∧ ROrc w' o' q d [] := by
  have s := (Step.of_no X ok).tag h1 h2
  refine ⟨_, s, [], rfl, tag_self, ⟨da, dc, none, 0, hb, hc, hd.step s, Grows.nil _ _ _ _ _, fun ad ha => by cases ha⟩, fun x hx => by cases hx⟩
end Go.Proofs.Ytdelmfpchbpafaa

/- The reference's entries with its oracle. -/
set_option linter.unusedVariables false
set_option linter.unusedSimpArgs false
set_option maxRecDepth 20000
namespace Go.Proofs.Ytdelmfpchbpafaa
open Go Go.Mx Go.Proofs
open W (OwnB GivesW numR countR doneR zig unzig intR)
section
variable {w w' : World} {o o' : Own} {k n : Nat} {K : Nat → Prop} {S : OS} {d : List Int} {L : List RRow}
theorem bytesL_le' {e : Ent} (hr : entRight e = true) : (bytesL e).length ≤ 1200 := by have := bytesK_le e; unfold bytesK at this; rw [if_pos hr] at this; exact this
theorem textL_le' {e : Ent} (hr : entRight e = true) : (textL e).length ≤ 1200 := by have := textK_le e; unfold textK at this; rw [if_pos hr] at this; exact this
/-- cachetteref06.Sum -/
def cachetteref06_Sum.M (o1 : Option Addr) (af : Int) (ai : Int) (al : Int) (aq : Int) (ap : Int) (ak : Int) (ah : Option Addr) (aj : Nat) (ag : Nat) (ao : Int) (R : Value → World → Prop) (w : World) : Prop :=
 thenW (w.alloc (.cells #[.int .i64 af, .int .i64 ai, .int .u64 al, .int .i64 aq, .int .i64 ap, .int .i64 ak, .slice ah aj ag, .int .u64 ao] 47)) fun an =>
 ∃ (a0 : Int) (a2 : Int) (aa : Int) (ab : Int) (ac : Int) (a3 : Int) (a9 : Option Addr) (a8 : Nat) (a6 : Nat) (ae : Int), cellsAt an (blk w.heap.size) [.int .i64 a0, .int .i64 a2, .int .u64 aa, .int .i64 ab, .int .i64 ac, .int .i64 a3, .slice a9 a8 a6, .int .u64 ae] 0 ∧
 Calls Try.prog 66 #[.agg #[.int .i64 a0, .int .i64 a2, .int .u64 aa, .int .i64 ab, .int .i64 ac, .int .i64 a3, .slice a9 a8 a6, .int .u64 ae]] an fun au am => ∃ (a5 : Option Addr) (a4 : Nat) (a7 : Nat) (a1 : Int), au = .returned (.tuple #[.slice a5 a4 a7, .int .i64 a1]) ∧
 bif a1 != 0 then (
 R (.tuple #[.int .u64 0, .int .i64 a1]) am) else (
 Calls Try.prog 67 #[.pointer o1, .slice a5 a4 a7] am fun av ar => ∃ (ad : Int), av = .returned (.int .u64 ad) ∧
 R (.tuple #[.int .u64 ad, .int .i64 0]) ar)

theorem cachetteref06_Sum.eq (o1 : Option Addr) (eWriter2 : Int) (eIndex3 : Int) (ePrev4 : Int) (eAtT5 : Int) (eAtW6 : Int) (eEpoch7 : Int) (eBody8a : Option Addr) (eBody8n : Nat) (eBody8c : Nat) (eSig9 : Int) (R : Value → World → Prop) (w : World) : mfunc Try.prog [] 49 [.pointer o1, .agg #[.int .i64 eWriter2, .int .i64 eIndex3, .int .u64 ePrev4, .int .i64 eAtT5, .int .i64 eAtW6, .int .i64 eEpoch7, .slice eBody8a eBody8n eBody8c, .int .u64 eSig9]] R w = cachetteref06_Sum.M o1 eWriter2 eIndex3 ePrev4 eAtT5 eAtW6 eEpoch7 eBody8a eBody8n eBody8c eSig9 R w := by kernel_rfl
theorem cachetteref06_Sum.ok (o1 : Option Addr) (a0 : Int) (a3 : Int) (a6 : Int) (a8 : Int) (a9 : Int) (a5 : Int) (a2 : Option Addr) (a1 : Nat) (a4 : Nat) (a7 : Int) {R : Value → World → Prop} {w : World} (h : cachetteref06_Sum.M o1 a0 a3 a6 a8 a9 a5 a2 a1 a4 a7 R w) : Calls Try.prog 49 #[.pointer o1, .agg #[.int .i64 a0, .int .i64 a3, .int .u64 a6, .int .i64 a8, .int .i64 a9, .int .i64 a5, .slice a2 a1 a4, .int .u64 a7]] w fun e w' => ∃ v, e = .returned v ∧ R v w' :=
  mfunc_ok follows (H := []) (args := [.pointer o1, .agg #[.int .i64 a0, .int .i64 a3, .int .u64 a6, .int .i64 a8, .int .i64 a9, .int .i64 a5, .slice a2 a1 a4, .int .u64 a7]]) (by rw [cachetteref06_Sum.eq]; exact h)

def cachetteref06_Sum.N (o1 : Option Addr) (a5 : Int) (a8 : Int) (ab : Int) (ag : Int) (ae : Int) (aa : Int) (a7 : Option Addr) (a9 : Nat) (a6 : Nat) (ad : Int) (R : Value → World → Prop) (w : World) : Prop :=
 ∀ (ac : World), Ext no w ac →
 Calls Try.prog 66 #[.agg #[.int .i64 a5, .int .i64 a8, .int .u64 ab, .int .i64 ag, .int .i64 ae, .int .i64 aa, .slice a7 a9 a6, .int .u64 ad]] ac fun ai af => ∃ (a2 : Option Addr) (a3 : Nat) (a1 : Nat) (a0 : Int), ai = .returned (.tuple #[.slice a2 a3 a1, .int .i64 a0]) ∧
 (a0 ≠ 0 →
 R (.tuple #[.int .u64 0, .int .i64 a0]) af) ∧
 (a0 = 0 →
 Calls Try.prog 67 #[.pointer o1, .slice a2 a3 a1] af fun aj ah => ∃ (a4 : Int), aj = .returned (.int .u64 a4) ∧
 R (.tuple #[.int .u64 a4, .int .i64 0]) ah)

theorem cachetteref06_Sum.up (o1 : Option Addr) (a0 : Int) (a3 : Int) (a6 : Int) (ab : Int) (a9 : Int) (a5 : Int) (a2 : Option Addr) (a4 : Nat) (a1 : Nat) (a7 : Int) {R : Value → World → Prop} {w : World} (h : cachetteref06_Sum.N o1 a0 a3 a6 ab a9 a5 a2 a4 a1 a7 R w) : cachetteref06_Sum.M o1 a0 a3 a6 ab a9 a5 a2 a4 a1 a7 R w := by
  unfold cachetteref06_Sum.M
  unfold cachetteref06_Sum.N at h
  refine thenW_in fun ag aj => ?_
  have ae := Blk.of_new aj
  have ao := ((Ext.refl no w)).size
  have ai := (Ext.refl no w).x_alloc aj
  refine ⟨a0, a3, a6, ab, a9, a5, a2, a4, a1, a7, ⟨ae.celli 0 rfl rfl, ae.celli 1 rfl rfl, ae.celli 2 rfl rfl, ae.celli 3 rfl rfl, ae.celli 4 rfl rfl, ae.celli 5 rfl rfl, ae.celli 6 rfl rfl, ae.celli 7 rfl rfl, trivial⟩, ?_⟩
  have h := h ag ai
  refine h.mono fun al am h => ?_
  obtain ⟨aa, ac, a8, ad, he, h⟩ := h
  refine ⟨aa, ac, a8, ad, he, ?_⟩
  refine bif_of (fun ah => ?_) (fun ah => ?_)
  · have h := h.1 (bne_t ah)
    exact h
  · have h := h.2 (bne_f ah)
    refine h.mono fun an ak h => ?_
    obtain ⟨af, he, h⟩ := h
    refine ⟨af, he, ?_⟩
    exact h

theorem cachetteref06_Sum.go (o1 : Option Addr) (a0 : Int) (a3 : Int) (a6 : Int) (a8 : Int) (a9 : Int) (a5 : Int) (a2 : Option Addr) (a1 : Nat) (a4 : Nat) (a7 : Int) {R : Value → World → Prop} {w : World} (h : cachetteref06_Sum.N o1 a0 a3 a6 a8 a9 a5 a2 a1 a4 a7 R w) : Calls Try.prog 49 #[.pointer o1, .agg #[.int .i64 a0, .int .i64 a3, .int .u64 a6, .int .i64 a8, .int .i64 a9, .int .i64 a5, .slice a2 a1 a4, .int .u64 a7]] w fun e w' => ∃ v, e = .returned v ∧ R v w' := cachetteref06_Sum.ok o1 a0 a3 a6 a8 a9 a5 a2 a1 a4 a7 (cachetteref06_Sum.up o1 a0 a3 a6 a8 a9 a5 a2 a1 a4 a7 h)
def sumR (d : List Int) (L : List RRow) (e : Ent) : (Int × Int) × List Int × List RRow := if entRight e = true then (((hashR d L (bytesL e)).1, 0), (hashR d L (bytesL e)).2) else ((0, 1), d, L)
theorem rSum_spec (h : ROrc w o k d L) (ok : ROk w o d L) {e : Ent} (hf : entRight e = true → e.fit) {ba : Option Addr} {bc : Nat} (hb : RowAt w ba (bytesV e.body)) :
    Calls Try.prog 49 #[.pointer (some (blk k)), entV e ba bc] w (Gs (fun j => j = k) w o (.tuple #[u64V (sumR d L e).1.1, .int .i64 (sumR d L e).1.2]) fun w' o' => ROrc w' o' k (sumR d L e).2.1 (sumR d L e).2.2) := by
  refine (cachetteref06_Sum.go (some (blk k)) e.w e.i e.pv e.t e.tw e.ep ba e.body.length bc e.sg (R := fun v w' => ∃ o', v = (.tuple #[u64V (sumR d L e).1.1, .int .i64 (sumR d L e).1.2]) ∧ Step (fun j => j = k) w o w' o' ∧ ROrc w' o' k (sumR d L e).2.1 (sumR d L e).2.2) ?_).mono fun x w' ⟨v, he, o', hv, hw⟩ => ⟨o', by rw [he, hv], hw⟩
  unfold cachetteref06_Sum.N
  intro w10 X10
  have s10 := Step.of_no X10 ok.tags
  refine (rEBytesK_spec hf (hb.no X10)).mono fun x w15 ⟨a, c, he, hO, X⟩ => ⟨_, _, _, _, he, ?_⟩
  have s15 := Step.of_no X s10.ok
  have s := s10.trans s15
  have h15 := h.step s id
  have ok15 : ROk w15 _ d L := ⟨s.ok, ok.draws, ok.short, ok.bytes⟩
  unfold bytesK sumR at *
  by_cases hr : entRight e = true
  · rw [if_pos hr] at hO ⊢
    rw [if_pos hr]
    refine ⟨fun h => absurd rfl h, fun _ => ?_⟩
    refine (rHash_spec h15 ok15 (OwnB.tight hO (Nat.le_refl _)) hO.le).mono fun x w20 ⟨o20, he, s20, h20⟩ => ⟨_, he, o20, rfl, s.none.trans s20, h20⟩
  · rw [if_neg hr]
    rw [if_neg hr]
    exact ⟨fun _ => ⟨_, rfl, s.none, h15⟩, fun h => absurd h (by decide)⟩
theorem sum_sim (h : Sim S d L) (e : Ent) : (sumR d L e).1 = (sumE S e).1 ∧ Sim (sumE S e).2 (sumR d L e).2.1 (sumR d L e).2.2 := by
  unfold sumR sumE
  by_cases hr : entRight e = true
  · rw [if_pos hr, if_pos hr]
    obtain ⟨h1, h2⟩ := hash_sim h (bytesL e)
    exact ⟨by rw [h1], h2⟩
  · rw [if_neg hr, if_neg hr]
    exact ⟨rfl, h⟩
theorem RFine.sum (h : RFine n d L) (e : Ent) : RFine (n + 1) (sumR d L e).2.1 (sumR d L e).2.2 := by
  unfold sumR
  split
  · rename_i hr; exact h.hash (by have := bytesL_le' hr; omega)
  · exact h.more
theorem sum_inv (h : OInv S) (e : Ent) : OInv (sumE S e).2 := by
  unfold sumE
  split
  · exact (hash_inv h _).1
  · exact h
/-- cachetteref06.Sign -/
def cachetteref06_Sign.M (o1 : Option Addr) (bp : Int) (bh : Int) (br : Int) (bx : Int) (cb : Int) (c5 : Int) (bt : Int) (bu : Option Addr) (bq : Nat) (bo : Nat) (bz : Int) (R : Value → World → Prop) (w : World) : Prop :=
 thenW (w.alloc (.cells #[.int .i64 bh, .int .i64 br, .int .u64 bx, .int .i64 cb, .int .i64 c5, .int .i64 bt, .slice bu bq bo, .int .u64 bz] 47)) fun a0 =>
 thenW (a0.alloc (.cells #[.int .i64 0, .int .i64 0, .int .u64 0, .int .i64 0, .int .i64 0, .int .i64 0, .slice none 0 0, .int .u64 0] 47)) fun co =>
 ∃ (al : Int) (ar : Int) (bf : Int) (bi : Int) (bn : Int) (au : Int) (b5 : Option Addr) (b0 : Nat) (b6 : Nat) (bm : Int), cellsAt co (blk w.heap.size) [.int .i64 al, .int .i64 ar, .int .u64 bf, .int .i64 bi, .int .i64 bn, .int .i64 au, .slice b5 b0 b6, .int .u64 bm] 0 ∧
 Calls Try.prog 59 #[.agg #[.int .i64 al, .int .i64 ar, .int .u64 bf, .int .i64 bi, .int .i64 bn, .int .i64 au, .slice b5 b0 b6, .int .u64 bm]] co fun cr bv => ∃ (bc : Option Addr) (bd : Nat) (bb : Nat) (ba : Int), cr = .returned (.tuple #[.slice bc bd bb, .int .i64 ba]) ∧
 bif ba != 0 then (
 canStore bv ((blk a0.heap.size).add 0) ∧
 thenW (bv.setCell ((blk a0.heap.size).add 0) (.int .i64 0)) fun cn =>
 canStore cn ((blk a0.heap.size).add 1) ∧
 thenW (cn.setCell ((blk a0.heap.size).add 1) (.int .i64 0)) fun ca =>
 canStore ca ((blk a0.heap.size).add 2) ∧
 thenW (ca.setCell ((blk a0.heap.size).add 2) (.int .u64 0)) fun cm =>
 canStore cm ((blk a0.heap.size).add 3) ∧
 thenW (cm.setCell ((blk a0.heap.size).add 3) (.int .i64 0)) fun cc =>
 canStore cc ((blk a0.heap.size).add 4) ∧
 thenW (cc.setCell ((blk a0.heap.size).add 4) (.int .i64 0)) fun ce =>
 canStore ce ((blk a0.heap.size).add 5) ∧
 thenW (ce.setCell ((blk a0.heap.size).add 5) (.int .i64 0)) fun cq =>
 canStore cq ((blk a0.heap.size).add 6) ∧
 thenW (cq.setCell ((blk a0.heap.size).add 6) (.slice none 0 0)) fun c7 =>
 canStore c7 ((blk a0.heap.size).add 7) ∧
 thenW (c7.setCell ((blk a0.heap.size).add 7) (.int .u64 0)) fun cl =>
 ∃ (a3 : Int) (a4 : Int) (aj : Int) (av : Int) (ap : Int) (a8 : Int) (a9 : Option Addr) (aa : Nat) (a6 : Nat) (ax : Int), cellsAt cl (blk a0.heap.size) [.int .i64 a3, .int .i64 a4, .int .u64 aj, .int .i64 av, .int .i64 ap, .int .i64 a8, .slice a9 aa a6, .int .u64 ax] 0 ∧
 R (.tuple #[.agg #[.int .i64 a3, .int .i64 a4, .int .u64 aj, .int .i64 av, .int .i64 ap, .int .i64 a8, .slice a9 aa a6, .int .u64 ax], .int .i64 ba]) cl) else (
 Calls Try.prog 60 #[.pointer o1, .int .u64 bp, .slice bc bd bb] bv fun cs bs => ∃ (bk : Int) (b9 : Int), cs = .returned (.tuple #[.int .u64 bk, .int .i64 b9]) ∧
 bif b9 != 0 then (
 canStore bs ((blk a0.heap.size).add 0) ∧
 thenW (bs.setCell ((blk a0.heap.size).add 0) (.int .i64 0)) fun cp =>
 canStore cp ((blk a0.heap.size).add 1) ∧
 thenW (cp.setCell ((blk a0.heap.size).add 1) (.int .i64 0)) fun c2 =>
 canStore c2 ((blk a0.heap.size).add 2) ∧
 thenW (c2.setCell ((blk a0.heap.size).add 2) (.int .u64 0)) fun c3 =>
 canStore c3 ((blk a0.heap.size).add 3) ∧
 thenW (c3.setCell ((blk a0.heap.size).add 3) (.int .i64 0)) fun cg =>
 canStore cg ((blk a0.heap.size).add 4) ∧
 thenW (cg.setCell ((blk a0.heap.size).add 4) (.int .i64 0)) fun c8 =>
 canStore c8 ((blk a0.heap.size).add 5) ∧
 thenW (c8.setCell ((blk a0.heap.size).add 5) (.int .i64 0)) fun cj =>
 canStore cj ((blk a0.heap.size).add 6) ∧
 thenW (cj.setCell ((blk a0.heap.size).add 6) (.slice none 0 0)) fun ck =>
 canStore ck ((blk a0.heap.size).add 7) ∧
 thenW (ck.setCell ((blk a0.heap.size).add 7) (.int .u64 0)) fun c4 =>
 ∃ (a2 : Int) (ad : Int) (am : Int) (b3 : Int) (b7 : Int) (a7 : Int) (ah : Option Addr) (ai : Nat) (a5 : Nat) (aw : Int), cellsAt c4 (blk a0.heap.size) [.int .i64 a2, .int .i64 ad, .int .u64 am, .int .i64 b3, .int .i64 b7, .int .i64 a7, .slice ah ai a5, .int .u64 aw] 0 ∧
 R (.tuple #[.agg #[.int .i64 a2, .int .i64 ad, .int .u64 am, .int .i64 b3, .int .i64 b7, .int .i64 a7, .slice ah ai a5, .int .u64 aw], .int .i64 b9]) c4) else (
 canStore bs (((blk w.heap.size).add 7).add 0) ∧
 thenW (bs.setCell (((blk w.heap.size).add 7).add 0) (.int .u64 bk)) fun bw =>
 ∃ (an : Int) (aq : Int) (be : Int) (bj : Int) (bg : Int) (b1 : Int) (b8 : Option Addr) (az : Nat) (b4 : Nat) (bl : Int), cellsAt bw (blk w.heap.size) [.int .i64 an, .int .i64 aq, .int .u64 be, .int .i64 bj, .int .i64 bg, .int .i64 b1, .slice b8 az b4, .int .u64 bl] 0 ∧
 canStore bw ((blk a0.heap.size).add 0) ∧
 thenW (bw.setCell ((blk a0.heap.size).add 0) (.int .i64 an)) fun ci =>
 canStore ci ((blk a0.heap.size).add 1) ∧
 thenW (ci.setCell ((blk a0.heap.size).add 1) (.int .i64 aq)) fun c0 =>
 canStore c0 ((blk a0.heap.size).add 2) ∧
 thenW (c0.setCell ((blk a0.heap.size).add 2) (.int .u64 be)) fun c1 =>
 canStore c1 ((blk a0.heap.size).add 3) ∧
 thenW (c1.setCell ((blk a0.heap.size).add 3) (.int .i64 bj)) fun cd =>
 canStore cd ((blk a0.heap.size).add 4) ∧
 thenW (cd.setCell ((blk a0.heap.size).add 4) (.int .i64 bg)) fun c6 =>
 canStore c6 ((blk a0.heap.size).add 5) ∧
 thenW (c6.setCell ((blk a0.heap.size).add 5) (.int .i64 b1)) fun ch =>
 canStore ch ((blk a0.heap.size).add 6) ∧
 thenW (ch.setCell ((blk a0.heap.size).add 6) (.slice b8 az b4)) fun cf =>
 canStore cf ((blk a0.heap.size).add 7) ∧
 thenW (cf.setCell ((blk a0.heap.size).add 7) (.int .u64 bl)) fun c9 =>
 ∃ (a1 : Int) (af : Int) (ak : Int) (ay : Int) (ao : Int) (ab : Int) (ac : Option Addr) (ag : Nat) (ae : Nat) (b2 : Int), cellsAt c9 (blk a0.heap.size) [.int .i64 a1, .int .i64 af, .int .u64 ak, .int .i64 ay, .int .i64 ao, .int .i64 ab, .slice ac ag ae, .int .u64 b2] 0 ∧
 R (.tuple #[.agg #[.int .i64 a1, .int .i64 af, .int .u64 ak, .int .i64 ay, .int .i64 ao, .int .i64 ab, .slice ac ag ae, .int .u64 b2], .int .i64 0]) c9))

theorem cachetteref06_Sign.eq (o1 : Option Addr) (secret2 : Int) (eWriter3 : Int) (eIndex4 : Int) (ePrev5 : Int) (eAtT6 : Int) (eAtW7 : Int) (eEpoch8 : Int) (eBody9a : Option Addr) (eBody9n : Nat) (eBody9c : Nat) (eSig10 : Int) (R : Value → World → Prop) (w : World) : mfunc Try.prog [] 40 [.pointer o1, .int .u64 secret2, .agg #[.int .i64 eWriter3, .int .i64 eIndex4, .int .u64 ePrev5, .int .i64 eAtT6, .int .i64 eAtW7, .int .i64 eEpoch8, .slice eBody9a eBody9n eBody9c, .int .u64 eSig10]] R w = cachetteref06_Sign.M o1 secret2 eWriter3 eIndex4 ePrev5 eAtT6 eAtW7 eEpoch8 eBody9a eBody9n eBody9c eSig10 R w := by kernel_rfl
theorem cachetteref06_Sign.ok (o1 : Option Addr) (a1 : Int) (a0 : Int) (a4 : Int) (a7 : Int) (aa : Int) (a9 : Int) (a2 : Int) (a5 : Option Addr) (a6 : Nat) (a3 : Nat) (a8 : Int) {R : Value → World → Prop} {w : World} (h : cachetteref06_Sign.M o1 a1 a0 a4 a7 aa a9 a2 a5 a6 a3 a8 R w) : Calls Try.prog 40 #[.pointer o1, .int .u64 a1, .agg #[.int .i64 a0, .int .i64 a4, .int .u64 a7, .int .i64 aa, .int .i64 a9, .int .i64 a2, .slice a5 a6 a3, .int .u64 a8]] w fun e w' => ∃ v, e = .returned v ∧ R v w' :=
  mfunc_ok follows (H := []) (args := [.pointer o1, .int .u64 a1, .agg #[.int .i64 a0, .int .i64 a4, .int .u64 a7, .int .i64 aa, .int .i64 a9, .int .i64 a2, .slice a5 a6 a3, .int .u64 a8]]) (by rw [cachetteref06_Sign.eq]; exact h)

def cachetteref06_Sign.N (o1 : Option Addr) (ae : Int) (a2 : Int) (aa : Int) (ac : Int) (ah : Int) (ag : Int) (a7 : Int) (a9 : Option Addr) (a6 : Nat) (a3 : Nat) (aj : Int) (R : Value → World → Prop) (w : World) : Prop :=
 ∀ (af : World) (ao : Nat) (ak : Nat), Ext no w af → Priv w af [ao, ak] →
 Calls Try.prog 59 #[.agg #[.int .i64 a2, .int .i64 aa, .int .u64 ac, .int .i64 ah, .int .i64 ag, .int .i64 a7, .slice a9 a6 a3, .int .u64 aj]] af fun aq ad => ∃ (a4 : Option Addr) (a5 : Nat) (a8 : Nat) (a1 : Int), aq = .returned (.tuple #[.slice a4 a5 a8, .int .i64 a1]) ∧
 Keep [ao, ak] af ad ∧
 (a1 ≠ 0 →
 ∀ (al : World), Ext (fun b => b = ak) ad al →
 R (.tuple #[.agg #[.int .i64 0, .int .i64 0, .int .u64 0, .int .i64 0, .int .i64 0, .int .i64 0, .slice none 0 0, .int .u64 0], .int .i64 a1]) al) ∧
 (a1 = 0 →
 Calls Try.prog 60 #[.pointer o1, .int .u64 ae, .slice a4 a5 a8] ad fun ap ai => ∃ (ab : Int) (a0 : Int), ap = .returned (.tuple #[.int .u64 ab, .int .i64 a0]) ∧
 Keep [ao, ak] ad ai ∧
 (a0 ≠ 0 →
 ∀ (an : World), Ext (fun b => b = ak) ai an →
 R (.tuple #[.agg #[.int .i64 0, .int .i64 0, .int .u64 0, .int .i64 0, .int .i64 0, .int .i64 0, .slice none 0 0, .int .u64 0], .int .i64 a0]) an) ∧
 (a0 = 0 →
 ∀ (am : World), Ext (fun b => b = ak ∨ b = ao) ai am →
 R (.tuple #[.agg #[.int .i64 a2, .int .i64 aa, .int .u64 ac, .int .i64 ah, .int .i64 ag, .int .i64 a7, .slice a9 a6 a3, .int .u64 ab], .int .i64 0]) am))

theorem cachetteref06_Sign.up (o1 : Option Addr) (af : Int) (a2 : Int) (a3 : Int) (a4 : Int) (a9 : Int) (aa : Int) (a5 : Int) (a8 : Option Addr) (a7 : Nat) (a6 : Nat) (ae : Int) {R : Value → World → Prop} {w : World} (h : cachetteref06_Sign.N o1 af a2 a3 a4 a9 aa a5 a8 a7 a6 ae R w) : cachetteref06_Sign.M o1 af a2 a3 a4 a9 aa a5 a8 a7 a6 ae R w := by
  unfold cachetteref06_Sign.M
  unfold cachetteref06_Sign.N at h
  refine thenW_in fun a0 cr => ?_
  have ab := Blk.of_new cr
  have d7 := ((Ext.refl no w)).size
  have ap := (Ext.refl no w).x_alloc cr
  refine thenW_in fun c8 ce => ?_
  have a1 := Blk.of_new ce
  have d6 := (ap).size
  have aq := Nat.ne_of_lt ab.lt
  have ab := ab.x_alloc ce
  have cb := ap.x_alloc ce
  refine ⟨a2, a3, a4, a9, aa, a5, a8, a7, a6, ae, ⟨ab.celli 0 rfl rfl, ab.celli 1 rfl rfl, ab.celli 2 rfl rfl, ab.celli 3 rfl rfl, ab.celli 4 rfl rfl, ab.celli 5 rfl rfl, ab.celli 6 rfl rfl, ab.celli 7 rfl rfl, trivial⟩, ?_⟩
  have h := h c8 (w.heap.size) (a0.heap.size) cb (Priv.cons d7 ab.lt (Priv.cons d6 a1.lt Priv.nil))
  refine h.mono fun d5 aj h => ?_
  obtain ⟨ah, ag, ai, al, he, hk, h⟩ := h
  refine ⟨ah, ag, ai, al, he, ?_⟩
  have ab := hk.blk ab (by simp)
  have a1 := hk.blk a1 (by simp)
  refine bif_of (fun c9 => ?_) (fun c9 => ?_)
  · have h := h.1 (bne_t c9)
    have bt : Ext (fun b => b = a0.heap.size) aj aj := ((Ext.refl no aj)).none
    refine ⟨a1.cani 0 rfl rfl, thenW_in fun ax cm => ?_⟩
    have ba := bt.x_set (q := a0.heap.size) (i := 0) rfl (.inl rfl) cm
    have a1 : Blk ax a0.heap.size 47 [.int .i64 0, .int .i64 0, .int .u64 0, .int .i64 0, .int .i64 0, .int .i64 0, .slice none 0 0, .int .u64 0] := a1.seti 0 rfl cm
    refine ⟨a1.cani 1 rfl rfl, thenW_in fun bd cy => ?_⟩
    have bx := ba.x_set (q := a0.heap.size) (i := 1) rfl (.inl rfl) cy
    have a1 : Blk bd a0.heap.size 47 [.int .i64 0, .int .i64 0, .int .u64 0, .int .i64 0, .int .i64 0, .int .i64 0, .slice none 0 0, .int .u64 0] := a1.seti 1 rfl cy
    refine ⟨a1.cani 2 rfl rfl, thenW_in fun c5 cs => ?_⟩
    have bz := bx.x_set (q := a0.heap.size) (i := 2) rfl (.inl rfl) cs
    have a1 : Blk c5 a0.heap.size 47 [.int .i64 0, .int .i64 0, .int .u64 0, .int .i64 0, .int .i64 0, .int .i64 0, .slice none 0 0, .int .u64 0] := a1.seti 2 rfl cs
    refine ⟨a1.cani 3 rfl rfl, thenW_in fun bf cf => ?_⟩
    have bn := bz.x_set (q := a0.heap.size) (i := 3) rfl (.inl rfl) cf
    have a1 : Blk bf a0.heap.size 47 [.int .i64 0, .int .i64 0, .int .u64 0, .int .i64 0, .int .i64 0, .int .i64 0, .slice none 0 0, .int .u64 0] := a1.seti 3 rfl cf
    refine ⟨a1.cani 4 rfl rfl, thenW_in fun bl cn => ?_⟩
    have c6 := bn.x_set (q := a0.heap.size) (i := 4) rfl (.inl rfl) cn
    have a1 : Blk bl a0.heap.size 47 [.int .i64 0, .int .i64 0, .int .u64 0, .int .i64 0, .int .i64 0, .int .i64 0, .slice none 0 0, .int .u64 0] := a1.seti 4 rfl cn
    refine ⟨a1.cani 5 rfl rfl, thenW_in fun c7 cx => ?_⟩
    have bu := c6.x_set (q := a0.heap.size) (i := 5) rfl (.inl rfl) cx
    have a1 : Blk c7 a0.heap.size 47 [.int .i64 0, .int .i64 0, .int .u64 0, .int .i64 0, .int .i64 0, .int .i64 0, .slice none 0 0, .int .u64 0] := a1.seti 5 rfl cx
    refine ⟨a1.cani 6 rfl rfl, thenW_in fun bc ct => ?_⟩
    have b0 := bu.x_set (q := a0.heap.size) (i := 6) rfl (.inl rfl) ct
    have a1 : Blk bc a0.heap.size 47 [.int .i64 0, .int .i64 0, .int .u64 0, .int .i64 0, .int .i64 0, .int .i64 0, .slice none 0 0, .int .u64 0] := a1.seti 6 rfl ct
    refine ⟨a1.cani 7 rfl rfl, thenW_in fun ao d3 => ?_⟩
    have bj := b0.x_set (q := a0.heap.size) (i := 7) rfl (.inl rfl) d3
    have a1 : Blk ao a0.heap.size 47 [.int .i64 0, .int .i64 0, .int .u64 0, .int .i64 0, .int .i64 0, .int .i64 0, .slice none 0 0, .int .u64 0] := a1.seti 7 rfl d3
    refine ⟨0, 0, 0, 0, 0, 0, none, 0, 0, 0, ⟨a1.celli 0 rfl rfl, a1.celli 1 rfl rfl, a1.celli 2 rfl rfl, a1.celli 3 rfl rfl, a1.celli 4 rfl rfl, a1.celli 5 rfl rfl, a1.celli 6 rfl rfl, a1.celli 7 rfl rfl, trivial⟩, ?_⟩
    have h := h ao bj
    exact h
  · have h := h.2 (bne_f c9)
    refine h.mono fun d4 ad h => ?_
    obtain ⟨ac, ak, he, hk, h⟩ := h
    refine ⟨ac, ak, he, ?_⟩
    have ab := hk.blk ab (by simp)
    have a1 := hk.blk a1 (by simp)
    refine bif_of (fun av => ?_) (fun av => ?_)
    · have h := h.1 (bne_t av)
      have bg : Ext (fun b => b = a0.heap.size) ad ad := ((Ext.refl no ad)).none
      refine ⟨a1.cani 0 rfl rfl, thenW_in fun b1 co => ?_⟩
      have ay := bg.x_set (q := a0.heap.size) (i := 0) rfl (.inl rfl) co
      have a1 : Blk b1 a0.heap.size 47 [.int .i64 0, .int .i64 0, .int .u64 0, .int .i64 0, .int .i64 0, .int .i64 0, .slice none 0 0, .int .u64 0] := a1.seti 0 rfl co
      refine ⟨a1.cani 1 rfl rfl, thenW_in fun bv cu => ?_⟩
      have b3 := ay.x_set (q := a0.heap.size) (i := 1) rfl (.inl rfl) cu
      have a1 : Blk bv a0.heap.size 47 [.int .i64 0, .int .i64 0, .int .u64 0, .int .i64 0, .int .i64 0, .int .i64 0, .slice none 0 0, .int .u64 0] := a1.seti 1 rfl cu
      refine ⟨a1.cani 2 rfl rfl, thenW_in fun b7 cp => ?_⟩
      have au := b3.x_set (q := a0.heap.size) (i := 2) rfl (.inl rfl) cp
      have a1 : Blk b7 a0.heap.size 47 [.int .i64 0, .int .i64 0, .int .u64 0, .int .i64 0, .int .i64 0, .int .i64 0, .slice none 0 0, .int .u64 0] := a1.seti 2 rfl cp
      refine ⟨a1.cani 3 rfl rfl, thenW_in fun c1 cg => ?_⟩
      have be := au.x_set (q := a0.heap.size) (i := 3) rfl (.inl rfl) cg
      have a1 : Blk c1 a0.heap.size 47 [.int .i64 0, .int .i64 0, .int .u64 0, .int .i64 0, .int .i64 0, .int .i64 0, .slice none 0 0, .int .u64 0] := a1.seti 3 rfl cg
      refine ⟨a1.cani 4 rfl rfl, thenW_in fun b6 d1 => ?_⟩
      have bw := be.x_set (q := a0.heap.size) (i := 4) rfl (.inl rfl) d1
      have a1 : Blk b6 a0.heap.size 47 [.int .i64 0, .int .i64 0, .int .u64 0, .int .i64 0, .int .i64 0, .int .i64 0, .slice none 0 0, .int .u64 0] := a1.seti 4 rfl d1
      refine ⟨a1.cani 5 rfl rfl, thenW_in fun b8 ch => ?_⟩
      have b9 := bw.x_set (q := a0.heap.size) (i := 5) rfl (.inl rfl) ch
      have a1 : Blk b8 a0.heap.size 47 [.int .i64 0, .int .i64 0, .int .u64 0, .int .i64 0, .int .i64 0, .int .i64 0, .slice none 0 0, .int .u64 0] := a1.seti 5 rfl ch
      refine ⟨a1.cani 6 rfl rfl, thenW_in fun bk ck => ?_⟩
      have bq := b9.x_set (q := a0.heap.size) (i := 6) rfl (.inl rfl) ck
      have a1 : Blk bk a0.heap.size 47 [.int .i64 0, .int .i64 0, .int .u64 0, .int .i64 0, .int .i64 0, .int .i64 0, .slice none 0 0, .int .u64 0] := a1.seti 6 rfl ck
      refine ⟨a1.cani 7 rfl rfl, thenW_in fun an ci => ?_⟩
      have cd := bq.x_set (q := a0.heap.size) (i := 7) rfl (.inl rfl) ci
      have a1 : Blk an a0.heap.size 47 [.int .i64 0, .int .i64 0, .int .u64 0, .int .i64 0, .int .i64 0, .int .i64 0, .slice none 0 0, .int .u64 0] := a1.seti 7 rfl ci
      refine ⟨0, 0, 0, 0, 0, 0, none, 0, 0, 0, ⟨a1.celli 0 rfl rfl, a1.celli 1 rfl rfl, a1.celli 2 rfl rfl, a1.celli 3 rfl rfl, a1.celli 4 rfl rfl, a1.celli 5 rfl rfl, a1.celli 6 rfl rfl, a1.celli 7 rfl rfl, trivial⟩, ?_⟩
      have h := h an cd
      exact h
    · have h := h.2 (bne_f av)
      have bm : Ext (fun b => b = w.heap.size) ad ad := ((Ext.refl no ad)).none
      refine ⟨ab.cani 7 rfl rfl, thenW_in fun ar c0 => ?_⟩
      have bh := bm.x_set (q := w.heap.size) (i := 7) rfl (.inl rfl) c0
      have ab : Blk ar w.heap.size 47 [.int .i64 a2, .int .i64 a3, .int .u64 a4, .int .i64 a9, .int .i64 aa, .int .i64 a5, .slice a8 a7 a6, .int .u64 ac] := ab.seti 7 rfl c0
      have a1 := a1.oth (q := w.heap.size) (i := 7) rfl (Ne.symm aq) c0
      refine ⟨a2, a3, a4, a9, aa, a5, a8, a7, a6, ac, ⟨ab.celli 0 rfl rfl, ab.celli 1 rfl rfl, ab.celli 2 rfl rfl, ab.celli 3 rfl rfl, ab.celli 4 rfl rfl, ab.celli 5 rfl rfl, ab.celli 6 rfl rfl, ab.celli 7 rfl rfl, trivial⟩, ?_⟩
      have bi : Ext (fun b => b = a0.heap.size ∨ b = w.heap.size) ad ar := (bh).mono fun _ h _ => .inr h
      refine ⟨a1.cani 0 rfl rfl, thenW_in fun b2 cw => ?_⟩
      have c3 := bi.x_set (q := a0.heap.size) (i := 0) rfl (.inl (.inl rfl)) cw
      have a1 : Blk b2 a0.heap.size 47 [.int .i64 a2, .int .i64 0, .int .u64 0, .int .i64 0, .int .i64 0, .int .i64 0, .slice none 0 0, .int .u64 0] := a1.seti 0 rfl cw
      refine ⟨a1.cani 1 rfl rfl, thenW_in fun bb d2 => ?_⟩
      have aw := c3.x_set (q := a0.heap.size) (i := 1) rfl (.inl (.inl rfl)) d2
      have a1 : Blk bb a0.heap.size 47 [.int .i64 a2, .int .i64 a3, .int .u64 0, .int .i64 0, .int .i64 0, .int .i64 0, .slice none 0 0, .int .u64 0] := a1.seti 1 rfl d2
      refine ⟨a1.cani 2 rfl rfl, thenW_in fun bs d0 => ?_⟩
      have az := aw.x_set (q := a0.heap.size) (i := 2) rfl (.inl (.inl rfl)) d0
      have a1 : Blk bs a0.heap.size 47 [.int .i64 a2, .int .i64 a3, .int .u64 a4, .int .i64 0, .int .i64 0, .int .i64 0, .slice none 0 0, .int .u64 0] := a1.seti 2 rfl d0
      refine ⟨a1.cani 3 rfl rfl, thenW_in fun ca cz => ?_⟩
      have bp := az.x_set (q := a0.heap.size) (i := 3) rfl (.inl (.inl rfl)) cz
      have a1 : Blk ca a0.heap.size 47 [.int .i64 a2, .int .i64 a3, .int .u64 a4, .int .i64 a9, .int .i64 0, .int .i64 0, .slice none 0 0, .int .u64 0] := a1.seti 3 rfl cz
      refine ⟨a1.cani 4 rfl rfl, thenW_in fun b4 cv => ?_⟩
      have cc := bp.x_set (q := a0.heap.size) (i := 4) rfl (.inl (.inl rfl)) cv
      have a1 : Blk b4 a0.heap.size 47 [.int .i64 a2, .int .i64 a3, .int .u64 a4, .int .i64 a9, .int .i64 aa, .int .i64 0, .slice none 0 0, .int .u64 0] := a1.seti 4 rfl cv
      refine ⟨a1.cani 5 rfl rfl, thenW_in fun b5 cq => ?_⟩
      have bo := cc.x_set (q := a0.heap.size) (i := 5) rfl (.inl (.inl rfl)) cq
      have a1 : Blk b5 a0.heap.size 47 [.int .i64 a2, .int .i64 a3, .int .u64 a4, .int .i64 a9, .int .i64 aa, .int .i64 a5, .slice none 0 0, .int .u64 0] := a1.seti 5 rfl cq
      refine ⟨a1.cani 6 rfl rfl, thenW_in fun br cj => ?_⟩
      have c4 := bo.x_set (q := a0.heap.size) (i := 6) rfl (.inl (.inl rfl)) cj
      have a1 : Blk br a0.heap.size 47 [.int .i64 a2, .int .i64 a3, .int .u64 a4, .int .i64 a9, .int .i64 aa, .int .i64 a5, .slice a8 a7 a6, .int .u64 0] := a1.seti 6 rfl cj
      refine ⟨a1.cani 7 rfl rfl, thenW_in fun am cl => ?_⟩
      have c2 := c4.x_set (q := a0.heap.size) (i := 7) rfl (.inl (.inl rfl)) cl
      have a1 : Blk am a0.heap.size 47 [.int .i64 a2, .int .i64 a3, .int .u64 a4, .int .i64 a9, .int .i64 aa, .int .i64 a5, .slice a8 a7 a6, .int .u64 ac] := a1.seti 7 rfl cl
      refine ⟨a2, a3, a4, a9, aa, a5, a8, a7, a6, ac, ⟨a1.celli 0 rfl rfl, a1.celli 1 rfl rfl, a1.celli 2 rfl rfl, a1.celli 3 rfl rfl, a1.celli 4 rfl rfl, a1.celli 5 rfl rfl, a1.celli 6 rfl rfl, a1.celli 7 rfl rfl, trivial⟩, ?_⟩
      have h := h am c2
      exact h

theorem cachetteref06_Sign.go (o1 : Option Addr) (a1 : Int) (a0 : Int) (a4 : Int) (a7 : Int) (aa : Int) (a9 : Int) (a2 : Int) (a5 : Option Addr) (a6 : Nat) (a3 : Nat) (a8 : Int) {R : Value → World → Prop} {w : World} (h : cachetteref06_Sign.N o1 a1 a0 a4 a7 aa a9 a2 a5 a6 a3 a8 R w) : Calls Try.prog 40 #[.pointer o1, .int .u64 a1, .agg #[.int .i64 a0, .int .i64 a4, .int .u64 a7, .int .i64 aa, .int .i64 a9, .int .i64 a2, .slice a5 a6 a3, .int .u64 a8]] w fun e w' => ∃ v, e = .returned v ∧ R v w' := cachetteref06_Sign.ok o1 a1 a0 a4 a7 aa a9 a2 a5 a6 a3 a8 (cachetteref06_Sign.up o1 a1 a0 a4 a7 aa a9 a2 a5 a6 a3 a8 h)
def signRE (d : List Int) (L : List RRow) (s : Int) (e : Ent) : (Ent × Int) × List Int × List RRow :=
  if entRight e = true then (if (signR d L s (textL e)).1.2 = 0 then (({ e with sg := (signR d L s (textL e)).1.1 }, 0), (signR d L s (textL e)).2) else ((Ent.zero, (signR d L s (textL e)).1.2), (signR d L s (textL e)).2)) else ((Ent.zero, 1), d, L)
theorem rESign_spec (h : ROrc w o k d L) (ok : ROk w o d L) (s : Int) {e : Ent} (hf : entRight e = true → e.fit) {ba : Option Addr} {bc : Nat} (hb : Row w o ba (bytesV e.body)) (hbc : e.body.length ≤ bc) :
    Calls Try.prog 40 #[.pointer (some (blk k)), .int .u64 s, entV e ba bc] w (fun x w' => ∃ o' a' c', x = .returned (.tuple #[entV (signRE d L s e).1.1 a' c', .int .i64 (signRE d L s e).1.2]) ∧ Step (fun j => j = k) w o w' o' ∧ ROrc w' o' k (signRE d L s e).2.1 (signRE d L s e).2.2 ∧ Row w' o' a' (bytesV (signRE d L s e).1.1.body) ∧ (signRE d L s e).1.1.body.length ≤ c') := by
  refine (cachetteref06_Sign.go (some (blk k)) s e.w e.i e.pv e.t e.tw e.ep ba e.body.length bc e.sg (R := fun v w' => ∃ o' a' c', v = (.tuple #[entV (signRE d L s e).1.1 a' c', .int .i64 (signRE d L s e).1.2]) ∧ Step (fun j => j = k) w o w' o' ∧ ROrc w' o' k (signRE d L s e).2.1 (signRE d L s e).2.2 ∧ Row w' o' a' (bytesV (signRE d L s e).1.1.body) ∧ (signRE d L s e).1.1.body.length ≤ c') ?_).mono fun x w' ⟨v, he, o', a', c', hv, hw⟩ => ⟨o', a', c', by rw [he, hv], hw⟩
  unfold cachetteref06_Sign.N
  intro w12 p13 p14 X12 hp
  obtain ⟨s12, M12⟩ := Step.priv X12 hp ok.tags
  have hkl := h.lt
  have g13 := hp p13 (by simp)
  have g14 := hp p14 (by simp)
  refine (rTextK_spec hf (hb.step s12).1).mono fun x w18 ⟨a, c, he, hO, X⟩ => ⟨_, _, _, _, he, X.kept, ?_⟩
  have s18' := Step.of_no X s12.ok
  have s18 := s12.trans s18'
  have M18 := M12.step s18'
  have h18 := h.step s18 id
  have ok18 : ROk w18 _ d L := ⟨s18.ok, ok.draws, ok.short, ok.bytes⟩
  unfold textK signRE at *
  by_cases hr : entRight e = true
  · rw [if_pos hr] at hO ⊢
    rw [if_pos hr]
    refine ⟨fun h => absurd rfl h, fun _ => ?_⟩
    refine (rSign_spec h18 ok18 s (OwnB.tight hO (Nat.le_refl _)) hO.le).mono fun x w31 ⟨o31, he, s31', h31⟩ => ⟨_, _, he, M18.keep s31' (by simp; omega), fun hne w40 X40 => ?_, fun heq w49 X49 => ?_⟩
    · have s31 := s18.none.trans s31'
      have s40 := Step.stores X40 s31.ok (M18.step s31') (by simp)
      rw [if_neg hne]
      exact ⟨_, none, 0, rfl, s31.trans' s40 fun j hj => .inr (by simp at hj; omega), h31.step s40 (by simp; omega), Row.nil _ _ _, Nat.le_refl _⟩
    · have s31 := s18.none.trans s31'
      have s49 := Step.stores X49 s31.ok (M18.step s31') (by simp)
      have s := s31.trans' s49 fun j hj => .inr (by simp at hj; omega)
      rw [if_pos heq]
      exact ⟨_, ba, bc, rfl, s, h31.step s49 (by simp; omega), hb.step s, hbc⟩
  · rw [if_neg hr]
    rw [if_neg hr]
    refine ⟨fun _ w27 X27 => ?_, fun h => absurd h (by decide)⟩
    have s27 := Step.stores X27 s18.ok M18 (by simp)
    exact ⟨_, none, 0, rfl, s18.none.trans' s27 fun j hj => .inr (by simp at hj; omega), h18.step s27 (by simp; omega), Row.nil _ _ _, Nat.le_refl _⟩
theorem esign_sim (h : Sim S d L) (s : Int) (e : Ent) : (signRE d L s e).1 = (signE S s e).1 ∧ Sim (signE S s e).2 (signRE d L s e).2.1 (signRE d L s e).2.2 := by
  unfold signRE signE
  by_cases hr : entRight e = true
  · rw [if_pos hr, if_pos hr]
    obtain ⟨h1, h2⟩ := sign_sim h s (textL e)
    rw [h1]
    cases hs : (signOf S s (textL e)).1.2
    · exact ⟨rfl, h2⟩
    · exact ⟨rfl, h2⟩
  · rw [if_neg hr, if_neg hr]
    exact ⟨rfl, h⟩
theorem RFine.esign (h : RFine n d L) (s : Int) (e : Ent) : RFine (n + 1) (signRE d L s e).2.1 (signRE d L s e).2.2 := by
  unfold signRE
  split
  · rename_i hr
    have := h.sign s (b := textL e) (by have := textL_le' hr; omega)
    split <;> exact this
  · exact h.more
theorem esign_inv (h : OInv S) (s : Int) (e : Ent) : OInv (signE S s e).2 := by
  unfold signE
  split
  · split <;> exact (sign_inv' h s _).1
  · exact h
theorem esign_fit (h : OInv S) (hl : S.used.length < 1000000) (s : Int) {e : Ent} (he : e.fit) : (signE S s e).1.1.fit := by
  have z : Ent.zero.fit := ⟨by decide, by decide, by decide, by decide⟩
  unfold signE
  split
  · split
    · rename_i ht
      by_cases hk : s ∈ S.secrets
      · obtain ⟨a1, a2, a3, a4, _⟩ := sign_inv h hk (textL e)
        have hx := a1.fit (by have := (signOf_ok h.ok s (textL e)).2; omega) (a1.su _ _ a4)
        exact ⟨he.pv0, he.pv1, hx.1, hx.2⟩
      · rw [sign_no hk] at ht; cases ht
    · exact z
  · exact z
/-- cachetteref06.Holds -/
def cachetteref06_Holds.M (o1 : Option Addr) (ad : Int) (ac : Int) (al : Int) (an : Int) (au : Int) (aq : Int) (aj : Int) (ak : Option Addr) (ai : Nat) (ah : Nat) (ao : Int) (R : Value → World → Prop) (w : World) : Prop :=
 thenW (w.alloc (.cells #[.int .i64 ac, .int .i64 al, .int .u64 an, .int .i64 au, .int .i64 aq, .int .i64 aj, .slice ak ai ah, .int .u64 ao] 47)) fun ar =>
 ∃ (a0 : Int) (a5 : Int) (a8 : Int) (ag : Int) (ab : Int) (a2 : Int) (a3 : Option Addr) (a4 : Nat) (a6 : Nat) (ae : Int), cellsAt ar (blk w.heap.size) [.int .i64 a0, .int .i64 a5, .int .u64 a8, .int .i64 ag, .int .i64 ab, .int .i64 a2, .slice a3 a4 a6, .int .u64 ae] 0 ∧
 Calls Try.prog 59 #[.agg #[.int .i64 a0, .int .i64 a5, .int .u64 a8, .int .i64 ag, .int .i64 ab, .int .i64 a2, .slice a3 a4 a6, .int .u64 ae]] ar fun av ap => ∃ (a7 : Option Addr) (aa : Nat) (a9 : Nat) (af : Int), av = .returned (.tuple #[.slice a7 aa a9, .int .i64 af]) ∧
 bif af == 0 then (
 ∃ (am : Int), ap.cell? ((blk w.heap.size).add 7) = some (.int .u64 am) ∧
 Calls Try.prog 63 #[.pointer o1, .int .u64 ad, .slice a7 aa a9, .int .u64 am] ap fun ax aw => ∃ (a1 : Bool), ax = .returned (.bool a1) ∧
 R (.bool a1) aw) else (
 R (.bool false) ap)

theorem cachetteref06_Holds.eq (o1 : Option Addr) (publicv2 : Int) (eWriter3 : Int) (eIndex4 : Int) (ePrev5 : Int) (eAtT6 : Int) (eAtW7 : Int) (eEpoch8 : Int) (eBody9a : Option Addr) (eBody9n : Nat) (eBody9c : Nat) (eSig10 : Int) (R : Value → World → Prop) (w : World) : mfunc Try.prog [] 44 [.pointer o1, .int .u64 publicv2, .agg #[.int .i64 eWriter3, .int .i64 eIndex4, .int .u64 ePrev5, .int .i64 eAtT6, .int .i64 eAtW7, .int .i64 eEpoch8, .slice eBody9a eBody9n eBody9c, .int .u64 eSig10]] R w = cachetteref06_Holds.M o1 publicv2 eWriter3 eIndex4 ePrev5 eAtT6 eAtW7 eEpoch8 eBody9a eBody9n eBody9c eSig10 R w := by kernel_rfl
theorem cachetteref06_Holds.ok (o1 : Option Addr) (a1 : Int) (a0 : Int) (a4 : Int) (a7 : Int) (aa : Int) (a9 : Int) (a2 : Int) (a5 : Option Addr) (a6 : Nat) (a3 : Nat) (a8 : Int) {R : Value → World → Prop} {w : World} (h : cachetteref06_Holds.M o1 a1 a0 a4 a7 aa a9 a2 a5 a6 a3 a8 R w) : Calls Try.prog 44 #[.pointer o1, .int .u64 a1, .agg #[.int .i64 a0, .int .i64 a4, .int .u64 a7, .int .i64 aa, .int .i64 a9, .int .i64 a2, .slice a5 a6 a3, .int .u64 a8]] w fun e w' => ∃ v, e = .returned v ∧ R v w' :=
  mfunc_ok follows (H := []) (args := [.pointer o1, .int .u64 a1, .agg #[.int .i64 a0, .int .i64 a4, .int .u64 a7, .int .i64 aa, .int .i64 a9, .int .i64 a2, .slice a5 a6 a3, .int .u64 a8]]) (by rw [cachetteref06_Holds.eq]; exact h)

def cachetteref06_Holds.N (o1 : Option Addr) (a6 : Int) (a5 : Int) (ad : Int) (ae : Int) (ah : Int) (ag : Int) (ab : Int) (ac : Option Addr) (aa : Nat) (a8 : Nat) (a7 : Int) (R : Value → World → Prop) (w : World) : Prop :=
 ∀ (a9 : World) (al : Nat), Ext no w a9 → Priv w a9 [al] →
 Calls Try.prog 59 #[.agg #[.int .i64 a5, .int .i64 ad, .int .u64 ae, .int .i64 ah, .int .i64 ag, .int .i64 ab, .slice ac aa a8, .int .u64 a7]] a9 fun aj af => ∃ (a3 : Option Addr) (a4 : Nat) (a2 : Nat) (a1 : Int), aj = .returned (.tuple #[.slice a3 a4 a2, .int .i64 a1]) ∧
 Keep [al] a9 af ∧
 (a1 = 0 →
 Calls Try.prog 63 #[.pointer o1, .int .u64 a6, .slice a3 a4 a2, .int .u64 a7] af fun ak ai => ∃ (a0 : Bool), ak = .returned (.bool a0) ∧
 R (.bool a0) ai) ∧
 (a1 ≠ 0 →
 R (.bool false) af)

theorem cachetteref06_Holds.up (o1 : Option Addr) (a7 : Int) (a0 : Int) (a6 : Int) (a8 : Int) (ac : Int) (ab : Int) (a3 : Int) (a4 : Option Addr) (a2 : Nat) (a1 : Nat) (a5 : Int) {R : Value → World → Prop} {w : World} (h : cachetteref06_Holds.N o1 a7 a0 a6 a8 ac ab a3 a4 a2 a1 a5 R w) : cachetteref06_Holds.M o1 a7 a0 a6 a8 ac ab a3 a4 a2 a1 a5 R w := by
  unfold cachetteref06_Holds.M
  unfold cachetteref06_Holds.N at h
  refine thenW_in fun ai ak => ?_
  have a9 := Blk.of_new ak
  have ao := ((Ext.refl no w)).size
  have aj := (Ext.refl no w).x_alloc ak
  refine ⟨a0, a6, a8, ac, ab, a3, a4, a2, a1, a5, ⟨a9.celli 0 rfl rfl, a9.celli 1 rfl rfl, a9.celli 2 rfl rfl, a9.celli 3 rfl rfl, a9.celli 4 rfl rfl, a9.celli 5 rfl rfl, a9.celli 6 rfl rfl, a9.celli 7 rfl rfl, trivial⟩, ?_⟩
  have h := h ai (w.heap.size) aj (Priv.cons ao a9.lt Priv.nil)
  refine h.mono fun am ap h => ?_
  obtain ⟨ae, af, ad, ag, he, hk, h⟩ := h
  refine ⟨ae, af, ad, ag, he, ?_⟩
  have a9 := hk.blk a9 (by simp)
  refine bif_of (fun ah => ?_) (fun ah => ?_)
  · have h := h.1 (beq_t ah)
    refine ⟨a5, a9.celli 7 rfl rfl, ?_⟩
    refine h.mono fun an al h => ?_
    obtain ⟨aa, he, h⟩ := h
    refine ⟨aa, he, ?_⟩
    exact h
  · have h := h.2 (beq_f ah)
    exact h

theorem cachetteref06_Holds.go (o1 : Option Addr) (a1 : Int) (a0 : Int) (a4 : Int) (a7 : Int) (aa : Int) (a9 : Int) (a2 : Int) (a5 : Option Addr) (a6 : Nat) (a3 : Nat) (a8 : Int) {R : Value → World → Prop} {w : World} (h : cachetteref06_Holds.N o1 a1 a0 a4 a7 aa a9 a2 a5 a6 a3 a8 R w) : Calls Try.prog 44 #[.pointer o1, .int .u64 a1, .agg #[.int .i64 a0, .int .i64 a4, .int .u64 a7, .int .i64 aa, .int .i64 a9, .int .i64 a2, .slice a5 a6 a3, .int .u64 a8]] w fun e w' => ∃ v, e = .returned v ∧ R v w' := cachetteref06_Holds.ok o1 a1 a0 a4 a7 aa a9 a2 a5 a6 a3 a8 (cachetteref06_Holds.up o1 a1 a0 a4 a7 aa a9 a2 a5 a6 a3 a8 h)
theorem cachetteref06_Holds.run (o1 : Option Addr) (a1 : Int) (a0 : Int) (a4 : Int) (a7 : Int) (aa : Int) (a9 : Int) (a2 : Int) (a5 : Option Addr) (a6 : Nat) (a3 : Nat) (a8 : Int) {V : Value} {Q : World → Prop} {w : World} (h : cachetteref06_Holds.N o1 a1 a0 a4 a7 aa a9 a2 a5 a6 a3 a8 (fun v w' => v = V ∧ Q w') w) : Calls Try.prog 44 #[.pointer o1, .int .u64 a1, .agg #[.int .i64 a0, .int .i64 a4, .int .u64 a7, .int .i64 aa, .int .i64 a9, .int .i64 a2, .slice a5 a6 a3, .int .u64 a8]] w (Ret V Q) := (cachetteref06_Holds.go o1 a1 a0 a4 a7 aa a9 a2 a5 a6 a3 a8 h).mono fun e w' ⟨v, he, hv, hq⟩ => ⟨by rw [he, hv], hq⟩

def holdsR (L : List RRow) (p : Int) (e : Ent) : Bool := entRight e && verifyR L p (textL e) e.sg
theorem rHolds_spec (h : ROrc w o k d L) (ok : ROk w o d L) (p : Int) {e : Ent} (hf : entRight e = true → e.fit) {ba : Option Addr} {bc : Nat} (hb : RowAt w ba (bytesV e.body)) :
    Calls Try.prog 44 #[.pointer (some (blk k)), .int .u64 p, entV e ba bc] w (Ret (.bool (holdsR L p e)) fun w' => Ext no w w') := by
  refine cachetteref06_Holds.run (some (blk k)) p e.w e.i e.pv e.t e.tw e.ep ba e.body.length bc e.sg ?_
  unfold cachetteref06_Holds.N
  intro w11 p12 X11 hp
  refine (rTextK_spec hf (hb.no X11)).mono fun x w16 ⟨a, c, he, hO, X⟩ => ⟨_, _, _, _, he, X.kept, ?_⟩
  have s := (Step.of_no X11 ok.tags).trans (Step.of_no X (Step.of_no X11 ok.tags).ok)
  unfold textK holdsR at *
  by_cases hr : entRight e = true
  · rw [if_pos hr] at hO ⊢
    rw [hr, Bool.true_and]
    refine ⟨fun _ => ?_, fun h => absurd rfl h⟩
    exact (rVerify_spec (h.step s id) ⟨s.ok, ok.draws, ok.short, ok.bytes⟩ p e.sg (OwnB.tight hO (Nat.le_refl _))).mono fun x w20 ⟨he, X20⟩ => ⟨_, he, rfl, (X11.trans X).trans X20⟩
  · rw [if_neg hr]
    rw [show entRight e = false by simpa using hr, Bool.false_and]
    exact ⟨fun h => absurd h (by decide), fun _ => ⟨rfl, X11.trans X⟩⟩
theorem holds_sim (h : Sim S d L) (p : Int) (e : Ent) : holdsR L p e = holdsE S p e := by unfold holdsR holdsE; rw [verify_sim h]
end
end Go.Proofs.Ytdelmfpchbpafaa

/- Entries and a head that are handed in. -/
set_option linter.unusedVariables false
set_option linter.unusedSimpArgs false
set_option maxRecDepth 20000
namespace Go.Proofs.Ytdelmfpchbpafaa
open Go Go.Mx Go.Proofs
end Go.Proofs.Ytdelmfpchbpafaa
