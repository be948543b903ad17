/- The reference's log: Issue. -/
import Derived.Test.YtdelmfpchbpafaaZE
import Derived.Test.YtdelmfpchbpafaaZC
import Derived.Lib.Overlaps
import Derived.Lib.AppendZerosOnto
import Derived.Laws.IdiomCopy
import Derived.Laws.Externs
set_option linter.unusedVariables false
set_option linter.unusedSimpArgs false
set_option maxRecDepth 20000
set_option maxHeartbeats 2000000
namespace Go.Proofs.Ytdelmfpchbpafaa
open Go Go.Mx Go.Proofs
open W (OwnB GivesW numR countR doneR zig unzig intR)
def nextR (S : OS) (wr pb : Int) (es : List Ent) (t tw ep : Int) (body : List UInt8) : Ent := nextE ⟨wr, pb, es, (headS S es).1⟩ t tw ep body
def issueR (S : OS) (wr pb : Int) (es : List Ent) (sec t tw ep : Int) (body : List UInt8) : (Ent × Int) × List Ent × OS :=
  if es.length ≥ 200 then ((Ent.zero, 3), es, S)
  else if entRight (nextR S wr pb es t tw ep body) = true then
    (if lateS es t tw = true then ((Ent.zero, 2), es, (headS S es).2)
     else if (signE (headS S es).2 sec (nextR S wr pb es t tw ep body)).1.2 ≠ 0 then ((Ent.zero, (signE (headS S es).2 sec (nextR S wr pb es t tw ep body)).1.2), es, (signE (headS S es).2 sec (nextR S wr pb es t tw ep body)).2)
     else (((signE (headS S es).2 sec (nextR S wr pb es t tw ep body)).1.1, 0), es ++ [(signE (headS S es).2 sec (nextR S wr pb es t tw ep body)).1.1], (signE (headS S es).2 sec (nextR S wr pb es t tw ep body)).2))
  else ((Ent.zero, 1), es, (headS S es).2)
section
variable {w w' w1 : World} {o o' o1 : Own} {q j k n : Nat} {K : Nat → Prop} {S S1 S2 : OS} {L : CL} {wr pb : Int} {es : List Ent} {e : Ent} {a : Option Addr} {c : Nat}
theorem rIssue_spec (P : RLog w o q wr pb es) (h : RSt w o j S n) (hqj : q ≠ j) (hn : n + 2 < 1000000) (hsum : 0 ≤ (headS S es).1 ∧ (headS S es).1 < 18446744073709551616) (sec t tw ep : Int) {body : List UInt8} (hfs : (nextR S wr pb es t tw ep body).fit → (signE (headS S es).2 sec (nextR S wr pb es t tw ep body)).1.1.fit) (hb : Row w o a (bytesV body)) (hbc : body.length ≤ c) :
    Calls Try.prog 16 #[.pointer (some (blk q)), .pointer (some (blk j)), .int .u64 sec, .agg #[.int .i64 t, .int .i64 tw], .int .i64 ep, .slice a body.length c] w (fun x w' => ∃ o' a' c', x = .returned (.tuple #[entV (issueR S wr pb es sec t tw ep body).1.1 a' c', .int .i64 (issueR S wr pb es sec t tw ep body).1.2]) ∧ Step (fun i => i = q ∨ i = j) w o w' o' ∧
      RLog w' o' q wr pb (issueR S wr pb es sec t tw ep body).2.1 ∧ RSt w' o' j (issueR S wr pb es sec t tw ep body).2.2 (n + 2) ∧ Row w' o' a' (bytesV (issueR S wr pb es sec t tw ep body).1.1.body) ∧ (issueR S wr pb es sec t tw ep body).1.1.body.length ≤ c') := by
  refine (cachetteref07_Log_Issue.go (some (blk q)) (some (blk j)) sec t tw ep a body.length c (R := fun v w' => ∃ o' a' c', v = (.tuple #[entV (issueR S wr pb es sec t tw ep body).1.1 a' c', .int .i64 (issueR S wr pb es sec t tw ep body).1.2]) ∧ Step (fun i => i = q ∨ i = j) w o w' o' ∧
      RLog w' o' q wr pb (issueR S wr pb es sec t tw ep body).2.1 ∧ RSt w' o' j (issueR S wr pb es sec t tw ep body).2.2 (n + 2) ∧ Row w' o' a' (bytesV (issueR S wr pb es sec t tw ep body).1.1.body) ∧ (issueR S wr pb es sec t tw ep body).1.1.body.length ≤ c') ?_).mono fun x w' ⟨v, he, o', a', c', hv, hw⟩ => ⟨o', a', c', by rw [he, hv], hw⟩
  unfold cachetteref07_Log_Issue.N
  obtain ⟨la, lc, l, g0, b1, b2, b3, b4⟩ := P.st
  have hl := len_map_e g0
  have hjl := h.lt
  have hlt := P.lt
  rw [hl] at b1 b2
  have hF : cachetteref06_Right.F wr (es.length : Int) (headS S es).1 t tw ep a body.length c 0 = entRight (nextR S wr pb es t tw ep body) := refRight_F (nextR S wr pb es t tw ep body) a c
  have hf : (nextR S wr pb es t tw ep body).fit := ⟨hsum.1, hsum.2, by show (0 : Int) ≤ 0; decide, by show (0 : Int) < _; decide⟩
  refine ⟨_, rfl, la, es.length, lc, b1.cella (i := 2) rfl, fun hge w21 X21 => ?_, fun hlt2 => ⟨_, b1.cella (i := 0) rfl, la, es.length, lc, b1.cella (i := 2) rfl, ?_, ?_⟩⟩
  · have s := Step.of_no X21 h.ok
    unfold issueR; rw [if_pos (show es.length ≥ 200 by omega)]
    exact ⟨_, none, 0, rfl, s.none, P.step s id, (h.step s id).mono (by omega), Row.nil _ _ _, Nat.le_refl _⟩
  · have hn2 : ¬ (es.length ≥ 200) := by omega
    intro w24 p29 p30 X24 hp
    obtain ⟨s24, M24⟩ := Step.priv X24 hp h.ok
    have gp29 := hp p29 (by simp)
    have gp30 := hp p30 (by simp)
    refine (rHead_spec (P.step s24 id) (h.step s24 id) (by omega)).mono fun z w35 ⟨o35, he, s35', r35⟩ => ?_
    have s35 := s24.none.trans s35'
    have P35 := (P.step s24 id).step s35' hqj
    have b35 := s35.blk b1 P.own hqj
    have M35 := M24.step s35'
    refine ⟨_, _, _, he, M24.keep s35' (by simp; omega), b35.cella (i := 2) rfl, b35.cella (i := 0) rfl, ?_⟩
    rw [hF]
    refine ⟨fun hr w56 X56 => ?_, fun hr w47 p58 X47 hp58 => ?_⟩
    · have s56' := Step.stores X56 s35.ok (M35.sub (M := [p30]) (by simp)) (by simp [or_comm])
      have s56 := s35.trans' s56' fun i hi => .inr (by simp at hi; omega)
      unfold issueR; rw [if_neg hn2, if_neg (by rw [hr]; decide)]
      exact ⟨_, none, 0, rfl, s56.mono fun _ h _ => .inr h, P35.step s56' (by simp; omega), (r35.step s56' (by simp; omega)).mono (by omega), Row.nil _ _ _, Nat.le_refl _⟩
    obtain ⟨s47', M47'⟩ := Step.priv X47 hp58 s35.ok
    have M47 := ((M35.step s47').sub (M := [p30]) (by simp)).app M47'
    have s47 := s35.trans s47'.none
    have P47 := P35.step s47' id
    have r47 := r35.step s47' id
    refine (rLate_spec P47 t tw).mono fun z w61 ⟨he, X61⟩ => ⟨_, he, X61.kept, fun hl1 w70 X70 => ?_, fun hl0 => ?_⟩
    · have s61' := Step.of_no X61 s47.ok
      have M61 := M47.step s61'
      have s61 := s47.trans s61'.none
      have s70' := Step.stores X70 s61.ok (M61.sub (M := [p30]) (by simp)) (by simp)
      have s70 := s61.trans' s70' fun i hi => .inr (by simp at hi; omega)
      unfold issueR; rw [if_neg hn2, if_pos hr, if_pos hl1]
      exact ⟨_, none, 0, rfl, s70.mono fun _ h _ => .inr h, (P47.step s61' id).step s70' (by simp; omega), ((r47.step s61' id).step s70' (by simp; omega)).mono (by omega), Row.nil _ _ _, Nat.le_refl _⟩
    have s61' := Step.of_no X61 s47.ok
    have M61 := (M47.step s61').sub (M := [p30]) (by simp)
    have s61 := s47.trans s61'.none
    have l61 := s61.size
    have hl0' : ¬ lateS es t tw = true := by rw [hl0]; decide
    refine ((r47.step s61' id).sign (by omega) sec (e := nextR S wr pb es t tw ep body) (fun _ => hf) (hb.step s61) hbc).mono fun z w81 ⟨o81, ba, bc, he, s81', r81, rb, lb⟩ => ⟨_, _, _, _, _, _, _, _, _, _, _, he, M61.keep s81' (by simp; omega), ?_⟩
    have s81 := s61.trans s81'
    have M81 := M61.step s81'
    have P81 := (P47.step s61' id).step s81' hqj
    have l81 := s81.size
    refine ⟨fun hne w99 X99 => ?_, fun heq => ?_⟩
    · have s99' := Step.stores X99 s81.ok M81 (by simp)
      have s99 := s81.trans' s99' fun i hi => .inr (by simp at hi; omega)
      unfold issueR; rw [if_neg hn2, if_pos hr, if_neg hl0', if_pos hne]
      exact ⟨_, none, 0, rfl, s99.mono fun _ h _ => .inr h, P81.step s99' (by simp; omega), (r81.step s99' (by simp; omega)).mono (by omega), Row.nil _ _ _, Nat.le_refl _⟩
    have hfit := hfs hf
    generalize hs : signE (headS S es).2 sec (nextR S wr pb es t tw ep body) = sg at *
    obtain ⟨⟨x, kd⟩, S8⟩ := sg
    obtain ⟨la, lc, l, g0, b1, b2, b3, b4⟩ := P81.st
    have hl := len_map_e g0
    refine ⟨la, l.length, lc, b1.cella (i := 2) rfl, fun w104 q105 p106 X104 hb105 hq105 hq105' hp106 => ?_⟩
    have s104' := Step.of_no X104 s81.ok
    have b104 := s104'.blk b1 P81.own id
    obtain ⟨i, hi, hz, hsz, hby⟩ := info_of inf47
    have hnews : RowAt w104 (some (blk q105)) (PE.C ⟨x, ba, bc⟩) := RowAt.of_blk hb105
    have l104 := s104'.size
    have M104 := M81.step s104'
    have g106 := hp106.one
    obtain ⟨a', c', w109, o109, hr9, s109', g109, hkeep, hblk⟩ := (b2.step s104' id).push (ty := 40) Try.underlying40 hi hz hsz hby rfl (by decide) s104'.ok (by omega) (xa := some (blk q105)) (m := 1) (xc := 1) (news := PE.C ⟨x, ba, bc⟩) rfl hnews (PE.one _) (by decide) (by omega) (by omega)
    have oq104 : grow w81 o81 q = some q := (s104'.own (by omega)).trans P81.own
    have b109 : Blk w109 q 42 [.int .i64 wr, .int .u64 pb, .slice la l.length lc] := by
      unfold Blk at b104 ⊢
      rw [hkeep q (by omega) fun ad hd e => b3 ad hd e.symm]; exact b104
    refine ⟨b104.cella (i := 2) rfl, a', _, c', w109, hr9, s109'.keep fun p hp hps k hk => ?_, b109.cana (i := 2) rfl, fun p hp => ?_, thenW_in fun w110 e110 w118 X118 => ?_⟩
    · simp only [List.mem_cons, List.not_mem_nil, or_false] at hp
      rcases hp with rfl | rfl
      · rw [(M104 p (by simp)).2] at hk; cases hk; omega
      · rw [grow_ge (by omega)] at hk; cases hk
    · simp only [List.mem_cons, List.not_mem_nil, or_false] at hp
      show p ≠ q
      rcases hp with rfl | rfl <;> omega
    have tq109 : o109 q = some q := (s109'.own (by omega)).trans oq104
    have hne : ∀ ad, a' = some ad → ad.block ≠ q := fun ad hd e => by
      rcases hblk ad hd with ⟨b, hb1, hb2⟩ | hq
      · exact b3 b hb1 (by omega)
      · omega
    have X110 : Ext (fun b => b = q) w109 w110 := (Ext.refl (fun b => b = q) w109).x_set (q := q) (i := 2) rfl (.inl rfl) e110
    obtain ⟨o110, s110'⟩ := Step.store1 X110 s109'.ok tq109
    have b110 := b109.seti 2 rfl e110
    have l109 := s109'.size
    have st : Step (fun i => i = q) w81 o81 w110 o110 := (s104'.none.trans s109').trans s110'
    have M110 := M81.step st
    have s118' := Step.stores X118 st.ok M110 (by simp)
    have s110 : Step (fun i => i = q ∨ i = j) w o w110 o110 := (s81.mono fun _ h _ => .inr h).trans (st.mono fun _ h _ => .inl h)
    have s118 := s110.trans' s118' fun i hi => .inr (by simp at hi; omega)
    unfold issueR; rw [if_neg hn2, if_pos hr, if_neg hl0', hs, if_neg (not_not_intro heq)]
    have few : es.length + 1 ≤ 200 := by omega
    refine ⟨_, ba, bc, rfl, s118, RLog.step ⟨(s110'.own (by omega)).trans tq109, by rw [List.length_append]; exact few, a', c', l ++ [⟨x, ba, bc⟩], by rw [List.map_append, g0]; rfl, by rw [List.length_append]; exact b110, ?_, hne, fun y hy => ?_⟩ s118' (by simp; omega), (r81.step st (fun e => hqj e.symm)).step s118' (by simp; omega), (rb.step st).step s118', lb⟩
    · rw [List.length_append]
      have : PE.Cs (l ++ [⟨x, ba, bc⟩]) = PE.Cs l ++ PE.C ⟨x, ba, bc⟩ := by simp [PE.Cs]
      rw [this]
      exact g109.keep X110 (fun ad hd => hne ad hd) fun b hb => s110'.own hb
    · rcases List.mem_append.1 hy with hy | hy
      · exact (b4 y hy).step st
      · simp at hy; subst hy
        exact ⟨rb.step st, lb, hfit⟩
  · have hn2 : ¬ (es.length ≥ 200) := by omega
    intro w24 p30 p31 p32 X24 hp
    obtain ⟨s24, M24⟩ := Step.priv X24 hp h.ok
    have gp30 := hp p30 (by simp)
    have gp31 := hp p31 (by simp)
    have gp32 := hp p32 (by simp)
    refine (rHead_spec (P.step s24 id) (h.step s24 id) (by omega)).mono fun z w35 ⟨o35, he, s35', r35⟩ => ?_
    have s35 := s24.none.trans s35'
    have P35 := (P.step s24 id).step s35' hqj
    have b35 := s35.blk b1 P.own hqj
    have M35 := M24.step s35'
    refine ⟨_, _, _, he, M24.keep s35' (by simp; omega), b35.cella (i := 2) rfl, b35.cella (i := 0) rfl, ?_⟩
    rw [hF]
    refine ⟨fun hr w56 X56 => ?_, fun hr w47 X47 => ?_⟩
    · have s56' := Step.stores X56 s35.ok (M35.sub (M := [p31, p32]) (by simp)) (by simp [or_comm])
      have s56 := s35.trans' s56' fun i hi => .inr (by simp at hi; omega)
      unfold issueR; rw [if_neg hn2, if_neg (by rw [hr]; decide)]
      exact ⟨_, none, 0, rfl, s56.mono fun _ h _ => .inr h, P35.step s56' (by simp; omega), (r35.step s56' (by simp; omega)).mono (by omega), Row.nil _ _ _, Nat.le_refl _⟩
    have s47' := Step.stores X47 s35.ok (M35.sub (M := [p32]) (by simp)) (by simp)
    have M47 := (M35.step s47').sub (M := [p31, p32]) (by simp)
    have s47 := s35.trans' s47' fun i hi => .inr (by simp at hi; omega)
    have P47 := P35.step s47' (by simp; omega)
    have r47 := r35.step s47' (by simp; omega)
    refine (rLate_spec P47 t tw).mono fun z w61 ⟨he, X61⟩ => ⟨_, he, X61.kept, fun hl1 w70 X70 => ?_, fun hl0 => ?_⟩
    · have s61' := Step.of_no X61 s47.ok
      have M61 := M47.step s61'
      have s61 := s47.trans s61'.none
      have s70' := Step.stores X70 s61.ok (M61.sub (M := [p31]) (by simp)) (by simp)
      have s70 := s61.trans' s70' fun i hi => .inr (by simp at hi; omega)
      unfold issueR; rw [if_neg hn2, if_pos hr, if_pos hl1]
      exact ⟨_, none, 0, rfl, s70.mono fun _ h _ => .inr h, (P47.step s61' id).step s70' (by simp; omega), ((r47.step s61' id).step s70' (by simp; omega)).mono (by omega), Row.nil _ _ _, Nat.le_refl _⟩
    have s61' := Step.of_no X61 s47.ok
    have M61 := (M47.step s61').sub (M := [p31]) (by simp)
    have s61 := s47.trans s61'.none
    have l61 := s61.size
    have hl0' : ¬ lateS es t tw = true := by rw [hl0]; decide
    refine ((r47.step s61' id).sign (by omega) sec (e := nextR S wr pb es t tw ep body) (fun _ => hf) (hb.step s61) hbc).mono fun z w81 ⟨o81, ba, bc, he, s81', r81, rb, lb⟩ => ⟨_, _, _, _, _, _, _, _, _, _, _, he, M61.keep s81' (by simp; omega), ?_⟩
    have s81 := s61.trans s81'
    have M81 := M61.step s81'
    have P81 := (P47.step s61' id).step s81' hqj
    have l81 := s81.size
    refine ⟨fun hne w99 X99 => ?_, fun heq => ?_⟩
    · have s99' := Step.stores X99 s81.ok M81 (by simp)
      have s99 := s81.trans' s99' fun i hi => .inr (by simp at hi; omega)
      unfold issueR; rw [if_neg hn2, if_pos hr, if_neg hl0', if_pos hne]
      exact ⟨_, none, 0, rfl, s99.mono fun _ h _ => .inr h, P81.step s99' (by simp; omega), (r81.step s99' (by simp; omega)).mono (by omega), Row.nil _ _ _, Nat.le_refl _⟩
    have hfit := hfs hf
    generalize hs : signE (headS S es).2 sec (nextR S wr pb es t tw ep body) = sg at *
    obtain ⟨⟨x, kd⟩, S8⟩ := sg
    obtain ⟨la, lc, l, g0, b1, b2, b3, b4⟩ := P81.st
    have hl := len_map_e g0
    refine ⟨la, l.length, lc, b1.cella (i := 2) rfl, fun w104 q105 p106 X104 hb105 hq105 hq105' hp106 => ?_⟩
    have s104' := Step.of_no X104 s81.ok
    have b104 := s104'.blk b1 P81.own id
    obtain ⟨i, hi, hz, hsz, hby⟩ := info_of inf47
    have hnews : RowAt w104 (some (blk q105)) (PE.C ⟨x, ba, bc⟩) := RowAt.of_blk hb105
    have l104 := s104'.size
    have M104 := M81.step s104'
    have g106 := hp106.one
    obtain ⟨a', c', w109, o109, hr9, s109', g109, hkeep, hblk⟩ := (b2.step s104' id).push (ty := 40) Try.underlying40 hi hz hsz hby rfl (by decide) s104'.ok (by omega) (xa := some (blk q105)) (m := 1) (xc := 1) (news := PE.C ⟨x, ba, bc⟩) rfl hnews (PE.one _) (by decide) (by omega) (by omega)
    have oq104 : grow w81 o81 q = some q := (s104'.own (by omega)).trans P81.own
    have b109 : Blk w109 q 42 [.int .i64 wr, .int .u64 pb, .slice la l.length lc] := by
      unfold Blk at b104 ⊢
      rw [hkeep q (by omega) fun ad hd e => b3 ad hd e.symm]; exact b104
    refine ⟨b104.cella (i := 2) rfl, a', _, c', w109, hr9, s109'.keep fun p hp hps k hk => ?_, b109.cana (i := 2) rfl, fun p hp => ?_, thenW_in fun w110 e110 w118 X118 => ?_⟩
    · simp only [List.mem_cons, List.not_mem_nil, or_false] at hp
      rcases hp with rfl | rfl
      · rw [(M104 p (by simp)).2] at hk; cases hk; omega
      · rw [grow_ge (by omega)] at hk; cases hk
    · simp only [List.mem_cons, List.not_mem_nil, or_false] at hp
      show p ≠ q
      rcases hp with rfl | rfl <;> omega
    have tq109 : o109 q = some q := (s109'.own (by omega)).trans oq104
    have hne : ∀ ad, a' = some ad → ad.block ≠ q := fun ad hd e => by
      rcases hblk ad hd with ⟨b, hb1, hb2⟩ | hq
      · exact b3 b hb1 (by omega)
      · omega
    have X110 : Ext (fun b => b = q) w109 w110 := (Ext.refl (fun b => b = q) w109).x_set (q := q) (i := 2) rfl (.inl rfl) e110
    obtain ⟨o110, s110'⟩ := Step.store1 X110 s109'.ok tq109
    have b110 := b109.seti 2 rfl e110
    have l109 := s109'.size
    have st : Step (fun i => i = q) w81 o81 w110 o110 := (s104'.none.trans s109').trans s110'
    have M110 := M81.step st
    have s118' := Step.stores X118 st.ok M110 (by simp)
    have s110 : Step (fun i => i = q ∨ i = j) w o w110 o110 := (s81.mono fun _ h _ => .inr h).trans (st.mono fun _ h _ => .inl h)
    have s118 := s110.trans' s118' fun i hi => .inr (by simp at hi; omega)
    unfold issueR; rw [if_neg hn2, if_pos hr, if_neg hl0', hs, if_neg (not_not_intro heq)]
    have few : es.length + 1 ≤ 200 := by omega
    refine ⟨_, ba, bc, rfl, s118, RLog.step ⟨(s110'.own (by omega)).trans tq109, by rw [List.length_append]; exact few, a', c', l ++ [⟨x, ba, bc⟩], by rw [List.map_append, g0]; rfl, by rw [List.length_append]; exact b110, ?_, hne, fun y hy => ?_⟩ s118' (by simp; omega), (r81.step st (fun e => hqj e.symm)).step s118' (by simp; omega), (rb.step st).step s118', lb⟩
    · rw [List.length_append]
      have : PE.Cs (l ++ [⟨x, ba, bc⟩]) = PE.Cs l ++ PE.C ⟨x, ba, bc⟩ := by simp [PE.Cs]
      rw [this]
      exact g109.keep X110 (fun ad hd => hne ad hd) fun b hb => s110'.own hb
    · rcases List.mem_append.1 hy with hy | hy
      · exact (b4 y hy).step st
      · simp at hy; subst hy
        exact ⟨rb.step st, lb, hfit⟩
end
end Go.Proofs.Ytdelmfpchbpafaa

/- Cuts. -/
set_option linter.unusedVariables false
set_option linter.unusedSimpArgs false
set_option maxRecDepth 20000
set_option maxHeartbeats 2000000
namespace Go.Proofs.Ytdelmfpchbpafaa
open Go Go.Mx Go.Proofs
open W (OwnB GivesW numR countR doneR zig unzig intR)
section
variable {w w' w1 : World} {o o' o1 : Own} {q j k n : Nat} {K : Nat → Prop} {S S1 S2 : OS} {L : CL} {wr pb : Int} {es : List Ent} {e : Ent} {a : Option Addr} {c : Nat}
end
end Go.Proofs.Ytdelmfpchbpafaa

/- The program's Cut. -/
set_option linter.unusedVariables false
set_option linter.unusedSimpArgs false
set_option maxRecDepth 20000
set_option maxHeartbeats 2000000
namespace Go.Proofs.Ytdelmfpchbpafaa
open Go Go.Mx Go.Proofs
open W (OwnB GivesW numR countR doneR zig unzig intR)
section
variable {w w' w1 : World} {o o' o1 : Own} {q j k n : Nat} {K : Nat → Prop} {s p : Int} {S S1 S2 : OS} {L : CL} {wr pb : Int} {es : List Ent} {e : Ent} {a : Option Addr} {c : Nat}
theorem sum_known (g : Good S wr s es) (he : e ∈ es) : sumE S e = ((hv S e, 0), S) := by
  obtain ⟨i, hi⟩ := List.getElem?_of_mem he
  obtain ⟨h1, x, hx⟩ := g i e hi
  rw [sumE_right h1.right, hash_eq hx]
  unfold hv; rw [hx]; rfl
end
end Go.Proofs.Ytdelmfpchbpafaa

/- Both logs, side by side. -/
set_option linter.unusedVariables false
set_option linter.unusedSimpArgs false
set_option maxRecDepth 20000
set_option maxHeartbeats 2000000
namespace Go.Proofs.Ytdelmfpchbpafaa
open Go Go.Mx Go.Proofs
open W (OwnB GivesW numR countR doneR zig unzig intR)
section
variable {w w' w1 : World} {o o' o1 : Own} {q r j k n m : Nat} {K : Nat → Prop} {s p : Int} {S S1 S2 : OS} {L : CL} {wr pb : Int} {es : List Ent} {e : Ent} {a : Option Addr} {c : Nat}
end
end Go.Proofs.Ytdelmfpchbpafaa

/- ChainPlays: predicate. -/
set_option linter.unusedVariables false
set_option linter.unusedSimpArgs false
set_option maxRecDepth 20000
set_option maxHeartbeats 2000000
namespace Go.Proofs.Ytdelmfpchbpafaa
open Go Go.Mx Go.Proofs
open W (OwnB GivesW numR countR doneR zig unzig intR)
/-- cachettelaw07.ChainWhole -/
def cachettelaw07_ChainWhole.M (a7 : Option Addr) (a9 : Nat) (a8 : Nat) (cg : Option Addr) (c9 : Nat) (e7 : Nat) (a0 : Int) (cd : Int) (R : Value → World → Prop) (w : World) : Prop :=
 Calls Try.prog 5 #[.slice a7 a9 a8, .slice cg c9 e7] w fun e4 dx => ∃ (bm : Bool), e4 = .returned (.bool bm) ∧
 bif !bm then (
 Calls Try.prog 6 #[] dx fun ec du => ∃ (bk : Bool), ec = .returned (.bool bk) ∧
 R (.bool bk) du) else (
 Calls Try.prog 7 #[.slice a7 a9 a8] dx fun dp be => ∃ (a4 : Option Addr), dp = .returned (.pointer a4) ∧
 thenW (be.alloc (.cells #[.slice a7 a9 a8, .slice none 0 0] 31)) fun di =>
 Calls Try.prog 8 #[.pointer a4] di fun dk dj => ∃ (ay : Int) (a1 : Int), dk = .returned (.tuple #[.int .u64 ay, .int .u64 a1]) ∧
 Calls Try.prog 9 #[.pointer (some (blk be.heap.size))] dj fun dl ds => ∃ (ch : Int) (ci : Int), dl = .returned (.tuple #[.int .u64 ch, .int .u64 ci]) ∧
 Calls Try.prog 10 #[.pointer a4, .int .i64 1, .int .u64 a1] ds fun dm cf => ∃ (c7 : Option Addr) (cl : Int), dm = .returned (.tuple #[.pointer c7, .int .i64 cl]) ∧
 thenW (cf.alloc (.cells #[.int .i64 1, .int .u64 a1, .slice none 0 0] 42)) fun dt =>
 ∃ (I0 : Nat → List Value → World → Prop) (ea : Nat), I0 ea [.int .i64 0] dt ∧ ∀ (dy : Nat) (bu : World) (a2 : Int), I0 dy [.int .i64 a2] bu →
 bif decide (a2 < (c9 : Int)) then (
 thenW (bu.drew) fun c0 =>
 cg.elim False fun e8 =>
 0 ≤ (a2 : Int) ∧ (a2 : Int) < (c9 : Int) ∧
 ∃ (dz : Int), c0.cell? ((e8.add (Int.toNat a2 * 14)).add 1) = some (.int .i64 dz) ∧
 cg.elim False fun e6 =>
 0 ≤ (a2 : Int) ∧ (a2 : Int) < (c9 : Int) ∧
 ∃ (b6 : Int), c0.cell? ((e6.add (Int.toNat a2 * 14)).add 2) = some (.int .i64 b6) ∧
 cg.elim False fun e3 =>
 0 ≤ (a2 : Int) ∧ (a2 : Int) < (c9 : Int) ∧
 ∃ (b2 : Option Addr) (bb : Nat) (b3 : Nat), c0.cell? ((e3.add (Int.toNat a2 * 14)).add 3) = some (.slice b2 bb b3) ∧
 Calls Try.prog 15 #[.pointer c7, .int .u64 ay, .agg #[.int .i64 dz, .int .i64 1], .int .i64 b6, .slice b2 bb b3] c0 fun dr dn => ∃ (bl : Int) (c1 : Int) (ce : Int) (cn : Int) (ck : Int) (c5 : Int) (bx : Option Addr) (bv : Nat) (bw : Nat) (cs : Int) (c4 : Int), dr = .returned (.tuple #[.agg #[.int .i64 bl, .int .i64 c1, .int .u64 ce, .int .i64 cn, .int .i64 ck, .int .i64 c5, .slice bx bv bw, .int .u64 cs], .int .i64 c4]) ∧
 thenW (dn.drew) fun bz =>
 cg.elim False fun eb =>
 0 ≤ (a2 : Int) ∧ (a2 : Int) < (c9 : Int) ∧
 ∃ (e1 : Int), bz.cell? ((eb.add (Int.toNat a2 * 14)).add 1) = some (.int .i64 e1) ∧
 cg.elim False fun e5 =>
 0 ≤ (a2 : Int) ∧ (a2 : Int) < (c9 : Int) ∧
 ∃ (b0 : Int), bz.cell? ((e5.add (Int.toNat a2 * 14)).add 2) = some (.int .i64 b0) ∧
 cg.elim False fun e9 =>
 0 ≤ (a2 : Int) ∧ (a2 : Int) < (c9 : Int) ∧
 ∃ (b5 : Option Addr) (b9 : Nat) (bc : Nat), bz.cell? ((e9.add (Int.toNat a2 * 14)).add 3) = some (.slice b5 b9 bc) ∧
 Calls Try.prog 16 #[.pointer (some (blk cf.heap.size)), .pointer (some (blk be.heap.size)), .int .u64 ay, .agg #[.int .i64 e1, .int .i64 1], .int .i64 b0, .slice b5 b9 bc] bz fun dw dv => ∃ (bi : Int) (c2 : Int) (cc : Int) (d4 : Int) (d0 : Int) (bs : Int) (bt : Option Addr) (br : Nat) (c3 : Nat) (de : Int) (c6 : Int), dw = .returned (.tuple #[.agg #[.int .i64 bi, .int .i64 c2, .int .u64 cc, .int .i64 d4, .int .i64 d0, .int .i64 bs, .slice bt br c3, .int .u64 de], .int .i64 c6]) ∧
 ∃ e0, e0 < dy ∧ I0 e0 [.int .i64 (IntKind.i64.wrap (a2 + 1))] dv) else (
 thenW (bu.alloc (.cells #[] 47)) fun dd =>
 ∃ (cz : Option Addr) (cy : Nat) (d3 : Nat), dd.cell? ((blk cf.heap.size).add 2) = some (.slice cz cy d3) ∧
 ∃ (a6 : Option Addr) (a3 : Nat) (az : Nat) (bf : World), (Builtin.append_ #[40, 40] 40 #[.slice (some (blk bu.heap.size)) 0 0, .slice cz cy d3]).run Try.prog dd = .ok (.slice a6 a3 az) bf ∧
 bif decide (a0 ≥ 0) then (
 bif decide (a0 < (a3 : Int)) then (
 a6.elim False fun e2 =>
 0 ≤ (a0 : Int) ∧ (a0 : Int) < (a3 : Int) ∧
 ∃ (a5 : Int) (ad : Int) (ba : Int) (bq : Int) (bo : Int) (ah : Int) (aa : Option Addr) (al : Nat) (ac : Nat) (bh : Int), cellsAt bf (e2.add (Int.toNat a0 * 8)) [.int .i64 a5, .int .i64 ad, .int .u64 ba, .int .i64 bq, .int .i64 bo, .int .i64 ah, .slice aa al ac, .int .u64 bh] 0 ∧
 Calls Try.prog 18 #[.agg #[.int .i64 a5, .int .i64 ad, .int .u64 ba, .int .i64 bq, .int .i64 bo, .int .i64 ah, .slice aa al ac, .int .u64 bh], .int .i64 cd] bf fun dq d5 => ∃ (ak : Int) (b8 : Int) (bj : Int) (c8 : Int) (ca : Int) (b7 : Int) (b1 : Option Addr) (bd : Nat) (b4 : Nat) (cb : Int), dq = .returned (.agg #[.int .i64 ak, .int .i64 b8, .int .u64 bj, .int .i64 c8, .int .i64 ca, .int .i64 b7, .slice b1 bd b4, .int .u64 cb]) ∧
 a6.elim False fun ax =>
 0 ≤ (a0 : Int) ∧ (a0 : Int) < (a3 : Int) ∧
 canStore d5 ((ax.add (Int.toNat a0 * 8)).add 0) ∧
 thenW (d5.setCell ((ax.add (Int.toNat a0 * 8)).add 0) (.int .i64 ak)) fun d8 =>
 canStore d8 ((ax.add (Int.toNat a0 * 8)).add 1) ∧
 thenW (d8.setCell ((ax.add (Int.toNat a0 * 8)).add 1) (.int .i64 b8)) fun dg =>
 canStore dg ((ax.add (Int.toNat a0 * 8)).add 2) ∧
 thenW (dg.setCell ((ax.add (Int.toNat a0 * 8)).add 2) (.int .u64 bj)) fun cj =>
 canStore cj ((ax.add (Int.toNat a0 * 8)).add 3) ∧
 thenW (cj.setCell ((ax.add (Int.toNat a0 * 8)).add 3) (.int .i64 c8)) fun cq =>
 canStore cq ((ax.add (Int.toNat a0 * 8)).add 4) ∧
 thenW (cq.setCell ((ax.add (Int.toNat a0 * 8)).add 4) (.int .i64 ca)) fun dc =>
 canStore dc ((ax.add (Int.toNat a0 * 8)).add 5) ∧
 thenW (dc.setCell ((ax.add (Int.toNat a0 * 8)).add 5) (.int .i64 b7)) fun d9 =>
 canStore d9 ((ax.add (Int.toNat a0 * 8)).add 6) ∧
 thenW (d9.setCell ((ax.add (Int.toNat a0 * 8)).add 6) (.slice b1 bd b4)) fun d6 =>
 canStore d6 ((ax.add (Int.toNat a0 * 8)).add 7) ∧
 thenW (d6.setCell ((ax.add (Int.toNat a0 * 8)).add 7) (.int .u64 cb)) fun cv =>
 Calls Try.prog 23 #[.pointer a4, .int .u64 a1, .slice a6 a3 az] cv fun ct d1 => ∃ (an : Int) (aj : Int), ct = .returned (.tuple #[.int .i64 an, .int .i64 aj]) ∧
 Calls Try.prog 24 #[.pointer (some (blk be.heap.size)), .int .u64 a1, .slice a6 a3 az] d1 fun co bg => ∃ (ae : Int) (aq : Int), co = .returned (.tuple #[.int .i64 ae, .int .i64 aq]) ∧
 bif an == ae then (
 bif aj == aq then (
 Calls Try.prog 6 #[] bg fun db d7 => ∃ (ao : Bool), db = .returned (.bool ao) ∧
 R (.bool ao) d7) else (
 R (.bool false) bg)) else (
 R (.bool false) bg)) else (
 Calls Try.prog 23 #[.pointer a4, .int .u64 a1, .slice a6 a3 az] bf fun cw cm => ∃ (am : Int) (ag : Int), cw = .returned (.tuple #[.int .i64 am, .int .i64 ag]) ∧
 Calls Try.prog 24 #[.pointer (some (blk be.heap.size)), .int .u64 a1, .slice a6 a3 az] cm fun da bn => ∃ (ap : Int) (ab : Int), da = .returned (.tuple #[.int .i64 ap, .int .i64 ab]) ∧
 bif am == ap then (
 bif ag == ab then (
 Calls Try.prog 6 #[] bn fun cr dh => ∃ (au : Bool), cr = .returned (.bool au) ∧
 R (.bool au) dh) else (
 R (.bool false) bn)) else (
 R (.bool false) bn))) else (
 Calls Try.prog 23 #[.pointer a4, .int .u64 a1, .slice a6 a3 az] bf fun d2 cu => ∃ (ai : Int) (ar : Int), d2 = .returned (.tuple #[.int .i64 ai, .int .i64 ar]) ∧
 Calls Try.prog 24 #[.pointer (some (blk be.heap.size)), .int .u64 a1, .slice a6 a3 az] cu fun df bp => ∃ (aw : Int) (av : Int), df = .returned (.tuple #[.int .i64 aw, .int .i64 av]) ∧
 bif ai == aw then (
 bif ar == av then (
 Calls Try.prog 6 #[] bp fun cx cp => ∃ (af : Bool), cx = .returned (.bool af) ∧
 R (.bool af) cp) else (
 R (.bool false) bp)) else (
 R (.bool false) bp))))

theorem cachettelaw07_ChainWhole.eq (draws1a : Option Addr) (draws1n : Nat) (draws1c : Nat) (l2a : Option Addr) (l2n : Nat) (l2c : Nat) (turn3 : Int) (field4 : Int) (R : Value → World → Prop) (w : World) : mfunc Try.prog [(0, [1, 2, 3, 9, 10, 11, 12, 13, 15], [(16, (.one (.int .i64)))])] 4 [.slice draws1a draws1n draws1c, .slice l2a l2n l2c, .int .i64 turn3, .int .i64 field4] R w = cachettelaw07_ChainWhole.M draws1a draws1n draws1c l2a l2n l2c turn3 field4 R w := by kernel_rfl
theorem cachettelaw07_ChainWhole.ok (a1 : Option Addr) (a0 : Nat) (a2 : Nat) (a7 : Option Addr) (a5 : Nat) (a6 : Nat) (a4 : Int) (a3 : Int) {R : Value → World → Prop} {w : World} (h : cachettelaw07_ChainWhole.M a1 a0 a2 a7 a5 a6 a4 a3 R w) : Calls Try.prog 4 #[.slice a1 a0 a2, .slice a7 a5 a6, .int .i64 a4, .int .i64 a3] w fun e w' => ∃ v, e = .returned v ∧ R v w' :=
  mfunc_ok follows (H := [(0, [1, 2, 3, 9, 10, 11, 12, 13, 15], [(16, (.one (.int .i64)))])]) (args := [.slice a1 a0 a2, .slice a7 a5 a6, .int .i64 a4, .int .i64 a3]) (by rw [cachettelaw07_ChainWhole.eq]; exact h)

def cachettelaw07_ChainWhole.N (ai : Option Addr) (ak : Nat) (aj : Nat) (e6 : Option Addr) (c3 : Nat) (e8 : Nat) (a0 : Int) (cn : Int) (R : Value → World → Prop) (w : World) : Prop :=
 Calls Try.prog 5 #[.slice ai ak aj, .slice e6 c3 e8] w fun e7 e2 => ∃ (b0 : Bool), e7 = .returned (.bool b0) ∧
 (b0 = false →
 Calls Try.prog 6 #[] e2 fun dy ds => ∃ (bn : Bool), dy = .returned (.bool bn) ∧
 R (.bool bn) ds) ∧
 (b0 = true →
 Calls Try.prog 7 #[.slice ai ak aj] e2 fun dw ct => ∃ (ah : Option Addr), dw = .returned (.pointer ah) ∧
 ∀ (bu : World) (cj : Nat), Ext no ct bu → Blk bu cj 31 [.slice ai ak aj, .slice none 0 0] → ct.heap.size ≤ cj → cj < bu.heap.size →
 Calls Try.prog 8 #[.pointer ah] bu fun du dr => ∃ (b1 : Int) (a1 : Int), du = .returned (.tuple #[.int .u64 b1, .int .u64 a1]) ∧
 Calls Try.prog 9 #[.pointer (some (blk cj))] dr fun dv dx => ∃ (cr : Int) (cp : Int), dv = .returned (.tuple #[.int .u64 cr, .int .u64 cp]) ∧
 Calls Try.prog 10 #[.pointer ah, .int .i64 1, .int .u64 a1] dx fun e0 d2 => ∃ (ca : Option Addr) (cy : Int), e0 = .returned (.tuple #[.pointer ca, .int .i64 cy]) ∧
 ∀ (c1 : World) (d5 : Nat), Ext no d2 c1 → Blk c1 d5 42 [.int .i64 1, .int .u64 a1, .slice none 0 0] → d2.heap.size ≤ d5 → d5 < c1.heap.size →
 ∃ (I0 : Nat → List Value → World → Prop) (e9 : Nat), I0 e9 [.int .i64 0] c1 ∧ ∀ (e1 : Nat) (az : World) (a2 : Int), I0 e1 [.int .i64 a2] az →
 (a2 < (c3 : Int) →
 ∃ cm : Addr, e6 = some cm ∧
 0 ≤ (a2 : Int) ∧ (a2 : Int) < (c3 : Int) ∧
 ∃ (e4 : Int), az.cell? ((cm.add (Int.toNat a2 * 14)).add 1) = some (.int .i64 e4) ∧
 0 ≤ (a2 : Int) ∧ (a2 : Int) < (c3 : Int) ∧
 ∃ (b4 : Int), az.cell? ((cm.add (Int.toNat a2 * 14)).add 2) = some (.int .i64 b4) ∧
 0 ≤ (a2 : Int) ∧ (a2 : Int) < (c3 : Int) ∧
 ∃ (bf : Option Addr) (b6 : Nat) (b5 : Nat), az.cell? ((cm.add (Int.toNat a2 * 14)).add 3) = some (.slice bf b6 b5) ∧
 ∀ (db : World), Ext no az db →
 Calls Try.prog 15 #[.pointer ca, .int .u64 b1, .agg #[.int .i64 e4, .int .i64 1], .int .i64 b4, .slice bf b6 b5] db fun dt bv => ∃ (bp : Int) (c7 : Int) (co : Int) (dh : Int) (dl : Int) (c2 : Int) (bt : Option Addr) (c8 : Nat) (bx : Nat) (di : Int) (bs : Int), dt = .returned (.tuple #[.agg #[.int .i64 bp, .int .i64 c7, .int .u64 co, .int .i64 dh, .int .i64 dl, .int .i64 c2, .slice bt c8 bx, .int .u64 di], .int .i64 bs]) ∧
 0 ≤ (a2 : Int) ∧ (a2 : Int) < (c3 : Int) ∧
 ∃ (e5 : Int), bv.cell? ((cm.add (Int.toNat a2 * 14)).add 1) = some (.int .i64 e5) ∧
 0 ≤ (a2 : Int) ∧ (a2 : Int) < (c3 : Int) ∧
 ∃ (bc : Int), bv.cell? ((cm.add (Int.toNat a2 * 14)).add 2) = some (.int .i64 bc) ∧
 0 ≤ (a2 : Int) ∧ (a2 : Int) < (c3 : Int) ∧
 ∃ (b8 : Option Addr) (b3 : Nat) (ba : Nat), bv.cell? ((cm.add (Int.toNat a2 * 14)).add 3) = some (.slice b8 b3 ba) ∧
 ∀ (cv : World), Ext no bv cv →
 Calls Try.prog 16 #[.pointer (some (blk d5)), .pointer (some (blk cj)), .int .u64 b1, .agg #[.int .i64 e5, .int .i64 1], .int .i64 bc, .slice b8 b3 ba] cv fun dz dq => ∃ (bm : Int) (c4 : Int) (cq : Int) (cs : Int) (d6 : Int) (c5 : Int) (bz : Option Addr) (c6 : Nat) (bw : Nat) (dd : Int) (c0 : Int), dz = .returned (.tuple #[.agg #[.int .i64 bm, .int .i64 c4, .int .u64 cq, .int .i64 cs, .int .i64 d6, .int .i64 c5, .slice bz c6 bw, .int .u64 dd], .int .i64 c0]) ∧
 (-9223372036854775808 : Int) ≤ (a2 + 1) ∧ (a2 + 1) < 9223372036854775808 ∧
 ∃ e3, e3 < e1 ∧ I0 e3 [.int .i64 (a2 + 1)] dq) ∧
 ((c3 : Int) ≤ a2 →
 ∀ (bk : World) (dp : Nat), Ext no az bk → Blk bk dp 47 [] → az.heap.size ≤ dp → dp < bk.heap.size →
 ∃ (df : Option Addr) (dc : Nat) (d9 : Nat), bk.cell? ((blk d5).add 2) = some (.slice df dc d9) ∧
 ∃ (am : Option Addr) (ab : Nat) (ay : Nat) (bg : World), (Builtin.append_ #[40, 40] 40 #[.slice (some (blk dp)) 0 0, .slice df dc d9]).run Try.prog bk = .ok (.slice am ab ay) bg ∧
 (a0 ≥ 0 →
 (a0 < (ab : Int) →
 ∃ al : Addr, am = some al ∧
 0 ≤ (a0 : Int) ∧ (a0 : Int) < (ab : Int) ∧
 ∃ (ag : Int) (aq : Int) (b9 : Int) (bh : Int) (bq : Int) (ao : Int) (an : Option Addr) (ax : Nat) (au : Nat) (bi : Int), cellsAt bg (al.add (Int.toNat a0 * 8)) [.int .i64 ag, .int .i64 aq, .int .u64 b9, .int .i64 bh, .int .i64 bq, .int .i64 ao, .slice an ax au, .int .u64 bi] 0 ∧
 Calls Try.prog 18 #[.agg #[.int .i64 ag, .int .i64 aq, .int .u64 b9, .int .i64 bh, .int .i64 bq, .int .i64 ao, .slice an ax au, .int .u64 bi], .int .i64 cn] bg fun de cl => ∃ (ar : Int) (b2 : Int) (bj : Int) (cg : Int) (cc : Int) (bb : Int) (b7 : Option Addr) (bd : Nat) (be : Nat) (ck : Int), de = .returned (.agg #[.int .i64 ar, .int .i64 b2, .int .u64 bj, .int .i64 cg, .int .i64 cc, .int .i64 bb, .slice b7 bd be, .int .u64 ck]) ∧
 0 ≤ (a0 : Int) ∧ (a0 : Int) < (ab : Int) ∧
 canStore cl ((al.add (Int.toNat a0 * 8)).add 0) ∧
 thenW (cl.setCell ((al.add (Int.toNat a0 * 8)).add 0) (.int .i64 ar)) fun ce =>
 canStore ce ((al.add (Int.toNat a0 * 8)).add 1) ∧
 thenW (ce.setCell ((al.add (Int.toNat a0 * 8)).add 1) (.int .i64 b2)) fun cf =>
 canStore cf ((al.add (Int.toNat a0 * 8)).add 2) ∧
 thenW (cf.setCell ((al.add (Int.toNat a0 * 8)).add 2) (.int .u64 bj)) fun ch =>
 canStore ch ((al.add (Int.toNat a0 * 8)).add 3) ∧
 thenW (ch.setCell ((al.add (Int.toNat a0 * 8)).add 3) (.int .i64 cg)) fun cd =>
 canStore cd ((al.add (Int.toNat a0 * 8)).add 4) ∧
 thenW (cd.setCell ((al.add (Int.toNat a0 * 8)).add 4) (.int .i64 cc)) fun ci =>
 canStore ci ((al.add (Int.toNat a0 * 8)).add 5) ∧
 thenW (ci.setCell ((al.add (Int.toNat a0 * 8)).add 5) (.int .i64 bb)) fun cb =>
 canStore cb ((al.add (Int.toNat a0 * 8)).add 6) ∧
 thenW (cb.setCell ((al.add (Int.toNat a0 * 8)).add 6) (.slice b7 bd be)) fun c9 =>
 canStore c9 ((al.add (Int.toNat a0 * 8)).add 7) ∧
 thenW (c9.setCell ((al.add (Int.toNat a0 * 8)).add 7) (.int .u64 ck)) fun d4 =>
 Calls Try.prog 23 #[.pointer ah, .int .u64 a1, .slice am ab ay] d4 fun dm cu => ∃ (a4 : Int) (af : Int), dm = .returned (.tuple #[.int .i64 a4, .int .i64 af]) ∧
 Calls Try.prog 24 #[.pointer (some (blk cj)), .int .u64 a1, .slice am ab ay] cu fun dg br => ∃ (a5 : Int) (aa : Int), dg = .returned (.tuple #[.int .i64 a5, .int .i64 aa]) ∧
 (a4 = a5 →
 (af = aa →
 Calls Try.prog 6 #[] br fun d0 dk => ∃ (aw : Bool), d0 = .returned (.bool aw) ∧
 R (.bool aw) dk) ∧
 (af ≠ aa →
 R (.bool false) br)) ∧
 (a4 ≠ a5 →
 R (.bool false) br)) ∧
 ((ab : Int) ≤ a0 →
 Calls Try.prog 23 #[.pointer ah, .int .u64 a1, .slice am ab ay] bg fun d8 d1 => ∃ (a7 : Int) (a8 : Int), d8 = .returned (.tuple #[.int .i64 a7, .int .i64 a8]) ∧
 Calls Try.prog 24 #[.pointer (some (blk cj)), .int .u64 a1, .slice am ab ay] d1 fun dj bo => ∃ (ae : Int) (ac : Int), dj = .returned (.tuple #[.int .i64 ae, .int .i64 ac]) ∧
 (a7 = ae →
 (a8 = ac →
 Calls Try.prog 6 #[] bo fun d3 dn => ∃ (ap : Bool), d3 = .returned (.bool ap) ∧
 R (.bool ap) dn) ∧
 (a8 ≠ ac →
 R (.bool false) bo)) ∧
 (a7 ≠ ae →
 R (.bool false) bo))) ∧
 (a0 < 0 →
 Calls Try.prog 23 #[.pointer ah, .int .u64 a1, .slice am ab ay] bg fun da d7 => ∃ (a6 : Int) (a3 : Int), da = .returned (.tuple #[.int .i64 a6, .int .i64 a3]) ∧
 Calls Try.prog 24 #[.pointer (some (blk cj)), .int .u64 a1, .slice am ab ay] d7 fun cx bl => ∃ (a9 : Int) (ad : Int), cx = .returned (.tuple #[.int .i64 a9, .int .i64 ad]) ∧
 (a6 = a9 →
 (a3 = ad →
 Calls Try.prog 6 #[] bl fun cz cw => ∃ (av : Bool), cz = .returned (.bool av) ∧
 R (.bool av) cw) ∧
 (a3 ≠ ad →
 R (.bool false) bl)) ∧
 (a6 ≠ a9 →
 R (.bool false) bl))))

theorem cachettelaw07_ChainWhole.up (a2 : Option Addr) (a4 : Nat) (a3 : Nat) (e2 : Option Addr) (ea : Nat) (dz : Nat) (bq : Int) (a9 : Int) {R : Value → World → Prop} {w : World} (h : cachettelaw07_ChainWhole.N a2 a4 a3 e2 ea dz bq a9 R w) : cachettelaw07_ChainWhole.M a2 a4 a3 e2 ea dz bq a9 R w := by
  unfold cachettelaw07_ChainWhole.M
  unfold cachettelaw07_ChainWhole.N at h
  refine h.mono fun f7 f9 h => ?_
  obtain ⟨c9, he, h⟩ := h
  refine ⟨c9, he, ?_⟩
  refine bif_of (fun c8 => ?_) (fun c8 => ?_)
  · have h := h.1 (not_t c8)
    refine h.mono fun f1 er h => ?_
    obtain ⟨cb, he, h⟩ := h
    refine ⟨cb, he, ?_⟩
    exact h
  · have h := h.2 (not_f c8)
    refine h.mono fun ez br h => ?_
    obtain ⟨cl, he, h⟩ := h
    refine ⟨cl, he, ?_⟩
    refine thenW_in fun cz di => ?_
    have h := h cz br.heap.size ((Ext.refl no br).x_alloc di) (Blk.of_new di) ((Ext.refl no br)).size (size_lt_alloc di)
    refine h.mono fun et en h => ?_
    obtain ⟨ca, bs, he, h⟩ := h
    refine ⟨ca, bs, he, ?_⟩
    refine h.mono fun eu f0 h => ?_
    obtain ⟨c4, c2, he, h⟩ := h
    refine ⟨c4, c2, he, ?_⟩
    refine h.mono fun f3 c0 h => ?_
    obtain ⟨ce, cg, he, h⟩ := h
    refine ⟨ce, cg, he, ?_⟩
    refine thenW_in fun d5 dm => ?_
    have h := h d5 c0.heap.size ((Ext.refl no c0).x_alloc dm) (Blk.of_new dm) ((Ext.refl no c0)).size (size_lt_alloc dm)
    obtain ⟨I0, f5, h0, h⟩ := h
    refine ⟨I0, f5, h0, fun em aj ep hI => ?_⟩
    have h := h em aj ep hI
    refine bif_of (fun d3 => ?_) (fun d3 => ?_)
    · have h := h.1 (of_decide_eq_true d3)
      refine thenW_in fun df eo => ?_
      have b4 := (Ext.refl no aj).x_drew eo
      obtain ⟨f6, a5, h⟩ := h
      refine elim_some a5 ?_
      obtain ⟨a0, a1, h⟩ := h
      refine ⟨a0, a1, ?_⟩
      obtain ⟨ex, d9, h⟩ := h
      refine ⟨ex, (b4).cell d9 id, ?_⟩
      refine elim_some a5 ?_
      obtain ⟨a0, a1, h⟩ := h
      refine ⟨a0, a1, ?_⟩
      obtain ⟨b6, cr, h⟩ := h
      refine ⟨b6, (b4).cell cr id, ?_⟩
      refine elim_some a5 ?_
      obtain ⟨a0, a1, h⟩ := h
      refine ⟨a0, a1, ?_⟩
      obtain ⟨bp, ba, b7, cy, h⟩ := h
      refine ⟨bp, ba, b7, (b4).cell cy id, ?_⟩
      have h := h df b4
      refine h.mono fun es d0 h => ?_
      obtain ⟨aw, bk, bz, cn, cp, bc, b1, bl, b5, co, az, he, h⟩ := h
      refine ⟨aw, bk, bz, cn, cp, bc, b1, bl, b5, co, az, he, ?_⟩
      refine thenW_in fun ct f4 => ?_
      have ay := (Ext.refl no d0).x_drew f4
      refine elim_some a5 ?_
      obtain ⟨a0, a1, h⟩ := h
      refine ⟨a0, a1, ?_⟩
      obtain ⟨ey, da, h⟩ := h
      refine ⟨ey, (ay).cell da id, ?_⟩
      refine elim_some a5 ?_
      obtain ⟨a0, a1, h⟩ := h
      refine ⟨a0, a1, ?_⟩
      obtain ⟨bm, de, h⟩ := h
      refine ⟨bm, (ay).cell de id, ?_⟩
      refine elim_some a5 ?_
      obtain ⟨a0, a1, h⟩ := h
      refine ⟨a0, a1, ?_⟩
      obtain ⟨bd, b2, bg, d4, h⟩ := h
      refine ⟨bd, b2, bg, (ay).cell d4 id, ?_⟩
      have h := h ct ay
      refine h.mono fun f2 el h => ?_
      obtain ⟨al, bf, c3, cd, cj, bi, b8, bj, b3, cm, b9, he, h⟩ := h
      refine ⟨al, bf, c3, cd, cj, bi, b8, bj, b3, cm, b9, he, ?_⟩
      obtain ⟨ew, eq, h⟩ := h
      try rw [w64 ew eq]
      obtain ⟨ev, hk, h⟩ := h
      exact ⟨ev, hk, h⟩
    · have h := h.2 (Int.not_lt.1 (of_decide_eq_false d3))
      refine thenW_in fun cx d6 => ?_
      have h := h cx aj.heap.size ((Ext.refl no aj).x_alloc d6) (Blk.of_new d6) ((Ext.refl no aj)).size (size_lt_alloc d6)
      obtain ⟨dl, dg, dd, db, h⟩ := h
      refine ⟨dl, dg, dd, db, ?_⟩
      obtain ⟨cq, dk, dc, cs, hr, h⟩ := h
      refine ⟨cq, dk, dc, cs, hr, ?_⟩
      refine bif_of (fun cw => ?_) (fun cw => ?_)
      · have h := h.1 (of_decide_eq_true cw)
        refine bif_of (fun d7 => ?_) (fun d7 => ?_)
        · have h := h.1 (of_decide_eq_true d7)
          obtain ⟨f8, ci, h⟩ := h
          refine elim_some ci ?_
          obtain ⟨a0, a1, h⟩ := h
          refine ⟨a0, a1, ?_⟩
          obtain ⟨a6, ae, be, bt, cc, aa, a8, av, ai, bu, cv, h⟩ := h
          refine ⟨a6, ae, be, bt, cc, aa, a8, av, ai, bu, cv, ?_⟩
          refine h.mono fun ed eb h => ?_
          obtain ⟨ag, b0, bv, ch, cf, bh, bb, bn, bo, ck, he, h⟩ := h
          refine ⟨ag, b0, bv, ch, cf, bh, bb, bn, bo, ck, he, ?_⟩
          refine elim_some ci ?_
          obtain ⟨a0, a1, h⟩ := h
          refine ⟨a0, a1, ?_⟩
          obtain ⟨hcs, h⟩ := h
          refine ⟨hcs, thenW_in fun e1 cu => ?_⟩
          replace h := thenW_out h cu
          obtain ⟨hcs, h⟩ := h
          refine ⟨hcs, thenW_in fun e3 dj => ?_⟩
          replace h := thenW_out h dj
          obtain ⟨hcs, h⟩ := h
          refine ⟨hcs, thenW_in fun e6 dp => ?_⟩
          replace h := thenW_out h dp
          obtain ⟨hcs, h⟩ := h
          refine ⟨hcs, thenW_in fun e0 d2 => ?_⟩
          replace h := thenW_out h d2
          obtain ⟨hcs, h⟩ := h
          refine ⟨hcs, thenW_in fun e8 d8 => ?_⟩
          replace h := thenW_out h d8
          obtain ⟨hcs, h⟩ := h
          refine ⟨hcs, thenW_in fun ds dn => ?_⟩
          replace h := thenW_out h dn
          obtain ⟨hcs, h⟩ := h
          refine ⟨hcs, thenW_in fun dr dh => ?_⟩
          replace h := thenW_out h dh
          obtain ⟨hcs, h⟩ := h
          refine ⟨hcs, thenW_in fun e4 d1 => ?_⟩
          replace h := thenW_out h d1
          refine h.mono fun ei dq h => ?_
          obtain ⟨ab, ax, he, h⟩ := h
          refine ⟨ab, ax, he, ?_⟩
          refine h.mono fun ee ek h => ?_
          obtain ⟨ad, ap, he, h⟩ := h
          refine ⟨ad, ap, he, ?_⟩
          refine bif_of (fun c6 => ?_) (fun c6 => ?_)
          · have h := h.1 (beq_t c6)
            refine bif_of (fun c1 => ?_) (fun c1 => ?_)
            · have h := h.1 (beq_t c1)
              refine h.mono fun dw eh h => ?_
              obtain ⟨ao, he, h⟩ := h
              refine ⟨ao, he, ?_⟩
              exact h
            · have h := h.2 (beq_f c1)
              exact h
          · have h := h.2 (beq_f c6)
            exact h
        · have h := h.2 (Int.not_lt.1 (of_decide_eq_false d7))
          refine h.mono fun e9 dx h => ?_
          obtain ⟨ah, am, he, h⟩ := h
          refine ⟨ah, am, he, ?_⟩
          refine h.mono fun eg ef h => ?_
          obtain ⟨au, aq, he, h⟩ := h
          refine ⟨au, aq, he, ?_⟩
          refine bif_of (fun c7 => ?_) (fun c7 => ?_)
          · have h := h.1 (beq_t c7)
            refine bif_of (fun bx => ?_) (fun bx => ?_)
            · have h := h.1 (beq_t bx)
              refine h.mono fun dy ej h => ?_
              obtain ⟨ac, he, h⟩ := h
              refine ⟨ac, he, ?_⟩
              exact h
            · have h := h.2 (beq_f bx)
              exact h
          · have h := h.2 (beq_f c7)
            exact h
      · have h := h.2 (Int.not_le.1 (of_decide_eq_false cw))
        refine h.mono fun ec e7 h => ?_
        obtain ⟨af, a7, he, h⟩ := h
        refine ⟨af, a7, he, ?_⟩
        refine h.mono fun du e5 h => ?_
        obtain ⟨an, ar, he, h⟩ := h
        refine ⟨an, ar, he, ?_⟩
        refine bif_of (fun bw => ?_) (fun bw => ?_)
        · have h := h.1 (beq_t bw)
          refine bif_of (fun c5 => ?_) (fun c5 => ?_)
          · have h := h.1 (beq_t c5)
            refine h.mono fun dv dt h => ?_
            obtain ⟨ak, he, h⟩ := h
            refine ⟨ak, he, ?_⟩
            exact h
          · have h := h.2 (beq_f c5)
            exact h
        · have h := h.2 (beq_f bw)
          exact h

theorem cachettelaw07_ChainWhole.go (a1 : Option Addr) (a0 : Nat) (a2 : Nat) (a7 : Option Addr) (a5 : Nat) (a6 : Nat) (a4 : Int) (a3 : Int) {R : Value → World → Prop} {w : World} (h : cachettelaw07_ChainWhole.N a1 a0 a2 a7 a5 a6 a4 a3 R w) : Calls Try.prog 4 #[.slice a1 a0 a2, .slice a7 a5 a6, .int .i64 a4, .int .i64 a3] w fun e w' => ∃ v, e = .returned v ∧ R v w' := cachettelaw07_ChainWhole.ok a1 a0 a2 a7 a5 a6 a4 a3 (cachettelaw07_ChainWhole.up a1 a0 a2 a7 a5 a6 a4 a3 h)
theorem cachettelaw07_ChainWhole.run (a1 : Option Addr) (a0 : Nat) (a2 : Nat) (a7 : Option Addr) (a5 : Nat) (a6 : Nat) (a4 : Int) (a3 : Int) {V : Value} {Q : World → Prop} {w : World} (h : cachettelaw07_ChainWhole.N a1 a0 a2 a7 a5 a6 a4 a3 (fun v w' => v = V ∧ Q w') w) : Calls Try.prog 4 #[.slice a1 a0 a2, .slice a7 a5 a6, .int .i64 a4, .int .i64 a3] w (Ret V Q) := (cachettelaw07_ChainWhole.go a1 a0 a2 a7 a5 a6 a4 a3 h).mono fun e w' ⟨v, he, hv, hq⟩ => ⟨by rw [he, hv], hq⟩

end Go.Proofs.Ytdelmfpchbpafaa

/- An entry that is turned. -/
set_option linter.unusedVariables false
set_option linter.unusedSimpArgs false
set_option maxRecDepth 20000
set_option maxHeartbeats 2000000
namespace Go.Proofs.Ytdelmfpchbpafaa
open Go Go.Mx Go.Proofs
open W (OwnB GivesW numR countR doneR zig unzig intR)
def flipU (x : Int) : Int := IntKind.u64.wrap ((BitVec.ofInt (IntKind.bits .u64) x ^^^ BitVec.ofInt (IntKind.bits .u64) 1).toNat)
def flipI (x : Int) : Int := IntKind.i64.wrap ((BitVec.ofInt (IntKind.bits .i64) x ^^^ BitVec.ofInt (IntKind.bits .i64) 1).toNat)
def turnE (e : Ent) (f : Int) : Ent :=
  if f = 0 then { e with sg := flipU e.sg } else if f = 1 then { e with body := 7 :: e.body } else if f = 2 then { e with pv := flipU e.pv } else if f = 3 then { e with i := flipI e.i } else if f = 4 then { e with w := flipI e.w } else if f = 5 then { e with ep := flipI e.ep } else e
section
variable {w w' w1 : World} {o o' o1 : Own} {q r j k n m : Nat} {K : Nat → Prop} {e : Ent} {a : Option Addr} {c : Nat}
theorem flipU_fit (x : Int) : 0 ≤ flipU x ∧ flipU x < 18446744073709551616 := by
  have := IntKind.wrap_u64 ((BitVec.ofInt (IntKind.bits .u64) x ^^^ BitVec.ofInt (IntKind.bits .u64) 1).toNat)
  unfold flipU
  omega
theorem turned_spec (ok : Tags w o) (x : PE) (hx : x.ok w o) (hl : x.e.body.length < 100000) (f : Int) :
    Calls Try.prog 18 #[entV x.e x.a x.c, .int .i64 f] w (fun v w' => ∃ o', ∃ y : PE, v = .returned (entV y.e y.a y.c) ∧ Step no w o w' o' ∧ y.ok w' o' ∧ y.e = turnE x.e f) := by
  refine (cachettelaw07_turned.go x.e.w x.e.i x.e.pv x.e.t x.e.tw x.e.ep x.a x.e.body.length x.c x.e.sg f (R := fun v w' => ∃ o', ∃ y : PE, v = (entV y.e y.a y.c) ∧ Step no w o w' o' ∧ y.ok w' o' ∧ y.e = turnE x.e f) ?_).mono fun v w' ⟨v', he, o', y, hv, hw⟩ => ⟨o', y, by rw [he, hv], hw⟩
  unfold cachettelaw07_turned.N
  obtain ⟨h1, h2, h3⟩ := hx
  have fin : ∀ (y : Ent) (w2 : World), Ext no w w2 → y.body = x.e.body → y.fit → y = turnE x.e f → ∃ o', ∃ z : PE, entV y x.a x.c = entV z.e z.a z.c ∧ Step no w o w2 o' ∧ z.ok w2 o' ∧ z.e = turnE x.e f := fun y w2 X hb hf hy => ⟨_, ⟨y, x.a, x.c⟩, rfl, Step.of_no X ok, ⟨by rw [hb]; exact h1.step (Step.of_no X ok), by rw [hb]; exact h2, hf⟩, hy⟩
  refine ⟨fun e0 w21 X => ?_, fun n0 => ⟨fun e1 w25 q26 p27 p28 X25 hb hq hq' hpq => ?_, fun n1 => ⟨fun e2 w49 X => ?_, fun n2 => ⟨fun e3 w61 X => ?_, fun n3 => ⟨fun e4 w73 X => ?_, fun n4 => ⟨fun e5 w85 X => ?_, fun n5 w95 X => ?_⟩⟩⟩⟩⟩⟩
  · exact fin { x.e with sg := flipU x.e.sg } _ X rfl ⟨h3.pv0, h3.pv1, (flipU_fit _).1, (flipU_fit _).2⟩ (by unfold turnE; rw [if_pos e0])
  · have hO : OwnB q26 w25 (some (blk q26)) 1 [7] := ⟨owns_of_blk hb rfl (by show (1 : Nat) ≤ maxLen; unfold maxLen; decide), fun ad ha => by cases ha; exact ⟨Nat.le_refl _, hq'⟩⟩
    obtain ⟨a', c', w30, hr, hO', X30⟩ := hO.append (t := 43) (ty := 43) Try.underlying43 (Nat.le_of_lt hq') (xc := x.c) (h1.1.no X25) (by simp; omega)
    obtain ⟨g27, g28⟩ := hpq.two
    refine ⟨a', _, c', w30, hr, ?_, fun w39 X39 => ?_⟩
    · exact X30.keep fun p hp _ hb => by
        simp only [List.mem_cons, List.not_mem_nil, or_false] at hp
        rcases hp with rfl | rfl <;> omega
    · have X : Ext no w w39 := (X25.then X30 fun b hb => .inr (by omega)).then X39 fun b hb => .inr (by omega)
      have hrow : RowAt w39 a' (bytesV (7 :: x.e.body)) := hO'.row.ext' X39 fun h0 ad ha hb => by
        have := (hO'.fr ad ha).1
        omega
      have s := Step.of_no X ok
      refine ⟨_, ⟨{ x.e with body := 7 :: x.e.body }, a', c'⟩, rfl, s, ⟨Row.fresh hrow fun ad ha => by have := (hO'.fr ad ha).1; omega, hO'.le, h3.pv0, h3.pv1, h3.sg0, h3.sg1⟩, ?_⟩
      unfold turnE; rw [if_neg n0, if_pos e1]
  · exact fin { x.e with pv := flipU x.e.pv } _ X rfl ⟨(flipU_fit _).1, (flipU_fit _).2, h3.sg0, h3.sg1⟩ (by unfold turnE; rw [if_neg n0, if_neg n1, if_pos e2])
  · exact fin { x.e with i := flipI x.e.i } _ X rfl ⟨h3.pv0, h3.pv1, h3.sg0, h3.sg1⟩ (by unfold turnE; rw [if_neg n0, if_neg n1, if_neg n2, if_pos e3])
  · exact fin { x.e with w := flipI x.e.w } _ X rfl ⟨h3.pv0, h3.pv1, h3.sg0, h3.sg1⟩ (by unfold turnE; rw [if_neg n0, if_neg n1, if_neg n2, if_neg n3, if_pos e4])
  · exact fin { x.e with ep := flipI x.e.ep } _ X rfl ⟨h3.pv0, h3.pv1, h3.sg0, h3.sg1⟩ (by unfold turnE; rw [if_neg n0, if_neg n1, if_neg n2, if_neg n3, if_neg n4, if_pos e5])
  · exact fin x.e _ X rfl h3 (by unfold turnE; rw [if_neg n0, if_neg n1, if_neg n2, if_neg n3, if_neg n4, if_neg n5])
end
end Go.Proofs.Ytdelmfpchbpafaa

/- Both logs, plainly: the reference's sums come later than the program's. -/
set_option linter.unusedVariables false
set_option linter.unusedSimpArgs false
set_option maxRecDepth 20000
set_option maxHeartbeats 2000000
namespace Go.Proofs.Ytdelmfpchbpafaa
open Go Go.Mx Go.Proofs
section
variable {s p : Int} {S S1 S2 : OS} {L : CL} {wr pb : Int} {es : List Ent} {e : Ent}
theorem head_known (h : LOk S s p L) : headS S L.es = (L.sum, S) := by
  rw [h.sum]
  unfold headS sumS
  cases hl : L.es.getLast? with
  | none => rfl
  | some x =>
    have := sum_known h.good (List.mem_of_getElem? (last_get hl))
    simp only [this]
/-- the reference's Whole. -/
def wholeR (p wr : Int) : OS → List Ent → List Ent → Nat → Int × Int
  | S, es, [], i => ((i : Int), 0)
  | S, es, e :: r, i => if checkC S ⟨wr, p, es, (headS S es).1⟩ e = 0 then wholeR p wr (headS S es).2 (es ++ [e]) r (i + 1) else ((i : Int), checkC S ⟨wr, p, es, (headS S es).1⟩ e)
def wholeRE (S : OS) (p : Int) : List Ent → Int × Int
  | [] => (0, 0)
  | x :: r => wholeR p x.w S [] (x :: r) 0
theorem sumE_verify (S : OS) (x : Ent) : (sumE S x).2.publics = S.publics ∧ (sumE S x).2.signed = S.signed := by
  unfold sumE
  split
  · unfold hashOf
    cases alook S.hashes (bytesL x) with
    | some h => exact ⟨rfl, rfl⟩
    | none => exact ⟨(freshOf_frame S).2.2.2.1, (freshOf_frame S).2.2.2.2.2.1⟩
  · exact ⟨rfl, rfl⟩
theorem check_same (h1 : S2.publics = S1.publics) (h2 : S2.signed = S1.signed) : checkC S2 L e = checkC S1 L e := by
  have : holdsE S2 L.pb e = holdsE S1 L.pb e := by unfold holdsE verifyOf; rw [h1, h2]
  unfold checkC rightC
  rw [this]
theorem headS_verify (S : OS) (es : List Ent) : (headS S es).2.publics = S.publics ∧ (headS S es).2.signed = S.signed := by
  unfold headS
  cases es.getLast? with
  | none => exact ⟨rfl, rfl⟩
  | some x => exact sumE_verify S x
theorem wholeR_eq (p wr : Int) : ∀ (r : List Ent) (S : OS) (es : List Ent) (i : Nat), wholeR p wr S es r i = (wholeC (headS S es).2 ⟨wr, p, es, (headS S es).1⟩ r i).1
  | [], S, es, i => rfl
  | e :: r, S, es, i => by
    have hc : checkC (headS S es).2 ⟨wr, p, es, (headS S es).1⟩ e = checkC S ⟨wr, p, es, (headS S es).1⟩ e := check_same (headS_verify S es).1 (headS_verify S es).2
    unfold wholeR wholeC acceptC
    rw [hc]
    by_cases h : checkC S ⟨wr, p, es, (headS S es).1⟩ e = 0
    · rw [if_pos h, if_pos h, if_pos rfl, wholeR_eq p wr r]
      have : headS (headS S es).2 (es ++ [e]) = ((putC (headS S es).2 ⟨wr, p, es, (headS S es).1⟩ e).1.sum, (putC (headS S es).2 ⟨wr, p, es, (headS S es).1⟩ e).2) := by
        conv => lhs; unfold headS
        rw [List.getLast?_append]
        rfl
      rw [this]; rfl
    · rw [if_neg h, if_neg h, if_neg h]
theorem wholeRE_eq (S : OS) (p : Int) (l : List Ent) : wholeRE S p l = (wholeE S p l).1 := by
  cases l with
  | nil => rfl
  | cons x r => exact wholeR_eq p x.w (x :: r) S [] 0
/-- of two states that know all but the last alike. -/
theorem whole_two (h1 : S2.publics = S1.publics) (h2 : S2.signed = S1.signed) {all : List Ent}
    (hk : ∀ (i : Nat) (e : Ent), i + 1 < all.length → all[i]? = some e → (∃ L : CL, L.pb = p ∧ checkC S1 L e = 0) → ∃ x, alook S1.hashes (bytesL e) = some x ∧ alook S2.hashes (bytesL e) = some x) :
    ∀ (m i : Nat) (L : CL), m + i = all.length → L.pb = p → L.es.length ≤ 200 → (wholeC S1 L (all.drop i) i).1 = (wholeC S2 L (all.drop i) i).1
  | 0, i, L, hm, hp, hl => by rw [List.drop_of_length_le (by omega)]; rfl
  | m + 1, i, L, hm, hp, hl => by
    have ht : i < all.length := by omega
    have hg : all[i]? = some all[i] := List.getElem?_eq_getElem ht
    rw [List.drop_eq_getElem_cons ht]
    generalize all[i] = e at *
    unfold wholeC acceptC
    rw [check_same (L := L) (e := e) h1 h2]
    by_cases hc : checkC S1 L e = 0
    · rw [if_pos hc, if_pos hc, if_pos rfl, if_pos rfl]
      by_cases hl' : i + 1 < all.length
      · obtain ⟨x, e1, e2⟩ := hk i e hl' hg ⟨L, hp, hc⟩
        obtain ⟨q1, q2, _⟩ := accept_out hl hc
        have p1 : putC S1 L e = ({ L with es := L.es ++ [e], sum := x }, S1) := by unfold putC; rw [sumE_right q2, hash_eq e1]
        have p2 : putC S2 L e = ({ L with es := L.es ++ [e], sum := x }, S2) := by unfold putC; rw [sumE_right q2, hash_eq e2]
        rw [p1, p2]
        exact whole_two h1 h2 hk m (i + 1) _ (by omega) hp (by show (L.es ++ [e]).length ≤ 200; rw [List.length_append]; exact q1)
      · rw [List.drop_of_length_le (by omega)]; rfl
    · rw [if_neg hc, if_neg hc, if_neg hc, if_neg hc]
theorem text_inj {e f : Ent} (he : entRight e = true) (hf : entRight f = true) (h1 : e.fit) (h2 : f.fit) (hs : e.sg = f.sg) (h : textL e = textL f) : e = f :=
  bytesL_inj he hf h1 h2 (by unfold bytesL; rw [h, hs])
theorem turnE_sg (e : Ent) (f : Int) : (turnE e f).sg = e.sg ∨ textL (turnE e f) = textL e := by
  unfold turnE
  repeat' split
  all_goals first | exact .inr rfl | exact .inl rfl
/-- a turned entry that is taken is as it was. -/
theorem turn_same (inv : OInv S) {f : Int} (h1 : entRight e = true) (h2 : e.fit) (h3 : alook S.signed e.sg = some (s, textL e)) (h4 : entRight (turnE e f) = true) (h5 : (turnE e f).fit) (h6 : alook S.signed (turnE e f).sg = some (s, textL (turnE e f))) : turnE e f = e := by
  rcases turnE_sg e f with h | h
  · rw [h, h3] at h6
    injection h6 with h6
    injection h6 with _ h6
    exact text_inj h4 h1 h5 h2 h h6.symm
  · have a1 := inv.gs _ _ h3
    have a2 := inv.gs _ _ h6
    rw [h, a1] at a2
    injection a2 with a2
    exact text_inj h4 h1 h5 h2 a2.symm h
/-- the whole of a log in which one entry may be turned. -/
theorem whole_law (h : LOk S2 s p L) (inv : OInv S2) (hk : Keyed S2 s p) (hk1 : headS S1 L.es = (L.sum, S2)) {all : List Ent} (hl : all.length = L.es.length) (hall : ∀ (i : Nat) (e : Ent), all[i]? = some e → ∃ x f, L.es[i]? = some x ∧ (e = x ∨ e = turnE x f) ∧ e.fit)
    (kn : ∀ (i : Nat) (e : Ent), i + 1 < L.es.length → L.es[i]? = some e → ∃ x, alook S1.hashes (bytesL e) = some x ∧ alook S2.hashes (bytesL e) = some x) : wholeRE S1 p all = (wholeE S2 p all).1 := by
  have v1 : S2.publics = S1.publics := by have := (headS_verify S1 L.es).1; rw [hk1] at this; exact this
  have v2 : S2.signed = S1.signed := by have := (headS_verify S1 L.es).2; rw [hk1] at this; exact this
  rw [wholeRE_eq]
  have main := fun L1 => whole_two (S1 := S1) (S2 := S2) (p := p) (all := all) v1 v2 (fun i e hi he ⟨L0, hp, hc⟩ => ?_) all.length 0 L1 (by omega)
  · cases all with
    | nil => rfl
    | cons x r => exact main ⟨x.w, p, [], 0⟩ rfl (Nat.zero_le _)
  · obtain ⟨x, f, hx, hor, hfit⟩ := hall i e he
    obtain ⟨g1, _⟩ := h.good i x hx
    have hex : e = x := by
      rcases hor with rfl | rfl
      · rfl
      · have hr : entRight (turnE x f) = true := by
          unfold checkC at hc
          by_cases hr : rightC S1 L0 (turnE x f) = 0
          · exact rightC_right hr
          · rw [if_pos hr] at hc; exact absurd hc hr
        have hs : alook S2.signed (turnE x f).sg = some (s, textL (turnE x f)) := by
          unfold checkC at hc
          by_cases hr9 : rightC S1 L0 (turnE x f) = 0
          · unfold rightC at hr9
            rw [if_pos hr] at hr9
            by_cases hw : (turnE x f).w = L0.wr
            · rw [if_pos hw] at hr9
              by_cases hh : holdsE S1 L0.pb (turnE x f) = true
              · rw [hp] at hh
                have : holdsE S2 p (turnE x f) = true := by rw [← hh]; unfold holdsE verifyOf; rw [v1, v2]
                exact ((holdsE_iff hk).1 this).2
              · rw [if_neg hh] at hr9; cases hr9
            · rw [if_neg hw] at hr9; cases hr9
          · rw [if_pos hr9] at hc; exact absurd hc hr9
        exact turn_same inv g1.right g1.fit g1.sg hr hfit hs
    subst hex
    exact kn i e (by omega) hx
end
end Go.Proofs.Ytdelmfpchbpafaa

/- ChainPlays: what one step leaves. -/
set_option linter.unusedVariables false
set_option linter.unusedSimpArgs false
set_option maxRecDepth 20000
set_option maxHeartbeats 2000000
namespace Go.Proofs.Ytdelmfpchbpafaa
open Go Go.Mx Go.Proofs
open W (OwnB GivesW numR countR doneR zig unzig intR)
section
variable {W w w' w1 : World} {o o' o1 : Own} {k j qa qb x y n m n' m' : Nat} {K : Nat → Prop} {s p : Int} {S : OS} {L La Lb : CL} {e : Ent} {a : Option Addr} {c : Nat}
theorem bodies7 (h : LOk S s p L) : ∀ e ∈ L.es, e.body.length ≤ 1100 := fun e he => by
  obtain ⟨i, hi⟩ := List.getElem?_of_mem he
  exact ((entRight_iff _).1 (h.good i e hi).1.right).2.2.2.2.2.2.2.2.2.1
end
end Go.Proofs.Ytdelmfpchbpafaa

/- ChainPlays. -/
set_option linter.unusedVariables false
set_option linter.unusedSimpArgs false
set_option maxRecDepth 20000
set_option maxHeartbeats 2000000
namespace Go.Proofs.Ytdelmfpchbpafaa
open Go Go.Mx Go.Proofs
open W (OwnB GivesW numR countR doneR zig unzig intR)
theorem noT (W : World) : Tags W (fun _ => none) := fun b j _ h => by cases h
theorem noR {W : World} {a : Option Addr} {cs : List Value} (h : RowAt W a cs) : Row W (fun _ => none) a cs := ⟨h, fun _ _ _ => rfl⟩
/-- both oracles, and a pair of each. -/
theorem start_two {W : World} {da : Option Addr} {dc : Nat} {d : List Int} (hd : RowAt W da (d.map u64V)) (hdl : d.length ≤ 1000) (hdc : d.length ≤ dc) (hdr : ∀ x ∈ d, 0 ≤ x ∧ x < 18446744073709551616) {Φ : Option Addr → Nat → Int → Int → World → Prop}
    (hΦ : ∀ k j s p S w o, W.heap.size ≤ k → k < j → j < w.heap.size → Step no W (fun _ => none) w o → POrc w o k S → RSt w o j S 2 → Keyed S s p → S.used.length ≤ 2 → Φ (some (blk k)) j s p w) :
    Calls Try.prog 7 #[.slice da d.length dc] W fun e w2 => ∃ np : Option Addr, e = .returned (.pointer np) ∧
      ∀ (w3 : World) (j : Nat), Ext no w2 w3 → Blk w3 j 31 [.slice da d.length dc, .slice none 0 0] → w2.heap.size ≤ j → j < w3.heap.size →
      Calls Try.prog 8 #[.pointer np] w3 fun e w4 => ∃ (s p : Int), e = .returned (.tuple #[.int .u64 s, .int .u64 p]) ∧
      Calls Try.prog 9 #[.pointer (some (blk j))] w4 fun e w5 => ∃ (s' p' : Int), e = .returned (.tuple #[.int .u64 s', .int .u64 p']) ∧ Φ np j s p w5 := by
  refine (NewO (noT W) hd (by omega)).mono fun v w2 ⟨k, o2, hx, hk, s2, P2⟩ => ⟨_, hx, fun w3 j X3 hb3 hj hj' => ?_⟩
  have hk2 := P2.lt
  obtain ⟨o3, s3', R3⟩ := ROrc.init X3 hb3 hj hj' s2.ok ((noR hd).step s2) hdc
  have s3 := s2.trans s3'
  have i0 : OInv (OS.init d) := OInv.init hdr
  refine (PairO (P2.step s3' id) s3.ok i0.ok (show (0 : Nat) + 1 < 1000000 by decide)).mono fun v w4 ⟨o4, hx, s4, P4⟩ => ⟨_, _, hx, ?_⟩
  have R4 := R3.step s4 (by omega)
  have f0 : RFine 0 d [] := ⟨hdr, Nat.zero_le _, fun r h => by cases h⟩
  refine (rPair_spec R4 (f0.rok s4.ok (by omega)) (by simp)).mono fun v w5 ⟨o5, hx, s5, R5⟩ => ⟨_, _, hx, ?_⟩
  obtain ⟨e5, m5⟩ := pair_sim (Sim.init hdr)
  obtain ⟨i1, _, kp, ks, _⟩ := pair_inv i0
  have u1 : (pairOf (OS.init d)).2.used.length ≤ 2 := by have := (pairOf_ok i0.ok).2; exact this
  have s35 := (s4.mono (K1 := fun i => i = k ∨ i = j) fun _ h _ => .inl h).trans (s5.mono fun _ h _ => .inr h)
  exact hΦ k j _ _ _ w5 o5 hk (by omega) R5.lt (s3.trans' s35 fun i hi => .inr (by have := s2.size; omega)) (P4.step s5 (by omega)) ⟨⟨_, _, R5, m5, f0.pair⟩, s5.ok, i1⟩ ⟨ks, kp⟩ u1
end Go.Proofs.Ytdelmfpchbpafaa

/- copy onto a row of one's own; append(x, make(..)...) onto a row without room; slices.overlaps of two blocks. -/
set_option linter.unusedSimpArgs false
set_option linter.unusedVariables false
set_option linter.unusedSectionVars false
namespace Go.Mx
open Go
section
variable {P : Program} {w w' : World} {b o sz : Nat} {t e : TypeId} {cur cs : List Value}
/-- a store into a row of a function's own. -/
theorem LRow.set {e : TypeId} {N n c j : Nat} {w : World} {o : Own} {a : Option Addr} {cs : List Value} (h : LRow e sz N w o a n c cs) (ok : Tags w o) (hj : j < cs.length) (v : Value) :
    ∃ ad, a = some ad ∧ canStore w (ad.add j) ∧ (∀ k, o ad.block = some k → N ≤ k) ∧ (o ad.block).isSome = true ∧ ∀ w', w' = w.setCell (ad.add j) v → Step (fun i => N ≤ i) w o w' (grow w o) ∧ LRow e sz N w' (grow w o) a n c (cs.set j v) ∧ Ext (fun b => b = ad.block) w w' := by
  rcases h with ⟨rfl, rfl, rfl, rfl⟩ | ⟨k, h1, h2, h⟩
  · simp at hj
  have hl := h.own.1
  rcases h.own.2 with ⟨hv, h0⟩ | ⟨g, cap, cur, hv, _, hgb, hnc, hcm, hcs, htk⟩
  · rw [h0] at hl; omega
  cases hv
  have tg := h.tg ⟨g, 0, none⟩ rfl
  have hblk : Blk w g e cur.toList := by unfold Blk; simpa using hgb
  have hcl : cur.toList.length = c * sz := by simpa using hcs
  have hjc : j < cur.toList.length := by
    have := congrArg List.length htk
    rw [List.length_take] at this
    omega
  have hadd : (⟨g, 0, none⟩ : Addr).add j = ⟨g, j, none⟩ := by simp [Addr.add_lit]
  refine ⟨_, rfl, by rw [hadd]; exact hblk.can (v := cur.toList[j]) (List.getElem?_eq_getElem hjc), fun k' hk' => ?_, by rw [tg.1]; rfl, fun w' hw' => ?_⟩
  · have : some k = some k' := tg.1.symm.trans hk'
    cases this; exact h1
  have X : Ext (fun b => b = g) w w' := by subst hw'; rw [hadd]; exact (Ext.refl (fun b => b = g) w).setCell (a := ⟨g, j, none⟩) (.inl rfl) v
  have s : Step (fun i => i = k) w o w' (grow w o) := Step.of_ext X ok fun b hb _ => by subst hb; exact tg.1
  have hb2 : Blk w' g e (cur.toList.set j v) := by subst hw'; rw [hadd]; exact hblk.set j v
  refine ⟨s.mono fun i hi _ => by omega, .inr ⟨k, h1, Nat.lt_of_lt_of_le h2 s.size, ⟨by rw [List.length_set]; exact hl, .inr ⟨g, c, _, rfl, Nat.zero_le _, hb2, hnc, hcm, by simpa using hcs, ?_⟩⟩, fun ad ha => ?_⟩, X⟩
  · show (cur.toList.set j v).take (n * sz) = cs.set j v
    rw [← htk, List.take_set]
  · cases ha; exact ⟨(s.own tg.2).trans tg.1, Nat.lt_of_lt_of_le tg.2 s.size⟩
end
end Go.Mx

/- ChainWhole: the reference's Whole; stores into a row of one's own. -/
set_option linter.unusedVariables false
set_option linter.unusedSimpArgs false
set_option maxRecDepth 20000
set_option maxHeartbeats 2000000
namespace Go.Proofs.Ytdelmfpchbpafaa
open Go Go.Mx Go.Proofs
open W (OwnB GivesW numR countR doneR zig unzig intR)
section
variable {W w w' w1 : World} {o o' o1 : Own} {k j q x y n m : Nat} {K : Nat → Prop} {s p : Int} {S S1 S2 : OS} {L : CL} {e : Ent} {a : Option Addr} {c : Nat}
/-- many stores into a row of one's own. -/
theorem LRow.puts {e : TypeId} {sz N n c k : Nat} {a : Option Addr} {ad : Addr} (ha : a = some ad) : ∀ {vs cs : List Value} {j : Nat} {w : World} {o : Own} {Φ : World → Prop}, LRow e sz N w o a n c cs → Tags w o → k + j + vs.length ≤ cs.length →
    (∀ w' o', Step (fun i => N ≤ i) w o w' o' → LRow e sz N w' o' a n c (setAll cs (k + j) vs) → Φ w') → putsK w (ad.add k) vs j Φ
  | [], cs, j, w, o, Φ, h, ok, hl, hΦ => hΦ w o (Step.refl _ ok) h
  | v :: r, cs, j, w, o, Φ, h, ok, hl, hΦ => by
    simp only [List.length_cons] at hl
    obtain ⟨ad', h1, h2, _, _, h3⟩ := h.set ok (j := k + j) (by omega) v
    have : ad' = ad := by rw [ha] at h1; cases h1; rfl
    subst this
    refine ⟨by rw [add_add]; exact h2, thenW_in fun w2 e2 => ?_⟩
    rw [add_add] at e2
    obtain ⟨s2, r2, _⟩ := h3 w2 e2
    exact LRow.puts ha r2 s2.ok (by rw [List.length_set]; omega) fun w' o' s' r' => hΦ w' o' (s2.trans s') r'
/-- a copy of a row of entries, one's own. -/
theorem copyL {ww : World} {qq : Nat} (X : Ext no w ww) (hb : Blk ww qq 47 []) (h1 : w.heap.size ≤ qq) (h2 : qq < ww.heap.size) (ok : Tags w o) {xa : Option Addr} {xc : Nat} {l : List PE} (hr : RowAt w xa (PE.Cs l)) (hm : l.length ≤ 200) :
    ∃ a' c' w' o', (Builtin.append_ #[40, 40] 40 #[.slice (some (blk qq)) 0 0, .slice xa l.length xc]).run Try.prog ww = .ok (.slice a' l.length c') w' ∧ Step no w o w' o' ∧ LRow 47 8 w.heap.size w' o' a' l.length c' (PE.Cs l) := by
  have s := (Step.of_no X ok).tag h1 h2
  have g3 : Grows 47 8 ww (tag (grow w o) qq qq) qq (some (blk qq)) 0 0 [] := ⟨owns_of_blk hb rfl (Nat.zero_le _), fun ad ha => by cases ha; exact ⟨tag_self, h2⟩⟩
  obtain ⟨i, hi, hz, hsz, hby⟩ := info_of inf47
  obtain ⟨a', c', w', o', q1, q2, q3, q4, q5⟩ := g3.push (ty := 40) Try.underlying40 hi hz hsz hby rfl (by decide) s.ok h2 (xa := xa) (m := l.length) (xc := xc) (news := PE.Cs l) (PE.Cs_length l) (hr.no X) (fun u hu => by obtain ⟨x, _, hx⟩ := List.mem_flatMap.1 hu; exact PE.one x u hx) (by omega) (by omega)
  rw [Nat.zero_add] at q1 q3
  rw [List.nil_append] at q3
  exact ⟨a', c', w', _, q1, s.trans' q2 fun i hi => .inr (by omega), .inr ⟨qq, h1, Nat.lt_of_lt_of_le h2 q2.size, q3⟩⟩
theorem rWhole_spec (R : RSt w o j S m) {l : List PE} (hm : m + l.length + 2 < 1000000) (hr : Row w o a (PE.Cs l)) (hok : ∀ z ∈ l, z.ok w o) (hl : l.length ≤ 200) (hbl : ∀ z ∈ l, z.e.body.length < 1000000) :
    Calls Try.prog 24 #[.pointer (some (blk j)), .int .u64 p, .slice a l.length c] w (Ret (.tuple #[.int .i64 (wholeRE S p (l.map PE.e)).1, .int .i64 (wholeRE S p (l.map PE.e)).2]) fun w' => ∃ o', Step (fun i => i = j) w o w' o') := by
  refine cachetteref07_Whole.run (some (blk j)) p a l.length c ?_
  unfold cachetteref07_Whole.N
  have ok := R.ok
  refine ⟨fun h0 => ?_, fun h0 => ?_⟩
  · have : l = [] := List.eq_nil_of_length_eq_zero (by omega)
    subst this
    exact ⟨rfl, o, Step.refl _ ok⟩
  · have hi : 0 < l.length := by omega
    have hg0 : l[0]? = some l[0] := List.getElem?_eq_getElem hi
    have hcons : wholeRE S p (l.map PE.e) = wholeR p (l[0]).e.w S [] (l.map PE.e) 0 := by
      cases l with
      | nil => simp at hi
      | cons x r => rfl
    generalize l[0] = x0 at *
    obtain ⟨ad, rfl⟩ := hr.1.faddr PE.len (by decide) hi
    refine ⟨ad, rfl, by omega, x0.e.w, by have := PE.cell hr.1 rfl hg0 (j := 0) (v := .int .i64 x0.e.w) rfl; simpa using this, fun w8 q9 X8 hb hq hq' => ?_⟩
    obtain ⟨o8, s8, PL8⟩ := RLog.new X8 hb hq hq' ok
    have hjl := R.lt
    refine ⟨fun m' vs w1 => ∃ (t : Nat) (o1 : Own) (S1 : OS) (es : List Ent), vs = [.int .i64 t] ∧ m' + t = l.length ∧ Step (fun i => i = q9 ∨ i = j) w8 o8 w1 o1 ∧ RLog w1 o1 q9 x0.e.w p es ∧ RSt w1 o1 j S1 (m + t) ∧ (∀ e ∈ es, e.body.length < 1000000) ∧ es.length = t ∧ wholeR p x0.e.w S1 es ((l.map PE.e).drop t) t = wholeRE S p (l.map PE.e), l.length, ⟨0, o8, S, [], rfl, rfl, Step.refl _ s8.ok, PL8, R.step s8 id, fun e h => (by cases h), rfl, hcons.symm⟩, ?_⟩
    rintro m' w1 i ⟨t, o1, S1, es, hi, hm', s1, P1, R1, hes, hel, hC⟩
    simp only [List.cons.injEq, Value.int.injEq, true_and, and_true] at hi
    subst hi
    have s01 : Step (fun i => i = j) w o w1 o1 := s8.none.trans' s1 fun i hi => by omega
    refine ⟨fun ht => ?_, fun ht => ?_⟩
    · have htl : t < l.length := by omega
      have hgt : l[t]? = some l[t] := List.getElem?_eq_getElem htl
      have hxm := List.getElem_mem htl
      have hdrop : (l.map PE.e).drop t = (l[t]).e :: (l.map PE.e).drop (t + 1) := by
        rw [List.drop_eq_getElem_cons (by simpa using htl)]; simp
      rw [hdrop] at hC
      generalize l[t] = x at *
      have hx := hok x hxm
      refine ⟨by omega, by omega, x.e.w, x.e.i, x.e.pv, x.e.t, x.e.tw, x.e.ep, x.a, x.e.body.length, x.c, x.e.sg, by rw [Int.toNat_natCast]; exact PE.loads (hr.step s01).1 rfl hgt, ?_⟩
      refine (rAccept_spec P1 R1 (by omega) (by omega) (e := x.e) (fun _ => hx.2.2) (hx.1.step s01) hx.2.1 hes).mono fun v w36 ⟨o36, S', he, st, P36, R36, hS⟩ => ⟨_, he, fun hne => ?_, fun h0 => ?_⟩
      · simp only [wholeR, if_neg hne] at hC
        rw [← hC]
        exact ⟨rfl, o36, s01.trans' st fun i hi => by omega⟩
      · simp only [wholeR, if_pos h0] at hC
        rw [if_pos h0] at P36
        have hS' : S' = (headS S1 es).2 := by rcases hS with h | ⟨_, h⟩; exact h; exact absurd h0 h
        subst hS'
        refine ⟨by omega, by omega, m' - 1, by omega, t + 1, o36, _, _, rfl, by omega, s1.trans st, P36, R36, fun e he => ?_, by rw [List.length_append, hel]; rfl, hC⟩
        rcases List.mem_append.1 he with h | h
        · exact hes e h
        · simp at h; subst h; exact hbl x hxm
    · have : t = l.length := by omega
      subst this
      rw [List.drop_of_length_le (by simp)] at hC
      simp only [wholeR] at hC
      rw [← hC]
      exact ⟨rfl, o1, s01⟩
theorem issue_lag (h : LOk S2 s p L) (inv : OInv S2) (hk : Keyed S2 s p) (lag : headS S1 L.es = (L.sum, S2)) (le : OS.le S1 S2) (kn : ∀ (i : Nat) (e : Ent), i + 1 < L.es.length → L.es[i]? = some e → ∃ x, alook S1.hashes (bytesL e) = some x) (t tw ep : Int) (body : List UInt8) :
    (issueR S1 L.wr L.pb L.es s t tw ep body).1 = (issueC S2 L s t tw ep body).1 ∧ (issueR S1 L.wr L.pb L.es s t tw ep body).2.1 = (issueC S2 L s t tw ep body).2.1.es ∧
    headS (issueR S1 L.wr L.pb L.es s t tw ep body).2.2 (issueC S2 L s t tw ep body).2.1.es = ((issueC S2 L s t tw ep body).2.1.sum, (issueC S2 L s t tw ep body).2.2) ∧
    OS.le (issueR S1 L.wr L.pb L.es s t tw ep body).2.2 (issueC S2 L s t tw ep body).2.2 ∧
    ∀ (i : Nat) (e : Ent), i + 1 < (issueC S2 L s t tw ep body).2.1.es.length → (issueC S2 L s t tw ep body).2.1.es[i]? = some e → ∃ x, alook (issueR S1 L.wr L.pb L.es s t tw ep body).2.2.hashes (bytesL e) = some x := by
  have hh := head_known h
  have kn2 : ∀ (i : Nat) (e : Ent), L.es[i]? = some e → ∃ x, alook S2.hashes (bytesL e) = some x := fun i e he => (h.good i e he).2
  have hn : nextR S1 L.wr L.pb L.es t tw ep body = nextE L t tw ep body := by unfold nextR; rw [lag]
  unfold issueR issueC
  rw [hn, lag]
  by_cases h1 : L.es.length ≥ 200
  · rw [if_pos h1, if_pos h1]; exact ⟨rfl, rfl, lag, le, kn⟩
  rw [if_neg h1, if_neg h1]
  by_cases h2 : entRight (nextE L t tw ep body) = true
  · rw [if_pos h2, if_pos h2]
    have hb : behindC L (nextE L t tw ep body) = if lateS L.es t tw = true then 2 else 0 := by rw [behind_as]; exact if_pos rfl
    rw [hb]
    by_cases h3 : lateS L.es t tw = true
    · rw [if_pos h3, if_pos h3, if_pos (by decide)]; exact ⟨rfl, rfl, hh, OS.le.refl _, fun i e _ he => kn2 i e he⟩
    · rw [if_neg h3, if_neg h3, if_neg (show ¬ ((0 : Int) ≠ 0) by decide)]
      obtain ⟨a1, a2, a3, a4, a5, a6, a7, a8⟩ := sign_inv inv hk.sec (textL (nextE L t tw ep body))
      have hs : signE S2 s (nextE L t tw ep body) = (({ nextE L t tw ep body with sg := (signOf S2 s (textL (nextE L t tw ep body))).1.1 }, 0), (signOf S2 s (textL (nextE L t tw ep body))).2) := by
        unfold signE; rw [if_pos h2, if_pos a3]
      rw [hs, if_neg (show ¬ ((0 : Int) ≠ 0) by decide), if_neg (show ¬ ((0 : Int) ≠ 0) by decide)]
      refine ⟨rfl, rfl, ?_, ?_, fun i e hi he => ?_⟩
      · unfold headS putC
        rw [List.getLast?_append]
        rfl
      · unfold putC sumE
        split
        · exact (hash_inv a1 _).2.1
        · exact OS.le.refl _
      · have hi' : i < L.es.length := by
          have : i + 1 < (L.es ++ [_]).length := hi
          rw [List.length_append] at this
          simp at this; omega
        have he' : (L.es ++ [_])[i]? = some e := he
        rw [List.getElem?_append_left hi'] at he'
        obtain ⟨x, hx⟩ := kn2 i e he'
        exact ⟨x, a2.hashes _ _ hx⟩
  · rw [if_neg h2, if_neg h2]; exact ⟨rfl, rfl, hh, OS.le.refl _, fun i e _ he => kn2 i e he⟩
/-- a log of each, the reference's sums behind. -/
structure LagI (W : World) (k j q x : Nat) (s p : Int) (n m : Nat) (w : World) (o : Own) (S1 S2 : OS) (L : CL) : Prop where
  st : Step no W (fun _ => none) w o
  one : OneI w o q k s p S2 L n
  rx : RLog w o x L.wr L.pb L.es
  orc : RSt w o j S1 m
  lag : headS S1 L.es = (L.sum, S2)
  le : OS.le S1 S2
  kn : ∀ (i : Nat) (e : Ent), i + 1 < L.es.length → L.es[i]? = some e → ∃ x, alook S1.hashes (bytesL e) = some x
  wr : L.wr = 1
  nd : W.heap.size ≤ k ∧ k < j ∧ j < q ∧ q < x
theorem LagI.step (h : LagI W k j q x s p n m w o S1 S2 L) (t : Step K w o w' o') (hk : ∀ i, K i → x < i) : LagI W k j q x s p n m w' o' S1 S2 L := by
  have nd := h.nd
  have nk : ∀ i, i ≤ x → ¬ K i := fun i hi hK => by have := hk i hK; omega
  exact ⟨h.st.trans' t fun i hi => .inr (by have := hk i hi; omega), h.one.step t (nk _ (by omega)) (nk _ (by omega)), h.rx.step t (nk _ (by omega)), h.orc.step t (nk _ (by omega)), h.lag, h.le, h.kn, h.wr, nd⟩
/-- what both say of the whole. -/
theorem whole_tail (I : LagI W k j q x s p n m w o S1 S2 L) (hn : n + 300 < 1000000) (hm : m + 300 < 1000000) {l : List PE} (hr : Row w o a (PE.Cs l)) (hok : ∀ z ∈ l, z.ok w o) (hl : l.length = L.es.length) (hbl : ∀ z ∈ l, z.e.body.length < 1000000)
    (hall : ∀ (i : Nat) (e : Ent), (l.map PE.e)[i]? = some e → ∃ z f, L.es[i]? = some z ∧ (e = z ∨ e = turnE z f)) {Rf : World → Prop} {R : Bool → World → Prop} (hR : ∀ w', Ext no W w' → R true w') :
    Calls Try.prog 23 #[.pointer (some (blk k)), .int .u64 p, .slice a l.length c] w fun ee w2 => ∃ (n1 k1 : Int), ee = .returned (.tuple #[.int .i64 n1, .int .i64 k1]) ∧
      Calls Try.prog 24 #[.pointer (some (blk j)), .int .u64 p, .slice a l.length c] w2 fun ee w3 => ∃ (n2 k2 : Int), ee = .returned (.tuple #[.int .i64 n2, .int .i64 k2]) ∧
      (n1 = n2 → (k1 = k2 → Calls Try.prog 6 #[] w3 fun ee w4 => ∃ b : Bool, ee = .returned (.bool b) ∧ R b w4) ∧ (k1 ≠ k2 → Rf w3)) ∧ (n1 ≠ n2 → Rf w3) := by
  have nd := I.nd
  have hfew := I.one.lok.few
  have hxl := I.rx.lt
  refine (Whole_spec I.one.orc I.one.ok I.one.inv I.one.key I.one.len (by omega) hr hok).mono fun v w2 ⟨o2, he, s2, _, _, _, _⟩ => ⟨_, _, he, ?_⟩
  refine (rWhole_spec (I.orc.step s2 (by omega)) (by omega) (hr.step s2) (fun z hz => (hok z hz).step s2) (by omega) hbl).mono fun v w3 ⟨he, o3, s3⟩ => ⟨_, _, he, ?_⟩
  have key := whole_law I.one.lok I.one.inv I.one.key I.lag (all := l.map PE.e) (by rw [List.length_map, hl]) (fun i e he => ?_) (fun i e hi he => ?_)
  · rw [key]
    refine ⟨fun _ => ⟨fun _ => ?_, fun h => absurd rfl h⟩, fun h => absurd rfl h⟩
    refine (alive7_spec w3).mono fun v w4 ⟨hx, X4⟩ => ⟨_, hx, hR w4 ?_⟩
    have st : Step (fun i => i = k ∨ i = j) w o w3 o3 := (s2.mono fun _ h _ => .inl h).trans (s3.mono fun _ h _ => .inr h)
    have s5 : Step no W (fun _ => none) w3 o3 := I.st.trans' st fun i hi => .inr (by omega)
    exact (s5.ext.mono fun b ⟨_, _, h⟩ _ => h).trans X4
  · obtain ⟨z, f, h1, h2⟩ := hall i e he
    refine ⟨z, f, h1, h2, ?_⟩
    obtain ⟨y, hy⟩ : ∃ y, l[i]? = some y := by
      cases hy : l[i]? with
      | none => rw [List.getElem?_map, hy] at he; cases he
      | some y => exact ⟨y, rfl⟩
    rw [List.getElem?_map, hy] at he
    cases he
    exact (hok y (List.mem_of_getElem? hy)).2.2
  · obtain ⟨x, hx⟩ := I.kn i e hi he
    exact ⟨x, hx, I.le.hashes _ _ hx⟩
end
end Go.Proofs.Ytdelmfpchbpafaa

/- ChainWhole. -/
set_option linter.unusedVariables false
set_option linter.unusedSimpArgs false
set_option maxRecDepth 20000
set_option maxHeartbeats 2000000
namespace Go.Proofs.Ytdelmfpchbpafaa
open Go Go.Mx Go.Proofs
open W (OwnB GivesW numR countR doneR zig unzig intR)
theorem turnE_body (e : Ent) (f : Int) : (turnE e f).body.length ≤ e.body.length + 1 := by
  unfold turnE
  repeat' split
  all_goals simp
theorem ChainWhole_spec (W : World) {da la : Option Addr} {dc lc : Nat} {d : List Int} {l : List CO} (hd : RowAt W da (d.map u64V)) (hdc : d.length ≤ dc) (hdr : ∀ x ∈ d, 0 ≤ x ∧ x < 18446744073709551616) (hl : RowAt W la (l.flatMap CO.C)) (hg : ∀ p ∈ l, p.good W) (turn field : Int) :
    Calls Try.prog 4 #[.slice da d.length dc, .slice la l.length lc, .int .i64 turn, .int .i64 field] W (Ret (.bool true) fun w' => Ext no W w') := by
  refine cachettelaw07_ChainWhole.run _ _ _ _ _ _ _ _ ?_
  unfold cachettelaw07_ChainWhole.N
  refine (light_spec (dn := d.length) hl).mono fun e w5 ⟨he, hw⟩ => ⟨_, he, fun _ => ?_, fun hL => ?_⟩
  · subst hw
    exact (alive7_spec _).mono fun e w9 ⟨he, X⟩ => ⟨_, he, rfl, X⟩
  have hw' := hw.symm
  subst hw'
  obtain ⟨hL1, hL2, hL3⟩ := light_of hL
  refine start_two hd (by omega) hdc hdr fun k j s p S w22 o22 hk hkj hjl s22 P22 R22 hkey hu => ?_
  have i22 := R22.inv
  refine (cNew_spec (k := k) s22.ok 1 p).mono fun v w26 h => ?_
  rcases h with ⟨h, _⟩ | ⟨_, qa, o26, hx, hqa, s26', PL⟩
  · exact absurd ⟨by decide, by decide⟩ h
  have one26 : OneI w26 o26 qa k s p S ⟨1, p, [], 0⟩ 2 := ⟨PL, P22.step s26' id, s26'.ok, i22, hkey, LOk.nil 1, hu, by omega⟩
  have hqal := PL.lt
  refine ⟨_, _, hx, fun w29 x X29 hb29 hx1 hx2 => ?_⟩
  obtain ⟨o29, s29', rx29⟩ := RLog.new X29 hb29 hx1 hx2 s26'.ok
  have sAll := s26'.trans s29'
  have I29 : LagI W k j qa x s p 2 2 w29 o29 S S ⟨1, p, [], 0⟩ :=
    ⟨s22.trans sAll, one26.step s29' id id, rx29, R22.step sAll id, rfl, OS.le.refl _, fun i e h _ => absurd h (by simp), rfl, by omega⟩
  refine ⟨fun m vs w1 => ∃ (t : Nat) (o1 : Own) (S1 S2 : OS) (L : CL), vs = [.int .i64 t] ∧ m + t = l.length ∧ LagI W k j qa x s p (2 + 2 * t) (2 + 2 * t) w1 o1 S1 S2 L, l.length, ⟨0, _, S, S, _, rfl, rfl, I29⟩, ?_⟩
  clear I29 sAll rx29 s29' hb29 X29 one26 PL s26' R22 P22 s22 hL hkey hu hx i22
  rintro m w1 i ⟨t, o1, S1, S2, L, hi, hm, I⟩
  simp only [List.cons.injEq, Value.int.injEq, true_and, and_true] at hi
  subst hi
  have nd := I.nd
  have hxl := I.rx.lt
  have hbL := bodies7 I.one.lok
  have hfew := I.one.lok.few
  refine ⟨fun ht => ?_, fun ht w74 q75 X74 hb75 hq hq' => ?_⟩
  · have htl : t < l.length := by omega
    have hgt : l[t]? = some l[t] := List.getElem?_eq_getElem htl
    have hl1 := ((noR hl).step I.st)
    obtain ⟨ad, rfl⟩ := hl.faddr CO.len (by decide) htl
    have hgd := hg _ (List.getElem_mem htl)
    have lg := hL3 _ (List.getElem_mem htl)
    generalize l[t] = z at *
    have cell : ∀ {w2 : World} {o2 : Own} {K : Nat → Prop}, Step K w1 o1 w2 o2 → ∀ (i : Nat) {v : Value}, z.C[i]? = some v → w2.cell? ((ad.add (Int.toNat (t : Int) * 14)).add i) = some v := fun st i v hv => by
      rw [Int.toNat_natCast]; exact (hl1.step st).1.fcell CO.len hgt i hv
    have s0 := Step.refl no I.one.ok
    refine ⟨ad, rfl, by omega, by omega, z.t, cell s0 1 rfl, by omega, by omega, z.ep, cell s0 2 rfl, by omega, by omega, z.a, z.B.length, z.c, cell s0 3 rfl, fun w36 X36 => ?_⟩
    have s36 := Step.of_no X36 I.one.ok
    have I36 := I.step s36 fun _ h => h.elim
    have hrb := ((noR hgd.ra).step I.st).step s36
    refine (I36.one.issue (by omega) z.t 1 z.ep hrb).mono fun v w54 ⟨o54, S3, L3, e', cd, he, s54, one54, ok54, bl54, hwr, hes, hok, le54, hiss⟩ => ⟨_, _, _, _, _, _, _, _, _, _, _, he, ?_⟩
    have s54' := s36.none.trans s54
    refine ⟨by omega, by omega, z.t, cell s54' 1 rfl, by omega, by omega, z.ep, cell s54' 2 rfl, by omega, by omega, z.a, z.B.length, z.c, cell s54' 3 rfl, fun w55 X55 => ?_⟩
    have s55 := Step.of_no X55 s54.ok
    have lf := I.one.lok.fit I.one.inv (by have := I.one.len; omega)
    have hI := rIssue_spec (c := z.c) (sec := s) (t := z.t) (tw := 1) (ep := z.ep) ((I36.rx.step s54 (by omega)).step s55 id) ((I36.orc.step s54 (by omega)).step s55 id) (by omega) (by omega) (by rw [I.lag]; exact lf) (fun hf => by rw [I.lag]; exact esign_fit I.one.inv (by have := I.one.len; omega) s hf) ((hrb.step s54).step s55) hgd.la
    obtain ⟨q1, q2, q3, q4, q5⟩ := issue_lag I.one.lok I.one.inv I.one.key I.lag I.le I.kn z.t 1 z.ep z.B
    rw [hiss] at q1 q2 q3 q4 q5
    refine hI.mono fun v w72 ⟨o72, ya, yc, he, s72, rx72, r72, _, _⟩ => ⟨_, _, _, _, _, _, _, _, _, _, _, he, by omega, by omega, m - 1, by omega, t + 1, o72, (issueR S1 L.wr L.pb L.es s z.t 1 z.ep z.B).2.2, S3, L3, rfl, by omega, ?_⟩
    rw [q2] at rx72
    have hpb : L.pb = L3.pb := by rw [I.one.lok.pb, one54.lok.pb]
    have stA : Step (fun i => i = qa ∨ i = k ∨ i = x ∨ i = j) w1 o1 w72 o72 :=
      (s36.none.trans (s54.mono fun _ h _ => by rcases h with h | h; exact .inl h; exact .inr (.inl h))).trans (s55.none.trans (s72.mono fun _ h _ => .inr (.inr h)))
    exact ⟨I.st.trans' stA fun i hi => .inr (by omega), ((one54.step s55 id id).step s72 (by omega) (by omega)).mono (by omega), by rw [hwr, ← hpb]; exact rx72, r72.mono (by omega), q3, q4, q5, by rw [hwr, I.wr], nd⟩
  · obtain ⟨xa, xc, xl, g0, b1, b2, b3, b4⟩ := I.rx.st
    have hxn := len_map_e g0
    have s74 := Step.of_no X74 I.one.ok
    obtain ⟨a', c', w79, o79, hrun, s79, r79⟩ := copyL (xc := xc) X74 hb75 hq hq' I.one.ok b2.row (by omega)
    refine ⟨xa, xl.length, xc, (s74.blk b1 I.rx.own id).cella (i := 2) rfl, a', _, c', w79, hrun, ?_⟩
    -- the list as nobody's, behind whatever was stored
    have give : ∀ {w2 : World} {o2 : Own} {K : Nat → Prop} {l2 : List PE}, Step K w1 o1 w2 o2 → (∀ i, K i → i < w1.heap.size → False) → LRow 47 8 w1.heap.size w2 o2 a' l2.length c' (PE.Cs l2) → LagI W k j qa x s p (2 + 2 * t) (2 + 2 * t) w2 (grow w1 o1) S1 S2 L ∧ Row w2 (grow w1 o1) a' (PE.Cs l2) := fun {w2 o2 K l2} st hK hr => by
      have X : Ext no w1 w2 := (st.mono (K1 := no) fun i h hl => hK i h hl).ext.mono fun b ⟨_, _, h⟩ _ => h
      exact ⟨I.step (Step.of_no X I.one.ok) fun _ h => h.elim, hr.give st (Nat.le_refl _)⟩
    have hbx : ∀ z ∈ xl, z.e.body.length ≤ 1100 := fun z hz => hbL z.e (by rw [← g0]; exact List.mem_map_of_mem hz)
    have plain := fun {w2 : World} (I2 : LagI W k j qa x s p (2 + 2 * t) (2 + 2 * t) w2 (grow w1 o1) S1 S2 L) (r2 : Row w2 (grow w1 o1) a' (PE.Cs xl)) (ok2 : ∀ z ∈ xl, z.ok w2 (grow w1 o1)) =>
      whole_tail (c := c') (l := xl) (Rf := fun w' => Value.bool false = Value.bool true ∧ Ext no W w') (R := fun b w' => Value.bool b = Value.bool true ∧ Ext no W w') I2 (by omega) (by omega) r2 ok2 hxn (fun z hz => by have := hbx z hz; omega)
        (fun i e he => ⟨e, 0, by rw [← g0]; exact he, .inl rfl⟩) (fun w' X => ⟨rfl, X⟩)
    obtain ⟨I79, r79'⟩ := give s79 (fun _ h _ => h.elim) r79
    have ok79 : ∀ z ∈ xl, z.ok w79 (grow w1 o1) := fun z hz => (b4 z hz).step (Step.of_no (s79.ext.mono fun b ⟨_, _, h⟩ _ => h) I.one.ok)
    refine ⟨fun h0 => ⟨fun hlt => ?_, fun _ => plain I79 r79' ok79⟩, fun _ => plain I79 r79' ok79⟩
    have hi : turn.toNat < xl.length := by omega
    have hgx : xl[turn.toNat]? = some xl[turn.toNat] := List.getElem?_eq_getElem hi
    have hxm := List.getElem_mem hi
    obtain ⟨ad, rfl⟩ := r79.row.faddr PE.len (by decide) hi
    generalize xl[turn.toNat] = u at *
    have hu := (b4 u hxm).step s79
    refine ⟨ad, rfl, by omega, by omega, u.e.w, u.e.i, u.e.pv, u.e.t, u.e.tw, u.e.ep, u.a, u.e.body.length, u.c, u.e.sg, PE.loads r79.row rfl hgx, ?_⟩
    refine (turned_spec s79.ok u hu (by have := hbx u hxm; omega) field).mono fun v w101 ⟨o101, u', hx, s101, hok', hue⟩ => ⟨_, _, _, _, _, _, _, _, _, _, hx, by omega, by omega, ?_⟩
    have r101 := r79.step s101 fun k h => h.elim
    have hcl := PE.Cs_length xl
    have put := LRow.puts (k := turn.toNat * 8) (j := 0) (vs := u'.C) (Φ := fun w' => Calls Try.prog 23 #[.pointer (some (blk k)), .int .u64 p, .slice (some ad) xl.length c'] w' fun ee w2 => ∃ (n1 k1 : Int), ee = .returned (.tuple #[.int .i64 n1, .int .i64 k1]) ∧
      Calls Try.prog 24 #[.pointer (some (blk j)), .int .u64 p, .slice (some ad) xl.length c'] w2 fun ee w3 => ∃ (n2 k2 : Int), ee = .returned (.tuple #[.int .i64 n2, .int .i64 k2]) ∧
      (n1 = n2 → (k1 = k2 → Calls Try.prog 6 #[] w3 fun ee w4 => ∃ b : Bool, ee = .returned (.bool b) ∧ (Value.bool b = Value.bool true ∧ Ext no W w4)) ∧ (k1 ≠ k2 → Value.bool false = Value.bool true ∧ Ext no W w3)) ∧ (n1 ≠ n2 → Value.bool false = Value.bool true ∧ Ext no W w3)) rfl r101 s101.ok (by rw [hcl]; show turn.toNat * 8 + 0 + 8 ≤ _; omega) fun w2 o2 st r2 => ?_
    · exact put
    rw [Nat.add_zero, PE.Cs_set _ (by omega)] at r2
    have hlen : (xl.set turn.toNat u').length = xl.length := List.length_set
    rw [← hlen] at r2 ⊢
    have st2 : Step (fun i => w1.heap.size ≤ i) w1 o1 w2 o2 := (s79.trans s101).none.trans st
    obtain ⟨I2, r2'⟩ := give st2 (fun i h hl => by omega) r2
    have X2 : Ext no w1 w2 := (st2.mono (K1 := no) fun i h hl => by omega).ext.mono fun b ⟨_, _, h⟩ _ => h
    have hset : ∀ z ∈ xl.set turn.toNat u', z = u' ∨ z ∈ xl := fun z hz => (List.mem_or_eq_of_mem_set hz).symm
    refine whole_tail (c := c') (l := xl.set turn.toNat u') (Rf := fun w' => Value.bool false = Value.bool true ∧ Ext no W w') (R := fun b w' => Value.bool b = Value.bool true ∧ Ext no W w') I2 (by omega) (by omega) r2' (fun z hz => ?_) (by rw [hlen]; exact hxn) (fun z hz => ?_) (fun i e he => ?_) (fun w' X => ⟨rfl, X⟩)
    · rcases hset z hz with rfl | h
      · have := hok'.step st
        refine ⟨⟨this.1.1, fun h0 ad ha => ?_⟩, this.2⟩
        have hn := this.1.2 h0 ad ha
        by_cases hb : ad.block < w1.heap.size
        · rw [grow_lt hb, ← st2.same _ hb]; exact hn
        · exact grow_ge (by omega)
      · exact (b4 z h).step (Step.of_no X2 I.one.ok)
    · rcases hset z hz with rfl | h
      · have := turnE_body u.e field
        have := hbx u hxm
        rw [hue]; omega
      · have := hbx z h; omega
    · by_cases hit : i = turn.toNat
      · subst hit
        rw [List.getElem?_map, List.getElem?_set_self (by omega)] at he
        cases he
        exact ⟨u.e, field, by rw [getElem_map_e g0, hgx]; rfl, .inr hue⟩
      · rw [List.getElem?_map, List.getElem?_set_ne (fun h => hit h.symm)] at he
        exact ⟨e, 0, by rw [getElem_map_e g0]; exact he, .inl rfl⟩
theorem ChainWhole_walk (W : World) (a0 : Option Addr) (len0 cap0 : Nat) (a1 : Option Addr) (len1 cap1 : Nat) (n2 n3 : Int) (o0 : IntsQ .u64 W [.slice a0 len0 cap0]) (o1 : COsQ W [.slice a1 len1 cap1]) (w2 : (Lit.int .i64 n2).wf = true) (w3 : (Lit.int .i64 n3).wf = true) :
    Calls Try.prog 4 #[.slice a0 len0 cap0, .slice a1 len1 cap1, .int .i64 n2, .int .i64 n3] W (Ret (.bool true) fun w' => Ext no W w') := by
  obtain ⟨_, c0, d, e0, l0, _, r0, f0⟩ := o0
  obtain ⟨_, c1, l, e1, l1, _, r1, f1⟩ := o1
  cases e0; cases e1
  exact ChainWhole_spec W r0 l0 (fun x hx => wf_u64 (f0 x hx)) r1 f1 n2 n3
end Go.Proofs.Ytdelmfpchbpafaa
