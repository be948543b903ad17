/- Journal: a record's sectors; the program's Frame. -/
import Derived.Test.YtidijnfkcpbkiaaZA
set_option linter.unusedVariables false
set_option linter.unusedSimpArgs false
set_option maxRecDepth 20000
set_option maxHeartbeats 2000000
namespace Go.Proofs.Ytidijnfkcpbkiaa
open Go Go.Mx Go.Proofs
open W (OwnB GivesW)
theorem inf30 : (Try.prog.info? 30).map (fun i => (i.zero, i.size, i.bytes)) = some (some (.slice none 0 0), 1, 24) := by kernel_rfl
theorem wrapU8 (k : Nat) : IntKind.u8.wrap (k : Int) = ((UInt8.ofNat k).toNat : Int) := by
  rw [IntKind.wrap_u8]
  simp
theorem wrapU8i {z : Int} (h : 0 ≤ z) : Value.int .u8 (IntKind.u8.wrap z) = u8V (UInt8.ofNat z.toNat) := by
  obtain ⟨k, rfl⟩ := Int.eq_ofNat_of_zero_le h
  unfold u8V
  rw [wrapU8]; rfl
def be4 (n : Nat) : List UInt8 := [UInt8.ofNat (n / 16777216), UInt8.ofNat (n / 65536), UInt8.ofNat (n / 256), UInt8.ofNat n]
/-- how many parts. -/
def partsN (n : Nat) : Nat := if n > 4000 then 0 else if n = 0 then 1 else (n + 47) / 48
def partsI (n : Int) : Int := if n < 0 then 0 else (partsN n.toNat : Int)
theorem parts_eq {n : Int} (h0 : 0 ≤ n) (h1 : n ≤ 4000) : partsI n = if n = 0 then 1 else (n + 47) / 48 := by
  unfold partsI partsN
  rw [if_neg (by omega), if_neg (by omega)]
  by_cases hz : n = 0
  · subst hz; rfl
  · rw [if_neg (by omega), if_neg hz]
    omega
theorem parts_out {n : Int} (h : n < 0 ∨ n > 4000) : partsI n = 0 := by
  unfold partsI partsN
  by_cases h0 : n < 0
  · rw [if_pos h0]
  · rw [if_neg h0, if_pos (by omega)]; rfl
theorem parts_F (n : Int) : journal_Parts.F n = partsI n := by
  unfold journal_Parts.F
  by_cases h0 : n < 0
  · rw [if_pos h0, parts_out (.inl h0)]
  rw [if_neg h0]
  by_cases h1 : n > 4000
  · rw [if_pos h1, parts_out (.inr h1)]
  rw [if_neg h1, parts_eq (by omega) (by omega), w64 (n := n + 48) (by omega) (by omega), w64 (n := n + 48 - 1) (by omega) (by omega), Int.tdiv_eq_ediv_of_nonneg (by omega), w64 (n := (n + 48 - 1) / 48) (by omega) (by omega)]
  by_cases hz : n = 0
  · subst hz; rfl
  · rw [if_neg hz, if_neg (by omega)]
    omega
theorem partsI_nat (n : Nat) : partsI (n : Int) = (partsN n : Int) := by
  unfold partsI
  rw [if_neg (by omega), Int.toNat_natCast]
theorem partsN_le (n : Nat) : partsN n ≤ 84 := by
  unfold partsN
  split
  · omega
  · split
    · omega
    · omega
/-- what a sector begins with. -/
def headL (gen round seq i n k : Nat) : List UInt8 := 197 :: (be4 gen ++ be4 round ++ be4 seq ++ [UInt8.ofNat i, UInt8.ofNat n, UInt8.ofNat k])
theorem headL_len (gen round seq i n k : Nat) : (headL gen round seq i n k).length = 16 := rfl
def secL (gen round seq i n : Nat) (x : List UInt8) : List UInt8 := headL gen round seq i n x.length ++ x ++ List.replicate (48 - x.length) 0
def partL (b : List UInt8) (i : Nat) : List UInt8 := (b.drop (48 * i)).take 48
theorem partL_le (b : List UInt8) (i : Nat) : (partL b i).length ≤ 48 := by unfold partL; rw [List.length_take]; omega
theorem secL_len (gen round seq i n : Nat) {x : List UInt8} (h : x.length ≤ 48) : (secL gen round seq i n x).length = 64 := by
  unfold secL
  rw [List.length_append, List.length_append, headL_len, List.length_replicate]; omega
def frameL (gen round seq : Nat) (b : List UInt8) : List (List UInt8) := (List.range (partsN b.length)).map fun i => secL gen round seq i (partsN b.length) (partL b i)
def frameK (gen round seq : Nat) (b : List UInt8) : List (List UInt8) × Int :=
  if b.length > 4000 then ([], 3) else if gen = 0 ∨ round = 0 then ([], 1) else (frameL gen round seq b, 0)
/-- a list of bytes' rows. -/
def BSok (w : World) (o : Own) (x : BS) : Prop := Row w o x.a (bytesV x.bs) ∧ x.bs.length ≤ x.c
/-- a sector on its way. -/
structure SB (w : World) (q g : Nat) (l : List UInt8) : Prop where
  p : Blk w q 98 [.slice (some (blk g)) l.length 64]
  b : Blk w g 5 (bytesV (l ++ List.replicate (64 - l.length) 0))
  ne : q ≠ g
  le : l.length ≤ 64
section
variable {w w' w1 : World} {o o' : Own} {q g n N : Nat} {K : Nat → Prop} {l x : List UInt8} {xa : Option Addr} {xc : Nat}
theorem BSok.step {x : BS} (h : BSok w o x) (s : Step K w o w' o') : BSok w' o' x := ⟨h.1.step s, h.2⟩
theorem SB.no (h : SB w q g l) (X : Ext no w w') : SB w' q g l := ⟨h.p.ext X id, h.b.ext X id, h.ne, h.le⟩
theorem sec_types (v : Value) : (Builtin.append_ #[98, 30] 98 #[.slice (some (blk g)) n 64, v]).run Try.prog w = (Builtin.append_ #[98, 98] 98 #[.slice (some (blk g)) n 64, v]).run Try.prog w := by
  obtain ⟨i, hi, hz, hs, hb⟩ := info_of W.infU8
  unfold Builtin.append_
  simp [run_underlying Try.underlying98, run_underlying Try.underlying30, sizeOf, typeInfo, hi]
theorem blk_row_set {cur : List Value} {t : TypeId} (h : Blk w g t cur) (new : List Value) : Blk (w.setRow g new.toArray) g t new ∧ Ext (fun b => b = g) w (w.setRow g new.toArray) := by
  refine ⟨?_, rfl, rfl, rfl, by simp, fun k _ hk => setRow_other w g k _ hk⟩
  have := setRow_heap w g _ new.toArray t _ h
  unfold Blk
  exact this
theorem run_put (hS : SB w q g l) (hx : RowAt w xa (bytesV x)) (hl : l.length + x.length ≤ 64) :
    ∃ w', (Builtin.append_ #[98, 30] 98 #[.slice (some (blk g)) l.length 64, .slice xa x.length xc]).run Try.prog w = .ok (.slice (some (blk g)) (l ++ x).length 64) w' ∧
      Blk w' g 5 (bytesV (l ++ x ++ List.replicate (64 - (l ++ x).length) 0)) ∧ Ext (fun b => b = g) w w' := by
  obtain ⟨i, hi, hz, hs, hb⟩ := info_of W.infU8
  have e1 : (l ++ x).length = l.length + x.length := List.length_append
  have hle := hS.le
  rw [sec_types]
  cases xa with
  | none =>
    have : x = [] := by simpa [bytesV] using hx.none_nil
    subst this
    refine ⟨w, ?_, by rw [List.append_nil]; exact hS.b, Ext.refl _ _⟩
    rw [e1]
    simp [Builtin.append_, run_underlying Try.underlying98, sizeOf, typeInfo, hi, Builtin.lenOf, Builtin.firstCells, hle, storeCells]
  | some ad =>
    have hlen : (bytesV (l ++ List.replicate (64 - l.length) 0)).length = 64 := by rw [bytesV_length, List.length_append, List.length_replicate]; omega
    have hr := run_append_room (P := Try.prog) (w := w) 98 98 5 i Try.underlying98 hi g l.length 64 _ hS.b ad x.length xc (bytesV x) (by rw [bytesV_length, hs]; omega) (fun j u hu => hx.at_ hu) (bytesV_one x) hl (by
      rw [hs, bytesV_length, List.size_toArray, hlen]; omega)
    rw [hs, Nat.mul_one, bytesV_length] at hr
    have hnew : (bytesV (l ++ List.replicate (64 - l.length) 0)).toArray.toList.take l.length ++ bytesV x ++ (bytesV (l ++ List.replicate (64 - l.length) 0)).toArray.toList.drop (l.length + x.length) = bytesV (l ++ x ++ List.replicate (64 - (l ++ x).length) 0) := by
      have hb : ∀ n, bytesV (l ++ List.replicate n 0) = bytesV l ++ List.replicate n (u8V 0) := fun n => by simp [bytesV]
      have hb2 : ∀ n, bytesV (l ++ x ++ List.replicate n 0) = bytesV l ++ bytesV x ++ List.replicate n (u8V 0) := fun n => by simp [bytesV]
      rw [hb, hb2]
      have h1 : (bytesV l ++ List.replicate (64 - l.length) (u8V 0)).take l.length = bytesV l := by
        rw [List.take_append_of_le_length (by rw [bytesV_length]; omega), List.take_of_length_le (by rw [bytesV_length]; omega)]
      have h2 : (bytesV l ++ List.replicate (64 - l.length) (u8V 0)).drop (l.length + x.length) = List.replicate (64 - (l ++ x).length) (u8V 0) := by
        rw [← bytesV_length l, List.drop_length_add_append, List.drop_replicate]
        congr 1
        rw [e1, bytesV_length]; omega
      show (bytesV l ++ List.replicate (64 - l.length) (u8V 0)).take l.length ++ bytesV x ++ (bytesV l ++ List.replicate (64 - l.length) (u8V 0)).drop (l.length + x.length) = _
      rw [h1, h2]
    rw [hnew] at hr
    obtain ⟨h1, h2⟩ := blk_row_set hS.b (bytesV (l ++ x ++ List.replicate (64 - (l ++ x).length) 0))
    exact ⟨_, by rw [e1]; rw [e1] at hr; exact hr, h1, h2⟩
theorem put_spec (hS : SB w q g l) (hx : RowAt w xa (bytesV x)) (hl : l.length + x.length ≤ 64) :
    Calls Try.prog 60 #[.pointer (some (blk q)), .slice xa x.length xc] w (Ret (.tuple #[]) fun w' => SB w' q g (l ++ x) ∧ Ext (fun b => b = q ∨ b = g) w w') := by
  refine journal_sector_put.run _ _ _ _ ?_
  unfold journal_sector_put.N
  obtain ⟨w7, hr, hb7, X7⟩ := run_put (xc := xc) hS hx hl
  have hne := hS.ne
  have p7 := hS.p.ext X7 (fun e => hne e)
  refine ⟨_, rfl, _, _, _, hS.p.cella (i := 0) rfl, _, _, _, w7, hr, p7.cana (i := 0) rfl, thenW_in fun w8 e8 => ⟨rfl, ⟨p7.seti 0 rfl e8, hb7.oth rfl (fun e => hne e.symm) e8, hne, by rw [List.length_append]; exact hl⟩, ?_⟩⟩
  exact (X7.mono fun b h _ => .inr h).x_set (q := q) (i := 0) rfl (.inl (.inl rfl)) e8
theorem number_spec (hS : SB w q g l) {m : Nat} (hl : l.length + 4 ≤ 64) :
    Calls Try.prog 61 #[.pointer (some (blk q)), .int .u32 m] w (Ret (.tuple #[]) fun w' => SB w' q g (l ++ be4 m) ∧ Ext (fun b => b = q ∨ b = g) w w') := by
  refine journal_sector_number.run _ _ ?_
  unfold journal_sector_number.N
  intro w3 q4 X3 hb hq hq'
  have hrow : RowAt w3 (some (blk q4)) (bytesV (be4 m)) := by
    have := RowAt.of_blk hb
    have e : ∀ k : Nat, Value.int .u8 (IntKind.u8.wrap ((m : Int) / (k : Int))) = u8V (UInt8.ofNat (m / k)) := fun k => wrapU8i (z := ((m / k : Nat) : Int)) (Int.natCast_nonneg _)
    have e1 : Value.int .u8 (IntKind.u8.wrap ((m : Int) / 16777216)) = _ := e 16777216
    have e2 : Value.int .u8 (IntKind.u8.wrap ((m : Int) / 65536)) = _ := e 65536
    have e3 : Value.int .u8 (IntKind.u8.wrap ((m : Int) / 256)) = _ := e 256
    have e4 : Value.int .u8 (IntKind.u8.wrap (m : Int)) = u8V (UInt8.ofNat m) := wrapU8i (z := (m : Int)) (Int.natCast_nonneg _)
    rw [e1, e2, e3, e4] at this
    exact this
  exact (put_spec (xc := 4) (hS.no X3) hrow hl).mono fun v w6 ⟨he, hS6, X6⟩ => ⟨he, rfl, hS6, (X3.mono fun _ h _ => h.elim).then X6 fun b hb => .inl hb⟩
end
end Go.Proofs.Ytidijnfkcpbkiaa

/- Journal: the program's Frame, the reference's, and lists of bytes held against each other. -/
set_option linter.unusedVariables false
set_option linter.unusedSimpArgs false
set_option maxRecDepth 20000
set_option maxHeartbeats 2000000
namespace Go.Proofs.Ytidijnfkcpbkiaa
open Go Go.Mx Go.Proofs
open W (OwnB GivesW)
/-- a list of bytes' rows, in memory. -/
structure BsRow (w : World) (o : Own) (a : Option Addr) (c : Nat) (l : List BS) : Prop where
  row : Row w o a (l.map BS.v)
  oks : ∀ x ∈ l, BSok w o x
  le : l.length ≤ c
section
variable {w w' w1 : World} {o o' o1 : Own} {q g n N : Nat} {K : Nat → Prop} {b : List UInt8} {a : Option Addr} {c : Nat} {l : List BS}
theorem BsRow.step (h : BsRow w o a c l) (s : Step K w o w' o') : BsRow w' o' a c l := ⟨h.row.step s, fun x hx => (h.oks x hx).step s, h.le⟩
theorem BsRow.nil (w : World) (o : Own) : BsRow w o none 0 [] := ⟨Row.nil _ _ _, fun x h => (by cases h), Nat.le_refl _⟩
/-- a list of one's own, that grows. -/
structure BsL (N : Nat) (w : World) (o : Own) (a : Option Addr) (c : Nat) (l : List BS) : Prop where
  row : LRow 30 1 N w o a l.length c (l.map BS.v)
  oks : ∀ x ∈ l, BSok w o x
theorem BsL.nil (N : Nat) (w : World) (o : Own) : BsL N w o none 0 [] := ⟨LRow.nil _ _ _ _ _, fun x h => (by cases h)⟩
theorem BsL.step (h : BsL N w o a c l) (s : Step K w o w' o') (hk : ∀ k, K k → k < N ∨ w.heap.size ≤ k) : BsL N w' o' a c l := ⟨h.row.step s hk, fun x hx => (h.oks x hx).step s⟩
theorem BsL.give {w0 : World} {o0 : Own} (h : BsL N w1 o1 a c l) (s : Step K w0 o0 w1 o1) (hN : w0.heap.size ≤ N) : BsRow w1 (grow w0 o0) a c l :=
  ⟨h.row.give s hN, fun x hx => ⟨(h.oks x hx).1.forget s, (h.oks x hx).2⟩, h.row.le⟩
theorem BsL.push (h : BsL N w o a c l) (ok : Tags w o) (hl : l.length < 1000000) {x : BS} (hx : BSok w o x) {ww : World} {qq : Nat} (X : Ext no w ww) (hb : Blk ww qq 30 [x.v]) (h1 : w.heap.size ≤ qq) (h2 : qq < ww.heap.size) (hN : N ≤ w.heap.size) :
    ∃ a' c' w' o', (Builtin.append_ #[31, 31] 31 #[.slice a l.length c, .slice (some (blk qq)) 1 1]).run Try.prog ww = .ok (.slice a' (l ++ [x]).length c') w' ∧ Step (fun j => N ≤ j) w o w' o' ∧ BsL N w' o' a' c' (l ++ [x]) := by
  have s1 := Step.of_no X ok
  have hr := h.row.step s1 fun k h => h.elim
  obtain ⟨i, hi, hz, hsz, hby⟩ := info_of inf30
  obtain ⟨a', c', w', o', hrun, s2, hrow, hX⟩ := hr.push (ty := 31) Try.underlying31 hi hz hsz hby rfl (by decide) s1.ok (p := qq) (by omega) h2 (xa := some (blk qq)) (m := 1) (xc := 1) (news := [x.v]) rfl (RowAt.of_blk hb) (fun u hu => by simp at hu; subst hu; rfl) (by omega) (by omega)
  refine ⟨a', c', w', o', by rw [List.length_append]; exact hrun, s1.none.trans s2, ⟨?_, fun y hy => ?_⟩⟩
  · rw [List.length_append, List.map_append]; exact hrow
  · rcases List.mem_append.1 hy with hy | hy
    · exact ((h.oks y hy).step s1).step s2
    · simp at hy; subst hy; exact (hx.step s1).step s2
theorem mk_sector (w : World) : ∃ w', (Instr.makeSlice 98 (.int .i64 0) (.int .i64 64)).run Try.prog w = .ok (.slice (some (blk w.heap.size)) 0 64) w' ∧ Ext no w w' ∧ Blk w' w.heap.size 5 (bytesV (List.replicate 64 0)) ∧ w.heap.size < w'.heap.size := by
  obtain ⟨i, hi, hz, hs, hb⟩ := info_of W.infU8
  have hmk := run_makeSlice (P := Try.prog) (w := w) 98 5 i _ Try.underlying98 hi hz .i64 .i64 0 64 (by omega) (by decide) (by rw [hs]; decide) (by rw [hb]; decide) (by decide)
  rw [hs] at hmk
  have hcells : (madeCells (Value.int .u8 0).cells ((64 : Int).toNat * 1)) = (bytesV (List.replicate 64 0)).toArray := by
    apply Array.ext'
    rw [show (Value.int .u8 0).cells = #[Value.int .u8 0] from rfl, toList_madeCells_one]
    show List.replicate 64 _ = bytesV _
    rw [bytesV, List.map_replicate]; rfl
  rw [hcells] at hmk
  exact ⟨_, hmk, (Ext.refl _ _).alloc _, Blk.new _ _ _, by simp⟩
theorem part_bound {t : Nat} (ht : t < partsN b.length) : 48 * t ≤ b.length ∧ b.length ≤ 4000 ∧ t < 84 := by
  have h84 := partsN_le b.length
  unfold partsN at ht
  split at ht
  · omega
  · split at ht <;> omega
theorem part_row {t : Nat} (hb : RowAt w a (bytesV b)) (hc : b.length ≤ c) : RowAt w (cutA a c (48 * t) 1) (bytesV (partL b t)) := by
  have h := (hb.cut (48 * t) c (by rw [bytesV_length]; exact hc)).take 48
  unfold partL bytesV
  rw [List.map_take, List.map_drop]
  exact h
theorem fFrame_spec (ok : Tags w o) (hb : RowAt w a (bytesV b)) (hc : b.length ≤ c) (hl : b.length < 1000000) (gen round seq : Nat) :
    Calls Try.prog 53 #[.int .u32 gen, .int .u32 round, .int .u32 seq, .slice a b.length c] w (fun z w' => ∃ o' oa oc, ∃ l : List BS, z = .returned (.tuple #[.slice oa l.length oc, .int .i64 (frameK gen round seq b).2]) ∧ Step no w o w' o' ∧ l.map BS.bs = (frameK gen round seq b).1 ∧ BsRow w' o' oa oc l) := by
  refine (journal_Frame.go gen round seq a b.length c (R := fun z w' => ∃ o' oa oc, ∃ l : List BS, z = (.tuple #[.slice oa l.length oc, .int .i64 (frameK gen round seq b).2]) ∧ Step no w o w' o' ∧ l.map BS.bs = (frameK gen round seq b).1 ∧ BsRow w' o' oa oc l) ?_).mono fun z w' ⟨u, he, o', oa, oc, l, hu, hw⟩ => ⟨o', oa, oc, l, by rw [he, hu], hw⟩
  unfold journal_Frame.N
  rw [parts_F, partsI_nat]
  have leaf : ∀ {w2 : World} (k : Int), frameK gen round seq b = ([], k) → Ext no w w2 → ∃ o' oa oc, ∃ l : List BS, Value.tuple #[.slice none 0 0, .int .i64 k] = (.tuple #[.slice oa l.length oc, .int .i64 (frameK gen round seq b).2]) ∧ Step no w o w2 o' ∧ l.map BS.bs = (frameK gen round seq b).1 ∧ BsRow w2 o' oa oc l := fun k hk X => ⟨_, none, 0, [], by rw [hk]; rfl, Step.of_no X ok, by rw [hk]; rfl, BsRow.nil _ _⟩
  have hp0 : (partsN b.length : Int) = 0 ↔ b.length > 4000 := by
    unfold partsN
    split
    · simp; omega
    · split
      · simp; omega
      · omega
  refine ⟨fun h w2 X => leaf 3 (by unfold frameK; rw [if_pos (hp0.1 h)]) X, fun h => ?_⟩
  have h4 : ¬ b.length > 4000 := fun h' => h (hp0.2 h')
  refine ⟨fun h1 w2 X => leaf 1 (by unfold frameK; rw [if_neg h4, if_pos (.inl (by omega))]) X, fun h1 => ⟨fun h2 w2 X => leaf 1 (by unfold frameK; rw [if_neg h4, if_pos (.inr (by omega))]) X, fun h2 w5 X5 => ?_⟩⟩
  have hK : frameK gen round seq b = (frameL gen round seq b, 0) := by unfold frameK; rw [if_neg h4, if_neg (by omega)]
  rw [hK]
  have s5 := Step.of_no X5 ok
  refine ⟨fun m vs w1 => ∃ (t : Nat) (o1 : Own) (oa : Option Addr) (oc : Nat) (l : List BS), vs = [.slice oa l.length oc, .int .i64 t] ∧ m + t = partsN b.length ∧ Step no w o w1 o1 ∧ BsL w.heap.size w1 o1 oa oc l ∧ l.map BS.bs = (List.range t).map (fun i => secL gen round seq i (partsN b.length) (partL b i)), partsN b.length, ⟨0, _, none, 0, [], rfl, rfl, s5, BsL.nil _ _ _, rfl⟩, ?_⟩
  rintro m w13 oa on oc i ⟨t, o13, oa1, oc1, l, hi, hm, s13, hL, hmap⟩
  simp only [List.cons.injEq, Value.slice.injEq, Value.int.injEq, true_and, and_true] at hi
  obtain ⟨⟨rfl, rfl, rfl⟩, rfl⟩ := hi
  refine ⟨fun ht => ?_, fun ht => ?_⟩
  rotate_left
  · have htt : t = partsN b.length := by omega
    subst htt
    exact ⟨_, oa, oc, l, rfl, Step.of_no (s13.ext.mono fun b ⟨_, _, h⟩ _ => h) ok, hmap, hL.give s13 (Nat.le_refl _)⟩
  have htl : t < partsN b.length := by omega
  obtain ⟨hb1, hb2, hb3⟩ := part_bound htl
  have hlen : l.length = t := by have := congrArg List.length hmap; simpa using this
  have hpl : (partL b t).length = min 48 (b.length - 48 * t) := by unfold partL; rw [List.length_take, List.length_drop]
  have hcut : Int.toNat (if (b.length : Int) < (48 : Int) * ((t : Int) + 1) then (b.length : Int) else (48 : Int) * ((t : Int) + 1)) - Int.toNat ((48 : Int) * (t : Int)) = (partL b t).length := by
    rw [hpl]; split <;> omega
  have hcut2 : Int.toNat ((48 : Int) * (t : Int)) = 48 * t := by omega
  refine ⟨by omega, by omega, by omega, by omega, by omega, by omega, by split <;> omega, by split <;> omega, by omega, by split <;> omega, ?_⟩
  rw [hcut, hcut2]
  have hb13 : RowAt w13 a (bytesV b) := hb.no (s13.ext.mono fun b ⟨_, _, h⟩ _ => h)
  obtain ⟨w16, hmk, X16, hbg, hg⟩ := mk_sector w13
  refine ⟨_, _, _, w16, hmk, fun w17 q X17 hbq hq hq' => ?_⟩
  have g17 := hbg.ext X17 id
  have hne : q ≠ w13.heap.size := by omega
  refine ⟨hbq.cana (i := 0) rfl, thenW_in fun w19 e19 => ?_⟩
  have SB19 : SB w19 q w13.heap.size [] := ⟨hbq.seti 0 rfl e19, g17.oth rfl (fun e => hne e.symm) e19, hne, by decide⟩
  have X19 : Ext no w13 w19 := (X16.trans X17).x_set (q := q) (i := 0) rfl (.inr (by omega)) e19
  have l16 := X16.size
  have own : ∀ {w2 w3 : World}, Ext no w13 w2 → Ext (fun b => b = q ∨ b = w13.heap.size) w2 w3 → Ext no w13 w3 := fun h k => h.then k fun b hb => .inr (by omega)
  intro w20 q21 X20 hb21 hq21 hq21'
  have lit1 : RowAt w20 (some (blk q21)) (bytesV [197]) := RowAt.of_blk hb21
  refine (put_spec (xc := 1) (SB19.no X20) lit1 (by decide)).mono fun u w23 ⟨he, S23, X23⟩ => ⟨he, ?_⟩
  have X23 := own (X19.trans X20) X23
  refine (number_spec (m := gen) S23 (by decide)).mono fun u w25 ⟨he, S25, X25⟩ => ⟨he, ?_⟩
  have X25 := own X23 X25
  refine (number_spec (m := round) S25 (by simp [be4])).mono fun u w27 ⟨he, S27, X27⟩ => ⟨he, ?_⟩
  have X27 := own X25 X27
  refine (number_spec (m := seq) S27 (by simp [be4])).mono fun u w29 ⟨he, S29, X29⟩ => ⟨he, ?_⟩
  have X29 := own X27 X29
  intro w30 q31 X30 hb31 hq31 hq31'
  have lit3 : RowAt w30 (some (blk q31)) (bytesV [UInt8.ofNat t, UInt8.ofNat (partsN b.length), UInt8.ofNat (partL b t).length]) := by
    have := RowAt.of_blk hb31
    rw [wrapU8i (Int.natCast_nonneg t), wrapU8i (Int.natCast_nonneg (partsN b.length)), wrapU8i (Int.natCast_nonneg (partL b t).length)] at this
    exact this
  refine (put_spec (xc := 3) (S29.no X30) lit3 (by simp [be4])).mono fun u w33 ⟨he, S33, X33⟩ => ⟨he, ?_⟩
  have X33 := own (X29.trans X30) X33
  have hple := partL_le b t
  refine (put_spec S33 (part_row (hb13.no X33) hc) (by simp [be4]; omega)).mono fun u w35 ⟨he, S35, X35⟩ => ⟨he, ?_⟩
  have X35 := own X33 X35
  refine ⟨_, _, _, S35.p.cella (i := 0) rfl, by decide, fun w38 q39 X38 hb39 hq39 hq39' => ?_⟩
  have s35 := Step.of_no X35 s13.ok
  have hsec : [] ++ [197] ++ be4 gen ++ be4 round ++ be4 seq ++ [UInt8.ofNat t, UInt8.ofNat (partsN b.length), UInt8.ofNat (partL b t).length] ++ partL b t ++ List.replicate (64 - ([] ++ [197] ++ be4 gen ++ be4 round ++ be4 seq ++ [UInt8.ofNat t, UInt8.ofNat (partsN b.length), UInt8.ofNat (partL b t).length] ++ partL b t).length) 0 = secL gen round seq t (partsN b.length) (partL b t) := by
    unfold secL headL
    have : 64 - ([] ++ [197] ++ be4 gen ++ be4 round ++ be4 seq ++ [UInt8.ofNat t, UInt8.ofNat (partsN b.length), UInt8.ofNat (partL b t).length] ++ partL b t).length = 48 - (partL b t).length := by simp [be4] <;> omega
    rw [this]; rfl
  have hbl := S35.b
  rw [hsec] at hbl
  have hsl := secL_len gen round seq t (partsN b.length) hple
  have okx : BSok w35 (grow w13 o13) ⟨some (blk w13.heap.size), 64, secL gen round seq t (partsN b.length) (partL b t)⟩ := ⟨Row.fresh (RowAt.of_blk hbl) fun ad ha => by cases ha; exact Nat.le_refl _, by show (secL _ _ _ _ _ _).length ≤ 64; omega⟩
  have hb39' : Blk w38 q39 30 [BS.v ⟨some (blk w13.heap.size), 64, secL gen round seq t (partsN b.length) (partL b t)⟩] := by
    unfold BS.v; rw [hsl]; exact hb39
  have l13 := s13.size
  obtain ⟨a', c', w41, o41, hr, s41, L41⟩ := (hL.step s35 fun _ h => h.elim).push s35.ok (by omega) okx X38 hb39' hq39 hq39' (by have := X35.size; omega)
  refine ⟨a', _, c', w41, hr, by omega, by omega, m - 1, by omega, t + 1, o41, a', c', _, ?_, by omega, (s13.trans s35).trans' s41 fun i hi => .inr hi, L41, ?_⟩
  · rfl
  · rw [List.map_append, hmap, List.range_succ, List.map_append]; rfl
end
end Go.Proofs.Ytidijnfkcpbkiaa

/- Journal: the reference's Frame; lists of bytes held against each other. -/
set_option linter.unusedVariables false
set_option linter.unusedSimpArgs false
set_option maxRecDepth 20000
set_option maxHeartbeats 2000000
namespace Go.Proofs.Ytidijnfkcpbkiaa
open Go Go.Mx Go.Proofs
open W (OwnB GivesW)
section
variable {w w' w1 : World} {o o' o1 : Own} {q g n N : Nat} {K : Nat → Prop} {b : List UInt8} {a : Option Addr} {c : Nat} {l : List BS}
/-- one's own bytes, and more behind them. -/
theorem appB {w0 wi w1 : World} {N : Nat} {a xa : Option Addr} {c xc : Nat} {l x : List UInt8} (hB : OwnB N wi a c l) (X : Ext no w0 wi) (h0 : w0.heap.size ≤ N) (hN : N ≤ wi.heap.size) (hx : Ext no wi w1) (hO : RowAt w1 xa (bytesV x)) (hl : l.length + x.length ≤ 100000000) :
    ∃ a' c' w', (Builtin.append_ #[30, 30] 30 #[.slice a l.length c, .slice xa x.length xc]).run Try.prog w1 = .ok (.slice a' (l ++ x).length c') w' ∧ OwnB N w' a' c' (l ++ x) ∧ Ext no w0 w' ∧ N ≤ w'.heap.size := by
  obtain ⟨a', c', w', hr, hO2, hx2⟩ := (W.OwnB.no hB hx).append (t := 30) (ty := 30) Try.underlying30 (Nat.le_trans hN hx.size) (xc := xc) hO hl
  exact ⟨a', c', w', hr, hO2, (X.trans hx).then hx2 fun b hb => .inr (Nat.le_trans h0 hb), Nat.le_trans hN (Nat.le_trans hx.size hx2.size)⟩
end
end Go.Proofs.Ytidijnfkcpbkiaa

/- Journal: predicates of scans. -/
set_option linter.unusedVariables false
set_option linter.unusedSimpArgs false
set_option maxRecDepth 20000
set_option maxHeartbeats 2000000
namespace Go.Proofs.Ytidijnfkcpbkiaa
open Go Go.Mx Go.Proofs
/-- bytes.Equal -/
def bytes_Equal.M (a3 : Option Addr) (a1 : Nat) (a2 : Nat) (a5 : Option Addr) (a0 : Nat) (a4 : Nat) (R : Value → World → Prop) (w : World) : Prop :=
 ∃ (s3 : ByteArray), (convert 30 9 (.slice a3 a1 a2)).run Try.prog w = .ok (.string s3) w ∧
 ∃ (s4 : ByteArray), (convert 30 9 (.slice a5 a0 a4)).run Try.prog w = .ok (.string s4) w ∧
 R (.bool (s3.toList == s4.toList)) w

theorem bytes_Equal.eq (a1a : Option Addr) (a1n : Nat) (a1c : Nat) (b2a : Option Addr) (b2n : Nat) (b2c : Nat) (R : Value → World → Prop) (w : World) : mfunc Try.prog [] 64 [.slice a1a a1n a1c, .slice b2a b2n b2c] R w = bytes_Equal.M a1a a1n a1c b2a b2n b2c R w := by kernel_rfl
theorem bytes_Equal.ok (a3 : Option Addr) (a1 : Nat) (a2 : Nat) (a5 : Option Addr) (a0 : Nat) (a4 : Nat) {R : Value → World → Prop} {w : World} (h : bytes_Equal.M a3 a1 a2 a5 a0 a4 R w) : Calls Try.prog 64 #[.slice a3 a1 a2, .slice a5 a0 a4] w fun e w' => ∃ v, e = .returned v ∧ R v w' :=
  mfunc_ok follows (H := []) (args := [.slice a3 a1 a2, .slice a5 a0 a4]) (by rw [bytes_Equal.eq]; exact h)

def bytes_Equal.N (a3 : Option Addr) (a1 : Nat) (a2 : Nat) (a5 : Option Addr) (a0 : Nat) (a4 : Nat) (R : Value → World → Prop) (w : World) : Prop :=
 ∃ (s3 : ByteArray), (convert 30 9 (.slice a3 a1 a2)).run Try.prog w = .ok (.string s3) w ∧
 ∃ (s5 : ByteArray), (convert 30 9 (.slice a5 a0 a4)).run Try.prog w = .ok (.string s5) w ∧
 R (.bool (s3.toList == s5.toList)) w

theorem bytes_Equal.up (a3 : Option Addr) (a1 : Nat) (a2 : Nat) (a5 : Option Addr) (a0 : Nat) (a4 : Nat) {R : Value → World → Prop} {w : World} (h : bytes_Equal.N a3 a1 a2 a5 a0 a4 R w) : bytes_Equal.M a3 a1 a2 a5 a0 a4 R w := by
  unfold bytes_Equal.M
  unfold bytes_Equal.N at h
  obtain ⟨s3, a6, h⟩ := h
  refine ⟨s3, a6, ?_⟩
  obtain ⟨s5, a7, h⟩ := h
  refine ⟨s5, a7, ?_⟩
  exact h

theorem bytes_Equal.go (a3 : Option Addr) (a1 : Nat) (a2 : Nat) (a5 : Option Addr) (a0 : Nat) (a4 : Nat) {R : Value → World → Prop} {w : World} (h : bytes_Equal.N a3 a1 a2 a5 a0 a4 R w) : Calls Try.prog 64 #[.slice a3 a1 a2, .slice a5 a0 a4] w fun e w' => ∃ v, e = .returned v ∧ R v w' := bytes_Equal.ok a3 a1 a2 a5 a0 a4 (bytes_Equal.up a3 a1 a2 a5 a0 a4 h)
theorem bytes_Equal.run (a3 : Option Addr) (a1 : Nat) (a2 : Nat) (a5 : Option Addr) (a0 : Nat) (a4 : Nat) {V : Value} {Q : World → Prop} {w : World} (h : bytes_Equal.N a3 a1 a2 a5 a0 a4 (fun v w' => v = V ∧ Q w') w) : Calls Try.prog 64 #[.slice a3 a1 a2, .slice a5 a0 a4] w (Ret V Q) := (bytes_Equal.go a3 a1 a2 a5 a0 a4 h).mono fun e w' ⟨v, he, hv, hq⟩ => ⟨by rw [he, hv], hq⟩

/-- slices.EqualFunc[[][]byte,[][]byte,[]byte,[]byte] -/
def slices_EqualFunc_byte_byte_byte_byte.M (aj : Option Addr) (af : Nat) (an : Nat) (al : Option Addr) (ag : Nat) (am : Nat) (a4 : Nat) (a9 : Array Value) (aa : Array Value) (R : Value → World → Prop) (w : World) : Prop :=
 bif (af : Int) != (ag : Int) then (
 R (.bool false) w) else (
 ∃ (I0 : Nat → List Value → World → Prop) (m5 : Nat), I0 m5 [.int .i64 0] w ∧ ∀ (m6 : Nat) (a5 : World) (t4 : Int), I0 m6 [.int .i64 t4] a5 →
 bif decide (t4 < (af : Int)) then (
 aj.elim False fun a8 =>
 0 ≤ (t4 : Int) ∧ (t4 : Int) < (af : Int) ∧
 ∃ (ab : Option Addr) (ae : Nat) (ac : Nat), a5.cell? (a8.add (Int.toNat t4 * 1)) = some (.slice ab ae ac) ∧
 al.elim False fun ak =>
 0 ≤ (t4 : Int) ∧ (t4 : Int) < (ag : Int) ∧
 ∃ (a3 : Option Addr) (a2 : Nat) (a1 : Nat), a5.cell? (ak.add (Int.toNat t4 * 1)) = some (.slice a3 a2 a1) ∧
 bif enters Try.prog a4 then Calls Try.prog a4 (a9.toList ++ ([.slice ab ae ac, .slice a3 a2 a1] : List Value) ++ aa.toList).toArray a5 (fun ad a6 => ∃ (a7 : Bool), ad = .returned (.bool a7) ∧
 bif !a7 then (
 R (.bool false) a6) else (
 ∃ ah, ah < m6 ∧ I0 ah [.int .i64 (IntKind.i64.wrap (t4 + 1))] a6)) else (∃ (a7 : Bool) (a0 : World), (externCall a4 (a9.toList ++ ([.slice ab ae ac, .slice a3 a2 a1] : List Value) ++ aa.toList).toArray).run Try.prog a5 = .ok (.bool a7) a0 ∧
 bif !a7 then (
 R (.bool false) a0) else (
 ∃ ai, ai < m6 ∧ I0 ai [.int .i64 (IntKind.i64.wrap (t4 + 1))] a0))) else (
 R (.bool true) a5))

theorem slices_EqualFunc_byte_byte_byte_byte.eq (s1a : Option Addr) (s1n : Nat) (s1c : Nat) (s2a : Option Addr) (s2n : Nat) (s2c : Nat) (eq3k : Nat) (eq3f : Array Value) (eq3g : Array Value) (R : Value → World → Prop) (w : World) : mfunc Try.prog [(0, [1, 2, 15, 16], [(17, (.one (.int .i64)))])] 63 [.slice s1a s1n s1c, .slice s2a s2n s2c, .func (.func eq3k) eq3f eq3g] R w = slices_EqualFunc_byte_byte_byte_byte.M s1a s1n s1c s2a s2n s2c eq3k eq3f eq3g R w := by kernel_rfl
theorem slices_EqualFunc_byte_byte_byte_byte.ok (a7 : Option Addr) (a5 : Nat) (a4 : Nat) (a8 : Option Addr) (a6 : Nat) (a3 : Nat) (a2 : Nat) (a1 : Array Value) (a0 : Array Value) {R : Value → World → Prop} {w : World} (h : slices_EqualFunc_byte_byte_byte_byte.M a7 a5 a4 a8 a6 a3 a2 a1 a0 R w) : Calls Try.prog 63 #[.slice a7 a5 a4, .slice a8 a6 a3, .func (.func a2) a1 a0] w fun e w' => ∃ v, e = .returned v ∧ R v w' :=
  mfunc_ok follows (H := [(0, [1, 2, 15, 16], [(17, (.one (.int .i64)))])]) (args := [.slice a7 a5 a4, .slice a8 a6 a3, .func (.func a2) a1 a0]) (by rw [slices_EqualFunc_byte_byte_byte_byte.eq]; exact h)

def slices_EqualFunc_byte_byte_byte_byte.N (ai : Option Addr) (a4 : Nat) (al : Nat) (aj : Option Addr) (aa : Nat) (ak : Nat) (a9 : Nat) (ab : Array Value) (ae : Array Value) (R : Value → World → Prop) (w : World) : Prop :=
 ((a4 : Int) ≠ (aa : Int) →
 R (.bool false) w) ∧
 ((a4 : Int) = (aa : Int) →
 ∃ (I0 : Nat → List Value → World → Prop) (m6 : Nat), I0 m6 [.int .i64 0] w ∧ ∀ (m7 : Nat) (a3 : World) (t5 : Int), I0 m7 [.int .i64 t5] a3 →
 (t5 < (a4 : Int) →
 ∃ ah : Addr, ai = some ah ∧
 0 ≤ (t5 : Int) ∧ (t5 : Int) < (a4 : Int) ∧
 ∃ (a8 : Option Addr) (a6 : Nat) (a2 : Nat), a3.cell? (ah.add (Int.toNat t5 * 1)) = some (.slice a8 a6 a2) ∧
 ∃ ag : Addr, aj = some ag ∧
 0 ≤ (t5 : Int) ∧ (t5 : Int) < (aa : Int) ∧
 ∃ (a0 : Option Addr) (a1 : Nat) (a5 : Nat), a3.cell? (ag.add (Int.toNat t5 * 1)) = some (.slice a0 a1 a5) ∧
 enters Try.prog a9 = true ∧ Calls Try.prog a9 (ab.toList ++ ([.slice a8 a6 a2, .slice a0 a1 a5] : List Value) ++ ae.toList).toArray a3 (fun ad a7 => ∃ (ac : Bool), ad = .returned (.bool ac) ∧
 (ac = false →
 R (.bool false) a7) ∧
 (ac = true →
 (-9223372036854775808 : Int) ≤ (t5 + 1) ∧ (t5 + 1) < 9223372036854775808 ∧
 ∃ af, af < m7 ∧ I0 af [.int .i64 (t5 + 1)] a7))) ∧
 ((a4 : Int) ≤ t5 →
 R (.bool true) a3))

theorem slices_EqualFunc_byte_byte_byte_byte.up (ak : Option Addr) (aj : Nat) (ai : Nat) (al : Option Addr) (ah : Nat) (ag : Nat) (a2 : Nat) (a0 : Array Value) (a1 : Array Value) {R : Value → World → Prop} {w : World} (h : slices_EqualFunc_byte_byte_byte_byte.N ak aj ai al ah ag a2 a0 a1 R w) : slices_EqualFunc_byte_byte_byte_byte.M ak aj ai al ah ag a2 a0 a1 R w := by
  unfold slices_EqualFunc_byte_byte_byte_byte.M
  unfold slices_EqualFunc_byte_byte_byte_byte.N at h
  refine bif_of (fun c4 => ?_) (fun c4 => ?_)
  · have h := h.1 (bne_t c4)
    exact h
  · have h := h.2 (bne_f c4)
    obtain ⟨I0, m6, h0, h⟩ := h
    refine ⟨I0, m6, h0, fun m7 an t5 hI => ?_⟩
    have h := h m7 an t5 hI
    refine bif_of (fun c9 => ?_) (fun c9 => ?_)
    · have h := h.1 (of_decide_eq_true c9)
      obtain ⟨aw, aa, h⟩ := h
      refine elim_some aa ?_
      obtain ⟨a3, a6, h⟩ := h
      refine ⟨a3, a6, ?_⟩
      obtain ⟨ad, ab, a8, af, h⟩ := h
      refine ⟨ad, ab, a8, af, ?_⟩
      obtain ⟨av, ac, h⟩ := h
      refine elim_some ac ?_
      obtain ⟨a3, a6, h⟩ := h
      refine ⟨a3, a6, ?_⟩
      obtain ⟨a4, a7, a9, a5, h⟩ := h
      refine ⟨a4, a7, a9, a5, ?_⟩
      obtain ⟨hen, h⟩ := h
      refine bif_tt hen ?_
      refine h.mono fun ap ar h => ?_
      obtain ⟨aq, he, h⟩ := h
      refine ⟨aq, he, ?_⟩
      refine bif_of (fun ae => ?_) (fun ae => ?_)
      · have h := h.1 (not_t ae)
        exact h
      · have h := h.2 (not_f ae)
        obtain ⟨ao, au, h⟩ := h
        try rw [w64 ao au]
        obtain ⟨am, hk, h⟩ := h
        exact ⟨am, hk, h⟩
    · have h := h.2 (Int.not_lt.1 (of_decide_eq_false c9))
      exact h

theorem slices_EqualFunc_byte_byte_byte_byte.go (a7 : Option Addr) (a5 : Nat) (a4 : Nat) (a8 : Option Addr) (a6 : Nat) (a3 : Nat) (a2 : Nat) (a1 : Array Value) (a0 : Array Value) {R : Value → World → Prop} {w : World} (h : slices_EqualFunc_byte_byte_byte_byte.N a7 a5 a4 a8 a6 a3 a2 a1 a0 R w) : Calls Try.prog 63 #[.slice a7 a5 a4, .slice a8 a6 a3, .func (.func a2) a1 a0] w fun e w' => ∃ v, e = .returned v ∧ R v w' := slices_EqualFunc_byte_byte_byte_byte.ok a7 a5 a4 a8 a6 a3 a2 a1 a0 (slices_EqualFunc_byte_byte_byte_byte.up a7 a5 a4 a8 a6 a3 a2 a1 a0 h)
theorem slices_EqualFunc_byte_byte_byte_byte.run (a7 : Option Addr) (a5 : Nat) (a4 : Nat) (a8 : Option Addr) (a6 : Nat) (a3 : Nat) (a2 : Nat) (a1 : Array Value) (a0 : Array Value) {V : Value} {Q : World → Prop} {w : World} (h : slices_EqualFunc_byte_byte_byte_byte.N a7 a5 a4 a8 a6 a3 a2 a1 a0 (fun v w' => v = V ∧ Q w') w) : Calls Try.prog 63 #[.slice a7 a5 a4, .slice a8 a6 a3, .func (.func a2) a1 a0] w (Ret V Q) := (slices_EqualFunc_byte_byte_byte_byte.go a7 a5 a4 a8 a6 a3 a2 a1 a0 h).mono fun e w' ⟨v, he, hv, hq⟩ => ⟨by rw [he, hv], hq⟩

/-- journal.record -/
def journal_record.M (ak : Option Addr) (b0 : Nat) (au : Nat) (b3 : Int) (b1 : Int) (R : Value → World → Prop) (w : World) : Prop :=
 bif (b0 : Int) == 0 then (
 R (.tuple #[.slice none 0 0, .int .i64 0]) w) else (
 ak.elim False fun a4 =>
 0 ≤ (0 : Int) ∧ (0 : Int) < (b0 : Int) ∧
 ∃ (bd : Option Addr) (b9 : Nat) (b8 : Nat), w.cell? (a4.add (Int.toNat 0 * 1)) = some (.slice bd b9 b8) ∧
 Calls Try.prog 58 #[.slice bd b9 b8] w fun bh ar => ∃ (aw : Bool), bh = .returned (.bool aw) ∧
 bif !aw then (
 R (.tuple #[.slice none 0 0, .int .i64 0]) ar) else (
 ak.elim False fun a9 =>
 0 ≤ (0 : Int) ∧ (0 : Int) < (b0 : Int) ∧
 ∃ (aj : Option Addr) (ai : Nat) (ax : Nat), ar.cell? (a9.add (Int.toNat 0 * 1)) = some (.slice aj ai ax) ∧
 aj.elim False fun bi =>
 0 ≤ (14 : Int) ∧ (14 : Int) < (ai : Int) ∧
 ∃ (ah : Int), ar.cell? (bi.add (Int.toNat 14 * 1)) = some (.int .u8 ah) ∧
 bif decide ((IntKind.i64.wrap ah) > (b0 : Int)) then (
 R (.tuple #[.slice none 0 0, .int .i64 0]) ar) else (
 (0 : Int) ≤ ((IntKind.i64.wrap ah) : Int) ∧ ((IntKind.i64.wrap ah) : Int) ≤ (au : Int) ∧
 ∃ (I0 : Nat → List Value → World → Prop) (bg : Nat), I0 bg [.slice none 0 0, .int .i64 (IntKind.i64.wrap ah), .int .i64 0] ar ∧ ∀ (bc : Nat) (ac : World) (ad : Option Addr) (ae : Nat) (aa : Nat) (am : Int) (al : Int), I0 bc [.slice ad ae aa, .int .i64 am, .int .i64 al] ac →
 bif decide (al < (((Int.toNat (IntKind.i64.wrap ah)) - 0 : Nat) : Int)) then (
 (if au = 0 then ak else Option.map (fun z : Addr => z.add (0 * 1)) ak).elim False fun be =>
 0 ≤ (al : Int) ∧ (al : Int) < (((Int.toNat (IntKind.i64.wrap ah)) - 0 : Nat) : Int) ∧
 ∃ (a6 : Option Addr) (ab : Nat) (a7 : Nat), ac.cell? (be.add (Int.toNat al * 1)) = some (.slice a6 ab a7) ∧
 Calls Try.prog 58 #[.slice a6 ab a7] ac fun b2 a8 => ∃ (af : Bool), b2 = .returned (.bool af) ∧
 bif !af then (
 R (.tuple #[.slice none 0 0, .int .i64 0]) a8) else (
 a6.elim False fun bj =>
 0 ≤ (15 : Int) ∧ (15 : Int) < (ab : Int) ∧
 ∃ (ba : Int), a8.cell? (bj.add (Int.toNat 15 * 1)) = some (.int .u8 ba) ∧
 bif decide (ba > 48) then (
 R (.tuple #[.slice none 0 0, .int .i64 0]) a8) else (
 a6.elim False fun bf =>
 0 ≤ (15 : Int) ∧ (15 : Int) < (ab : Int) ∧
 ∃ (ay : Int), a8.cell? (bf.add (Int.toNat 15 * 1)) = some (.int .u8 ay) ∧
 (0 : Int) ≤ ((IntKind.i64.wrap ((16 : Int) + (IntKind.i64.wrap ay))) : Int) ∧ ((IntKind.i64.wrap ((16 : Int) + (IntKind.i64.wrap ay))) : Int) ≤ (a7 : Int) ∧ (0 : Int) ≤ (16 : Int) ∧ (16 : Int) ≤ ((IntKind.i64.wrap ((16 : Int) + (IntKind.i64.wrap ay))) : Int) ∧
 ∃ (ap : Option Addr) (aq : Nat) (av : Nat) (az : World), (Builtin.append_ #[30, 30] 30 #[.slice ad ae aa, .slice (if a7 = Int.toNat 16 then a6 else Option.map (fun z : Addr => z.add ((Int.toNat 16) * 1)) a6) ((Int.toNat (IntKind.i64.wrap ((16 : Int) + (IntKind.i64.wrap ay)))) - (Int.toNat 16)) (a7 - (Int.toNat 16))]).run Try.prog a8 = .ok (.slice ap aq av) az ∧
 ∃ bb, bb < bc ∧ I0 bb [.slice ap aq av, .int .i64 am, .int .i64 (IntKind.i64.wrap (al + 1))] az))) else (
 Calls Try.prog 59 #[.slice aj ai ax, .int .i64 5] ac fun b4 b7 => ∃ (ag : Int), b4 = .returned (.int .u32 ag) ∧
 Calls Try.prog 53 #[.int .u32 b3, .int .u32 ag, .int .u32 b1, .slice ad ae aa] b7 fun b5 ao => ∃ (a1 : Option Addr) (a2 : Nat) (a3 : Nat) (a5 : Int), b5 = .returned (.tuple #[.slice a1 a2 a3, .int .i64 a5]) ∧
 bif a5 != 0 then (
 R (.tuple #[.slice none 0 0, .int .i64 0]) ao) else (
 (0 : Int) ≤ (am : Int) ∧ (am : Int) ≤ (au : Int) ∧
 Calls Try.prog 63 #[.slice a1 a2 a3, .slice (if au = 0 then ak else Option.map (fun z : Addr => z.add (0 * 1)) ak) ((Int.toNat am) - 0) (au - 0), .func (.func 64) #[] #[]] ao fun b6 an => ∃ (a0 : Bool), b6 = .returned (.bool a0) ∧
 bif !a0 then (
 R (.tuple #[.slice none 0 0, .int .i64 0]) an) else (
 R (.tuple #[.slice ad ae aa, .int .i64 am]) an))))))

theorem journal_record.eq (l1a : Option Addr) (l1n : Nat) (l1c : Nat) (gen2 : Int) (seq3 : Int) (R : Value → World → Prop) (w : World) : mfunc Try.prog [(0, [0, 1, 2, 8, 36, 37], [(6, (.one .slice)), (7, (.one (.int .i64))), (38, (.one (.int .i64)))])] 57 [.slice l1a l1n l1c, .int .u32 gen2, .int .u32 seq3] R w = journal_record.M l1a l1n l1c gen2 seq3 R w := by kernel_rfl
theorem journal_record.ok (a2 : Option Addr) (a4 : Nat) (a3 : Nat) (a0 : Int) (a1 : Int) {R : Value → World → Prop} {w : World} (h : journal_record.M a2 a4 a3 a0 a1 R w) : Calls Try.prog 57 #[.slice a2 a4 a3, .int .u32 a0, .int .u32 a1] w fun e w' => ∃ v, e = .returned v ∧ R v w' :=
  mfunc_ok follows (H := [(0, [0, 1, 2, 8, 36, 37], [(6, (.one .slice)), (7, (.one (.int .i64))), (38, (.one (.int .i64)))])]) (args := [.slice a2 a4 a3, .int .u32 a0, .int .u32 a1]) (by rw [journal_record.eq]; exact h)

def journal_record.N (b9 : Option Addr) (ao : Nat) (b1 : Nat) (b3 : Int) (az : Int) (R : Value → World → Prop) (w : World) : Prop :=
 ((ao : Int) = 0 →
 R (.tuple #[.slice none 0 0, .int .i64 0]) w) ∧
 ((ao : Int) ≠ 0 →
 ∃ a5 : Addr, b9 = some a5 ∧
 (0 : Int) < (ao : Int) ∧
 ∃ (bb : Option Addr) (bd : Nat) (b8 : Nat), w.cell? (a5.add (Int.toNat 0 * 1)) = some (.slice bb bd b8) ∧
 Calls Try.prog 58 #[.slice bb bd b8] w fun bg a6 => ∃ (al : Bool), bg = .returned (.bool al) ∧
 (al = false →
 R (.tuple #[.slice none 0 0, .int .i64 0]) a6) ∧
 (al = true →
 (0 : Int) < (ao : Int) ∧
 ∃ (ak : Option Addr) (am : Nat) (aq : Nat), a6.cell? (a5.add (Int.toNat 0 * 1)) = some (.slice ak am aq) ∧
 ∃ bc : Addr, ak = some bc ∧
 (14 : Int) < (am : Int) ∧
 ∃ (a7 : Int), a6.cell? (bc.add (Int.toNat 14 * 1)) = some (.int .u8 a7) ∧
 (-9223372036854775808 : Int) ≤ a7 ∧ a7 < 9223372036854775808 ∧
 (a7 > (ao : Int) →
 R (.tuple #[.slice none 0 0, .int .i64 0]) a6) ∧
 (a7 ≤ (ao : Int) →
 (0 : Int) ≤ (a7 : Int) ∧ (a7 : Int) ≤ (b1 : Int) ∧ 
 ∃ (I0 : Nat → List Value → World → Prop) (bf : Nat), I0 bf [.slice none 0 0, .int .i64 a7, .int .i64 0] a6 ∧ ∀ (ba : Nat) (ah : World) (ad : Option Addr) (ai : Nat) (af : Nat) (an : Int) (ac : Int), I0 ba [.slice ad ai af, .int .i64 an, .int .i64 ac] ah →
 (ac < ((Int.toNat a7) : Int) →
 0 ≤ (ac : Int) ∧ (ac : Int) < ((Int.toNat a7) : Int) ∧
 ∃ (ag : Option Addr) (ae : Nat) (a9 : Nat), ah.cell? (a5.add (Int.toNat ac * 1)) = some (.slice ag ae a9) ∧
 Calls Try.prog 58 #[.slice ag ae a9] ah fun b0 aa => ∃ (a8 : Bool), b0 = .returned (.bool a8) ∧
 (a8 = false →
 R (.tuple #[.slice none 0 0, .int .i64 0]) aa) ∧
 (a8 = true →
 ∃ b7 : Addr, ag = some b7 ∧
 (15 : Int) < (ae : Int) ∧
 ∃ (b6 : Int), aa.cell? (b7.add (Int.toNat 15 * 1)) = some (.int .u8 b6) ∧
 (b6 > 48 →
 R (.tuple #[.slice none 0 0, .int .i64 0]) aa) ∧
 (b6 ≤ 48 →
 (15 : Int) < (ae : Int) ∧
 ∃ (ab : Int), aa.cell? (b7.add (Int.toNat 15 * 1)) = some (.int .u8 ab) ∧
 (-9223372036854775808 : Int) ≤ ab ∧ ab < 9223372036854775808 ∧
 (-9223372036854775808 : Int) ≤ ((16 : Int) + ab) ∧ ((16 : Int) + ab) < 9223372036854775808 ∧
 (0 : Int) ≤ (((16 : Int) + ab) : Int) ∧ (((16 : Int) + ab) : Int) ≤ (a9 : Int) ∧ (16 : Int) ≤ (((16 : Int) + ab) : Int) ∧ 
 ∃ (ax : Option Addr) (av : Nat) (aw : Nat) (au : World), (Builtin.append_ #[30, 30] 30 #[.slice ad ai af, .slice (cutA ag a9 16 1) ((Int.toNat ((16 : Int) + ab)) - 16) (a9 - 16)]).run Try.prog aa = .ok (.slice ax av aw) au ∧
 (-9223372036854775808 : Int) ≤ (ac + 1) ∧ (ac + 1) < 9223372036854775808 ∧
 ∃ be, be < ba ∧ I0 be [.slice ax av aw, .int .i64 an, .int .i64 (ac + 1)] au))) ∧
 (((Int.toNat a7) : Int) ≤ ac →
 Calls Try.prog 59 #[.slice ak am aq, .int .i64 5] ah fun b2 b5 => ∃ (aj : Int), b2 = .returned (.int .u32 aj) ∧
 Calls Try.prog 53 #[.int .u32 b3, .int .u32 aj, .int .u32 az, .slice ad ai af] b5 fun b4 ar => ∃ (a4 : Option Addr) (a3 : Nat) (a2 : Nat) (a1 : Int), b4 = .returned (.tuple #[.slice a4 a3 a2, .int .i64 a1]) ∧
 (a1 ≠ 0 →
 R (.tuple #[.slice none 0 0, .int .i64 0]) ar) ∧
 (a1 = 0 →
 (0 : Int) ≤ (an : Int) ∧ (an : Int) ≤ (b1 : Int) ∧ 
 Calls Try.prog 63 #[.slice a4 a3 a2, .slice b9 (Int.toNat an) b1, .func (.func 64) #[] #[]] ar fun ay ap => ∃ (a0 : Bool), ay = .returned (.bool a0) ∧
 (a0 = false →
 R (.tuple #[.slice none 0 0, .int .i64 0]) ap) ∧
 (a0 = true →
 R (.tuple #[.slice ad ai af, .int .i64 an]) ap))))))

theorem journal_record.up (bb : Option Addr) (bc : Nat) (bd : Nat) (ad : Int) (ac : Int) {R : Value → World → Prop} {w : World} (h : journal_record.N bb bc bd ad ac R w) : journal_record.M bb bc bd ad ac R w := by
  unfold journal_record.M
  unfold journal_record.N at h
  refine bif_of (fun c4 => ?_) (fun c4 => ?_)
  · have h := h.1 (beq_t c4)
    exact h
  · have h := h.2 (beq_f c4)
    obtain ⟨a5, ai, h⟩ := h
    refine elim_some ai ?_
    obtain ⟨a2, h⟩ := h
    refine ⟨by decide, a2, ?_⟩
    obtain ⟨bn, bx, be, bu, h⟩ := h
    refine ⟨bn, bx, be, bu, ?_⟩
    refine h.mono fun c2 bl h => ?_
    obtain ⟨ao, he, h⟩ := h
    refine ⟨ao, he, ?_⟩
    refine bif_of (fun b9 => ?_) (fun b9 => ?_)
    · have h := h.1 (not_t b9)
      exact h
    · have h := h.2 (not_f b9)
      refine elim_some ai ?_
      obtain ⟨a2, h⟩ := h
      refine ⟨by decide, a2, ?_⟩
      obtain ⟨am, b7, ar, av, h⟩ := h
      refine ⟨am, b7, ar, av, ?_⟩
      obtain ⟨c1, ax, h⟩ := h
      refine elim_some ax ?_
      obtain ⟨a2, h⟩ := h
      refine ⟨by decide, a2, ?_⟩
      obtain ⟨bt, ah, h⟩ := h
      refine ⟨bt, ah, ?_⟩
      obtain ⟨a8, a9, h⟩ := h
      try rw [w64 a8 a9]
      refine bif_of (fun b2 => ?_) (fun b2 => ?_)
      · have h := h.1 (of_decide_eq_true b2)
        exact h
      · have h := h.2 (Int.not_lt.1 (of_decide_eq_false b2))
        obtain ⟨ab, a7, h⟩ := h
        refine ⟨ab, a7, ?_⟩
        try rw [cut_zero]
        obtain ⟨I0, bo, h0, h⟩ := h
        refine ⟨I0, bo, h0, fun bi b6 au b8 az bk bj hI => ?_⟩
        have h := h bi b6 au b8 az bk bj hI
        refine bif_of (fun ap => ?_) (fun ap => ?_)
        · have h := h.1 (of_decide_eq_true ap)
          refine elim_some ai ?_
          obtain ⟨a7, a2, h⟩ := h
          refine ⟨a7, a2, ?_⟩
          obtain ⟨b4, ay, b5, aq, h⟩ := h
          refine ⟨b4, ay, b5, aq, ?_⟩
          refine h.mono fun bm bz h => ?_
          obtain ⟨af, he, h⟩ := h
          refine ⟨af, he, ?_⟩
          refine bif_of (fun b3 => ?_) (fun b3 => ?_)
          · have h := h.1 (not_t b3)
            exact h
          · have h := h.2 (not_f b3)
            obtain ⟨c3, aa, h⟩ := h
            refine elim_some aa ?_
            obtain ⟨a2, h⟩ := h
            refine ⟨by decide, a2, ?_⟩
            obtain ⟨bw, an, h⟩ := h
            refine ⟨bw, an, ?_⟩
            refine bif_of (fun ag => ?_) (fun ag => ?_)
            · have h := h.1 (of_decide_eq_true ag)
              exact h
            · have h := h.2 (Int.not_lt.1 (of_decide_eq_false ag))
              refine elim_some aa ?_
              obtain ⟨a2, h⟩ := h
              refine ⟨by decide, a2, ?_⟩
              obtain ⟨bh, ak, h⟩ := h
              refine ⟨bh, ak, ?_⟩
              obtain ⟨a8, a9, h⟩ := h
              try rw [w64 a8 a9]
              obtain ⟨a8, a9, h⟩ := h
              try rw [w64 a8 a9]
              obtain ⟨ab, a7, bv, h⟩ := h
              refine ⟨ab, a7, by decide, bv, ?_⟩
              obtain ⟨ba, b0, b1, aw, hr, h⟩ := h
              refine ⟨ba, b0, b1, aw, hr, ?_⟩
              obtain ⟨a8, a9, h⟩ := h
              try rw [w64 a8 a9]
              obtain ⟨c0, hk, h⟩ := h
              exact ⟨c0, hk, h⟩
        · have h := h.2 (Int.not_lt.1 (of_decide_eq_false ap))
          refine h.mono fun bp bs h => ?_
          obtain ⟨ae, he, h⟩ := h
          refine ⟨ae, he, ?_⟩
          refine h.mono fun br bq h => ?_
          obtain ⟨a4, a3, a1, a6, he, h⟩ := h
          refine ⟨a4, a3, a1, a6, he, ?_⟩
          refine bif_of (fun aj => ?_) (fun aj => ?_)
          · have h := h.1 (bne_t aj)
            exact h
          · have h := h.2 (bne_f aj)
            obtain ⟨ab, a7, h⟩ := h
            refine ⟨ab, a7, ?_⟩
            try rw [cut_zero]
            refine h.mono fun bf bg h => ?_
            obtain ⟨a0, he, h⟩ := h
            refine ⟨a0, he, ?_⟩
            refine bif_of (fun al => ?_) (fun al => ?_)
            · have h := h.1 (not_t al)
              exact h
            · have h := h.2 (not_f al)
              exact h

theorem journal_record.go (a2 : Option Addr) (a4 : Nat) (a3 : Nat) (a0 : Int) (a1 : Int) {R : Value → World → Prop} {w : World} (h : journal_record.N a2 a4 a3 a0 a1 R w) : Calls Try.prog 57 #[.slice a2 a4 a3, .int .u32 a0, .int .u32 a1] w fun e w' => ∃ v, e = .returned v ∧ R v w' := journal_record.ok a2 a4 a3 a0 a1 (journal_record.up a2 a4 a3 a0 a1 h)
/-- journal.Scan -/
def journal_Scan.M (ar : Option Addr) (ap : Nat) (b2 : Nat) (al : Int) (R : Value → World → Prop) (w : World) : Prop :=
 ∃ (I0 : Nat → List Value → World → Prop) (m5 : Nat), I0 m5 [.slice none 0 0, .int .i64 0] w ∧ ∀ (m6 : Nat) (b5 : World) (a3 : Option Addr) (a1 : Nat) (a4 : Nat) (a2 : Int), I0 m6 [.slice a3 a1 a4, .int .i64 a2] b5 →
 (0 : Int) ≤ (a2 : Int) ∧ (a2 : Int) ≤ (ap : Int) ∧
 Calls Try.prog 57 #[.slice (if b2 = Int.toNat a2 then ar else Option.map (fun z : Addr => z.add ((Int.toNat a2) * 1)) ar) (ap - (Int.toNat a2)) (b2 - (Int.toNat a2)), .int .u32 al, .int .u32 (IntKind.u32.wrap (a1 : Int))] b5 fun av ah => ∃ (a8 : Option Addr) (a6 : Nat) (a7 : Nat) (a5 : Int), av = .returned (.tuple #[.slice a8 a6 a7, .int .i64 a5]) ∧
 bif a5 == 0 then (
 ∃ (I2 : Nat → List Value → World → Prop) (b7 : Nat), I2 b7 [.int .u32 0, .int .i64 0] ah ∧ ∀ (aq : Nat) (ac : World) (a0 : Int) (af : Int), I2 aq [.int .u32 a0, .int .i64 af] ac →
 bif decide (af < (ap : Int)) then (
 ar.elim False fun b6 =>
 0 ≤ (af : Int) ∧ (af : Int) < (ap : Int) ∧
 ∃ (ab : Option Addr) (aa : Nat) (ad : Nat), ac.cell? (b6.add (Int.toNat af * 1)) = some (.slice ab aa ad) ∧
 Calls Try.prog 58 #[.slice ab aa ad] ac fun au am => ∃ (ae : Bool), au = .returned (.bool ae) ∧
 bif ae then (
 Calls Try.prog 59 #[.slice ab aa ad, .int .i64 1] am fun ax ai => ∃ (ag : Int), ax = .returned (.int .u32 ag) ∧
 bif ag == al then (
 Calls Try.prog 59 #[.slice ab aa ad, .int .i64 5] ai fun aw ay => ∃ (a9 : Int), aw = .returned (.int .u32 a9) ∧
 ∃ b3, b3 < aq ∧ I2 b3 [.int .u32 (if (a9 : Int) > a0 then a9 else a0), .int .i64 (IntKind.i64.wrap (af + 1))] ay) else (
 ∃ b1, b1 < aq ∧ I2 b1 [.int .u32 a0, .int .i64 (IntKind.i64.wrap (af + 1))] ai)) else (
 ∃ b4, b4 < aq ∧ I2 b4 [.int .u32 a0, .int .i64 (IntKind.i64.wrap (af + 1))] am)) else (
 R (.tuple #[.slice a3 a1 a4, .int .i64 a2, .int .u32 a0]) ac)) else (
 thenW (ah.alloc (.cells #[.slice a8 a6 a7] 30)) fun az =>
 ∃ (ak : Option Addr) (aj : Nat) (an : Nat) (ao : World), (Builtin.append_ #[31, 31] 31 #[.slice a3 a1 a4, .slice (some (blk ah.heap.size)) 1 1]).run Try.prog az = .ok (.slice ak aj an) ao ∧
 ∃ b0, b0 < m6 ∧ I0 b0 [.slice ak aj an, .int .i64 (IntKind.i64.wrap (a2 + a5))] ao)

theorem journal_Scan.eq (l1a : Option Addr) (l1n : Nat) (l1c : Nat) (gen2 : Int) (R : Value → World → Prop) (w : World) : mfunc Try.prog [(0, [0, 1, 6], [(4, (.one .slice)), (5, (.one (.int .i64)))]), (2, [1, 4, 5, 32, 33], [(6, (.one (.int .u32))), (34, (.one (.int .i64)))])] 52 [.slice l1a l1n l1c, .int .u32 gen2] R w = journal_Scan.M l1a l1n l1c gen2 R w := by kernel_rfl
theorem journal_Scan.ok (a2 : Option Addr) (a1 : Nat) (a3 : Nat) (a0 : Int) {R : Value → World → Prop} {w : World} (h : journal_Scan.M a2 a1 a3 a0 R w) : Calls Try.prog 52 #[.slice a2 a1 a3, .int .u32 a0] w fun e w' => ∃ v, e = .returned v ∧ R v w' :=
  mfunc_ok follows (H := [(0, [0, 1, 6], [(4, (.one .slice)), (5, (.one (.int .i64)))]), (2, [1, 4, 5, 32, 33], [(6, (.one (.int .u32))), (34, (.one (.int .i64)))])]) (args := [.slice a2 a1 a3, .int .u32 a0]) (by rw [journal_Scan.eq]; exact h)

def journal_Scan.N (b1 : Option Addr) (an : Nat) (b3 : Nat) (aj : Int) (R : Value → World → Prop) (w : World) : Prop :=
 ∃ (I0 : Nat → List Value → World → Prop) (m5 : Nat), I0 m5 [.slice none 0 0, .int .i64 0] w ∧ ∀ (m6 : Nat) (b7 : World) (a4 : Option Addr) (a2 : Nat) (a5 : Nat) (a3 : Int), I0 m6 [.slice a4 a2 a5, .int .i64 a3] b7 →
 (0 : Int) ≤ (a3 : Int) ∧ (a3 : Int) ≤ (an : Int) ∧ 
 Calls Try.prog 57 #[.slice (cutA b1 b3 (Int.toNat a3) 1) (an - (Int.toNat a3)) (b3 - (Int.toNat a3)), .int .u32 aj, .int .u32 (IntKind.u32.wrap (a2 : Int))] b7 fun ay ai => ∃ (a8 : Option Addr) (a6 : Nat) (a7 : Nat) (a1 : Int), ay = .returned (.tuple #[.slice a8 a6 a7, .int .i64 a1]) ∧
 (a1 = 0 →
 ∃ (I2 : Nat → List Value → World → Prop) (b8 : Nat), I2 b8 [.int .u32 0, .int .i64 0] ai ∧ ∀ (ar : Nat) (ad : World) (a0 : Int) (a9 : Int), I2 ar [.int .u32 a0, .int .i64 a9] ad →
 (a9 < (an : Int) →
 ∃ b4 : Addr, b1 = some b4 ∧
 0 ≤ (a9 : Int) ∧ (a9 : Int) < (an : Int) ∧
 ∃ (af : Option Addr) (ae : Nat) (ag : Nat), ad.cell? (b4.add (Int.toNat a9 * 1)) = some (.slice af ae ag) ∧
 Calls Try.prog 58 #[.slice af ae ag] ad fun az al => ∃ (ac : Bool), az = .returned (.bool ac) ∧
 (ac = true →
 Calls Try.prog 59 #[.slice af ae ag, .int .i64 1] al fun av aq => ∃ (aa : Int), av = .returned (.int .u32 aa) ∧
 (aa = aj →
 Calls Try.prog 59 #[.slice af ae ag, .int .i64 5] aq fun ax aw => ∃ (ab : Int), ax = .returned (.int .u32 ab) ∧
 (-9223372036854775808 : Int) ≤ (a9 + 1) ∧ (a9 + 1) < 9223372036854775808 ∧
 ∃ b6, b6 < ar ∧ I2 b6 [.int .u32 (if (ab : Int) > a0 then ab else a0), .int .i64 (a9 + 1)] aw) ∧
 (aa ≠ aj →
 (-9223372036854775808 : Int) ≤ (a9 + 1) ∧ (a9 + 1) < 9223372036854775808 ∧
 ∃ b0, b0 < ar ∧ I2 b0 [.int .u32 a0, .int .i64 (a9 + 1)] aq)) ∧
 (ac = false →
 (-9223372036854775808 : Int) ≤ (a9 + 1) ∧ (a9 + 1) < 9223372036854775808 ∧
 ∃ b5, b5 < ar ∧ I2 b5 [.int .u32 a0, .int .i64 (a9 + 1)] al)) ∧
 ((an : Int) ≤ a9 →
 R (.tuple #[.slice a4 a2 a5, .int .i64 a3, .int .u32 a0]) ad)) ∧
 (a1 ≠ 0 →
 ∀ (ah : World) (au : Nat), Ext no ai ah → Blk ah au 30 [.slice a8 a6 a7] → ai.heap.size ≤ au → au < ah.heap.size →
 ∃ (ap : Option Addr) (ao : Nat) (ak : Nat) (am : World), (Builtin.append_ #[31, 31] 31 #[.slice a4 a2 a5, .slice (some (blk au)) 1 1]).run Try.prog ah = .ok (.slice ap ao ak) am ∧
 (-9223372036854775808 : Int) ≤ (a3 + a1) ∧ (a3 + a1) < 9223372036854775808 ∧
 ∃ b2, b2 < m6 ∧ I0 b2 [.slice ap ao ak, .int .i64 (a3 + a1)] am)

theorem journal_Scan.up (az : Option Addr) (b0 : Nat) (b1 : Nat) (ac : Int) {R : Value → World → Prop} {w : World} (h : journal_Scan.N az b0 b1 ac R w) : journal_Scan.M az b0 b1 ac R w := by
  unfold journal_Scan.M
  unfold journal_Scan.N at h
  obtain ⟨I0, m5, h0, h⟩ := h
  refine ⟨I0, m5, h0, fun m6 bi a1 a0 a2 ab hI => ?_⟩
  have h := h m6 bi a1 a0 a2 ab hI
  obtain ⟨b8, ak, h⟩ := h
  refine ⟨b8, ak, ?_⟩
  refine h.mono fun bd a8 h => ?_
  obtain ⟨a5, a3, a4, a6, he, h⟩ := h
  refine ⟨a5, a3, a4, a6, he, ?_⟩
  refine bif_of (fun ax => ?_) (fun ax => ?_)
  · have h := h.1 (beq_t ax)
    obtain ⟨I2, b7, h0, h⟩ := h
    refine ⟨I2, b7, h0, fun bb al a7 ba hI => ?_⟩
    have h := h bb al a7 ba hI
    refine bif_of (fun ar => ?_) (fun ar => ?_)
    · have h := h.1 (of_decide_eq_true ar)
      obtain ⟨bj, ag, h⟩ := h
      refine elim_some ag ?_
      obtain ⟨ak, b9, h⟩ := h
      refine ⟨ak, b9, ?_⟩
      obtain ⟨ap, am, au, ay, h⟩ := h
      refine ⟨ap, am, au, ay, ?_⟩
      refine h.mono fun bf b3 h => ?_
      obtain ⟨af, he, h⟩ := h
      refine ⟨af, he, ?_⟩
      refine bif_of (fun ai => ?_) (fun ai => ?_)
      · have h := h.1 ai
        refine h.mono fun b5 bg h => ?_
        obtain ⟨ad, he, h⟩ := h
        refine ⟨ad, he, ?_⟩
        refine bif_of (fun ao => ?_) (fun ao => ?_)
        · have h := h.1 (beq_t ao)
          refine h.mono fun bc b6 h => ?_
          obtain ⟨ae, he, h⟩ := h
          refine ⟨ae, he, ?_⟩
          obtain ⟨a9, aa, h⟩ := h
          try rw [w64 a9 aa]
          obtain ⟨bh, hk, h⟩ := h
          exact ⟨bh, hk, h⟩
        · have h := h.2 (beq_f ao)
          obtain ⟨a9, aa, h⟩ := h
          try rw [w64 a9 aa]
          obtain ⟨b2, hk, h⟩ := h
          exact ⟨b2, hk, h⟩
      · have h := h.2 ai
        obtain ⟨a9, aa, h⟩ := h
        try rw [w64 a9 aa]
        obtain ⟨be, hk, h⟩ := h
        exact ⟨be, hk, h⟩
    · have h := h.2 (Int.not_lt.1 (of_decide_eq_false ar))
      exact h
  · have h := h.2 (beq_f ax)
    refine thenW_in fun av aw => ?_
    have h := h av a8.heap.size ((Ext.refl no a8).x_alloc aw) (Blk.of_new aw) ((Ext.refl no a8)).size (size_lt_alloc aw)
    obtain ⟨aq, an, ah, aj, hr, h⟩ := h
    refine ⟨aq, an, ah, aj, hr, ?_⟩
    obtain ⟨a9, aa, h⟩ := h
    try rw [w64 a9 aa]
    obtain ⟨b4, hk, h⟩ := h
    exact ⟨b4, hk, h⟩

theorem journal_Scan.go (a2 : Option Addr) (a1 : Nat) (a3 : Nat) (a0 : Int) {R : Value → World → Prop} {w : World} (h : journal_Scan.N a2 a1 a3 a0 R w) : Calls Try.prog 52 #[.slice a2 a1 a3, .int .u32 a0] w fun e w' => ∃ v, e = .returned v ∧ R v w' := journal_Scan.ok a2 a1 a3 a0 (journal_Scan.up a2 a1 a3 a0 h)
end Go.Proofs.Ytidijnfkcpbkiaa

/- Journal: which record stands, plainly; the small functions of a scan. -/
set_option linter.unusedVariables false
set_option linter.unusedSimpArgs false
set_option maxRecDepth 20000
set_option maxHeartbeats 2000000
namespace Go.Proofs.Ytidijnfkcpbkiaa
open Go Go.Mx Go.Proofs
open W (OwnB GivesW)
def byteN (s : List UInt8) (i : Nat) : Nat := ((s[i]?).getD 0).toNat
def numB (s : List UInt8) (i : Nat) : Nat := byteN s i * 16777216 + byteN s (i + 1) * 65536 + byteN s (i + 2) * 256 + byteN s (i + 3)
def bodyS (s : List UInt8) : List UInt8 := (s.drop 16).take (byteN s 15)
def cntK (L : List (List UInt8)) : Nat := byteN (L.headD []) 14
def bodyK (L : List (List UInt8)) : List UInt8 := (L.take (cntK L)).flatMap bodyS
/-- a record stands where these sectors begin. -/
def OKS (L : List (List UInt8)) (gen seq : Nat) : Prop :=
  L ≠ [] ∧ (L.headD []).length = 64 ∧ cntK L ≤ L.length ∧ (∀ s ∈ L.take (cntK L), s.length = 64 ∧ byteN s 15 ≤ 48) ∧ frameK gen (numB (L.headD []) 5) seq (bodyK L) = (L.take (cntK L), 0)
instance (L : List (List UInt8)) (gen seq : Nat) : Decidable (OKS L gen seq) := by unfold OKS; infer_instance
def standK (L : List (List UInt8)) (gen seq : Nat) : List UInt8 × Nat := if OKS L gen seq then (bodyK L, cntK L) else ([], 0)
theorem byteN_lt (s : List UInt8) (i : Nat) : byteN s i < 256 := UInt8.toNat_lt _
theorem numB_lt (s : List UInt8) (i : Nat) : numB s i < 4294967296 := by
  have h0 := byteN_lt s i
  have h1 := byteN_lt s (i + 1)
  have h2 := byteN_lt s (i + 2)
  have h3 := byteN_lt s (i + 3)
  unfold numB; omega
theorem cntK_lt (L : List (List UInt8)) : cntK L < 256 := byteN_lt _ _
theorem frameK_zero {gen round seq : Nat} {b : List UInt8} {f : List (List UInt8)} (h : frameK gen round seq b = (f, 0)) : b.length ≤ 4000 ∧ gen ≠ 0 ∧ round ≠ 0 ∧ f = frameL gen round seq b ∧ f ≠ [] := by
  unfold frameK at h
  split at h
  · cases h
  · rename_i h4
    split at h
    · cases h
    · rename_i hz
      injection h with h1 h2
      refine ⟨by omega, fun e => hz (.inl e), fun e => hz (.inr e), h1.symm, ?_⟩
      rw [← h1]
      intro e
      have := congrArg List.length e
      unfold frameL at this
      rw [List.length_map, List.length_range] at this
      have h0 : partsN b.length = 0 := this
      unfold partsN at h0
      rw [if_neg h4] at h0
      split at h0
      · cases h0
      · omega
theorem sec_mark {gen round seq : Nat} {b : List UInt8} {s : List UInt8} (h : s ∈ frameL gen round seq b) : byteN s 0 = 197 ∧ s.length = 64 := by
  unfold frameL at h
  obtain ⟨i, hi, rfl⟩ := List.mem_map.1 h
  exact ⟨rfl, secL_len _ _ _ _ _ (partL_le _ _)⟩
section
variable {L : List (List UInt8)} {gen seq : Nat}
theorem OKS.cnt (h : OKS L gen seq) : cntK L ≠ 0 := fun e => by
  obtain ⟨_, _, _, _, hf⟩ := h
  have := (frameK_zero hf).2.2.2.2
  rw [e] at this
  exact this rfl
theorem OKS.round (h : OKS L gen seq) : numB (L.headD []) 5 ≠ 0 := (frameK_zero h.2.2.2.2).2.2.1
theorem OKS.mark (h : OKS L gen seq) : ∀ s ∈ L.take (cntK L), byteN s 0 = 197 ∧ s.length = 64 := fun s hs => by
  have hf := h.2.2.2.2
  have := (frameK_zero hf).2.2.2.1
  rw [this] at hs
  exact sec_mark hs
theorem OKS.head (h : OKS L gen seq) : L.headD [] ∈ L.take (cntK L) := by
  have hc := h.cnt
  obtain ⟨h0, _⟩ := h
  cases L with
  | nil => exact absurd rfl h0
  | cons x r =>
    obtain ⟨k, hk⟩ := Nat.exists_eq_succ_of_ne_zero hc
    rw [hk]
    exact List.mem_cons_self
theorem standK_no (h : ¬ OKS L gen seq) : standK L gen seq = ([], 0) := if_neg h
theorem standK_yes (h : OKS L gen seq) : standK L gen seq = (bodyK L, cntK L) := if_pos h
theorem standK_le (L : List (List UInt8)) (gen seq : Nat) : (standK L gen seq).2 ≤ L.length := by
  by_cases h : OKS L gen seq
  · rw [standK_yes h]; exact h.2.2.1
  · rw [standK_no h]; exact Nat.zero_le _
theorem bodyS_le (s : List UInt8) : (bodyS s).length ≤ 255 := by
  unfold bodyS
  rw [List.length_take]
  have := byteN_lt s 15
  omega
theorem flat_le : ∀ L : List (List UInt8), (L.flatMap bodyS).length ≤ 255 * L.length
  | [] => Nat.le_refl _
  | x :: r => by
    have := bodyS_le x
    have := flat_le r
    rw [List.flatMap_cons, List.length_append, List.length_cons]
    omega
end
/-- a list of bytes' rows, where they lie. -/
structure BsAt (w : World) (a : Option Addr) (c : Nat) (l : List BS) : Prop where
  row : RowAt w a (l.map BS.v)
  oks : ∀ x ∈ l, RowAt w x.a (bytesV x.bs) ∧ x.bs.length ≤ x.c
  le : l.length ≤ c
section
variable {w w' w1 : World} {o o' o1 : Own} {q g n N : Nat} {K : Nat → Prop} {b s : List UInt8} {a : Option Addr} {c : Nat} {l : List BS}
theorem BsAt.no (h : BsAt w a c l) (X : Ext no w w') : BsAt w' a c l := ⟨h.row.no X, fun x hx => ⟨(h.oks x hx).1.no X, (h.oks x hx).2⟩, h.le⟩
theorem BsRow.at (h : BsRow w o a c l) : BsAt w a c l := ⟨h.row.1, fun x hx => ⟨(h.oks x hx).1.1, (h.oks x hx).2⟩, h.le⟩
theorem BsAt.cut (h : BsAt w a c l) (k : Nat) : BsAt w (cutA a c k 1) (c - k) (l.drop k) :=
  ⟨by have := h.row.cut k c (by rw [List.length_map]; exact h.le); rwa [← List.map_drop] at this, fun x hx => h.oks x (List.mem_of_mem_drop hx), by rw [List.length_drop]; have := h.le; omega⟩
theorem BsAt.take (h : BsAt w a c l) (k : Nat) : BsAt w a c (l.take k) :=
  ⟨by have := h.row.take k; rwa [← List.map_take] at this, fun x hx => h.oks x (List.mem_of_mem_take hx), by rw [List.length_take]; have := h.le; omega⟩
theorem BsAt.cell (h : BsAt w a c l) {i : Nat} {x : BS} (hi : l[i]? = some x) : ∃ ad, a = some ad ∧ w.cell? (ad.add (i * 1)) = some (.slice x.a x.bs.length x.c) := by
  obtain ⟨ad, ha, hc⟩ := h.row i x.v (by rw [List.getElem?_map, hi]; rfl)
  exact ⟨ad, ha, by rw [Nat.mul_one]; exact hc⟩
theorem byte_cell (h : RowAt w a (bytesV s)) {i : Nat} (hi : i < s.length) : ∃ ad, a = some ad ∧ w.cell? (ad.add (i * 1)) = some (.int .u8 (byteN s i)) := by
  obtain ⟨ad, ha, hc⟩ := h i (u8V s[i]) (by unfold bytesV; rw [List.getElem?_map, List.getElem?_eq_getElem hi]; rfl)
  refine ⟨ad, ha, ?_⟩
  rw [Nat.mul_one, hc]
  unfold byteN
  rw [List.getElem?_eq_getElem hi]; rfl
theorem sIs_spec (h : RowAt w a (bytesV s)) :
    Calls Try.prog 58 #[.slice a s.length c] w (Ret (.bool (decide (s.length = 64 ∧ byteN s 0 = 197))) fun w' => w' = w) := by
  refine journal_sector_is.run _ _ _ ?_
  unfold journal_sector_is.N
  refine ⟨fun h64 => ?_, fun h64 => ⟨by rw [decide_eq_false (by omega)], rfl⟩⟩
  obtain ⟨ad, rfl, hc⟩ := byte_cell h (i := 0) (by omega)
  refine ⟨ad, rfl, by omega, _, hc, ?_, rfl⟩
  congr 1
  rw [Bool.eq_iff_iff]
  simp
  omega
theorem or_step (n x : Nat) (hn : n < 16777216) (hx : x < 256) : IntKind.u32.wrap ((BitVec.ofInt (IntKind.bits .u32) (IntKind.u32.wrap ((n : Int) * 256)) ||| BitVec.ofInt (IntKind.bits .u32) (IntKind.u32.wrap (x : Int))).toNat) = ((n * 256 + x : Nat) : Int) := by
  rw [show IntKind.u32.wrap ((n : Int) * 256) = ((n * 256 : Nat) : Int) by rw [IntKind.wrap_u32]; omega, show IntKind.u32.wrap (x : Int) = ((x : Nat) : Int) by rw [IntKind.wrap_u32]; omega]
  have h1 : (BitVec.ofInt (IntKind.bits .u32) ((n * 256 : Nat) : Int)).toNat = n * 256 := by
    show (BitVec.ofInt 32 ((n * 256 : Nat) : Int)).toNat = _
    rw [BitVec.ofInt_natCast, BitVec.toNat_ofNat]; omega
  have h2 : (BitVec.ofInt (IntKind.bits .u32) ((x : Nat) : Int)).toNat = x := by
    show (BitVec.ofInt 32 ((x : Nat) : Int)).toNat = _
    rw [BitVec.ofInt_natCast, BitVec.toNat_ofNat]; omega
  rw [BitVec.toNat_or, h1, h2]
  have h3 : n * 256 ||| x = n * 256 + x := by
    have := Nat.two_pow_add_eq_or_of_lt (i := 8) (b := x) (by omega) n
    rw [show (2 : Nat) ^ 8 * n = n * 256 by omega] at this
    exact this.symm
  rw [h3, IntKind.wrap_u32]; omega
/-- a number's bytes so far. -/
def numP (s : List UInt8) (i : Nat) : Nat → Nat
  | 0 => 0
  | k + 1 => numP s i k * 256 + byteN s (i + k)
theorem numP_four (s : List UInt8) (i : Nat) : numP s i 4 = numB s i := by
  simp only [numP, numB, Nat.add_zero]
  omega
theorem numP_lt (s : List UInt8) (i : Nat) : ∀ k, k ≤ 3 → numP s i k < 16777216 := fun k hk => by
  have h0 := byteN_lt s (i + 0)
  have h1 := byteN_lt s (i + 1)
  have h2 := byteN_lt s (i + 2)
  match k, hk with
  | 0, _ => simp only [numP]; omega
  | 1, _ => simp only [numP]; omega
  | 2, _ => simp only [numP]; omega
  | 3, _ => simp only [numP]; omega
theorem at_spec (h : RowAt w a (bytesV s)) (hc : s.length ≤ c) {i : Nat} (hi : i + 4 ≤ s.length) (hs : s.length < 1000000) :
    Calls Try.prog 59 #[.slice a s.length c, .int .i64 i] w (Ret (.int .u32 (numB s i)) fun w' => w' = w) := by
  refine journal_sector_at.run _ _ _ _ ?_
  unfold journal_sector_at.N
  have hcut : (Int.toNat ((i : Int) + 4)) - (Int.toNat (i : Int)) = 4 := by omega
  refine ⟨by omega, by omega, by omega, by omega, by omega, by omega, ?_⟩
  rw [hcut, Int.toNat_natCast]
  refine ⟨fun m vs w1 => ∃ t : Nat, vs = [.int .u32 (numP s i t), .int .i64 t] ∧ m + t = 4 ∧ w1 = w, 4, ⟨0, rfl, rfl, rfl⟩, ?_⟩
  rintro m w7 n t ⟨t', hi', hm, rfl⟩
  simp only [List.cons.injEq, Value.int.injEq, true_and, and_true] at hi'
  obtain ⟨rfl, rfl⟩ := hi'
  refine ⟨fun ht => ?_, fun ht => ?_⟩
  · have ht4 : t' < 4 := by omega
    have hd : RowAt w7 (cutA a c i 1) (bytesV (s.drop i)) := by
      have := h.cut i c (by rw [bytesV_length]; exact hc)
      unfold bytesV at this ⊢
      rwa [← List.map_drop] at this
    obtain ⟨ad, ha, hcell⟩ := byte_cell hd (i := t') (by rw [List.length_drop]; omega)
    have hb : byteN (s.drop i) t' = byteN s (i + t') := by unfold byteN; rw [List.getElem?_drop]
    rw [hb] at hcell
    refine ⟨ad, ha, by omega, by omega, _, by rw [Int.toNat_natCast]; exact hcell, by omega, by omega, m - 1, by omega, t' + 1, ?_, by omega, rfl⟩
    rw [or_step _ _ (numP_lt s i t' (by omega)) (byteN_lt _ _)]; rfl
  · have : t' = 4 := by omega
    subst this
    exact ⟨by rw [numP_four], rfl⟩
theorem bEq_spec {b : Option Addr} {d : Nat} {x y : List UInt8} (ha : RowAt w a (bytesV x)) (hb : RowAt w b (bytesV y)) :
    Calls Try.prog 64 #[.slice a x.length c, .slice b y.length d] w (Ret (.bool (decide (x = y))) fun w' => w' = w) := by
  refine bytes_Equal.run _ _ _ _ _ _ ?_
  unfold bytes_Equal.N
  refine ⟨_, conv_str Try.underlying30 Try.underlying5 Try.underlying9 ha, _, conv_str Try.underlying30 Try.underlying5 Try.underlying9 hb, ?_, rfl⟩
  have e : ∀ s : List UInt8, (ByteArray.mk s.toArray).toList = s := fun s => by
    simp
  congr 1
  rw [e, e, Bool.eq_iff_iff]
  simp
theorem eqFunc_spec {ba : Option Addr} {bc : Nat} {l1 l2 : List BS} (h1 : BsAt w a c l1) (h2 : BsAt w ba bc l2) (hl : l1.length < 1000000) :
    Calls Try.prog 63 #[.slice a l1.length c, .slice ba l2.length bc, .func (.func 64) #[] #[]] w (Ret (.bool (decide (l1.map BS.bs = l2.map BS.bs))) fun w' => w' = w) := by
  refine slices_EqualFunc_byte_byte_byte_byte.run _ _ _ _ _ _ _ _ _ ?_
  unfold slices_EqualFunc_byte_byte_byte_byte.N
  have leafF : l1.map BS.bs ≠ l2.map BS.bs → ∀ {w2 : World}, w2 = w → Value.bool false = .bool (decide (l1.map BS.bs = l2.map BS.bs)) ∧ w2 = w := fun h _ X => ⟨by rw [decide_eq_false h], X⟩
  refine ⟨fun h => leafF (fun e => h (by have := congrArg List.length e; simp at this; omega)) rfl, fun h => ?_⟩
  refine ⟨fun m vs w1 => ∃ t : Nat, vs = [.int .i64 t] ∧ m + t = l1.length ∧ w1 = w ∧ (l1.map BS.bs).take t = (l2.map BS.bs).take t, l1.length, ⟨0, rfl, rfl, rfl, rfl⟩, ?_⟩
  rintro m w7 i ⟨t, hi, hm, rfl, htk⟩
  simp only [List.cons.injEq, Value.int.injEq, true_and, and_true] at hi
  subst hi
  refine ⟨fun ht => ?_, fun ht => ?_⟩
  rotate_left
  · have htt : t = l1.length := by omega
    rw [List.take_of_length_le (by simp; omega), List.take_of_length_le (by simp; omega)] at htk
    exact ⟨by rw [decide_eq_true htk], rfl⟩
  have ht1 : t < l1.length := by omega
  have ht2 : t < l2.length := by omega
  have g1 : l1[t]? = some l1[t] := List.getElem?_eq_getElem ht1
  have g2 : l2[t]? = some l2[t] := List.getElem?_eq_getElem ht2
  obtain ⟨x1, x2⟩ := h1.oks _ (List.getElem_mem ht1)
  obtain ⟨y1, y2⟩ := h2.oks _ (List.getElem_mem ht2)
  have n1 : (l1.map BS.bs)[t]? = some (l1[t]).bs := by rw [List.getElem?_map, g1]; rfl
  have n2 : (l2.map BS.bs)[t]? = some (l2[t]).bs := by rw [List.getElem?_map, g2]; rfl
  generalize l1[t] = u at *
  generalize l2[t] = v at *
  obtain ⟨ad, rfl, c1⟩ := h1.cell g1
  obtain ⟨bd, rfl, c2⟩ := h2.cell g2
  refine ⟨ad, rfl, by omega, by omega, u.a, u.bs.length, u.c, by rw [Int.toNat_natCast]; exact c1, bd, rfl, by omega, by omega, v.a, v.bs.length, v.c, by rw [Int.toNat_natCast]; exact c2, by kernel_rfl, ?_⟩
  refine (by exact (bEq_spec (c := u.c) (d := v.c) x1 y1).mono fun z w18 ⟨he, hw⟩ => ⟨_, he, fun hs => leafF (fun e => of_decide_eq_false hs (by rw [e, n2] at n1; injection n1 with n1; exact n1.symm)) hw, fun hs => ⟨by omega, by omega, m - 1, by omega, t + 1, rfl, by omega, hw, by rw [List.take_add_one, List.take_add_one, htk, n1, n2, of_decide_eq_true hs]⟩⟩)
end
end Go.Proofs.Ytidijnfkcpbkiaa

/- Journal: the record that stands (both). -/
set_option linter.unusedVariables false
set_option linter.unusedSimpArgs false
set_option maxRecDepth 20000
set_option maxHeartbeats 2000000
namespace Go.Proofs.Ytidijnfkcpbkiaa
open Go Go.Mx Go.Proofs
open W (OwnB GivesW)
section
variable {w w' w1 : World} {o o' o1 : Own} {q g n N : Nat} {K : Nat → Prop} {b s : List UInt8} {a : Option Addr} {c : Nat} {l : List BS}
theorem body_row (h : RowAt w a (bytesV s)) (hc : s.length ≤ c) : RowAt w (cutA a c 16 1) (bytesV (bodyS s)) := by
  have := (h.cut 16 c (by rw [bytesV_length]; exact hc)).take (byteN s 15)
  unfold bodyS
  unfold bytesV at this ⊢
  rwa [← List.map_drop, ← List.map_take] at this
theorem body_len (h : s.length = 64) (h15 : byteN s 15 ≤ 48) : (bodyS s).length = byteN s 15 := by
  unfold bodyS
  rw [List.length_take, List.length_drop]; omega
theorem get_map_bs {l : List BS} {i : Nat} {x : BS} (h : l[i]? = some x) : (l.map BS.bs)[i]? = some x.bs := by rw [List.getElem?_map, h]; rfl
theorem mem_take_of {α : Type} {L : List α} {i k : Nat} {x : α} (hi : i < k) (h : L[i]? = some x) : x ∈ L.take k := by
  have : (L.take k)[i]? = some x := by rw [List.getElem?_take, if_pos hi]; exact h
  exact List.mem_of_getElem? this
/-- what is gathered of the first sectors. -/
structure Gath (w : World) (L : List (List UInt8)) (t : Nat) (w1 : World) (ba : Option Addr) (bc : Nat) (b : List UInt8) : Prop where
  own : OwnB w.heap.size w1 ba bc b
  ext : Ext no w w1
  ok : ∀ s ∈ L.take t, s.length = 64 ∧ byteN s 15 ≤ 48
  is : b = (L.take t).flatMap bodyS
theorem gath_len (h : Gath w (l.map BS.bs) n w1 a c b) (hn : n ≤ 255) : b.length ≤ 100000 := by
  rw [h.is]
  have := flat_le ((l.map BS.bs).take n)
  rw [List.length_take] at this
  omega
theorem record_spec (h : BsAt w a c l) (hl : l.length ≤ 100000) {gen seq : Nat} :
    Calls Try.prog 57 #[.slice a l.length c, .int .u32 gen, .int .u32 seq] w (fun z w' => ∃ ba bc, z = .returned (.tuple #[.slice ba (standK (l.map BS.bs) gen seq).1.length bc, .int .i64 (standK (l.map BS.bs) gen seq).2]) ∧ OwnB w.heap.size w' ba bc (standK (l.map BS.bs) gen seq).1 ∧ Ext no w w') := by
  refine (journal_record.go _ _ _ _ _ (R := fun z w' => ∃ ba bc, z = (.tuple #[.slice ba (standK (l.map BS.bs) gen seq).1.length bc, .int .i64 (standK (l.map BS.bs) gen seq).2]) ∧ OwnB w.heap.size w' ba bc (standK (l.map BS.bs) gen seq).1 ∧ Ext no w w') ?_).mono fun z w' ⟨u, he, ba, bc, hu, hw⟩ => ⟨ba, bc, by rw [he, hu], hw⟩
  unfold journal_record.N
  generalize hL : l.map BS.bs = L at *
  have hLl : L.length = l.length := by rw [← hL, List.length_map]
  have leaf : ¬ OKS L gen seq → ∀ {w2 : World}, Ext no w w2 → ∃ ba bc, Value.tuple #[.slice none 0 0, .int .i64 0] = (.tuple #[.slice ba (standK L gen seq).1.length bc, .int .i64 (standK L gen seq).2]) ∧ OwnB w.heap.size w2 ba bc (standK L gen seq).1 ∧ Ext no w w2 := fun hn w2 X => by
    rw [standK_no hn]; exact ⟨none, 0, rfl, W.OwnB.nil _ _, X⟩
  refine ⟨fun h0 => leaf (fun k => k.1 (List.eq_nil_of_length_eq_zero (by omega))) (Ext.refl _ _), fun h0 => ?_⟩
  have hi0 : 0 < l.length := by omega
  have g0 : l[0]? = some l[0] := List.getElem?_eq_getElem hi0
  have hm0 := List.getElem_mem hi0
  generalize l[0] = x0 at *
  have hhead : L.headD [] = x0.bs := by
    have := get_map_bs g0
    rw [hL] at this
    cases L with
    | nil => simp at this
    | cons y r => simp at this; exact this
  obtain ⟨ad, rfl, c0⟩ := h.cell g0
  obtain ⟨r0, e0⟩ := h.oks x0 hm0
  refine ⟨ad, rfl, by omega, x0.a, x0.bs.length, x0.c, c0, ?_⟩
  refine (sIs_spec (c := x0.c) r0).mono fun u w10 ⟨he, hw⟩ => ⟨_, he, fun hs => ?_, fun hs => ?_⟩
  · subst hw
    exact leaf (fun k => of_decide_eq_false hs (by rw [← hhead]; exact ⟨(k.mark _ k.head).2, (k.mark _ k.head).1⟩)) (Ext.refl _ _)
  subst hw
  obtain ⟨h64, hmk⟩ := of_decide_eq_true hs
  obtain ⟨xd, hxd, c14⟩ := byte_cell r0 (i := 14) (by omega)
  have hcnt : byteN x0.bs 14 = cntK L := by unfold cntK; rw [hhead]
  rw [hcnt] at c14
  have hc255 := cntK_lt L
  refine ⟨by omega, x0.a, x0.bs.length, x0.c, c0, xd, hxd, by omega, _, c14, by omega, by omega, fun hgt => leaf (fun k => by have := k.2.2.1; omega) (Ext.refl _ _), fun hle => ⟨by omega, by have := h.le; omega, ?_⟩⟩
  rw [Int.toNat_natCast]
  refine ⟨fun m vs w1 => ∃ (t : Nat) (ba : Option Addr) (bc : Nat) (b : List UInt8), vs = [.slice ba b.length bc, .int .i64 (cntK L : Nat), .int .i64 t] ∧ m + t = cntK L ∧ Gath w10 L t w1 ba bc b, cntK L, ⟨0, none, 0, [], rfl, rfl, ⟨W.OwnB.nil _ _, Ext.refl _ _, fun s hs => by simp at hs, rfl⟩⟩, ?_⟩
  rintro m w23 ba bn bc n19 i ⟨t, ba', bc', b, hi, hm, G⟩
  simp only [List.cons.injEq, Value.slice.injEq, Value.int.injEq, true_and, and_true] at hi
  obtain ⟨⟨rfl, rfl, rfl⟩, rfl, rfl⟩ := hi
  have h23 := h.no G.ext
  refine ⟨fun ht => ?_, fun ht => ?_⟩
  · have htl : t < l.length := by omega
    have gt : l[t]? = some l[t] := List.getElem?_eq_getElem htl
    have hmt := List.getElem_mem htl
    generalize l[t] = x at *
    have gL : L[t]? = some x.bs := by rw [← hL]; exact get_map_bs gt
    have hin : x.bs ∈ L.take (cntK L) := mem_take_of (by omega) gL
    obtain ⟨_, e, cx⟩ := h23.cell gt
    cases e
    obtain ⟨rx, ex⟩ := h23.oks x hmt
    refine ⟨by omega, by omega, x.a, x.bs.length, x.c, by rw [Int.toNat_natCast]; exact cx, ?_⟩
    refine (sIs_spec (c := x.c) rx).mono fun u w29 ⟨he, hw⟩ => ⟨_, he, fun hs => ?_, fun hs => ?_⟩
    · subst hw
      exact leaf (fun k => of_decide_eq_false hs ⟨(k.mark _ hin).2, (k.mark _ hin).1⟩) G.ext
    subst hw
    obtain ⟨hx64, hxm⟩ := of_decide_eq_true hs
    obtain ⟨yd, hyd, c15⟩ := byte_cell rx (i := 15) (by omega)
    refine ⟨yd, hyd, by omega, _, c15, fun hgt => leaf (fun k => by have := (k.2.2.2.1 _ hin).2; omega) G.ext, fun hle15 => ⟨by omega, _, c15, by omega, by omega, by omega, by omega, by omega, by omega, by omega, ?_⟩⟩
    have hbl := body_len hx64 (by omega)
    have hcut : Int.toNat ((16 : Int) + (byteN x.bs 15 : Int)) - 16 = (bodyS x.bs).length := by rw [hbl]; omega
    rw [hcut]
    have hgl := gath_len (l := l) (by rw [hL]; exact G) (show t ≤ 255 by omega)
    obtain ⟨a', c', w38, hr, O38, X38, _⟩ := appB (xc := x.c - 16) G.own G.ext (Nat.le_refl _) G.ext.size (Ext.refl no w29) (body_row rx ex) (by omega)
    refine ⟨a', _, c', w38, hr, by omega, by omega, m - 1, by omega, t + 1, a', c', _, rfl, by omega, ⟨O38, X38, fun s hs => ?_, ?_⟩⟩
    · rw [List.take_add_one, gL] at hs
      rcases List.mem_append.1 hs with hs | hs
      · exact G.ok s hs
      · simp at hs; subst hs; exact ⟨hx64, by omega⟩
    · rw [List.take_add_one, gL, List.flatMap_append, ← G.is]; simp
  · have htt : t = cntK L := by omega
    subst htt
    have hbK : b = bodyK L := G.is
    have hgl := gath_len (l := l) (by rw [hL]; exact G) (show cntK L ≤ 255 by omega)
    have r0' := r0.no G.ext
    refine (at_spec (i := 5) r0' e0 (by omega) (by omega)).mono fun u w42 ⟨he, hw⟩ => ⟨_, he, ?_⟩
    subst hw
    have hnum : numB x0.bs 5 = numB (L.headD []) 5 := by rw [hhead]
    rw [hnum]
    refine (fFrame_spec (o := fun _ => none) (fun b j _ h => by cases h) G.own.row G.own.le (by omega) gen (numB (L.headD []) 5) seq).mono fun u w46 ⟨o46, fa, fc, f, he, s46, hfm, hf⟩ => ⟨_, _, _, _, he, fun hne => leaf (fun k => hne (by rw [hbK]; exact congrArg Prod.snd k.2.2.2.2)) (G.ext.trans (s46.ext.mono fun b ⟨_, _, h⟩ _ => h)), fun heq => ⟨by omega, by have := h.le; omega, ?_⟩⟩
    have X46 : Ext no w42 w46 := s46.ext.mono fun b ⟨_, _, h⟩ _ => h
    rw [Int.toNat_natCast]
    have hlt : (l.take (cntK L)).length = cntK L := by rw [List.length_take]; omega
    have hfl : f.length < 1000000 := by
      have h1 := congrArg List.length hfm
      rw [List.length_map] at h1
      rw [h1]
      unfold frameK
      split
      · exact (by decide)
      · split
        · exact (by decide)
        · show (frameL _ _ _ _).length < _
          unfold frameL
          rw [List.length_map, List.length_range]
          have := partsN_le b.length
          omega
    have hq := eqFunc_spec hf.at ((h23.no X46).take (cntK L)) hfl
    rw [hlt] at hq
    refine hq.mono fun u w50 ⟨he, hw⟩ => ⟨_, he, fun hs => ?_, fun hs => ?_⟩
    · have hs' := of_decide_eq_false hs
      subst hw
      exact leaf (fun k => hs' (by
        rw [hfm, List.map_take, hL, hbK]
        exact congrArg Prod.fst k.2.2.2.2)) (G.ext.trans X46)
    · have hs' := of_decide_eq_true hs
      subst hw
      rw [hfm, List.map_take, hL] at hs'
      have hOK : OKS L gen seq := ⟨fun e => by rw [e] at hLl; simp at hLl; omega, by rw [hhead]; exact h64, by omega, G.ok, Prod.ext (by rw [← hbK]; exact hs') (by rw [← hbK]; exact heq)⟩
      rw [standK_yes hOK, ← hbK]
      exact ⟨ba, bc, rfl, W.OwnB.no G.own X46, G.ext.trans X46⟩
end
end Go.Proofs.Ytidijnfkcpbkiaa

/- Journal: a scan (both). -/
set_option linter.unusedVariables false
set_option linter.unusedSimpArgs false
set_option maxRecDepth 20000
set_option maxHeartbeats 2000000
namespace Go.Proofs.Ytidijnfkcpbkiaa
open Go Go.Mx Go.Proofs
open W (OwnB GivesW)
def scanG (gen : Nat) : Nat → List (List UInt8) → Nat → List (List UInt8) × Nat
  | 0, _, _ => ([], 0)
  | k + 1, L, s => if (standK L gen s).2 = 0 then ([], 0) else ((standK L gen s).1 :: (scanG gen k (L.drop (standK L gen s).2) (s + 1)).1, (standK L gen s).2 + (scanG gen k (L.drop (standK L gen s).2) (s + 1)).2)
def roundStep (gen : Nat) (r : Nat) (s : List UInt8) : Nat := if s.length = 64 ∧ byteN s 0 = 197 ∧ numB s 1 = gen then max r (numB s 5) else r
def roundOf (gen : Nat) (L : List (List UInt8)) : Nat := L.foldl (roundStep gen) 0
def scanK (L : List (List UInt8)) (gen : Nat) : (List (List UInt8) × Nat) × Nat := (scanG gen (L.length + 1) L 0, roundOf gen L)
theorem roundStep_lt {gen r : Nat} {s : List UInt8} (h : r < 4294967296) : roundStep gen r s < 4294967296 := by
  unfold roundStep
  have := numB_lt s 5
  split <;> omega
theorem roundOf_lt (gen : Nat) (L : List (List UInt8)) : roundOf gen L < 4294967296 := by
  unfold roundOf
  have : ∀ (L : List (List UInt8)) (r : Nat), r < 4294967296 → L.foldl (roundStep gen) r < 4294967296 := by
    intro L
    induction L with
    | nil => intro r h; exact h
    | cons x t ih => intro r h; exact ih _ (roundStep_lt h)
  exact this L 0 (by decide)
theorem roundOf_step {gen : Nat} {L : List (List UInt8)} {t : Nat} {s : List UInt8} (h : L[t]? = some s) : roundOf gen (L.take (t + 1)) = roundStep gen (roundOf gen (L.take t)) s := by
  unfold roundOf
  rw [List.take_add_one, h, List.foldl_append]; rfl
theorem scanG_le (gen : Nat) : ∀ (k : Nat) (L : List (List UInt8)) (s : Nat), (scanG gen k L s).2 ≤ L.length ∧ (scanG gen k L s).1.length ≤ (scanG gen k L s).2
  | 0, L, s => ⟨Nat.zero_le _, Nat.le_refl _⟩
  | k + 1, L, s => by
    by_cases h : (standK L gen s).2 = 0
    · simp only [scanG, h, if_true]; exact ⟨Nat.zero_le _, Nat.le_refl _⟩
    · have h1 := standK_le L gen s
      have ih := scanG_le gen k (L.drop (standK L gen s).2) (s + 1)
      rw [List.length_drop] at ih
      simp only [scanG, if_neg h, List.length_cons]
      omega
section
variable {w w' w1 : World} {o o' o1 : Own} {q g n N : Nat} {K : Nat → Prop} {b s : List UInt8} {a : Option Addr} {c : Nat} {l : List BS}
theorem max_int (x y : Nat) : (if ((x : Int) : Int) > (y : Int) then (x : Int) else (y : Int)) = ((max y x : Nat) : Int) := by
  split <;> omega
theorem scan_spec (ok : Tags w o) (h : BsAt w a c l) (hl : l.length ≤ 100000) (gen : Nat) :
    Calls Try.prog 52 #[.slice a l.length c, .int .u32 gen] w (fun z w' => ∃ o' ra rc, ∃ r : List BS, z = .returned (.tuple #[.slice ra r.length rc, .int .i64 (scanK (l.map BS.bs) gen).1.2, .int .u32 (scanK (l.map BS.bs) gen).2]) ∧ Step no w o w' o' ∧ r.map BS.bs = (scanK (l.map BS.bs) gen).1.1 ∧ BsRow w' o' ra rc r) := by
  refine (journal_Scan.go _ _ _ _ (R := fun z w' => ∃ o' ra rc, ∃ r : List BS, z = (.tuple #[.slice ra r.length rc, .int .i64 (scanK (l.map BS.bs) gen).1.2, .int .u32 (scanK (l.map BS.bs) gen).2]) ∧ Step no w o w' o' ∧ r.map BS.bs = (scanK (l.map BS.bs) gen).1.1 ∧ BsRow w' o' ra rc r) ?_).mono fun z w' ⟨u, he, o', ra, rc, r, hu, hw⟩ => ⟨o', ra, rc, r, by rw [he, hu], hw⟩
  unfold journal_Scan.N
  generalize hL : l.map BS.bs = L at *
  have hLl : L.length = l.length := by rw [← hL, List.length_map]
  obtain ⟨T, hT⟩ : ∃ T, scanG gen (L.length + 1) L 0 = T := ⟨_, rfl⟩
  refine ⟨fun m vs w1 => ∃ (t : Nat) (o1 : Own) (ra : Option Addr) (rc : Nat) (r : List BS), vs = [.slice ra r.length rc, .int .i64 t] ∧ t ≤ L.length ∧ L.length < m + t ∧ r.length ≤ t ∧ Step no w o w1 o1 ∧ BsL w.heap.size w1 o1 ra rc r ∧ (r.map BS.bs ++ (scanG gen m (L.drop t) r.length).1, t + (scanG gen m (L.drop t) r.length).2) = T, L.length + 1, ⟨0, o, none, 0, [], rfl, Nat.zero_le _, by omega, Nat.le_refl _, Step.refl _ ok, BsL.nil _ _ _, by rw [← hT]; simp⟩, ?_⟩
  rintro m w7 ra rn rc i ⟨t, o7, ra', rc', r, hi, ht, hm, hrt, s7, R7, hG⟩
  simp only [List.cons.injEq, Value.slice.injEq, Value.int.injEq, true_and, and_true] at hi
  obtain ⟨⟨rfl, rfl, rfl⟩, rfl⟩ := hi
  obtain ⟨k, rfl⟩ : ∃ k, m = k + 1 := ⟨m - 1, by omega⟩
  have h7 := h.no (s7.ext.mono fun b ⟨_, _, h⟩ _ => h)
  have hseq : IntKind.u32.wrap (r.length : Int) = (r.length : Int) := by rw [IntKind.wrap_u32]; omega
  refine ⟨by omega, by omega, ?_⟩
  rw [hseq, Int.toNat_natCast]
  have hdl : l.length - t = (l.drop t).length := by rw [List.length_drop]
  rw [hdl]
  have hrec := record_spec (h7.cut t) (by rw [List.length_drop]; omega) (gen := gen) (seq := r.length)
  rw [List.map_drop, hL] at hrec
  refine hrec.mono fun u w11 ⟨ba, bc, he, hO, X11⟩ => ⟨_, _, _, _, he, fun hz => ?_, fun hz w36 q X36 hb hq hq' => ?_⟩
  · have hz' : (standK (L.drop t) gen r.length).2 = 0 := by omega
    simp only [scanG, hz', if_true, List.append_nil, Nat.add_zero] at hG
    have s11 := Step.of_no X11 s7.ok
    have R11 := R7.step s11 fun _ h => h.elim
    have s011 := s7.trans s11
    have h11 := h7.no X11
    refine ⟨fun m vs w1 => ∃ t2 : Nat, vs = [.int .u32 (roundOf gen (L.take t2) : Nat), .int .i64 t2] ∧ m + t2 = l.length ∧ w1 = w11, l.length, ⟨0, rfl, rfl, rfl⟩, ?_⟩
    rintro m2 w17 rd i ⟨t2, hi, hm2, rfl⟩
    simp only [List.cons.injEq, Value.int.injEq, true_and, and_true] at hi
    obtain ⟨rfl, rfl⟩ := hi
    refine ⟨fun h2 => ?_, fun h2 => ?_⟩
    · have htl : t2 < l.length := by omega
      have gt : l[t2]? = some l[t2] := List.getElem?_eq_getElem htl
      have hmt := List.getElem_mem htl
      have gL : L[t2]? = some (l[t2]).bs := by rw [← hL]; exact get_map_bs gt
      generalize l[t2] = x at *
      obtain ⟨xd, hxd, cx⟩ := h11.cell gt
      obtain ⟨rx, ex⟩ := h11.oks x hmt
      have hst := roundOf_step (gen := gen) gL
      have nx : ∀ v : Nat, v = roundOf gen (L.take (t2 + 1)) → (-9223372036854775808 : Int) ≤ ((t2 : Int) + 1) ∧ ((t2 : Int) + 1) < 9223372036854775808 ∧ ∃ m', m' < m2 ∧ ∃ t3 : Nat, [Value.int .u32 (v : Int), Value.int .i64 ((t2 : Int) + 1)] = [.int .u32 (roundOf gen (L.take t3) : Nat), .int .i64 t3] ∧ m' + t3 = l.length ∧ w17 = w17 := fun v hv => ⟨by omega, by omega, m2 - 1, by omega, t2 + 1, by rw [hv]; rfl, by omega, rfl⟩
      refine ⟨xd, hxd, by omega, by omega, x.a, x.bs.length, x.c, by rw [Int.toNat_natCast]; exact cx, ?_⟩
      refine (sIs_spec (c := x.c) rx).mono fun u w24 ⟨he, hw⟩ => ⟨_, he, fun hs => ?_, fun hs => ?_⟩
      · subst hw
        obtain ⟨h64, hmk⟩ := of_decide_eq_true hs
        refine (at_spec (i := 1) rx ex (by omega) (by omega)).mono fun u w28 ⟨he, hw⟩ => ⟨_, he, fun hgen => ?_, fun hgen => ?_⟩
        · subst hw
          refine (at_spec (i := 5) rx ex (by omega) (by omega)).mono fun u w32 ⟨he, hw⟩ => ⟨_, he, ?_⟩
          subst hw
          rw [max_int]
          exact nx _ (by rw [hst]; unfold roundStep; rw [if_pos ⟨h64, hmk, by omega⟩])
        · subst hw
          exact nx _ (by rw [hst]; unfold roundStep; rw [if_neg (by omega)])
      · subst hw
        have hs' := of_decide_eq_false hs
        exact nx _ (by rw [hst]; unfold roundStep; rw [if_neg (fun h => hs' ⟨h.1, h.2.1⟩)])
    · have htt : t2 = l.length := by omega
      have hfin : scanK L gen = ((r.map BS.bs, t), roundOf gen L) := by unfold scanK; rw [hT, ← hG]
      rw [hfin, htt, List.take_of_length_le (by omega)]
      exact ⟨_, ra, rc, r, rfl, Step.of_no (s011.ext.mono fun b ⟨_, _, h⟩ _ => h) ok, rfl, R11.give s011 (Nat.le_refl _)⟩
  · have hz' : ¬ (standK (L.drop t) gen r.length).2 = 0 := by omega
    have hsl := standK_le (L.drop t) gen r.length
    rw [List.length_drop] at hsl
    simp only [scanG, if_neg hz'] at hG
    have s11 := Step.of_no X11 s7.ok
    have R11 := R7.step s11 fun _ h => h.elim
    have okx : BSok w11 (grow w7 o7) ⟨ba, bc, (standK (L.drop t) gen r.length).1⟩ := ⟨Row.fresh hO.row fun ad ha => (hO.fr ad ha).1, hO.le⟩
    have l7 := s7.size
    obtain ⟨a', c', w39, o39, hr, s39, R39⟩ := R11.push s11.ok (by omega) okx X36 hb hq hq' (by have := X11.size; omega)
    refine ⟨a', _, c', w39, hr, by omega, by omega, k, by omega, t + (standK (L.drop t) gen r.length).2, o39, a', c', _, by rw [Int.natCast_add], by omega, by omega, by rw [List.length_append, List.length_singleton]; omega, (s7.trans s11).trans' s39 fun i hi => .inr hi, R39, ?_⟩
    rw [← hG, List.map_append, List.length_append, List.length_singleton, List.drop_drop]
    simp only [List.map_cons, List.map_nil, List.append_assoc, List.singleton_append, Nat.add_assoc]
end
end Go.Proofs.Ytidijnfkcpbkiaa

/- Disk: predicates. -/
set_option linter.unusedVariables false
set_option linter.unusedSimpArgs false
set_option maxRecDepth 20000
set_option maxHeartbeats 2000000
namespace Go.Proofs.Ytidijnfkcpbkiaa
open Go Go.Mx Go.Proofs
/-- disk.New -/
def disk_New.M (n1 : Int) (R : Value → World → Prop) (w : World) : Prop :=
 bif decide (n1 < 1) then (
 R (.tuple #[.pointer none, .int .i64 1]) w) else (
 bif decide (n1 > 400) then (
 R (.tuple #[.pointer none, .int .i64 1]) w) else (
 ∃ (a1 : Option Addr) (a2 : Nat) (a3 : Nat) (a0 : World), (Instr.makeSlice 53 (.int .i64 n1) (.int .i64 n1)).run Try.prog w = .ok (.slice a1 a2 a3) a0 ∧
 thenW (a0.alloc (.cells #[.slice a1 a2 a3, .slice none 0 0, .int .i64 0, .bool false, .int .i64 0, .int .i64 0] 57)) fun a4 =>
 R (.tuple #[.pointer (some (blk a0.heap.size)), .int .i64 0]) a4))

theorem disk_New.eq (n1 : Int) (R : Value → World → Prop) (w : World) : mfunc Try.prog [] 7 [.int .i64 n1] R w = disk_New.M n1 R w := by kernel_rfl
theorem disk_New.ok (n1 : Int) {R : Value → World → Prop} {w : World} (h : disk_New.M n1 R w) : Calls Try.prog 7 #[.int .i64 n1] w fun e w' => ∃ v, e = .returned v ∧ R v w' :=
  mfunc_ok follows (H := []) (args := [.int .i64 n1]) (by rw [disk_New.eq]; exact h)

def disk_New.N (n1 : Int) (R : Value → World → Prop) (w : World) : Prop :=
 (n1 < 1 →
 R (.tuple #[.pointer none, .int .i64 1]) w) ∧
 ((1 : Int) ≤ n1 →
 (n1 > 400 →
 R (.tuple #[.pointer none, .int .i64 1]) w) ∧
 (n1 ≤ 400 →
 ∃ (a4 : Option Addr) (a2 : Nat) (a3 : Nat) (a1 : World), (Instr.makeSlice 53 (.int .i64 n1) (.int .i64 n1)).run Try.prog w = .ok (.slice a4 a2 a3) a1 ∧
 ∀ (a0 : World) (q7 : Nat), Ext no a1 a0 → Blk a0 q7 57 [.slice a4 a2 a3, .slice none 0 0, .int .i64 0, .bool false, .int .i64 0, .int .i64 0] → a1.heap.size ≤ q7 → q7 < a0.heap.size →
 R (.tuple #[.pointer (some (blk q7)), .int .i64 0]) a0))

theorem disk_New.up (n1 : Int) {R : Value → World → Prop} {w : World} (h : disk_New.N n1 R w) : disk_New.M n1 R w := by
  unfold disk_New.M
  unfold disk_New.N at h
  refine bif_of (fun c2 => ?_) (fun c2 => ?_)
  · have h := h.1 (of_decide_eq_true c2)
    exact h
  · have h := h.2 (Int.not_lt.1 (of_decide_eq_false c2))
    refine bif_of (fun c3 => ?_) (fun c3 => ?_)
    · have h := h.1 (of_decide_eq_true c3)
      exact h
    · have h := h.2 (Int.not_lt.1 (of_decide_eq_false c3))
      obtain ⟨a3, a1, a2, a0, hr, h⟩ := h
      refine ⟨a3, a1, a2, a0, hr, ?_⟩
      refine thenW_in fun a4 e6 => ?_
      have h := h a4 a0.heap.size ((Ext.refl no a0).x_alloc e6) (Blk.of_new e6) ((Ext.refl no a0)).size (size_lt_alloc e6)
      exact h

theorem disk_New.go (n1 : Int) {R : Value → World → Prop} {w : World} (h : disk_New.N n1 R w) : Calls Try.prog 7 #[.int .i64 n1] w fun e w' => ∃ v, e = .returned v ∧ R v w' := disk_New.ok n1 (disk_New.up n1 h)
/-- (*disk.Disk).Sectors -/
def disk_Disk_Sectors.M (d1 : Option Addr) (R : Value → World → Prop) (w : World) : Prop :=
 bif Option.isNone d1 then (
 R (.int .i64 0) w) else (
 d1.elim False fun a2 =>
 ∃ (a3 : Option Addr) (a0 : Nat) (a1 : Nat), w.cell? (a2.add 0) = some (.slice a3 a0 a1) ∧
 R (.int .i64 (a0 : Int)) w)

theorem disk_Disk_Sectors.eq (d1 : Option Addr) (R : Value → World → Prop) (w : World) : mfunc Try.prog [] 22 [.pointer d1] R w = disk_Disk_Sectors.M d1 R w := by kernel_rfl
theorem disk_Disk_Sectors.ok (d1 : Option Addr) {R : Value → World → Prop} {w : World} (h : disk_Disk_Sectors.M d1 R w) : Calls Try.prog 22 #[.pointer d1] w fun e w' => ∃ v, e = .returned v ∧ R v w' :=
  mfunc_ok follows (H := []) (args := [.pointer d1]) (by rw [disk_Disk_Sectors.eq]; exact h)

def disk_Disk_Sectors.N (d1 : Option Addr) (R : Value → World → Prop) (w : World) : Prop :=
 (d1 = none →
 R (.int .i64 0) w) ∧
 (d1 ≠ none →
 ∃ a3 : Addr, d1 = some a3 ∧
 ∃ (a2 : Option Addr) (a0 : Nat) (a1 : Nat), w.cell? (a3.add 0) = some (.slice a2 a0 a1) ∧
 R (.int .i64 (a0 : Int)) w)

theorem disk_Disk_Sectors.up (d1 : Option Addr) {R : Value → World → Prop} {w : World} (h : disk_Disk_Sectors.N d1 R w) : disk_Disk_Sectors.M d1 R w := by
  unfold disk_Disk_Sectors.M
  unfold disk_Disk_Sectors.N at h
  refine bif_of (fun c2 => ?_) (fun c2 => ?_)
  · have h := h.1 (isNone_t c2)
    exact h
  · have h := h.2 (isNone_f c2)
    obtain ⟨a3, a4, h⟩ := h
    refine elim_some a4 ?_
    obtain ⟨a1, a2, a0, a5, h⟩ := h
    refine ⟨a1, a2, a0, a5, ?_⟩
    exact h

theorem disk_Disk_Sectors.go (d1 : Option Addr) {R : Value → World → Prop} {w : World} (h : disk_Disk_Sectors.N d1 R w) : Calls Try.prog 22 #[.pointer d1] w fun e w' => ∃ v, e = .returned v ∧ R v w' := disk_Disk_Sectors.ok d1 (disk_Disk_Sectors.up d1 h)
theorem disk_Disk_Sectors.run (d1 : Option Addr) {V : Value} {Q : World → Prop} {w : World} (h : disk_Disk_Sectors.N d1 (fun v w' => v = V ∧ Q w') w) : Calls Try.prog 22 #[.pointer d1] w (Ret V Q) := (disk_Disk_Sectors.go d1 h).mono fun e w' ⟨v, he, hv, hq⟩ => ⟨by rw [he, hv], hq⟩

/-- (*disk.Disk).is -/
def disk_Disk_is.M (d1 : Option Addr) (R : Value → World → Prop) (w : World) : Prop :=
 bif Option.isNone d1 then (
 R (.int .i64 23) w) else (
 d1.elim False fun a2 =>
 ∃ (a0 : Int), w.cell? (a2.add 4) = some (.int .i64 a0) ∧
 bif a0 == 1 then (
 R (.int .i64 19) w) else (
 R (.int .i64 0) w))

theorem disk_Disk_is.eq (d1 : Option Addr) (R : Value → World → Prop) (w : World) : mfunc Try.prog [] 46 [.pointer d1] R w = disk_Disk_is.M d1 R w := by kernel_rfl
theorem disk_Disk_is.ok (d1 : Option Addr) {R : Value → World → Prop} {w : World} (h : disk_Disk_is.M d1 R w) : Calls Try.prog 46 #[.pointer d1] w fun e w' => ∃ v, e = .returned v ∧ R v w' :=
  mfunc_ok follows (H := []) (args := [.pointer d1]) (by rw [disk_Disk_is.eq]; exact h)

def disk_Disk_is.N (d1 : Option Addr) (R : Value → World → Prop) (w : World) : Prop :=
 (d1 = none →
 R (.int .i64 23) w) ∧
 (d1 ≠ none →
 ∃ a3 : Addr, d1 = some a3 ∧
 ∃ (a0 : Int), w.cell? (a3.add 4) = some (.int .i64 a0) ∧
 (a0 = 1 →
 R (.int .i64 19) w) ∧
 (a0 ≠ 1 →
 R (.int .i64 0) w))

theorem disk_Disk_is.up (d1 : Option Addr) {R : Value → World → Prop} {w : World} (h : disk_Disk_is.N d1 R w) : disk_Disk_is.M d1 R w := by
  unfold disk_Disk_is.M
  unfold disk_Disk_is.N at h
  refine bif_of (fun c2 => ?_) (fun c2 => ?_)
  · have h := h.1 (isNone_t c2)
    exact h
  · have h := h.2 (isNone_f c2)
    obtain ⟨a3, a2, h⟩ := h
    refine elim_some a2 ?_
    obtain ⟨a0, a1, h⟩ := h
    refine ⟨a0, a1, ?_⟩
    refine bif_of (fun c6 => ?_) (fun c6 => ?_)
    · have h := h.1 (beq_t c6)
      exact h
    · have h := h.2 (beq_f c6)
      exact h

theorem disk_Disk_is.go (d1 : Option Addr) {R : Value → World → Prop} {w : World} (h : disk_Disk_is.N d1 R w) : Calls Try.prog 46 #[.pointer d1] w fun e w' => ∃ v, e = .returned v ∧ R v w' := disk_Disk_is.ok d1 (disk_Disk_is.up d1 h)
theorem disk_Disk_is.run (d1 : Option Addr) {V : Value} {Q : World → Prop} {w : World} (h : disk_Disk_is.N d1 (fun v w' => v = V ∧ Q w') w) : Calls Try.prog 46 #[.pointer d1] w (Ret V Q) := (disk_Disk_is.go d1 h).mono fun e w' ⟨v, he, hv, hq⟩ => ⟨by rw [he, hv], hq⟩

/-- (*disk.Disk).has -/
def disk_Disk_has.M (d1 : Option Addr) (i2 : Int) (R : Value → World → Prop) (w : World) : Prop :=
 Calls Try.prog 46 #[.pointer d1] w fun a5 a4 => ∃ (a2 : Int), a5 = .returned (.int .i64 a2) ∧
 bif a2 != 0 then (
 R (.int .i64 a2) a4) else (
 bif decide (i2 < 0) then (
 R (.int .i64 2) a4) else (
 d1.elim False fun a6 =>
 ∃ (a3 : Option Addr) (a0 : Nat) (a1 : Nat), a4.cell? (a6.add 0) = some (.slice a3 a0 a1) ∧
 bif decide (i2 ≥ (a0 : Int)) then (
 R (.int .i64 2) a4) else (
 R (.int .i64 0) a4)))

theorem disk_Disk_has.eq (d1 : Option Addr) (i2 : Int) (R : Value → World → Prop) (w : World) : mfunc Try.prog [] 50 [.pointer d1, .int .i64 i2] R w = disk_Disk_has.M d1 i2 R w := by kernel_rfl
theorem disk_Disk_has.ok (d1 : Option Addr) (i2 : Int) {R : Value → World → Prop} {w : World} (h : disk_Disk_has.M d1 i2 R w) : Calls Try.prog 50 #[.pointer d1, .int .i64 i2] w fun e w' => ∃ v, e = .returned v ∧ R v w' :=
  mfunc_ok follows (H := []) (args := [.pointer d1, .int .i64 i2]) (by rw [disk_Disk_has.eq]; exact h)

def disk_Disk_has.N (d1 : Option Addr) (i2 : Int) (R : Value → World → Prop) (w : World) : Prop :=
 Calls Try.prog 46 #[.pointer d1] w fun a5 a4 => ∃ (a3 : Int), a5 = .returned (.int .i64 a3) ∧
 (a3 ≠ 0 →
 R (.int .i64 a3) a4) ∧
 (a3 = 0 →
 (i2 < 0 →
 R (.int .i64 2) a4) ∧
 ((0 : Int) ≤ i2 →
 ∃ a8 : Addr, d1 = some a8 ∧
 ∃ (a2 : Option Addr) (a0 : Nat) (a1 : Nat), a4.cell? (a8.add 0) = some (.slice a2 a0 a1) ∧
 (i2 ≥ (a0 : Int) →
 R (.int .i64 2) a4) ∧
 (i2 < (a0 : Int) →
 R (.int .i64 0) a4)))

theorem disk_Disk_has.up (d1 : Option Addr) (i2 : Int) {R : Value → World → Prop} {w : World} (h : disk_Disk_has.N d1 i2 R w) : disk_Disk_has.M d1 i2 R w := by
  unfold disk_Disk_has.M
  unfold disk_Disk_has.N at h
  refine h.mono fun a9 a7 h => ?_
  obtain ⟨a4, he, h⟩ := h
  refine ⟨a4, he, ?_⟩
  refine bif_of (fun c6 => ?_) (fun c6 => ?_)
  · have h := h.1 (bne_t c6)
    exact h
  · have h := h.2 (bne_f c6)
    refine bif_of (fun c7 => ?_) (fun c7 => ?_)
    · have h := h.1 (of_decide_eq_true c7)
      exact h
    · have h := h.2 (Int.not_lt.1 (of_decide_eq_false c7))
      obtain ⟨a8, a6, h⟩ := h
      refine elim_some a6 ?_
      obtain ⟨a1, a2, a0, a5, h⟩ := h
      refine ⟨a1, a2, a0, a5, ?_⟩
      refine bif_of (fun a3 => ?_) (fun a3 => ?_)
      · have h := h.1 (of_decide_eq_true a3)
        exact h
      · have h := h.2 (Int.not_le.1 (of_decide_eq_false a3))
        exact h

theorem disk_Disk_has.go (d1 : Option Addr) (i2 : Int) {R : Value → World → Prop} {w : World} (h : disk_Disk_has.N d1 i2 R w) : Calls Try.prog 50 #[.pointer d1, .int .i64 i2] w fun e w' => ∃ v, e = .returned v ∧ R v w' := disk_Disk_has.ok d1 i2 (disk_Disk_has.up d1 i2 h)
theorem disk_Disk_has.run (d1 : Option Addr) (i2 : Int) {V : Value} {Q : World → Prop} {w : World} (h : disk_Disk_has.N d1 i2 (fun v w' => v = V ∧ Q w') w) : Calls Try.prog 50 #[.pointer d1, .int .i64 i2] w (Ret V Q) := (disk_Disk_has.go d1 i2 h).mono fun e w' ⟨v, he, hv, hq⟩ => ⟨by rw [he, hv], hq⟩

/-- (*disk.Disk).Read -/
def disk_Disk_Read.M (d1 : Option Addr) (i2 : Int) (R : Value → World → Prop) (w : World) : Prop :=
 Calls Try.prog 50 #[.pointer d1, .int .i64 i2] w fun ar a9 => ∃ (ac : Int), ar = .returned (.int .i64 ac) ∧
 bif ac != 0 then (
 R (.tuple #[.slice none 0 0, .int .i64 ac]) a9) else (
 d1.elim False fun a6 =>
 ∃ (a3 : Option Addr) (a5 : Nat) (ad : Nat), a9.cell? (a6.add 0) = some (.slice a3 a5 ad) ∧
 a3.elim False fun a8 =>
 0 ≤ (i2 : Int) ∧ (i2 : Int) < (a5 : Int) ∧
 ∃ x9 : Array Value, szB Try.prog 80 x9.size = true ∧ cellsAt a9 (a8.add (Int.toNat i2 * 65)) x9.toList 0 ∧
 thenW (a9.alloc (.cells (List.toArray (List.replicate 64 (.int .u8 0) ++ [.bool false])) 80)) fun ai =>
 bif szB Try.prog 80 x9.size then storesK (blk a9.heap.size) x9.toList 0 ai fun ae =>
 d1.elim False fun aq =>
 ∃ (a2 : Option Addr) (a1 : Nat) (a7 : Nat), ae.cell? (aq.add 1) = some (.slice a2 a1 a7) ∧
 ∃ (I0 : Nat → List Value → World → Prop) (ao : Nat), I0 ao [.int .i64 0] ae ∧ ∀ (ak : Nat) (a0 : World) (ab : Int), I0 ak [.int .i64 ab] a0 →
 bif decide (ab < (a1 : Int)) then (
 a2.elim False fun ap =>
 0 ≤ (ab : Int) ∧ (ab : Int) < (a1 : Int) ∧
 ∃ ag : Array Value, szB Try.prog 83 ag.size = true ∧ cellsAt a0 (ap.add (Int.toNat ab * 66)) ag.toList 0 ∧
 thenW (a0.alloc (.cells (List.toArray ([.int .i64 0] ++ List.replicate 64 (.int .u8 0) ++ [.bool false])) 83)) fun aj =>
 bif szB Try.prog 83 ag.size then storesK (blk a0.heap.size) ag.toList 0 aj fun aa =>
 ∃ (an : Int), aa.cell? ((blk a0.heap.size).add 0) = some (.int .i64 an) ∧
 bif an == i2 then (
 ∃ af : Array Value, szB Try.prog 80 af.size = true ∧ cellsAt aa ((blk a0.heap.size).add 1) af.toList 0 ∧
 bif szB Try.prog 80 af.size then storesK (blk a9.heap.size) af.toList 0 aa fun ah =>
 ∃ al, al < ak ∧ I0 al [.int .i64 (IntKind.i64.wrap (ab + 1))] ah
 else False) else (
 ∃ am, am < ak ∧ I0 am [.int .i64 (IntKind.i64.wrap (ab + 1))] aa)
 else False) else (
 ∃ (a4 : Bool), a0.cell? ((blk a9.heap.size).add 64) = some (.bool a4) ∧
 bif a4 then (
 R (.tuple #[.slice none 0 0, .int .i64 5]) a0) else (
 R (.tuple #[.slice (some (if 64 = 0 then ((blk a9.heap.size).add 0) else ((blk a9.heap.size).add 0).add (0 * 1))) (64 - 0) (64 - 0), .int .i64 0]) a0))
 else False)

theorem disk_Disk_Read.eq (d1 : Option Addr) (i2 : Int) (R : Value → World → Prop) (w : World) : mfunc Try.prog [(0, [1, 7, 26, 27], [(28, (.one (.int .i64)))])] 25 [.pointer d1, .int .i64 i2] R w = disk_Disk_Read.M d1 i2 R w := by kernel_rfl
theorem disk_Disk_Read.ok (d1 : Option Addr) (i2 : Int) {R : Value → World → Prop} {w : World} (h : disk_Disk_Read.M d1 i2 R w) : Calls Try.prog 25 #[.pointer d1, .int .i64 i2] w fun e w' => ∃ v, e = .returned v ∧ R v w' :=
  mfunc_ok follows (H := [(0, [1, 7, 26, 27], [(28, (.one (.int .i64)))])]) (args := [.pointer d1, .int .i64 i2]) (by rw [disk_Disk_Read.eq]; exact h)

def disk_Disk_Read.N (d1 : Option Addr) (i2 : Int) (R : Value → World → Prop) (w : World) : Prop :=
 Calls Try.prog 50 #[.pointer d1, .int .i64 i2] w fun av ah => ∃ (aa : Int), av = .returned (.int .i64 aa) ∧
 (aa ≠ 0 →
 R (.tuple #[.slice none 0 0, .int .i64 aa]) ah) ∧
 (aa = 0 →
 ∃ a7 : Addr, d1 = some a7 ∧
 ∃ (a6 : Option Addr) (a5 : Nat) (ae : Nat), ah.cell? (a7.add 0) = some (.slice a6 a5 ae) ∧
 ∃ ar : Addr, a6 = some ar ∧
 0 ≤ (i2 : Int) ∧ (i2 : Int) < (a5 : Int) ∧
 ∃ ak : Array Value, szB Try.prog 80 ak.size = true ∧ cellsAt ah (ar.add (Int.toNat i2 * 65)) ak.toList 0 ∧
 ∀ (ab : World) (ad : Nat), Ext no ah ab → Blk ab ad 80 (List.replicate 64 (.int .u8 0) ++ [.bool false]) → ah.heap.size ≤ ad → ad < ab.heap.size →
 szB Try.prog 80 ak.size = true ∧
 storesK (blk ad) ak.toList 0 ab fun ag =>
 ∃ (a3 : Option Addr) (a0 : Nat) (a8 : Nat), ag.cell? (a7.add 1) = some (.slice a3 a0 a8) ∧
 ∃ (I0 : Nat → List Value → World → Prop) (au : Nat), I0 au [.int .i64 0] ag ∧ ∀ (al : Nat) (a1 : World) (a4 : Int), I0 al [.int .i64 a4] a1 →
 (a4 < (a0 : Int) →
 ∃ ap : Addr, a3 = some ap ∧
 0 ≤ (a4 : Int) ∧ (a4 : Int) < (a0 : Int) ∧
 ∃ aj : Array Value, szB Try.prog 83 aj.size = true ∧ cellsAt a1 (ap.add (Int.toNat a4 * 66)) aj.toList 0 ∧
 ∀ (a9 : World) (af : Nat), Ext no a1 a9 → Blk a9 af 83 ([.int .i64 0] ++ List.replicate 64 (.int .u8 0) ++ [.bool false]) → a1.heap.size ≤ af → af < a9.heap.size →
 szB Try.prog 83 aj.size = true ∧
 storesK (blk af) aj.toList 0 a9 fun ac =>
 ∃ (an : Int), ac.cell? ((blk af).add 0) = some (.int .i64 an) ∧
 (an = i2 →
 ∃ ai : Array Value, szB Try.prog 80 ai.size = true ∧ cellsAt ac ((blk af).add 1) ai.toList 0 ∧
 szB Try.prog 80 ai.size = true ∧
 storesK (blk ad) ai.toList 0 ac fun am =>
 (-9223372036854775808 : Int) ≤ (a4 + 1) ∧ (a4 + 1) < 9223372036854775808 ∧
 ∃ aq, aq < al ∧ I0 aq [.int .i64 (a4 + 1)] am) ∧
 (an ≠ i2 →
 (-9223372036854775808 : Int) ≤ (a4 + 1) ∧ (a4 + 1) < 9223372036854775808 ∧
 ∃ ao, ao < al ∧ I0 ao [.int .i64 (a4 + 1)] ac)) ∧
 ((a0 : Int) ≤ a4 →
 ∃ (a2 : Bool), a1.cell? ((blk ad).add 64) = some (.bool a2) ∧
 (a2 = true →
 R (.tuple #[.slice none 0 0, .int .i64 5]) a1) ∧
 (a2 = false →
 R (.tuple #[.slice (some (if 64 = 0 then ((blk ad).add 0) else ((blk ad).add 0).add (0 * 1))) (64 - 0) (64 - 0), .int .i64 0]) a1)))

theorem disk_Disk_Read.up (d1 : Option Addr) (i2 : Int) {R : Value → World → Prop} {w : World} (h : disk_Disk_Read.N d1 i2 R w) : disk_Disk_Read.M d1 i2 R w := by
  unfold disk_Disk_Read.M
  unfold disk_Disk_Read.N at h
  refine h.mono fun be aj h => ?_
  obtain ⟨al, he, h⟩ := h
  refine ⟨al, he, ?_⟩
  refine bif_of (fun c6 => ?_) (fun c6 => ?_)
  · have h := h.1 (bne_t c6)
    exact h
  · have h := h.2 (bne_f c6)
    obtain ⟨a7, aw, h⟩ := h
    refine elim_some aw ?_
    obtain ⟨a8, a4, a5, b7, h⟩ := h
    refine ⟨a8, a4, a5, b7, ?_⟩
    obtain ⟨bc, am, h⟩ := h
    refine elim_some am ?_
    obtain ⟨ab, ad, h⟩ := h
    refine ⟨ab, ad, ?_⟩
    obtain ⟨b8, hz, au, h⟩ := h
    refine ⟨b8, hz, au, ?_⟩
    refine thenW_in fun an ai => ?_
    have h := h an aj.heap.size ((Ext.refl no aj).x_alloc ai) (Blk.of_new ai) ((Ext.refl no aj)).size (size_lt_alloc ai)
    obtain ⟨hsz, h⟩ := h
    refine bif_tt hsz ?_
    refine storesK_ext h fun az bf h => ?_
    refine elim_some aw ?_
    obtain ⟨a3, a0, a1, ah, h⟩ := h
    refine ⟨a3, a0, a1, ah, ?_⟩
    obtain ⟨I0, b4, h0, h⟩ := h
    refine ⟨I0, b4, h0, fun ax a2 b0 hI => ?_⟩
    have h := h ax a2 b0 hI
    refine bif_of (fun ao => ?_) (fun ao => ?_)
    · have h := h.1 (of_decide_eq_true ao)
      obtain ⟨ba, av, h⟩ := h
      refine elim_some av ?_
      obtain ⟨ab, ad, h⟩ := h
      refine ⟨ab, ad, ?_⟩
      obtain ⟨b3, hz, aq, h⟩ := h
      refine ⟨b3, hz, aq, ?_⟩
      refine thenW_in fun ag ar => ?_
      have h := h ag a2.heap.size ((Ext.refl no a2).x_alloc ar) (Blk.of_new ar) ((Ext.refl no a2)).size (size_lt_alloc ar)
      obtain ⟨hsz, h⟩ := h
      refine bif_tt hsz ?_
      refine storesK_ext h fun b9 bd h => ?_
      obtain ⟨b6, ae, h⟩ := h
      refine ⟨b6, ae, ?_⟩
      refine bif_of (fun ac => ?_) (fun ac => ?_)
      · have h := h.1 (beq_t ac)
        obtain ⟨b2, hz, af, h⟩ := h
        refine ⟨b2, hz, af, ?_⟩
        obtain ⟨hsz, h⟩ := h
        refine bif_tt hsz ?_
        refine storesK_ext h fun ay bb h => ?_
        obtain ⟨ak, ap, h⟩ := h
        try rw [w64 ak ap]
        obtain ⟨b5, hk, h⟩ := h
        exact ⟨b5, hk, h⟩
      · have h := h.2 (beq_f ac)
        obtain ⟨ak, ap, h⟩ := h
        try rw [w64 ak ap]
        obtain ⟨b1, hk, h⟩ := h
        exact ⟨b1, hk, h⟩
    · have h := h.2 (Int.not_lt.1 (of_decide_eq_false ao))
      obtain ⟨a6, a9, h⟩ := h
      refine ⟨a6, a9, ?_⟩
      refine bif_of (fun aa => ?_) (fun aa => ?_)
      · have h := h.1 aa
        exact h
      · have h := h.2 aa
        exact h

theorem disk_Disk_Read.go (d1 : Option Addr) (i2 : Int) {R : Value → World → Prop} {w : World} (h : disk_Disk_Read.N d1 i2 R w) : Calls Try.prog 25 #[.pointer d1, .int .i64 i2] w fun e w' => ∃ v, e = .returned v ∧ R v w' := disk_Disk_Read.ok d1 i2 (disk_Disk_Read.up d1 i2 h)
/-- (*disk.Disk).settle -/
def disk_Disk_settle.M (d1 : Option Addr) (a0 : Nat) (aa : Array Value) (a8 : Array Value) (R : Value → World → Prop) (w : World) : Prop :=
 d1.elim False fun a3 =>
 ∃ (a7 : Option Addr) (a1 : Nat) (ah : Nat), w.cell? (a3.add 1) = some (.slice a7 a1 ah) ∧
 ∃ (I0 : Nat → List Value → World → Prop) (m6 : Nat), I0 m6 [.int .i64 0] w ∧ ∀ (m7 : Nat) (ab : World) (t5 : Int), I0 m7 [.int .i64 t5] ab →
 bif decide (t5 < (a1 : Int)) then (
 a7.elim False fun a9 =>
 0 ≤ (t5 : Int) ∧ (t5 : Int) < (a1 : Int) ∧
 ∃ al : Array Value, szB Try.prog 83 al.size = true ∧ cellsAt ab (a9.add (Int.toNat t5 * 66)) al.toList 0 ∧
 thenW (ab.alloc (.cells (List.toArray ([.int .i64 0] ++ List.replicate 64 (.int .u8 0) ++ [.bool false])) 83)) fun aq =>
 bif szB Try.prog 83 al.size then storesK (blk ab.heap.size) al.toList 0 aq fun aj =>
 bif enters Try.prog a0 then Calls Try.prog a0 (aa.toList ++ ([.int .i64 t5] : List Value) ++ a8.toList).toArray aj (fun av ai => ∃ (ak : Bool), av = .returned (.bool ak) ∧
 bif ak then (
 thenW (ai.drew) fun ac =>
 d1.elim False fun b3 =>
 ∃ (a2 : Option Addr) (a6 : Nat) (af : Nat), ac.cell? (b3.add 0) = some (.slice a2 a6 af) ∧
 ∃ (am : Int), ac.cell? ((blk ab.heap.size).add 0) = some (.int .i64 am) ∧
 ∃ ap : Array Value, szB Try.prog 80 ap.size = true ∧ cellsAt ac ((blk ab.heap.size).add 1) ap.toList 0 ∧
 a2.elim False fun b4 =>
 0 ≤ (am : Int) ∧ (am : Int) < (a6 : Int) ∧
 bif szB Try.prog 80 ap.size then storesK (b4.add (Int.toNat am * 65)) ap.toList 0 ac fun aw =>
 ∃ az, az < m7 ∧ I0 az [.int .i64 (IntKind.i64.wrap (t5 + 1))] aw
 else False) else (
 ∃ ay, ay < m7 ∧ I0 ay [.int .i64 (IntKind.i64.wrap (t5 + 1))] ai)) else (∃ (ak : Bool) (ag : World), (externCall a0 (aa.toList ++ ([.int .i64 t5] : List Value) ++ a8.toList).toArray).run Try.prog aj = .ok (.bool ak) ag ∧
 bif ak then (
 thenW (ag.drew) fun ae =>
 d1.elim False fun b2 =>
 ∃ (a5 : Option Addr) (a4 : Nat) (ad : Nat), ae.cell? (b2.add 0) = some (.slice a5 a4 ad) ∧
 ∃ (an : Int), ae.cell? ((blk ab.heap.size).add 0) = some (.int .i64 an) ∧
 ∃ ao : Array Value, szB Try.prog 80 ao.size = true ∧ cellsAt ae ((blk ab.heap.size).add 1) ao.toList 0 ∧
 a5.elim False fun b5 =>
 0 ≤ (an : Int) ∧ (an : Int) < (a4 : Int) ∧
 bif szB Try.prog 80 ao.size then storesK (b5.add (Int.toNat an * 65)) ao.toList 0 ae fun ar =>
 ∃ b1, b1 < m7 ∧ I0 b1 [.int .i64 (IntKind.i64.wrap (t5 + 1))] ar
 else False) else (
 ∃ ax, ax < m7 ∧ I0 ax [.int .i64 (IntKind.i64.wrap (t5 + 1))] ag))
 else False) else (
 d1.elim False fun b0 =>
 canStore ab ((b0.add 1).add 0) ∧
 thenW (ab.setCell ((b0.add 1).add 0) (.slice none 0 0)) fun au =>
 R (.tuple #[]) au)

theorem disk_Disk_settle.eq (d1 : Option Addr) (keep2k : Nat) (keep2f : Array Value) (keep2g : Array Value) (R : Value → World → Prop) (w : World) : mfunc Try.prog [(0, [0, 1, 9, 10], [(11, (.one (.int .i64)))])] 48 [.pointer d1, .func (.func keep2k) keep2f keep2g] R w = disk_Disk_settle.M d1 keep2k keep2f keep2g R w := by kernel_rfl
theorem disk_Disk_settle.ok (d1 : Option Addr) (a2 : Nat) (a0 : Array Value) (a1 : Array Value) {R : Value → World → Prop} {w : World} (h : disk_Disk_settle.M d1 a2 a0 a1 R w) : Calls Try.prog 48 #[.pointer d1, .func (.func a2) a0 a1] w fun e w' => ∃ v, e = .returned v ∧ R v w' :=
  mfunc_ok follows (H := [(0, [0, 1, 9, 10], [(11, (.one (.int .i64)))])]) (args := [.pointer d1, .func (.func a2) a0 a1]) (by rw [disk_Disk_settle.eq]; exact h)

def disk_Disk_settle.N (d1 : Option Addr) (a5 : Nat) (ab : Array Value) (a9 : Array Value) (R : Value → World → Prop) (w : World) : Prop :=
 ∃ a3 : Addr, d1 = some a3 ∧
 ∃ (a6 : Option Addr) (a0 : Nat) (aa : Nat), w.cell? (a3.add 1) = some (.slice a6 a0 aa) ∧
 ∃ (I0 : Nat → List Value → World → Prop) (m7 : Nat), I0 m7 [.int .i64 0] w ∧ ∀ (m8 : Nat) (ac : World) (t6 : Int), I0 m8 [.int .i64 t6] ac →
 (t6 < (a0 : Int) →
 ∃ ap : Addr, a6 = some ap ∧
 0 ≤ (t6 : Int) ∧ (t6 : Int) < (a0 : Int) ∧
 ∃ ag : Array Value, szB Try.prog 83 ag.size = true ∧ cellsAt ac (ap.add (Int.toNat t6 * 66)) ag.toList 0 ∧
 ∀ (a7 : World) (ad : Nat), Ext no ac a7 → Blk a7 ad 83 ([.int .i64 0] ++ List.replicate 64 (.int .u8 0) ++ [.bool false]) → ac.heap.size ≤ ad → ad < a7.heap.size →
 szB Try.prog 83 ag.size = true ∧
 storesK (blk ad) ag.toList 0 a7 fun al =>
 enters Try.prog a5 = true ∧ Calls Try.prog a5 (ab.toList ++ ([.int .i64 t6] : List Value) ++ a9.toList).toArray al (fun aj a4 => ∃ (ai : Bool), aj = .returned (.bool ai) ∧
 (ai = true →
 ∃ (a1 : Option Addr) (a2 : Nat) (a8 : Nat), a4.cell? (a3.add 0) = some (.slice a1 a2 a8) ∧
 ∃ (af : Int), a4.cell? ((blk ad).add 0) = some (.int .i64 af) ∧
 ∃ ah : Array Value, szB Try.prog 80 ah.size = true ∧ cellsAt a4 ((blk ad).add 1) ah.toList 0 ∧
 ∃ aq : Addr, a1 = some aq ∧
 0 ≤ (af : Int) ∧ (af : Int) < (a2 : Int) ∧
 ∀ (ae : World), Ext no a4 ae →
 szB Try.prog 80 ah.size = true ∧
 storesK (aq.add (Int.toNat af * 65)) ah.toList 0 ae fun am =>
 (-9223372036854775808 : Int) ≤ (t6 + 1) ∧ (t6 + 1) < 9223372036854775808 ∧
 ∃ ao, ao < m8 ∧ I0 ao [.int .i64 (t6 + 1)] am) ∧
 (ai = false →
 (-9223372036854775808 : Int) ≤ (t6 + 1) ∧ (t6 + 1) < 9223372036854775808 ∧
 ∃ an, an < m8 ∧ I0 an [.int .i64 (t6 + 1)] a4))) ∧
 ((a0 : Int) ≤ t6 →
 canStore ac ((a3.add 1).add 0) ∧
 thenW (ac.setCell ((a3.add 1).add 0) (.slice none 0 0)) fun ak =>
 R (.tuple #[]) ak)

theorem disk_Disk_settle.up (d1 : Option Addr) (a0 : Nat) (a2 : Array Value) (a1 : Array Value) {R : Value → World → Prop} {w : World} (h : disk_Disk_settle.N d1 a0 a2 a1 R w) : disk_Disk_settle.M d1 a0 a2 a1 R w := by
  unfold disk_Disk_settle.M
  unfold disk_Disk_settle.N at h
  obtain ⟨a3, ap, h⟩ := h
  refine elim_some ap ?_
  obtain ⟨aa, a8, a9, b2, h⟩ := h
  refine ⟨aa, a8, a9, b2, ?_⟩
  obtain ⟨I0, m7, h0, h⟩ := h
  refine ⟨I0, m7, h0, fun m8 ab t6 hI => ?_⟩
  have h := h m8 ab t6 hI
  refine bif_of (fun al => ?_) (fun al => ?_)
  · have h := h.1 (of_decide_eq_true al)
    obtain ⟨b9, ai, h⟩ := h
    refine elim_some ai ?_
    obtain ⟨ae, ah, h⟩ := h
    refine ⟨ae, ah, ?_⟩
    obtain ⟨b1, hz, an, h⟩ := h
    refine ⟨b1, hz, an, ?_⟩
    refine thenW_in fun ak ac => ?_
    have h := h ak ab.heap.size ((Ext.refl no ab).x_alloc ac) (Blk.of_new ac) ((Ext.refl no ab)).size (size_lt_alloc ac)
    obtain ⟨hsz, h⟩ := h
    refine bif_tt hsz ?_
    refine storesK_ext h fun b5 b8 h => ?_
    obtain ⟨hen, h⟩ := h
    refine bif_tt hen ?_
    refine h.mono fun aw af h => ?_
    obtain ⟨av, he, h⟩ := h
    refine ⟨av, he, ?_⟩
    refine bif_of (fun ad => ?_) (fun ad => ?_)
    · have h := h.1 ad
      refine thenW_in fun aq b0 => ?_
      have a4 := (Ext.refl no af).x_drew b0
      refine elim_some ap ?_
      obtain ⟨a5, a7, a6, am, h⟩ := h
      refine ⟨a5, a7, a6, (a4).cell am id, ?_⟩
      obtain ⟨ay, au, h⟩ := h
      refine ⟨ay, (a4).cell au id, ?_⟩
      obtain ⟨b7, hz, aj, h⟩ := h
      refine ⟨b7, hz, cellsAt_no (a4) aj, ?_⟩
      obtain ⟨bb, ag, h⟩ := h
      refine elim_some ag ?_
      obtain ⟨ae, ah, h⟩ := h
      refine ⟨ae, ah, ?_⟩
      have h := h aq a4
      obtain ⟨hsz, h⟩ := h
      refine bif_tt hsz ?_
      refine storesK_ext h fun b6 ba h => ?_
      obtain ⟨ao, ar, h⟩ := h
      try rw [w64 ao ar]
      obtain ⟨b4, hk, h⟩ := h
      exact ⟨b4, hk, h⟩
    · have h := h.2 ad
      obtain ⟨ao, ar, h⟩ := h
      try rw [w64 ao ar]
      obtain ⟨b3, hk, h⟩ := h
      exact ⟨b3, hk, h⟩
  · have h := h.2 (Int.not_lt.1 (of_decide_eq_false al))
    refine elim_some ap ?_
    obtain ⟨hcs, h⟩ := h
    refine ⟨hcs, thenW_in fun ax az => ?_⟩
    replace h := thenW_out h az
    exact h

theorem disk_Disk_settle.go (d1 : Option Addr) (a2 : Nat) (a0 : Array Value) (a1 : Array Value) {R : Value → World → Prop} {w : World} (h : disk_Disk_settle.N d1 a2 a0 a1 R w) : Calls Try.prog 48 #[.pointer d1, .func (.func a2) a0 a1] w fun e w' => ∃ v, e = .returned v ∧ R v w' := disk_Disk_settle.ok d1 a2 a0 a1 (disk_Disk_settle.up d1 a2 a0 a1 h)
theorem disk_Disk_settle.run (d1 : Option Addr) (a2 : Nat) (a0 : Array Value) (a1 : Array Value) {V : Value} {Q : World → Prop} {w : World} (h : disk_Disk_settle.N d1 a2 a0 a1 (fun v w' => v = V ∧ Q w') w) : Calls Try.prog 48 #[.pointer d1, .func (.func a2) a0 a1] w (Ret V Q) := (disk_Disk_settle.go d1 a2 a0 a1 h).mono fun e w' ⟨v, he, hv, hq⟩ => ⟨by rw [he, hv], hq⟩

/-- (*disk.Disk).Write -/
def disk_Disk_Write.M (d1 : Option Addr) (i2 : Int) (d5 : Option Addr) (cw : Nat) (da : Nat) (R : Value → World → Prop) (w : World) : Prop :=
 Calls Try.prog 50 #[.pointer d1, .int .i64 i2] w fun d7 a0 => ∃ (ai : Int), d7 = .returned (.int .i64 ai) ∧
 bif ai != 0 then (
 R (.int .i64 ai) a0) else (
 bif (cw : Int) != 64 then (
 R (.int .i64 1) a0) else (
 thenW (a0.alloc (.cells (List.toArray ([.int .i64 0] ++ List.replicate 64 (.int .u8 0) ++ [.bool false])) 83)) fun d2 =>
 canStore d2 ((blk a0.heap.size).add 0) ∧
 thenW (d2.setCell ((blk a0.heap.size).add 0) (.int .i64 i2)) fun cx =>
 canStore cx ((blk a0.heap.size).add 1) ∧
 thenW (cx.setCell ((blk a0.heap.size).add 1) (.int .u8 0)) fun cy =>
 canStore cy ((blk a0.heap.size).add 2) ∧
 thenW (cy.setCell ((blk a0.heap.size).add 2) (.int .u8 0)) fun an =>
 canStore an ((blk a0.heap.size).add 3) ∧
 thenW (an.setCell ((blk a0.heap.size).add 3) (.int .u8 0)) fun br =>
 canStore br ((blk a0.heap.size).add 4) ∧
 thenW (br.setCell ((blk a0.heap.size).add 4) (.int .u8 0)) fun bx =>
 canStore bx ((blk a0.heap.size).add 5) ∧
 thenW (bx.setCell ((blk a0.heap.size).add 5) (.int .u8 0)) fun ck =>
 canStore ck ((blk a0.heap.size).add 6) ∧
 thenW (ck.setCell ((blk a0.heap.size).add 6) (.int .u8 0)) fun bg =>
 canStore bg ((blk a0.heap.size).add 7) ∧
 thenW (bg.setCell ((blk a0.heap.size).add 7) (.int .u8 0)) fun bs =>
 canStore bs ((blk a0.heap.size).add 8) ∧
 thenW (bs.setCell ((blk a0.heap.size).add 8) (.int .u8 0)) fun b0 =>
 canStore b0 ((blk a0.heap.size).add 9) ∧
 thenW (b0.setCell ((blk a0.heap.size).add 9) (.int .u8 0)) fun bd =>
 canStore bd ((blk a0.heap.size).add 10) ∧
 thenW (bd.setCell ((blk a0.heap.size).add 10) (.int .u8 0)) fun b3 =>
 canStore b3 ((blk a0.heap.size).add 11) ∧
 thenW (b3.setCell ((blk a0.heap.size).add 11) (.int .u8 0)) fun ca =>
 canStore ca ((blk a0.heap.size).add 12) ∧
 thenW (ca.setCell ((blk a0.heap.size).add 12) (.int .u8 0)) fun be =>
 canStore be ((blk a0.heap.size).add 13) ∧
 thenW (be.setCell ((blk a0.heap.size).add 13) (.int .u8 0)) fun bk =>
 canStore bk ((blk a0.heap.size).add 14) ∧
 thenW (bk.setCell ((blk a0.heap.size).add 14) (.int .u8 0)) fun au =>
 canStore au ((blk a0.heap.size).add 15) ∧
 thenW (au.setCell ((blk a0.heap.size).add 15) (.int .u8 0)) fun b5 =>
 canStore b5 ((blk a0.heap.size).add 16) ∧
 thenW (b5.setCell ((blk a0.heap.size).add 16) (.int .u8 0)) fun am =>
 canStore am ((blk a0.heap.size).add 17) ∧
 thenW (am.setCell ((blk a0.heap.size).add 17) (.int .u8 0)) fun aq =>
 canStore aq ((blk a0.heap.size).add 18) ∧
 thenW (aq.setCell ((blk a0.heap.size).add 18) (.int .u8 0)) fun cf =>
 canStore cf ((blk a0.heap.size).add 19) ∧
 thenW (cf.setCell ((blk a0.heap.size).add 19) (.int .u8 0)) fun c4 =>
 canStore c4 ((blk a0.heap.size).add 20) ∧
 thenW (c4.setCell ((blk a0.heap.size).add 20) (.int .u8 0)) fun b7 =>
 canStore b7 ((blk a0.heap.size).add 21) ∧
 thenW (b7.setCell ((blk a0.heap.size).add 21) (.int .u8 0)) fun c5 =>
 canStore c5 ((blk a0.heap.size).add 22) ∧
 thenW (c5.setCell ((blk a0.heap.size).add 22) (.int .u8 0)) fun b9 =>
 canStore b9 ((blk a0.heap.size).add 23) ∧
 thenW (b9.setCell ((blk a0.heap.size).add 23) (.int .u8 0)) fun b6 =>
 canStore b6 ((blk a0.heap.size).add 24) ∧
 thenW (b6.setCell ((blk a0.heap.size).add 24) (.int .u8 0)) fun bc =>
 canStore bc ((blk a0.heap.size).add 25) ∧
 thenW (bc.setCell ((blk a0.heap.size).add 25) (.int .u8 0)) fun bo =>
 canStore bo ((blk a0.heap.size).add 26) ∧
 thenW (bo.setCell ((blk a0.heap.size).add 26) (.int .u8 0)) fun al =>
 canStore al ((blk a0.heap.size).add 27) ∧
 thenW (al.setCell ((blk a0.heap.size).add 27) (.int .u8 0)) fun bl =>
 canStore bl ((blk a0.heap.size).add 28) ∧
 thenW (bl.setCell ((blk a0.heap.size).add 28) (.int .u8 0)) fun c2 =>
 canStore c2 ((blk a0.heap.size).add 29) ∧
 thenW (c2.setCell ((blk a0.heap.size).add 29) (.int .u8 0)) fun c8 =>
 canStore c8 ((blk a0.heap.size).add 30) ∧
 thenW (c8.setCell ((blk a0.heap.size).add 30) (.int .u8 0)) fun ax =>
 canStore ax ((blk a0.heap.size).add 31) ∧
 thenW (ax.setCell ((blk a0.heap.size).add 31) (.int .u8 0)) fun c9 =>
 canStore c9 ((blk a0.heap.size).add 32) ∧
 thenW (c9.setCell ((blk a0.heap.size).add 32) (.int .u8 0)) fun c6 =>
 canStore c6 ((blk a0.heap.size).add 33) ∧
 thenW (c6.setCell ((blk a0.heap.size).add 33) (.int .u8 0)) fun bz =>
 canStore bz ((blk a0.heap.size).add 34) ∧
 thenW (bz.setCell ((blk a0.heap.size).add 34) (.int .u8 0)) fun az =>
 canStore az ((blk a0.heap.size).add 35) ∧
 thenW (az.setCell ((blk a0.heap.size).add 35) (.int .u8 0)) fun cm =>
 canStore cm ((blk a0.heap.size).add 36) ∧
 thenW (cm.setCell ((blk a0.heap.size).add 36) (.int .u8 0)) fun bq =>
 canStore bq ((blk a0.heap.size).add 37) ∧
 thenW (bq.setCell ((blk a0.heap.size).add 37) (.int .u8 0)) fun b2 =>
 canStore b2 ((blk a0.heap.size).add 38) ∧
 thenW (b2.setCell ((blk a0.heap.size).add 38) (.int .u8 0)) fun bh =>
 canStore bh ((blk a0.heap.size).add 39) ∧
 thenW (bh.setCell ((blk a0.heap.size).add 39) (.int .u8 0)) fun ar =>
 canStore ar ((blk a0.heap.size).add 40) ∧
 thenW (ar.setCell ((blk a0.heap.size).add 40) (.int .u8 0)) fun cp =>
 canStore cp ((blk a0.heap.size).add 41) ∧
 thenW (cp.setCell ((blk a0.heap.size).add 41) (.int .u8 0)) fun aw =>
 canStore aw ((blk a0.heap.size).add 42) ∧
 thenW (aw.setCell ((blk a0.heap.size).add 42) (.int .u8 0)) fun ba =>
 canStore ba ((blk a0.heap.size).add 43) ∧
 thenW (ba.setCell ((blk a0.heap.size).add 43) (.int .u8 0)) fun cb =>
 canStore cb ((blk a0.heap.size).add 44) ∧
 thenW (cb.setCell ((blk a0.heap.size).add 44) (.int .u8 0)) fun co =>
 canStore co ((blk a0.heap.size).add 45) ∧
 thenW (co.setCell ((blk a0.heap.size).add 45) (.int .u8 0)) fun ch =>
 canStore ch ((blk a0.heap.size).add 46) ∧
 thenW (ch.setCell ((blk a0.heap.size).add 46) (.int .u8 0)) fun bt =>
 canStore bt ((blk a0.heap.size).add 47) ∧
 thenW (bt.setCell ((blk a0.heap.size).add 47) (.int .u8 0)) fun bi =>
 canStore bi ((blk a0.heap.size).add 48) ∧
 thenW (bi.setCell ((blk a0.heap.size).add 48) (.int .u8 0)) fun cn =>
 canStore cn ((blk a0.heap.size).add 49) ∧
 thenW (cn.setCell ((blk a0.heap.size).add 49) (.int .u8 0)) fun b4 =>
 canStore b4 ((blk a0.heap.size).add 50) ∧
 thenW (b4.setCell ((blk a0.heap.size).add 50) (.int .u8 0)) fun bv =>
 canStore bv ((blk a0.heap.size).add 51) ∧
 thenW (bv.setCell ((blk a0.heap.size).add 51) (.int .u8 0)) fun cc =>
 canStore cc ((blk a0.heap.size).add 52) ∧
 thenW (cc.setCell ((blk a0.heap.size).add 52) (.int .u8 0)) fun bf =>
 canStore bf ((blk a0.heap.size).add 53) ∧
 thenW (bf.setCell ((blk a0.heap.size).add 53) (.int .u8 0)) fun bm =>
 canStore bm ((blk a0.heap.size).add 54) ∧
 thenW (bm.setCell ((blk a0.heap.size).add 54) (.int .u8 0)) fun b8 =>
 canStore b8 ((blk a0.heap.size).add 55) ∧
 thenW (b8.setCell ((blk a0.heap.size).add 55) (.int .u8 0)) fun bn =>
 canStore bn ((blk a0.heap.size).add 56) ∧
 thenW (bn.setCell ((blk a0.heap.size).add 56) (.int .u8 0)) fun ci =>
 canStore ci ((blk a0.heap.size).add 57) ∧
 thenW (ci.setCell ((blk a0.heap.size).add 57) (.int .u8 0)) fun ap =>
 canStore ap ((blk a0.heap.size).add 58) ∧
 thenW (ap.setCell ((blk a0.heap.size).add 58) (.int .u8 0)) fun c7 =>
 canStore c7 ((blk a0.heap.size).add 59) ∧
 thenW (c7.setCell ((blk a0.heap.size).add 59) (.int .u8 0)) fun ao =>
 canStore ao ((blk a0.heap.size).add 60) ∧
 thenW (ao.setCell ((blk a0.heap.size).add 60) (.int .u8 0)) fun bw =>
 canStore bw ((blk a0.heap.size).add 61) ∧
 thenW (bw.setCell ((blk a0.heap.size).add 61) (.int .u8 0)) fun av =>
 canStore av ((blk a0.heap.size).add 62) ∧
 thenW (av.setCell ((blk a0.heap.size).add 62) (.int .u8 0)) fun c0 =>
 canStore c0 ((blk a0.heap.size).add 63) ∧
 thenW (c0.setCell ((blk a0.heap.size).add 63) (.int .u8 0)) fun bp =>
 canStore bp ((blk a0.heap.size).add 64) ∧
 thenW (bp.setCell ((blk a0.heap.size).add 64) (.int .u8 0)) fun ce =>
 canStore ce ((blk a0.heap.size).add 65) ∧
 thenW (ce.setCell ((blk a0.heap.size).add 65) (.bool false)) fun cs =>
 ∃ (d9 : Int) (c3 : World), (Builtin.copy_ #[30, 30] 3 #[.slice (some (if 64 = 0 then (((blk a0.heap.size).add 1).add 0) else (((blk a0.heap.size).add 1).add 0).add (0 * 1))) (64 - 0) (64 - 0), .slice d5 cw da]).run Try.prog cs = .ok (.int .i64 d9) c3 ∧
 thenW (c3.drew) fun ak =>
 d1.elim False fun d3 =>
 ∃ (a3 : Option Addr) (a4 : Nat) (a5 : Nat), ak.cell? (d3.add 1) = some (.slice a3 a4 a5) ∧
 ∃ cu : Array Value, szB Try.prog 83 cu.size = true ∧ cellsAt ak (blk a0.heap.size) cu.toList 0 ∧
 mslit Try.prog 54 1 [(0, Value.agg cu)] ak fun (cl : Value) (cj : World) =>
 cj.cell? (d3.add 1) = some (.slice a3 a4 a5) ∧
 ∃ (ay : Option Addr) (bj : Nat) (bu : Nat) (aj : World), (Builtin.append_ #[54, 54] 54 #[.slice a3 a4 a5, cl]).run Try.prog cj = .ok (.slice ay bj bu) aj ∧
 d1.elim False fun d4 =>
 canStore aj ((d4.add 1).add 0) ∧
 thenW (aj.setCell ((d4.add 1).add 0) (.slice ay bj bu)) fun a2 =>
 d1.elim False fun d6 =>
 ∃ (a8 : Bool), a2.cell? (d6.add 3) = some (.bool a8) ∧
 bif a8 then (
 d1.elim False fun d8 =>
 ∃ (ac : Int), a2.cell? (d8.add 2) = some (.int .i64 ac) ∧
 bif ac == 0 then (
 d1.elim False fun d0 =>
 canStore a2 ((d0.add 4).add 0) ∧
 thenW (a2.setCell ((d0.add 4).add 0) (.int .i64 1)) fun cr =>
 thenW (cr.drew) fun ag =>
 d1.elim False fun db =>
 ∃ (a9 : Option Addr) (ab : Nat) (ah : Nat), ag.cell? (db.add 1) = some (.slice a9 ab ah) ∧
 d1.elim False fun dd =>
 ∃ (ae : Option Addr) (a1 : Nat) (af : Nat), ag.cell? (dd.add 1) = some (.slice ae a1 af) ∧
 a9.elim False fun cz =>
 0 ≤ ((IntKind.i64.wrap ((a1 : Int) - 1)) : Int) ∧ ((IntKind.i64.wrap ((a1 : Int) - 1)) : Int) < (ab : Int) ∧
 canStore ag ((((cz.add (Int.toNat (IntKind.i64.wrap ((a1 : Int) - 1)) * 66)).add 1).add 64).add 0) ∧
 thenW (ag.setCell ((((cz.add (Int.toNat (IntKind.i64.wrap ((a1 : Int) - 1)) * 66)).add 1).add 64).add 0) (.bool true)) fun cv =>
 R (.int .i64 19) cv) else (
 d1.elim False fun dc =>
 ∃ (aa : Int), a2.cell? (dc.add 2) = some (.int .i64 aa) ∧
 d1.elim False fun b1 =>
 canStore a2 ((b1.add 2).add 0) ∧
 thenW (a2.setCell ((b1.add 2).add 0) (.int .i64 (IntKind.i64.wrap (aa - 1)))) fun ad =>
 d1.elim False fun ct =>
 ∃ (a6 : Int), ad.cell? (ct.add 5) = some (.int .i64 a6) ∧
 d1.elim False fun c1 =>
 canStore ad ((c1.add 5).add 0) ∧
 thenW (ad.setCell ((c1.add 5).add 0) (.int .i64 (IntKind.i64.wrap (a6 + 1)))) fun cg =>
 R (.int .i64 0) cg)) else (
 d1.elim False fun cq =>
 ∃ (a7 : Int), a2.cell? (cq.add 5) = some (.int .i64 a7) ∧
 d1.elim False fun bb =>
 canStore a2 ((bb.add 5).add 0) ∧
 thenW (a2.setCell ((bb.add 5).add 0) (.int .i64 (IntKind.i64.wrap (a7 + 1)))) fun cd =>
 R (.int .i64 0) cd)))

theorem disk_Disk_Write.eq (d1 : Option Addr) (i2 : Int) (b3a : Option Addr) (b3n : Nat) (b3c : Nat) (R : Value → World → Prop) (w : World) : mfunc Try.prog [] 34 [.pointer d1, .int .i64 i2, .slice b3a b3n b3c] R w = disk_Disk_Write.M d1 i2 b3a b3n b3c R w := by kernel_rfl
theorem disk_Disk_Write.ok (d1 : Option Addr) (i2 : Int) (a2 : Option Addr) (a0 : Nat) (a1 : Nat) {R : Value → World → Prop} {w : World} (h : disk_Disk_Write.M d1 i2 a2 a0 a1 R w) : Calls Try.prog 34 #[.pointer d1, .int .i64 i2, .slice a2 a0 a1] w fun e w' => ∃ v, e = .returned v ∧ R v w' :=
  mfunc_ok follows (H := []) (args := [.pointer d1, .int .i64 i2, .slice a2 a0 a1]) (by rw [disk_Disk_Write.eq]; exact h)

def disk_Disk_Write.N (d1 : Option Addr) (i2 : Int) (b4 : Option Addr) (b1 : Nat) (b5 : Nat) (R : Value → World → Prop) (w : World) : Prop :=
 Calls Try.prog 50 #[.pointer d1, .int .i64 i2] w fun b6 b0 => ∃ (aj : Int), b6 = .returned (.int .i64 aj) ∧
 (aj ≠ 0 →
 R (.int .i64 aj) b0) ∧
 (aj = 0 →
 ((b1 : Int) ≠ 64 →
 R (.int .i64 1) b0) ∧
 ((b1 : Int) = 64 →
 ∀ (az : World) (ao : Nat), Ext no b0 az → Blk az ao 83 ([.int .i64 0] ++ List.replicate 64 (.int .u8 0) ++ [.bool false]) → b0.heap.size ≤ ao → ao < az.heap.size →
 putsK az (blk ao) ([.int .i64 i2] ++ List.replicate 64 (.int .u8 0) ++ [.bool false]) 0 fun b2 =>
 ∃ (b3 : Int) (ah : World), (Builtin.copy_ #[30, 30] 3 #[.slice (some (if 64 = 0 then (((blk ao).add 1).add 0) else (((blk ao).add 1).add 0).add (0 * 1))) (64 - 0) (64 - 0), .slice b4 b1 b5]).run Try.prog b2 = .ok (.int .i64 b3) ah ∧
 ∃ a5 : Addr, d1 = some a5 ∧
 ∃ (a6 : Option Addr) (a8 : Nat) (a7 : Nat), ah.cell? (a5.add 1) = some (.slice a6 a8 a7) ∧
 ∃ ay : Array Value, szB Try.prog 83 ay.size = true ∧ cellsAt ah (blk ao) ay.toList 0 ∧
 szB Try.prog 83 ay.size = true ∧
 ∀ (ae : World) (ax : Nat), Ext no ah ae → Blk ae ax 83 ay.toList → ah.heap.size ≤ ax → ax < ae.heap.size →
 ae.cell? (a5.add 1) = some (.slice a6 a8 a7) ∧
 ∃ (au : Option Addr) (aw : Nat) (aq : Nat) (ak : World), (Builtin.append_ #[54, 54] 54 #[.slice a6 a8 a7, .slice (some (blk ax)) 1 1]).run Try.prog ae = .ok (.slice au aw aq) ak ∧
 canStore ak ((a5.add 1).add 0) ∧
 thenW (ak.setCell ((a5.add 1).add 0) (.slice au aw aq)) fun a4 =>
 ∃ (a9 : Bool), a4.cell? (a5.add 3) = some (.bool a9) ∧
 (a9 = true →
 ∃ (ac : Int), a4.cell? (a5.add 2) = some (.int .i64 ac) ∧
 (ac = 0 →
 canStore a4 ((a5.add 4).add 0) ∧
 thenW (a4.setCell ((a5.add 4).add 0) (.int .i64 1)) fun al =>
 ∃ (aa : Option Addr) (ab : Nat) (ag : Nat), al.cell? (a5.add 1) = some (.slice aa ab ag) ∧
 ∃ (ai : Option Addr) (a0 : Nat) (af : Nat), al.cell? (a5.add 1) = some (.slice ai a0 af) ∧
 (-9223372036854775808 : Int) ≤ ((a0 : Int) - 1) ∧ ((a0 : Int) - 1) < 9223372036854775808 ∧
 ∃ an : Addr, aa = some an ∧
 0 ≤ (((a0 : Int) - 1) : Int) ∧ (((a0 : Int) - 1) : Int) < (ab : Int) ∧
 ∀ (am : World), Ext no al am →
 canStore am ((((an.add (Int.toNat ((a0 : Int) - 1) * 66)).add 1).add 64).add 0) ∧
 thenW (am.setCell ((((an.add (Int.toNat ((a0 : Int) - 1) * 66)).add 1).add 64).add 0) (.bool true)) fun ap =>
 R (.int .i64 19) ap) ∧
 (ac ≠ 0 →
 ∃ (a3 : Int), a4.cell? (a5.add 2) = some (.int .i64 a3) ∧
 (-9223372036854775808 : Int) ≤ (a3 - 1) ∧ (a3 - 1) < 9223372036854775808 ∧
 canStore a4 ((a5.add 2).add 0) ∧
 thenW (a4.setCell ((a5.add 2).add 0) (.int .i64 (a3 - 1))) fun ad =>
 ∃ (a1 : Int), ad.cell? (a5.add 5) = some (.int .i64 a1) ∧
 (-9223372036854775808 : Int) ≤ (a1 + 1) ∧ (a1 + 1) < 9223372036854775808 ∧
 canStore ad ((a5.add 5).add 0) ∧
 thenW (ad.setCell ((a5.add 5).add 0) (.int .i64 (a1 + 1))) fun ar =>
 R (.int .i64 0) ar)) ∧
 (a9 = false →
 ∃ (a2 : Int), a4.cell? (a5.add 5) = some (.int .i64 a2) ∧
 (-9223372036854775808 : Int) ≤ (a2 + 1) ∧ (a2 + 1) < 9223372036854775808 ∧
 canStore a4 ((a5.add 5).add 0) ∧
 thenW (a4.setCell ((a5.add 5).add 0) (.int .i64 (a2 + 1))) fun av =>
 R (.int .i64 0) av)))

theorem disk_Disk_Write.up (d1 : Option Addr) (i2 : Int) (be : Option Addr) (bg : Nat) (bi : Nat) {R : Value → World → Prop} {w : World} (h : disk_Disk_Write.N d1 i2 be bg bi R w) : disk_Disk_Write.M d1 i2 be bg bi R w := by
  unfold disk_Disk_Write.M
  unfold disk_Disk_Write.N at h
  refine h.mono fun fr bd h => ?_
  obtain ⟨ar, he, h⟩ := h
  refine ⟨ar, he, ?_⟩
  refine bif_of (fun c7 => ?_) (fun c7 => ?_)
  · have h := h.1 (bne_t c7)
    exact h
  · have h := h.2 (bne_f c7)
    refine bif_of (fun c8 => ?_) (fun c8 => ?_)
    · have h := h.1 (bne_t c8)
      exact h
    · have h := h.2 (bne_f c8)
      refine thenW_in fun d0 e9 => ?_
      have h := h d0 bd.heap.size ((Ext.refl no bd).x_alloc e9) (Blk.of_new e9) ((Ext.refl no bd)).size (size_lt_alloc e9)
      try rw [show (([.int .i64 i2] ++ List.replicate 64 (.int .u8 0) ++ [.bool false])) = [.int .i64 i2, .int .u8 0, .int .u8 0, .int .u8 0, .int .u8 0, .int .u8 0, .int .u8 0, .int .u8 0, .int .u8 0, .int .u8 0, .int .u8 0, .int .u8 0, .int .u8 0, .int .u8 0, .int .u8 0, .int .u8 0, .int .u8 0, .int .u8 0, .int .u8 0, .int .u8 0, .int .u8 0, .int .u8 0, .int .u8 0, .int .u8 0, .int .u8 0, .int .u8 0, .int .u8 0, .int .u8 0, .int .u8 0, .int .u8 0, .int .u8 0, .int .u8 0, .int .u8 0, .int .u8 0, .int .u8 0, .int .u8 0, .int .u8 0, .int .u8 0, .int .u8 0, .int .u8 0, .int .u8 0, .int .u8 0, .int .u8 0, .int .u8 0, .int .u8 0, .int .u8 0, .int .u8 0, .int .u8 0, .int .u8 0, .int .u8 0, .int .u8 0, .int .u8 0, .int .u8 0, .int .u8 0, .int .u8 0, .int .u8 0, .int .u8 0, .int .u8 0, .int .u8 0, .int .u8 0, .int .u8 0, .int .u8 0, .int .u8 0, .int .u8 0, .int .u8 0, .bool false] from rfl] at h
      obtain ⟨hcs, h⟩ := h
      refine ⟨hcs, thenW_in fun dp f1 => ?_⟩
      replace h := thenW_out h f1
      obtain ⟨hcs, h⟩ := h
      refine ⟨hcs, thenW_in fun e3 d5 => ?_⟩
      replace h := thenW_out h d5
      obtain ⟨hcs, h⟩ := h
      refine ⟨hcs, thenW_in fun fh e5 => ?_⟩
      replace h := thenW_out h e5
      obtain ⟨hcs, h⟩ := h
      refine ⟨hcs, thenW_in fun d6 cq => ?_⟩
      replace h := thenW_out h cq
      obtain ⟨hcs, h⟩ := h
      refine ⟨hcs, thenW_in fun ds dw => ?_⟩
      replace h := thenW_out h dw
      obtain ⟨hcs, h⟩ := h
      refine ⟨hcs, thenW_in fun c6 eb => ?_⟩
      replace h := thenW_out h eb
      obtain ⟨hcs, h⟩ := h
      refine ⟨hcs, thenW_in fun cv bq => ?_⟩
      replace h := thenW_out h bq
      obtain ⟨hcs, h⟩ := h
      refine ⟨hcs, thenW_in fun ca f9 => ?_⟩
      replace h := thenW_out h f9
      obtain ⟨hcs, h⟩ := h
      refine ⟨hcs, thenW_in fun ex d4 => ?_⟩
      replace h := thenW_out h d4
      obtain ⟨hcs, h⟩ := h
      refine ⟨hcs, thenW_in fun cx bz => ?_⟩
      replace h := thenW_out h bz
      obtain ⟨hcs, h⟩ := h
      refine ⟨hcs, thenW_in fun dc f5 => ?_⟩
      replace h := thenW_out h f5
      obtain ⟨hcs, h⟩ := h
      refine ⟨hcs, thenW_in fun bw bn => ?_⟩
      replace h := thenW_out h bn
      obtain ⟨hcs, h⟩ := h
      refine ⟨hcs, thenW_in fun cj f2 => ?_⟩
      replace h := thenW_out h f2
      obtain ⟨hcs, h⟩ := h
      refine ⟨hcs, thenW_in fun bm f0 => ?_⟩
      replace h := thenW_out h f0
      obtain ⟨hcs, h⟩ := h
      refine ⟨hcs, thenW_in fun bs fi => ?_⟩
      replace h := thenW_out h fi
      obtain ⟨hcs, h⟩ := h
      refine ⟨hcs, thenW_in fun f7 eh => ?_⟩
      replace h := thenW_out h eh
      obtain ⟨hcs, h⟩ := h
      refine ⟨hcs, thenW_in fun em eq => ?_⟩
      replace h := thenW_out h eq
      obtain ⟨hcs, h⟩ := h
      refine ⟨hcs, thenW_in fun cn fj => ?_⟩
      replace h := thenW_out h fj
      obtain ⟨hcs, h⟩ := h
      refine ⟨hcs, thenW_in fun en cl => ?_⟩
      replace h := thenW_out h cl
      obtain ⟨hcs, h⟩ := h
      refine ⟨hcs, thenW_in fun co ch => ?_⟩
      replace h := thenW_out h ch
      obtain ⟨hcs, h⟩ := h
      refine ⟨hcs, thenW_in fun ck db => ?_⟩
      replace h := thenW_out h db
      obtain ⟨hcs, h⟩ := h
      refine ⟨hcs, thenW_in fun cu bo => ?_⟩
      replace h := thenW_out h bo
      obtain ⟨hcs, h⟩ := h
      refine ⟨hcs, thenW_in fun dj c3 => ?_⟩
      replace h := thenW_out h c3
      obtain ⟨hcs, h⟩ := h
      refine ⟨hcs, thenW_in fun bl e6 => ?_⟩
      replace h := thenW_out h e6
      obtain ⟨hcs, h⟩ := h
      refine ⟨hcs, thenW_in fun dd c0 => ?_⟩
      replace h := thenW_out h c0
      obtain ⟨hcs, h⟩ := h
      refine ⟨hcs, thenW_in fun ee el => ?_⟩
      replace h := thenW_out h el
      obtain ⟨hcs, h⟩ := h
      refine ⟨hcs, thenW_in fun ev dk => ?_⟩
      replace h := thenW_out h dk
      obtain ⟨hcs, h⟩ := h
      refine ⟨hcs, thenW_in fun c4 ce => ?_⟩
      replace h := thenW_out h ce
      obtain ⟨hcs, h⟩ := h
      refine ⟨hcs, thenW_in fun ew cg => ?_⟩
      replace h := thenW_out h cg
      obtain ⟨hcs, h⟩ := h
      refine ⟨hcs, thenW_in fun es d9 => ?_⟩
      replace h := thenW_out h d9
      obtain ⟨hcs, h⟩ := h
      refine ⟨hcs, thenW_in fun e4 ff => ?_⟩
      replace h := thenW_out h ff
      obtain ⟨hcs, h⟩ := h
      refine ⟨hcs, thenW_in fun c5 fp => ?_⟩
      replace h := thenW_out h fp
      obtain ⟨hcs, h⟩ := h
      refine ⟨hcs, thenW_in fun fl c2 => ?_⟩
      replace h := thenW_out h c2
      obtain ⟨hcs, h⟩ := h
      refine ⟨hcs, thenW_in fun dm fk => ?_⟩
      replace h := thenW_out h fk
      obtain ⟨hcs, h⟩ := h
      refine ⟨hcs, thenW_in fun c9 cm => ?_⟩
      replace h := thenW_out h cm
      obtain ⟨hcs, h⟩ := h
      refine ⟨hcs, thenW_in fun d7 dr => ?_⟩
      replace h := thenW_out h dr
      obtain ⟨hcs, h⟩ := h
      refine ⟨hcs, thenW_in fun bv fd => ?_⟩
      replace h := thenW_out h fd
      obtain ⟨hcs, h⟩ := h
      refine ⟨hcs, thenW_in fun fq dh => ?_⟩
      replace h := thenW_out h dh
      obtain ⟨hcs, h⟩ := h
      refine ⟨hcs, thenW_in fun c1 cf => ?_⟩
      replace h := thenW_out h cf
      obtain ⟨hcs, h⟩ := h
      refine ⟨hcs, thenW_in fun cr da => ?_⟩
      replace h := thenW_out h da
      obtain ⟨hcs, h⟩ := h
      refine ⟨hcs, thenW_in fun ey fg => ?_⟩
      replace h := thenW_out h fg
      obtain ⟨hcs, h⟩ := h
      refine ⟨hcs, thenW_in fun fo ct => ?_⟩
      replace h := thenW_out h ct
      obtain ⟨hcs, h⟩ := h
      refine ⟨hcs, thenW_in fun fa ea => ?_⟩
      replace h := thenW_out h ea
      obtain ⟨hcs, h⟩ := h
      refine ⟨hcs, thenW_in fun du cb => ?_⟩
      replace h := thenW_out h cb
      obtain ⟨hcs, h⟩ := h
      refine ⟨hcs, thenW_in fun d8 d2 => ?_⟩
      replace h := thenW_out h d2
      obtain ⟨hcs, h⟩ := h
      refine ⟨hcs, thenW_in fun fm d3 => ?_⟩
      replace h := thenW_out h d3
      obtain ⟨hcs, h⟩ := h
      refine ⟨hcs, thenW_in fun cc di => ?_⟩
      replace h := thenW_out h di
      obtain ⟨hcs, h⟩ := h
      refine ⟨hcs, thenW_in fun e1 eg => ?_⟩
      replace h := thenW_out h eg
      obtain ⟨hcs, h⟩ := h
      refine ⟨hcs, thenW_in fun f3 bu => ?_⟩
      replace h := thenW_out h bu
      obtain ⟨hcs, h⟩ := h
      refine ⟨hcs, thenW_in fun cy cs => ?_⟩
      replace h := thenW_out h cs
      obtain ⟨hcs, h⟩ := h
      refine ⟨hcs, thenW_in fun de fc => ?_⟩
      replace h := thenW_out h fc
      obtain ⟨hcs, h⟩ := h
      refine ⟨hcs, thenW_in fun cp dv => ?_⟩
      replace h := thenW_out h dv
      obtain ⟨hcs, h⟩ := h
      refine ⟨hcs, thenW_in fun df f8 => ?_⟩
      replace h := thenW_out h f8
      obtain ⟨hcs, h⟩ := h
      refine ⟨hcs, thenW_in fun fb e0 => ?_⟩
      replace h := thenW_out h e0
      obtain ⟨hcs, h⟩ := h
      refine ⟨hcs, thenW_in fun br eo => ?_⟩
      replace h := thenW_out h eo
      obtain ⟨hcs, h⟩ := h
      refine ⟨hcs, thenW_in fun et cz => ?_⟩
      replace h := thenW_out h cz
      obtain ⟨hcs, h⟩ := h
      refine ⟨hcs, thenW_in fun bp ep => ?_⟩
      replace h := thenW_out h ep
      obtain ⟨hcs, h⟩ := h
      refine ⟨hcs, thenW_in fun e2 bt => ?_⟩
      replace h := thenW_out h bt
      obtain ⟨hcs, h⟩ := h
      refine ⟨hcs, thenW_in fun bx dg => ?_⟩
      replace h := thenW_out h dg
      obtain ⟨hcs, h⟩ := h
      refine ⟨hcs, thenW_in fun e8 e7 => ?_⟩
      replace h := thenW_out h e7
      obtain ⟨hcs, h⟩ := h
      refine ⟨hcs, thenW_in fun dn cd => ?_⟩
      replace h := thenW_out h cd
      obtain ⟨hcs, h⟩ := h
      refine ⟨hcs, thenW_in fun f6 ei => ?_⟩
      replace h := thenW_out h ei
      obtain ⟨hcs, h⟩ := h
      refine ⟨hcs, thenW_in fun ej dx => ?_⟩
      replace h := thenW_out h dx
      obtain ⟨hcs, h⟩ := h
      refine ⟨hcs, thenW_in fun dt ed => ?_⟩
      replace h := thenW_out h ed
      obtain ⟨hcs, h⟩ := h
      refine ⟨hcs, thenW_in fun ef dl => ?_⟩
      replace h := thenW_out h dl
      obtain ⟨hcs, h⟩ := h
      refine ⟨hcs, thenW_in fun er dz => ?_⟩
      replace h := thenW_out h dz
      obtain ⟨eu, ak, hr, h⟩ := h
      refine ⟨eu, ak, hr, ?_⟩
      refine thenW_in fun b2 ec => ?_
      have aa := (Ext.refl no ak).x_drew ec
      obtain ⟨fs, a0, h⟩ := h
      refine elim_some a0 ?_
      obtain ⟨ab, ae, ad, b3, h⟩ := h
      refine ⟨ab, ae, ad, (aa).cell b3 id, ?_⟩
      obtain ⟨dy, hz, b5, h⟩ := h
      refine ⟨dy, hz, cellsAt_no (aa) b5, ?_⟩
      obtain ⟨hzl, h⟩ := h
      refine mslit_big Try.underlying54 (by kernel_rfl) hzl ?_
      refine thenW_in fun b9 az => ?_
      have h := h b9 b2.heap.size (aa.x_alloc az) (Blk.of_new az) (aa).size (size_lt_alloc az)
      obtain ⟨b6, h⟩ := h
      refine ⟨b6, ?_⟩
      obtain ⟨ax, aw, au, ap, hr, h⟩ := h
      refine ⟨ax, aw, au, ap, hr, ?_⟩
      refine elim_some a0 ?_
      obtain ⟨hcs, h⟩ := h
      refine ⟨hcs, thenW_in fun ci fe => ?_⟩
      replace h := thenW_out h fe
      refine elim_some a0 ?_
      obtain ⟨a9, bc, h⟩ := h
      refine ⟨a9, bc, ?_⟩
      refine bif_of (fun bb => ?_) (fun bb => ?_)
      · have h := h.1 bb
        refine elim_some a0 ?_
        obtain ⟨ag, b1, h⟩ := h
        refine ⟨ag, b1, ?_⟩
        refine bif_of (fun b4 => ?_) (fun b4 => ?_)
        · have h := h.1 (beq_t b4)
          refine elim_some a0 ?_
          obtain ⟨hcs, h⟩ := h
          refine ⟨hcs, thenW_in fun av cw => ?_⟩
          replace h := thenW_out h cw
          refine thenW_in fun ba ez => ?_
          have af := (Ext.refl no av).x_drew ez
          refine elim_some a0 ?_
          obtain ⟨a2, a6, a4, aq, h⟩ := h
          refine ⟨a2, a6, a4, (af).cell aq id, ?_⟩
          refine elim_some a0 ?_
          obtain ⟨a8, a7, a3, aj, h⟩ := h
          refine ⟨a8, a7, a3, (af).cell aj id, ?_⟩
          obtain ⟨ah, ai, h⟩ := h
          try rw [w64 ah ai]
          obtain ⟨ek, ao, h⟩ := h
          refine elim_some ao ?_
          obtain ⟨dq, f4, h⟩ := h
          refine ⟨dq, f4, ?_⟩
          have h := h ba af
          obtain ⟨hcs, h⟩ := h
          refine ⟨hcs, thenW_in fun bh b8 => ?_⟩
          replace h := thenW_out h b8
          exact h
        · have h := h.2 (beq_f b4)
          refine elim_some a0 ?_
          obtain ⟨ac, al, h⟩ := h
          refine ⟨ac, al, ?_⟩
          obtain ⟨ah, ai, h⟩ := h
          try rw [w64 ah ai]
          refine elim_some a0 ?_
          obtain ⟨hcs, h⟩ := h
          refine ⟨hcs, thenW_in fun bj b7 => ?_⟩
          replace h := thenW_out h b7
          refine elim_some a0 ?_
          obtain ⟨a1, am, h⟩ := h
          refine ⟨a1, am, ?_⟩
          obtain ⟨ah, ai, h⟩ := h
          try rw [w64 ah ai]
          refine elim_some a0 ?_
          obtain ⟨hcs, h⟩ := h
          refine ⟨hcs, thenW_in fun bk ay => ?_⟩
          replace h := thenW_out h ay
          exact h
      · have h := h.2 bb
        refine elim_some a0 ?_
        obtain ⟨a5, an, h⟩ := h
        refine ⟨a5, an, ?_⟩
        obtain ⟨ah, ai, h⟩ := h
        try rw [w64 ah ai]
        refine elim_some a0 ?_
        obtain ⟨hcs, h⟩ := h
        refine ⟨hcs, thenW_in fun bf b0 => ?_⟩
        replace h := thenW_out h b0
        exact h

theorem disk_Disk_Write.go (d1 : Option Addr) (i2 : Int) (a2 : Option Addr) (a0 : Nat) (a1 : Nat) {R : Value → World → Prop} {w : World} (h : disk_Disk_Write.N d1 i2 a2 a0 a1 R w) : Calls Try.prog 34 #[.pointer d1, .int .i64 i2, .slice a2 a0 a1] w fun e w' => ∃ v, e = .returned v ∧ R v w' := disk_Disk_Write.ok d1 i2 a2 a0 a1 (disk_Disk_Write.up d1 i2 a2 a0 a1 h)
theorem disk_Disk_Write.run (d1 : Option Addr) (i2 : Int) (a2 : Option Addr) (a0 : Nat) (a1 : Nat) {V : Value} {Q : World → Prop} {w : World} (h : disk_Disk_Write.N d1 i2 a2 a0 a1 (fun v w' => v = V ∧ Q w') w) : Calls Try.prog 34 #[.pointer d1, .int .i64 i2, .slice a2 a0 a1] w (Ret V Q) := (disk_Disk_Write.go d1 i2 a2 a0 a1 h).mono fun e w' ⟨v, he, hv, hq⟩ => ⟨by rw [he, hv], hq⟩

end Go.Proofs.Ytidijnfkcpbkiaa

/- Disk: predicates, the others. -/
set_option linter.unusedVariables false
set_option linter.unusedSimpArgs false
set_option maxRecDepth 20000
set_option maxHeartbeats 2000000
namespace Go.Proofs.Ytidijnfkcpbkiaa
open Go Go.Mx Go.Proofs
/-- (*disk.Disk).Sync -/
def disk_Disk_Sync.M (d1 : Option Addr) (R : Value → World → Prop) (w : World) : Prop :=
 Calls Try.prog 46 #[.pointer d1] w fun a2 a1 => ∃ (a0 : Int), a2 = .returned (.int .i64 a0) ∧
 bif a0 != 0 then (
 R (.int .i64 a0) a1) else (
 Calls Try.prog 48 #[.pointer d1, .func (.func 54) #[] #[]] a1 fun a3 a4 => a3 = .returned (.tuple #[]) ∧
 R (.int .i64 0) a4)

theorem disk_Disk_Sync.eq (d1 : Option Addr) (R : Value → World → Prop) (w : World) : mfunc Try.prog [] 37 [.pointer d1] R w = disk_Disk_Sync.M d1 R w := by kernel_rfl
theorem disk_Disk_Sync.ok (d1 : Option Addr) {R : Value → World → Prop} {w : World} (h : disk_Disk_Sync.M d1 R w) : Calls Try.prog 37 #[.pointer d1] w fun e w' => ∃ v, e = .returned v ∧ R v w' :=
  mfunc_ok follows (H := []) (args := [.pointer d1]) (by rw [disk_Disk_Sync.eq]; exact h)

def disk_Disk_Sync.N (d1 : Option Addr) (R : Value → World → Prop) (w : World) : Prop :=
 Calls Try.prog 46 #[.pointer d1] w fun a3 a1 => ∃ (a0 : Int), a3 = .returned (.int .i64 a0) ∧
 (a0 ≠ 0 →
 R (.int .i64 a0) a1) ∧
 (a0 = 0 →
 Calls Try.prog 48 #[.pointer d1, .func (.func 54) #[] #[]] a1 fun a2 a4 => a2 = .returned (.tuple #[]) ∧
 R (.int .i64 0) a4)

theorem disk_Disk_Sync.up (d1 : Option Addr) {R : Value → World → Prop} {w : World} (h : disk_Disk_Sync.N d1 R w) : disk_Disk_Sync.M d1 R w := by
  unfold disk_Disk_Sync.M
  unfold disk_Disk_Sync.N at h
  refine h.mono fun a2 a3 h => ?_
  obtain ⟨a0, he, h⟩ := h
  refine ⟨a0, he, ?_⟩
  refine bif_of (fun c5 => ?_) (fun c5 => ?_)
  · have h := h.1 (bne_t c5)
    exact h
  · have h := h.2 (bne_f c5)
    refine h.mono fun a1 a4 h => ?_
    obtain ⟨he, h⟩ := h
    refine ⟨he, ?_⟩
    exact h

theorem disk_Disk_Sync.go (d1 : Option Addr) {R : Value → World → Prop} {w : World} (h : disk_Disk_Sync.N d1 R w) : Calls Try.prog 37 #[.pointer d1] w fun e w' => ∃ v, e = .returned v ∧ R v w' := disk_Disk_Sync.ok d1 (disk_Disk_Sync.up d1 h)
theorem disk_Disk_Sync.run (d1 : Option Addr) {V : Value} {Q : World → Prop} {w : World} (h : disk_Disk_Sync.N d1 (fun v w' => v = V ∧ Q w') w) : Calls Try.prog 37 #[.pointer d1] w (Ret V Q) := (disk_Disk_Sync.go d1 h).mono fun e w' ⟨v, he, hv, hq⟩ => ⟨by rw [he, hv], hq⟩

/-- (*disk.Disk).Sync$1 -/
def disk_Disk_Sync_1.M (p1 : Int) (R : Value → World → Prop) (w : World) : Prop :=
 R (.bool true) w

theorem disk_Disk_Sync_1.eq (p1 : Int) (R : Value → World → Prop) (w : World) : mfunc Try.prog [] 54 [.int .i64 p1] R w = disk_Disk_Sync_1.M p1 R w := by kernel_rfl
theorem disk_Disk_Sync_1.ok (p1 : Int) {R : Value → World → Prop} {w : World} (h : disk_Disk_Sync_1.M p1 R w) : Calls Try.prog 54 #[.int .i64 p1] w fun e w' => ∃ v, e = .returned v ∧ R v w' :=
  mfunc_ok follows (H := []) (args := [.int .i64 p1]) (by rw [disk_Disk_Sync_1.eq]; exact h)

def disk_Disk_Sync_1.N (p1 : Int) (R : Value → World → Prop) (w : World) : Prop :=
 R (.bool true) w

theorem disk_Disk_Sync_1.up (p1 : Int) {R : Value → World → Prop} {w : World} (h : disk_Disk_Sync_1.N p1 R w) : disk_Disk_Sync_1.M p1 R w := by
  unfold disk_Disk_Sync_1.M
  unfold disk_Disk_Sync_1.N at h
  exact h

theorem disk_Disk_Sync_1.go (p1 : Int) {R : Value → World → Prop} {w : World} (h : disk_Disk_Sync_1.N p1 R w) : Calls Try.prog 54 #[.int .i64 p1] w fun e w' => ∃ v, e = .returned v ∧ R v w' := disk_Disk_Sync_1.ok p1 (disk_Disk_Sync_1.up p1 h)
theorem disk_Disk_Sync_1.run (p1 : Int) {V : Value} {Q : World → Prop} {w : World} (h : disk_Disk_Sync_1.N p1 (fun v w' => v = V ∧ Q w') w) : Calls Try.prog 54 #[.int .i64 p1] w (Ret V Q) := (disk_Disk_Sync_1.go p1 h).mono fun e w' ⟨v, he, hv, hq⟩ => ⟨by rw [he, hv], hq⟩

/-- (*disk.Disk).Arm -/
def disk_Disk_Arm.M (d1 : Option Addr) (n2 : Int) (R : Value → World → Prop) (w : World) : Prop :=
 Calls Try.prog 46 #[.pointer d1] w fun a4 a1 => ∃ (a0 : Int), a4 = .returned (.int .i64 a0) ∧
 bif a0 != 0 then (
 R (.int .i64 a0) a1) else (
 bif decide (n2 < 0) then (
 R (.int .i64 1) a1) else (
 d1.elim False fun a6 =>
 canStore a1 ((a6.add 2).add 0) ∧
 thenW (a1.setCell ((a6.add 2).add 0) (.int .i64 n2)) fun a2 =>
 d1.elim False fun a8 =>
 canStore a2 ((a8.add 3).add 0) ∧
 thenW (a2.setCell ((a8.add 3).add 0) (.bool true)) fun a3 =>
 R (.int .i64 0) a3))

theorem disk_Disk_Arm.eq (d1 : Option Addr) (n2 : Int) (R : Value → World → Prop) (w : World) : mfunc Try.prog [] 19 [.pointer d1, .int .i64 n2] R w = disk_Disk_Arm.M d1 n2 R w := by kernel_rfl
theorem disk_Disk_Arm.ok (d1 : Option Addr) (n2 : Int) {R : Value → World → Prop} {w : World} (h : disk_Disk_Arm.M d1 n2 R w) : Calls Try.prog 19 #[.pointer d1, .int .i64 n2] w fun e w' => ∃ v, e = .returned v ∧ R v w' :=
  mfunc_ok follows (H := []) (args := [.pointer d1, .int .i64 n2]) (by rw [disk_Disk_Arm.eq]; exact h)

def disk_Disk_Arm.N (d1 : Option Addr) (n2 : Int) (R : Value → World → Prop) (w : World) : Prop :=
 Calls Try.prog 46 #[.pointer d1] w fun a4 a1 => ∃ (a0 : Int), a4 = .returned (.int .i64 a0) ∧
 (a0 ≠ 0 →
 R (.int .i64 a0) a1) ∧
 (a0 = 0 →
 (n2 < 0 →
 R (.int .i64 1) a1) ∧
 ((0 : Int) ≤ n2 →
 ∃ a8 : Addr, d1 = some a8 ∧
 canStore a1 ((a8.add 2).add 0) ∧
 thenW (a1.setCell ((a8.add 2).add 0) (.int .i64 n2)) fun a3 =>
 canStore a3 ((a8.add 3).add 0) ∧
 thenW (a3.setCell ((a8.add 3).add 0) (.bool true)) fun a2 =>
 R (.int .i64 0) a2))

theorem disk_Disk_Arm.up (d1 : Option Addr) (n2 : Int) {R : Value → World → Prop} {w : World} (h : disk_Disk_Arm.N d1 n2 R w) : disk_Disk_Arm.M d1 n2 R w := by
  unfold disk_Disk_Arm.M
  unfold disk_Disk_Arm.N at h
  refine h.mono fun a6 a4 h => ?_
  obtain ⟨a0, he, h⟩ := h
  refine ⟨a0, he, ?_⟩
  refine bif_of (fun c6 => ?_) (fun c6 => ?_)
  · have h := h.1 (bne_t c6)
    exact h
  · have h := h.2 (bne_f c6)
    refine bif_of (fun c7 => ?_) (fun c7 => ?_)
    · have h := h.1 (of_decide_eq_true c7)
      exact h
    · have h := h.2 (Int.not_lt.1 (of_decide_eq_false c7))
      obtain ⟨a8, a1, h⟩ := h
      refine elim_some a1 ?_
      obtain ⟨hcs, h⟩ := h
      refine ⟨hcs, thenW_in fun a5 e9 => ?_⟩
      replace h := thenW_out h e9
      refine elim_some a1 ?_
      obtain ⟨hcs, h⟩ := h
      refine ⟨hcs, thenW_in fun a2 a3 => ?_⟩
      replace h := thenW_out h a3
      exact h

theorem disk_Disk_Arm.go (d1 : Option Addr) (n2 : Int) {R : Value → World → Prop} {w : World} (h : disk_Disk_Arm.N d1 n2 R w) : Calls Try.prog 19 #[.pointer d1, .int .i64 n2] w fun e w' => ∃ v, e = .returned v ∧ R v w' := disk_Disk_Arm.ok d1 n2 (disk_Disk_Arm.up d1 n2 h)
theorem disk_Disk_Arm.run (d1 : Option Addr) (n2 : Int) {V : Value} {Q : World → Prop} {w : World} (h : disk_Disk_Arm.N d1 n2 (fun v w' => v = V ∧ Q w') w) : Calls Try.prog 19 #[.pointer d1, .int .i64 n2] w (Ret V Q) := (disk_Disk_Arm.go d1 n2 h).mono fun e w' ⟨v, he, hv, hq⟩ => ⟨by rw [he, hv], hq⟩

/-- (*disk.Disk).Restart -/
def disk_Disk_Restart.M (d1 : Option Addr) (a2 : Option Addr) (a0 : Nat) (a1 : Nat) (R : Value → World → Prop) (w : World) : Prop :=
 bif Option.isNone d1 then (
 R (.int .i64 23) w) else (
 Calls Try.prog 48 #[.pointer d1, .func (.func 47) #[.slice a2 a0 a1] #[]] w fun a8 a3 => a8 = .returned (.tuple #[]) ∧
 d1.elim False fun a5 =>
 canStore a3 ((a5.add 4).add 0) ∧
 thenW (a3.setCell ((a5.add 4).add 0) (.int .i64 0)) fun a4 =>
 d1.elim False fun a7 =>
 canStore a4 ((a7.add 3).add 0) ∧
 thenW (a4.setCell ((a7.add 3).add 0) (.bool false)) fun a6 =>
 R (.int .i64 0) a6)

theorem disk_Disk_Restart.eq (d1 : Option Addr) (keep2a : Option Addr) (keep2n : Nat) (keep2c : Nat) (R : Value → World → Prop) (w : World) : mfunc Try.prog [] 20 [.pointer d1, .slice keep2a keep2n keep2c] R w = disk_Disk_Restart.M d1 keep2a keep2n keep2c R w := by kernel_rfl
theorem disk_Disk_Restart.ok (d1 : Option Addr) (a2 : Option Addr) (a0 : Nat) (a1 : Nat) {R : Value → World → Prop} {w : World} (h : disk_Disk_Restart.M d1 a2 a0 a1 R w) : Calls Try.prog 20 #[.pointer d1, .slice a2 a0 a1] w fun e w' => ∃ v, e = .returned v ∧ R v w' :=
  mfunc_ok follows (H := []) (args := [.pointer d1, .slice a2 a0 a1]) (by rw [disk_Disk_Restart.eq]; exact h)

def disk_Disk_Restart.N (d1 : Option Addr) (a2 : Option Addr) (a0 : Nat) (a1 : Nat) (R : Value → World → Prop) (w : World) : Prop :=
 (d1 = none →
 R (.int .i64 23) w) ∧
 (d1 ≠ none →
 Calls Try.prog 48 #[.pointer d1, .func (.func 47) #[.slice a2 a0 a1] #[]] w fun a7 a3 => a7 = .returned (.tuple #[]) ∧
 ∃ a6 : Addr, d1 = some a6 ∧
 canStore a3 ((a6.add 4).add 0) ∧
 thenW (a3.setCell ((a6.add 4).add 0) (.int .i64 0)) fun a4 =>
 canStore a4 ((a6.add 3).add 0) ∧
 thenW (a4.setCell ((a6.add 3).add 0) (.bool false)) fun a5 =>
 R (.int .i64 0) a5)

theorem disk_Disk_Restart.up (d1 : Option Addr) (a2 : Option Addr) (a0 : Nat) (a1 : Nat) {R : Value → World → Prop} {w : World} (h : disk_Disk_Restart.N d1 a2 a0 a1 R w) : disk_Disk_Restart.M d1 a2 a0 a1 R w := by
  unfold disk_Disk_Restart.M
  unfold disk_Disk_Restart.N at h
  refine bif_of (fun c3 => ?_) (fun c3 => ?_)
  · have h := h.1 (isNone_t c3)
    exact h
  · have h := h.2 (isNone_f c3)
    refine h.mono fun a7 a5 h => ?_
    obtain ⟨he, h⟩ := h
    refine ⟨he, ?_⟩
    obtain ⟨a6, a3, h⟩ := h
    refine elim_some a3 ?_
    obtain ⟨hcs, h⟩ := h
    refine ⟨hcs, thenW_in fun a8 e7 => ?_⟩
    replace h := thenW_out h e7
    refine elim_some a3 ?_
    obtain ⟨hcs, h⟩ := h
    refine ⟨hcs, thenW_in fun a4 e8 => ?_⟩
    replace h := thenW_out h e8
    exact h

theorem disk_Disk_Restart.go (d1 : Option Addr) (a2 : Option Addr) (a0 : Nat) (a1 : Nat) {R : Value → World → Prop} {w : World} (h : disk_Disk_Restart.N d1 a2 a0 a1 R w) : Calls Try.prog 20 #[.pointer d1, .slice a2 a0 a1] w fun e w' => ∃ v, e = .returned v ∧ R v w' := disk_Disk_Restart.ok d1 a2 a0 a1 (disk_Disk_Restart.up d1 a2 a0 a1 h)
theorem disk_Disk_Restart.run (d1 : Option Addr) (a2 : Option Addr) (a0 : Nat) (a1 : Nat) {V : Value} {Q : World → Prop} {w : World} (h : disk_Disk_Restart.N d1 a2 a0 a1 (fun v w' => v = V ∧ Q w') w) : Calls Try.prog 20 #[.pointer d1, .slice a2 a0 a1] w (Ret V Q) := (disk_Disk_Restart.go d1 a2 a0 a1 h).mono fun e w' ⟨v, he, hv, hq⟩ => ⟨by rw [he, hv], hq⟩

/-- (*disk.Disk).Down -/
def disk_Disk_Down.M (d1 : Option Addr) (R : Value → World → Prop) (w : World) : Prop :=
 bif !(Option.isNone d1) then (
 d1.elim False fun a2 =>
 ∃ (a0 : Int), w.cell? (a2.add 4) = some (.int .i64 a0) ∧
 R (.bool (a0 == 1)) w) else (
 R (.bool false) w)

theorem disk_Disk_Down.eq (d1 : Option Addr) (R : Value → World → Prop) (w : World) : mfunc Try.prog [] 23 [.pointer d1] R w = disk_Disk_Down.M d1 R w := by kernel_rfl
theorem disk_Disk_Down.ok (d1 : Option Addr) {R : Value → World → Prop} {w : World} (h : disk_Disk_Down.M d1 R w) : Calls Try.prog 23 #[.pointer d1] w fun e w' => ∃ v, e = .returned v ∧ R v w' :=
  mfunc_ok follows (H := []) (args := [.pointer d1]) (by rw [disk_Disk_Down.eq]; exact h)

def disk_Disk_Down.N (d1 : Option Addr) (R : Value → World → Prop) (w : World) : Prop :=
 (d1 ≠ none →
 ∃ a3 : Addr, d1 = some a3 ∧
 ∃ (a0 : Int), w.cell? (a3.add 4) = some (.int .i64 a0) ∧
 R (.bool (a0 == 1)) w) ∧
 (d1 = none →
 R (.bool false) w)

theorem disk_Disk_Down.up (d1 : Option Addr) {R : Value → World → Prop} {w : World} (h : disk_Disk_Down.N d1 R w) : disk_Disk_Down.M d1 R w := by
  unfold disk_Disk_Down.M
  unfold disk_Disk_Down.N at h
  refine bif_of (fun c2 => ?_) (fun c2 => ?_)
  · have h := h.1 (isNone_f (not_t c2))
    obtain ⟨a3, a2, h⟩ := h
    refine elim_some a2 ?_
    obtain ⟨a0, a1, h⟩ := h
    refine ⟨a0, a1, ?_⟩
    exact h
  · have h := h.2 (isNone_t (not_f c2))
    exact h

theorem disk_Disk_Down.go (d1 : Option Addr) {R : Value → World → Prop} {w : World} (h : disk_Disk_Down.N d1 R w) : Calls Try.prog 23 #[.pointer d1] w fun e w' => ∃ v, e = .returned v ∧ R v w' := disk_Disk_Down.ok d1 (disk_Disk_Down.up d1 h)
theorem disk_Disk_Down.run (d1 : Option Addr) {V : Value} {Q : World → Prop} {w : World} (h : disk_Disk_Down.N d1 (fun v w' => v = V ∧ Q w') w) : Calls Try.prog 23 #[.pointer d1] w (Ret V Q) := (disk_Disk_Down.go d1 h).mono fun e w' ⟨v, he, hv, hq⟩ => ⟨by rw [he, hv], hq⟩

/-- (disk.choice).has -/
def disk_choice_has.M (a1 : Option Addr) (a0 : Nat) (a2 : Nat) (i2 : Int) (R : Value → World → Prop) (w : World) : Prop :=
 bif decide (i2 < (a0 : Int)) then (
 a1.elim False fun a3 =>
 0 ≤ (i2 : Int) ∧ (i2 : Int) < (a0 : Int) ∧
 ∃ (x4 : Bool), w.cell? (a3.add (Int.toNat i2 * 1)) = some (.bool x4) ∧
 R (.bool x4) w) else (
 R (.bool false) w)

theorem disk_choice_has.eq (c1a : Option Addr) (c1n : Nat) (c1c : Nat) (i2 : Int) (R : Value → World → Prop) (w : World) : mfunc Try.prog [] 47 [.slice c1a c1n c1c, .int .i64 i2] R w = disk_choice_has.M c1a c1n c1c i2 R w := by kernel_rfl
theorem disk_choice_has.ok (a1 : Option Addr) (a2 : Nat) (a0 : Nat) (i2 : Int) {R : Value → World → Prop} {w : World} (h : disk_choice_has.M a1 a2 a0 i2 R w) : Calls Try.prog 47 #[.slice a1 a2 a0, .int .i64 i2] w fun e w' => ∃ v, e = .returned v ∧ R v w' :=
  mfunc_ok follows (H := []) (args := [.slice a1 a2 a0, .int .i64 i2]) (by rw [disk_choice_has.eq]; exact h)

def disk_choice_has.N (a1 : Option Addr) (a0 : Nat) (a2 : Nat) (i2 : Int) (R : Value → World → Prop) (w : World) : Prop :=
 (i2 < (a0 : Int) →
 ∃ a4 : Addr, a1 = some a4 ∧
 0 ≤ (i2 : Int) ∧ (i2 : Int) < (a0 : Int) ∧
 ∃ (x6 : Bool), w.cell? (a4.add (Int.toNat i2 * 1)) = some (.bool x6) ∧
 R (.bool x6) w) ∧
 ((a0 : Int) ≤ i2 →
 R (.bool false) w)

theorem disk_choice_has.up (a0 : Option Addr) (a1 : Nat) (a2 : Nat) (i2 : Int) {R : Value → World → Prop} {w : World} (h : disk_choice_has.N a0 a1 a2 i2 R w) : disk_choice_has.M a0 a1 a2 i2 R w := by
  unfold disk_choice_has.M
  unfold disk_choice_has.N at h
  refine bif_of (fun c3 => ?_) (fun c3 => ?_)
  · have h := h.1 (of_decide_eq_true c3)
    obtain ⟨a4, a6, h⟩ := h
    refine elim_some a6 ?_
    obtain ⟨a3, a7, h⟩ := h
    refine ⟨a3, a7, ?_⟩
    obtain ⟨x6, a5, h⟩ := h
    refine ⟨x6, a5, ?_⟩
    exact h
  · have h := h.2 (Int.not_lt.1 (of_decide_eq_false c3))
    exact h

theorem disk_choice_has.go (a1 : Option Addr) (a2 : Nat) (a0 : Nat) (i2 : Int) {R : Value → World → Prop} {w : World} (h : disk_choice_has.N a1 a2 a0 i2 R w) : Calls Try.prog 47 #[.slice a1 a2 a0, .int .i64 i2] w fun e w' => ∃ v, e = .returned v ∧ R v w' := disk_choice_has.ok a1 a2 a0 i2 (disk_choice_has.up a1 a2 a0 i2 h)
theorem disk_choice_has.run (a1 : Option Addr) (a2 : Nat) (a0 : Nat) (i2 : Int) {V : Value} {Q : World → Prop} {w : World} (h : disk_choice_has.N a1 a2 a0 i2 (fun v w' => v = V ∧ Q w') w) : Calls Try.prog 47 #[.slice a1 a2 a0, .int .i64 i2] w (Ret V Q) := (disk_choice_has.go a1 a2 a0 i2 h).mono fun e w' ⟨v, he, hv, hq⟩ => ⟨by rw [he, hv], hq⟩

end Go.Proofs.Ytidijnfkcpbkiaa

/- Disk: sectors and writes as lists; a disk in memory; what the small functions answer. -/
set_option linter.unusedVariables false
set_option linter.unusedSimpArgs false
set_option maxRecDepth 20000
set_option maxHeartbeats 4000000
namespace Go.Proofs.Ytidijnfkcpbkiaa
open Go Go.Mx Go.Proofs
open W (OwnB)
theorem inf80 : (Try.prog.info? 80).map (fun i => (i.zero, i.size, i.bytes)) = some (some (.agg (List.toArray (List.replicate 64 (.int .u8 0) ++ [.bool false]))), 65, 65) := by kernel_rfl
theorem inf83 : (Try.prog.info? 83).map (fun i => (i.zero, i.size, i.bytes)) = some (some (.agg (List.toArray ([.int .i64 0] ++ List.replicate 64 (.int .u8 0) ++ [.bool false]))), 66, 80) := by kernel_rfl
/-- a sector. -/
structure Sec where
  b : List UInt8
  torn : Bool
  h : b.length = 64
def Sec.C (s : Sec) : List Value := bytesV s.b ++ [.bool s.torn]
theorem bytesV_length (b : List UInt8) : (bytesV b).length = b.length := by unfold bytesV; simp
theorem Sec.len (s : Sec) : s.C.length = 65 := by unfold Sec.C; rw [List.length_append, bytesV_length, s.h]; rfl
def Sec.z : Sec := ⟨List.replicate 64 0, false, by simp⟩
/-- a write that is pending. -/
structure Wt where
  i : Int
  s : Sec
def Wt.C (x : Wt) : List Value := .int .i64 x.i :: x.s.C
theorem Wt.len (x : Wt) : x.C.length = 66 := by unfold Wt.C; rw [List.length_cons, x.s.len]
theorem bytesV_one {b : List UInt8} : ∀ u ∈ bytesV b, u.oneCell' = true := fun u hu => by
  unfold bytesV at hu
  obtain ⟨x, _, rfl⟩ := List.mem_map.1 hu
  rfl
theorem Sec.one (s : Sec) : ∀ u ∈ s.C, u.oneCell' = true := fun u hu => by
  rcases List.mem_append.1 hu with h | h
  · exact bytesV_one u h
  · simp at h; subst h; rfl
theorem Wt.one (x : Wt) : ∀ u ∈ x.C, u.oneCell' = true := fun u hu => by
  rcases List.mem_cons.1 hu with rfl | h
  · rfl
  · exact x.s.one u h
theorem sz65 : szB Try.prog 80 65 = true := by kernel_rfl
theorem sz66 : szB Try.prog 83 66 = true := by kernel_rfl
/-- a disk. -/
structure DS where
  good : List Sec
  pend : List Wt
  left : Int
  armed : Bool
  down : Bool
  count : Int
def stI (b : Bool) : Int := if b then 1 else 0
def DS.V (d : DS) (ga : Option Addr) (gc : Nat) (pa : Option Addr) (pc : Nat) : List Value := [.slice ga d.good.length gc, .slice pa d.pend.length pc, .int .i64 d.left, .bool d.armed, .int .i64 (stI d.down), .int .i64 d.count]
abbrev SRw (w : World) (o : Own) (g : Nat) (a : Option Addr) (c : Nat) (l : List Sec) : Prop := Grows 80 65 w o g a l.length c (l.flatMap Sec.C)
abbrev WRw (w : World) (o : Own) (g : Nat) (a : Option Addr) (c : Nat) (l : List Wt) : Prop := Grows 83 66 w o g a l.length c (l.flatMap Wt.C)
/-- a disk in memory, with all that is its own. -/
structure DG (w : World) (o : Own) (g : Nat) (d : DS) : Prop where
  mem : ∃ ga gc pa pc, Blk w g 57 (d.V ga gc pa pc) ∧ SRw w o g ga gc d.good ∧ WRw w o g pa pc d.pend
  tg : o g = some g
structure DS.ok (d : DS) (m : Nat) : Prop where
  n1 : 1 ≤ d.good.length
  n2 : d.good.length ≤ 400
  at_ : ∀ x ∈ d.pend, 0 ≤ x.i ∧ x.i < d.good.length
  pl : d.pend.length ≤ m
  cl : 0 ≤ d.count ∧ d.count ≤ m
  left : 0 ≤ d.left ∧ d.left < 9223372036854775808
def isD (d : DS) : Int := if d.down then 19 else 0
def hasD (d : DS) (i : Int) : Int := if d.down then 19 else if i < 0 ∨ (d.good.length : Int) ≤ i then 2 else 0
def lastP (i : Int) : Sec → List Wt → Sec
  | s, [] => s
  | s, x :: r => lastP i (if x.i = i then x.s else s) r
def readS (d : DS) (i : Int) : Sec := lastP i (d.good[i.toNat]?.getD Sec.z) d.pend
def readD (d : DS) (i : Int) : List UInt8 × Int := if hasD d i = 0 then (if (readS d i).torn then ([], 5) else ((readS d i).b, 0)) else ([], hasD d i)
def writeD (d : DS) (i : Int) (b : List UInt8) : DS × Int :=
  if hasD d i = 0 then
    (if h : b.length = 64 then
      (if d.armed then
        (if d.left = 0 then ({ d with pend := d.pend ++ [⟨i, ⟨b, true, h⟩⟩], down := true }, 19)
         else ({ d with pend := d.pend ++ [⟨i, ⟨b, false, h⟩⟩], left := d.left - 1, count := d.count + 1 }, 0))
       else ({ d with pend := d.pend ++ [⟨i, ⟨b, false, h⟩⟩], count := d.count + 1 }, 0))
     else (d, 1))
  else (d, hasD d i)
def settleL (k : Nat → Bool) : Nat → List Sec → List Wt → List Sec
  | _, g, [] => g
  | t, g, x :: r => settleL k (t + 1) (if k t then g.set x.i.toNat x.s else g) r
def settleD (d : DS) (k : Nat → Bool) : DS := { d with good := settleL k 0 d.good d.pend, pend := [] }
def syncD (d : DS) : DS × Int := if d.down then (d, 19) else (settleD d fun _ => true, 0)
def armD (d : DS) (n : Int) : DS × Int := if d.down then (d, 19) else if n < 0 then (d, 1) else ({ d with left := n, armed := true }, 0)
def keepF (l : List Bool) (t : Nat) : Bool := l[t]?.getD false
def restartD (d : DS) (l : List Bool) : DS := { settleD d (keepF l) with down := false, armed := false }
section
variable {K : Nat → Prop} {w w' w1 : World} {o o' o1 : Own} {g g2 : Nat} {d : DS} {i : Int}
theorem DG.step (h : DG w o g d) (s : Step K w o w' o') (hk : ¬ K g) : DG w' o' g d := by
  obtain ⟨⟨ga, gc, pa, pc, hb, hg, hp⟩, tg⟩ := h
  exact ⟨⟨ga, gc, pa, pc, s.blk hb tg hk, hg.step s hk, hp.step s hk⟩, by rw [s.own hb.lt]; exact tg⟩
theorem DG.lt (h : DG w o g d) : g < w.heap.size := by
  obtain ⟨⟨ga, gc, pa, pc, hb, hg, hp⟩, tg⟩ := h
  exact hb.lt
/-- the disk's numbers turned. -/
theorem DG.turn {ga pa : Option Addr} {gc pc : Nat} {d2 : DS} {cs0 : List Value} (hg : SRw w o g ga gc d2.good) (hp : WRw w o g pa pc d2.pend) (tg : o g = some g) (hb0 : Blk w g 57 cs0) (ok : Tags w o) (X : Ext (fun b => b = g) w w')
    (hb : Blk w' g 57 (d2.V ga gc pa pc)) : Step (fun j => j = g) w o w' (grow w o) ∧ DG w' (grow w o) g d2 := by
  have s : Step (fun j => j = g) w o w' (grow w o) := Step.of_ext X ok fun b hb _ => by subst hb; exact tg
  refine ⟨s, ⟨ga, gc, pa, pc, hb, ?_, ?_⟩, by rw [s.own hb0.lt]; exact tg⟩
  · exact hg.keep X (hg.ne hb0 (by decide)) fun b hb => s.own hb
  · exact hp.keep X (hp.ne hb0 (by decide)) fun b hb => s.own hb
theorem is_spec (h : DG w o g d) : Calls Try.prog 46 #[.pointer (some (blk g))] w (Ret (.int .i64 (isD d)) fun w' => w' = w) := by
  obtain ⟨⟨ga, gc, pa, pc, hb, hg, hp⟩, tg⟩ := h
  refine disk_Disk_is.run _ ?_
  unfold disk_Disk_is.N
  refine ⟨fun h => (by cases h), fun _ => ⟨_, rfl, stI d.down, hb.celli 4 rfl rfl, fun h => ⟨?_, rfl⟩, fun h => ⟨?_, rfl⟩⟩⟩
  all_goals unfold stI at h; unfold isD
  · cases hd : d.down
    · rw [hd] at h; cases h
    · rfl
  · cases hd : d.down
    · rfl
    · rw [hd] at h; exact absurd rfl h
theorem has_spec (h : DG w o g d) (i : Int) : Calls Try.prog 50 #[.pointer (some (blk g)), .int .i64 i] w (Ret (.int .i64 (hasD d i)) fun w' => w' = w) := by
  refine disk_Disk_has.run _ _ ?_
  unfold disk_Disk_has.N
  refine (is_spec h).mono fun e w5 ⟨he, hw⟩ => ⟨_, he, fun hn => ?_, fun h0 => ?_⟩
  · subst hw
    refine ⟨?_, rfl⟩
    unfold isD at hn ⊢; unfold hasD
    cases hd : d.down
    · rw [hd] at hn; exact absurd rfl hn
    · rfl
  · subst hw
    have hd : d.down = false := by
      unfold isD at h0
      cases hd : d.down
      · rfl
      · rw [hd] at h0; cases h0
    obtain ⟨⟨ga, gc, pa, pc, hb, hg, hp⟩, tg⟩ := h
    unfold hasD
    rw [hd]
    refine ⟨fun hi => ⟨?_, rfl⟩, fun hi => ⟨_, rfl, ga, _, gc, hb.celli 0 rfl rfl, fun hn => ⟨?_, rfl⟩, fun hn => ⟨?_, rfl⟩⟩⟩
    · rw [if_neg (by decide), if_pos (.inl hi)]
    · rw [if_neg (by decide), if_pos (.inr hn)]
    · rw [if_neg (by decide), if_neg (by omega)]
theorem Down_spec (h : DG w o g d) : Calls Try.prog 23 #[.pointer (some (blk g))] w (Ret (.bool d.down) fun w' => w' = w) := by
  obtain ⟨⟨ga, gc, pa, pc, hb, hg, hp⟩, tg⟩ := h
  refine disk_Disk_Down.run _ ?_
  unfold disk_Disk_Down.N
  refine ⟨fun _ => ⟨_, rfl, stI d.down, hb.celli 4 rfl rfl, ?_, rfl⟩, fun h => (by cases h)⟩
  unfold stI
  cases d.down <;> rfl
theorem Sectors_spec (h : DG w o g d) : Calls Try.prog 22 #[.pointer (some (blk g))] w (Ret (.int .i64 d.good.length) fun w' => w' = w) := by
  obtain ⟨⟨ga, gc, pa, pc, hb, hg, hp⟩, tg⟩ := h
  refine disk_Disk_Sectors.run _ ?_
  unfold disk_Disk_Sectors.N
  exact ⟨fun h => (by cases h), fun _ => ⟨_, rfl, ga, _, gc, hb.celli 0 rfl rfl, rfl, rfl⟩⟩
theorem Arm_spec (h : DG w o g d) (ok : Tags w o) (n : Int) : Calls Try.prog 19 #[.pointer (some (blk g)), .int .i64 n] w (Ret (.int .i64 (armD d n).2) fun w' => ∃ o', Step (fun j => j = g) w o w' o' ∧ DG w' o' g (armD d n).1) := by
  refine disk_Disk_Arm.run _ _ ?_
  unfold disk_Disk_Arm.N
  refine (is_spec h).mono fun e w5 ⟨he, hw⟩ => ⟨_, he, fun hn => ?_, fun h0 => ?_⟩
  · subst hw
    unfold isD at hn ⊢; unfold armD
    cases hd : d.down
    · rw [hd] at hn; exact absurd rfl hn
    · exact ⟨rfl, o, Step.refl _ ok, h⟩
  · subst hw
    have hd : d.down = false := by
      unfold isD at h0
      cases hd : d.down
      · rfl
      · rw [hd] at h0; cases h0
    have h' := h
    obtain ⟨⟨ga, gc, pa, pc, hb, hg, hp⟩, tg⟩ := h
    have hA : armD d n = if n < 0 then (d, 1) else ({ d with left := n, armed := true }, 0) := by unfold armD; rw [if_neg (by rw [hd]; decide)]
    rw [hA]
    refine ⟨fun hi => ?_, fun hi => ⟨_, rfl, hb.cani 2 rfl rfl, thenW_in fun w9 e9 => ?_⟩⟩
    · rw [if_pos hi]
      exact ⟨rfl, o, Step.refl _ ok, h'⟩
    · rw [if_neg (by omega)]
      have X9 := (Ext.refl (fun b => b = g) w5).x_set (q := g) (i := 2) rfl (.inl rfl) e9
      have b9 := hb.seti 2 (v := .int .i64 n) rfl e9
      refine ⟨b9.cani 3 rfl rfl, thenW_in fun w10 e10 => ?_⟩
      have X10 := X9.x_set (q := g) (i := 3) rfl (.inl rfl) e10
      have b10 := b9.seti 3 (v := .bool true) rfl e10
      obtain ⟨s, D⟩ := DG.turn (d2 := { d with left := n, armed := true }) hg hp tg hb ok X10 b10
      exact ⟨rfl, _, s, D⟩
end
end Go.Proofs.Ytidijnfkcpbkiaa

/- Disk: Read and Write. -/
set_option linter.unusedVariables false
set_option linter.unusedSimpArgs false
set_option maxRecDepth 20000
set_option maxHeartbeats 4000000
namespace Go.Proofs.Ytidijnfkcpbkiaa
open Go Go.Mx Go.Proofs
open W (OwnB)
theorem inf5 : (Try.prog.info? 5).map (fun i => (i.zero, i.size, i.bytes)) = some (some (.int .u8 0), 1, 1) := by kernel_rfl
section
variable {K : Nat → Prop} {w w' w1 : World} {o o' o1 : Own} {g g2 m : Nat} {d : DS} {i : Int}
/-- bytes that are read: a fresh array, the reader's. -/
def RdD (w : World) (o : Own) (r : List UInt8 × Int) (a : Option Addr) (n c : Nat) (w' : World) (o' : Own) : Prop :=
  n = r.1.length ∧ n ≤ c ∧ Step no w o w' o' ∧ (r.2 ≠ 0 → a = none ∧ r.1 = []) ∧ (r.2 = 0 → ∃ q t, a = some (blk q) ∧ Blk w' q 80 (bytesV r.1 ++ [.bool t]) ∧ r.1.length = 64 ∧ w.heap.size ≤ q ∧ o' q = some q)
theorem lastP_snoc (i : Int) (x : Wt) : ∀ (l : List Wt) (s : Sec), lastP i s (l ++ [x]) = if x.i = i then x.s else lastP i s l
  | [], _ => rfl
  | y :: r, s => lastP_snoc i x r _
theorem hasD_0 (h : hasD d i = 0) : d.down = false ∧ 0 ≤ i ∧ i < d.good.length := by
  unfold hasD at h
  cases hd : d.down
  · rw [hd, if_neg (by decide)] at h
    by_cases hi : i < 0 ∨ (d.good.length : Int) ≤ i
    · rw [if_pos hi] at h; cases h
    · exact ⟨rfl, by omega, by omega⟩
  · rw [hd, if_pos rfl] at h; cases h
theorem Sec.arr (s : Sec) : szB Try.prog 80 s.C.toArray.size = true := by rw [List.size_toArray, s.len]; exact sz65
theorem Wt.arr (x : Wt) : szB Try.prog 83 x.C.toArray.size = true := by rw [List.size_toArray, x.len]; exact sz66
theorem setAll_all {vs cs : List Value} (h : vs.length = cs.length) : setAll cs 0 vs = vs := by
  have := setAll_head (cs := []) h
  simpa using this
/-- a whole value stored into a block of its size. -/
theorem stores_all {q : Nat} {t : TypeId} {cs vs : List Value} {Φ : World → Prop} (hb : Blk w q t cs) (hl : vs.length = cs.length) (h1 : ∀ v ∈ vs, v.oneCell' = true) (h : ∀ w', Ext (fun b => b = q) w w' → Blk w' q t vs → Φ w') : storesK (blk q) vs 0 w Φ := by
  have := storesK_blk (k := 0) (j := 0) hb (vs := vs) (by omega) h1 (Φ := Φ) fun w' X hb' => h w' X (by rwa [Nat.zero_add, setAll_all hl] at hb')
  exact this
theorem dRead_spec (h : DG w o g d) (ok : Tags w o) (i : Int) (hpl : d.pend.length < 1000000) :
    Calls Try.prog 25 #[.pointer (some (blk g)), .int .i64 i] w (fun x w' => ∃ a n c o', x = .returned (.tuple #[.slice a n c, .int .i64 (readD d i).2]) ∧ RdD w o (readD d i) a n c w' o') := by
  refine (disk_Disk_Read.go _ _ (R := fun v w' => ∃ a n c o', v = (.tuple #[.slice a n c, .int .i64 (readD d i).2]) ∧ RdD w o (readD d i) a n c w' o') ?_).mono fun x w' ⟨v, he, a, n, c, o', hv, hR⟩ => ⟨a, n, c, o', by rw [he, hv], hR⟩
  unfold disk_Disk_Read.N
  refine (has_spec h i).mono fun e w5 ⟨he, hw⟩ => ⟨_, he, fun hn => ?_, fun h0 => ?_⟩
  · subst hw
    unfold readD
    rw [if_neg hn]
    exact ⟨none, 0, 0, o, rfl, rfl, Nat.le_refl _, Step.refl _ ok, fun _ => ⟨rfl, rfl⟩, fun h => absurd h hn⟩
  subst hw
  obtain ⟨hd, hi0, hi1⟩ := hasD_0 h0
  have h' := h
  obtain ⟨⟨ga, gc, pa, pc, hb, hg, hp⟩, tg⟩ := h
  have hgt : d.good[i.toNat]? = some d.good[i.toNat] := List.getElem?_eq_getElem (by omega)
  have hrd : readS d i = lastP i (d.good[i.toNat]'(by omega)) d.pend := by unfold readS; rw [hgt]; rfl
  generalize hs0 : d.good[i.toNat]'(by omega) = s0 at *
  have hgr := hg.row
  obtain ⟨ad, rfl⟩ := hgr.faddr Sec.len (by decide) (i := i.toNat) (by omega)
  refine ⟨_, rfl, some ad, _, gc, hb.celli 0 rfl rfl, ad, rfl, hi0, hi1, s0.C.toArray, s0.arr, hgr.floads Sec.len hgt, fun w13 q14 X13 hb13 hq hq' => ⟨s0.arr, stores_all hb13 (by rw [s0.len]; simp) s0.one fun w15 X15 hb15 => ?_⟩⟩
  have s13 := (Step.of_no X13 ok).tag (j := q14) hq hq'
  have M13 : Mine [q14] w13 (tag (grow w5 o) q14 q14) := fun p hp => by rw [show p = q14 by simpa using hp]; exact ⟨hq', tag_self⟩
  have s15' := Step.stores X15 s13.ok M13 (by simp)
  have s15 : Step no w5 o w15 _ := s13.trans' s15' fun j hj => .inr (by simp at hj; omega)
  have hbk : ∀ {w1 : World} {o1 : Own}, Step no w5 o w1 o1 → Blk w1 g 57 (d.V (some ad) gc pa pc) := fun s => s.blk hb tg id
  refine ⟨pa, _, pc, (hbk s15).celli 1 rfl rfl, fun k vs w1 => ∃ (t : Nat) (o1 : Own), vs = [.int .i64 t] ∧ k + t = d.pend.length ∧ Step no w5 o w1 o1 ∧ Mine [q14] w1 o1 ∧ Blk w1 q14 80 (lastP i s0 (d.pend.take t)).C, d.pend.length, ⟨0, _, rfl, rfl, s15, M13.step s15', hb15⟩, ?_⟩
  rintro k w21 t0 ⟨t, o21, hi, hk, s21, M21, hb21⟩
  simp only [List.cons.injEq, Value.int.injEq, true_and, and_true] at hi
  subst hi
  refine ⟨fun ht => ?_, fun ht => ?_⟩
  · have htl : t < d.pend.length := by omega
    have hgp : d.pend[t]? = some d.pend[t] := List.getElem?_eq_getElem htl
    have htk : d.pend.take (t + 1) = d.pend.take t ++ [d.pend[t]] := by rw [List.take_add_one, hgp]; rfl
    generalize d.pend[t] = x at *
    have hpr := (hp.step s21 id).row
    obtain ⟨pd, rfl⟩ := hpr.faddr Wt.len (by decide) htl
    refine ⟨pd, rfl, by omega, by omega, x.C.toArray, x.arr, by rw [Int.toNat_natCast]; exact hpr.floads Wt.len hgp, fun w26 q27 X26 hb26 hq2 hq2' => ⟨x.arr, stores_all hb26 (by rw [x.len]; simp) x.one fun w28 X28 hb28 => ?_⟩⟩
    have s26 := (Step.of_no X26 s21.ok).tag (j := q27) hq2 hq2'
    have M26 : Mine [q27] w26 (tag (grow w21 o21) q27 q27) := fun p hp => by rw [show p = q27 by simpa using hp]; exact ⟨hq2', tag_self⟩
    have s28' := Step.stores X28 s26.ok M26 (by simp)
    have s28 : Step no w21 o21 w28 _ := s26.trans' s28' fun j hj => .inr (by simp at hj; omega)
    have hq14 := M21.lt (p := q14) (by simp)
    have M28 := M21.step s28
    have hb14 := s28.blk hb21 (M21 q14 (by simp)).2 id
    have s528 := s21.trans s28
    refine ⟨x.i, hb28.celli 0 rfl rfl, fun hxi => ⟨x.s.C.toArray, x.s.arr, ?_, x.s.arr, stores_all hb14 (by rw [x.s.len, Sec.len]) x.s.one fun w34 X34 hb34 => ⟨by omega, by omega, ?_⟩⟩, fun hxi => ⟨by omega, by omega, k - 1, by omega, t + 1, _, rfl, by omega, s528, M28, ?_⟩⟩
    · exact cellsAt_blk hb28 _ 0 fun n v hv => by rw [show 1 + 0 + n = n + 1 by omega]; exact hv
    · have s34' := Step.stores X34 s528.ok M28 (by simp)
      exact ⟨k - 1, by omega, t + 1, _, rfl, by omega, s528.trans' s34' fun j hj => .inr (by simp at hj; omega), M28.step s34', by rw [htk, lastP_snoc, if_pos hxi]; exact hb34⟩
    · rw [htk, lastP_snoc, if_neg hxi]; exact hb14
  · rw [List.take_of_length_le (by omega), ← hrd] at hb21
    have hcell : w21.cell? ((blk q14).add 64) = some (.bool (readS d i).torn) := hb21.celli 64 rfl (by
      unfold Sec.C
      rw [List.getElem?_append_right (by rw [bytesV_length, (readS d i).h]; omega), bytesV_length, (readS d i).h]; rfl)
    refine ⟨_, hcell, fun htn => ?_, fun htn => ?_⟩
    · unfold readD
      rw [if_pos h0, if_pos htn]
      exact ⟨none, 0, 0, o21, rfl, rfl, Nat.le_refl _, s21, fun _ => ⟨rfl, rfl⟩, fun h => absurd h (by decide)⟩
    · unfold readD
      rw [if_pos h0, if_neg (by rw [htn]; decide)]
      exact ⟨some (blk q14), 64, 64, o21, rfl, (readS d i).h.symm, Nat.le_refl _, s21, fun h => absurd rfl h, fun _ => ⟨q14, _, rfl, hb21, (readS d i).h, hq, (M21 q14 (by simp)).2⟩⟩
end
end Go.Proofs.Ytidijnfkcpbkiaa

/- Disk: Write. -/
set_option linter.unusedVariables false
set_option linter.unusedSimpArgs false
set_option maxRecDepth 20000
set_option maxHeartbeats 4000000
namespace Go.Proofs.Ytidijnfkcpbkiaa
open Go Go.Mx Go.Proofs
open W (OwnB)
section
variable {K : Nat → Prop} {w w' w1 : World} {o o' o1 : Own} {g g2 m : Nat} {d : DS} {i : Int} {a : Option Addr} {c : Nat} {l : List Wt}
theorem Wts.one {l : List Wt} : ∀ u ∈ l.flatMap Wt.C, u.oneCell' = true := fun u hu => by
  obtain ⟨x, _, h⟩ := List.mem_flatMap.1 hu
  exact x.one u h
theorem WRw.push (h : WRw w o g a c l) (ok : Tags w o) (hg : g < w.heap.size) (hl : l.length < 1000000) {xa : Option Addr} {xc : Nat} {r : List Wt} (hr : RowAt w xa (r.flatMap Wt.C)) (hrl : r.length < 1000000) :
    ∃ a' n' c' w' o', (Builtin.append_ #[54, 54] 54 #[.slice a l.length c, .slice xa r.length xc]).run Try.prog w = .ok (.slice a' n' c') w' ∧ n' = (l ++ r).length ∧ Step (fun j => j = g) w o w' o' ∧ WRw w' o' g a' c' (l ++ r) ∧ Ext (fun b => ∃ ad, a = some ad ∧ b = ad.block) w w' := by
  obtain ⟨i, hi, hz, hsz, hby⟩ := info_of inf83
  obtain ⟨a', c', w', o', hrun, s2, hrow, hk, _⟩ := Grows.push (ty := 54) Try.underlying54 hi hz hsz hby rfl (by decide) h ok hg (xa := xa) (m := r.length) (xc := xc) (news := r.flatMap Wt.C) (flat_length Wt.len r) hr Wts.one (by omega) (by omega)
  exact ⟨a', _, c', w', o', hrun, by simp, s2, by unfold WRw; rw [List.length_append, List.flatMap_append]; exact hrow, ⟨s2.ext.os, s2.ext.tape, s2.ext.output, s2.ext.size, fun b hb hn => hk b hb fun ad ha hb' => hn ⟨ad, ha, hb'⟩⟩⟩
theorem last_set (l : List Wt) (x y : Wt) (k : Nat) (v : Value) (hk : k < 66) (h : x.C.set k v = y.C) : ((l ++ [x]).flatMap Wt.C).set (l.length * 66 + k) v = (l ++ [y]).flatMap Wt.C := by
  rw [List.flatMap_append, List.set_append_right _ _ (by rw [flat_length Wt.len]; omega), flat_length Wt.len, List.flatMap_append]
  congr 1
  rw [show l.length * 66 + k - l.length * 66 = k by omega]
  simpa using h
/-- a write is pending. -/
theorem pend_spec (h : DG w o g d) (ok : Tags w o) (hpl : d.pend.length < 100000) (x : Wt) {q : Nat} (hb : Blk w q 83 x.C) :
    ∃ pa n pc, w.cell? ((blk g).add 1) = some (.slice pa n pc) ∧ ∃ a' n' c' w' o', (Builtin.append_ #[54, 54] 54 #[.slice pa n pc, .slice (some (blk q)) 1 1]).run Try.prog w = .ok (.slice a' n' c') w' ∧ Step (fun j => j = g) w o w' o' ∧
      canStore w' ((blk g).add 1) ∧ ∀ w2, w2 = w'.setCell ((blk g).add 1) (.slice a' n' c') → Step (fun j => j = g) w o w2 (grow w' o') ∧ DG w2 (grow w' o') g { d with pend := d.pend ++ [x] } := by
  obtain ⟨⟨ga, gc, pa, pc, hbk, hg, hp⟩, tg⟩ := h
  obtain ⟨a', n', c', w', o', hrun, hn, s2, hp2, X2⟩ := hp.push ok hbk.lt (by omega) (xa := some (blk q)) (xc := 1) (r := [x]) (by simpa using RowAt.of_blk hb) (by simp)
  subst hn
  have hb2 : Blk w' g 57 (d.V ga gc pa pc) := hbk.ext X2 fun ⟨ad, h1, h2⟩ => hp.ne hbk (by decide) ad h1 h2.symm
  have hg2 : SRw w' o' g ga gc d.good := hg.keep X2 (fun ad ha ⟨ad', h1, h2⟩ => hg.apart hp (by decide) ad ad' ha h1 h2) fun b hb => s2.own hb
  have tg2 : o' g = some g := by rw [s2.own hbk.lt]; exact tg
  refine ⟨pa, _, pc, hbk.celli 1 rfl rfl, a', _, c', w', o', hrun, s2, hb2.cani 1 rfl rfl, fun w3 e3 => ?_⟩
  have X3 := (Ext.refl (fun b => b = g) w').x_set (q := g) (i := 1) rfl (.inl rfl) e3
  have b3 := hb2.seti 1 (v := .slice a' (d.pend ++ [x]).length c') rfl e3
  obtain ⟨s3, D3⟩ := DG.turn (d2 := { d with pend := d.pend ++ [x] }) hg2 hp2 tg2 hb2 s2.ok X3 b3
  exact ⟨s2.trans s3, D3⟩
/-- the last one that is pending is torn. -/
theorem tear_spec {x y : Wt} (h : DG w o g { d with pend := d.pend ++ [x] }) (ok : Tags w o) (hpl : d.pend.length < 100000) (hxy : x.C.set 65 (.bool true) = y.C) :
    ∃ pa n pc, w.cell? ((blk g).add 1) = some (.slice pa n pc) ∧ n = d.pend.length + 1 ∧ ∃ ad, pa = some ad ∧ ∀ w2, Ext no w w2 → canStore w2 (ad.add (d.pend.length * 66 + 65)) ∧ ∀ w3, w3 = w2.setCell (ad.add (d.pend.length * 66 + 65)) (.bool true) → ∃ o', Step (fun j => j = g) w o w3 o' ∧ DG w3 o' g { d with pend := d.pend ++ [y] } := by
  have hh := h
  obtain ⟨⟨ga, gc, pa, pc, hbk, hg, hp⟩, tg⟩ := h
  have hl : (d.pend ++ [x]).length = d.pend.length + 1 := by simp
  have hne : (d.pend ++ [x]).flatMap Wt.C ≠ [] := fun e => by
    have := congrArg List.length e
    rw [flat_length Wt.len, hl] at this; simp at this
  obtain ⟨b, cur, ha, hb, hle, hob, hbl, hput⟩ := Grows.put (j := d.pend.length * 66 + 65) (vs := [.bool true]) hp ok hne
  subst ha
  have hj : d.pend.length * 66 + 65 < cur.length := by
    have : ((d.pend ++ [x]).flatMap Wt.C).length = (d.pend.length + 1) * 66 := by rw [flat_length Wt.len, hl]
    have hle' : ((d.pend ++ [x]).flatMap Wt.C).length ≤ cur.length := hle
    omega
  refine ⟨_, _, pc, hbk.celli 1 rfl rfl, hl, blk b, rfl, fun w2 X => ⟨?_, fun w3 e3 => ?_⟩⟩
  · have hb2 := hb.ext X (fun h => h)
    exact hb2.cana (List.getElem?_eq_getElem hj)
  · have hb2 := hb.ext X (fun h => h)
    rw [add_blk] at e3
    have X3 : Ext (fun q => q = b) w w3 := (X.mono fun _ h _ => h.elim : Ext (fun q => q = b) w w2).x_set (q := b) (i := d.pend.length * 66 + 65) rfl (.inl rfl) e3
    have b3 := hb2.seti (d.pend.length * 66 + 65) (v := .bool true) rfl e3
    obtain ⟨s3, h3⟩ := hput w3 X3 b3
    have hset : setAll ((d.pend ++ [x]).flatMap Wt.C) (d.pend.length * 66 + 65) [.bool true] = (d.pend ++ [y]).flatMap Wt.C := last_set d.pend x y 65 _ (by decide) hxy
    refine ⟨_, s3, ⟨ga, gc, some (blk b), pc, ?_, ?_, ?_⟩, by rw [s3.own hbk.lt]; exact tg⟩
    · have hgb : g ≠ b := fun e => hp.ne hbk (by decide) _ rfl (by rw [e])
      have := hbk.ext X3 hgb
      have e : (DS.V { d with pend := d.pend ++ [y] } ga gc (some (blk b)) pc) = (DS.V { d with pend := d.pend ++ [x] } ga gc (some (blk b)) pc) := by unfold DS.V; simp
      rw [e]; exact this
    · exact hg.keep X3 (fun ad ha h2 => hg.apart hp (by decide) ad (blk b) ha rfl h2) fun b hb => s3.own hb
    · unfold WRw
      rw [← hset, show (d.pend ++ [y]).length = (d.pend ++ [x]).length by simp]
      exact h3
theorem zeros_write (i : Int) (b : List UInt8) (t : Bool) (h : b.length = 64) : setAll ([Value.int .i64 i] ++ List.replicate 64 (.int .u8 0) ++ [.bool t]) 1 (bytesV b) = Wt.C ⟨i, ⟨b, t, h⟩⟩ := by
  have := setAll_mid (u := [Value.int .i64 i]) (x := List.replicate 64 (.int .u8 0)) (y := [.bool t]) (v := bytesV b) (by rw [bytesV_length, h]; simp)
  rw [show ([Value.int .i64 i] : List Value).length = 1 from rfl] at this
  rw [this]; rfl
theorem dWrite_spec (h : DG w o g d) (ok : Tags w o) (hd : d.ok m) (hm : m < 100000) (i : Int) {ba : Option Addr} {bc : Nat} {b : List UInt8} (hb : RowAt w ba (bytesV b)) :
    Calls Try.prog 34 #[.pointer (some (blk g)), .int .i64 i, .slice ba b.length bc] w (Ret (.int .i64 (writeD d i b).2) fun w' => ∃ o', Step (fun j => j = g) w o w' o' ∧ DG w' o' g (writeD d i b).1) := by
  refine disk_Disk_Write.run _ _ _ _ _ ?_
  unfold disk_Disk_Write.N
  refine (has_spec h i).mono fun e w6 ⟨he, hw⟩ => ⟨_, he, fun hn => ?_, fun h0 => ?_⟩
  · subst hw
    unfold writeD
    rw [if_neg hn]
    exact ⟨rfl, o, Step.refl _ ok, h⟩
  subst hw
  refine ⟨fun hn => ?_, fun h64 w9 q10 X9 hb9 hq hq' => ?_⟩
  · unfold writeD
    rw [if_pos h0, dif_neg (by omega)]
    exact ⟨rfl, o, Step.refl _ ok, h⟩
  have hbl : b.length = 64 := by omega
  have hpl := hd.pl
  have s9 := (Step.of_no X9 ok).tag (j := q10) hq hq'
  have M9 : Mine [q10] w9 (tag (grow w6 o) q10 q10) := fun p hp => by rw [show p = q10 by simpa using hp]; exact ⟨hq', tag_self⟩
  refine putsK_ok (k := 0) hb9 (by simp) fun w76 X76 hb76 => ?_
  rw [Nat.zero_add, setAll_all (by simp)] at hb76
  have s76' := Step.stores X76 s9.ok M9 (by simp)
  have s76 : Step no w6 o w76 _ := s9.trans' s76' fun j hj => .inr (by simp at hj; omega)
  have M76 := M9.step s76'
  have hb6 : RowAt w76 ba (bytesV b) := (hb.no X9).ext' X76 fun hne ad ha (e : ad.block = q10) => by have := hb.lt hne ha; omega
  obtain ⟨bd, rfl⟩ := hb6.addr fun e => by have := congrArg List.length e; rw [bytesV_length, hbl] at this; cases this
  obtain ⟨u8, hu, hz, hsz, hby⟩ := info_of inf5
  have hcl : (bytesV b).length = 64 := by rw [bytesV_length, hbl]
  have hcopy := run_copy_gen (P := Try.prog) (dT := 30) (sT := 30) (ty := 3) (dLen := 64) (dCap := 64) (sLen := b.length) (sCap := bc) (n := 64) (sz := 1) (o := 1) (a := bd) Try.underlying30 hu hsz (by rw [hbl]; rfl) (by rw [hcl]) (fun j v hv => hb6.at_ hv) hb76 (by rw [hcl]; simp) bytesV_one
  obtain ⟨hb78, X78⟩ := setCells_setAll (cs := bytesV b) (o := 1) hb76 (by rw [hcl]; simp)
  generalize w76.setCells q10 1 (bytesV b) = w78 at *
  have s78' := Step.stores X78 s76.ok M76 (by simp)
  have s78 : Step no w6 o w78 _ := s76.trans' s78' fun j hj => .inr (by simp at hj; omega)
  rw [zeros_write i b false hbl] at hb78
  refine ⟨_, w78, hcopy, ?_⟩
  have D78 := h.step s78 id
  obtain ⟨x, hx⟩ : ∃ x : Wt, x = ⟨i, ⟨b, false, hbl⟩⟩ := ⟨_, rfl⟩
  rw [← hx] at hb78
  have hcell1 : ∃ pa n pc, w78.cell? ((blk g).add 1) = some (.slice pa n pc) := by
    obtain ⟨⟨ga, gc, pa, pc, hbk, _, _⟩, _⟩ := D78
    exact ⟨pa, _, pc, hbk.celli 1 rfl rfl⟩
  obtain ⟨pa, pn, pc, hc78⟩ := hcell1
  refine ⟨blk g, rfl, pa, pn, pc, hc78, x.C.toArray, x.arr, cellsAt_blk (k := 0) hb78 _ 0 fun n v hv => by rw [show 0 + 0 + n = n by omega]; exact hv, x.arr, fun w85 q86 X85 hb85 hq2 hq2' => ?_⟩
  have s85' := Step.of_no X85 s78.ok
  have s85 := s78.trans s85'
  have D85 := D78.step s85' id
  obtain ⟨pa2, pn2, pc2, hc85, a', n', c', w89, o89, hrun, s89, hcan, hst⟩ := pend_spec D85 s85.ok (by omega) x hb85
  have e2 : (Value.slice pa pn pc) = .slice pa2 pn2 pc2 := by
    have := X85.cell hc78 id
    rw [hc85] at this
    exact (Option.some.inj this).symm
  cases e2
  refine ⟨hc85, a', n', c', w89, hrun, hcan, thenW_in fun w90 e90 => ?_⟩
  obtain ⟨s90', D90⟩ := hst w90 e90
  have s90 : Step (fun j => j = g) w6 o w90 _ := s85.none.trans s90'
  have hW : writeD d i b = if d.armed then (if d.left = 0 then ({ d with pend := d.pend ++ [⟨i, ⟨b, true, hbl⟩⟩], down := true }, 19) else ({ d with pend := d.pend ++ [x], left := d.left - 1, count := d.count + 1 }, 0)) else ({ d with pend := d.pend ++ [x], count := d.count + 1 }, 0) := by
    unfold writeD; rw [if_pos h0, dif_pos hbl, ← hx]
  have hx' : ∀ y : Wt, y = ⟨i, ⟨b, true, hbl⟩⟩ → x.C.set 65 (.bool true) = y.C := fun y hy => by
    subst hx; subst hy
    show (Value.int .i64 i :: (bytesV b ++ [.bool false])).set 65 (.bool true) = Value.int .i64 i :: (bytesV b ++ [.bool true])
    rw [List.set_cons_succ, List.set_append_right _ _ (by rw [hcl]; omega), hcl]; rfl
  have hcl := hd.cl
  have hleft := hd.left
  have D90' := D90
  obtain ⟨⟨ga, gc, pa3, pc3, hbk, hg3, hp3⟩, tg⟩ := D90
  refine ⟨d.armed, hbk.celli 3 rfl rfl, fun har => ⟨d.left, hbk.celli 2 rfl rfl, fun hl0 => ?_, fun hl0 => ?_⟩, fun har => ?_⟩
  · rw [hW, if_pos har, if_pos hl0]
    refine ⟨hbk.cani 4 rfl rfl, thenW_in fun w97 e97 => ?_⟩
    have X97 := (Ext.refl (fun b => b = g) w90).x_set (q := g) (i := 4) rfl (.inl rfl) e97
    have b97 := hbk.seti 4 (v := .int .i64 1) rfl e97
    obtain ⟨s97, D97⟩ := DG.turn (d2 := { d with pend := d.pend ++ [x], down := true }) hg3 hp3 tg hbk s90'.ok X97 b97
    obtain ⟨pa4, pn4, pc4, hc97, hpn, ad, hpa, hfin⟩ := tear_spec (d := { d with down := true }) (x := x) (y := ⟨i, ⟨b, true, hbl⟩⟩) D97 s97.ok (by show d.pend.length < _; omega) (hx' _ rfl)
    subst hpn; subst hpa
    refine ⟨_, _, _, hc97, _, _, _, hc97, by show _ ≤ ((d.pend.length + 1 : Nat) : Int) - 1; omega, by show ((d.pend.length + 1 : Nat) : Int) - 1 < _; omega, ad, rfl, by show _ ≤ ((d.pend.length + 1 : Nat) : Int) - 1; omega, by show ((d.pend.length + 1 : Nat) : Int) - 1 < ((d.pend.length + 1 : Nat) : Int); omega, fun w98 X98 => ?_⟩
    obtain ⟨hcs, hst3⟩ := hfin w98 X98
    have e5 : (((ad.add (Int.toNat (((d.pend.length + 1 : Nat) : Int) - 1) * 66)).add 1).add 64).add 0 = ad.add (d.pend.length * 66 + 65) := by
      rw [add_add, add_add, add_add]; congr 1; omega
    show canStore w98 ((((ad.add (Int.toNat (((d.pend.length + 1 : Nat) : Int) - 1) * 66)).add 1).add 64).add 0) ∧ thenW (w98.setCell ((((ad.add (Int.toNat (((d.pend.length + 1 : Nat) : Int) - 1) * 66)).add 1).add 64).add 0) (.bool true)) _
    rw [e5]
    refine ⟨hcs, thenW_in fun w104 e104 => ?_⟩
    obtain ⟨o104, s104, D104⟩ := hst3 w104 e104
    exact ⟨rfl, _, (s90.trans s97).trans s104, D104⟩
  · rw [hW, if_pos har, if_neg hl0]
    refine ⟨d.left, hbk.celli 2 rfl rfl, by omega, by omega, hbk.cani 2 rfl rfl, thenW_in fun w107 e107 => ?_⟩
    have X107 := (Ext.refl (fun b => b = g) w90).x_set (q := g) (i := 2) rfl (.inl rfl) e107
    have b107 := hbk.seti 2 (v := .int .i64 (d.left - 1)) rfl e107
    refine ⟨d.count, b107.celli 5 rfl rfl, by omega, by omega, b107.cani 5 rfl rfl, thenW_in fun w110 e110 => ?_⟩
    have X110 := X107.x_set (q := g) (i := 5) rfl (.inl rfl) e110
    have b110 := b107.seti 5 (v := .int .i64 (d.count + 1)) rfl e110
    obtain ⟨s97, D97⟩ := DG.turn (d2 := { d with pend := d.pend ++ [x], left := d.left - 1, count := d.count + 1 }) hg3 hp3 tg hbk s90'.ok X110 b110
    exact ⟨rfl, _, s90.trans s97, D97⟩
  · rw [hW, if_neg (by rw [har]; decide)]
    refine ⟨d.count, hbk.celli 5 rfl rfl, by omega, by omega, hbk.cani 5 rfl rfl, thenW_in fun w113 e113 => ?_⟩
    have X113 := (Ext.refl (fun b => b = g) w90).x_set (q := g) (i := 5) rfl (.inl rfl) e113
    have b113 := hbk.seti 5 (v := .int .i64 (d.count + 1)) rfl e113
    obtain ⟨s97, D97⟩ := DG.turn (d2 := { d with pend := d.pend ++ [x], count := d.count + 1 }) hg3 hp3 tg hbk s90'.ok X113 b113
    exact ⟨rfl, _, s90.trans s97, D97⟩
end
end Go.Proofs.Ytidijnfkcpbkiaa

/- Disk: settle, Sync, Restart, Copy, New. -/
set_option linter.unusedVariables false
set_option linter.unusedSimpArgs false
set_option maxRecDepth 20000
set_option maxHeartbeats 4000000
namespace Go.Proofs.Ytidijnfkcpbkiaa
open Go Go.Mx Go.Proofs
open W (OwnB)
section
variable {K : Nat → Prop} {w w' w1 : World} {o o' o1 : Own} {g g2 m : Nat} {d : DS} {i : Int} {a : Option Addr} {c : Nat} {l : List Wt}
/-- a disk in memory whose rows lie where they lay. -/
structure DGa (w : World) (o : Own) (g : Nat) (d : DS) (ga : Option Addr) (gc : Nat) (pa : Option Addr) (pc : Nat) : Prop where
  b : Blk w g 57 (d.V ga gc pa pc)
  hg : SRw w o g ga gc d.good
  hp : WRw w o g pa pc d.pend
  tg : o g = some g
variable {ga pa : Option Addr} {gc pc : Nat}
theorem DGa.dg (h : DGa w o g d ga gc pa pc) : DG w o g d := ⟨⟨ga, gc, pa, pc, h.b, h.hg, h.hp⟩, h.tg⟩
theorem DGa.step (h : DGa w o g d ga gc pa pc) (s : Step K w o w' o') (hk : ¬ K g) : DGa w' o' g d ga gc pa pc :=
  ⟨s.blk h.b h.tg hk, h.hg.step s hk, h.hp.step s hk, by rw [s.own h.b.lt]; exact h.tg⟩
/-- a sector of its stored. -/
theorem DGa.put (h : DGa w o g d ga gc pa pc) (ok : Tags w o) {j : Nat} (hj : j < d.good.length) (s : Sec) {ad : Addr} (ha : ga = some ad) {Φ : World → Prop}
    (hΦ : ∀ w' o', Step (fun i => i = g) w o w' o' → DGa w' o' g { d with good := d.good.set j s } ga gc pa pc → Φ w') : storesK (ad.add (j * 65)) s.C 0 w Φ := by
  have hne : d.good.flatMap Sec.C ≠ [] := fun e => by
    have := congrArg List.length e
    rw [flat_length Sec.len] at this; simp at this; omega
  obtain ⟨b, cur, hb, hbb, hle, hob, hbl, hput⟩ := Grows.put (j := j * 65) (vs := s.C) h.hg ok hne
  rw [ha] at hb
  cases hb
  rw [flat_length Sec.len] at hle
  have h2 : (j + 1) * 65 ≤ d.good.length * 65 := Nat.mul_le_mul_right _ hj
  refine storesK_blk (k := j * 65) (j := 0) hbb (by rw [s.len]; omega) s.one fun w' X hb' => ?_
  obtain ⟨st, hg2⟩ := hput w' X hb'
  rw [setAll_flat Sec.len s hj] at hg2
  have hgb : g ≠ b := fun e => h.hg.ne h.b (by decide) (blk b) ha (by rw [e])
  refine hΦ w' _ st ⟨?_, by unfold SRw; rw [List.length_set]; exact hg2, h.hp.keep X (fun ad2 h3 h4 => h.hp.apart h.hg (by decide) ad2 (blk b) h3 ha h4) (fun b hb => st.own hb), by rw [st.own h.b.lt]; exact h.tg⟩
  have e : DS.V { d with good := d.good.set j s } ga gc pa pc = d.V ga gc pa pc := by unfold DS.V; simp
  rw [e]
  exact h.b.ext X hgb
theorem settleL_len (k : Nat → Bool) : ∀ (l : List Wt) (t : Nat) (gl : List Sec), (settleL k t gl l).length = gl.length
  | [], _, _ => rfl
  | x :: r, t, gl => by
    rw [settleL, settleL_len k r]
    split
    · rw [List.length_set]
    · rfl
theorem settle_spec (h : DG w o g d) (ok : Tags w o) (hd : d.ok m) (hm : m < 100000) {kk : Nat} {kf kg : Array Value} {k : Nat → Bool}
    (hk : ∀ (t : Nat) w1 o1, t < d.pend.length → Step (fun j => j = g) w o w1 o1 → enters Try.prog kk = true ∧ Calls Try.prog kk (kf.toList ++ ([.int .i64 (t : Int)] : List Value) ++ kg.toList).toArray w1 (Ret (.bool (k t)) fun w2 => w2 = w1)) :
    Calls Try.prog 48 #[.pointer (some (blk g)), .func (.func kk) kf kg] w (Ret (.tuple #[]) fun w' => ∃ o', Step (fun j => j = g) w o w' o' ∧ DG w' o' g (settleD d k)) := by
  refine disk_Disk_settle.run _ _ _ _ ?_
  unfold disk_Disk_settle.N
  obtain ⟨⟨ga, gc, pa, pc, hb, hg, hp⟩, tg⟩ := h
  have hpl := hd.pl
  refine ⟨_, rfl, pa, _, pc, hb.celli 1 rfl rfl, fun q vs w1 => ∃ (t : Nat) (gl : List Sec) (o1 : Own), vs = [.int .i64 t] ∧ q + t = d.pend.length ∧ Step (fun j => j = g) w o w1 o1 ∧ DGa w1 o1 g { d with good := gl } ga gc pa pc ∧ gl.length = d.good.length ∧ settleL k t gl (d.pend.drop t) = settleL k 0 d.good d.pend, d.pend.length, ⟨0, d.good, o, rfl, rfl, Step.refl _ ok, ⟨hb, hg, hp, tg⟩, rfl, rfl⟩, ?_⟩
  rintro q w9 t0 ⟨t, gl, o9, hi, hq, s9, D, hgl, hset⟩
  simp only [List.cons.injEq, Value.int.injEq, true_and, and_true] at hi
  subst hi
  refine ⟨fun ht => ?_, fun ht => ?_⟩
  · have htl : t < d.pend.length := by omega
    have hgp : d.pend[t]? = some d.pend[t] := List.getElem?_eq_getElem htl
    have hat := hd.at_ _ (List.getElem_mem htl)
    rw [List.drop_eq_getElem_cons htl, settleL] at hset
    generalize d.pend[t] = x at *
    have hpr := D.hp.row
    obtain ⟨pd, hpd⟩ := hpr.faddr Wt.len (by decide) htl
    subst hpd
    refine ⟨pd, rfl, by omega, by omega, x.C.toArray, x.arr, by rw [Int.toNat_natCast]; exact hpr.floads Wt.len hgp, fun w14 q15 X14 hb14 hq1 hq2 => ⟨x.arr, stores_all hb14 (by rw [x.len]; simp) x.one fun w16 X16 hb16 => ?_⟩⟩
    have s14 := (Step.of_no X14 s9.ok).tag (j := q15) hq1 hq2
    have M14 : Mine [q15] w14 (tag (grow w9 o9) q15 q15) := fun p hp => by rw [show p = q15 by simpa using hp]; exact ⟨hq2, tag_self⟩
    have s16' := Step.stores X16 s14.ok M14 (by simp)
    have s16 : Step no w9 o9 w16 _ := s14.trans' s16' fun j hj => .inr (by simp at hj; omega)
    have sw16 := s9.trans s16.none
    obtain ⟨hen, hcall⟩ := hk t w16 _ htl sw16
    have D16 := D.step s16 id
    refine ⟨hen, hcall.mono fun e w19 ⟨he, hw⟩ => ⟨_, he, fun hr => ?_, fun hr => ?_⟩⟩
    all_goals subst hw
    · rw [if_pos hr] at hset
      have hgr := D16.hg.row
      obtain ⟨gd, hgd⟩ := hgr.faddr Sec.len (by decide) (i := x.i.toNat) (by show _ < gl.length; omega)
      subst hgd
      refine ⟨some gd, _, gc, D16.b.celli 0 rfl rfl, x.i, hb16.celli 0 rfl rfl, x.s.C.toArray, x.s.arr, cellsAt_blk (k := 1) hb16 _ 0 fun n v hv => by rw [show 1 + 0 + n = n + 1 by omega]; exact hv, gd, rfl, hat.1, by show x.i < ((gl.length : Nat) : Int); omega, fun w21 X21 => ⟨x.s.arr, ?_⟩⟩
      have s21' := Step.of_no X21 sw16.ok
      have D21 := D16.step s21' id
      refine D21.put s21'.ok (j := x.i.toNat) (by show _ < gl.length; omega) x.s rfl fun w29 o29 s29 D29 => ⟨by omega, by omega, q - 1, by omega, t + 1, gl.set x.i.toNat x.s, o29, rfl, by omega, (sw16.trans s21'.none).trans s29, D29, by rw [List.length_set]; exact hgl, hset⟩
    · rw [if_neg (by rw [hr]; decide)] at hset
      exact ⟨by omega, by omega, q - 1, by omega, t + 1, gl, _, rfl, by omega, sw16, D16, hgl, hset⟩
  · have htt : t = d.pend.length := by omega
    rw [List.drop_eq_nil_of_le (by omega)] at hset
    refine ⟨D.b.cani 1 rfl rfl, thenW_in fun w32 e32 => ?_⟩
    have X32 := (Ext.refl (fun b => b = g) w9).x_set (q := g) (i := 1) rfl (.inl rfl) e32
    have b32 := D.b.seti 1 (v := .slice none 0 0) rfl e32
    obtain ⟨s32, D32⟩ := DG.turn (d2 := { d with good := gl, pend := [] }) D.hg (Grows.nil _ _ _ _ _) D.tg D.b s9.ok X32 b32
    refine ⟨rfl, _, s9.trans s32, ?_⟩
    have e : settleD d k = { d with good := gl, pend := [] } := by
      unfold settleD; rw [← hset]; rfl
    rw [e]; exact D32
theorem settleD_ok (hd : d.ok m) (k : Nat → Bool) : (settleD d k).ok m := by
  have h := settleL_len k d.pend 0 d.good
  exact ⟨by show 1 ≤ (settleL _ _ _ _).length; rw [h]; exact hd.n1, by show (settleL _ _ _ _).length ≤ 400; rw [h]; exact hd.n2, fun x hx => (by cases hx), Nat.zero_le _, hd.cl, hd.left⟩
theorem dSync_spec (h : DG w o g d) (ok : Tags w o) (hd : d.ok m) (hm : m < 100000) : Calls Try.prog 37 #[.pointer (some (blk g))] w (Ret (.int .i64 (syncD d).2) fun w' => ∃ o', Step (fun j => j = g) w o w' o' ∧ DG w' o' g (syncD d).1) := by
  refine disk_Disk_Sync.run _ ?_
  unfold disk_Disk_Sync.N
  refine (is_spec h).mono fun e w4 ⟨he, hw⟩ => ⟨_, he, fun hn => ?_, fun h0 => ?_⟩
  all_goals subst hw
  · unfold isD at hn ⊢; unfold syncD
    cases hdn : d.down
    · rw [hdn] at hn; exact absurd rfl hn
    · exact ⟨rfl, o, Step.refl _ ok, h⟩
  · have hS : syncD d = (settleD d fun _ => true, 0) := by
      unfold syncD; rw [if_neg]
      intro hdn; unfold isD at h0; rw [if_pos hdn] at h0; cases h0
    rw [hS]
    refine (settle_spec h ok hd hm (k := fun _ => true) fun t w1 o1 ht s => ⟨by kernel_rfl, by refine disk_Disk_Sync_1.run _ ?_; exact ⟨rfl, rfl⟩⟩).mono fun e w7 ⟨he, o', s, D⟩ => ⟨he, rfl, o', s, D⟩
def boolsV (l : List Bool) : List Value := l.map Value.bool
theorem cHas_spec {ka : Option Addr} {kc : Nat} {kl : List Bool} (hr : RowAt w ka (boolsV kl)) (t : Nat) : Calls Try.prog 47 #[.slice ka kl.length kc, .int .i64 t] w (Ret (.bool (keepF kl t)) fun w' => w' = w) := by
  refine disk_choice_has.run _ _ _ _ ?_
  unfold disk_choice_has.N keepF
  refine ⟨fun ht => ?_, fun ht => ?_⟩
  · have htl : t < kl.length := by omega
    have hg : kl[t]? = some kl[t] := List.getElem?_eq_getElem htl
    have hgv : (boolsV kl)[t]? = some (.bool kl[t]) := by unfold boolsV; rw [List.getElem?_map, hg]; rfl
    rw [hg]
    obtain ⟨ad, rfl⟩ := hr.addr fun e => by rw [e] at hgv; cases hgv
    refine ⟨ad, rfl, by omega, by omega, kl[t], by rw [Int.toNat_natCast, Nat.mul_one]; exact hr.at_ hgv, rfl, rfl⟩
  · rw [List.getElem?_eq_none (by omega)]
    exact ⟨rfl, rfl⟩
theorem dRestart_spec (h : DG w o g d) (ok : Tags w o) (hd : d.ok m) (hm : m < 100000) {ka : Option Addr} {kc : Nat} {kl : List Bool} (hr : Row w o ka (boolsV kl)) : Calls Try.prog 20 #[.pointer (some (blk g)), .slice ka kl.length kc] w (Ret (.int .i64 0) fun w' => ∃ o', Step (fun j => j = g) w o w' o' ∧ DG w' o' g (restartD d kl)) := by
  refine disk_Disk_Restart.run _ _ _ _ ?_
  unfold disk_Disk_Restart.N
  refine ⟨fun h => (by cases h), fun _ => ?_⟩
  refine (settle_spec h ok hd hm (k := keepF kl) fun t w1 o1 ht s => ⟨by kernel_rfl, by exact cHas_spec (hr.step s).1 t⟩).mono fun e w5 ⟨he, o5, s5, D⟩ => ⟨he, _, rfl, ?_⟩
  obtain ⟨⟨ga, gc, pa, pc, hb, hg, hp⟩, tg⟩ := D
  refine ⟨hb.cani 4 rfl rfl, thenW_in fun w7 e7 => ?_⟩
  have X7 := (Ext.refl (fun b => b = g) w5).x_set (q := g) (i := 4) rfl (.inl rfl) e7
  have b7 := hb.seti 4 (v := .int .i64 0) rfl e7
  refine ⟨b7.cani 3 rfl rfl, thenW_in fun w8 e8 => ?_⟩
  have X8 := X7.x_set (q := g) (i := 3) rfl (.inl rfl) e8
  have b8 := b7.seti 3 (v := .bool false) rfl e8
  obtain ⟨s8, D8⟩ := DG.turn (d2 := restartD d kl) hg hp tg hb s5.ok X8 b8
  exact ⟨rfl, _, s5.trans s8, D8⟩
theorem zero_sectors (n : Nat) (z : Array Value) (hz : z.toList = Sec.z.C) : madeCells z (n * 65) = ((List.replicate n Sec.z).flatMap Sec.C).toArray := by
  apply Array.ext'
  apply List.ext_getElem?
  intro j
  have hzs : z.size = 65 := by rw [← Array.length_toList, hz, Sec.len]
  by_cases hj : j < n * 65
  · have h1 : j / 65 < n := by omega
    have h2 : (List.replicate n Sec.z)[j / 65]? = some Sec.z := by rw [List.getElem?_replicate, if_pos h1]
    have h3 := flat_get Sec.len h2 (j % 65) (by omega)
    rw [show j / 65 * 65 + j % 65 = j by omega] at h3
    show _ = ((List.replicate n Sec.z).flatMap Sec.C)[j]?
    rw [h3]
    have h4 : j % 65 < z.size := by omega
    have h5 : (madeCells z (n * 65)).toList[j]? = some (z[j % z.size]!) := by
      unfold madeCells
      simp [hj]
    rw [h5, hzs, getElem!_pos z (j % 65) h4, ← hz, List.getElem?_eq_getElem (by simpa using h4)]
    simp
  · rw [List.getElem?_eq_none (by unfold madeCells; simp; omega), List.getElem?_eq_none (by show ((List.replicate n Sec.z).flatMap Sec.C).length ≤ j; rw [flat_length Sec.len]; simp; omega)]
def newDS (n : Nat) : DS := ⟨List.replicate n Sec.z, [], 0, false, false, 0⟩
theorem dNew_spec (ok : Tags w o) {n : Nat} (h1 : 1 ≤ n) (h2 : n ≤ 400) : Calls Try.prog 7 #[.int .i64 n] w (fun x w' => ∃ q o', x = .returned (.tuple #[.pointer (some (blk q)), .int .i64 0]) ∧ w.heap.size ≤ q ∧ Step no w o w' o' ∧ DG w' o' q (newDS n)) := by
  refine (disk_New.go _ (R := fun v w' => ∃ q o', v = (.tuple #[.pointer (some (blk q)), .int .i64 0]) ∧ w.heap.size ≤ q ∧ Step no w o w' o' ∧ DG w' o' q (newDS n)) ?_).mono fun x w' ⟨v, he, q, o', hv, hw⟩ => ⟨q, o', by rw [he, hv], hw⟩
  unfold disk_New.N
  obtain ⟨i, hi, hz, hs, hb⟩ := info_of inf80
  have hmk := run_makeSlice (P := Try.prog) (w := w) 53 80 i _ Try.underlying53 hi hz .i64 .i64 n n (by omega) (Int.le_refl _) (by rw [hs]; omega) (by rw [hb]; omega) (by omega)
  have hzz : madeCells (Value.agg (List.replicate 64 (Value.int IntKind.u8 0) ++ [Value.bool false]).toArray).cells (n * 65) = ((List.replicate n Sec.z).flatMap Sec.C).toArray := zero_sectors n _ rfl
  rw [hs, Int.toNat_natCast, hzz] at hmk
  refine ⟨fun h => by omega, fun _ => ⟨fun h => by omega, fun _ => ⟨_, _, _, _, hmk, fun w6 q7 X6 hb6 hq hq' => ?_⟩⟩⟩
  have X5 : Ext no w (w.alloc (.cells ((List.replicate n Sec.z).flatMap Sec.C).toArray 80)) := (Ext.refl _ _).alloc _
  have b5 : Blk (w.alloc (.cells ((List.replicate n Sec.z).flatMap Sec.C).toArray 80)) w.heap.size 80 ((List.replicate n Sec.z).flatMap Sec.C) := Blk.new _ _ _
  have b6 := b5.ext X6 fun h => h
  have hsz : (w.alloc (.cells ((List.replicate n Sec.z).flatMap Sec.C).toArray 80)).heap.size = w.heap.size + 1 := by simp
  rw [hsz] at hq
  have s6 := ((Step.of_no (X5.trans X6) ok).tag (p := w.heap.size) (j := q7) (Nat.le_refl _) hq').tag (p := q7) (j := q7) (by omega) hq'
  refine ⟨q7, _, rfl, by omega, s6, ⟨some (blk w.heap.size), n, none, 0, ?_, ⟨?_, fun ad ha => ?_⟩, Grows.nil _ _ _ _ _⟩, tag_self⟩
  · have e : (newDS n).V (some (blk w.heap.size)) n none 0 = [.slice (some (blk w.heap.size)) n n, .slice none 0 0, .int .i64 0, .bool false, .int .i64 0, .int .i64 0] := by unfold DS.V newDS; simp [stI]
    rw [e]; exact hb6
  · have hn : (newDS n).good.length = n := by unfold newDS; simp
    rw [hn]
    exact owns_of_blk b6 (by rw [flat_length Sec.len, hn]) (by unfold maxLen; omega)
  · cases ha
    exact ⟨by rw [tag_ne (by show w.heap.size ≠ q7; omega)]; exact tag_self, b6.lt⟩
end
end Go.Proofs.Ytidijnfkcpbkiaa

/- Journal: predicates of a journal on a disk. -/
set_option linter.unusedVariables false
set_option linter.unusedSimpArgs false
set_option maxRecDepth 20000
set_option maxHeartbeats 4000000
namespace Go.Proofs.Ytidijnfkcpbkiaa
open Go Go.Mx Go.Proofs
/-- journal.stretch -/
def journal_stretch.M (d1 : Option Addr) (a1 : Int) (a2 : Int) (ai : Int) (R : Value → World → Prop) (w : World) : Prop :=
 Calls Try.prog 22 #[.pointer d1] w fun co a3 => ∃ (a0 : Int), co = .returned (.int .i64 a0) ∧
 bif Option.isNone d1 then (
 bif ai != 0 then (
 bif decide (a1 ≥ 0) then (
 bif decide (a2 ≥ 1) then (
 R (.tuple #[.slice none 0 0, .int .i64 23]) a3) else (
 bif ai == 0 then (
 R (.tuple #[.slice none 0 0, .int .i64 1]) a3) else (
 bif decide (a1 < 0) then (
 R (.tuple #[.slice none 0 0, .int .i64 1]) a3) else (
 bif decide (a2 < 1) then (
 R (.tuple #[.slice none 0 0, .int .i64 1]) a3) else (
 bif decide (a1 > a0) then (
 R (.tuple #[.slice none 0 0, .int .i64 1]) a3) else (
 bif decide (a2 > (IntKind.i64.wrap (a0 - a1))) then (
 R (.tuple #[.slice none 0 0, .int .i64 1]) a3) else (
 Calls Try.prog 23 #[.pointer d1] a3 fun ck b7 => ∃ (ak : Bool), ck = .returned (.bool ak) ∧
 bif ak then (
 R (.tuple #[.slice none 0 0, .int .i64 19]) b7) else (
 ∃ (I1 : Nat → List Value → World → Prop) (cj : Nat), I1 cj [.slice none 0 0, .int .i64 0] b7 ∧ ∀ (ch : Nat) (ax : World) (az : Option Addr) (al : Nat) (an : Nat) (bw : Int), I1 ch [.slice az al an, .int .i64 bw] ax →
 bif decide (bw < a2) then (
 Calls Try.prog 25 #[.pointer d1, .int .i64 (IntKind.i64.wrap (a1 + bw))] ax fun c3 bs => ∃ (aa : Option Addr) (a8 : Nat) (a9 : Nat) (au : Int), c3 = .returned (.tuple #[.slice aa a8 a9, .int .i64 au]) ∧
 thenW (bs.alloc (.cells #[.slice aa a8 a9] 30)) fun c1 =>
 ∃ (bq : Option Addr) (bg : Nat) (bp : Nat) (ba : World), (Builtin.append_ #[31, 31] 31 #[.slice az al an, .slice (some (blk bs.heap.size)) 1 1]).run Try.prog c1 = .ok (.slice bq bg bp) ba ∧
 ∃ ci, ci < ch ∧ I1 ci [.slice bq bg bp, .int .i64 (IntKind.i64.wrap (bw + 1))] ba) else (
 R (.tuple #[.slice az al an, .int .i64 0]) ax))))))))) else (
 bif ai == 0 then (
 R (.tuple #[.slice none 0 0, .int .i64 1]) a3) else (
 bif decide (a1 < 0) then (
 R (.tuple #[.slice none 0 0, .int .i64 1]) a3) else (
 bif decide (a2 < 1) then (
 R (.tuple #[.slice none 0 0, .int .i64 1]) a3) else (
 bif decide (a1 > a0) then (
 R (.tuple #[.slice none 0 0, .int .i64 1]) a3) else (
 bif decide (a2 > (IntKind.i64.wrap (a0 - a1))) then (
 R (.tuple #[.slice none 0 0, .int .i64 1]) a3) else (
 Calls Try.prog 23 #[.pointer d1] a3 fun c7 bu => ∃ (ag : Bool), c7 = .returned (.bool ag) ∧
 bif ag then (
 R (.tuple #[.slice none 0 0, .int .i64 19]) bu) else (
 ∃ (I1 : Nat → List Value → World → Prop) (cm : Nat), I1 cm [.slice none 0 0, .int .i64 0] bu ∧ ∀ (cc : Nat) (ar : World) (b3 : Option Addr) (aq : Nat) (b0 : Nat) (bv : Int), I1 cc [.slice b3 aq b0, .int .i64 bv] ar →
 bif decide (bv < a2) then (
 Calls Try.prog 25 #[.pointer d1, .int .i64 (IntKind.i64.wrap (a1 + bv))] ar fun c2 bi => ∃ (ad : Option Addr) (af : Nat) (a7 : Nat) (ap : Int), c2 = .returned (.tuple #[.slice ad af a7, .int .i64 ap]) ∧
 thenW (bi.alloc (.cells #[.slice ad af a7] 30)) fun c6 =>
 ∃ (bh : Option Addr) (bd : Nat) (be : Nat) (bb : World), (Builtin.append_ #[31, 31] 31 #[.slice b3 aq b0, .slice (some (blk bi.heap.size)) 1 1]).run Try.prog c6 = .ok (.slice bh bd be) bb ∧
 ∃ cg, cg < cc ∧ I1 cg [.slice bh bd be, .int .i64 (IntKind.i64.wrap (bv + 1))] bb) else (
 R (.tuple #[.slice b3 aq b0, .int .i64 0]) ar))))))))) else (
 bif ai == 0 then (
 R (.tuple #[.slice none 0 0, .int .i64 1]) a3) else (
 bif decide (a1 < 0) then (
 R (.tuple #[.slice none 0 0, .int .i64 1]) a3) else (
 bif decide (a2 < 1) then (
 R (.tuple #[.slice none 0 0, .int .i64 1]) a3) else (
 bif decide (a1 > a0) then (
 R (.tuple #[.slice none 0 0, .int .i64 1]) a3) else (
 bif decide (a2 > (IntKind.i64.wrap (a0 - a1))) then (
 R (.tuple #[.slice none 0 0, .int .i64 1]) a3) else (
 Calls Try.prog 23 #[.pointer d1] a3 fun c5 bc => ∃ (aj : Bool), c5 = .returned (.bool aj) ∧
 bif aj then (
 R (.tuple #[.slice none 0 0, .int .i64 19]) bc) else (
 ∃ (I1 : Nat → List Value → World → Prop) (cl : Nat), I1 cl [.slice none 0 0, .int .i64 0] bc ∧ ∀ (cf : Nat) (ao : World) (b2 : Option Addr) (b5 : Nat) (b1 : Nat) (bz : Int), I1 cf [.slice b2 b5 b1, .int .i64 bz] ao →
 bif decide (bz < a2) then (
 Calls Try.prog 25 #[.pointer d1, .int .i64 (IntKind.i64.wrap (a1 + bz))] ao fun ca bt => ∃ (ae : Option Addr) (ab : Nat) (a6 : Nat) (b6 : Int), ca = .returned (.tuple #[.slice ae ab a6, .int .i64 b6]) ∧
 thenW (bt.alloc (.cells #[.slice ae ab a6] 30)) fun c9 =>
 ∃ (bn : Option Addr) (bf : Nat) (bl : Nat) (bj : World), (Builtin.append_ #[31, 31] 31 #[.slice b2 b5 b1, .slice (some (blk bt.heap.size)) 1 1]).run Try.prog c9 = .ok (.slice bn bf bl) bj ∧
 ∃ ce, ce < cf ∧ I1 ce [.slice bn bf bl, .int .i64 (IntKind.i64.wrap (bz + 1))] bj) else (
 R (.tuple #[.slice b2 b5 b1, .int .i64 0]) ao))))))))) else (
 bif ai == 0 then (
 R (.tuple #[.slice none 0 0, .int .i64 1]) a3) else (
 bif decide (a1 < 0) then (
 R (.tuple #[.slice none 0 0, .int .i64 1]) a3) else (
 bif decide (a2 < 1) then (
 R (.tuple #[.slice none 0 0, .int .i64 1]) a3) else (
 bif decide (a1 > a0) then (
 R (.tuple #[.slice none 0 0, .int .i64 1]) a3) else (
 bif decide (a2 > (IntKind.i64.wrap (a0 - a1))) then (
 R (.tuple #[.slice none 0 0, .int .i64 1]) a3) else (
 Calls Try.prog 23 #[.pointer d1] a3 fun c8 bm => ∃ (ah : Bool), c8 = .returned (.bool ah) ∧
 bif ah then (
 R (.tuple #[.slice none 0 0, .int .i64 19]) bm) else (
 ∃ (I1 : Nat → List Value → World → Prop) (cn : Nat), I1 cn [.slice none 0 0, .int .i64 0] bm ∧ ∀ (cb : Nat) (aw : World) (av : Option Addr) (b4 : Nat) (ay : Nat) (bx : Int), I1 cb [.slice av b4 ay, .int .i64 bx] aw →
 bif decide (bx < a2) then (
 Calls Try.prog 25 #[.pointer d1, .int .i64 (IntKind.i64.wrap (a1 + bx))] aw fun c0 b8 => ∃ (a4 : Option Addr) (ac : Nat) (a5 : Nat) (am : Int), c0 = .returned (.tuple #[.slice a4 ac a5, .int .i64 am]) ∧
 thenW (b8.alloc (.cells #[.slice a4 ac a5] 30)) fun c4 =>
 ∃ (bk : Option Addr) (br : Nat) (b9 : Nat) (bo : World), (Builtin.append_ #[31, 31] 31 #[.slice av b4 ay, .slice (some (blk b8.heap.size)) 1 1]).run Try.prog c4 = .ok (.slice bk br b9) bo ∧
 ∃ cd, cd < cb ∧ I1 cd [.slice bk br b9, .int .i64 (IntKind.i64.wrap (bx + 1))] bo) else (
 R (.tuple #[.slice av b4 ay, .int .i64 0]) aw))))))))

theorem journal_stretch.eq (d1 : Option Addr) (base2 : Int) (size3 : Int) (gen4 : Int) (R : Value → World → Prop) (w : World) : mfunc Try.prog [(1, [0, 1, 57], [(8, (.one .slice)), (58, (.one (.int .i64)))])] 51 [.pointer d1, .int .i64 base2, .int .i64 size3, .int .u32 gen4] R w = journal_stretch.M d1 base2 size3 gen4 R w := by kernel_rfl
theorem journal_stretch.ok (d1 : Option Addr) (a1 : Int) (a0 : Int) (a2 : Int) {R : Value → World → Prop} {w : World} (h : journal_stretch.M d1 a1 a0 a2 R w) : Calls Try.prog 51 #[.pointer d1, .int .i64 a1, .int .i64 a0, .int .u32 a2] w fun e w' => ∃ v, e = .returned v ∧ R v w' :=
  mfunc_ok follows (H := [(1, [0, 1, 57], [(8, (.one .slice)), (58, (.one (.int .i64)))])]) (args := [.pointer d1, .int .i64 a1, .int .i64 a0, .int .u32 a2]) (by rw [journal_stretch.eq]; exact h)

def journal_stretch.N (d1 : Option Addr) (a1 : Int) (a2 : Int) (a4 : Int) (R : Value → World → Prop) (w : World) : Prop :=
 Calls Try.prog 22 #[.pointer d1] w fun c4 a3 => ∃ (a0 : Int), c4 = .returned (.int .i64 a0) ∧
 (d1 = none →
 (a4 ≠ 0 →
 (a1 ≥ 0 →
 (a2 ≥ 1 →
 R (.tuple #[.slice none 0 0, .int .i64 23]) a3) ∧
 (a2 < 1 →
 (a4 = 0 →
 R (.tuple #[.slice none 0 0, .int .i64 1]) a3) ∧
 (a4 ≠ 0 →
 (a1 < 0 →
 R (.tuple #[.slice none 0 0, .int .i64 1]) a3) ∧
 ((0 : Int) ≤ a1 →
 (a2 < 1 →
 R (.tuple #[.slice none 0 0, .int .i64 1]) a3) ∧
 ((1 : Int) ≤ a2 →
 (a1 > a0 →
 R (.tuple #[.slice none 0 0, .int .i64 1]) a3) ∧
 (a1 ≤ a0 →
 (-9223372036854775808 : Int) ≤ (a0 - a1) ∧ (a0 - a1) < 9223372036854775808 ∧
 (a2 > (a0 - a1) →
 R (.tuple #[.slice none 0 0, .int .i64 1]) a3) ∧
 (a2 ≤ (a0 - a1) →
 Calls Try.prog 23 #[.pointer d1] a3 fun bq b6 => ∃ (a6 : Bool), bq = .returned (.bool a6) ∧
 (a6 = true →
 R (.tuple #[.slice none 0 0, .int .i64 19]) b6) ∧
 (a6 = false →
 ∃ (I1 : Nat → List Value → World → Prop) (c5 : Nat), I1 c5 [.slice none 0 0, .int .i64 0] b6 ∧ ∀ (bz : Nat) (ar : World) (ay : Option Addr) (au : Nat) (av : Nat) (ai : Int), I1 bz [.slice ay au av, .int .i64 ai] ar →
 (ai < a2 →
 (-9223372036854775808 : Int) ≤ (a1 + ai) ∧ (a1 + ai) < 9223372036854775808 ∧
 Calls Try.prog 25 #[.pointer d1, .int .i64 (a1 + ai)] ar fun bs bg => ∃ (aa : Option Addr) (ac : Nat) (ag : Nat) (ap : Int), bs = .returned (.tuple #[.slice aa ac ag, .int .i64 ap]) ∧
 ∀ (am : World) (bm : Nat), Ext no bg am → Blk am bm 30 [.slice aa ac ag] → bg.heap.size ≤ bm → bm < am.heap.size →
 ∃ (b5 : Option Addr) (be : Nat) (bl : Nat) (b4 : World), (Builtin.append_ #[31, 31] 31 #[.slice ay au av, .slice (some (blk bm)) 1 1]).run Try.prog am = .ok (.slice b5 be bl) b4 ∧
 (-9223372036854775808 : Int) ≤ (ai + 1) ∧ (ai + 1) < 9223372036854775808 ∧
 ∃ c0, c0 < bz ∧ I1 c0 [.slice b5 be bl, .int .i64 (ai + 1)] b4) ∧
 (a2 ≤ ai →
 R (.tuple #[.slice ay au av, .int .i64 0]) ar))))))))) ∧
 (a1 < 0 →
 (a4 = 0 →
 R (.tuple #[.slice none 0 0, .int .i64 1]) a3) ∧
 (a4 ≠ 0 →
 (a1 < 0 →
 R (.tuple #[.slice none 0 0, .int .i64 1]) a3) ∧
 ((0 : Int) ≤ a1 →
 (a2 < 1 →
 R (.tuple #[.slice none 0 0, .int .i64 1]) a3) ∧
 ((1 : Int) ≤ a2 →
 (a1 > a0 →
 R (.tuple #[.slice none 0 0, .int .i64 1]) a3) ∧
 (a1 ≤ a0 →
 (-9223372036854775808 : Int) ≤ (a0 - a1) ∧ (a0 - a1) < 9223372036854775808 ∧
 (a2 > (a0 - a1) →
 R (.tuple #[.slice none 0 0, .int .i64 1]) a3) ∧
 (a2 ≤ (a0 - a1) →
 Calls Try.prog 23 #[.pointer d1] a3 fun bp bh => ∃ (a7 : Bool), bp = .returned (.bool a7) ∧
 (a7 = true →
 R (.tuple #[.slice none 0 0, .int .i64 19]) bh) ∧
 (a7 = false →
 ∃ (I1 : Nat → List Value → World → Prop) (c3 : Nat), I1 c3 [.slice none 0 0, .int .i64 0] bh ∧ ∀ (bx : Nat) (ax : World) (b0 : Option Addr) (az : Nat) (aq : Nat) (ah : Int), I1 bx [.slice b0 az aq, .int .i64 ah] ax →
 (ah < a2 →
 (-9223372036854775808 : Int) ≤ (a1 + ah) ∧ (a1 + ah) < 9223372036854775808 ∧
 Calls Try.prog 25 #[.pointer d1, .int .i64 (a1 + ah)] ax fun br b8 => ∃ (a8 : Option Addr) (af : Nat) (a9 : Nat) (b1 : Int), br = .returned (.tuple #[.slice a8 af a9, .int .i64 b1]) ∧
 ∀ (aj : World) (bo : Nat), Ext no b8 aj → Blk aj bo 30 [.slice a8 af a9] → b8.heap.size ≤ bo → bo < aj.heap.size →
 ∃ (bi : Option Addr) (bc : Nat) (bf : Nat) (bd : World), (Builtin.append_ #[31, 31] 31 #[.slice b0 az aq, .slice (some (blk bo)) 1 1]).run Try.prog aj = .ok (.slice bi bc bf) bd ∧
 (-9223372036854775808 : Int) ≤ (ah + 1) ∧ (ah + 1) < 9223372036854775808 ∧
 ∃ c1, c1 < bx ∧ I1 c1 [.slice bi bc bf, .int .i64 (ah + 1)] bd) ∧
 (a2 ≤ ah →
 R (.tuple #[.slice b0 az aq, .int .i64 0]) ax))))))))) ∧
 (a4 = 0 →
 R (.tuple #[.slice none 0 0, .int .i64 1]) a3)) ∧
 (d1 ≠ none →
 (a4 = 0 →
 R (.tuple #[.slice none 0 0, .int .i64 1]) a3) ∧
 (a4 ≠ 0 →
 (a1 < 0 →
 R (.tuple #[.slice none 0 0, .int .i64 1]) a3) ∧
 ((0 : Int) ≤ a1 →
 (a2 < 1 →
 R (.tuple #[.slice none 0 0, .int .i64 1]) a3) ∧
 ((1 : Int) ≤ a2 →
 (a1 > a0 →
 R (.tuple #[.slice none 0 0, .int .i64 1]) a3) ∧
 (a1 ≤ a0 →
 (-9223372036854775808 : Int) ≤ (a0 - a1) ∧ (a0 - a1) < 9223372036854775808 ∧
 (a2 > (a0 - a1) →
 R (.tuple #[.slice none 0 0, .int .i64 1]) a3) ∧
 (a2 ≤ (a0 - a1) →
 Calls Try.prog 23 #[.pointer d1] a3 fun bu ba => ∃ (a5 : Bool), bu = .returned (.bool a5) ∧
 (a5 = true →
 R (.tuple #[.slice none 0 0, .int .i64 19]) ba) ∧
 (a5 = false →
 ∃ (I1 : Nat → List Value → World → Prop) (c2 : Nat), I1 c2 [.slice none 0 0, .int .i64 0] ba ∧ ∀ (bv : Nat) (b2 : World) (ao : Option Addr) (aw : Nat) (b3 : Nat) (ak : Int), I1 bv [.slice ao aw b3, .int .i64 ak] b2 →
 (ak < a2 →
 (-9223372036854775808 : Int) ≤ (a1 + ak) ∧ (a1 + ak) < 9223372036854775808 ∧
 Calls Try.prog 25 #[.pointer d1, .int .i64 (a1 + ak)] b2 fun bt bj => ∃ (ae : Option Addr) (ab : Nat) (ad : Nat) (an : Int), bt = .returned (.tuple #[.slice ae ab ad, .int .i64 an]) ∧
 ∀ (al : World) (bn : Nat), Ext no bj al → Blk al bn 30 [.slice ae ab ad] → bj.heap.size ≤ bn → bn < al.heap.size →
 ∃ (bk : Option Addr) (b9 : Nat) (b7 : Nat) (bb : World), (Builtin.append_ #[31, 31] 31 #[.slice ao aw b3, .slice (some (blk bn)) 1 1]).run Try.prog al = .ok (.slice bk b9 b7) bb ∧
 (-9223372036854775808 : Int) ≤ (ak + 1) ∧ (ak + 1) < 9223372036854775808 ∧
 ∃ bw, bw < bv ∧ I1 bw [.slice bk b9 b7, .int .i64 (ak + 1)] bb) ∧
 (a2 ≤ ak →
 R (.tuple #[.slice ao aw b3, .int .i64 0]) b2))))))))

theorem journal_stretch.up (d1 : Option Addr) (ad : Int) (ac : Int) (an : Int) {R : Value → World → Prop} {w : World} (h : journal_stretch.N d1 ad ac an R w) : journal_stretch.M d1 ad ac an R w := by
  unfold journal_stretch.M
  unfold journal_stretch.N at h
  refine h.mono fun cw cv h => ?_
  obtain ⟨a2, he, h⟩ := h
  refine ⟨a2, he, ?_⟩
  refine bif_of (fun c8 => ?_) (fun c8 => ?_)
  · have h := h.1 (isNone_t c8)
    refine bif_of (fun c9 => ?_) (fun c9 => ?_)
    · have h := h.1 (bne_t c9)
      refine bif_of (fun bb => ?_) (fun bb => ?_)
      · have h := h.1 (of_decide_eq_true bb)
        refine bif_of (fun bh => ?_) (fun bh => ?_)
        · have h := h.1 (of_decide_eq_true bh)
          exact h
        · have h := h.2 (Int.not_le.1 (of_decide_eq_false bh))
          refine bif_of (fun bw => ?_) (fun bw => ?_)
          · have h := h.1 (beq_t bw)
            exact h
          · have h := h.2 (beq_f bw)
            refine bif_of (fun c3 => ?_) (fun c3 => ?_)
            · have h := h.1 (of_decide_eq_true c3)
              exact h
            · have h := h.2 (Int.not_lt.1 (of_decide_eq_false c3))
              refine bif_of (fun c1 => ?_) (fun c1 => ?_)
              · have h := h.1 (of_decide_eq_true c1)
                exact h
              · have h := h.2 (Int.not_lt.1 (of_decide_eq_false c1))
                refine bif_of (fun b4 => ?_) (fun b4 => ?_)
                · have h := h.1 (of_decide_eq_true b4)
                  exact h
                · have h := h.2 (Int.not_lt.1 (of_decide_eq_false b4))
                  obtain ⟨a0, a1, h⟩ := h
                  try rw [w64 a0 a1]
                  refine bif_of (fun bi => ?_) (fun bi => ?_)
                  · have h := h.1 (of_decide_eq_true bi)
                    exact h
                  · have h := h.2 (Int.not_lt.1 (of_decide_eq_false bi))
                    refine h.mono fun cm cq h => ?_
                    obtain ⟨ak, he, h⟩ := h
                    refine ⟨ak, he, ?_⟩
                    refine bif_of (fun b2 => ?_) (fun b2 => ?_)
                    · have h := h.1 b2
                      exact h
                    · have h := h.2 b2
                      obtain ⟨I1, cu, h0, h⟩ := h
                      refine ⟨I1, cu, h0, fun cg ap c2 b8 ba cd hI => ?_⟩
                      have h := h cg ap c2 b8 ba cd hI
                      refine bif_of (fun bx => ?_) (fun bx => ?_)
                      · have h := h.1 (of_decide_eq_true bx)
                        obtain ⟨a0, a1, h⟩ := h
                        try rw [w64 a0 a1]
                        refine h.mono fun cr ag h => ?_
                        obtain ⟨a3, a8, a9, ah, he, h⟩ := h
                        refine ⟨a3, a8, a9, ah, he, ?_⟩
                        refine thenW_in fun ax bd => ?_
                        have h := h ax ag.heap.size ((Ext.refl no ag).x_alloc bd) (Blk.of_new bd) ((Ext.refl no ag)).size (size_lt_alloc bd)
                        obtain ⟨c0, bs, c7, ao, hr, h⟩ := h
                        refine ⟨c0, bs, c7, ao, hr, ?_⟩
                        obtain ⟨a0, a1, h⟩ := h
                        try rw [w64 a0 a1]
                        obtain ⟨cs, hk, h⟩ := h
                        exact ⟨cs, hk, h⟩
                      · have h := h.2 (Int.not_lt.1 (of_decide_eq_false bx))
                        exact h
      · have h := h.2 (Int.not_le.1 (of_decide_eq_false bb))
        refine bif_of (fun b3 => ?_) (fun b3 => ?_)
        · have h := h.1 (beq_t b3)
          exact h
        · have h := h.2 (beq_f b3)
          refine bif_of (fun b6 => ?_) (fun b6 => ?_)
          · have h := h.1 (of_decide_eq_true b6)
            exact h
          · have h := h.2 (Int.not_lt.1 (of_decide_eq_false b6))
            refine bif_of (fun br => ?_) (fun br => ?_)
            · have h := h.1 (of_decide_eq_true br)
              exact h
            · have h := h.2 (Int.not_lt.1 (of_decide_eq_false br))
              refine bif_of (fun b0 => ?_) (fun b0 => ?_)
              · have h := h.1 (of_decide_eq_true b0)
                exact h
              · have h := h.2 (Int.not_lt.1 (of_decide_eq_false b0))
                obtain ⟨a0, a1, h⟩ := h
                try rw [w64 a0 a1]
                refine bif_of (fun b1 => ?_) (fun b1 => ?_)
                · have h := h.1 (of_decide_eq_true b1)
                  exact h
                · have h := h.2 (Int.not_lt.1 (of_decide_eq_false b1))
                  refine h.mono fun ck ct h => ?_
                  obtain ⟨al, he, h⟩ := h
                  refine ⟨al, he, ?_⟩
                  refine bif_of (fun bo => ?_) (fun bo => ?_)
                  · have h := h.1 bo
                    exact h
                  · have h := h.2 bo
                    obtain ⟨I1, cf, h0, h⟩ := h
                    refine ⟨I1, cf, h0, fun ce ar av be az cb hI => ?_⟩
                    have h := h ce ar av be az cb hI
                    refine bif_of (fun b5 => ?_) (fun b5 => ?_)
                    · have h := h.1 (of_decide_eq_true b5)
                      obtain ⟨a0, a1, h⟩ := h
                      try rw [w64 a0 a1]
                      refine h.mono fun cp aj h => ?_
                      obtain ⟨a6, a5, a7, am, he, h⟩ := h
                      refine ⟨a6, a5, a7, am, he, ?_⟩
                      refine thenW_in fun bc b7 => ?_
                      have h := h bc aj.heap.size ((Ext.refl no aj).x_alloc b7) (Blk.of_new b7) ((Ext.refl no aj)).size (size_lt_alloc b7)
                      obtain ⟨c4, bn, au, bp, hr, h⟩ := h
                      refine ⟨c4, bn, au, bp, hr, ?_⟩
                      obtain ⟨a0, a1, h⟩ := h
                      try rw [w64 a0 a1]
                      obtain ⟨ci, hk, h⟩ := h
                      exact ⟨ci, hk, h⟩
                    · have h := h.2 (Int.not_lt.1 (of_decide_eq_false b5))
                      exact h
    · have h := h.2 (bne_f c9)
      refine bif_tt (cong1 (r := true) (fun z => z == 0) (bne_f c9) (by decide)) ?_
      exact h
  · have h := h.2 (isNone_f c8)
    refine bif_of (fun bf => ?_) (fun bf => ?_)
    · have h := h.1 (beq_t bf)
      exact h
    · have h := h.2 (beq_f bf)
      refine bif_of (fun bt => ?_) (fun bt => ?_)
      · have h := h.1 (of_decide_eq_true bt)
        exact h
      · have h := h.2 (Int.not_lt.1 (of_decide_eq_false bt))
        refine bif_of (fun bm => ?_) (fun bm => ?_)
        · have h := h.1 (of_decide_eq_true bm)
          exact h
        · have h := h.2 (Int.not_lt.1 (of_decide_eq_false bm))
          refine bif_of (fun c5 => ?_) (fun c5 => ?_)
          · have h := h.1 (of_decide_eq_true c5)
            exact h
          · have h := h.2 (Int.not_lt.1 (of_decide_eq_false c5))
            obtain ⟨a0, a1, h⟩ := h
            try rw [w64 a0 a1]
            refine bif_of (fun aw => ?_) (fun aw => ?_)
            · have h := h.1 (of_decide_eq_true aw)
              exact h
            · have h := h.2 (Int.not_lt.1 (of_decide_eq_false aw))
              refine h.mono fun ch cc h => ?_
              obtain ⟨ai, he, h⟩ := h
              refine ⟨ai, he, ?_⟩
              refine bif_of (fun bq => ?_) (fun bq => ?_)
              · have h := h.1 bq
                exact h
              · have h := h.2 bq
                obtain ⟨I1, cn, h0, h⟩ := h
                refine ⟨I1, cn, h0, fun ca bv bz aq ay cl hI => ?_⟩
                have h := h ca bv bz aq ay cl hI
                refine bif_of (fun b9 => ?_) (fun b9 => ?_)
                · have h := h.1 (of_decide_eq_true b9)
                  obtain ⟨a0, a1, h⟩ := h
                  try rw [w64 a0 a1]
                  refine h.mono fun co af h => ?_
                  obtain ⟨ab, a4, aa, ae, he, h⟩ := h
                  refine ⟨ab, a4, aa, ae, he, ?_⟩
                  refine thenW_in fun bg bu => ?_
                  have h := h bg af.heap.size ((Ext.refl no af).x_alloc bu) (Blk.of_new bu) ((Ext.refl no af)).size (size_lt_alloc bu)
                  obtain ⟨c6, bk, bj, bl, hr, h⟩ := h
                  refine ⟨c6, bk, bj, bl, hr, ?_⟩
                  obtain ⟨a0, a1, h⟩ := h
                  try rw [w64 a0 a1]
                  obtain ⟨cj, hk, h⟩ := h
                  exact ⟨cj, hk, h⟩
                · have h := h.2 (Int.not_lt.1 (of_decide_eq_false b9))
                  exact h

theorem journal_stretch.go (d1 : Option Addr) (a1 : Int) (a0 : Int) (a2 : Int) {R : Value → World → Prop} {w : World} (h : journal_stretch.N d1 a1 a0 a2 R w) : Calls Try.prog 51 #[.pointer d1, .int .i64 a1, .int .i64 a0, .int .u32 a2] w fun e w' => ∃ v, e = .returned v ∧ R v w' := journal_stretch.ok d1 a1 a0 a2 (journal_stretch.up d1 a1 a0 a2 h)
/-- journal.Open -/
def journal_Open.M (d1 : Option Addr) (aa : Int) (a9 : Int) (ab : Int) (R : Value → World → Prop) (w : World) : Prop :=
 Calls Try.prog 51 #[.pointer d1, .int .i64 aa, .int .i64 a9, .int .u32 ab] w fun ag af => ∃ (a2 : Option Addr) (a3 : Nat) (a1 : Nat) (a0 : Int), ag = .returned (.tuple #[.slice a2 a3 a1, .int .i64 a0]) ∧
 bif a0 != 0 then (
 R (.tuple #[.pointer none, .slice none 0 0, .int .i64 a0]) af) else (
 Calls Try.prog 52 #[.slice a2 a3 a1, .int .u32 ab] af fun ad ac => ∃ (a8 : Option Addr) (a4 : Nat) (a6 : Nat) (a7 : Int) (a5 : Int), ad = .returned (.tuple #[.slice a8 a4 a6, .int .i64 a7, .int .u32 a5]) ∧
 bif (IntKind.u32.wrap (a5 + 1)) == 0 then (
 R (.tuple #[.pointer none, .slice none 0 0, .int .i64 2]) ac) else (
 thenW (ac.alloc (.cells #[.pointer d1, .int .i64 aa, .int .i64 a9, .int .u32 ab, .int .u32 (IntKind.u32.wrap (a5 + 1)), .int .i64 a7, .int .i64 (a4 : Int), .bool false] 92)) fun ae =>
 R (.tuple #[.pointer (some (blk ac.heap.size)), .slice a8 a4 a6, .int .i64 0]) ae))

theorem journal_Open.eq (d1 : Option Addr) (base2 : Int) (size3 : Int) (gen4 : Int) (R : Value → World → Prop) (w : World) : mfunc Try.prog [] 26 [.pointer d1, .int .i64 base2, .int .i64 size3, .int .u32 gen4] R w = journal_Open.M d1 base2 size3 gen4 R w := by kernel_rfl
theorem journal_Open.ok (d1 : Option Addr) (a1 : Int) (a0 : Int) (a2 : Int) {R : Value → World → Prop} {w : World} (h : journal_Open.M d1 a1 a0 a2 R w) : Calls Try.prog 26 #[.pointer d1, .int .i64 a1, .int .i64 a0, .int .u32 a2] w fun e w' => ∃ v, e = .returned v ∧ R v w' :=
  mfunc_ok follows (H := []) (args := [.pointer d1, .int .i64 a1, .int .i64 a0, .int .u32 a2]) (by rw [journal_Open.eq]; exact h)

def journal_Open.N (d1 : Option Addr) (ab : Int) (aa : Int) (ac : Int) (R : Value → World → Prop) (w : World) : Prop :=
 Calls Try.prog 51 #[.pointer d1, .int .i64 ab, .int .i64 aa, .int .u32 ac] w fun ah ag => ∃ (a2 : Option Addr) (a3 : Nat) (a1 : Nat) (a0 : Int), ah = .returned (.tuple #[.slice a2 a3 a1, .int .i64 a0]) ∧
 (a0 ≠ 0 →
 R (.tuple #[.pointer none, .slice none 0 0, .int .i64 a0]) ag) ∧
 (a0 = 0 →
 Calls Try.prog 52 #[.slice a2 a3 a1, .int .u32 ac] ag fun af ad => ∃ (a7 : Option Addr) (a4 : Nat) (a6 : Nat) (a8 : Int) (a5 : Int), af = .returned (.tuple #[.slice a7 a4 a6, .int .i64 a8, .int .u32 a5]) ∧
 ((IntKind.u32.wrap (a5 + 1)) = 0 →
 R (.tuple #[.pointer none, .slice none 0 0, .int .i64 2]) ad) ∧
 ((IntKind.u32.wrap (a5 + 1)) ≠ 0 →
 ∀ (a9 : World) (ae : Nat), Ext no ad a9 → Blk a9 ae 92 [.pointer d1, .int .i64 ab, .int .i64 aa, .int .u32 ac, .int .u32 (IntKind.u32.wrap (a5 + 1)), .int .i64 a8, .int .i64 (a4 : Int), .bool false] → ad.heap.size ≤ ae → ae < a9.heap.size →
 R (.tuple #[.pointer (some (blk ae)), .slice a7 a4 a6, .int .i64 0]) a9))

theorem journal_Open.up (d1 : Option Addr) (a7 : Int) (a8 : Int) (ac : Int) {R : Value → World → Prop} {w : World} (h : journal_Open.N d1 a7 a8 ac R w) : journal_Open.M d1 a7 a8 ac R w := by
  unfold journal_Open.M
  unfold journal_Open.N at h
  refine h.mono fun ai ah h => ?_
  obtain ⟨a0, a1, a2, a3, he, h⟩ := h
  refine ⟨a0, a1, a2, a3, he, ?_⟩
  refine bif_of (fun c9 => ?_) (fun c9 => ?_)
  · have h := h.1 (bne_t c9)
    exact h
  · have h := h.2 (bne_f c9)
    refine h.mono fun ag aa h => ?_
    obtain ⟨a6, a4, a5, a9, ab, he, h⟩ := h
    refine ⟨a6, a4, a5, a9, ab, he, ?_⟩
    refine bif_of (fun ad => ?_) (fun ad => ?_)
    · have h := h.1 (beq_t ad)
      exact h
    · have h := h.2 (beq_f ad)
      refine thenW_in fun af ae => ?_
      have h := h af aa.heap.size ((Ext.refl no aa).x_alloc ae) (Blk.of_new ae) ((Ext.refl no aa)).size (size_lt_alloc ae)
      exact h

theorem journal_Open.go (d1 : Option Addr) (a1 : Int) (a0 : Int) (a2 : Int) {R : Value → World → Prop} {w : World} (h : journal_Open.N d1 a1 a0 a2 R w) : Calls Try.prog 26 #[.pointer d1, .int .i64 a1, .int .i64 a0, .int .u32 a2] w fun e w' => ∃ v, e = .returned v ∧ R v w' := journal_Open.ok d1 a1 a0 a2 (journal_Open.up d1 a1 a0 a2 h)
/-- journal.Create -/
def journal_Create.M (d1 : Option Addr) (a7 : Int) (a6 : Int) (a8 : Int) (R : Value → World → Prop) (w : World) : Prop :=
 Calls Try.prog 26 #[.pointer d1, .int .i64 a7, .int .i64 a6, .int .u32 a8] w fun ad a9 => ∃ (a0 : Option Addr) (a4 : Option Addr) (a2 : Nat) (a3 : Nat) (a1 : Int), ad = .returned (.tuple #[.pointer a0, .slice a4 a2 a3, .int .i64 a1]) ∧
 bif a1 == 0 then (
 a0.elim False fun ac =>
 canStore a9 ((ac.add 5).add 0) ∧
 thenW (a9.setCell ((ac.add 5).add 0) (.int .i64 0)) fun a5 =>
 a0.elim False fun ab =>
 canStore a5 ((ab.add 6).add 0) ∧
 thenW (a5.setCell ((ab.add 6).add 0) (.int .i64 0)) fun aa =>
 R (.tuple #[.pointer a0, .int .i64 a1]) aa) else (
 R (.tuple #[.pointer a0, .int .i64 a1]) a9)

theorem journal_Create.eq (d1 : Option Addr) (base2 : Int) (size3 : Int) (gen4 : Int) (R : Value → World → Prop) (w : World) : mfunc Try.prog [] 29 [.pointer d1, .int .i64 base2, .int .i64 size3, .int .u32 gen4] R w = journal_Create.M d1 base2 size3 gen4 R w := by kernel_rfl
theorem journal_Create.ok (d1 : Option Addr) (a1 : Int) (a0 : Int) (a2 : Int) {R : Value → World → Prop} {w : World} (h : journal_Create.M d1 a1 a0 a2 R w) : Calls Try.prog 29 #[.pointer d1, .int .i64 a1, .int .i64 a0, .int .u32 a2] w fun e w' => ∃ v, e = .returned v ∧ R v w' :=
  mfunc_ok follows (H := []) (args := [.pointer d1, .int .i64 a1, .int .i64 a0, .int .u32 a2]) (by rw [journal_Create.eq]; exact h)

def journal_Create.N (d1 : Option Addr) (a7 : Int) (a5 : Int) (a9 : Int) (R : Value → World → Prop) (w : World) : Prop :=
 Calls Try.prog 26 #[.pointer d1, .int .i64 a7, .int .i64 a5, .int .u32 a9] w fun ac aa => ∃ (a1 : Option Addr) (a4 : Option Addr) (a2 : Nat) (a3 : Nat) (a0 : Int), ac = .returned (.tuple #[.pointer a1, .slice a4 a2 a3, .int .i64 a0]) ∧
 (a0 = 0 →
 ∃ a6 : Addr, a1 = some a6 ∧
 canStore aa ((a6.add 5).add 0) ∧
 thenW (aa.setCell ((a6.add 5).add 0) (.int .i64 0)) fun a8 =>
 canStore a8 ((a6.add 6).add 0) ∧
 thenW (a8.setCell ((a6.add 6).add 0) (.int .i64 0)) fun ab =>
 R (.tuple #[.pointer a1, .int .i64 a0]) ab) ∧
 (a0 ≠ 0 →
 R (.tuple #[.pointer a1, .int .i64 a0]) aa)

theorem journal_Create.up (d1 : Option Addr) (a4 : Int) (a3 : Int) (a7 : Int) {R : Value → World → Prop} {w : World} (h : journal_Create.N d1 a4 a3 a7 R w) : journal_Create.M d1 a4 a3 a7 R w := by
  unfold journal_Create.M
  unfold journal_Create.N at h
  refine h.mono fun ag ae h => ?_
  obtain ⟨a6, a2, a0, a1, a5, he, h⟩ := h
  refine ⟨a6, a2, a0, a1, a5, he, ?_⟩
  refine bif_of (fun a9 => ?_) (fun a9 => ?_)
  · have h := h.1 (beq_t a9)
    obtain ⟨af, a8, h⟩ := h
    refine elim_some a8 ?_
    obtain ⟨hcs, h⟩ := h
    refine ⟨hcs, thenW_in fun ab ad => ?_⟩
    replace h := thenW_out h ad
    refine elim_some a8 ?_
    obtain ⟨hcs, h⟩ := h
    refine ⟨hcs, thenW_in fun aa ac => ?_⟩
    replace h := thenW_out h ac
    exact h
  · have h := h.2 (beq_f a9)
    exact h

theorem journal_Create.go (d1 : Option Addr) (a1 : Int) (a0 : Int) (a2 : Int) {R : Value → World → Prop} {w : World} (h : journal_Create.N d1 a1 a0 a2 R w) : Calls Try.prog 29 #[.pointer d1, .int .i64 a1, .int .i64 a0, .int .u32 a2] w fun e w' => ∃ v, e = .returned v ∧ R v w' := journal_Create.ok d1 a1 a0 a2 (journal_Create.up d1 a1 a0 a2 h)
/-- (*journal.Journal).Append -/
def journal_Journal_Append.M (j1 : Option Addr) (bn : Option Addr) (b5 : Nat) (bm : Nat) (R : Value → World → Prop) (w : World) : Prop :=
 Calls Try.prog 28 #[.int .i64 (b5 : Int)] w fun bq au => ∃ (a2 : Int), bq = .returned (.int .i64 a2) ∧
 bif Option.isNone j1 then (
 R (.int .i64 23) au) else (
 bif a2 == 0 then (
 R (.int .i64 3) au) else (
 j1.elim False fun a6 =>
 ∃ (aj : Bool), au.cell? (a6.add 7) = some (.bool aj) ∧
 bif aj then (
 R (.int .i64 19) au) else (
 thenW (au.drew) fun aw =>
 j1.elim False fun a9 =>
 ∃ (aa : Int), aw.cell? (a9.add 2) = some (.int .i64 aa) ∧
 j1.elim False fun bp =>
 ∃ (a7 : Int), aw.cell? (bp.add 5) = some (.int .i64 a7) ∧
 bif decide (a2 > (IntKind.i64.wrap (aa - a7))) then (
 R (.int .i64 18) aw) else (
 thenW (aw.drew) fun ah =>
 j1.elim False fun bo =>
 ∃ (al : Int), ah.cell? (bo.add 3) = some (.int .u32 al) ∧
 j1.elim False fun bg =>
 ∃ (a5 : Int), ah.cell? (bg.add 4) = some (.int .u32 a5) ∧
 j1.elim False fun bh =>
 ∃ (ak : Int), ah.cell? (bh.add 6) = some (.int .i64 ak) ∧
 Calls Try.prog 53 #[.int .u32 al, .int .u32 a5, .int .u32 (IntKind.u32.wrap ak), .slice bn b5 bm] ah fun ay b2 => ∃ (a3 : Option Addr) (a0 : Nat) (ac : Nat) (ag : Int), ay = .returned (.tuple #[.slice a3 a0 ac, .int .i64 ag]) ∧
 ∃ (I1 : Nat → List Value → World → Prop) (bf : Nat), I1 bf [.int .i64 0] b2 ∧ ∀ (bc : Nat) (af : World) (an : Int), I1 bc [.int .i64 an] af →
 bif decide (an < (a0 : Int)) then (
 a3.elim False fun br =>
 0 ≤ (an : Int) ∧ (an : Int) < (a0 : Int) ∧
 ∃ (aq : Option Addr) (ar : Nat) (av : Nat), af.cell? (br.add (Int.toNat an * 1)) = some (.slice aq ar av) ∧
 thenW (af.drew) fun ai =>
 j1.elim False fun bd =>
 ∃ (b7 : Option Addr), ai.cell? (bd.add 0) = some (.pointer b7) ∧
 j1.elim False fun bj =>
 ∃ (ae : Int), ai.cell? (bj.add 1) = some (.int .i64 ae) ∧
 j1.elim False fun bk =>
 ∃ (ad : Int), ai.cell? (bk.add 5) = some (.int .i64 ad) ∧
 Calls Try.prog 34 #[.pointer b7, .int .i64 (IntKind.i64.wrap ((IntKind.i64.wrap (ae + ad)) + an)), .slice aq ar av] ai fun b3 ao => ∃ (a1 : Int), b3 = .returned (.int .i64 a1) ∧
 bif a1 != 0 then (
 j1.elim False fun bb =>
 canStore ao ((bb.add 7).add 0) ∧
 thenW (ao.setCell ((bb.add 7).add 0) (.bool true)) fun az =>
 R (.int .i64 a1) az) else (
 ∃ ba, ba < bc ∧ I1 ba [.int .i64 (IntKind.i64.wrap (an + 1))] ao)) else (
 j1.elim False fun be =>
 ∃ (b4 : Option Addr), af.cell? (be.add 0) = some (.pointer b4) ∧
 Calls Try.prog 37 #[.pointer b4] af fun ax a8 => ∃ (a4 : Int), ax = .returned (.int .i64 a4) ∧
 bif a4 != 0 then (
 j1.elim False fun b8 =>
 canStore a8 ((b8.add 7).add 0) ∧
 thenW (a8.setCell ((b8.add 7).add 0) (.bool true)) fun b0 =>
 R (.int .i64 a4) b0) else (
 j1.elim False fun bl =>
 ∃ (ab : Int), a8.cell? (bl.add 5) = some (.int .i64 ab) ∧
 j1.elim False fun b6 =>
 canStore a8 ((b6.add 5).add 0) ∧
 thenW (a8.setCell ((b6.add 5).add 0) (.int .i64 (IntKind.i64.wrap (ab + a2)))) fun ap =>
 j1.elim False fun bi =>
 ∃ (am : Int), ap.cell? (bi.add 6) = some (.int .i64 am) ∧
 j1.elim False fun b9 =>
 canStore ap ((b9.add 6).add 0) ∧
 thenW (ap.setCell ((b9.add 6).add 0) (.int .i64 (IntKind.i64.wrap (am + 1)))) fun b1 =>
 R (.int .i64 0) b1))))))

theorem journal_Journal_Append.eq (j1 : Option Addr) (b2a : Option Addr) (b2n : Nat) (b2c : Nat) (R : Value → World → Prop) (w : World) : mfunc Try.prog [(1, [0, 5, 56, 57], [(58, (.one (.int .i64)))])] 32 [.pointer j1, .slice b2a b2n b2c] R w = journal_Journal_Append.M j1 b2a b2n b2c R w := by kernel_rfl
theorem journal_Journal_Append.ok (j1 : Option Addr) (a2 : Option Addr) (a0 : Nat) (a1 : Nat) {R : Value → World → Prop} {w : World} (h : journal_Journal_Append.M j1 a2 a0 a1 R w) : Calls Try.prog 32 #[.pointer j1, .slice a2 a0 a1] w fun e w' => ∃ v, e = .returned v ∧ R v w' :=
  mfunc_ok follows (H := [(1, [0, 5, 56, 57], [(58, (.one (.int .i64)))])]) (args := [.pointer j1, .slice a2 a0 a1]) (by rw [journal_Journal_Append.eq]; exact h)

def journal_Journal_Append.N (j1 : Option Addr) (ba : Option Addr) (aj : Nat) (b9 : Nat) (R : Value → World → Prop) (w : World) : Prop :=
 (j1 = none →
 ∀ (ak : World), Ext no w ak →
 R (.int .i64 23) ak) ∧
 (j1 ≠ none →
 ((journal_Parts.F (aj : Int)) = 0 →
 ∀ (ak : World), Ext no w ak →
 R (.int .i64 3) ak) ∧
 ((journal_Parts.F (aj : Int)) ≠ 0 →
 ∃ a6 : Addr, j1 = some a6 ∧
 ∃ (af : Bool), w.cell? (a6.add 7) = some (.bool af) ∧
 (af = true →
 ∀ (ak : World), Ext no w ak →
 R (.int .i64 19) ak) ∧
 (af = false →
 ∃ (a5 : Int), w.cell? (a6.add 2) = some (.int .i64 a5) ∧
 ∃ (a4 : Int), w.cell? (a6.add 5) = some (.int .i64 a4) ∧
 (-9223372036854775808 : Int) ≤ (a5 - a4) ∧ (a5 - a4) < 9223372036854775808 ∧
 ((journal_Parts.F (aj : Int)) > (a5 - a4) →
 ∀ (ao : World), Ext no w ao →
 R (.int .i64 18) ao) ∧
 ((journal_Parts.F (aj : Int)) ≤ (a5 - a4) →
 ∃ (ai : Int), w.cell? (a6.add 3) = some (.int .u32 ai) ∧
 ∃ (ac : Int), w.cell? (a6.add 4) = some (.int .u32 ac) ∧
 ∃ (al : Int), w.cell? (a6.add 6) = some (.int .i64 al) ∧
 ∀ (au : World), Ext no w au →
 Calls Try.prog 53 #[.int .u32 ai, .int .u32 ac, .int .u32 (IntKind.u32.wrap al), .slice ba aj b9] au fun ay b0 => ∃ (a9 : Option Addr) (a0 : Nat) (ae : Nat) (ah : Int), ay = .returned (.tuple #[.slice a9 a0 ae, .int .i64 ah]) ∧
 ∃ (I1 : Nat → List Value → World → Prop) (b8 : Nat), I1 b8 [.int .i64 0] b0 ∧ ∀ (b4 : Nat) (aa : World) (ad : Int), I1 b4 [.int .i64 ad] aa →
 (ad < (a0 : Int) →
 ∃ b3 : Addr, a9 = some b3 ∧
 0 ≤ (ad : Int) ∧ (ad : Int) < (a0 : Int) ∧
 ∃ (aq : Option Addr) (ar : Nat) (ap : Nat), aa.cell? (b3.add (Int.toNat ad * 1)) = some (.slice aq ar ap) ∧
 ∃ (b7 : Option Addr), aa.cell? (a6.add 0) = some (.pointer b7) ∧
 ∃ (a2 : Int), aa.cell? (a6.add 1) = some (.int .i64 a2) ∧
 ∃ (a1 : Int), aa.cell? (a6.add 5) = some (.int .i64 a1) ∧
 (-9223372036854775808 : Int) ≤ (a2 + a1) ∧ (a2 + a1) < 9223372036854775808 ∧
 (-9223372036854775808 : Int) ≤ ((a2 + a1) + ad) ∧ ((a2 + a1) + ad) < 9223372036854775808 ∧
 ∀ (av : World), Ext no aa av →
 Calls Try.prog 34 #[.pointer b7, .int .i64 ((a2 + a1) + ad), .slice aq ar ap] av fun az an => ∃ (a3 : Int), az = .returned (.int .i64 a3) ∧
 (a3 ≠ 0 →
 canStore an ((a6.add 7).add 0) ∧
 thenW (an.setCell ((a6.add 7).add 0) (.bool true)) fun b1 =>
 R (.int .i64 a3) b1) ∧
 (a3 = 0 →
 (-9223372036854775808 : Int) ≤ (ad + 1) ∧ (ad + 1) < 9223372036854775808 ∧
 ∃ b6, b6 < b4 ∧ I1 b6 [.int .i64 (ad + 1)] an)) ∧
 ((a0 : Int) ≤ ad →
 ∃ (b5 : Option Addr), aa.cell? (a6.add 0) = some (.pointer b5) ∧
 Calls Try.prog 37 #[.pointer b5] aa fun b2 ag => ∃ (a7 : Int), b2 = .returned (.int .i64 a7) ∧
 (a7 ≠ 0 →
 canStore ag ((a6.add 7).add 0) ∧
 thenW (ag.setCell ((a6.add 7).add 0) (.bool true)) fun aw =>
 R (.int .i64 a7) aw) ∧
 (a7 = 0 →
 ∃ (a8 : Int), ag.cell? (a6.add 5) = some (.int .i64 a8) ∧
 (-9223372036854775808 : Int) ≤ (a8 + (journal_Parts.F (aj : Int))) ∧ (a8 + (journal_Parts.F (aj : Int))) < 9223372036854775808 ∧
 canStore ag ((a6.add 5).add 0) ∧
 thenW (ag.setCell ((a6.add 5).add 0) (.int .i64 (a8 + (journal_Parts.F (aj : Int))))) fun am =>
 ∃ (ab : Int), am.cell? (a6.add 6) = some (.int .i64 ab) ∧
 (-9223372036854775808 : Int) ≤ (ab + 1) ∧ (ab + 1) < 9223372036854775808 ∧
 canStore am ((a6.add 6).add 0) ∧
 thenW (am.setCell ((a6.add 6).add 0) (.int .i64 (ab + 1))) fun ax =>
 R (.int .i64 0) ax))))))

theorem journal_Journal_Append.up (j1 : Option Addr) (bf : Option Addr) (ap : Nat) (bg : Nat) {R : Value → World → Prop} {w : World} (h : journal_Journal_Append.N j1 bf ap bg R w) : journal_Journal_Append.M j1 bf ap bg R w := by
  unfold journal_Journal_Append.M
  unfold journal_Journal_Append.N at h
  refine (journal_Parts.pure (ap : Int)).mono fun ee ww3 ⟨he, hxx⟩ => ⟨(journal_Parts.F (ap : Int)), he, ?_⟩
  have ao := (Ext.refl no w).trans hxx
  refine bif_of (fun c4 => ?_) (fun c4 => ?_)
  · have h := h.1 (isNone_t c4)
    have h := h ww3 ao
    exact h
  · have h := h.2 (isNone_f c4)
    refine bif_of (fun c5 => ?_) (fun c5 => ?_)
    · have h := h.1 (beq_t c5)
      have h := h ww3 ao
      exact h
    · have h := h.2 (beq_f c5)
      obtain ⟨a6, a0, h⟩ := h
      refine elim_some a0 ?_
      obtain ⟨an, bm, h⟩ := h
      refine ⟨an, (ao).cell bm id, ?_⟩
      refine bif_of (fun c9 => ?_) (fun c9 => ?_)
      · have h := h.1 c9
        have h := h ww3 ao
        exact h
      · have h := h.2 c9
        refine thenW_in fun aq br => ?_
        have ac := ao.x_drew br
        refine elim_some a0 ?_
        obtain ⟨ah, ay, h⟩ := h
        refine ⟨ah, (ac).cell ay id, ?_⟩
        refine elim_some a0 ?_
        obtain ⟨ag, bd, h⟩ := h
        refine ⟨ag, (ac).cell bd id, ?_⟩
        obtain ⟨a2, a3, h⟩ := h
        try rw [w64 a2 a3]
        refine bif_of (fun b2 => ?_) (fun b2 => ?_)
        · have h := h.1 (of_decide_eq_true b2)
          have h := h aq ac
          exact h
        · have h := h.2 (Int.not_lt.1 (of_decide_eq_false b2))
          refine thenW_in fun ax c0 => ?_
          have a7 := ac.x_drew c0
          refine elim_some a0 ?_
          obtain ⟨am, bc, h⟩ := h
          refine ⟨am, (a7).cell bc id, ?_⟩
          refine elim_some a0 ?_
          obtain ⟨a9, b8, h⟩ := h
          refine ⟨a9, (a7).cell b8 id, ?_⟩
          refine elim_some a0 ?_
          obtain ⟨aj, bb, h⟩ := h
          refine ⟨aj, (a7).cell bb id, ?_⟩
          have h := h ax a7
          refine h.mono fun c2 c3 h => ?_
          obtain ⟨a5, a4, a1, aa, he, h⟩ := h
          refine ⟨a5, a4, a1, aa, he, ?_⟩
          obtain ⟨I1, bz, h0, h⟩ := h
          refine ⟨I1, bz, h0, fun bo ak bx hI => ?_⟩
          have h := h bo ak bx hI
          refine bif_of (fun b0 => ?_) (fun b0 => ?_)
          · have h := h.1 (of_decide_eq_true b0)
            obtain ⟨cb, be, h⟩ := h
            refine elim_some be ?_
            obtain ⟨bu, c1, h⟩ := h
            refine ⟨bu, c1, ?_⟩
            obtain ⟨au, b7, ar, b3, h⟩ := h
            refine ⟨au, b7, ar, b3, ?_⟩
            refine thenW_in fun b5 bi => ?_
            have a8 := (Ext.refl no ak).x_drew bi
            refine elim_some a0 ?_
            obtain ⟨ca, b4, h⟩ := h
            refine ⟨ca, (a8).cell b4 id, ?_⟩
            refine elim_some a0 ?_
            obtain ⟨ad, b1, h⟩ := h
            refine ⟨ad, (a8).cell b1 id, ?_⟩
            refine elim_some a0 ?_
            obtain ⟨ai, az, h⟩ := h
            refine ⟨ai, (a8).cell az id, ?_⟩
            obtain ⟨a2, a3, h⟩ := h
            try rw [w64 a2 a3]
            obtain ⟨a2, a3, h⟩ := h
            try rw [w64 a2 a3]
            have h := h b5 a8
            refine h.mono fun bp bt h => ?_
            obtain ⟨ab, he, h⟩ := h
            refine ⟨ab, he, ?_⟩
            refine bif_of (fun b6 => ?_) (fun b6 => ?_)
            · have h := h.1 (bne_t b6)
              refine elim_some a0 ?_
              obtain ⟨hcs, h⟩ := h
              refine ⟨hcs, thenW_in fun bq bv => ?_⟩
              replace h := thenW_out h bv
              exact h
            · have h := h.2 (bne_f b6)
              obtain ⟨a2, a3, h⟩ := h
              try rw [w64 a2 a3]
              obtain ⟨bh, hk, h⟩ := h
              exact ⟨bh, hk, h⟩
          · have h := h.2 (Int.not_lt.1 (of_decide_eq_false b0))
            refine elim_some a0 ?_
            obtain ⟨c6, av, h⟩ := h
            refine ⟨c6, av, ?_⟩
            refine h.mono fun c7 c8 h => ?_
            obtain ⟨af, he, h⟩ := h
            refine ⟨af, he, ?_⟩
            refine bif_of (fun b9 => ?_) (fun b9 => ?_)
            · have h := h.1 (bne_t b9)
              refine elim_some a0 ?_
              obtain ⟨hcs, h⟩ := h
              refine ⟨hcs, thenW_in fun bw bj => ?_⟩
              replace h := thenW_out h bj
              exact h
            · have h := h.2 (bne_f b9)
              refine elim_some a0 ?_
              obtain ⟨ae, ba, h⟩ := h
              refine ⟨ae, ba, ?_⟩
              obtain ⟨a2, a3, h⟩ := h
              try rw [w64 a2 a3]
              refine elim_some a0 ?_
              obtain ⟨hcs, h⟩ := h
              refine ⟨hcs, thenW_in fun bk bs => ?_⟩
              replace h := thenW_out h bs
              refine elim_some a0 ?_
              obtain ⟨al, aw, h⟩ := h
              refine ⟨al, aw, ?_⟩
              obtain ⟨a2, a3, h⟩ := h
              try rw [w64 a2 a3]
              refine elim_some a0 ?_
              obtain ⟨hcs, h⟩ := h
              refine ⟨hcs, thenW_in fun bn bl => ?_⟩
              replace h := thenW_out h bl
              exact h

theorem journal_Journal_Append.go (j1 : Option Addr) (a2 : Option Addr) (a0 : Nat) (a1 : Nat) {R : Value → World → Prop} {w : World} (h : journal_Journal_Append.N j1 a2 a0 a1 R w) : Calls Try.prog 32 #[.pointer j1, .slice a2 a0 a1] w fun e w' => ∃ v, e = .returned v ∧ R v w' := journal_Journal_Append.ok j1 a2 a0 a1 (journal_Journal_Append.up j1 a2 a0 a1 h)
theorem journal_Journal_Append.run (j1 : Option Addr) (a2 : Option Addr) (a0 : Nat) (a1 : Nat) {V : Value} {Q : World → Prop} {w : World} (h : journal_Journal_Append.N j1 a2 a0 a1 (fun v w' => v = V ∧ Q w') w) : Calls Try.prog 32 #[.pointer j1, .slice a2 a0 a1] w (Ret V Q) := (journal_Journal_Append.go j1 a2 a0 a1 h).mono fun e w' ⟨v, he, hv, hq⟩ => ⟨by rw [he, hv], hq⟩

end Go.Proofs.Ytidijnfkcpbkiaa

/- Disk: the statements' small functions: Sector, light, what is given, the chapter's example. -/
set_option linter.unusedVariables false
set_option linter.unusedSimpArgs false
set_option maxRecDepth 20000
set_option maxHeartbeats 4000000
namespace Go.Proofs.Ytidijnfkcpbkiaa
open Go Go.Mx Go.Proofs
open W (OwnB)
section
variable {K : Nat → Prop} {w w' w1 : World} {o o' o1 : Own} {g g2 m : Nat} {d : DS} {i : Int} {a : Option Addr} {c : Nat}
theorem dmk_bytes (w : World) (n : Nat) (hn : n < 1000000) : ∃ w', (Instr.makeSlice 30 (.int .i64 n) (.int .i64 n)).run Try.prog w = .ok (.slice (some (blk w.heap.size)) n n) w' ∧ Ext no w w' ∧ Blk w' w.heap.size 5 (bytesV (List.replicate n 0)) ∧ w.heap.size < w'.heap.size := by
  obtain ⟨i, hi, hz, hs, hb⟩ := info_of inf5
  have hmk := run_makeSlice (P := Try.prog) (w := w) 30 5 i _ Try.underlying30 hi hz .i64 .i64 n n (by omega) (Int.le_refl _) (by rw [hs]; omega) (by rw [hb]; omega) (by omega)
  rw [hs, Int.toNat_natCast] at hmk
  have hcells : (madeCells (Value.int .u8 0).cells (n * 1)) = (bytesV (List.replicate n 0)).toArray := by
    apply Array.ext'
    rw [show (Value.int .u8 0).cells = #[Value.int .u8 0] from rfl, toList_madeCells_one, Nat.mul_one]
    show _ = bytesV _
    rw [bytesV, List.map_replicate]; rfl
  rw [hcells] at hmk
  exact ⟨_, hmk, (Ext.refl _ _).alloc _, Blk.new _ _ _, by simp⟩
theorem dNoStep {K : Nat → Prop} (h : Step no w o w1 o1) : Step no w o w1 (grow w o) := Step.of_no (h.ext.mono fun b ⟨_, _, h⟩ _ => h) h.ok0
def BoolsQ (W : World) (cs : List Value) : Prop := ∃ (a : Option Addr) (c : Nat) (l : List Bool), cs = [.slice a l.length c] ∧ l.length ≤ c ∧ c ≤ maxLen ∧ RowAt W a (boolsV l)
theorem flat_bools (l : List Bool) : (l.flatMap fun b => [Value.bool b]) = boolsV l := by
  unfold boolsV
  induction l with
  | nil => rfl
  | cons x r ih => rw [List.flatMap_cons, ih]; rfl
theorem opens_bools : Opens Try.prog 36 BoolsQ := (opens_rows (size := 1) (f := fun b => [Value.bool b]) (G := fun _ _ => True) Try.underlying36 (by kernel_rfl) ((opens_bool Try.underlying4).mono fun W cs ⟨b, h⟩ => ⟨b, h, trivial⟩)).mono
  fun W cs ⟨a, c, l, h1, h2, h3, h4, _⟩ => ⟨a, c, l, h1, h2, h3, by rw [← flat_bools]; exact h4⟩
end
end Go.Proofs.Ytidijnfkcpbkiaa
