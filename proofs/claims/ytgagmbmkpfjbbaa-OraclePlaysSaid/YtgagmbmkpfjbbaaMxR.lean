/- Rows of cells: slices that are read, slices that are owned, append. -/
import Derived.Test.YtgagmbmkpfjbbaaMxL
set_option linter.unusedSimpArgs false
set_option linter.unusedVariables false
set_option linter.unnecessarySimpa false
set_option linter.unusedSectionVars false
namespace Go.Mx

/-- the cells from an address on. -/
def RowAt (w : World) (a : Option Addr) (cs : List Value) : Prop := ∀ i v, cs[i]? = some v → ∃ ad, a = some ad ∧ w.cell? (ad.add i) = some v
/-- the address lies in none of these blocks. -/
def Out (m : Nat → Prop) (a : Option Addr) : Prop := ∀ ad, a = some ad → ¬ m ad.block
section
variable {w w' : World} {m : Nat → Prop} {a : Option Addr} {cs : List Value}
theorem RowAt.nil (w : World) (a : Option Addr) : RowAt w a [] := fun i v h => by simp at h
theorem RowAt.ext (h : RowAt w a cs) (k : Ext m w w') (ho : Out m a) : RowAt w' a cs := fun i v hv => by
  obtain ⟨ad, ha, hc⟩ := h i v hv
  exact ⟨ad, ha, k.cell hc (by rw [block_add]; exact ho ad ha)⟩
theorem RowAt.ext' (h : RowAt w a cs) (k : Ext m w w') (ho : cs ≠ [] → Out m a) : RowAt w' a cs := fun i v hv => by
  obtain ⟨ad, ha, hc⟩ := h i v hv
  exact ⟨ad, ha, k.cell hc (by rw [block_add]; exact ho (fun e => by subst e; simp at hv) ad ha)⟩
theorem RowAt.lt (h : RowAt w a cs) (h0 : cs ≠ []) {ad : Addr} (ha : a = some ad) : ad.block < w.heap.size := by
  cases cs with
  | nil => exact absurd rfl h0
  | cons v r =>
    obtain ⟨ad', ha', hc⟩ := h 0 v rfl
    rw [ha] at ha'; cases ha'
    exact World.block_lt_of_cell? w _ hc
theorem RowAt.out (h : RowAt w a cs) (hm : ∀ b, m b → w.heap.size ≤ b) : cs ≠ [] → Out m a := fun h0 ad ha hb => by
  have h1 := h.lt h0 ha
  have h2 := hm _ hb
  omega
theorem RowAt.no (h : RowAt w a cs) (k : Ext no w w') : RowAt w' a cs := h.ext k fun _ _ h => h
theorem RowAt.addr (h : RowAt w a cs) (h0 : cs ≠ []) : ∃ ad, a = some ad := by
  cases cs with
  | nil => exact absurd rfl h0
  | cons v r => obtain ⟨ad, ha, _⟩ := h 0 v rfl; exact ⟨ad, ha⟩
theorem RowAt.at_ {ad : Addr} (h : RowAt w (some ad) cs) {i : Nat} {v : Value} (hv : cs[i]? = some v) : w.cell? (ad.add i) = some v := by
  obtain ⟨ad', ha, hc⟩ := h i v hv
  cases ha; exact hc
theorem add_add (a : Addr) (i j : Nat) : (a.add i).add j = a.add (i + j) := by
  unfold Addr.add
  by_cases hi : i = 0
  · simp [hi]
  · by_cases hj : j = 0
    · simp [hi, hj]
    · simp [hi, hj]; omega
/-- what is behind the first k cells. -/
theorem RowAt.drop (h : RowAt w a cs) (k : Nat) (c : Nat) (hc : c = k → cs.length ≤ k) : RowAt w (if c = k then a else a.map (·.add k)) (cs.drop k) := fun i v hv => by
  rw [List.getElem?_drop] at hv
  obtain ⟨ad, ha, hcell⟩ := h (k + i) v hv
  have hne : c ≠ k := fun e => by
    have h1 := hc e
    have h2 := (List.getElem?_eq_some_iff.1 hv).1
    omega
  rw [if_neg hne, ha]
  exact ⟨ad.add k, rfl, by rw [add_add]; exact hcell⟩
theorem RowAt.take (h : RowAt w a cs) (k : Nat) : RowAt w a (cs.take k) := fun i v hv => by
  rw [List.getElem?_take] at hv
  split at hv
  · exact h i v hv
  · cases hv
theorem RowAt.of_owns {base e size n : Nat} {v : Value} {xs : List Value} (h : w.ownsRow base e size v n xs) : ∃ a c, v = .slice a n c ∧ RowAt w a xs := by
  rcases h.2 with ⟨hv, hn⟩ | ⟨g, cap, cur, hv, hb, hg, hnc, hcm, hs, ht⟩
  · subst hn
    have : xs = [] := List.eq_nil_of_length_eq_zero (by simpa using h.1)
    subst this
    exact ⟨none, 0, hv, RowAt.nil w none⟩
  · refine ⟨_, cap, hv, fun i u hu => ⟨_, rfl, ?_⟩⟩
    exact h.cells (g := g) (by rw [hv]; rfl) i u hu
theorem RowAt.loads (h : RowAt w a cs) {ad : Addr} (ha : a = some ad) : cellsAt w ad cs 0 := by
  have key : ∀ (r : List Value) (i : Nat), (∀ j v, r[j]? = some v → w.cell? (ad.add (i + j)) = some v) → cellsAt w ad r i := by
    intro r
    induction r with
    | nil => intro i _; trivial
    | cons v r ih =>
      intro i hr
      refine ⟨by simpa using hr 0 v rfl, ih (i + 1) fun j u hu => ?_⟩
      have := hr (j + 1) u (by simpa using hu)
      rw [show i + 1 + j = i + (j + 1) by omega]; exact this
  refine key cs 0 fun j v hv => ?_
  subst ha
  simpa using h.at_ hv
end

/-! ### append -/
theorem Out.of_own {m : Nat → Prop} {v : Value} {a : Option Addr} {n c : Nat} (hv : v = .slice a n c) (h : ∀ k, v.ownBlock = some k → ¬ m k) : Out m a := fun ad ha => by
  subst ha; subst hv; exact h _ rfl

/-- append onto a row that is owned. -/
theorem run_append {P : Program} {w : World} {t ty e : TypeId} {i : TypeInfo} {z : Value} {size bytes : Nat} (ht : P.underlying t = some (.slice e)) (hi : P.info? e = some i) (hz : i.zero = some z)
    (hsize : i.size = size) (hby : i.bytes = bytes) (hzs : z.cells.size = size) (hsz : 0 < size)
    {v : Value} {n : Nat} {xs : List Value} (hown : w.ownsRow 0 e size v n xs)
    {xa : Option Addr} {m c : Nat} {news : List Value} (hl : news.length = m * size) (hnews : RowAt w xa news) (h1 : ∀ u ∈ news, u.oneCell' = true)
    (hbytes : (n + m) * bytes ≤ 140737488355328) (h63 : n + m ≤ 9223372036854775807) :
    ∃ a' c' w', (Builtin.append_ #[t, t] ty #[v, .slice xa m c]).run P w = .ok (.slice a' (n + m) c') w' ∧ w'.ownsRow 0 e size (.slice a' (n + m) c') (n + m) (xs ++ news) ∧ w.grownBy w' v.ownBlock ∧
      ((Value.slice a' (n + m) c').ownBlock = v.ownBlock ∨ (Value.slice a' (n + m) c').ownBlock = some w.heap.size) := by
  cases xa with
  | some a =>
    obtain ⟨v', w', h1, h2, h3, _, h5⟩ := run_append_own_at (P := P) w 0 t ty e i z size bytes ht hi hz hsize hby hzs hsz v n xs hown a m c news hl (fun j u hu => hnews.at_ hu) h1
      (by unfold maxLen; omega) hbytes (Nat.zero_le _)
    obtain ⟨a', c', hv, _⟩ := RowAt.of_owns h2
    subst hv
    exact ⟨a', c', w', h1, h2, h3, h5⟩
  | none =>
    have hn : news = [] := by
      cases news with
      | nil => rfl
      | cons u r => obtain ⟨ad, ha, _⟩ := hnews 0 u rfl; cases ha
    subst hn
    have hm : m = 0 := by
      have h0 : 0 = m * size := by simpa using hl
      rcases Nat.mul_eq_zero.1 h0.symm with h | h <;> omega
    subst hm
    obtain ⟨a', c', hv, _⟩ := RowAt.of_owns hown
    subst hv
    refine ⟨a', c', w, ?_, by simpa using hown, ⟨rfl, rfl, rfl, Nat.le_refl _, fun _ _ _ => rfl⟩, .inl rfl⟩
    have hle : n ≤ c' := by
      rcases hown.2 with ⟨h, h'⟩ | ⟨g, cap, cur, h, _, _, hh, _⟩
      · omega
      · cases h; exact hh
    cases a' with
    | none => simp [Builtin.append_, run_underlying' ht, sizeOf, run_typeInfo' hi, Builtin.lenOf, hle, Builtin.firstCells]
    | some ad => simp [Builtin.append_, run_underlying' ht, sizeOf, run_typeInfo' hi, Builtin.lenOf, hle, Builtin.firstCells, storeCells]

/-! ### bytes -/
def u8V (b : UInt8) : Value := .int .u8 (b.toNat : Int)
def bytesV (bs : List UInt8) : List Value := bs.map u8V
theorem bytesV_length (bs : List UInt8) : (bytesV bs).length = bs.length := by simp [bytesV]
theorem bytesV_one (bs : List UInt8) : ∀ u ∈ bytesV bs, u.oneCell' = true := by
  intro u hu
  obtain ⟨b, _, rfl⟩ := List.mem_map.1 hu
  rfl
theorem bytesV_get {bs : List UInt8} {i : Nat} (h : i < bs.length) : (bytesV bs)[i]? = some (.int .u8 (bs[i].toNat : Int)) := by
  simp [bytesV, h, u8V]

theorem conv_str {P : Program} {w : World} {src dst e : TypeId} (hs : P.underlying src = some (.slice e)) (he : P.underlying e = some (.int .u8)) (hd : P.underlying dst = some .string)
    {a : Option Addr} {c : Nat} {bs : List UInt8} (h : RowAt w a (bytesV bs)) : (convert src dst (.slice a bs.length c)).run P w = .ok (strV bs) w := by
  rw [run_convert_bytes_string w src dst e _ _ c hs he hd]
  cases a with
  | none =>
    have : bs = [] := by
      cases bs with
      | nil => rfl
      | cons b r => obtain ⟨ad, ha, _⟩ := h 0 (u8V b) rfl; cases ha
    subst this
    simp [Conv.bytesToString, strV]
    rfl
  | some ad =>
    have hl : (loadCells ad bs.length).run P w = .ok ((bs.map fun b => (b.toNat : Int)).map (Value.int .u8)).toArray w := by
      have := cellsAt_loadFrom (P := P) (bytesV bs) 0 #[] (h.loads rfl)
      rw [bytesV_length] at this
      simp only [loadCells, this]
      congr 1
      apply Array.ext'
      simp [bytesV, u8V]
    rw [run_bytesToString w ad bs.length c _ hl, foldl_push_bytes]
    have e : (bs.map fun b => (b.toNat : Int)).map (fun n => UInt8.ofNat n.toNat) = bs := by
      rw [List.map_map]
      conv => rhs; rw [← List.map_id bs]
      refine List.map_congr_left fun b _ => ?_
      simp
    rw [e]
    simp [strV, ByteArray.empty, ByteArray.emptyWithCapacity]
    rfl

/-- '[]byte(a literal)': its block is marked behind its end. -/
theorem conv_mark {P : Program} {w : World} {t e : TypeId} (hs : P.underlying t = some (.slice e)) (he : P.underlying e = some (.int .u8)) {b n c : Nat} {cs : List Value} (hb : Blk w b e cs) :
    (convert t t (.slice (some ⟨b, 0, none⟩) n c)).run P w = .ok (.slice (some ⟨b, 0, none⟩) n c) (w.freeze ⟨b, cs.length, none⟩ 1) := by
  simp only [Blk] at hb
  have hsh : w.shape? b = some (e, cs.length) := by simp [World.shape?, hb]
  simp [convert, run_underlying' hs, run_underlying' he, markStringish, hsh]
theorem cell_freeze (w : World) (x a : Addr) (n : Nat) : (w.freeze x n).cell? a = w.cell? a := by
  unfold World.freeze
  split
  · rfl
  · simp only [World.cell?, Array.getElem?_modify]
    by_cases h : x.block = a.block
    · simp only [h, if_true]
      cases w.heap[a.block]? with
      | none => rfl
      | some o => cases o <;> rfl
    · simp [h]
theorem Ext.freeze {m : Nat → Prop} {w w1 : World} (h : Ext m w w1) {x : Addr} (hx : m x.block ∨ w.heap.size ≤ x.block) (n : Nat) : Ext m w (w1.freeze x n) := by
  unfold World.freeze
  split
  · exact h
  · refine ⟨h.os, h.tape, h.output, by simpa using h.size, fun b hb hn => ?_⟩
    have hne : ¬ x.block = b := fun e => by
      subst e
      rcases hx with hx | hx
      · exact hn hx
      · omega
    simp only [Array.getElem?_modify, hne, if_false]
    exact h.block b hb hn
theorem RowAt.freeze {w : World} {a : Option Addr} {cs : List Value} (h : RowAt w a cs) (x : Addr) (n : Nat) : RowAt (w.freeze x n) a cs := fun i v hv => by
  obtain ⟨ad, ha, hc⟩ := h i v hv
  exact ⟨ad, ha, by rw [cell_freeze]; exact hc⟩
theorem RowAt.of_blk {w : World} {b : Nat} {t : TypeId} {cs : List Value} (h : Blk w b t cs) : RowAt w (some ⟨b, 0, none⟩) cs := fun i v hv =>
  ⟨_, rfl, by rw [add_blk]; exact h.cell hv⟩
theorem owns_of_blk {w : World} {b : Nat} {e : TypeId} {size n : Nat} {cs : List Value} (h : Blk w b e cs) (hl : cs.length = n * size) (hn : n ≤ maxLen) : w.ownsRow 0 e size (.slice (some ⟨b, 0, none⟩) n n) n cs :=
  ⟨hl, .inr ⟨b, n, cs.toArray, rfl, Nat.zero_le _, h, Nat.le_refl _, hn, by simpa using hl, by simp [← hl]⟩⟩
/-! ### copies -/
/-- the address lies in a block that came between. -/
def Fresh (w w' : World) (a : Option Addr) : Prop := ∀ ad, a = some ad → w.heap.size ≤ ad.block ∧ ad.block < w'.heap.size
theorem Fresh.out {w w' : World} {a : Option Addr} {m : Nat → Prop} (h : Fresh w w' a) (hm : ∀ b, m b → b < w.heap.size ∨ w'.heap.size ≤ b) : Out m a := fun ad ha hb => by
  have h1 := h ad ha
  rcases hm _ hb with h2 | h2 <;> omega
theorem Fresh.then {w w' w1 : World} {a : Option Addr} (h : Fresh w w' a) (h1 : w'.heap.size ≤ w1.heap.size) : Fresh w w1 a := fun ad ha => ⟨(h ad ha).1, Nat.lt_of_lt_of_le (h ad ha).2 h1⟩
theorem own_fresh {w1 : World} {base e size n : Nat} {a : Option Addr} {k c : Nat} {xs : List Value} (h : w1.ownsRow base e size (.slice a k c) n xs) :
    n ≤ c ∧ ∀ ad, a = some ad → ad.block < w1.heap.size := by
  rcases h.2 with ⟨hv, hn⟩ | ⟨g, cap, cur, hv, hb, hg, hnc, hcm, hs, ht⟩
  · cases hv; subst hn; exact ⟨Nat.zero_le _, fun ad ha => by cases ha⟩
  · cases hv; exact ⟨hnc, fun ad ha => by cases ha; exact (Array.getElem?_eq_some_iff.1 hg).1⟩
/-- append onto an empty slice of a new block: a copy. -/
theorem clone_run {P : Program} {w : World} {t ty e : TypeId} {i : TypeInfo} {z : Value} {bytes : Nat} (ht : P.underlying t = some (.slice e)) (hi : P.info? e = some i) (hz : i.zero = some z)
    (hsize : i.size = 1) (hby : i.bytes = bytes) (hzs : z.cells.size = 1) {xa : Option Addr} {m c : Nat} {news : List Value} (hl : news.length = m) (hnews : RowAt w xa news) (h1 : ∀ u ∈ news, u.oneCell' = true)
    (hbytes : m * bytes ≤ 140737488355328) (h63 : m ≤ 9223372036854775807) :
    ∃ a' c' w', (Builtin.append_ #[t, t] ty #[.slice (some (blk w.heap.size)) 0 0, .slice xa m c]).run P (w.alloc (.cells #[] e)) = .ok (.slice a' m c') w' ∧ m ≤ c' ∧ RowAt w' a' news ∧ Ext no w w' ∧ Fresh w w' a' := by
  have hlt : ∀ ad, xa = some ad → news ≠ [] → ad.block < w.heap.size := fun ad ha hn => by
    cases hc : news with
    | nil => exact absurd hc hn
    | cons u r =>
      obtain ⟨ad', h', hcell⟩ := hnews 0 u (by rw [hc]; rfl)
      have : w.cell? ad = some u := by rw [ha] at h'; cases h'; exact hcell
      exact World.block_lt_of_cell? w _ this
  have e1 : Ext no w (w.alloc (.cells #[] e)) := (Ext.refl _ _).alloc _
  have hown : (w.alloc (.cells #[] e)).ownsRow 0 e 1 (.slice (some (blk w.heap.size)) 0 0) 0 [] := owns_of_blk (Blk.new w e []) rfl (Nat.zero_le _)
  obtain ⟨a', c', w', hr, ho, hg, hb⟩ := run_append (ty := ty) ht hi hz hsize hby hzs (Nat.zero_lt_one) hown (xa := xa) (m := m) (c := c) (by simpa using hl) (hnews.ext e1 (fun _ _ h => h)) h1 (by simpa using hbytes) (by simpa using h63)
  rw [Nat.zero_add] at hr ho hb
  rw [List.nil_append] at ho
  obtain ⟨a2, c2, hv, hrow⟩ := RowAt.of_owns ho
  cases hv
  refine ⟨a', c', w', hr, (own_fresh ho).1, hrow, ?_, fun ad ha => ⟨?_, (own_fresh ho).2 ad ha⟩⟩
  · exact e1.then (m' := fun b => b = w.heap.size) (Ext.of_grown hg fun k hk => by left; simpa [Value.ownBlock, blk, eq_comm] using hk) (fun b hb => .inr (by omega))
  · subst ha
    rcases hb with h | h <;> simp only [Value.ownBlock, Option.some.injEq, blk] at h <;> have h2 : (w.alloc (.cells #[] e)).heap.size = w.heap.size + 1 := (by simp) <;> omega
theorem RowAt.none_nil {w : World} {cs : List Value} (h : RowAt w none cs) : cs = [] := by
  cases cs with
  | nil => rfl
  | cons u r => obtain ⟨ad, ha, _⟩ := h 0 u rfl; cases ha


/-- a store into a row that is owned. -/
theorem owns_store {w : World} {e : TypeId} {n c i : Nat} {a : Option Addr} {xs : List Value} (h : w.ownsRow 0 e 1 (.slice a n c) n xs) (hi : i < n) (v : Value) :
    ∃ ad, a = some ad ∧ canStore w (ad.add i) ∧ RowAt (w.setCell (ad.add i) v) a (xs.set i v) ∧ (w.setCell (ad.add i) v).ownsRow 0 e 1 (.slice a n c) n (xs.set i v) := by
  rcases h.2 with ⟨hv, hn⟩ | ⟨g, cap, cur, hv, hb, hg, hnc, hcm, hs, ht⟩
  · omega
  · cases hv
    have hblk : Blk w g e cur.toList := by simpa [Blk] using hg
    have hlen : cur.toList.length = c := by simpa using hs
    have hgi : cur.toList[i]? = some (cur.toList[i]'(by omega)) := List.getElem?_eq_getElem _
    have hset := hblk.seta i v
    rw [Nat.mul_one] at ht
    have hrow : RowAt (w.setCell ((blk g).add i) v) (some ⟨g, 0, none⟩) (xs.set i v) := by
      have := (RowAt.of_blk hset).take n
      rw [List.take_set, ht] at this
      exact this
    refine ⟨_, rfl, hblk.cana hgi, hrow, ?_⟩
    refine ⟨by rw [List.length_set]; exact h.1, .inr ⟨g, c, (cur.toList.set i v).toArray, rfl, hb, hset, hnc, hcm, by simpa using hs, ?_⟩⟩
    rw [Nat.mul_one, ← ht]
    simp [List.take_set]
theorem clone_owns {P : Program} {w : World} {t ty e : TypeId} {i : TypeInfo} {z : Value} {bytes : Nat} (ht : P.underlying t = some (.slice e)) (hi : P.info? e = some i) (hz : i.zero = some z)
    (hsize : i.size = 1) (hby : i.bytes = bytes) (hzs : z.cells.size = 1) {xa : Option Addr} {m c : Nat} {news : List Value} (hl : news.length = m) (hnews : RowAt w xa news) (h1 : ∀ u ∈ news, u.oneCell' = true)
    (hbytes : m * bytes ≤ 140737488355328) (h63 : m ≤ 9223372036854775807) :
    ∃ a' c' w', (Builtin.append_ #[t, t] ty #[.slice (some (blk w.heap.size)) 0 0, .slice xa m c]).run P (w.alloc (.cells #[] e)) = .ok (.slice a' m c') w' ∧ m ≤ c' ∧ w'.ownsRow 0 e 1 (.slice a' m c') m news ∧ RowAt w' a' news ∧ Ext no w w' ∧ Fresh w w' a' := by
  have e1 : Ext no w (w.alloc (.cells #[] e)) := (Ext.refl _ _).alloc _
  have hown : (w.alloc (.cells #[] e)).ownsRow 0 e 1 (.slice (some (blk w.heap.size)) 0 0) 0 [] := owns_of_blk (Blk.new w e []) rfl (Nat.zero_le _)
  obtain ⟨a', c', w', hr, ho, hg, hb⟩ := run_append (ty := ty) ht hi hz hsize hby hzs (Nat.zero_lt_one) hown (xa := xa) (m := m) (c := c) (by simpa using hl) (hnews.ext e1 (fun _ _ h => h)) h1 (by simpa using hbytes) (by simpa using h63)
  rw [Nat.zero_add] at hr ho hb
  rw [List.nil_append] at ho
  obtain ⟨a2, c2, hv, hrow⟩ := RowAt.of_owns ho
  cases hv
  refine ⟨a', c', w', hr, (own_fresh ho).1, ho, hrow, ?_, fun ad ha => ⟨?_, (own_fresh ho).2 ad ha⟩⟩
  · exact e1.then (m' := fun b => b = w.heap.size) (Ext.of_grown hg fun k hk => by left; simpa [Value.ownBlock, blk, eq_comm] using hk) (fun b hb => .inr (by omega))
  · subst ha
    rcases hb with h | h <;> simp only [Value.ownBlock, Option.some.injEq, blk] at h <;> have h2 : (w.alloc (.cells #[] e)).heap.size = w.heap.size + 1 := (by simp) <;> omega
end Go.Mx
