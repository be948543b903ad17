/- copy onto a row of one's own; append(x, make(..)...) onto a row without room; slices.overlaps of two blocks. -/
import Derived.Test.YtmhfoieeldiecaaZA
import Derived.Lib.Overlaps
import Derived.Lib.AppendZerosOnto
import Derived.Laws.IdiomCopy
import Derived.Laws.Externs
import Derived.Test.YtmhfoieeldiecaaZC
set_option linter.unusedSimpArgs false
set_option linter.unusedVariables false
set_option linter.unusedSectionVars false
namespace Go.Mx
open Go
section
variable {P : Program} {w w' : World} {b o sz : Nat} {t e : TypeId} {cur cs : List Value}
theorem setCells_setAll : ∀ {cs cur : List Value} {o : Nat} {w : World}, Blk w b t cur → o + cs.length ≤ cur.length → Blk (w.setCells b o cs) b t (setAll cur o cs) ∧ Ext (fun x => x = b) w (w.setCells b o cs)
  | [], cur, o, w, hb, _ => ⟨hb, Ext.refl _ _⟩
  | v :: r, cur, o, w, hb, hl => by
    simp only [List.length_cons] at hl
    have hb2 := hb.set o v
    have X := (Ext.refl (fun x => x = b) w).setCell (a := ⟨b, o, none⟩) (.inl rfl) v
    obtain ⟨h1, h2⟩ := setCells_setAll (cs := r) (o := o + 1) hb2 (by rw [List.length_set]; omega)
    exact ⟨h1, X.trans h2⟩
theorem run_copy_gen {dT sT ty elem : TypeId} {dLen dCap sLen sCap n : Nat} {a : Addr} {i : TypeInfo} (hu : P.underlying dT = some (.slice elem)) (hi : P.info? elem = some i) (hs : i.size = sz) (hm : Nat.min sLen dLen = n) (hn : cs.length = n * sz)
    (hsrc : ∀ j v, cs[j]? = some v → w.cell? (a.add j) = some v) (hb : Blk w b t cur) (hl : o + cs.length ≤ cur.length) (h1 : ∀ v ∈ cs, v.oneCell' = true) :
    (Builtin.copy_ #[dT, sT] ty #[.slice (some ⟨b, o, none⟩) dLen dCap, .slice (some a) sLen sCap]).run P w = .ok (goInt n) (w.setCells b o cs) := by
  have hfc := run_firstCells_some (P := P) w sz n a sLen sCap cs hn hsrc
  have hcan : ∀ j, j < cs.length → canStore w ⟨b, o + j, none⟩ := fun j hj => hb.can (v := cur[o + j]'(by omega)) (List.getElem?_eq_getElem (by omega))
  have hst := run_storeCells_cells (P := P) b o cs 0 w (fun j hj => by obtain ⟨⟨u, hu⟩, _⟩ := hcan j hj; simp [hu]) (fun j hj => by simpa using (hcan j hj).2) h1
  simp only [Nat.add_zero] at hst
  simp [Builtin.copy_, run_underlying hu, Builtin.lenOf, sizeOf, typeInfo, hi, hs, hm, hfc, hst]
theorem setAll_mid {u x y v : List Value} (h : v.length = x.length) : setAll (u ++ x ++ y) u.length v = u ++ v ++ y := by
  have := setAll_shift (vs := v) (u := u) (cs := x ++ y) (k := 0)
  rw [Nat.add_zero] at this
  rw [List.append_assoc, this, setAll_head h, List.append_assoc]
/-- append(x[:n], make([]T, k)...) where there is no room. -/
theorem run_grow_zeros {t tn ty : TypeId} {i : TypeInfo} {z : Value} {kq kn : IntKind} {bytes : Nat} (ht : P.underlying t = some (.slice e)) (htn : P.underlying tn = some (.int kn)) (hi : P.info? e = some i) (hz : i.zero = some z) (hsize : i.size = sz) (hby : i.bytes = bytes) (hzs : z.cells.size = sz) (hsz : 0 < sz)
    {a : Option Addr} {n c k : Nat} (hr : RowAt w a cs) (hl : cs.length = n * sz) (ha : a ≠ none) (hk : 0 < k) (hg : c < n + k) (hb : (n + k) * bytes ≤ 140737488355328) (h63 : n + k ≤ 1000000000) :
    ∃ c' w', (Builtin.append_ #[t, tn] ty #[.slice a n c, .int kq k]).run P w = .ok (.slice (some ⟨w.heap.size, 0, none⟩) (n + k) c') w' ∧ Ext no w w' ∧ w.heap.size < w'.heap.size ∧ n + k ≤ c' ∧ c' ≤ maxLen ∧ ∃ zs : List Value, Blk w' w.heap.size e (cs ++ zs) ∧ (cs ++ zs).length = c' * sz := by
  obtain ⟨ad, rfl⟩ := Option.ne_none_iff_exists'.1 ha
  subst hsize
  subst hby
  have hold := run_firstCells_some (P := P) w.drew i.size n ad n c cs hl fun j v hj => hr.at_ hj
  have hfit := growslice_fits hg hb
  have hgc := grownCap_ge w (n + k) c e
  have hrun := Lib.run_append_grow_zeros (P := P) w t tn ty e i z kq kn ht htn hi hz (some ad) n c cs (by
    have := run_firstCells_some (P := P) w.drew i.size n ad n c cs hl fun j v hj => hr.at_ hj
    simpa [Builtin.firstCells] using this) k hk hsz hg (by omega) (by
      have : k * i.bytes ≤ (n + k) * i.bytes := Nat.mul_le_mul_right _ (by omega)
      omega) hfit
  refine ⟨_, _, hrun, ?_, ?_, hgc, grownCap_le_maxLen w (n + k) c e (by unfold maxLen; omega), (Builtin.zeroCells z.cells k).toList ++ (Builtin.zeroCells z.cells (grownCap w (n + k) c e - (n + k))).toList, ?_, ?_⟩
  · exact (Ext.refl no w).drew.alloc _
  · simp
  · have : Blk (w.drew.alloc (.cells (cs.toArray ++ Builtin.zeroCells z.cells k ++ Builtin.zeroCells z.cells (grownCap w (n + k) c e - (n + k))) e)) w.heap.size e (cs ++ ((Builtin.zeroCells z.cells k).toList ++ (Builtin.zeroCells z.cells (grownCap w (n + k) c e - (n + k))).toList)) := by
      unfold Blk
      have := heap_alloc_new w.drew (.cells (cs.toArray ++ Builtin.zeroCells z.cells k ++ Builtin.zeroCells z.cells (grownCap w (n + k) c e - (n + k))) e)
      refine this.trans ?_
      congr 2
      apply Array.ext'
      simp [List.append_assoc]
    exact this
  · simp only [List.length_append, Array.length_toList, size_zeroCells, hzs, hl]
    rw [← Nat.add_mul, ← Nat.add_mul]
    congr 1
    omega
/-- a store into a row of a function's own. -/
theorem LRow.set {e : TypeId} {N n c j : Nat} {w : World} {o : Own} {a : Option Addr} {cs : List Value} (h : LRow e sz N w o a n c cs) (ok : Tags w o) (hj : j < cs.length) (v : Value) :
    ∃ ad, a = some ad ∧ canStore w (ad.add j) ∧ (∀ k, o ad.block = some k → N ≤ k) ∧ (o ad.block).isSome = true ∧ ∀ w', w' = w.setCell (ad.add j) v → Step (fun i => N ≤ i) w o w' (grow w o) ∧ LRow e sz N w' (grow w o) a n c (cs.set j v) ∧ Ext (fun b => b = ad.block) w w' := by
  rcases h with ⟨rfl, rfl, rfl, rfl⟩ | ⟨k, h1, h2, h⟩
  · simp at hj
  have hl := h.own.1
  rcases h.own.2 with ⟨hv, h0⟩ | ⟨g, cap, cur, hv, _, hgb, hnc, hcm, hcs, htk⟩
  · rw [h0] at hl; omega
  cases hv
  have tg := h.tg ⟨g, 0, none⟩ rfl
  have hblk : Blk w g e cur.toList := by unfold Blk; simpa using hgb
  have hcl : cur.toList.length = c * sz := by simpa using hcs
  have hjc : j < cur.toList.length := by
    have := congrArg List.length htk
    rw [List.length_take] at this
    omega
  have hadd : (⟨g, 0, none⟩ : Addr).add j = ⟨g, j, none⟩ := by simp [Addr.add_lit]
  refine ⟨_, rfl, by rw [hadd]; exact hblk.can (v := cur.toList[j]) (List.getElem?_eq_getElem hjc), fun k' hk' => ?_, by rw [tg.1]; rfl, fun w' hw' => ?_⟩
  · have : some k = some k' := tg.1.symm.trans hk'
    cases this; exact h1
  have X : Ext (fun b => b = g) w w' := by subst hw'; rw [hadd]; exact (Ext.refl (fun b => b = g) w).setCell (a := ⟨g, j, none⟩) (.inl rfl) v
  have s : Step (fun i => i = k) w o w' (grow w o) := Step.of_ext X ok fun b hb _ => by subst hb; exact tg.1
  have hb2 : Blk w' g e (cur.toList.set j v) := by subst hw'; rw [hadd]; exact hblk.set j v
  refine ⟨s.mono fun i hi _ => by omega, .inr ⟨k, h1, Nat.lt_of_lt_of_le h2 s.size, ⟨by rw [List.length_set]; exact hl, .inr ⟨g, c, _, rfl, Nat.zero_le _, hb2, hnc, hcm, by simpa using hcs, ?_⟩⟩, fun ad ha => ?_⟩, X⟩
  · show (cur.toList.set j v).take (n * sz) = cs.set j v
    rw [← htk, List.take_set]
  · cases ha; exact ⟨(s.own tg.2).trans tg.1, Nat.lt_of_lt_of_le tg.2 s.size⟩
/-- two blocks do not overlap. -/
theorem run_apart {tS tR : TypeId} (ht : P.underlying tS = some (.slice e)) {i : TypeInfo} (hi : P.info? e = some i) {qa qb la ca lb cb oa ob : Nat} {ca' cb' : List Value} (ha : Blk w qa e ca') (hb : Blk w qb e cb') (hne : qa ≠ qb) (hcb : cb' ≠ [])
    {k : FuncId} {fn : Func} (hf : P.funcs[k]? = some fn) (hname : (fn.name == "runtime.NumGoroutine") = false) (hbd : fn.body.isNone = true) (hn : Extern.findNext fn = none) (he : Extern.find fn = some (Extern.SlicesOverlaps.overlaps #[tS, tS] #[tR])) :
    (externCall k #[.slice (some ⟨qa, oa, none⟩) la ca, .slice (some ⟨qb, ob, none⟩) lb cb]).run P w = .ok (.bool false) w := by
  unfold Blk at ha hb
  have h := Lib.run_overlaps_apart (P := P) w tS tR e ht i.size (fun w => by simp [sizeOf, typeInfo, hi]) ⟨qa, oa, none⟩ ⟨qb, ob, none⟩ la ca lb cb hne e e ca'.length cb'.length (by simp [World.shape?, ha]) (by simp [World.shape?, hb]) (by intro h; exact hcb (List.eq_nil_of_length_eq_zero h))
    (by simp [World.frozen?, ha]) (by simp [World.frozen?, ha])
  unfold externCall
  simp only [Sem.run_bind, run_callFunc_extern hf hname hbd hn he, h, Result.andThen_ok]
  rfl
end
end Go.Mx

/- Members: states and changes as lists; what the program's small functions answer. -/
set_option linter.unusedVariables false
set_option linter.unusedSimpArgs false
set_option maxRecDepth 20000
set_option maxHeartbeats 2000000
namespace Go.Proofs.Ytmhfoieeldiecaa
open Go Go.Mx Go.Proofs
open W (OwnB)
theorem inf49 : (Try.prog.info? 49).map (fun i => (i.zero, i.size, i.bytes)) = some (some (.agg #[.int .i64 0, .int .u64 0, .int .i64 0, .int .i64 0, .int .i64 0]), 5, 40) := by kernel_rfl
theorem inf85 : (Try.prog.info? 85).map (fun i => (i.zero, i.size, i.bytes)) = some (some (.agg #[.int .i64 0, .slice none 0 0]), 2, 32) := by kernel_rfl
/-- a member. -/
structure Mem where
  who : Int
  pub : Int
  fr : Int
  to_ : Int
  lim : Int
deriving DecidableEq
def Mem.C (m : Mem) : List Value := [.int .i64 m.who, .int .u64 m.pub, .int .i64 m.fr, .int .i64 m.to_, .int .i64 m.lim]
theorem Mem.len (m : Mem) : m.C.length = 5 := rfl
theorem Mem.one (m : Mem) : ∀ u ∈ m.C, u.oneCell' = true := fun u hu => by
  simp only [Mem.C, List.mem_cons, List.not_mem_nil, or_false] at hu
  rcases hu with rfl | rfl | rfl | rfl | rfl <;> rfl
theorem Mems.one {l : List Mem} : ∀ u ∈ l.flatMap Mem.C, u.oneCell' = true := fun u hu => by
  obtain ⟨m, _, hm⟩ := List.mem_flatMap.1 hu
  exact m.one u hm
/-- a wrap, and where its bytes lie. -/
structure Wr where
  who : Int
  a : Option Addr
  c : Nat
  b : List UInt8
def Wr.C (x : Wr) : List Value := [.int .i64 x.who, .slice x.a x.b.length x.c]
def Wr.p (x : Wr) : Int × List UInt8 := (x.who, x.b)
theorem Wr.len (x : Wr) : x.C.length = 2 := rfl
/-- a change. -/
structure Chg where
  kd : Int
  who : Int
  pub : Int
  lim : Int
  ws : List (Int × List UInt8)
  old : List UInt8
def boxesGo (last : Int) : List (Int × List UInt8) → Bool
  | [] => true
  | x :: r => decide (0 ≤ x.1 ∧ x.1 < 8) && decide (last < x.1) && decide (x.2.length = 16) && boxesGo x.1 r
def boxesP (l : List (Int × List UInt8)) : Bool := boxesGo (-1) l && decide (l ≠ [])
def rightM (c : Chg) : Bool :=
  if 0 ≤ c.who ∧ c.who < 8 then
    (if (c.kd == 3) = boxesP c.ws then
      (if c.kd ≠ 3 ∧ ¬ (c.ws = [] ∧ c.old = []) then false
       else if c.kd = 1 then decide (c.pub ≠ 0 ∧ c.lim = 0)
       else if c.kd = 2 then decide (c.who ≠ 0 ∧ c.pub = 0 ∧ 0 ≤ c.lim ∧ c.lim ≤ 200)
       else if c.kd = 3 then decide (c.who = 0 ∧ c.pub = 0 ∧ c.lim = 0 ∧ (c.old.length = 0 ∨ c.old.length = 24))
       else false)
     else false)
  else false
def Sorted (l : List Mem) : Prop := l.Pairwise fun a b => a.who < b.who
def findI (l : List Mem) (x : Int) : Nat := (l.takeWhile fun m => decide (m.who < x)).length
def isAt (l : List Mem) (x : Int) : Bool := match l[findI l x]? with | some m => decide (m.who = x) | none => false
section
variable {w w' w1 : World} {o o' o1 : Own} {a : Option Addr} {c N : Nat} {l : List Wr} {ml : List Mem}
theorem findI_le (l : List Mem) (x : Int) : findI l x ≤ l.length := (List.takeWhile_sublist _).length_le
theorem findI_lt {l : List Mem} {x : Int} {i : Nat} {m : Mem} (h : l[i]? = some m) (hi : i < findI l x) : m.who < x := by
  unfold findI at hi
  induction l generalizing i with
  | nil => simp at h
  | cons y r ih =>
    rw [List.takeWhile_cons] at hi
    by_cases hy : y.who < x
    · rw [if_pos (by simpa using hy)] at hi
      cases i with
      | zero => simp at h; subst h; exact hy
      | succ i => exact ih (by simpa using h) (by simpa using hi)
    · rw [if_neg (by simpa using hy)] at hi; simp at hi
theorem findI_at {l : List Mem} {x : Int} {m : Mem} (h : l[findI l x]? = some m) : x ≤ m.who := by
  unfold findI at h
  induction l with
  | nil => simp at h
  | cons y r ih =>
    rw [List.takeWhile_cons] at h
    by_cases hy : y.who < x
    · rw [if_pos (by simpa using hy)] at h; exact ih (by simpa using h)
    · rw [if_neg (by simpa using hy)] at h; simp at h; subst h; omega
theorem findI_is {l : List Mem} {x : Int} {i : Nat} (hi : i ≤ l.length) (h1 : ∀ j m, j < i → l[j]? = some m → m.who < x) (h2 : ∀ m, l[i]? = some m → x ≤ m.who) : findI l x = i := by
  rcases Nat.lt_trichotomy (findI l x) i with h | h | h
  · have hlt : findI l x < l.length := by omega
    have h3 := findI_at (List.getElem?_eq_getElem hlt)
    have h4 := h1 _ _ h (List.getElem?_eq_getElem hlt)
    omega
  · exact h
  · have hlt : i < l.length := by have := findI_le l x; omega
    have h3 := findI_lt (List.getElem?_eq_getElem hlt) h
    have h4 := h2 _ (List.getElem?_eq_getElem hlt)
    omega
theorem Sorted.get {l : List Mem} (h : Sorted l) {i j : Nat} {x y : Mem} (hi : l[i]? = some x) (hj : l[j]? = some y) (hij : i < j) : x.who < y.who := by
  obtain ⟨h1, rfl⟩ := List.getElem?_eq_some_iff.1 hi
  obtain ⟨h2, rfl⟩ := List.getElem?_eq_some_iff.1 hj
  exact List.pairwise_iff_getElem.1 h i j h1 h2 hij
theorem someone_F (x : Int) : members_someone.F x = decide (0 ≤ x ∧ x < 8) := by
  unfold members_someone.F
  by_cases h : x ≥ 0
  · rw [if_pos h]
    by_cases h2 : x < 8 <;> simp [h2] <;> omega
  · rw [if_neg h]
    rw [eq_comm, decide_eq_false_iff_not]; omega
theorem boxesGo_drop {l : List (Int × List UInt8)} {t : Nat} (ht : t < l.length) (last : Int) : boxesGo last (l.drop t) = (decide (0 ≤ l[t].1 ∧ l[t].1 < 8) && decide (last < l[t].1) && decide (l[t].2.length = 16) && boxesGo l[t].1 (l.drop (t + 1))) := by
  rw [List.drop_eq_getElem_cons ht]; rfl
theorem boxes_spec (hr : RowAt w a (l.flatMap Wr.C)) (hl : l.length < 1000000) :
    Calls Try.prog 55 #[.slice a l.length c] w (Ret (.bool (boxesP (l.map Wr.p))) fun w' => Ext no w w') := by
  refine members_boxes.run _ _ _ ?_
  unfold members_boxes.N
  refine ⟨fun m vs w1 => ∃ (t : Nat) (last : Int), vs = [.int .i64 last, .int .i64 t] ∧ m + t = l.length ∧ Ext no w w1 ∧ boxesGo last ((l.map Wr.p).drop t) = boxesGo (-1) (l.map Wr.p), l.length, ⟨0, -1, rfl, rfl, Ext.refl _ _, rfl⟩, ?_⟩
  rintro m w1 la i ⟨t, last, hi, hm, X1, hB⟩
  simp only [List.cons.injEq, Value.int.injEq, true_and, and_true] at hi
  obtain ⟨rfl, rfl⟩ := hi
  refine ⟨fun ht => ?_, fun ht => ?_⟩
  · have htl : t < l.length := by omega
    have hg : l[t]? = some l[t] := List.getElem?_eq_getElem htl
    rw [boxesGo_drop (by simpa using htl)] at hB
    have e1 : (l.map Wr.p)[t]'(by simpa using htl) = l[t].p := by simp
    rw [e1] at hB
    generalize l[t] = x at *
    obtain ⟨ad, rfl⟩ := hr.faddr Wr.len (by decide) htl
    refine ⟨ad, rfl, by omega, by omega, x.who, x.a, x.b.length, x.c, by rw [Int.toNat_natCast]; exact (hr.no X1).floads Wr.len hg, fun h1 w2 X2 => ?_, fun h1 => ⟨fun h2 w2 X2 => ?_, fun h2 => ⟨fun h3 w2 X2 => ?_, fun h3 => ⟨by omega, by omega, fun w2 X2 => ?_⟩⟩⟩⟩
    · rw [someone_F] at h1
      refine ⟨?_, X1.trans X2⟩
      unfold boxesP; rw [← hB, show decide (0 ≤ x.p.1 ∧ x.p.1 < 8) = false from h1]; rfl
    · refine ⟨?_, X1.trans X2⟩
      unfold boxesP; rw [← hB, show decide (la < x.p.1) = false from decide_eq_false (by show ¬ la < x.who; omega)]; simp
    · refine ⟨?_, X1.trans X2⟩
      unfold boxesP; rw [← hB, show decide (x.p.2.length = 16) = false from decide_eq_false (by show ¬ x.b.length = 16; omega)]; simp
    · rw [someone_F] at h1
      refine ⟨m - 1, by omega, t + 1, x.who, rfl, by omega, X1.trans X2, ?_⟩
      rw [← hB, show decide (0 ≤ x.p.1 ∧ x.p.1 < 8) = true from h1, show decide (la < x.p.1) = true from decide_eq_true (show la < x.who by omega), show decide (x.p.2.length = 16) = true from decide_eq_true (show x.b.length = 16 by omega)]
      rfl
  · obtain rfl : t = l.length := by omega
    rw [List.drop_of_length_le (by simp)] at hB
    refine ⟨?_, X1⟩
    unfold boxesP; rw [← hB]
    cases l <;> simp [boxesGo]
def chgV (c : Chg) (wa : Option Addr) (wc : Nat) (oa : Option Addr) (oc : Nat) : Value := .agg #[.int .i64 c.kd, .int .i64 c.who, .int .u64 c.pub, .int .i64 c.lim, .slice wa c.ws.length wc, .slice oa c.old.length oc]
theorem Right_spec {cg : Chg} {wa oa : Option Addr} {wc oc : Nat} (hr : RowAt w wa (l.flatMap Wr.C)) (hl : l.map Wr.p = cg.ws) (hn : l.length < 1000000) (ho : cg.old.length < 1000000) :
    Calls Try.prog 31 #[chgV cg wa wc oa oc] w (Ret (.bool (rightM cg)) fun w' => Ext no w w') := by
  refine members_Right.run cg.kd cg.who cg.pub cg.lim wa cg.ws.length wc oa cg.old.length oc ?_
  unfold members_Right.N
  rw [someone_F]
  have hlen : l.length = cg.ws.length := by rw [← hl]; simp
  refine ⟨fun h w9 X => ⟨?_, X⟩, fun h w9 p12 X9 hp => ?_⟩
  · unfold rightM; rw [if_neg (of_decide_eq_false h)]
  have hw := of_decide_eq_true h
  rw [← hlen]
  refine (boxes_spec (hr.no X9) hn).mono fun x w15 ⟨he, X15⟩ => ⟨_, he, X15.kept, fun hne => ?_, fun heq => ?_⟩
  · rw [hl] at hne
    exact ⟨by unfold rightM; rw [if_pos hw, if_neg hne], X9.trans X15⟩
  rw [hl] at heq
  have X := X9.trans X15
  have hM : rightM cg = (if cg.kd ≠ 3 ∧ ¬ (cg.ws = [] ∧ cg.old = []) then false
       else if cg.kd = 1 then decide (cg.pub ≠ 0 ∧ cg.lim = 0)
       else if cg.kd = 2 then decide (cg.who ≠ 0 ∧ cg.pub = 0 ∧ 0 ≤ cg.lim ∧ cg.lim ≤ 200)
       else if cg.kd = 3 then decide (cg.who = 0 ∧ cg.pub = 0 ∧ cg.lim = 0 ∧ (cg.old.length = 0 ∨ cg.old.length = 24))
       else false) := by unfold rightM; rw [if_pos hw, if_pos heq]
  have hz : cg.ws = [] ↔ cg.ws.length = 0 := List.length_eq_zero_iff.symm
  have hz2 : cg.old = [] ↔ cg.old.length = 0 := List.length_eq_zero_iff.symm
  refine ⟨fun h3 => ⟨by omega, by omega, fun hpos => ⟨?_, X⟩, fun hpos => ?_⟩, fun h3 => ?_⟩
  · rw [hM, if_pos ⟨h3, fun hh => by rw [hz, hz2] at hh; omega⟩]
  · rw [if_neg (fun hh => hh.2 ⟨hz.2 (by omega), hz2.2 (by omega)⟩)] at hM
    rw [hM]
    refine ⟨fun h1 => ⟨fun hp => ⟨?_, X⟩, fun hp => ⟨?_, X⟩⟩, fun h1 => ⟨fun h2 => ⟨fun hw0 => ⟨fun hp => ⟨fun hl0 => ⟨?_, X⟩, fun hl0 => ⟨?_, X⟩⟩, fun hp => ⟨?_, X⟩⟩, fun hw0 => ⟨?_, X⟩⟩, fun h2 => ⟨fun h => absurd h h3, fun _ => ⟨?_, X⟩⟩⟩⟩
    · rw [if_pos h1]; simp [hp, Bool.beq_eq_decide_eq]
    · rw [if_pos h1]; simp [hp]
    · rw [if_neg h1, if_pos h2]; congr 1; simp [hw0, hp]; omega
    · rw [if_neg h1, if_pos h2]; congr 1; rw [eq_comm, decide_eq_false_iff_not]; omega
    · rw [if_neg h1, if_pos h2]; congr 1; rw [eq_comm, decide_eq_false_iff_not]; exact fun hh => hp hh.2.1
    · rw [if_neg h1, if_pos h2]; congr 1; rw [eq_comm, decide_eq_false_iff_not]; exact fun hh => hh.1 hw0
    · rw [if_neg h1, if_neg h2, if_neg h3]
  · rw [if_neg (fun hh => hh.1 h3), if_neg (by omega), if_neg (by omega), if_pos h3] at hM
    rw [hM]
    refine ⟨fun h => by omega, fun _ => ⟨fun h => by omega, fun _ => ⟨fun _ => ⟨fun hw0 => ⟨fun hp => ⟨fun hl0 => ⟨fun ho0 => ⟨?_, X⟩, fun ho0 => ⟨?_, X⟩⟩, fun hl0 => ⟨?_, X⟩⟩, fun hp => ⟨?_, X⟩⟩, fun hw0 => ⟨?_, X⟩⟩, fun h => absurd h3 h⟩⟩⟩
    · congr 1; rw [eq_comm, decide_eq_true_eq]; exact ⟨hw0, hp, hl0, .inl (by omega)⟩
    · congr 1
      by_cases h24 : cg.old.length = 24
      · rw [h24]; simp [hw0, hp, hl0]
      · have : ((cg.old.length : Int) == 24) = false := by simpa using (show (cg.old.length : Int) ≠ 24 by omega)
        rw [this, eq_comm, decide_eq_false_iff_not]; omega
    · congr 1; rw [eq_comm, decide_eq_false_iff_not]; omega
    · congr 1; rw [eq_comm, decide_eq_false_iff_not]; omega
    · congr 1; rw [eq_comm, decide_eq_false_iff_not]; omega
theorem cmp_F (x y : Int) : cmp_Compare_int.F x y = if x < y then -1 else if x > y then 1 else 0 := by
  unfold cmp_Compare_int.F cmp_isNaN_int.F; simp
theorem find1_spec (m : Mem) (x : Int) : Calls Try.prog 62 #[.agg #[.int .i64 m.who, .int .u64 m.pub, .int .i64 m.fr, .int .i64 m.to_, .int .i64 m.lim], .int .i64 x] w (Ret (.int .i64 (cmp_Compare_int.F m.who x)) fun w' => Ext no w w') := by
  refine members_State_find_1.run m.who m.pub m.fr m.to_ m.lim x ?_
  unfold members_State_find_1.N
  exact fun w' X => ⟨rfl, X⟩
theorem BS_spec (hr : RowAt w a (ml.flatMap Mem.C)) (hs : Sorted ml) (hl : ml.length < 1000000) (x : Int) :
    Calls Try.prog 61 #[.slice a ml.length c, .int .i64 x, .func (.func 62) #[] #[]] w (Ret (.tuple #[.int .i64 (findI ml x : Int), .bool (isAt ml x)]) fun w' => Ext no w w') := by
  refine slices_BinarySearchFunc_members_Member_members_Member_int.run a ml.length c x _ _ _ ?_
  unfold slices_BinarySearchFunc_members_Member_members_Member_int.N
  refine ⟨fun m vs w1 => ∃ (i j : Nat), vs = [.int .i64 i, .int .i64 j] ∧ m + i = j ∧ j ≤ ml.length ∧ Ext no w w1 ∧ (∀ k z, k < i → ml[k]? = some z → z.who < x) ∧ (∀ k z, j ≤ k → ml[k]? = some z → x ≤ z.who), ml.length, ⟨0, ml.length, rfl, rfl, Nat.le_refl _, Ext.refl _ _, fun k z hk => by omega, fun k z hk hz => by have := (List.getElem?_eq_some_iff.1 hz).1; omega⟩, ?_⟩
  rintro m w1 i0 j0 ⟨i, j, hi, hm, hj, X1, h1, h2⟩
  simp only [List.cons.injEq, Value.int.injEq, true_and, and_true] at hi
  obtain ⟨rfl, rfl⟩ := hi
  refine ⟨fun hij => ?_, fun hij => ?_⟩
  · rw [wu64 (by omega) (by omega)]
    have hh : (((i : Int) + (j : Int)) / 2).toNat = (i + j) / 2 := by omega
    have hlt : (i + j) / 2 < ml.length := by omega
    have hg : ml[(i + j) / 2]? = some ml[(i + j) / 2] := List.getElem?_eq_getElem hlt
    obtain ⟨ad, rfl⟩ := hr.faddr Mem.len (by decide) hlt
    generalize ml[(i + j) / 2] = y at *
    refine ⟨by omega, by omega, by omega, by omega, ad, rfl, by omega, by omega, y.who, y.pub, y.fr, y.to_, y.lim, by rw [hh]; exact (hr.no X1).floads Mem.len hg, by kernel_rfl, ?_⟩
    refine (find1_spec y x).mono fun e w19 ⟨he, X19⟩ => ⟨_, he, fun hneg => ⟨by omega, by omega, j - ((i + j) / 2 + 1), by omega, (i + j) / 2 + 1, j, ?_, by omega, hj, X1.trans X19, fun k z hk hz => ?_, h2⟩, fun hpos => ⟨(i + j) / 2 - i, by omega, i, (i + j) / 2, ?_, by omega, by omega, X1.trans X19, h1, fun k z hk hz => ?_⟩⟩
    · simp
    · rw [cmp_F] at hneg
      have hy : y.who < x := by by_cases h : y.who < x; exact h; rw [if_neg h] at hneg; split at hneg <;> omega
      rcases Nat.lt_or_ge k ((i + j) / 2) with hk2 | hk2
      · have := hs.get hz hg hk2; omega
      · have : k = (i + j) / 2 := by omega
        subst this; rw [hg] at hz; cases hz; exact hy
    · simp
    · rw [cmp_F] at hpos
      have hy : ¬ y.who < x := fun h => by rw [if_pos h] at hpos; omega
      rcases Nat.lt_or_ge ((i + j) / 2) k with hk2 | hk2
      · have := hs.get hg hz hk2; omega
      · have : k = (i + j) / 2 := by omega
        subst this; rw [hg] at hz; cases hz; omega
  · have hij2 : i = j := by omega
    subst hij2
    have hI : findI ml x = i := findI_is hj (fun k z hk hz => h1 k z hk hz) fun z hz => h2 i z (Nat.le_refl _) hz
    refine ⟨fun hlt => ?_, fun hge => ⟨?_, X1⟩⟩
    · have hlt2 : i < ml.length := by omega
      have hg : ml[i]? = some ml[i] := List.getElem?_eq_getElem hlt2
      obtain ⟨ad, rfl⟩ := hr.faddr Mem.len (by decide) hlt2
      have hisat : isAt ml x = decide (ml[i].who = x) := by unfold isAt; rw [hI, hg]
      generalize ml[i] = y at *
      refine ⟨ad, rfl, by omega, by omega, y.who, y.pub, y.fr, y.to_, y.lim, by rw [Int.toNat_natCast]; exact (hr.no X1).floads Mem.len hg, by kernel_rfl, ?_⟩
      refine (find1_spec y x).mono fun e w19 ⟨he, X19⟩ => ⟨_, he, ?_, X1.trans X19⟩
      rw [hI, hisat, cmp_F]
      congr 3
      by_cases h : y.who < x
      · rw [if_pos h]; simp; omega
      · rw [if_neg h]
        by_cases h' : y.who > x
        · rw [if_pos h']; simp; omega
        · rw [if_neg h']; simp; omega
    · have hn : ml[i]? = none := List.getElem?_eq_none (by omega)
      have : isAt ml x = false := by unfold isAt; rw [hI, hn]
      rw [hI, this]
theorem find_spec (hr : RowAt w a (ml.flatMap Mem.C)) (hs : Sorted ml) (hl : ml.length < 1000000) (ep x : Int) :
    Calls Try.prog 39 #[.agg #[.slice a ml.length c, .int .i64 ep], .int .i64 x] w (Ret (.tuple #[.int .i64 (findI ml x : Int), .bool (isAt ml x)]) fun w' => Ext no w w') := by
  refine members_State_find.run a ml.length c ep x ?_
  unfold members_State_find.N
  intro w4 X4
  exact (BS_spec (hr.no X4) hs hl x).mono fun e w9 ⟨he, X9⟩ => ⟨_, _, he, rfl, X4.trans X9⟩
theorem isAt_some {ml : List Mem} {x : Int} (h : isAt ml x = true) : ∃ m, ml[findI ml x]? = some m ∧ m.who = x := by
  unfold isAt at h
  cases hg : ml[findI ml x]? with
  | none => rw [hg] at h; cases h
  | some m => rw [hg] at h; exact ⟨m, rfl, of_decide_eq_true h⟩
end
end Go.Proofs.Ytmhfoieeldiecaa

/- Members: what turns a state. -/
set_option linter.unusedVariables false
set_option linter.unusedSimpArgs false
set_option maxRecDepth 20000
set_option maxHeartbeats 2000000
namespace Go.Proofs.Ytmhfoieeldiecaa
open Go Go.Mx Go.Proofs
open W (OwnB)
theorem info_mem : ∃ i, Try.prog.info? 49 = some i ∧ i.zero = some (.agg #[.int .i64 0, .int .u64 0, .int .i64 0, .int .i64 0, .int .i64 0]) ∧ i.size = 5 ∧ i.bytes = 40 := info_of inf49
section
variable {w w' w1 : World} {o o' o1 : Own} {a : Option Addr} {c N : Nat} {l : List Wr} {ml : List Mem} {cs : List Value}
abbrev MRow (N : Nat) (w : World) (o : Own) (a : Option Addr) (c : Nat) (ml : List Mem) : Prop := LRow 49 5 N w o a ml.length c (ml.flatMap Mem.C)
/-- one more member behind a row of a function's own. -/
theorem MRow.push (h : MRow N w o a c ml) (ok : Tags w o) (hl : ml.length < 1000000) (m : Mem) {q : Nat} (hb : Blk w q 49 m.C) (hq : N ≤ q) (hq' : q < w.heap.size) :
    ∃ a' c' w' o', (Builtin.append_ #[26, 26] 26 #[.slice a ml.length c, .slice (some (blk q)) 1 1]).run Try.prog w = .ok (.slice a' (ml ++ [m]).length c') w' ∧ Step (fun j => N ≤ j) w o w' o' ∧ MRow N w' o' a' c' (ml ++ [m]) := by
  obtain ⟨i, hi, hz, hsz, hby⟩ := info_mem
  obtain ⟨a', c', w', o', hrun, s2, hrow, _⟩ := LRow.push (ty := 26) Try.underlying26 hi hz hsz hby rfl (by decide) h ok hq hq' (xa := some (blk q)) (m := 1) (xc := 1) (news := m.C) rfl (RowAt.of_blk hb) m.one (by omega) (by omega)
  exact ⟨a', c', w', o', by rw [List.length_append]; exact hrun, s2, by unfold MRow; rw [List.length_append, List.flatMap_append]; simpa using hrow⟩
theorem Clone_spec (ok : Tags w o) (hr : RowAt w a (ml.flatMap Mem.C)) (hl : ml.length < 1000000) :
    Calls Try.prog 59 #[.slice a ml.length c] w (fun x w' => ∃ o' a' c', x = .returned (.slice a' ml.length c') ∧ Step no w o w' o' ∧ MRow w.heap.size w' o' a' c' ml) := by
  refine (slices_Clone_members_Member_members_Member.go _ _ _ (R := fun v w' => ∃ o' a' c', v = (.slice a' ml.length c') ∧ Step no w o w' o' ∧ MRow w.heap.size w' o' a' c' ml) ?_).mono fun x w' ⟨v, he, o', a', c', hv, hw⟩ => ⟨o', a', c', by rw [he, hv], hw⟩
  unfold slices_Clone_members_Member_members_Member.N
  refine ⟨fun hn => ?_, fun hn w3 q X hb hq hq' => ?_⟩
  · subst hn
    have h0 := hr.none_nil
    have : ml = [] := by
      have := flat_length (f := Mem.C) Mem.len ml
      rw [h0] at this
      exact List.eq_nil_of_length_eq_zero (by simp at this; omega)
    subst this
    exact ⟨o, none, 0, rfl, Step.refl _ ok, LRow.nil _ _ _ _ _⟩
  · obtain ⟨i, hi, hz, hsz, hby⟩ := info_mem
    have s3 := (Step.of_no X ok).tag hq hq'
    have g3 : Grows 49 5 w3 (tag (grow w o) q q) q (some (blk q)) 0 0 [] := ⟨owns_of_blk hb rfl (Nat.zero_le _), fun ad ha => by cases ha; exact ⟨tag_self, hq'⟩⟩
    have L3 : LRow 49 5 w.heap.size w3 (tag (grow w o) q q) (some (blk q)) 0 0 [] := .inr ⟨q, hq, hq', g3⟩
    obtain ⟨a', c', w6, o6, hrun, s6, hrow, _⟩ := L3.push (ty := 26) Try.underlying26 hi hz hsz hby rfl (by decide) s3.ok hq hq' (xa := a) (m := ml.length) (xc := c) (news := ml.flatMap Mem.C) (flat_length Mem.len ml) (hr.no X) Mems.one (by omega) (by omega)
    rw [Nat.zero_add, List.nil_append] at hrow
    rw [Nat.zero_add] at hrun
    exact ⟨a', _, c', w6, hrun, o6, a', c', rfl, s3.trans' s6 fun j hj => .inr hj, hrow⟩
theorem flat_split (ml : List Mem) (i : Nat) : (ml.flatMap Mem.C).take (i * 5) = (ml.take i).flatMap Mem.C ∧ (ml.flatMap Mem.C).drop (i * 5) = (ml.drop i).flatMap Mem.C := by
  induction ml generalizing i with
  | nil => simp
  | cons x r ih =>
    cases i with
    | zero => simp
    | succ i =>
      have := ih i
      have hx : x.C.length = 5 := rfl
      simp only [List.flatMap_cons, List.take_succ_cons, List.drop_succ_cons]
      rw [show (i + 1) * 5 = x.C.length + i * 5 by rw [hx]; omega, List.take_length_add_append, List.drop_length_add_append, this.1, this.2]
      simp
/-- one member is put in between. -/
theorem Insert_spec (h : MRow N w o a c ml) (ok : Tags w o) (hl : ml.length < 1000) {i : Nat} (hi : i ≤ ml.length) (m : Mem) {q : Nat} (hb : Blk w q 49 m.C) (hq : N ≤ q) (hq' : q < w.heap.size) (hoq : o q = none) :
    Calls Try.prog 60 #[.slice a ml.length c, .int .i64 i, .slice (some (blk q)) 1 1] w (fun x w' => ∃ o' a' c', x = .returned (.slice a' (ml.length + 1) c') ∧ Step (fun j => N ≤ j) w o w' o' ∧ MRow N w' o' a' c' (ml.take i ++ m :: ml.drop i)) := by
  refine (slices_Insert_members_Member_members_Member.go _ _ _ _ _ _ _ (R := fun v w' => ∃ o' a' c', v = (.slice a' (ml.length + 1) c') ∧ Step (fun j => N ≤ j) w o w' o' ∧ MRow N w' o' a' c' (ml.take i ++ m :: ml.drop i)) ?_).mono fun x w' ⟨v, he, o', a', c', hv, hw⟩ => ⟨o', a', c', by rw [he, hv], hw⟩
  unfold slices_Insert_members_Member_members_Member.N
  obtain ⟨inf, hinf, hz, hsz, hby⟩ := info_mem
  have hnew : (ml.take i ++ m :: ml.drop i).length = ml.length + 1 := by simp; omega
  have hcells : (ml.take i ++ m :: ml.drop i).flatMap Mem.C = (ml.flatMap Mem.C).take (i * 5) ++ m.C ++ (ml.flatMap Mem.C).drop (i * 5) := by
    rw [(flat_split ml i).1, (flat_split ml i).2]; simp
  have hfl := flat_length (f := Mem.C) Mem.len ml
  refine ⟨by omega, by omega, fun h0 => by omega, fun _ => ⟨fun he => ?_, fun hne => ⟨by omega, by omega, fun hg => ?_, fun hroom => ?_⟩⟩⟩
  · have hie : i = ml.length := by omega
    obtain ⟨a', c', w', o', hrun, s, hrow⟩ := h.push ok (by omega) m hb hq hq'
    refine ⟨a', _, c', w', hrun, o', a', c', by simp, s, ?_⟩
    subst hie
    rw [List.take_length, List.drop_length]; exact hrow
  all_goals
    have hlt : i < ml.length := by omega
    rcases h with ⟨rfl, h0, _⟩ | ⟨k, hk1, hk2, hG⟩
    · omega
    have hkind := hG.own.2
    rcases hkind with ⟨hv, h0⟩ | ⟨g, cap, cur, hv, _, hgb, hnc, hcm, hcs, htk⟩
    · omega
    cases hv
    have tg := hG.tg ⟨g, 0, none⟩ rfl
    have hqg : q ≠ g := fun e => by subst e; rw [hoq] at tg; cases tg.1
    have hblk : Blk w g 49 cur.toList := by unfold Blk; simpa using hgb
    have hcl : cur.toList.length = c * 5 := by simpa using hcs
    have hmul : ml.length * 5 ≤ c * 5 := Nat.mul_le_mul_right 5 hnc
    have hrow := hG.row
    have hci : ∀ k, k ≤ i + 1 → k ≤ ml.length → c ≠ k ∨ k = c := fun k _ _ => by omega
  · -- a new row
    obtain ⟨c', w10, hrun, X10, hlt10, hc1, hc2, zs, hb10, hzl⟩ := run_grow_zeros (P := Try.prog) (w := w) (t := 26) (tn := 3) (ty := 26) (kq := .i64) (sz := 5) Try.underlying26 Try.underlying3 hinf hz hsz hby rfl (by decide)
      (a := some ⟨g, 0, none⟩) (n := i) (c := c) (k := ml.length + 1 - i) (cs := (ml.flatMap Mem.C).take (i * 5)) (hrow.take _) (by rw [List.length_take, hfl]; omega) (by simp) (by omega) (by omega) (by omega) (by omega)
    have e1 : (ml.length : Int) + ((1 : Nat) : Int) - (i : Int) = ((ml.length + 1 - i : Nat) : Int) := by omega
    have e2 : i + (ml.length + 1 - i) = ml.length + 1 := by omega
    rw [e2] at hrun hc1
    rw [e1, Int.toNat_natCast]
    refine ⟨by omega, by omega, by omega, by omega, by omega, by omega, _, _, c', w10, hrun, by omega, by omega, ?_⟩
    generalize hB : w.heap.size = B at *
    -- the new one
    have hcut : cutA (some ⟨B, 0, none⟩) c' i 5 = some ⟨B, i * 5, none⟩ := by unfold cutA; rw [if_neg (by omega)]; simp [Addr.add_lit]
    have hq10 : Blk w10 q 49 m.C := hb.ext X10 id
    have hzs : ∃ z1 z2, zs = z1 ++ z2 ∧ z1.length = 5 ∧ True := ⟨zs.take 5, zs.drop 5, (List.take_append_drop _ _).symm, by
      have hl2 : ((ml.flatMap Mem.C).take (i * 5)).length = i * 5 := by rw [List.length_take, hfl]; omega
      rw [List.length_append, hl2] at hzl
      rw [List.length_take]; omega, trivial⟩
    obtain ⟨z1, z2, rfl, hz1, _⟩ := hzs
    have hl2 : ((ml.flatMap Mem.C).take (i * 5)).length = i * 5 := by rw [List.length_take, hfl]; omega
    have hrun2 := run_copy_gen (P := Try.prog) (w := w10) (dT := 26) (sT := 26) (ty := 3) (sz := 5) (dLen := ml.length + 1 - i) (dCap := c' - i) (sLen := 1) (sCap := 1) (n := 1) (a := blk q) (cs := m.C) (b := B) (o := i * 5) Try.underlying26 hinf hsz (Nat.min_eq_left (by omega)) rfl (fun j v hj => hq10.cella (i := j) hj) hb10 (by
      simp only [List.length_append, hl2, hz1, Mem.len]; omega) m.one
    obtain ⟨hb12, X12⟩ := setCells_setAll (cs := m.C) (o := i * 5) hb10 (by simp only [List.length_append, hl2, hz1, Mem.len]; omega)
    have hset1 : setAll ((ml.flatMap Mem.C).take (i * 5) ++ (z1 ++ z2)) (i * 5) m.C = (ml.flatMap Mem.C).take (i * 5) ++ m.C ++ z2 := by
      rw [← List.append_assoc]
      have := setAll_mid (u := (ml.flatMap Mem.C).take (i * 5)) (x := z1) (y := z2) (v := m.C) (by rw [hz1]; rfl)
      rwa [hl2] at this
    rw [hset1] at hb12
    rw [hcut]
    refine ⟨1, _, hrun2, by omega, by omega, by omega, by omega, by omega, by omega, fun w13 X13 => ?_⟩
    have hb13 := hb12.ext X13 id
    have e3 : ((i : Int) + ((1 : Nat) : Int)).toNat = i + 1 := by omega
    rw [e3]
    have hcut2 : cutA (some ⟨B, 0, none⟩) c' (i + 1) 5 = some ⟨B, (i + 1) * 5, none⟩ := by
      unfold cutA
      rw [if_neg (by omega)]; simp [Addr.add_lit]
    have hcut3 : cutA (some ⟨g, 0, none⟩) c i 5 = some ⟨g, i * 5, none⟩ := by unfold cutA; rw [if_neg (by omega)]; simp [Addr.add_lit]
    rw [hcut2, hcut3]
    have hgB0 : g < B := tg.2
    have hgB : g ≠ B := by omega
    have X013 : Ext no w w13 := (X10.then X12 fun b hb => .inr (by omega)).trans X13
    have hrow13 := hrow.no X013
    have hsrc : ∀ j v, ((ml.flatMap Mem.C).drop (i * 5))[j]? = some v → w13.cell? ((⟨g, i * 5, none⟩ : Addr).add j) = some v := fun j v hj => by
      rw [List.getElem?_drop] at hj
      have := hrow13.at_ hj
      rw [Addr.add_lit] at this ⊢
      simpa using this
    have hdl : ((ml.flatMap Mem.C).drop (i * 5)).length = (ml.length - i) * 5 := by rw [List.length_drop, hfl]; omega
    have hz2 : (ml.length - i) * 5 ≤ z2.length := by
      rw [List.length_append, List.length_append, hl2, hz1] at hzl; omega
    have hl3 : ((ml.flatMap Mem.C).take (i * 5) ++ m.C).length = (i + 1) * 5 := by rw [List.length_append, hl2, Mem.len]; omega
    have hrun3 := run_copy_gen (P := Try.prog) (w := w13) (dT := 26) (sT := 26) (ty := 3) (sz := 5) (dLen := ml.length + 1 - (i + 1)) (dCap := c' - (i + 1)) (sLen := ml.length - i) (sCap := c - i) (n := ml.length - i) (a := ⟨g, i * 5, none⟩) (cs := (ml.flatMap Mem.C).drop (i * 5)) (b := B) (o := (i + 1) * 5) Try.underlying26 hinf hsz (Nat.min_eq_left (by omega)) hdl hsrc hb13 (by
      rw [List.length_append, hl3, hdl]; omega) (fun v hv => Mems.one v (List.mem_of_mem_drop hv))
    obtain ⟨hb15, X15⟩ := setCells_setAll (cs := (ml.flatMap Mem.C).drop (i * 5)) (o := (i + 1) * 5) hb13 (by rw [List.length_append, hl3, hdl]; omega)
    have hset2 : setAll ((ml.flatMap Mem.C).take (i * 5) ++ m.C ++ z2) ((i + 1) * 5) ((ml.flatMap Mem.C).drop (i * 5)) = (ml.flatMap Mem.C).take (i * 5) ++ m.C ++ (ml.flatMap Mem.C).drop (i * 5) ++ z2.drop ((ml.length - i) * 5) := by
      have := setAll_mid (u := (ml.flatMap Mem.C).take (i * 5) ++ m.C) (x := z2.take ((ml.length - i) * 5)) (y := z2.drop ((ml.length - i) * 5)) (v := (ml.flatMap Mem.C).drop (i * 5)) (by rw [hdl, List.length_take]; omega)
      rw [hl3, List.append_assoc _ (z2.take _), List.take_append_drop] at this
      exact this
    rw [hset2] at hb15
    refine ⟨_, _, hrun3, ?_⟩
    have X015 : Ext no w (w13.setCells B ((i + 1) * 5) ((ml.flatMap Mem.C).drop (i * 5))) := X013.then X15 fun b hb => .inr (by omega)
    have sz15 := X015.size
    have hB15 := hb15.lt
    have s := (Step.of_no X015 ok).tag (p := B) (j := k) (by omega) (by omega)
    refine ⟨_, some ⟨B, 0, none⟩, c', rfl, s.none, .inr ⟨k, hk1, by omega, ?_, fun ad ha => ?_⟩⟩
    · have hlen : (ml.take i ++ m :: ml.drop i).length * 5 = ((ml.flatMap Mem.C).take (i * 5) ++ m.C ++ (ml.flatMap Mem.C).drop (i * 5)).length := by
        rw [← hcells, flat_length Mem.len]
      rw [hcells]
      refine ⟨by rw [← hlen], .inr ⟨B, c', _, rfl, Nat.zero_le _, hb15, by rw [hnew]; exact hc1, hc2, ?_, ?_⟩⟩
      · have hh := hzl
        simp only [List.length_append, hl2, hz1, Mem.len] at hh
        simp only [List.size_toArray, List.length_append, hl2, Mem.len, hdl, List.length_drop]
        omega
      · rw [hlen]; exact List.take_left
    · cases ha; exact ⟨tag_self, by omega⟩
  · -- in place
    have e0 : ((ml.length : Int) + ((1 : Nat) : Int)).toNat = ml.length + 1 := by omega
    have e3 : ((i : Int) + ((1 : Nat) : Int)).toNat = i + 1 := by omega
    rw [e0, e3]
    have hcut2 : cutA (some ⟨g, 0, none⟩) c (i + 1) 5 = some ⟨g, (i + 1) * 5, none⟩ := by unfold cutA; rw [if_neg (by omega)]; simp [Addr.add_lit]
    have hcut3 : cutA (some ⟨g, 0, none⟩) c i 5 = some ⟨g, i * 5, none⟩ := by unfold cutA; rw [if_neg (by omega)]; simp [Addr.add_lit]
    rw [Int.toNat_natCast, hcut2, hcut3]
    have hapart := run_apart (P := Try.prog) (w := w) (tS := 26) (tR := 4) (la := 1) (ca := 1) (lb := ml.length + 1 - (i + 1)) (cb := c - (i + 1)) (oa := 0) (ob := (i + 1) * 5) Try.underlying26 hinf hb hblk hqg (fun e => by rw [e] at hcl; simp at hcl; omega)
      (k := 74) Try.func74 (by kernel_rfl) (by kernel_rfl) (by kernel_rfl) (by kernel_rfl)
    refine ⟨by omega, by omega, by omega, by omega, by omega, by omega, by omega, by omega, false, w, hapart, fun _ => ⟨by omega, by omega, by omega, by omega, by omega, by omega, fun w19 X19 => ?_⟩, fun h => absurd h (by decide)⟩
    have hb19 := hblk.ext X19 id
    have hq19 := hb.ext X19 id
    have hrow19 := hrow.no X19
    have hcur : cur.toList = ml.flatMap Mem.C ++ cur.toList.drop (ml.length * 5) := by
      rw [← htk, List.take_append_drop]
    generalize hrest : cur.toList.drop (ml.length * 5) = rest at *
    have hrl : rest.length = c * 5 - ml.length * 5 := by rw [← hrest, List.length_drop, hcl]
    have hsplit : ml.flatMap Mem.C = (ml.flatMap Mem.C).take (i * 5) ++ (ml.flatMap Mem.C).drop (i * 5) := (List.take_append_drop _ _).symm
    have hl2 : ((ml.flatMap Mem.C).take (i * 5)).length = i * 5 := by rw [List.length_take, hfl]; omega
    have hdl : ((ml.flatMap Mem.C).drop (i * 5)).length = (ml.length - i) * 5 := by rw [List.length_drop, hfl]; omega
    have hsrc : ∀ j v, ((ml.flatMap Mem.C).drop (i * 5))[j]? = some v → w19.cell? ((⟨g, i * 5, none⟩ : Addr).add j) = some v := fun j v hj => by
      rw [List.getElem?_drop] at hj
      have := hrow19.at_ hj
      rw [Addr.add_lit] at this ⊢
      simpa using this
    have hrun1 := run_copy_gen (P := Try.prog) (w := w19) (dT := 26) (sT := 26) (ty := 3) (sz := 5) (dLen := ml.length + 1 - (i + 1)) (dCap := c - (i + 1)) (sLen := ml.length + 1 - i) (sCap := c - i) (n := ml.length - i) (a := ⟨g, i * 5, none⟩) (cs := (ml.flatMap Mem.C).drop (i * 5)) (b := g) (o := (i + 1) * 5) Try.underlying26 hinf hsz (by show min _ _ = _; omega) hdl hsrc hb19 (by rw [hdl, hcl]; omega) (fun v hv => Mems.one v (List.mem_of_mem_drop hv))
    obtain ⟨hb21, X21⟩ := setCells_setAll (cs := (ml.flatMap Mem.C).drop (i * 5)) (o := (i + 1) * 5) hb19 (by rw [hdl, hcl]; omega)
    refine ⟨_, _, hrun1, by omega, by omega, ?_⟩
    have hq21 := hq19.ext X21 hqg
    -- what stands there now: the first i, one more, then the rest
    have h5 : ∃ y1 y2, (ml.flatMap Mem.C).drop (i * 5) ++ rest = y1 ++ y2 ∧ y1.length = 5 ∧ (ml.length - i) * 5 ≤ y2.length := ⟨((ml.flatMap Mem.C).drop (i * 5) ++ rest).take 5, ((ml.flatMap Mem.C).drop (i * 5) ++ rest).drop 5, (List.take_append_drop _ _).symm, by rw [List.length_take, List.length_append, hdl, hrl]; omega, by rw [List.length_drop, List.length_append, hdl, hrl]; omega⟩
    obtain ⟨y1, y2, hy, hy1, hy2⟩ := h5
    have hcur2 : cur.toList = (ml.flatMap Mem.C).take (i * 5) ++ y1 ++ y2 := by rw [hcur, List.append_assoc, ← hy, ← List.append_assoc, ← hsplit]
    have hl3 : ((ml.flatMap Mem.C).take (i * 5) ++ y1).length = (i + 1) * 5 := by rw [List.length_append, hl2, hy1]; omega
    have hset1 : setAll cur.toList ((i + 1) * 5) ((ml.flatMap Mem.C).drop (i * 5)) = (ml.flatMap Mem.C).take (i * 5) ++ y1 ++ (ml.flatMap Mem.C).drop (i * 5) ++ y2.drop ((ml.length - i) * 5) := by
      have := setAll_mid (u := (ml.flatMap Mem.C).take (i * 5) ++ y1) (x := y2.take ((ml.length - i) * 5)) (y := y2.drop ((ml.length - i) * 5)) (v := (ml.flatMap Mem.C).drop (i * 5)) (by rw [hdl, List.length_take]; omega)
      rw [hl3, List.append_assoc _ (y2.take _), List.take_append_drop, ← hcur2] at this
      exact this
    rw [hset1] at hb21
    have hrun2 := run_copy_gen (P := Try.prog) (dT := 26) (sT := 26) (ty := 3) (sz := 5) (dLen := ml.length + 1 - i) (dCap := c - i) (sLen := 1) (sCap := 1) (n := 1) (a := blk q) (cs := m.C) (b := g) (o := i * 5) Try.underlying26 hinf hsz (Nat.min_eq_left (by omega)) rfl (fun j v hj => hq21.cella (i := j) hj) hb21 (by
      simp only [List.length_append, hl2, hy1, Mem.len]; omega) m.one
    obtain ⟨hb23, X23⟩ := setCells_setAll (cs := m.C) (o := i * 5) hb21 (by simp only [List.length_append, hl2, hy1, Mem.len]; omega)
    refine ⟨_, _, hrun2, ?_⟩
    have hset2 : setAll ((ml.flatMap Mem.C).take (i * 5) ++ y1 ++ (ml.flatMap Mem.C).drop (i * 5) ++ y2.drop ((ml.length - i) * 5)) (i * 5) m.C = (ml.flatMap Mem.C).take (i * 5) ++ m.C ++ (ml.flatMap Mem.C).drop (i * 5) ++ y2.drop ((ml.length - i) * 5) := by
      have := setAll_mid (u := (ml.flatMap Mem.C).take (i * 5)) (x := y1) (y := (ml.flatMap Mem.C).drop (i * 5) ++ y2.drop ((ml.length - i) * 5)) (v := m.C) (by rw [hy1]; rfl)
      rw [hl2] at this
      simpa [List.append_assoc] using this
    rw [hset2] at hb23
    have XX : Ext (fun b => b = g) w _ := (X19.none.trans X21).trans X23
    have s : Step (fun j => j = k) w o _ (grow w o) := Step.of_ext XX ok fun b hb _ => by subst hb; exact tg.1
    refine ⟨_, some ⟨g, 0, none⟩, c, rfl, s.mono fun j hj _ => by omega, .inr ⟨k, hk1, Nat.lt_of_lt_of_le hk2 s.size, ?_, fun ad ha => ?_⟩⟩
    · have hlen : (ml.take i ++ m :: ml.drop i).length * 5 = ((ml.flatMap Mem.C).take (i * 5) ++ m.C ++ (ml.flatMap Mem.C).drop (i * 5)).length := by
        rw [← hcells, flat_length Mem.len]
      rw [hcells]
      refine ⟨by rw [← hlen], .inr ⟨g, c, _, rfl, Nat.zero_le _, hb23, by rw [hnew]; omega, hcm, ?_, ?_⟩⟩
      · simp only [List.size_toArray, List.length_append, hl2, Mem.len, hdl, List.length_drop]
        have : y2.length = c * 5 - i * 5 - 5 := by
          have := congrArg List.length hcur2
          rw [List.length_append, hl3, hcl] at this
          omega
        omega
      · rw [hlen]; exact List.take_left
    · cases ha; exact ⟨(s.own tg.2).trans tg.1, Nat.lt_of_lt_of_le tg.2 s.size⟩
end
end Go.Proofs.Ytmhfoieeldiecaa

/- Members: invite, revoke, begin, and Apply. -/
set_option linter.unusedVariables false
set_option linter.unusedSimpArgs false
set_option maxRecDepth 20000
set_option maxHeartbeats 2000000
namespace Go.Proofs.Ytmhfoieeldiecaa
open Go Go.Mx Go.Proofs
open W (OwnB)
structure MS where
  ml : List Mem
  ep : Int
def MS.z : MS := ⟨[], 0⟩
def inviteM (s : MS) (c : Chg) : MS × Int := if isAt s.ml c.who = true then (MS.z, 13) else (⟨s.ml.take (findI s.ml c.who) ++ ⟨c.who, c.pub, s.ep + 1, -1, 0⟩ :: s.ml.drop (findI s.ml c.who), s.ep⟩, 0)
def revokeM (s : MS) (c : Chg) : MS × Int :=
  if isAt s.ml c.who = true then
    (match s.ml[findI s.ml c.who]? with
     | some m => if m.to_ = -1 then (⟨s.ml.set (findI s.ml c.who) { m with to_ := if s.ep < 0 then -2 else s.ep, lim := c.lim }, s.ep⟩, 0) else (MS.z, 10)
     | none => (MS.z, 20))
  else (MS.z, 20)
def nowM (l : List Mem) : List Mem := l.filter fun m => decide (m.to_ = -1)
def beginM (s : MS) (c : Chg) : MS × Int :=
  if s.ep + 1 ≥ 20 then (MS.z, 2) else if ((c.old.length : Int) == 0) = decide (s.ep < 0) then (if (nowM s.ml).map Mem.who = c.ws.map Prod.fst then (⟨s.ml, s.ep + 1⟩, 0) else (MS.z, 10)) else (MS.z, 10)
def applyM (s : MS) (c : Chg) : MS × Int := if rightM c = true then (if c.kd = 1 then inviteM s c else if c.kd = 2 then revokeM s c else beginM s c) else (MS.z, 1)
/-- a state that may be. -/
structure MS.ok (s : MS) : Prop where
  sorted : Sorted s.ml
  who : ∀ m ∈ s.ml, 0 ≤ m.who ∧ m.who < 8
  ep0 : -1 ≤ s.ep
  ep1 : s.ep < 20
theorem MS.ok.le {s : MS} (h : s.ok) : s.ml.length ≤ 8 := by
  have key : ∀ (i : Nat) (m : Mem), s.ml[i]? = some m → (i : Int) ≤ m.who := by
    intro i
    induction i with
    | zero => intro m hm; exact (h.who m (List.mem_of_getElem? hm)).1
    | succ i ih =>
      intro m hm
      have hi : i < s.ml.length := by have := (List.getElem?_eq_some_iff.1 hm).1; omega
      have h1 := ih _ (List.getElem?_eq_getElem hi)
      have h2 := h.sorted.get (List.getElem?_eq_getElem hi) hm (by omega)
      omega
  by_cases h0 : s.ml.length = 0
  · omega
  · have hi : s.ml.length - 1 < s.ml.length := by omega
    have h1 := key _ _ (List.getElem?_eq_getElem hi)
    have h2 := (h.who _ (List.getElem_mem hi)).2
    omega
/-- what a change hands back. -/
def MsG (w : World) (o : Own) (r : MS × Int) (x : Ending) (w' : World) : Prop := ∃ o' a' c', x = .returned (.tuple #[.agg #[.slice a' r.1.ml.length c', .int .i64 r.1.ep], .int .i64 r.2]) ∧ Step no w o w' o' ∧ Row w' o' a' (r.1.ml.flatMap Mem.C) ∧ r.1.ml.length ≤ c'
def MsR (w : World) (o : Own) (r : MS × Int) (v : Value) (w' : World) : Prop := ∃ o' a' c', v = (.tuple #[.agg #[.slice a' r.1.ml.length c', .int .i64 r.1.ep], .int .i64 r.2]) ∧ Step no w o w' o' ∧ Row w' o' a' (r.1.ml.flatMap Mem.C) ∧ r.1.ml.length ≤ c'
section
variable {w w' w1 : World} {o o' o1 : Own} {a : Option Addr} {c N : Nat} {l : List Wr} {ml : List Mem} {cs : List Value} {s : MS} {cg : Chg} {wa oa : Option Addr} {wc oc : Nat}
theorem MsR.zero (s1 : Step no w o w1 o1) (cd : Int) : MsR w o (MS.z, cd) (.tuple #[.agg #[.slice none 0 0, .int .i64 0], .int .i64 cd]) w1 := ⟨o1, none, 0, rfl, s1, Row.nil _ _ _, Nat.le_refl _⟩
theorem MsR.of {r : MS × Int} {v : Value} (h : MsR w o r v w') {x : Ending} (hx : x = .returned v) : MsG w o r x w' := by
  obtain ⟨o', a', c', hv, h⟩ := h
  exact ⟨o', a', c', by rw [hx, hv], h⟩
theorem noStep {K : Nat → Prop} (h : Step no w o w1 o1) : Step no w o w1 (grow w o) := Step.of_no (h.ext.mono fun b ⟨_, _, h⟩ _ => h) h.ok0
theorem invite_spec (hr : Row w o a (s.ml.flatMap Mem.C)) (ok : Tags w o) (hs : s.ok) :
    Calls Try.prog 37 #[.agg #[.slice a s.ml.length c, .int .i64 s.ep], chgV cg wa wc oa oc] w (MsG w o (inviteM s cg)) := by
  have hle := hs.le
  have h0 := hs.ep0
  have h1 := hs.ep1
  refine (members_State_invite.go a s.ml.length c s.ep cg.kd cg.who cg.pub cg.lim wa cg.ws.length wc oa cg.old.length oc (R := MsR w o (inviteM s cg)) ?_).mono fun x w' ⟨v, he, h⟩ => h.of he
  unfold members_State_invite.N
  intro w11 p12 p13 p14 X11 hp
  obtain ⟨s11, M11⟩ := Step.priv X11 hp ok
  have g : ∀ p ∈ [p12, p13, p14], w.heap.size ≤ p := fun p h => (hp p h).1
  refine (find_spec (hr.step s11).1 hs.sorted (by omega) s.ep cg.who).mono fun x w18 ⟨he, X18⟩ => ⟨_, _, he, X18.kept, fun hf w21 X21 => ?_, fun hf => ⟨by omega, by omega, fun w22 X22 => ?_, fun w23 q24 X23 hb23 hq hq' => ?_⟩⟩
  all_goals have s18' := Step.of_no X18 s11.ok
  all_goals have s18 := s11.trans s18'
  all_goals have M18 := M11.step s18'
  · have s21 := Step.stores X21 s18'.ok (M18.sub (M := [p14]) (by simp)) (by simp)
    unfold inviteM; rw [if_pos hf]
    exact MsR.zero (s18.trans' s21 fun i hi => .inr (g i (by simp at hi ⊢; omega))) 13
  · have s22' := Step.of_no X22 s18'.ok
    have s22 := s18.trans s22'
    refine (Clone_spec s22.ok (hr.step s22).1 (by omega)).mono fun x w25 ⟨o25, ca, cc, he, s25, r25⟩ => ⟨_, _, _, he, (M18.step s22').keep s25 fun _ _ => id, fun w26 q27 X26 hb hq hq' => ?_⟩
    have s26 := Step.of_no X26 s25.ok
    have r26 := r25.step s26 fun k h => h.elim
    have l22 := s22.size
    have l25 := s25.size
    refine (Insert_spec (N := w22.heap.size) r26 s26.ok (by omega) (findI_le s.ml cg.who) ⟨cg.who, cg.pub, s.ep + 1, -1, 0⟩ hb (by omega) hq' (grow_ge hq)).mono fun x w30 ⟨o30, ia, ic, he, s30, r30⟩ => ⟨_, _, _, he, ?_, fun w33 X33 => ?_⟩
    · refine ((((M18.step s22').step s25).step s26).sub (M := [p12, p14]) (by simp)).keep s30 fun p hp' => ?_
      have := (M18.step s22').lt (p := p) (by simp at hp' ⊢; omega)
      omega
    · have s33 := Step.stores X33 s30.ok (((((M18.step s22').step s25).step s26).step s30).sub (M := [p12, p14]) (by simp)) (by simp [or_comm])
      have sA : Step no w o w30 o30 := ((s22.trans s25).trans s26).trans' s30 fun i hi => .inr (by omega)
      have sB : Step no w o w33 _ := sA.trans' s33 fun i hi => .inr (g i (by simp at hi ⊢; omega))
      have r33 := r30.step s33 fun k hk => .inl ((M18.step s22').lt (p := k) (by simp at hk ⊢; omega))
      unfold inviteM; rw [if_neg (by rw [hf]; decide)]
      refine ⟨_, ia, ic, ?_, noStep (K := no) sB, r33.give sB (by omega), r33.le⟩
      have hfi := findI_le s.ml cg.who
      have hnl : (s.ml.take (findI s.ml cg.who) ++ (⟨cg.who, cg.pub, s.ep + 1, -1, 0⟩ : Mem) :: s.ml.drop (findI s.ml cg.who)).length = s.ml.length + 1 := by simp; omega
      show _ = Value.tuple #[.agg #[.slice ia (s.ml.take (findI s.ml cg.who) ++ (⟨cg.who, cg.pub, s.ep + 1, -1, 0⟩ : Mem) :: s.ml.drop (findI s.ml cg.who)).length ic, .int .i64 s.ep], .int .i64 0]
      rw [hnl]
  · have s23' := Step.of_no X23 s18'.ok
    have s23 := s18.trans s23'
    refine (Clone_spec s23.ok (hr.step s23).1 (by omega)).mono fun x w27 ⟨o27, ca, cc, he, s27, r27⟩ => ⟨_, _, _, he, ((M18.step s23').sub (M := [p12, p14]) (by simp)).keep s27 fun _ _ => id, ?_⟩
    have l18 := s18.size
    have hb27 : Blk w27 q24 49 [.int .i64 cg.who, .int .u64 cg.pub, .int .i64 (s.ep + 1), .int .i64 (-1), .int .i64 0] := by
      have := s27.at hq' (fun k hk => id)
      unfold Blk at hb23 ⊢; rw [this]; exact hb23
    have hqo : o27 q24 = none := by rw [s27.own hq']; exact grow_ge hq
    have hM24 : ∀ p ∈ [p12, p14], p < w18.heap.size := fun p hp' => M18.lt (p := p) (by simp at hp' ⊢; omega)
    have r27' : MRow w18.heap.size w27 o27 ca cc s.ml := by
      rcases r27 with h | ⟨k, h1, h2, h⟩
      · exact .inl h
      · exact .inr ⟨k, by have := X23.size; omega, h2, h⟩
    refine (Insert_spec (N := w18.heap.size) r27' s27.ok (by omega) (findI_le s.ml cg.who) ⟨cg.who, cg.pub, s.ep + 1, -1, 0⟩ hb27 hq (Nat.lt_of_lt_of_le hq' s27.size) hqo).mono fun x w30 ⟨o30, ia, ic, he, s30, r30⟩ => ⟨_, _, _, he, ?_, fun w33 X33 => ?_⟩
    · refine (((M18.step s23').step s27).sub (M := [p12, p14]) (by simp)).keep s30 fun p hp' => ?_
      have := hM24 p hp'
      omega
    · have s33 := Step.stores X33 s30.ok ((((M18.step s23').step s27).step s30).sub (M := [p12, p14]) (by simp)) (by simp [or_comm])
      have sA : Step no w o w30 o30 := (s23.trans s27).trans' s30 fun i hi => .inr (by omega)
      have sB : Step no w o w33 _ := sA.trans' s33 fun i hi => .inr (g i (by simp at hi ⊢; omega))
      have r33 := r30.step s33 fun k hk => .inl (hM24 k hk)
      unfold inviteM; rw [if_neg (by rw [hf]; decide)]
      refine ⟨_, ia, ic, ?_, noStep (K := no) sB, r33.give sB (by omega), r33.le⟩
      have hfi := findI_le s.ml cg.who
      have hnl : (s.ml.take (findI s.ml cg.who) ++ (⟨cg.who, cg.pub, s.ep + 1, -1, 0⟩ : Mem) :: s.ml.drop (findI s.ml cg.who)).length = s.ml.length + 1 := by simp; omega
      show _ = Value.tuple #[.agg #[.slice ia (s.ml.take (findI s.ml cg.who) ++ (⟨cg.who, cg.pub, s.ep + 1, -1, 0⟩ : Mem) :: s.ml.drop (findI s.ml cg.who)).length ic, .int .i64 s.ep], .int .i64 0]
      rw [hnl]
theorem flat_set (ml : List Mem) {i : Nat} {m : Mem} (h : ml[i]? = some m) (j : Nat) (v : Value) (m' : Mem) (hm : m'.C = m.C.set j v) (hj : j < 5) : (ml.flatMap Mem.C).set (i * 5 + j) v = (ml.set i m').flatMap Mem.C := by
  induction ml generalizing i with
  | nil => simp at h
  | cons x r ih =>
    cases i with
    | zero =>
      simp only [List.getElem?_cons_zero, Option.some.injEq] at h
      subst h
      rw [Nat.zero_mul, Nat.zero_add, List.flatMap_cons, List.set_append_left _ _ (by rw [Mem.len]; exact hj)]
      simp [hm]
    | succ i =>
      simp only [List.getElem?_cons_succ] at h
      rw [List.flatMap_cons, List.set_append_right _ _ (by rw [Mem.len]; omega), show (i + 1) * 5 + j - x.C.length = i * 5 + j by rw [Mem.len]; omega, ih h]
      simp
theorem revoke_spec (hr : Row w o a (s.ml.flatMap Mem.C)) (ok : Tags w o) (hs : s.ok) :
    Calls Try.prog 38 #[.agg #[.slice a s.ml.length c, .int .i64 s.ep], chgV cg wa wc oa oc] w (MsG w o (revokeM s cg)) := by
  have hle := hs.le
  have h0 := hs.ep0
  have h1 := hs.ep1
  refine (members_State_revoke.go a s.ml.length c s.ep cg.kd cg.who cg.pub cg.lim wa cg.ws.length wc oa cg.old.length oc (R := MsR w o (revokeM s cg)) ?_).mono fun x w' ⟨v, he, h⟩ => h.of he
  unfold members_State_revoke.N
  intro w11 p12 p13 p14 X11 hp
  obtain ⟨s11, M11⟩ := Step.priv X11 hp ok
  have g : ∀ p ∈ [p12, p13, p14], w.heap.size ≤ p := fun p h => (hp p h).1
  refine (find_spec (hr.step s11).1 hs.sorted (by omega) s.ep cg.who).mono fun x w18 ⟨he, X18⟩ => ⟨_, _, he, X18.kept, fun hf w21 X21 => ?_, fun hf => ?_⟩
  all_goals have s18' := Step.of_no X18 s11.ok
  all_goals have s18 := s11.trans s18'
  all_goals have M18 := M11.step s18'
  · have s21 := Step.stores X21 s18'.ok (M18.sub (M := [p14]) (by simp)) (by simp)
    unfold revokeM; rw [if_neg (by rw [hf]; decide)]
    exact MsR.zero (s18.trans' s21 fun i hi => .inr (g i (by simp at hi ⊢; omega))) 20
  obtain ⟨m, hm, hmw⟩ := isAt_some hf
  have hlt := (List.getElem?_eq_some_iff.1 hm).1
  obtain ⟨ad, rfl⟩ := hr.1.faddr Mem.len (by decide) hlt
  have hfi := Int.toNat_natCast (findI s.ml cg.who)
  have hM : revokeM s cg = if m.to_ = -1 then (⟨s.ml.set (findI s.ml cg.who) { m with to_ := if s.ep < 0 then -2 else s.ep, lim := cg.lim }, s.ep⟩, 0) else (MS.z, 10) := by unfold revokeM; rw [if_pos hf, hm]
  rw [hM, hfi]
  generalize findI s.ml cg.who = i at *
  refine ⟨ad, rfl, by omega, by omega, m.to_, (hr.step s18).1.fcell Mem.len hm 3 rfl, fun hto w27 X27 => ?_, fun hto => ?_⟩
  · have s27 := Step.stores X27 s18'.ok (M18.sub (M := [p14]) (by simp)) (by simp)
    rw [if_neg hto]
    exact MsR.zero (s18.trans' s27 fun i hi => .inr (g i (by simp at hi ⊢; omega))) 10
  rw [if_pos hto]
  refine (Clone_spec s18.ok (hr.step s18).1 (by omega)).mono fun x w30 ⟨o30, ca, cc, he, s30', r30⟩ => ⟨_, _, _, he, M18.keep s30' fun _ _ => id, ?_⟩
  have s30 := s18.trans s30'
  have M30 := M18.step s30'
  obtain ⟨cd, rfl⟩ := r30.row.faddr Mem.len (by decide) hlt
  refine ⟨cd, rfl, by omega, by omega, fun w33 X33 => ?_⟩
  have s33' := Step.stores X33 s30.ok (M30.sub (M := [p12]) (by simp)) (by simp)
  have hMlt : ∀ p ∈ [p12, p13, p14], p < w18.heap.size := fun p hp' => M18.lt hp'
  have s33 : Step no w o w33 _ := s30.trans' s33' fun i hi => .inr (g i (by simp at hi ⊢; omega))
  have M33 := M30.step s33'
  have r33 := r30.step s33' fun k hk => .inl (hMlt k (by simp at hk ⊢; omega))
  have hfl : (s.ml.flatMap Mem.C).length = s.ml.length * 5 := flat_length Mem.len s.ml
  have hadd : ∀ j, ((cd.add (i * 5)).add j).add 0 = cd.add (i * 5 + j) := fun j => by rw [add_add, add_add, Nat.add_zero]
  have hblk : ∀ j, Addr.block ((cd.add (i * 5)).add j) = cd.block := fun j => by rw [block_add, block_add]
  -- the first store
  obtain ⟨cd', hcd', can1, hN1, hsm1, hst1⟩ := r33.set s33.ok (j := i * 5 + 3) (by rw [hfl]; omega) (.int .i64 s.ep)
  cases hcd'
  have offP : ∀ {wz : World} {oz : Own}, Mine [p12, p13, p14] wz oz → (∀ k, oz cd.block = some k → w18.heap.size ≤ k) → ∀ p ∈ [p12, p13, p14], p ≠ cd.block := fun Mz hz p hp' e => by
    have h1 := (Mz p hp').2
    rw [e] at h1
    have := hz _ h1
    have := hMlt p hp'
    omega
  refine ⟨by rw [hadd]; exact can1, fun p hp' => by rw [hblk]; exact offP M33 hN1 p hp', thenW_in fun w34 e34 => ?_⟩
  rw [hadd] at e34
  obtain ⟨s34', r34, X34⟩ := hst1 w34 e34
  have s34 : Step no w o w34 _ := s33.trans' s34' fun i hi => .inr (by have := s18.size; omega)
  have M34 := M33.step s34'
  have hset1 := flat_set s.ml hm 3 (.int .i64 s.ep) { m with to_ := s.ep } rfl (by decide)
  rw [hset1] at r34
  have hm2 : (s.ml.set i { m with to_ := s.ep })[i]? = some { m with to_ := s.ep } := by rw [List.getElem?_set_self hlt]
  have hfl2 : ((s.ml.set i { m with to_ := s.ep }).flatMap Mem.C).length = s.ml.length * 5 := by rw [flat_length Mem.len, List.length_set]
  obtain ⟨cd', hcd', can2, hN2, hsm2, hst2⟩ := r34.set s34.ok (j := i * 5 + 4) (by rw [hfl2]; omega) (.int .i64 cg.lim)
  cases hcd'
  refine ⟨by rw [hadd]; exact can2, fun p hp' => by rw [hblk]; exact offP M34 hN2 p (by simp at hp' ⊢; omega), thenW_in fun w35 e35 => ?_⟩
  rw [hadd] at e35
  obtain ⟨s35', r35, X35⟩ := hst2 w35 e35
  have s35 : Step no w o w35 _ := s34.trans' s35' fun i hi => .inr (by have := s18.size; omega)
  have M35 := M34.step s35'
  have hset2 := flat_set (s.ml.set i { m with to_ := s.ep }) hm2 4 (.int .i64 cg.lim) { m with to_ := s.ep, lim := cg.lim } rfl (by decide)
  rw [hset2, List.set_set] at r35
  have hm3 : (s.ml.set i { m with to_ := s.ep, lim := cg.lim })[i]? = some { m with to_ := s.ep, lim := cg.lim } := by rw [List.getElem?_set_self hlt]
  have hfl3 : ((s.ml.set i { m with to_ := s.ep, lim := cg.lim }).flatMap Mem.C).length = s.ml.length * 5 := by rw [flat_length Mem.len, List.length_set]
  refine ⟨fun hneg => ?_, fun hpos w41 X41 => ?_⟩
  · obtain ⟨cd', hcd', can3, hN3, hsm3, hst3⟩ := r35.set s35.ok (j := i * 5 + 3) (by rw [hfl3]; omega) (.int .i64 (-2))
    cases hcd'
    refine ⟨by rw [hadd]; exact can3, fun p hp' => by rw [hblk]; exact offP M35 hN3 p (by simp at hp' ⊢; omega), thenW_in fun w37 e37 => ?_⟩
    rw [hadd] at e37
    obtain ⟨s37', r37, X37⟩ := hst3 w37 e37
    have s37 : Step no w o w37 _ := s35.trans' s37' fun i hi => .inr (by have := s18.size; omega)
    have M37 := M35.step s37'
    have hset3 := flat_set (s.ml.set i { m with to_ := s.ep, lim := cg.lim }) hm3 3 (.int .i64 (-2)) { m with to_ := -2, lim := cg.lim } rfl (by decide)
    rw [hset3, List.set_set] at r37
    intro w39 X39
    have s39' := Step.stores X39 s37.ok (M37.sub (M := [p14]) (by simp)) (by simp)
    have s39 : Step no w o w39 _ := s37.trans' s39' fun i hi => .inr (g i (by simp at hi ⊢; omega))
    have r39 := r37.step s39' fun k hk => .inl (hMlt k (by simp at hk ⊢; omega))
    rw [if_pos hneg]
    refine ⟨_, some cd, cc, by rw [List.length_set], noStep (K := no) s39, r39.give s39 s18.size, by rw [List.length_set]; exact r39.le⟩
  · have s41' := Step.stores X41 s35.ok (M35.sub (M := [p14]) (by simp)) (by simp)
    have s41 : Step no w o w41 _ := s35.trans' s41' fun i hi => .inr (g i (by simp at hi ⊢; omega))
    have r41 := r35.step s41' fun k hk => .inl (hMlt k (by simp at hk ⊢; omega))
    rw [if_neg (by omega)]
    refine ⟨_, some cd, cc, by rw [List.length_set], noStep (K := no) s41, r41.give s41 s18.size, by rw [List.length_set]; exact r41.le⟩
theorem Now_spec (hr : Row w o a (ml.flatMap Mem.C)) (ok : Tags w o) (hl : ml.length < 1000) (ep : Int) :
    Calls Try.prog 22 #[.agg #[.slice a ml.length c, .int .i64 ep]] w (fun x w' => ∃ o' a' c', x = .returned (.slice a' (nowM ml).length c') ∧ Step no w o w' o' ∧ Row w' o' a' ((nowM ml).flatMap Mem.C) ∧ (nowM ml).length ≤ c') := by
  refine (members_Now.go a ml.length c ep (R := fun v w' => ∃ o' a' c', v = (.slice a' (nowM ml).length c') ∧ Step no w o w' o' ∧ Row w' o' a' ((nowM ml).flatMap Mem.C) ∧ (nowM ml).length ≤ c') ?_).mono fun x w' ⟨v, he, o', a', c', hv, hw⟩ => ⟨o', a', c', by rw [he, hv], hw⟩
  unfold members_Now.N
  intro w3 X3
  have s3 := Step.of_no X3 ok
  refine ⟨fun m vs w1 => ∃ (t : Nat) (a1 : Option Addr) (c1 : Nat) (o1 : Own), vs = [.slice a1 (nowM (ml.take t)).length c1, .int .i64 t] ∧ m + t = ml.length ∧ Step no w o w1 o1 ∧ MRow w.heap.size w1 o1 a1 c1 (nowM (ml.take t)), ml.length, ⟨0, none, 0, _, rfl, rfl, s3, LRow.nil _ _ _ _ _⟩, ?_⟩
  rintro m w1 ra rn rc i ⟨t, a1, c1, o1, hi, hm, s1, r1⟩
  simp only [List.cons.injEq, Value.slice.injEq, Value.int.injEq, true_and, and_true] at hi
  obtain ⟨⟨rfl, rfl, rfl⟩, rfl⟩ := hi
  refine ⟨fun ht => ?_, fun ht => ?_⟩
  · have htl : t < ml.length := by omega
    have hg : ml[t]? = some ml[t] := List.getElem?_eq_getElem htl
    have htk : ml.take (t + 1) = ml.take t ++ [ml[t]] := by rw [List.take_add_one, hg]; rfl
    generalize ml[t] = x at *
    obtain ⟨ad, rfl⟩ := hr.1.faddr Mem.len (by decide) htl
    refine ⟨ad, rfl, by omega, by omega, x.who, x.pub, x.fr, x.to_, x.lim, by rw [Int.toNat_natCast]; exact (hr.step s1).1.floads Mem.len hg, fun hto w25 q26 X25 hb hq hq' => ?_, fun hto => ⟨by omega, by omega, fun w23 X23 => ?_⟩⟩
    · have s25 := Step.of_no X25 s1.ok
      have r25 : MRow w.heap.size w25 _ ra rc (nowM (ml.take t)) := LRow.step r1 s25 fun k h => h.elim
      have hln : (nowM (ml.take t)).length < 1000000 := by
        have h1 : (nowM (ml.take t)).length ≤ (ml.take t).length := List.length_filter_le _ _
        rw [List.length_take] at h1; omega
      obtain ⟨a', c', w', o', hrun, s2, hrow⟩ := r25.push s25.ok hln x hb (by have := s1.size; omega) hq'
      have hnw : nowM (ml.take (t + 1)) = nowM (ml.take t) ++ [x] := by rw [htk]; unfold nowM; rw [List.filter_append]; simp [hto]
      exact ⟨a', _, c', w', hrun, by omega, by omega, m - 1, by omega, t + 1, a', c', o', by rw [hnw]; simp, by omega, (s1.trans s25).trans' s2 fun i hi => .inr hi, by rw [hnw]; exact hrow⟩
    · have s23 := Step.of_no X23 s1.ok
      have hnw : nowM (ml.take (t + 1)) = nowM (ml.take t) := by rw [htk]; unfold nowM; rw [List.filter_append]; simp [hto]
      exact ⟨m - 1, by omega, t + 1, ra, rc, _, by rw [hnw]; simp, by omega, s1.trans s23, by rw [hnw]; exact LRow.step r1 s23 fun k h => h.elim⟩
  · have : t = ml.length := by omega
    subst this
    rw [List.take_length] at r1 ⊢
    exact ⟨_, ra, rc, rfl, noStep (K := no) s1, r1.give s1 (Nat.le_refl _), r1.le⟩
theorem begin1_spec (m : Mem) (x : Wr) : Calls Try.prog 58 #[.agg #[.int .i64 m.who, .int .u64 m.pub, .int .i64 m.fr, .int .i64 m.to_, .int .i64 m.lim], .agg #[.int .i64 x.who, .slice x.a x.b.length x.c]] w (Ret (.bool (m.who == x.who)) fun w' => Ext no w w') := by
  refine members_State_begin_1.run m.who m.pub m.fr m.to_ m.lim x.who x.a x.b.length x.c ?_
  unfold members_State_begin_1.N
  exact fun w' X => ⟨rfl, X⟩
theorem EqualFunc_spec (hr : RowAt w a (ml.flatMap Mem.C)) (hw : RowAt w wa (l.flatMap Wr.C)) (hl : ml.length < 1000000) :
    Calls Try.prog 57 #[.slice a ml.length c, .slice wa l.length wc, .func (.func 58) #[] #[]] w (Ret (.bool (decide (ml.map Mem.who = l.map Wr.who))) fun w' => Ext no w w') := by
  refine slices_EqualFunc_members_Member_members_Wrap_members_Member_members_Wrap.run a ml.length c wa l.length wc _ _ _ ?_
  unfold slices_EqualFunc_members_Member_members_Wrap_members_Member_members_Wrap.N
  refine ⟨fun hne => ⟨?_, Ext.refl _ _⟩, fun heq => ?_⟩
  · congr 1
    rw [eq_comm, decide_eq_false_iff_not]
    intro h
    have := congrArg List.length h
    simp at this; omega
  refine ⟨fun q vs w1 => ∃ t : Nat, vs = [.int .i64 t] ∧ q + t = ml.length ∧ Ext no w w1 ∧ (ml.map Mem.who).take t = (l.map Wr.who).take t, ml.length, ⟨0, rfl, rfl, Ext.refl _ _, rfl⟩, ?_⟩
  rintro q w1 i ⟨t, hi, hq, X1, hn⟩
  simp only [List.cons.injEq, Value.int.injEq, true_and, and_true] at hi
  subst hi
  refine ⟨fun ht => ?_, fun ht => ?_⟩
  · have htl : t < ml.length := by omega
    have htm : t < l.length := by omega
    have hg : ml[t]? = some ml[t] := List.getElem?_eq_getElem htl
    have hgm : l[t]? = some l[t] := List.getElem?_eq_getElem htm
    generalize ml[t] = x at *
    generalize l[t] = y at *
    obtain ⟨ad, rfl⟩ := hr.faddr Mem.len (by decide) htl
    obtain ⟨bd, rfl⟩ := hw.faddr Wr.len (by decide) htm
    refine ⟨ad, rfl, by omega, by omega, x.who, x.pub, x.fr, x.to_, x.lim, by rw [Int.toNat_natCast]; exact (hr.no X1).floads Mem.len hg, bd, rfl, by omega, by omega, y.who, y.a, y.b.length, y.c, by rw [Int.toNat_natCast]; exact (hw.no X1).floads Wr.len hgm, fun w29 X29 => ⟨by kernel_rfl, ?_⟩⟩
    refine (begin1_spec x y).mono fun e w34 ⟨he, X34⟩ => ⟨_, he, fun h => ⟨?_, (X1.trans X29).trans X34⟩, fun h => ⟨by omega, by omega, q - 1, by omega, t + 1, rfl, by omega, (X1.trans X29).trans X34, ?_⟩⟩
    · congr 1
      rw [eq_comm, decide_eq_false_iff_not]
      intro h2
      have h3 := congrArg (fun l => l[t]?) h2
      simp only [List.getElem?_map, hg, hgm, Option.map_some, Option.some.injEq] at h3
      simp [h3] at h
    · rw [List.take_add_one, List.take_add_one, hn, List.getElem?_map, List.getElem?_map, hg, hgm, Option.map_some, Option.map_some, show x.who = y.who by simpa using h]
  · have : t = ml.length := by omega
    subst this
    rw [List.take_of_length_le (by simp), List.take_of_length_le (by simp; omega)] at hn
    exact ⟨by rw [decide_eq_true hn], X1⟩
theorem begin_spec (hr : Row w o a (s.ml.flatMap Mem.C)) (ok : Tags w o) (hs : s.ok) (hw : Row w o wa (l.flatMap Wr.C)) (hlw : l.map Wr.p = cg.ws) :
    Calls Try.prog 36 #[.agg #[.slice a s.ml.length c, .int .i64 s.ep], chgV cg wa wc oa oc] w (MsG w o (beginM s cg)) := by
  have hle := hs.le
  have h0 := hs.ep0
  have h1 := hs.ep1
  have hlen : l.length = cg.ws.length := by rw [← hlw]; simp
  refine (members_State_begin.go a s.ml.length c s.ep cg.kd cg.who cg.pub cg.lim wa cg.ws.length wc oa cg.old.length oc (R := MsR w o (beginM s cg)) ?_).mono fun x w' ⟨v, he, h⟩ => h.of he
  unfold members_State_begin.N
  refine ⟨by omega, by omega, fun hge w14 X14 => ?_, fun hlt => ⟨fun hne w21 X21 => ?_, fun heq w18 p25 p26 p27 X18 hp => ?_⟩⟩
  · unfold beginM; rw [if_pos hge]; exact MsR.zero (Step.of_no X14 ok) 2
  · unfold beginM; rw [if_neg (by omega), if_neg hne]; exact MsR.zero (Step.of_no X21 ok) 10
  have hM : beginM s cg = if (nowM s.ml).map Mem.who = cg.ws.map Prod.fst then (⟨s.ml, s.ep + 1⟩, 0) else (MS.z, 10) := by unfold beginM; rw [if_neg (by omega), if_pos heq]
  have hws : cg.ws.map Prod.fst = l.map Wr.who := by rw [← hlw, List.map_map]; rfl
  rw [hM, hws, ← hlen]
  obtain ⟨s18, M18⟩ := Step.priv X18 hp ok
  have g : ∀ p ∈ [p25, p26, p27], w.heap.size ≤ p := fun p h => (hp p h).1
  refine (Now_spec (hr.step s18) s18.ok (by omega) s.ep).mono fun x w30 ⟨o30, na, nc, he, s30', rn, _⟩ => ⟨_, _, _, he, M18.keep s30' fun _ _ => id, ?_⟩
  have s30 := s18.trans s30'
  have M30 := M18.step s30'
  have hnl : (nowM s.ml).length ≤ s.ml.length := List.length_filter_le _ _
  refine (EqualFunc_spec rn.1 (hw.step s30).1 (by omega)).mono fun x w33 ⟨he, X33⟩ => ⟨_, he, X33.kept, fun hf w36 X36 => ?_, fun ht => ?_⟩
  all_goals have s33' := Step.of_no X33 s30.ok
  all_goals have s33 := s30.trans s33'
  all_goals have M33 := M30.step s33'
  · rw [if_neg (of_decide_eq_false hf)]
    have s36 := Step.stores X36 s33.ok (M33.sub (M := [p27]) (by simp)) (by simp)
    exact MsR.zero (s33.trans' s36 fun i hi => .inr (g i (by simp at hi ⊢; omega))) 10
  · rw [if_pos (of_decide_eq_true ht)]
    refine (Clone_spec s33.ok (hr.step s33).1 (by omega)).mono fun x w39 ⟨o39, ca, cc, he, s39', r39⟩ => ⟨_, _, _, he, (M33.sub (M := [p25, p27]) (by simp)).keep s39' fun _ _ => id, by omega, by omega, fun w43 X43 => ?_⟩
    have s39 := s33.trans s39'
    have s43' := Step.stores X43 s39.ok ((M33.step s39').sub (M := [p25, p27]) (by simp)) (by simp [or_comm])
    have s43 : Step no w o w43 _ := s39.trans' s43' fun i hi => .inr (g i (by simp at hi ⊢; omega))
    have r43 := r39.step s43' fun k hk => .inl (M33.lt (p := k) (by simp at hk ⊢; omega))
    exact ⟨_, ca, cc, rfl, noStep (K := no) s43, r43.give s43 s33.size, r43.le⟩
theorem Apply_spec (hr : Row w o a (s.ml.flatMap Mem.C)) (ok : Tags w o) (hs : s.ok) (hw : Row w o wa (l.flatMap Wr.C)) (hlw : l.map Wr.p = cg.ws) (hwl : l.length < 1000000) (hol : cg.old.length < 1000000) :
    Calls Try.prog 12 #[.agg #[.slice a s.ml.length c, .int .i64 s.ep], chgV cg wa wc oa oc] w (MsG w o (applyM s cg)) := by
  refine (members_Apply.go a s.ml.length c s.ep cg.kd cg.who cg.pub cg.lim wa cg.ws.length wc oa cg.old.length oc (R := MsR w o (applyM s cg)) ?_).mono fun x w' ⟨v, he, h⟩ => h.of he
  unfold members_Apply.N
  intro w11 p12 p13 p14 X11 hp
  obtain ⟨s11, M11⟩ := Step.priv X11 hp ok
  have g : ∀ p ∈ [p12, p13, p14], w.heap.size ≤ p := fun p h => (hp p h).1
  refine (Right_spec (hw.step s11).1 hlw hwl hol).mono fun x w17 ⟨he, X17⟩ => ⟨_, he, X17.kept, fun hf w20 X20 => ?_, fun ht => ?_⟩
  all_goals have s17' := Step.of_no X17 s11.ok
  all_goals have s17 := s11.trans s17'
  all_goals have M17 := M11.step s17'
  · have s20 := Step.stores X20 s17'.ok (M17.sub (M := [p14]) (by simp)) (by simp)
    unfold applyM; rw [if_neg (by rw [hf]; decide)]
    exact MsR.zero (s17.trans' s20 fun i hi => .inr (g i (by simp at hi ⊢; omega))) 1
  have fin : ∀ {r : MS × Int} {x : Ending} {w26 w28 : World}, MsG w17 (grow w11 (tags w o [p12, p13, p14])) r x w26 → ∃ (a' : Option Addr) (n' c' : Nat) (ep' cd' : Int), x = .returned (.tuple #[.agg #[.slice a' n' c', .int .i64 ep'], .int .i64 cd']) ∧ Keep [p14] w17 w26 ∧ ∀ w28, Ext (fun b => b = p14) w26 w28 → MsR w o r (.tuple #[.agg #[.slice a' n' c', .int .i64 ep'], .int .i64 cd']) w28 := by
    rintro r x w26 w28 ⟨o26, a', c', he, s26, r26, hc⟩
    refine ⟨a', _, c', _, _, he, (M17.sub (M := [p14]) (by simp)).keep s26 fun _ _ => id, fun w28 X28 => ?_⟩
    have s28' := Step.stores X28 s26.ok ((M17.step s26).sub (M := [p14]) (by simp)) (by simp)
    have s28 := (s17.trans s26).trans' s28' fun i hi => .inr (g i (by simp at hi ⊢; omega))
    exact ⟨_, a', c', rfl, s28, r26.step s28', hc⟩
  unfold applyM
  rw [if_pos ht]
  refine ⟨fun h1 => ?_, fun h1 => ⟨fun h2 => ?_, fun h2 => ?_⟩⟩
  · rw [if_pos h1]
    exact (invite_spec (hr.step s17) s17.ok hs).mono fun x w26 h => fin (w28 := w) h
  · rw [if_neg h1, if_pos h2]
    exact (revoke_spec (hr.step s17) s17.ok hs).mono fun x w26 h => fin (w28 := w) h
  · rw [if_neg h1, if_neg h2]
    exact (begin_spec (hr.step s17) s17.ok hs (hw.step s17) hlw).mono fun x w26 h => fin (w28 := w) h
end
end Go.Proofs.Ytmhfoieeldiecaa

/- Members: what is told of a state; changes and states handed over; the chapter's example. -/
set_option linter.unusedVariables false
set_option linter.unusedSimpArgs false
set_option maxRecDepth 20000
set_option maxHeartbeats 2000000
namespace Go.Proofs.Ytmhfoieeldiecaa
open Go Go.Mx Go.Proofs
open W (OwnB)
theorem inf5 : (Try.prog.info? 5).map (fun i => (i.zero, i.size, i.bytes)) = some (some (.int .u8 0), 1, 1) := by kernel_rfl
def Mem.z : Mem := ⟨0, 0, 0, 0, 0⟩
def Mem.V (m : Mem) : Value := .agg #[.int .i64 m.who, .int .u64 m.pub, .int .i64 m.fr, .int .i64 m.to_, .int .i64 m.lim]
def newM (p : Int) : MS := ⟨[⟨0, p, 0, -1, 0⟩], -1⟩
def findM (l : List Mem) (x : Int) : Mem × Bool := if isAt l x = true then ((l[findI l x]?).getD Mem.z, true) else (Mem.z, false)
def mayM (s : MS) (who index epoch : Int) : Int :=
  if (findM s.ml who).2 = true then
    (if epoch = -1 ∧ who = 0 then 0 else if epoch > s.ep then 7 else if epoch < (if (0 : Int) > (findM s.ml who).1.fr then 0 else (findM s.ml who).1.fr) then 10
     else if (findM s.ml who).1.to_ ≠ -1 ∧ (epoch > (findM s.ml who).1.to_ ∨ index ≥ (findM s.ml who).1.lim) then 10 else 0)
  else 20
theorem newM_ok (p : Int) : (newM p).ok := ⟨List.pairwise_singleton _ _, fun m hm => by simp [newM] at hm; subst hm; exact ⟨by show (0 : Int) ≤ 0; decide, by show (0 : Int) < 8; decide⟩, by show (-1 : Int) ≤ -1; decide, by show (-1 : Int) < 20; decide⟩
section
variable {s : MS} {c : Chg} {l : List Mem}
theorem Sorted.insert (h : Sorted l) {m : Mem} (hn : isAt l m.who = false) : Sorted (l.take (findI l m.who) ++ m :: l.drop (findI l m.who)) := by
  have hb : ∀ x ∈ l.drop (findI l m.who), m.who < x.who := fun x hx => by
    obtain ⟨j, hj⟩ := List.getElem?_of_mem hx
    rw [List.getElem?_drop] at hj
    have hlt : findI l m.who < l.length := by have := (List.getElem?_eq_some_iff.1 hj).1; omega
    have hg : l[findI l m.who]? = some l[findI l m.who] := List.getElem?_eq_getElem hlt
    have h1 := findI_at hg
    have h2 : m.who ≠ (l[findI l m.who]).who := fun e => by
      unfold isAt at hn; rw [hg] at hn; exact of_decide_eq_false hn e.symm
    rcases Nat.eq_zero_or_pos j with rfl | hp
    · rw [Nat.add_zero, hg] at hj; cases hj; omega
    · have := h.get hg hj (by omega); omega
  have ha : ∀ x ∈ l.take (findI l m.who), x.who < m.who := fun x hx => by
    obtain ⟨j, hj⟩ := List.getElem?_of_mem hx
    rw [List.getElem?_take] at hj
    split at hj
    · exact findI_lt hj (by assumption)
    · cases hj
  have h0 : Sorted (l.take (findI l m.who) ++ l.drop (findI l m.who)) := by rw [List.take_append_drop]; exact h
  unfold Sorted at h0 ⊢
  rw [List.pairwise_append] at h0 ⊢
  refine ⟨h0.1, List.pairwise_cons.2 ⟨hb, h0.2.1⟩, fun x hx y hy => ?_⟩
  rcases List.mem_cons.1 hy with rfl | hy
  · exact ha x hx
  · exact h0.2.2 x hx y hy
theorem Sorted.set (h : Sorted l) {i : Nat} {m m' : Mem} (hi : l[i]? = some m) (hw : m'.who = m.who) : Sorted (l.set i m') := by
  unfold Sorted at h ⊢
  rw [List.pairwise_iff_getElem] at h ⊢
  intro a b ha hb hab
  simp only [List.length_set] at ha hb
  have hm : (l[i]'(List.getElem?_eq_some_iff.1 hi).1) = m := (List.getElem?_eq_some_iff.1 hi).2
  simp only [List.getElem_set]
  split <;> split
  · omega
  · rename_i h1 h2; subst h1; rw [hw, ← hm]; exact h _ _ _ _ hab
  · rename_i h1 h2; subst h2; rw [hw, ← hm]; exact h _ _ _ _ hab
  · exact h _ _ _ _ hab
theorem rightM_who (h : rightM c = true) : 0 ≤ c.who ∧ c.who < 8 := by
  unfold rightM at h
  by_cases hw : 0 ≤ c.who ∧ c.who < 8
  · exact hw
  · rw [if_neg hw] at h; cases h
theorem invite_out (h : (inviteM s c).2 = 0) : isAt s.ml c.who = false ∧ (inviteM s c).1 = ⟨s.ml.take (findI s.ml c.who) ++ ⟨c.who, c.pub, s.ep + 1, -1, 0⟩ :: s.ml.drop (findI s.ml c.who), s.ep⟩ := by
  unfold inviteM at h ⊢
  by_cases hi : isAt s.ml c.who = true
  · rw [if_pos hi] at h; cases h
  · rw [if_neg hi]; exact ⟨by simpa using hi, rfl⟩
theorem revoke_out (h : (revokeM s c).2 = 0) : ∃ m, s.ml[findI s.ml c.who]? = some m ∧ m.who = c.who ∧ m.to_ = -1 ∧ (revokeM s c).1 = ⟨s.ml.set (findI s.ml c.who) { m with to_ := if s.ep < 0 then -2 else s.ep, lim := c.lim }, s.ep⟩ := by
  unfold revokeM at h ⊢
  by_cases hi : isAt s.ml c.who = true
  · obtain ⟨m, hm, hw⟩ := isAt_some hi
    rw [if_pos hi, hm] at h ⊢
    simp only [] at h ⊢
    by_cases ht : m.to_ = -1
    · rw [if_pos ht]; exact ⟨m, rfl, hw, ht, rfl⟩
    · rw [if_neg ht] at h; cases h
  · rw [if_neg hi] at h; cases h
theorem begin_out (h : (beginM s c).2 = 0) : (beginM s c).1 = ⟨s.ml, s.ep + 1⟩ ∧ s.ep + 1 < 20 := by
  unfold beginM at h ⊢
  by_cases h1 : s.ep + 1 ≥ 20
  · rw [if_pos h1] at h; cases h
  · rw [if_neg h1] at h ⊢
    by_cases h2 : ((c.old.length : Int) == 0) = decide (s.ep < 0)
    · rw [if_pos h2] at h ⊢
      by_cases h3 : (nowM s.ml).map Mem.who = c.ws.map Prod.fst
      · rw [if_pos h3]; exact ⟨rfl, by omega⟩
      · rw [if_neg h3] at h; cases h
    · rw [if_neg h2] at h; cases h
theorem apply_out (h : (applyM s c).2 = 0) : rightM c = true ∧ ((c.kd = 1 ∧ (inviteM s c).2 = 0 ∧ applyM s c = inviteM s c) ∨ (c.kd = 2 ∧ (revokeM s c).2 = 0 ∧ applyM s c = revokeM s c) ∨ (c.kd ≠ 1 ∧ c.kd ≠ 2 ∧ (beginM s c).2 = 0 ∧ applyM s c = beginM s c)) := by
  unfold applyM at h ⊢
  by_cases hr : rightM c = true
  · rw [if_pos hr] at h ⊢
    refine ⟨hr, ?_⟩
    by_cases h1 : c.kd = 1
    · rw [if_pos h1] at h ⊢; exact .inl ⟨h1, h, rfl⟩
    · rw [if_neg h1] at h ⊢
      by_cases h2 : c.kd = 2
      · rw [if_pos h2] at h ⊢; exact .inr (.inl ⟨h2, h, rfl⟩)
      · rw [if_neg h2] at h ⊢; exact .inr (.inr ⟨h1, h2, h, rfl⟩)
  · rw [if_neg hr] at h; cases h
theorem mem_set {l : List Mem} {i : Nat} {x y : Mem} (h : x ∈ l.set i y) : x ∈ l ∨ x = y := List.mem_or_eq_of_mem_set h
theorem applyM_ok (hs : s.ok) (h : (applyM s c).2 = 0) : (applyM s c).1.ok := by
  obtain ⟨hr, hh⟩ := apply_out h
  have hw := rightM_who hr
  rcases hh with ⟨_, h1, e⟩ | ⟨_, h1, e⟩ | ⟨_, _, h1, e⟩
  · obtain ⟨q1, q2⟩ := invite_out h1
    rw [e, q2]
    refine ⟨hs.sorted.insert (m := ⟨c.who, c.pub, s.ep + 1, -1, 0⟩) q1, fun m hm => ?_, hs.ep0, hs.ep1⟩
    rcases List.mem_append.1 hm with hm | hm
    · exact hs.who m (List.mem_of_mem_take hm)
    · rcases List.mem_cons.1 hm with rfl | hm
      · exact hw
      · exact hs.who m (List.mem_of_mem_drop hm)
  · obtain ⟨m, q1, q2, q3, q4⟩ := revoke_out h1
    rw [e, q4]
    refine ⟨hs.sorted.set q1 rfl, fun x hx => ?_, hs.ep0, hs.ep1⟩
    rcases mem_set hx with hx | rfl
    · exact hs.who x hx
    · exact hs.who m (List.mem_of_getElem? q1)
  · obtain ⟨q1, q2⟩ := begin_out h1
    rw [e, q1]
    exact ⟨hs.sorted, hs.who, by show -1 ≤ s.ep + 1; have := hs.ep0; omega, q2⟩
end
section
variable {w w' w1 : World} {o o' o1 : Own} {a : Option Addr} {c N : Nat} {l : List Wr} {ml : List Mem} {cs : List Value} {s : MS} {cg : Chg} {wa oa : Option Addr} {wc oc : Nat}
theorem New_spec (ok : Tags w o) (p : Int) : Calls Try.prog 11 #[.int .u64 p] w (fun x w' => ∃ o' a' c', x = .returned (.agg #[.slice a' (newM p).ml.length c', .int .i64 (newM p).ep]) ∧ Step no w o w' o' ∧ Row w' o' a' ((newM p).ml.flatMap Mem.C) ∧ (newM p).ml.length ≤ c') := by
  refine (members_New.go p (R := fun v w' => ∃ o' a' c', v = (.agg #[.slice a' (newM p).ml.length c', .int .i64 (newM p).ep]) ∧ Step no w o w' o' ∧ Row w' o' a' ((newM p).ml.flatMap Mem.C) ∧ (newM p).ml.length ≤ c') ?_).mono fun x w' ⟨v, he, o', a', c', hv, hw⟩ => ⟨o', a', c', by rw [he, hv], hw⟩
  unfold members_New.N
  intro w3 q4 p5 X3 hb hq hq' hp w7 X7
  have s3 := (Step.of_no X3 ok).tag (p := p5) (j := p5) (hp p5 (by simp)).1 (by have := (hp p5 (by simp)).2; omega)
  have h5 := hp p5 (by simp)
  have M3 : Mine [p5] w3 (tag (grow w o) p5 p5) := fun p hp' => by rw [show p = p5 by simpa using hp']; exact ⟨by omega, tag_self⟩
  have s7 := Step.stores X7 s3.ok M3 (by simp)
  have r3 : Row w3 (tag (grow w o) p5 p5) (some (blk q4)) ((newM p).ml.flatMap Mem.C) := ⟨RowAt.of_blk hb, fun _ ad ha => by cases ha; rw [tag_ne (by show q4 ≠ p5; omega)]; exact grow_ge hq⟩
  exact ⟨_, some (blk q4), 1, rfl, s3.trans' s7 fun i hi => .inr (by simp at hi; omega), r3.step s7, Nat.le_refl _⟩
theorem Find_spec (hr : Row w o a (ml.flatMap Mem.C)) (ok : Tags w o) (hs : Sorted ml) (hl : ml.length < 1000000) (ep x : Int) :
    Calls Try.prog 17 #[.agg #[.slice a ml.length c, .int .i64 ep], .int .i64 x] w (Ret (.tuple #[(findM ml x).1.V, .bool (findM ml x).2]) fun w' => ∃ o', Step no w o w' o') := by
  refine members_Find.run a ml.length c ep x ?_
  unfold members_Find.N
  intro w5 p6 p7 X5 hp
  obtain ⟨s5, M5⟩ := Step.priv X5 hp ok
  have g : ∀ p ∈ [p6, p7], w.heap.size ≤ p := fun p h => (hp p h).1
  refine (find_spec (hr.step s5).1 hs hl ep x).mono fun e w11 ⟨he, X11⟩ => ⟨_, _, he, X11.kept, fun hf w17 X17 => ?_, fun ht => ?_⟩
  all_goals have s11' := Step.of_no X11 s5.ok
  all_goals have s11 := s5.trans s11'
  all_goals have M11 := M5.step s11'
  · have s17 := Step.stores X17 s11'.ok (M11.sub (M := [p7]) (by simp)) (by simp)
    unfold findM; rw [if_neg (by rw [hf]; decide)]
    exact ⟨rfl, _, s11.trans' s17 fun i hi => .inr (g i (by simp at hi ⊢; omega))⟩
  · obtain ⟨m, hm, hw⟩ := isAt_some ht
    have hlt := (List.getElem?_eq_some_iff.1 hm).1
    have hF : findM ml x = (m, true) := by unfold findM; rw [if_pos ht, hm]; rfl
    rw [hF]
    obtain ⟨ad, rfl⟩ := hr.1.faddr Mem.len (by decide) hlt
    refine ⟨ad, rfl, by omega, by omega, m.who, m.pub, m.fr, m.to_, m.lim, by rw [Int.toNat_natCast]; exact (hr.step s11).1.floads Mem.len hm, fun w29 X29 => ?_⟩
    have s29 := Step.stores X29 s11'.ok (M11.sub (M := [p7]) (by simp)) (by simp)
    exact ⟨rfl, _, s11.trans' s29 fun i hi => .inr (g i (by simp at hi ⊢; omega))⟩
theorem May_spec (hr : Row w o a (s.ml.flatMap Mem.C)) (ok : Tags w o) (hs : Sorted s.ml) (hl : s.ml.length < 1000000) (who index epoch : Int) :
    Calls Try.prog 14 #[.agg #[.slice a s.ml.length c, .int .i64 s.ep], .int .i64 who, .int .i64 index, .int .i64 epoch] w (Ret (.int .i64 (mayM s who index epoch)) fun w' => ∃ o', Step no w o w' o') := by
  refine members_May.run a s.ml.length c s.ep who index epoch ?_
  unfold members_May.N
  intro w6 p7 X6 hp
  obtain ⟨s6, M6⟩ := Step.priv X6 hp ok
  refine (Find_spec (hr.step s6) s6.ok hs hl s.ep who).mono fun e w15 ⟨he, o15, s15'⟩ => ⟨_, _, _, _, _, _, he, M6.keep s15' fun _ _ => id, ?_⟩
  have s15 := s6.trans s15'
  have fin : ∀ {w21 : World} {v : Int}, Ext no w15 w21 → v = mayM s who index epoch → Value.int .i64 v = .int .i64 (mayM s who index epoch) ∧ ∃ o', Step no w o w21 o' := fun X h => ⟨by rw [h], _, s15.trans (Step.of_no X s15.ok)⟩
  unfold mayM at fin ⊢
  generalize findM s.ml who = F at *
  obtain ⟨m, is⟩ := F
  simp only [] at fin ⊢
  refine ⟨fun h w21 X => fin X (by rw [h]; rfl), fun h => ?_⟩
  rw [if_pos h] at fin
  rw [if_pos h]
  refine ⟨fun h1 => ⟨fun h2 w21 X => fin X (by rw [if_pos ⟨h1, h2⟩]), fun h2 => ?_⟩, fun h1 => ?_⟩
  · rw [if_neg (fun h => h2 h.2)] at fin ⊢
    refine ⟨fun h3 w21 X => fin X (by rw [if_pos h3]), fun h3 => ⟨fun h4 w21 X => fin X (by rw [if_neg (by omega), if_pos h4]), fun h4 => ⟨fun h5 => ⟨fun h6 w21 X => fin X ?_, fun h6 => ⟨fun h7 w21 X => fin X ?_, fun h7 w21 X => fin X ?_⟩⟩, fun h5 w21 X => fin X ?_⟩⟩⟩
    all_goals rw [if_neg (by omega), if_neg (by omega)]
    · rw [if_pos ⟨h5, .inl h6⟩]
    · rw [if_pos ⟨h5, .inr h7⟩]
    · rw [if_neg (by omega)]
    · rw [if_neg (fun h => h.1 h5)]
  · rw [if_neg (fun h => h1 h.1)] at fin ⊢
    refine ⟨fun h3 w21 X => fin X (by rw [if_pos h3]), fun h3 => ⟨fun h4 w21 X => fin X (by rw [if_neg (by omega), if_pos h4]), fun h4 => ⟨fun h5 => ⟨fun h6 w21 X => fin X ?_, fun h6 => ⟨fun h7 w21 X => fin X ?_, fun h7 w21 X => fin X ?_⟩⟩, fun h5 w21 X => fin X ?_⟩⟩⟩
    all_goals rw [if_neg (by omega), if_neg (by omega)]
    · rw [if_pos ⟨h5, .inl h6⟩]
    · rw [if_pos ⟨h5, .inr h7⟩]
    · rw [if_neg (by omega)]
    · rw [if_neg (fun h => h.1 h5)]
end
/-! ### changes that are handed in -/
structure CR where
  kd : Int
  who : Int
  pub : Int
  lim : Int
  wa : Option Addr
  wc : Nat
  l : List Wr
  oa : Option Addr
  oc : Nat
  old : List UInt8
def CR.cg (p : CR) : Chg := ⟨p.kd, p.who, p.pub, p.lim, p.l.map Wr.p, p.old⟩
def CR.C (p : CR) : List Value := [.int .i64 p.kd, .int .i64 p.who, .int .u64 p.pub, .int .i64 p.lim, .slice p.wa p.l.length p.wc, .slice p.oa p.old.length p.oc]
theorem CR.len (p : CR) : p.C.length = 6 := rfl
theorem CR.V (p : CR) : Value.agg #[.int .i64 p.kd, .int .i64 p.who, .int .u64 p.pub, .int .i64 p.lim, .slice p.wa p.l.length p.wc, .slice p.oa p.old.length p.oc] = chgV p.cg p.wa p.wc p.oa p.oc := by
  unfold chgV CR.cg; simp
section
variable {w w' w1 : World} {o o' o1 : Own} {a : Option Addr} {c N : Nat} {l : List Wr} {ml : List Mem} {cs : List Value} {s : MS} {cg : Chg} {wa oa : Option Addr} {wc oc : Nat}
structure CR.good (W : World) (p : CR) : Prop where
  ws : RowAt W p.wa (p.l.flatMap Wr.C)
  wc : p.l.length ≤ p.wc
  bs : ∀ x ∈ p.l, RowAt W x.a (bytesV x.b) ∧ x.b.length ≤ x.c
  old : RowAt W p.oa (bytesV p.old)
  oc : p.old.length ≤ p.oc
  pub : 0 ≤ p.pub ∧ p.pub < 18446744073709551616
  wide : (-9223372036854775808 ≤ p.who ∧ p.who < 9223372036854775808) ∧ -9223372036854775808 ≤ p.lim ∧ p.lim < 9223372036854775808
theorem opens_wrap : Opens Try.prog 84 fun W cs => ∃ x : Wr, cs = x.C ∧ RowAt W x.a (bytesV x.b) ∧ x.b.length ≤ x.c :=
  (opens_seq (qs := [(1, _), (1, _)]) (size := 2) Try.underlying84 (by kernel_rfl)
    ⟨⟨rfl, by kernel_rfl, opens_int Try.underlying3⟩, ⟨rfl, by kernel_rfl, opens_bytes Try.underlying34 (by kernel_rfl) Try.underlying5⟩, rfl⟩).mono
    fun W cs ⟨_, _, e0, _, ⟨who, q0, _⟩, _, _, e1, _, ⟨a, c, b, q1, lb, _, rb⟩, q2⟩ => by
      subst q0; subst q1; subst q2; subst e1; subst e0
      exact ⟨⟨who, a, c, b⟩, rfl, rb, lb⟩
theorem opens_change : Opens Try.prog 40 fun W cs => ∃ p : CR, cs = p.C ∧ p.good W :=
  (opens_seq (qs := [(1, _), (1, _), (1, _), (1, _), (1, _), (1, _)]) (size := 6) Try.underlying40 (by kernel_rfl)
    ⟨⟨rfl, by kernel_rfl, opens_int Try.underlying3⟩, ⟨rfl, by kernel_rfl, opens_int Try.underlying3⟩, ⟨rfl, by kernel_rfl, opens_int Try.underlying22⟩, ⟨rfl, by kernel_rfl, opens_int Try.underlying3⟩,
     ⟨rfl, by kernel_rfl, opens_rows (size := 2) Try.underlying38 (by kernel_rfl) opens_wrap⟩, ⟨rfl, by kernel_rfl, opens_bytes Try.underlying34 (by kernel_rfl) Try.underlying5⟩, rfl⟩).mono
    fun W cs ⟨_, _, e0, _, ⟨kd, q0, _⟩, _, _, e1, _, ⟨who, q1, fw⟩, _, _, e2, _, ⟨pub, q2, fp⟩, _, _, e3, _, ⟨lim, q3, fl⟩, _, _, e4, _, ⟨wa, wc, l, q4, lw, _, rw_, gw⟩, _, _, e5, _, ⟨oa, oc, old, q5, lo, _, ro⟩, q6⟩ => by
      subst q0; subst q1; subst q2; subst q3; subst q4; subst q5; subst q6; subst e5; subst e4; subst e3; subst e2; subst e1; subst e0
      exact ⟨⟨kd, who, pub, lim, wa, wc, l, oa, oc, old⟩, rfl, rw_, lw, gw, ro, lo, wf_u64 fp, wf_i64 fw, wf_i64 fl⟩
def light1 (p : CR) : Bool := decide (p.l.length ≤ 20) && decide (p.old.length ≤ 100) && p.l.all fun x => decide (x.b.length ≤ 100)
def light12 (l : List CR) : Bool := decide (l.length ≤ 60) && l.all light1
theorem light12_of {l : List CR} (h : light12 l = true) : l.length ≤ 60 ∧ ∀ p ∈ l, p.l.length ≤ 20 ∧ p.old.length ≤ 100 ∧ ∀ x ∈ p.l, x.b.length ≤ 100 := by
  unfold light12 light1 at h
  simp only [Bool.and_eq_true, decide_eq_true_eq, List.all_eq_true] at h
  exact ⟨h.1, fun p hp => ⟨(h.2 p hp).1.1, (h.2 p hp).1.2, (h.2 p hp).2⟩⟩
theorem light12_spec {W : World} {la : Option Addr} {lc : Nat} {l : List CR} (hl : RowAt W la (l.flatMap CR.C)) (hg : ∀ p ∈ l, RowAt W p.wa (p.l.flatMap Wr.C)) : Calls Try.prog 9 #[.slice la l.length lc] W (Ret (.bool (light12 l)) fun w' => w' = W) := by
  refine cachettelaw12_light.run _ _ _ ?_
  unfold cachettelaw12_light.N
  refine ⟨fun h => ⟨by unfold light12; rw [show decide (l.length ≤ 60) = false by simp; omega]; rfl, rfl⟩, fun h2 => ?_⟩
  refine ⟨fun q vs w1 => ∃ t : Nat, vs = [.int .i64 t] ∧ q + t = l.length ∧ w1 = W ∧ (l.take t).all light1 = true, l.length, ⟨0, rfl, rfl, rfl, rfl⟩, ?_⟩
  rintro q w1 i ⟨t, hi, hq, rfl, hn⟩
  simp only [List.cons.injEq, Value.int.injEq, true_and, and_true] at hi
  subst hi
  refine ⟨fun ht => ?_, fun ht => ?_⟩
  · have htl : t < l.length := by omega
    have hgt : l[t]? = some l[t] := List.getElem?_eq_getElem htl
    have hxm := List.getElem_mem htl
    have hws := hg _ hxm
    have no : light1 l[t] = false → light12 l = false := fun h => by
      unfold light12
      rw [show (l.all light1) = false by rw [List.all_eq_false]; exact ⟨l[t], hxm, by simp [h]⟩]; simp
    obtain ⟨ad, rfl⟩ := hl.faddr CR.len (by decide) htl
    have htk : (l.take (t + 1)) = l.take t ++ [l[t]] := by rw [List.take_add_one, hgt]; rfl
    generalize l[t] = x at *
    have c4 := hl.fcell CR.len hgt 4 (v := .slice x.wa x.l.length x.wc) rfl
    have c5 := hl.fcell CR.len hgt 5 (v := .slice x.oa x.old.length x.oc) rfl
    refine ⟨ad, rfl, by omega, by omega, _, _, _, by rw [Int.toNat_natCast]; exact c4, fun hA => ⟨by rw [no (by unfold light1; rw [show decide (x.l.length ≤ 20) = false by simp; omega]; rfl)], rfl⟩, fun hA => ⟨by omega, by omega, _, _, _, by rw [Int.toNat_natCast]; exact c5, fun hB => ⟨by rw [no (by unfold light1; rw [show decide (x.old.length ≤ 100) = false by simp; omega]; simp)], rfl⟩, fun hB => ?_⟩⟩
    refine ⟨fun q2 vs w1' => ∃ u : Nat, vs = [.int .i64 u] ∧ q2 + u = x.l.length ∧ w1' = w1 ∧ (x.l.take u).all (fun x => decide (x.b.length ≤ 100)) = true, x.l.length, ⟨0, rfl, rfl, rfl, rfl⟩, ?_⟩
    rintro q2 w1' i ⟨u, hi, hq2, rfl, hn2⟩
    simp only [List.cons.injEq, Value.int.injEq, true_and, and_true] at hi
    subst hi
    refine ⟨by omega, by omega, _, _, _, by rw [Int.toNat_natCast]; exact c4, fun hu => ?_, fun hu => ?_⟩
    · have hul : u < x.l.length := by omega
      have hgu : x.l[u]? = some x.l[u] := List.getElem?_eq_getElem hul
      have hym := List.getElem_mem hul
      have htk2 : (x.l.take (u + 1)) = x.l.take u ++ [x.l[u]] := by rw [List.take_add_one, hgu]; rfl
      generalize x.l[u] = y at *
      obtain ⟨bd, hbd⟩ := hws.faddr Wr.len (by decide) hul
      have c1 := (hbd ▸ hws).fcell Wr.len hgu 1 (v := .slice y.a y.b.length y.c) rfl
      refine ⟨by omega, by omega, _, _, _, by rw [Int.toNat_natCast]; exact c4, bd, hbd, by omega, by omega, _, _, _, by rw [Int.toNat_natCast]; exact c1, fun hb => ⟨?_, rfl⟩, fun hb => ⟨by omega, by omega, q2 - 1, by omega, u + 1, rfl, by omega, rfl, by rw [htk2, List.all_append, hn2]; simp; omega⟩⟩
      rw [no ?_]
      unfold light1
      rw [show (x.l.all fun x => decide (x.b.length ≤ 100)) = false by rw [List.all_eq_false]; exact ⟨y, hym, by simp; omega⟩]; simp
    · have : u = x.l.length := by omega
      subst this
      rw [List.take_length] at hn2
      have hx : light1 x = true := by unfold light1; rw [hn2, decide_eq_true (show x.l.length ≤ 20 by omega), decide_eq_true (show x.old.length ≤ 100 by omega)]; rfl
      exact ⟨by omega, by omega, q - 1, by omega, t + 1, rfl, by omega, rfl, by rw [htk, List.all_append, hn]; simp [hx]⟩
  · obtain rfl : t = l.length := by omega
    rw [List.take_length] at hn
    refine ⟨?_, rfl⟩
    unfold light12
    rw [hn, decide_eq_true (show l.length ≤ 60 by omega)]
    rfl
abbrev WRow (N : Nat) (w : World) (o : Own) (a : Option Addr) (c : Nat) (l : List Wr) : Prop := LRow 85 2 N w o a l.length c (l.flatMap Wr.C)
/-- the same change, as the program's. -/
theorem Own_spec (ok : Tags w o) (hr : Row w o wa (l.flatMap Wr.C)) (hw : cg.ws = l.map Wr.p) (hl : l.length < 1000000) :
    Calls Try.prog 13 #[chgV cg wa wc oa oc] w (fun x w' => ∃ o' wa' wc', x = .returned (chgV cg wa' wc' oa oc) ∧ Step no w o w' o' ∧ Row w' o' wa' (l.flatMap Wr.C) ∧ l.length ≤ wc') := by
  have hlen : cg.ws.length = l.length := by rw [hw]; simp
  refine (cachettelaw12_Own.go cg.kd cg.who cg.pub cg.lim wa cg.ws.length wc oa cg.old.length oc (R := fun v w' => ∃ o' wa' wc', v = (chgV cg wa' wc' oa oc) ∧ Step no w o w' o' ∧ Row w' o' wa' (l.flatMap Wr.C) ∧ l.length ≤ wc') ?_).mono fun x w' ⟨v, he, o', a', c', hv, hw⟩ => ⟨o', a', c', by rw [he, hv], hw⟩
  unfold cachettelaw12_Own.N
  intro w15 p16 p17 p18 X15 hp
  obtain ⟨s15, M15⟩ := Step.priv X15 hp ok
  have g : ∀ p ∈ [p16, p17, p18], w.heap.size ≤ p := fun p h => (hp p h).1
  have hM15 : ∀ p ∈ [p16, p17, p18], p < w15.heap.size := fun p h => M15.lt h
  rw [hlen]
  refine ⟨fun m vs w1 => ∃ (t : Nat) (a1 : Option Addr) (c1 : Nat) (o1 : Own), vs = [.int .i64 t, .int .i64 0, .int .i64 0, .int .u64 0, .int .i64 0, .slice none 0 0, .slice none 0 0, .int .i64 cg.kd, .int .i64 cg.who, .int .u64 cg.pub, .int .i64 cg.lim, .slice a1 (l.take t).length c1, .slice oa cg.old.length oc] ∧ m + t = l.length ∧ Step no w o w1 o1 ∧ Step (fun j => w15.heap.size ≤ j ∨ j ∈ [p16, p17, p18]) w15 (tags w o [p16, p17, p18]) w1 o1 ∧ WRow w15.heap.size w1 o1 a1 c1 (l.take t), l.length, ⟨0, none, 0, _, rfl, rfl, s15, Step.refl _ s15.ok, LRow.nil _ _ _ _ _⟩, ?_⟩
  intro m w1 i0 k1 k2 k3 k4 k5a k5n k5c k6a k6n k6c k7 k8 k9 k10 k11a k11n k11c k12a k12n k12c hI
  obtain ⟨t, a1, c1, o1, hi, hm, s1, s15', r1⟩ := hI
  simp only [List.cons.injEq, Value.slice.injEq, Value.int.injEq, true_and, and_true] at hi
  obtain ⟨rfl, rfl, rfl, rfl, rfl, ⟨rfl, rfl, rfl⟩, ⟨rfl, rfl, rfl⟩, rfl, rfl, rfl, rfl, ⟨rfl, rfl, rfl⟩, ⟨rfl, rfl, rfl⟩⟩ := hi
  have M1 := M15.step s15'
  refine ⟨fun ht => ?_, fun ht w53 X53 => ?_⟩
  · have htl : t < l.length := by omega
    have hg : l[t]? = some l[t] := List.getElem?_eq_getElem htl
    have htk : l.take (t + 1) = l.take t ++ [l[t]] := by rw [List.take_add_one, hg]; rfl
    generalize l[t] = x at *
    obtain ⟨ad, rfl⟩ := hr.1.faddr Wr.len (by decide) htl
    have hr1 := (hr.step s1).1
    refine ⟨ad, rfl, by omega, by omega, x.who, by rw [Int.toNat_natCast]; exact hr1.fcell Wr.len hg 0 rfl, by omega, by omega, x.a, x.b.length, x.c, by rw [Int.toNat_natCast]; exact hr1.fcell Wr.len hg 1 rfl, fun w42 q43 X42 hb hq hq' => ?_⟩
    have s42 := Step.of_no X42 s1.ok
    have r42 : WRow w15.heap.size w42 _ k11a k11c (l.take t) := LRow.step r1 s42 fun k h => h.elim
    obtain ⟨i, hi, hz, hsz, hby⟩ := info_of inf85
    have h15 := s15'.size
    obtain ⟨a', c', w45, o45, hrun, s45, hrow, _⟩ := LRow.push (ty := 33) Try.underlying33 hi hz hsz hby rfl (by decide) r42 s42.ok (p := q43) (by omega) hq' (xa := some (blk q43)) (m := 1) (xc := 1) (news := x.C) rfl (RowAt.of_blk hb) (fun u hu => by
      simp only [Wr.C, List.mem_cons, List.not_mem_nil, or_false] at hu
      rcases hu with rfl | rfl <;> rfl) (by rw [List.length_take]; omega) (by rw [List.length_take]; omega)
    refine ⟨a', _, c', w45, hrun, (M1.step s42).keep s45 (fun p hp' => by have := hM15 p hp'; omega), by omega, by omega, fun w46 X46 => ?_⟩
    have s46 := Step.stores X46 s45.ok ((((M1.step s42).step s45)).sub (M := [p18]) (by simp)) (by simp)
    have r46 := hrow.step s46 fun k hk => .inl (hM15 k (by simp at hk ⊢; omega))
    have h15w := s15.size
    have hcells : (l.take t).flatMap Wr.C ++ x.C = (l.take (t + 1)).flatMap Wr.C := by rw [htk]; simp
    have hlen2 : (l.take t).length + 1 = (l.take (t + 1)).length := by rw [htk]; simp
    rw [hcells, hlen2] at r46
    refine ⟨m - 1, by omega, t + 1, a', c', _, by rw [← hlen2]; rfl, by omega, ((s1.trans s42).trans' s45 fun j hj => .inr (by omega)).trans' s46 fun j hj => .inr (g j (by simp at hj ⊢; omega)), (s15'.trans (s42.none.trans (s45.mono fun j hj _ => .inl hj))).trans (s46.mono fun j hj _ => .inr (by simp at hj ⊢; omega)), r46⟩
  · have htt : t = l.length := by omega
    subst htt
    rw [List.take_length] at r1 ⊢
    have s53 := Step.stores X53 s1.ok (M1.sub (M := [p17]) (by simp)) (by simp)
    have sF : Step no w o w53 _ := s1.trans' s53 fun j hj => .inr (g j (by simp at hj ⊢; omega))
    have r53 : WRow w15.heap.size w53 _ k11a k11c l := LRow.step r1 s53 fun k hk => .inl (hM15 k (by simp at hk ⊢; omega))
    refine ⟨_, k11a, k11c, ?_, noStep (K := no) sF, r53.give sF s15.size, r53.le⟩
    unfold chgV
    rw [hlen]
end
end Go.Proofs.Ytmhfoieeldiecaa

/- Members: the chapter's example. -/
set_option linter.unusedVariables false
set_option linter.unusedSimpArgs false
set_option maxRecDepth 20000
set_option maxHeartbeats 2000000
namespace Go.Proofs.Ytmhfoieeldiecaa
open Go Go.Mx Go.Proofs
open W (OwnB)
theorem mk_bytes (w : World) (n : Nat) (hn : n < 1000000) : ∃ w', (Instr.makeSlice 34 (.int .i64 n) (.int .i64 n)).run Try.prog w = .ok (.slice (some (blk w.heap.size)) n n) w' ∧ Ext no w w' ∧ Blk w' w.heap.size 5 (bytesV (List.replicate n 0)) ∧ w.heap.size < w'.heap.size := by
  obtain ⟨i, hi, hz, hs, hb⟩ := info_of inf5
  have hmk := run_makeSlice (P := Try.prog) (w := w) 34 5 i _ Try.underlying34 hi hz .i64 .i64 n n (by omega) (Int.le_refl _) (by rw [hs]; omega) (by rw [hb]; omega) (by omega)
  rw [hs, Int.toNat_natCast] at hmk
  have hcells : (madeCells (Value.int .u8 0).cells (n * 1)) = (bytesV (List.replicate n 0)).toArray := by
    apply Array.ext'
    rw [show (Value.int .u8 0).cells = #[Value.int .u8 0] from rfl, toList_madeCells_one, Nat.mul_one]
    show _ = bytesV _
    rw [bytesV, List.map_replicate]; rfl
  rw [hcells] at hmk
  exact ⟨_, hmk, (Ext.refl _ _).alloc _, Blk.new _ _ _, by simp⟩
def ex12 : Chg := ⟨3, 0, 0, 0, [(0, List.replicate 16 0)], []⟩
def ex12b : Chg := ⟨1, 1, 6, 0, [], []⟩
theorem ex12_fact : ∃ s1 s2 : MS, applyM (newM 5) ex12 = (s1, 0) ∧ applyM s1 ex12b = (s2, 0) ∧ mayM s2 1 0 0 = 10 ∧ mayM s2 1 0 1 = 7 ∧ mayM s2 0 3 0 = 0 := ⟨_, _, rfl, rfl, rfl, rfl, rfl⟩
theorem alive12_spec (w : World) : Calls Try.prog 10 #[] w (Ret (.bool true) fun w' => Ext no w w') := by
  refine cachettelaw12_alive.run ?_
  unfold cachettelaw12_alive.N
  obtain ⟨s1, s2, f1, f2, f3, f4, f5⟩ := ex12_fact
  have ok0 : Tags w (fun _ => none) := fun b j _ h => by cases h
  have k1 : s1.ok := by have := applyM_ok (newM_ok 5) (c := ex12) (by rw [f1]); rwa [f1] at this
  have k2 : s2.ok := by have := applyM_ok k1 (c := ex12b) (by rw [f2]); rwa [f2] at this
  refine (New_spec ok0 5).mono fun x w4 ⟨o4, a4, c4, hx, s4, r4, _⟩ => ⟨_, _, _, _, hx, fun w8 p9 X8 hp => ?_⟩
  obtain ⟨s8', M8⟩ := Step.priv X8 hp s4.ok
  have s8 := s4.trans s8'
  have g9 := (hp p9 (by simp)).1
  have h9 := M8.lt (p := p9) (by simp)
  obtain ⟨w11, hmk, X11, hb11, hlt11⟩ := mk_bytes w8 16 (by decide)
  refine ⟨_, _, _, w11, hmk, X11.kept, fun w12 q13 X12 hb12 hq hq' => ?_⟩
  have s12' := Step.of_no (X11.trans X12) s8.ok
  have s12 := s8.trans s12'
  have r12 := (r4.step s8').step s12'
  have hw12 : Row w12 (grow w8 (tags w4 o4 [p9])) (some (blk q13)) (([⟨0, some (blk w8.heap.size), 16, List.replicate 16 0⟩] : List Wr).flatMap Wr.C) := ⟨RowAt.of_blk hb12, fun _ ad ha => by cases ha; exact grow_ge (by have := X11.size; show w8.heap.size ≤ q13; omega)⟩
  refine (Apply_spec (s := newM 5) (cg := ex12) (wc := 1) (oa := none) (oc := 0) r12 s12.ok (newM_ok 5) hw12 rfl (by show 1 < 1000000; decide) (by decide)).mono fun x w18 ⟨o18, a18, c18, hx, s18', r18, _⟩ => ⟨_, _, _, _, _, hx, (M8.step s12').keep s18' fun _ _ => id, fun w20 X20 => ?_⟩
  rw [f1] at hx r18 ⊢
  have s18 := s12.trans s18'
  have M18 := (M8.step s12').step s18'
  have s20' := Step.stores X20 s18.ok M18 (by simp)
  have s4w := s4.size
  have s20 : Step no w (fun _ => none) w20 _ := s18.trans' s20' fun i hi => .inr (by simp at hi; omega)
  refine (Apply_spec (s := s1) (cg := ex12b) (wa := none) (wc := 0) (oa := none) (oc := 0) (l := []) (r18.step s20') s20.ok k1 (Row.nil _ _ _) rfl (by decide) (by decide)).mono fun x w25 ⟨o25, a25, c25, hx, s25', r25, _⟩ => ⟨_, _, _, _, _, hx, (M18.step s20').keep s25' fun _ _ => id, fun _ => ⟨fun _ w27 X27 => ?_, fun h => absurd (by rw [f2]) h⟩, fun h => absurd rfl h⟩
  rw [f2] at r25 ⊢
  dsimp only at r25 ⊢
  have s25 := s20.trans s25'
  have M25 := (M18.step s20').step s25'
  have s27' := Step.stores X27 s25.ok M25 (by simp)
  have s27 : Step no w (fun _ => none) w27 _ := s25.trans' s27' fun i hi => .inr (by simp at hi; omega)
  have M27 := M25.step s27'
  have r27 := r25.step s27'
  have l2 := k2.le
  refine (May_spec (s := s2) r27 s27.ok k2.sorted (by omega) 1 0 0).mono fun x w32 ⟨hx, o32, s32⟩ => ⟨_, hx, M27.keep s32 fun _ _ => id, fun _ => ?_, fun h => absurd f3 h⟩
  refine (May_spec (s := s2) (r27.step s32) s32.ok k2.sorted (by omega) 1 0 1).mono fun x w36 ⟨hx, o36, s36⟩ => ⟨_, hx, (M27.step s32).keep s36 fun _ _ => id, fun _ => ?_, fun h => absurd f4 h⟩
  refine (May_spec (s := s2) ((r27.step s32).step s36) s36.ok k2.sorted (by omega) 0 3 0).mono fun x w40 ⟨hx, o40, s40⟩ => ⟨_, hx, by rw [f5]; rfl, ?_⟩
  exact (((s27.trans s32).trans s36).trans s40).ext.mono fun b ⟨_, _, h⟩ _ => h
end Go.Proofs.Ytmhfoieeldiecaa

/- Members' laws: predicates. -/
set_option linter.unusedVariables false
set_option linter.unusedSimpArgs false
set_option maxRecDepth 20000
set_option maxHeartbeats 2000000
namespace Go.Proofs.Ytmhfoieeldiecaa
open Go Go.Mx Go.Proofs
end Go.Proofs.Ytmhfoieeldiecaa

/- MembersGone. -/
set_option linter.unusedVariables false
set_option linter.unusedSimpArgs false
set_option maxRecDepth 20000
set_option maxHeartbeats 2000000
namespace Go.Proofs.Ytmhfoieeldiecaa
open Go Go.Mx Go.Proofs
open W (OwnB)
section
variable {w w' w1 : World} {o o' o1 : Own} {a : Option Addr} {c : Nat} {s : MS} {m : Mem} {cg : Chg}
end
end Go.Proofs.Ytmhfoieeldiecaa

/- Members' laws: predicates. -/
set_option linter.unusedVariables false
set_option linter.unusedSimpArgs false
set_option maxRecDepth 20000
set_option maxHeartbeats 2000000
namespace Go.Proofs.Ytmhfoieeldiecaa
open Go Go.Mx Go.Proofs
end Go.Proofs.Ytmhfoieeldiecaa

/- MembersKeeps. -/
set_option linter.unusedVariables false
set_option linter.unusedSimpArgs false
set_option maxRecDepth 20000
set_option maxHeartbeats 2000000
namespace Go.Proofs.Ytmhfoieeldiecaa
open Go Go.Mx Go.Proofs
open W (OwnB)
section
variable {w w' w1 : World} {o o' o1 : Own} {a b : Option Addr} {c d N : Nat} {s t : MS} {m : Mem} {cg : Chg} {ml : List Mem}
end
end Go.Proofs.Ytmhfoieeldiecaa

/- Members: the reference's functions. -/
set_option linter.unusedVariables false
set_option linter.unusedSimpArgs false
set_option maxRecDepth 20000
set_option maxHeartbeats 4000000
namespace Go.Proofs.Ytmhfoieeldiecaa
open Go Go.Mx Go.Proofs
open W (OwnB)
section
variable {w w' w1 : World} {o o' o1 : Own} {a b : Option Addr} {c d N : Nat} {s t : MS} {m : Mem} {cg : Chg} {ml : List Mem} {l : List Wr} {wa oa : Option Addr} {wc oc : Nat}
end
end Go.Proofs.Ytmhfoieeldiecaa

/- Members: the reference's Right, Apply, and Behind; the program's Behind. -/
set_option linter.unusedVariables false
set_option linter.unusedSimpArgs false
set_option maxRecDepth 20000
set_option maxHeartbeats 4000000
namespace Go.Proofs.Ytmhfoieeldiecaa
open Go Go.Mx Go.Proofs
open W (OwnB)
section
variable {w w' w1 : World} {o o' o1 : Own} {a b : Option Addr} {c d N : Nat} {s t : MS} {m : Mem} {cg : Chg} {ml : List Mem} {l : List Wr} {wa oa : Option Addr} {wc oc : Nat}
theorem boxesP_nil : boxesP [] = false := rfl
theorem rightM_1 (h : cg.kd = 1) : rightM cg = decide ((0 ≤ cg.who ∧ cg.who < 8) ∧ cg.pub ≠ 0 ∧ cg.lim = 0 ∧ cg.ws = [] ∧ cg.old = []) := by
  unfold rightM
  by_cases h1 : 0 ≤ cg.who ∧ cg.who < 8
  · rw [if_pos h1, show (cg.kd == 3) = false by rw [h]; rfl]
    by_cases h2 : cg.ws = [] ∧ cg.old = []
    · rw [h2.1, h2.2, if_pos boxesP_nil.symm, if_neg (by simp), if_pos h]
      simp [h1]
    · have : decide ((0 ≤ cg.who ∧ cg.who < 8) ∧ cg.pub ≠ 0 ∧ cg.lim = 0 ∧ cg.ws = [] ∧ cg.old = []) = false := decide_eq_false fun h => h2 ⟨h.2.2.2.1, h.2.2.2.2⟩
      rw [this]
      split
      · rw [if_pos ⟨by rw [h]; decide, h2⟩]
      · rfl
  · rw [if_neg h1, eq_comm, decide_eq_false_iff_not]; exact fun h => h1 h.1
theorem rightM_2 (h : cg.kd = 2) : rightM cg = decide ((0 ≤ cg.who ∧ cg.who < 8) ∧ cg.who ≠ 0 ∧ cg.pub = 0 ∧ 0 ≤ cg.lim ∧ cg.lim ≤ 200 ∧ cg.ws = [] ∧ cg.old = []) := by
  unfold rightM
  by_cases h1 : 0 ≤ cg.who ∧ cg.who < 8
  · rw [if_pos h1, show (cg.kd == 3) = false by rw [h]; rfl]
    by_cases h2 : cg.ws = [] ∧ cg.old = []
    · rw [h2.1, h2.2, if_pos boxesP_nil.symm, if_neg (by simp), if_neg (by rw [h]; decide), if_pos h]
      simp [h1]
    · have : decide ((0 ≤ cg.who ∧ cg.who < 8) ∧ cg.who ≠ 0 ∧ cg.pub = 0 ∧ 0 ≤ cg.lim ∧ cg.lim ≤ 200 ∧ cg.ws = [] ∧ cg.old = []) = false := decide_eq_false fun h => h2 ⟨h.2.2.2.2.2.1, h.2.2.2.2.2.2⟩
      rw [this]
      split
      · rw [if_pos ⟨by rw [h]; decide, h2⟩]
      · rfl
  · rw [if_neg h1, eq_comm, decide_eq_false_iff_not]; exact fun h => h1 h.1
theorem rightM_3 (h : cg.kd = 3) : rightM cg = (boxesP cg.ws && decide (cg.who = 0 ∧ cg.pub = 0 ∧ cg.lim = 0 ∧ (cg.old.length = 0 ∨ cg.old.length = 24))) := by
  unfold rightM
  by_cases h1 : 0 ≤ cg.who ∧ cg.who < 8
  · rw [if_pos h1, show (cg.kd == 3) = true by rw [h]; rfl]
    cases hb : boxesP cg.ws
    · rw [if_neg (by decide)]; rfl
    · rw [if_pos rfl, if_neg (fun h' => h'.1 h), if_neg (by rw [h]; decide), if_neg (by rw [h]; decide), if_pos h]; rfl
  · rw [if_neg h1]
    have : decide (cg.who = 0 ∧ cg.pub = 0 ∧ cg.lim = 0 ∧ (cg.old.length = 0 ∨ cg.old.length = 24)) = false := decide_eq_false fun h => h1 (by rw [h.1]; decide)
    rw [this, Bool.and_false]
theorem rightM_0 (h1 : cg.kd ≠ 1) (h2 : cg.kd ≠ 2) (h3 : cg.kd ≠ 3) : rightM cg = false := by
  unfold rightM
  split
  · split
    · split
      · rfl
      · simp only [if_neg h1, if_neg h2, if_neg h3]
    · rfl
  · rfl
end
end Go.Proofs.Ytmhfoieeldiecaa

/- Members' bytes: predicates. -/
set_option linter.unusedVariables false
set_option linter.unusedSimpArgs false
set_option maxRecDepth 20000
set_option maxHeartbeats 2000000
namespace Go.Proofs.Ytmhfoieeldiecaa
open Go Go.Mx Go.Proofs
/-- members.Bytes -/
def members_Bytes.M (cKind1 : Int) (cWho2 : Int) (cPublic3 : Int) (cLimit4 : Int) (cWraps5a : Option Addr) (cWraps5n : Nat) (cWraps5c : Nat) (cOld6a : Option Addr) (cOld6n : Nat) (cOld6c : Nat) (R : Value → World → Prop) (w : World) : Prop :=
  thenW (w.alloc (.cells #[.int .i64 cKind1, .int .i64 cWho2, .int .u64 cPublic3, .int .i64 cLimit4, .slice cWraps5a cWraps5n cWraps5c, .slice cOld6a cOld6n cOld6c] 36)) fun ww7 =>
  ∃ (xKind8 : Int) (xWho9 : Int) (xPublic10 : Int) (xLimit11 : Int) (xWraps12a : Option Addr) (xWraps12n : Nat) (xWraps12c : Nat) (xOld13a : Option Addr) (xOld13n : Nat) (xOld13c : Nat), cellsAt ww7 (blk w.heap.size) [.int .i64 xKind8, .int .i64 xWho9, .int .u64 xPublic10, .int .i64 xLimit11, .slice xWraps12a xWraps12n xWraps12c, .slice xOld13a xOld13n xOld13c] 0 ∧
  Calls Try.prog 31 #[.agg #[.int .i64 xKind8, .int .i64 xWho9, .int .u64 xPublic10, .int .i64 xLimit11, .slice xWraps12a xWraps12n xWraps12c, .slice xOld13a xOld13n xOld13c]] ww7 fun ee15 ww16 => ∃ (right14 : Bool), ee15 = .returned (.bool right14) ∧
  bif !right14 then (
  R (.tuple #[.slice none 0 0, .int .i64 1]) ww16) else (
  ∃ (Kind17 : Int), ww16.cell? ((blk w.heap.size).add 0) = some (.int .i64 Kind17) ∧
  Calls Try.prog 41 #[.slice none 0 0, .int .u64 (IntKind.u64.wrap Kind17)] ww16 fun ee19 ww20 => ∃ (num18a : Option Addr) (num18n : Nat) (num18c : Nat), ee19 = .returned (.slice num18a num18n num18c) ∧
  ∃ (Kind21 : Int), ww20.cell? ((blk w.heap.size).add 0) = some (.int .i64 Kind21) ∧
  bif Kind21 == 3 then (
  ∃ (Wraps22a : Option Addr) (Wraps22n : Nat) (Wraps22c : Nat), ww20.cell? ((blk w.heap.size).add 4) = some (.slice Wraps22a Wraps22n Wraps22c) ∧
  Calls Try.prog 41 #[.slice num18a num18n num18c, .int .u64 (IntKind.u64.wrap (Wraps22n : Int))] ww20 fun ee24 ww25 => ∃ (num23a : Option Addr) (num23n : Nat) (num23c : Nat), ee24 = .returned (.slice num23a num23n num23c) ∧
  ∃ (Wraps26a : Option Addr) (Wraps26n : Nat) (Wraps26c : Nat), ww25.cell? ((blk w.heap.size).add 4) = some (.slice Wraps26a Wraps26n Wraps26c) ∧
  ∃ (I0 : Nat → List Value → World → Prop) (m29 : Nat), I0 m29 [.slice num23a num23n num23c, .int .i64 0] ww25 ∧ ∀ (m30 : Nat) (ww31 : World) (b27a : Option Addr) (b27n : Nat) (b27c : Nat) (t28 : Int), I0 m30 [.slice b27a b27n b27c, .int .i64 t28] ww31 →
  bif decide (t28 < (Wraps26n : Int)) then (
  Wraps26a.elim False fun a32 =>
  0 ≤ (t28 : Int) ∧ (t28 : Int) < (Wraps26n : Int) ∧
  ∃ (xWho33 : Int) (xB34a : Option Addr) (xB34n : Nat) (xB34c : Nat), cellsAt ww31 (a32.add (Int.toNat t28 * 2)) [.int .i64 xWho33, .slice xB34a xB34n xB34c] 0 ∧
  thenW (ww31.alloc (.cells #[.int .i64 0, .slice none 0 0] 85)) fun ww35 =>
  canStore ww35 ((blk ww31.heap.size).add 0) ∧
  thenW (ww35.setCell ((blk ww31.heap.size).add 0) (.int .i64 xWho33)) fun ww36 =>
  canStore ww36 ((blk ww31.heap.size).add 1) ∧
  thenW (ww36.setCell ((blk ww31.heap.size).add 1) (.slice xB34a xB34n xB34c)) fun ww37 =>
  thenW (ww37.drew) fun ww38 =>
  ∃ (Who39 : Int), ww38.cell? ((blk ww31.heap.size).add 0) = some (.int .i64 Who39) ∧
  ∃ (B40a : Option Addr) (B40n : Nat) (B40c : Nat), ww38.cell? ((blk ww31.heap.size).add 1) = some (.slice B40a B40n B40c) ∧
  Calls Try.prog 41 #[.slice b27a b27n b27c, .int .u64 (IntKind.u64.wrap Who39)] ww38 fun ee42 ww43 => ∃ (num41a : Option Addr) (num41n : Nat) (num41c : Nat), ee42 = .returned (.slice num41a num41n num41c) ∧
  ww43.cell? ((blk ww31.heap.size).add 1) = some (.slice B40a B40n B40c) ∧
  Calls Try.prog 42 #[.slice num41a num41n num41c, .slice B40a B40n B40c] ww43 fun ee45 ww46 => ∃ (bytes44a : Option Addr) (bytes44n : Nat) (bytes44c : Nat), ee45 = .returned (.slice bytes44a bytes44n bytes44c) ∧
  ∃ m47, m47 < m30 ∧ I0 m47 [.slice bytes44a bytes44n bytes44c, .int .i64 (IntKind.i64.wrap (t28 + 1))] ww46) else (
  ∃ (Old48a : Option Addr) (Old48n : Nat) (Old48c : Nat), ww31.cell? ((blk w.heap.size).add 5) = some (.slice Old48a Old48n Old48c) ∧
  Calls Try.prog 42 #[.slice b27a b27n b27c, .slice Old48a Old48n Old48c] ww31 fun ee50 ww51 => ∃ (bytes49a : Option Addr) (bytes49n : Nat) (bytes49c : Nat), ee50 = .returned (.slice bytes49a bytes49n bytes49c) ∧
  R (.tuple #[.slice bytes49a bytes49n bytes49c, .int .i64 0]) ww51)) else (
  ∃ (Who52 : Int), ww20.cell? ((blk w.heap.size).add 1) = some (.int .i64 Who52) ∧
  Calls Try.prog 41 #[.slice num18a num18n num18c, .int .u64 (IntKind.u64.wrap Who52)] ww20 fun ee54 ww55 => ∃ (num53a : Option Addr) (num53n : Nat) (num53c : Nat), ee54 = .returned (.slice num53a num53n num53c) ∧
  ∃ (Kind56 : Int), ww55.cell? ((blk w.heap.size).add 0) = some (.int .i64 Kind56) ∧
  bif Kind56 == 1 then (
  ∃ (Public57 : Int), ww55.cell? ((blk w.heap.size).add 2) = some (.int .u64 Public57) ∧
  Calls Try.prog 41 #[.slice num53a num53n num53c, .int .u64 Public57] ww55 fun ee59 ww60 => ∃ (num58a : Option Addr) (num58n : Nat) (num58c : Nat), ee59 = .returned (.slice num58a num58n num58c) ∧
  R (.tuple #[.slice num58a num58n num58c, .int .i64 0]) ww60) else (
  ∃ (Limit61 : Int), ww55.cell? ((blk w.heap.size).add 3) = some (.int .i64 Limit61) ∧
  Calls Try.prog 41 #[.slice num53a num53n num53c, .int .u64 (IntKind.u64.wrap Limit61)] ww55 fun ee63 ww64 => ∃ (num62a : Option Addr) (num62n : Nat) (num62c : Nat), ee63 = .returned (.slice num62a num62n num62c) ∧
  R (.tuple #[.slice num62a num62n num62c, .int .i64 0]) ww64)))

theorem members_Bytes.eq (cKind1 : Int) (cWho2 : Int) (cPublic3 : Int) (cLimit4 : Int) (cWraps5a : Option Addr) (cWraps5n : Nat) (cWraps5c : Nat) (cOld6a : Option Addr) (cOld6n : Nat) (cOld6c : Nat) (R : Value → World → Prop) (w : World) : mfunc Try.prog [(0, [1, 24, 25], [(4, (.one .slice)), (26, (.one (.int .i64)))])] 27 [.agg #[.int .i64 cKind1, .int .i64 cWho2, .int .u64 cPublic3, .int .i64 cLimit4, .slice cWraps5a cWraps5n cWraps5c, .slice cOld6a cOld6n cOld6c]] R w = members_Bytes.M cKind1 cWho2 cPublic3 cLimit4 cWraps5a cWraps5n cWraps5c cOld6a cOld6n cOld6c R w := by kernel_rfl
theorem members_Bytes.ok (cKind1 : Int) (cWho2 : Int) (cPublic3 : Int) (cLimit4 : Int) (cWraps5a : Option Addr) (cWraps5n : Nat) (cWraps5c : Nat) (cOld6a : Option Addr) (cOld6n : Nat) (cOld6c : Nat) {R : Value → World → Prop} {w : World} (h : members_Bytes.M cKind1 cWho2 cPublic3 cLimit4 cWraps5a cWraps5n cWraps5c cOld6a cOld6n cOld6c R w) : Calls Try.prog 27 #[.agg #[.int .i64 cKind1, .int .i64 cWho2, .int .u64 cPublic3, .int .i64 cLimit4, .slice cWraps5a cWraps5n cWraps5c, .slice cOld6a cOld6n cOld6c]] w fun e w' => ∃ v, e = .returned v ∧ R v w' :=
  mfunc_ok follows (H := [(0, [1, 24, 25], [(4, (.one .slice)), (26, (.one (.int .i64)))])]) (args := [.agg #[.int .i64 cKind1, .int .i64 cWho2, .int .u64 cPublic3, .int .i64 cLimit4, .slice cWraps5a cWraps5n cWraps5c, .slice cOld6a cOld6n cOld6c]]) (by rw [members_Bytes.eq]; exact h)

def members_Bytes.N (cKind1 : Int) (cWho2 : Int) (cPublic3 : Int) (cLimit4 : Int) (cWraps5a : Option Addr) (cWraps5n : Nat) (cWraps5c : Nat) (cOld6a : Option Addr) (cOld6n : Nat) (cOld6c : Nat) (R : Value → World → Prop) (w : World) : Prop :=
  ∀ (ww7 : World) (p8 : Nat), Ext no w ww7 → Priv w ww7 [p8] →
  Calls Try.prog 31 #[.agg #[.int .i64 cKind1, .int .i64 cWho2, .int .u64 cPublic3, .int .i64 cLimit4, .slice cWraps5a cWraps5n cWraps5c, .slice cOld6a cOld6n cOld6c]] ww7 fun ee10 ww11 => ∃ (right9 : Bool), ee10 = .returned (.bool right9) ∧
  Keep [p8] ww7 ww11 ∧
  (right9 = false →
    R (.tuple #[.slice none 0 0, .int .i64 1]) ww11) ∧
  (right9 = true →
    Calls Try.prog 41 #[.slice none 0 0, .int .u64 (IntKind.u64.wrap cKind1)] ww11 fun ee14 ww15 => ∃ (num13a : Option Addr) (num13n : Nat) (num13c : Nat), ee14 = .returned (.slice num13a num13n num13c) ∧
    Keep [p8] ww11 ww15 ∧
    (cKind1 = 3 →
      Calls Try.prog 41 #[.slice num13a num13n num13c, .int .u64 (IntKind.u64.wrap (cWraps5n : Int))] ww15 fun ee18 ww19 => ∃ (num17a : Option Addr) (num17n : Nat) (num17c : Nat), ee18 = .returned (.slice num17a num17n num17c) ∧
      Keep [p8] ww15 ww19 ∧
      ∃ (I0 : Nat → List Value → World → Prop) (m22 : Nat), I0 m22 [.slice num17a num17n num17c, .int .i64 0] ww19 ∧ ∀ (m23 : Nat) (ww24 : World) (b20a : Option Addr) (b20n : Nat) (b20c : Nat) (t21 : Int), I0 m23 [.slice b20a b20n b20c, .int .i64 t21] ww24 →
      (t21 < (cWraps5n : Int) →
        ∃ a26 : Addr, cWraps5a = some a26 ∧
        0 ≤ (t21 : Int) ∧ (t21 : Int) < (cWraps5n : Int) ∧
        ∃ (xWho28 : Int) (xB29a : Option Addr) (xB29n : Nat) (xB29c : Nat), cellsAt ww24 (a26.add (Int.toNat t21 * 2)) [.int .i64 xWho28, .slice xB29a xB29n xB29c] 0 ∧
        ∀ (ww33 : World) (p34 : Nat), Ext no ww24 ww33 → Priv ww24 ww33 [p34] →
        Calls Try.prog 41 #[.slice b20a b20n b20c, .int .u64 (IntKind.u64.wrap xWho28)] ww33 fun ee36 ww37 => ∃ (num35a : Option Addr) (num35n : Nat) (num35c : Nat), ee36 = .returned (.slice num35a num35n num35c) ∧
        Keep [p8, p34] ww33 ww37 ∧
        Calls Try.prog 42 #[.slice num35a num35n num35c, .slice xB29a xB29n xB29c] ww37 fun ee39 ww40 => ∃ (bytes38a : Option Addr) (bytes38n : Nat) (bytes38c : Nat), ee39 = .returned (.slice bytes38a bytes38n bytes38c) ∧
        Keep [p8] ww37 ww40 ∧
        (-9223372036854775808 : Int) ≤ (t21 + 1) ∧ (t21 + 1) < 9223372036854775808 ∧
        ∃ m41, m41 < m23 ∧ I0 m41 [.slice bytes38a bytes38n bytes38c, .int .i64 (t21 + 1)] ww40) ∧
      ((cWraps5n : Int) ≤ t21 →
        Calls Try.prog 42 #[.slice b20a b20n b20c, .slice cOld6a cOld6n cOld6c] ww24 fun ee43 ww44 => ∃ (bytes42a : Option Addr) (bytes42n : Nat) (bytes42c : Nat), ee43 = .returned (.slice bytes42a bytes42n bytes42c) ∧
        R (.tuple #[.slice bytes42a bytes42n bytes42c, .int .i64 0]) ww44)) ∧
    (cKind1 ≠ 3 →
      Calls Try.prog 41 #[.slice num13a num13n num13c, .int .u64 (IntKind.u64.wrap cWho2)] ww15 fun ee46 ww47 => ∃ (num45a : Option Addr) (num45n : Nat) (num45c : Nat), ee46 = .returned (.slice num45a num45n num45c) ∧
      Keep [p8] ww15 ww47 ∧
      (cKind1 = 1 →
        Calls Try.prog 41 #[.slice num45a num45n num45c, .int .u64 cPublic3] ww47 fun ee50 ww51 => ∃ (num49a : Option Addr) (num49n : Nat) (num49c : Nat), ee50 = .returned (.slice num49a num49n num49c) ∧
        R (.tuple #[.slice num49a num49n num49c, .int .i64 0]) ww51) ∧
      (cKind1 ≠ 1 →
        Calls Try.prog 41 #[.slice num45a num45n num45c, .int .u64 (IntKind.u64.wrap cLimit4)] ww47 fun ee53 ww54 => ∃ (num52a : Option Addr) (num52n : Nat) (num52c : Nat), ee53 = .returned (.slice num52a num52n num52c) ∧
        R (.tuple #[.slice num52a num52n num52c, .int .i64 0]) ww54)))

theorem members_Bytes.up (cKind1 : Int) (cWho2 : Int) (cPublic3 : Int) (cLimit4 : Int) (cWraps5a : Option Addr) (cWraps5n : Nat) (cWraps5c : Nat) (cOld6a : Option Addr) (cOld6n : Nat) (cOld6c : Nat) {R : Value → World → Prop} {w : World} (h : members_Bytes.N cKind1 cWho2 cPublic3 cLimit4 cWraps5a cWraps5n cWraps5c cOld6a cOld6n cOld6c R w) : members_Bytes.M cKind1 cWho2 cPublic3 cLimit4 cWraps5a cWraps5n cWraps5c cOld6a cOld6n cOld6c R w := by
  unfold members_Bytes.M
  unfold members_Bytes.N at h
  refine thenW_in fun ww7 e7 => ?_
  have hb1 := Blk.of_new e7
  have hg1 := ((Ext.refl no w)).size
  have hx7 := (Ext.refl no w).x_alloc e7
  refine ⟨cKind1, cWho2, cPublic3, cLimit4, cWraps5a, cWraps5n, cWraps5c, cOld6a, cOld6n, cOld6c, ⟨hb1.celli 0 rfl rfl, hb1.celli 1 rfl rfl, hb1.celli 2 rfl rfl, hb1.celli 3 rfl rfl, hb1.celli 4 rfl rfl, hb1.celli 5 rfl rfl, trivial⟩, ?_⟩
  have h := h ww7 (w.heap.size) hx7 (Priv.cons hg1 hb1.lt Priv.nil)
  refine h.mono fun ee10 ww11 h => ?_
  obtain ⟨right9, he, hk, h⟩ := h
  refine ⟨right9, he, ?_⟩
  have hb1 := hk.blk hb1 (by simp)
  refine bif_of (fun c12 => ?_) (fun c12 => ?_)
  · have h := h.1 (not_t c12)
    exact h
  · have h := h.2 (not_f c12)
    refine ⟨cKind1, hb1.celli 0 rfl rfl, ?_⟩
    refine h.mono fun ee14 ww15 h => ?_
    obtain ⟨num13a, num13n, num13c, he, hk, h⟩ := h
    refine ⟨num13a, num13n, num13c, he, ?_⟩
    have hb1 := hk.blk hb1 (by simp)
    refine ⟨cKind1, hb1.celli 0 rfl rfl, ?_⟩
    refine bif_of (fun c16 => ?_) (fun c16 => ?_)
    · have h := h.1 (beq_t c16)
      refine ⟨cWraps5a, cWraps5n, cWraps5c, hb1.celli 4 rfl rfl, ?_⟩
      refine h.mono fun ee18 ww19 h => ?_
      obtain ⟨num17a, num17n, num17c, he, hk, h⟩ := h
      refine ⟨num17a, num17n, num17c, he, ?_⟩
      have hb1 := hk.blk hb1 (by simp)
      refine ⟨cWraps5a, cWraps5n, cWraps5c, hb1.celli 4 rfl rfl, ?_⟩
      obtain ⟨I0, m22, h0, h⟩ := h
      refine ⟨fun k vs ww => Blk ww w.heap.size 36 [.int .i64 cKind1, .int .i64 cWho2, .int .u64 cPublic3, .int .i64 cLimit4, .slice cWraps5a cWraps5n cWraps5c, .slice cOld6a cOld6n cOld6c] ∧ I0 k vs ww, m22, ⟨hb1, h0⟩, fun m23 ww24 b20a b20n b20c t21 hI => ?_⟩
      obtain ⟨hb1, hI⟩ := hI
      have h := h m23 ww24 b20a b20n b20c t21 hI
      refine bif_of (fun c25 => ?_) (fun c25 => ?_)
      · have h := h.1 (of_decide_eq_true c25)
        obtain ⟨a26, ha26, h⟩ := h
        refine elim_some ha26 ?_
        obtain ⟨hq1, hq2, h⟩ := h
        refine ⟨hq1, hq2, ?_⟩
        obtain ⟨xWho28, xB29a, xB29n, xB29c, hc27, h⟩ := h
        refine ⟨xWho28, xB29a, xB29n, xB29c, hc27, ?_⟩
        refine thenW_in fun ww30 e30 => ?_
        have hb2 := Blk.of_new e30
        have hg2 := ((Ext.refl no ww24)).size
        have hb1_2 := Nat.ne_of_lt hb1.lt
        have hb1 := hb1.x_alloc e30
        have hx30 := (Ext.refl no ww24).x_alloc e30
        refine ⟨hb2.cani 0 rfl rfl, thenW_in fun ww31 e31 => ?_⟩
        have hx31 := hx30.x_set (q := ww24.heap.size) (i := 0) rfl (.inr hg2) e31
        have hb1 := hb1.oth (q := ww24.heap.size) (i := 0) rfl hb1_2 e31
        have hb2 := hb2.seti 0 rfl e31
        refine ⟨hb2.cani 1 rfl rfl, thenW_in fun ww32 e32 => ?_⟩
        have hx32 := hx31.x_set (q := ww24.heap.size) (i := 1) rfl (.inr hg2) e32
        have hb1 := hb1.oth (q := ww24.heap.size) (i := 1) rfl hb1_2 e32
        have hb2 := hb2.seti 1 rfl e32
        refine thenW_in fun ww33 e33 => ?_
        have hx33 := hx32.x_drew e33
        have hb1 := hb1.x_drew e33
        have hb2 := hb2.x_drew e33
        refine ⟨xWho28, hb2.celli 0 rfl rfl, ?_⟩
        refine ⟨xB29a, xB29n, xB29c, hb2.celli 1 rfl rfl, ?_⟩
        have h := h ww33 (ww24.heap.size) hx33 (Priv.cons hg2 hb2.lt Priv.nil)
        refine h.mono fun ee36 ww37 h => ?_
        obtain ⟨num35a, num35n, num35c, he, hk, h⟩ := h
        refine ⟨num35a, num35n, num35c, he, ?_⟩
        have hb1 := hk.blk hb1 (by simp)
        have hb2 := hk.blk hb2 (by simp)
        refine ⟨hb2.celli 1 rfl rfl, ?_⟩
        refine h.mono fun ee39 ww40 h => ?_
        obtain ⟨bytes38a, bytes38n, bytes38c, he, hk, h⟩ := h
        refine ⟨bytes38a, bytes38n, bytes38c, he, ?_⟩
        have hb1 := hk.blk hb1 (by simp)
        obtain ⟨hw1, hw2, h⟩ := h
        try rw [w64 hw1 hw2]
        obtain ⟨m41, hk, h⟩ := h
        exact ⟨m41, hk, hb1, h⟩
      · have h := h.2 (Int.not_lt.1 (of_decide_eq_false c25))
        refine ⟨cOld6a, cOld6n, cOld6c, hb1.celli 5 rfl rfl, ?_⟩
        refine h.mono fun ee43 ww44 h => ?_
        obtain ⟨bytes42a, bytes42n, bytes42c, he, h⟩ := h
        refine ⟨bytes42a, bytes42n, bytes42c, he, ?_⟩
        exact h
    · have h := h.2 (beq_f c16)
      refine ⟨cWho2, hb1.celli 1 rfl rfl, ?_⟩
      refine h.mono fun ee46 ww47 h => ?_
      obtain ⟨num45a, num45n, num45c, he, hk, h⟩ := h
      refine ⟨num45a, num45n, num45c, he, ?_⟩
      have hb1 := hk.blk hb1 (by simp)
      refine ⟨cKind1, hb1.celli 0 rfl rfl, ?_⟩
      refine bif_of (fun c48 => ?_) (fun c48 => ?_)
      · have h := h.1 (beq_t c48)
        refine ⟨cPublic3, hb1.celli 2 rfl rfl, ?_⟩
        refine h.mono fun ee50 ww51 h => ?_
        obtain ⟨num49a, num49n, num49c, he, h⟩ := h
        refine ⟨num49a, num49n, num49c, he, ?_⟩
        exact h
      · have h := h.2 (beq_f c48)
        refine ⟨cLimit4, hb1.celli 3 rfl rfl, ?_⟩
        refine h.mono fun ee53 ww54 h => ?_
        obtain ⟨num52a, num52n, num52c, he, h⟩ := h
        refine ⟨num52a, num52n, num52c, he, ?_⟩
        exact h

theorem members_Bytes.go (cKind1 : Int) (cWho2 : Int) (cPublic3 : Int) (cLimit4 : Int) (cWraps5a : Option Addr) (cWraps5n : Nat) (cWraps5c : Nat) (cOld6a : Option Addr) (cOld6n : Nat) (cOld6c : Nat) {R : Value → World → Prop} {w : World} (h : members_Bytes.N cKind1 cWho2 cPublic3 cLimit4 cWraps5a cWraps5n cWraps5c cOld6a cOld6n cOld6c R w) : Calls Try.prog 27 #[.agg #[.int .i64 cKind1, .int .i64 cWho2, .int .u64 cPublic3, .int .i64 cLimit4, .slice cWraps5a cWraps5n cWraps5c, .slice cOld6a cOld6n cOld6c]] w fun e w' => ∃ v, e = .returned v ∧ R v w' := members_Bytes.ok cKind1 cWho2 cPublic3 cLimit4 cWraps5a cWraps5n cWraps5c cOld6a cOld6n cOld6c (members_Bytes.up cKind1 cWho2 cPublic3 cLimit4 cWraps5a cWraps5n cWraps5c cOld6a cOld6n cOld6c h)
theorem members_Bytes.run (cKind1 : Int) (cWho2 : Int) (cPublic3 : Int) (cLimit4 : Int) (cWraps5a : Option Addr) (cWraps5n : Nat) (cWraps5c : Nat) (cOld6a : Option Addr) (cOld6n : Nat) (cOld6c : Nat) {V : Value} {Q : World → Prop} {w : World} (h : members_Bytes.N cKind1 cWho2 cPublic3 cLimit4 cWraps5a cWraps5n cWraps5c cOld6a cOld6n cOld6c (fun v w' => v = V ∧ Q w') w) : Calls Try.prog 27 #[.agg #[.int .i64 cKind1, .int .i64 cWho2, .int .u64 cPublic3, .int .i64 cLimit4, .slice cWraps5a cWraps5n cWraps5c, .slice cOld6a cOld6n cOld6c]] w (Ret V Q) := (members_Bytes.go cKind1 cWho2 cPublic3 cLimit4 cWraps5a cWraps5n cWraps5c cOld6a cOld6n cOld6c h).mono fun e w' ⟨v, he, hv, hq⟩ => ⟨by rw [he, hv], hq⟩

/-- (members.reader).who -/
def members_reader_who.M (rReader1 : Option Addr) (R : Value → World → Prop) (w : World) : Prop :=
  thenW (w.alloc (.cells #[.pointer rReader1] 98)) fun ww2 =>
  ∃ (Reader3 : Option Addr), ww2.cell? ((blk w.heap.size).add 0) = some (.pointer Reader3) ∧
  Calls Try.prog 47 #[.pointer Reader3, .int .i64 7] ww2 fun ee5 ww6 => ∃ (count4 : Int), ee5 = .returned (.int .i64 count4) ∧
  R (.int .i64 count4) ww6

theorem members_reader_who.eq (rReader1 : Option Addr) (R : Value → World → Prop) (w : World) : mfunc Try.prog [] 78 [.agg #[.pointer rReader1]] R w = members_reader_who.M rReader1 R w := by kernel_rfl
theorem members_reader_who.ok (rReader1 : Option Addr) {R : Value → World → Prop} {w : World} (h : members_reader_who.M rReader1 R w) : Calls Try.prog 78 #[.agg #[.pointer rReader1]] w fun e w' => ∃ v, e = .returned v ∧ R v w' :=
  mfunc_ok follows (H := []) (args := [.agg #[.pointer rReader1]]) (by rw [members_reader_who.eq]; exact h)

def members_reader_who.N (rReader1 : Option Addr) (R : Value → World → Prop) (w : World) : Prop :=
  ∀ (ww2 : World), Ext no w ww2 →
  Calls Try.prog 47 #[.pointer rReader1, .int .i64 7] ww2 fun ee5 ww6 => ∃ (count4 : Int), ee5 = .returned (.int .i64 count4) ∧
  R (.int .i64 count4) ww6

theorem members_reader_who.up (rReader1 : Option Addr) {R : Value → World → Prop} {w : World} (h : members_reader_who.N rReader1 R w) : members_reader_who.M rReader1 R w := by
  unfold members_reader_who.M
  unfold members_reader_who.N at h
  refine thenW_in fun ww2 e2 => ?_
  have hb1 := Blk.of_new e2
  have hg1 := ((Ext.refl no w)).size
  have hx2 := (Ext.refl no w).x_alloc e2
  refine ⟨rReader1, hb1.celli 0 rfl rfl, ?_⟩
  have h := h ww2 hx2
  refine h.mono fun ee5 ww6 h => ?_
  obtain ⟨count4, he, h⟩ := h
  refine ⟨count4, he, ?_⟩
  exact h

theorem members_reader_who.go (rReader1 : Option Addr) {R : Value → World → Prop} {w : World} (h : members_reader_who.N rReader1 R w) : Calls Try.prog 78 #[.agg #[.pointer rReader1]] w fun e w' => ∃ v, e = .returned v ∧ R v w' := members_reader_who.ok rReader1 (members_reader_who.up rReader1 h)
theorem members_reader_who.run (rReader1 : Option Addr) {V : Value} {Q : World → Prop} {w : World} (h : members_reader_who.N rReader1 (fun v w' => v = V ∧ Q w') w) : Calls Try.prog 78 #[.agg #[.pointer rReader1]] w (Ret V Q) := (members_reader_who.go rReader1 h).mono fun e w' ⟨v, he, hv, hq⟩ => ⟨by rw [he, hv], hq⟩

/-- (members.reader).invite -/
def members_reader_invite.M (rReader1 : Option Addr) (c2 : Option Addr) (R : Value → World → Prop) (w : World) : Prop :=
  thenW (w.alloc (.cells #[.pointer rReader1] 98)) fun ww3 =>
  thenW (ww3.drew) fun ww4 =>
  ∃ (xReader5 : Option Addr), cellsAt ww4 (blk w.heap.size) [.pointer xReader5] 0 ∧
  ∃ (Reader6 : Option Addr), ww4.cell? ((blk w.heap.size).add 0) = some (.pointer Reader6) ∧
  Calls Try.prog 78 #[.agg #[.pointer xReader5]] ww4 fun ee8 ww9 => ∃ (who7 : Int), ee8 = .returned (.int .i64 who7) ∧
  ww9.cell? ((blk w.heap.size).add 0) = some (.pointer Reader6) ∧
  Calls Try.prog 65 #[.pointer Reader6] ww9 fun ee11 ww12 => ∃ (num10 : Int), ee11 = .returned (.int .u64 num10) ∧
  c2.elim False fun a13 =>
  canStore ww12 ((a13.add 1).add 0) ∧
  thenW (ww12.setCell ((a13.add 1).add 0) (.int .i64 who7)) fun ww14 =>
  c2.elim False fun a15 =>
  canStore ww14 ((a15.add 2).add 0) ∧
  thenW (ww14.setCell ((a15.add 2).add 0) (.int .u64 num10)) fun ww16 =>
  R (.tuple #[]) ww16

theorem members_reader_invite.eq (rReader1 : Option Addr) (c2 : Option Addr) (R : Value → World → Prop) (w : World) : mfunc Try.prog [] 69 [.agg #[.pointer rReader1], .pointer c2] R w = members_reader_invite.M rReader1 c2 R w := by kernel_rfl
theorem members_reader_invite.ok (rReader1 : Option Addr) (c2 : Option Addr) {R : Value → World → Prop} {w : World} (h : members_reader_invite.M rReader1 c2 R w) : Calls Try.prog 69 #[.agg #[.pointer rReader1], .pointer c2] w fun e w' => ∃ v, e = .returned v ∧ R v w' :=
  mfunc_ok follows (H := []) (args := [.agg #[.pointer rReader1], .pointer c2]) (by rw [members_reader_invite.eq]; exact h)

def members_reader_invite.N (rReader1 : Option Addr) (c2 : Option Addr) (R : Value → World → Prop) (w : World) : Prop :=
  ∀ (ww4 : World) (p5 : Nat), Ext no w ww4 → Priv w ww4 [p5] →
  Calls Try.prog 78 #[.agg #[.pointer rReader1]] ww4 fun ee7 ww8 => ∃ (who6 : Int), ee7 = .returned (.int .i64 who6) ∧
  Keep [p5] ww4 ww8 ∧
  Calls Try.prog 65 #[.pointer rReader1] ww8 fun ee10 ww11 => ∃ (num9 : Int), ee10 = .returned (.int .u64 num9) ∧
  ∃ a12 : Addr, c2 = some a12 ∧
  canStore ww11 ((a12.add 1).add 0) ∧
  thenW (ww11.setCell ((a12.add 1).add 0) (.int .i64 who6)) fun ww13 =>
  canStore ww13 ((a12.add 2).add 0) ∧
  thenW (ww13.setCell ((a12.add 2).add 0) (.int .u64 num9)) fun ww14 =>
  R (.tuple #[]) ww14

theorem members_reader_invite.up (rReader1 : Option Addr) (c2 : Option Addr) {R : Value → World → Prop} {w : World} (h : members_reader_invite.N rReader1 c2 R w) : members_reader_invite.M rReader1 c2 R w := by
  unfold members_reader_invite.M
  unfold members_reader_invite.N at h
  refine thenW_in fun ww3 e3 => ?_
  have hb1 := Blk.of_new e3
  have hg1 := ((Ext.refl no w)).size
  have hx3 := (Ext.refl no w).x_alloc e3
  refine thenW_in fun ww4 e4 => ?_
  have hx4 := hx3.x_drew e4
  have hb1 := hb1.x_drew e4
  refine ⟨rReader1, ⟨hb1.celli 0 rfl rfl, trivial⟩, ?_⟩
  refine ⟨rReader1, hb1.celli 0 rfl rfl, ?_⟩
  have h := h ww4 (w.heap.size) hx4 (Priv.cons hg1 hb1.lt Priv.nil)
  refine h.mono fun ee7 ww8 h => ?_
  obtain ⟨who6, he, hk, h⟩ := h
  refine ⟨who6, he, ?_⟩
  have hb1 := hk.blk hb1 (by simp)
  refine ⟨hb1.celli 0 rfl rfl, ?_⟩
  refine h.mono fun ee10 ww11 h => ?_
  obtain ⟨num9, he, h⟩ := h
  refine ⟨num9, he, ?_⟩
  obtain ⟨a12, ha12, h⟩ := h
  refine elim_some ha12 ?_
  obtain ⟨hcs, h⟩ := h
  refine ⟨hcs, thenW_in fun ww13 e13 => ?_⟩
  replace h := thenW_out h e13
  refine elim_some ha12 ?_
  obtain ⟨hcs, h⟩ := h
  refine ⟨hcs, thenW_in fun ww14 e14 => ?_⟩
  replace h := thenW_out h e14
  exact h

theorem members_reader_invite.go (rReader1 : Option Addr) (c2 : Option Addr) {R : Value → World → Prop} {w : World} (h : members_reader_invite.N rReader1 c2 R w) : Calls Try.prog 69 #[.agg #[.pointer rReader1], .pointer c2] w fun e w' => ∃ v, e = .returned v ∧ R v w' := members_reader_invite.ok rReader1 c2 (members_reader_invite.up rReader1 c2 h)
theorem members_reader_invite.run (rReader1 : Option Addr) (c2 : Option Addr) {V : Value} {Q : World → Prop} {w : World} (h : members_reader_invite.N rReader1 c2 (fun v w' => v = V ∧ Q w') w) : Calls Try.prog 69 #[.agg #[.pointer rReader1], .pointer c2] w (Ret V Q) := (members_reader_invite.go rReader1 c2 h).mono fun e w' ⟨v, he, hv, hq⟩ => ⟨by rw [he, hv], hq⟩

/-- (members.reader).revoke -/
def members_reader_revoke.M (rReader1 : Option Addr) (c2 : Option Addr) (R : Value → World → Prop) (w : World) : Prop :=
  thenW (w.alloc (.cells #[.pointer rReader1] 98)) fun ww3 =>
  thenW (ww3.drew) fun ww4 =>
  ∃ (xReader5 : Option Addr), cellsAt ww4 (blk w.heap.size) [.pointer xReader5] 0 ∧
  ∃ (Reader6 : Option Addr), ww4.cell? ((blk w.heap.size).add 0) = some (.pointer Reader6) ∧
  Calls Try.prog 78 #[.agg #[.pointer xReader5]] ww4 fun ee8 ww9 => ∃ (who7 : Int), ee8 = .returned (.int .i64 who7) ∧
  ww9.cell? ((blk w.heap.size).add 0) = some (.pointer Reader6) ∧
  Calls Try.prog 47 #[.pointer Reader6, .int .i64 200] ww9 fun ee11 ww12 => ∃ (count10 : Int), ee11 = .returned (.int .i64 count10) ∧
  c2.elim False fun a13 =>
  canStore ww12 ((a13.add 1).add 0) ∧
  thenW (ww12.setCell ((a13.add 1).add 0) (.int .i64 who7)) fun ww14 =>
  c2.elim False fun a15 =>
  canStore ww14 ((a15.add 3).add 0) ∧
  thenW (ww14.setCell ((a15.add 3).add 0) (.int .i64 count10)) fun ww16 =>
  R (.tuple #[]) ww16

theorem members_reader_revoke.eq (rReader1 : Option Addr) (c2 : Option Addr) (R : Value → World → Prop) (w : World) : mfunc Try.prog [] 70 [.agg #[.pointer rReader1], .pointer c2] R w = members_reader_revoke.M rReader1 c2 R w := by kernel_rfl
theorem members_reader_revoke.ok (rReader1 : Option Addr) (c2 : Option Addr) {R : Value → World → Prop} {w : World} (h : members_reader_revoke.M rReader1 c2 R w) : Calls Try.prog 70 #[.agg #[.pointer rReader1], .pointer c2] w fun e w' => ∃ v, e = .returned v ∧ R v w' :=
  mfunc_ok follows (H := []) (args := [.agg #[.pointer rReader1], .pointer c2]) (by rw [members_reader_revoke.eq]; exact h)

def members_reader_revoke.N (rReader1 : Option Addr) (c2 : Option Addr) (R : Value → World → Prop) (w : World) : Prop :=
  ∀ (ww4 : World) (p5 : Nat), Ext no w ww4 → Priv w ww4 [p5] →
  Calls Try.prog 78 #[.agg #[.pointer rReader1]] ww4 fun ee7 ww8 => ∃ (who6 : Int), ee7 = .returned (.int .i64 who6) ∧
  Keep [p5] ww4 ww8 ∧
  Calls Try.prog 47 #[.pointer rReader1, .int .i64 200] ww8 fun ee10 ww11 => ∃ (count9 : Int), ee10 = .returned (.int .i64 count9) ∧
  ∃ a12 : Addr, c2 = some a12 ∧
  canStore ww11 ((a12.add 1).add 0) ∧
  thenW (ww11.setCell ((a12.add 1).add 0) (.int .i64 who6)) fun ww13 =>
  canStore ww13 ((a12.add 3).add 0) ∧
  thenW (ww13.setCell ((a12.add 3).add 0) (.int .i64 count9)) fun ww14 =>
  R (.tuple #[]) ww14

theorem members_reader_revoke.up (rReader1 : Option Addr) (c2 : Option Addr) {R : Value → World → Prop} {w : World} (h : members_reader_revoke.N rReader1 c2 R w) : members_reader_revoke.M rReader1 c2 R w := by
  unfold members_reader_revoke.M
  unfold members_reader_revoke.N at h
  refine thenW_in fun ww3 e3 => ?_
  have hb1 := Blk.of_new e3
  have hg1 := ((Ext.refl no w)).size
  have hx3 := (Ext.refl no w).x_alloc e3
  refine thenW_in fun ww4 e4 => ?_
  have hx4 := hx3.x_drew e4
  have hb1 := hb1.x_drew e4
  refine ⟨rReader1, ⟨hb1.celli 0 rfl rfl, trivial⟩, ?_⟩
  refine ⟨rReader1, hb1.celli 0 rfl rfl, ?_⟩
  have h := h ww4 (w.heap.size) hx4 (Priv.cons hg1 hb1.lt Priv.nil)
  refine h.mono fun ee7 ww8 h => ?_
  obtain ⟨who6, he, hk, h⟩ := h
  refine ⟨who6, he, ?_⟩
  have hb1 := hk.blk hb1 (by simp)
  refine ⟨hb1.celli 0 rfl rfl, ?_⟩
  refine h.mono fun ee10 ww11 h => ?_
  obtain ⟨count9, he, h⟩ := h
  refine ⟨count9, he, ?_⟩
  obtain ⟨a12, ha12, h⟩ := h
  refine elim_some ha12 ?_
  obtain ⟨hcs, h⟩ := h
  refine ⟨hcs, thenW_in fun ww13 e13 => ?_⟩
  replace h := thenW_out h e13
  refine elim_some ha12 ?_
  obtain ⟨hcs, h⟩ := h
  refine ⟨hcs, thenW_in fun ww14 e14 => ?_⟩
  replace h := thenW_out h e14
  exact h

theorem members_reader_revoke.go (rReader1 : Option Addr) (c2 : Option Addr) {R : Value → World → Prop} {w : World} (h : members_reader_revoke.N rReader1 c2 R w) : Calls Try.prog 70 #[.agg #[.pointer rReader1], .pointer c2] w fun e w' => ∃ v, e = .returned v ∧ R v w' := members_reader_revoke.ok rReader1 c2 (members_reader_revoke.up rReader1 c2 h)
theorem members_reader_revoke.run (rReader1 : Option Addr) (c2 : Option Addr) {V : Value} {Q : World → Prop} {w : World} (h : members_reader_revoke.N rReader1 c2 (fun v w' => v = V ∧ Q w') w) : Calls Try.prog 70 #[.agg #[.pointer rReader1], .pointer c2] w (Ret V Q) := (members_reader_revoke.go rReader1 c2 h).mono fun e w' ⟨v, he, hv, hq⟩ => ⟨by rw [he, hv], hq⟩

/-- (members.reader).epoch -/
def members_reader_epoch.M (rReader1 : Option Addr) (c2 : Option Addr) (R : Value → World → Prop) (w : World) : Prop :=
  thenW (w.alloc (.cells #[.pointer rReader1] 98)) fun ww3 =>
  ∃ (Reader4 : Option Addr), ww3.cell? ((blk w.heap.size).add 0) = some (.pointer Reader4) ∧
  Calls Try.prog 47 #[.pointer Reader4, .int .i64 8] ww3 fun ee6 ww7 => ∃ (count5 : Int), ee6 = .returned (.int .i64 count5) ∧
  ∃ (I0 : Nat → List Value → World → Prop) (m9 : Nat), I0 m9 [.int .i64 0] ww7 ∧ ∀ (m10 : Nat) (ww11 : World) (t8 : Int), I0 m10 [.int .i64 t8] ww11 →
  bif decide (t8 < count5) then (
  thenW (ww11.drew) fun ww12 =>
  c2.elim False fun a13 =>
  ∃ (Wraps14a : Option Addr) (Wraps14n : Nat) (Wraps14c : Nat), ww12.cell? (a13.add 4) = some (.slice Wraps14a Wraps14n Wraps14c) ∧
  ∃ (xReader15 : Option Addr), cellsAt ww12 (blk w.heap.size) [.pointer xReader15] 0 ∧
  ∃ (Reader16 : Option Addr), ww12.cell? ((blk w.heap.size).add 0) = some (.pointer Reader16) ∧
  Calls Try.prog 78 #[.agg #[.pointer xReader15]] ww12 fun ee18 ww19 => ∃ (who17 : Int), ee18 = .returned (.int .i64 who17) ∧
  ww19.cell? ((blk w.heap.size).add 0) = some (.pointer Reader16) ∧
  ww19.cell? (a13.add 4) = some (.slice Wraps14a Wraps14n Wraps14c) ∧
  Calls Try.prog 79 #[.pointer Reader16, .int .i64 16] ww19 fun ee21 ww22 => ∃ (bytes20a : Option Addr) (bytes20n : Nat) (bytes20c : Nat), ee21 = .returned (.slice bytes20a bytes20n bytes20c) ∧
  ww22.cell? (a13.add 4) = some (.slice Wraps14a Wraps14n Wraps14c) ∧
  thenW (ww22.alloc (.cells #[.int .i64 who17, .slice bytes20a bytes20n bytes20c] 85)) fun ww23 =>
  ww23.cell? (a13.add 4) = some (.slice Wraps14a Wraps14n Wraps14c) ∧
  ∃ (a24a : Option Addr) (a24n : Nat) (a24c : Nat) (ww25 : World), (Builtin.append_ #[33, 33] 33 #[.slice Wraps14a Wraps14n Wraps14c, .slice (some (blk ww22.heap.size)) 1 1]).run Try.prog ww23 = .ok (.slice a24a a24n a24c) ww25 ∧
  c2.elim False fun a26 =>
  canStore ww25 ((a26.add 4).add 0) ∧
  thenW (ww25.setCell ((a26.add 4).add 0) (.slice a24a a24n a24c)) fun ww27 =>
  ∃ m28, m28 < m10 ∧ I0 m28 [.int .i64 (IntKind.i64.wrap (t8 + 1))] ww27) else (
  ∃ (Reader29 : Option Addr), ww11.cell? ((blk w.heap.size).add 0) = some (.pointer Reader29) ∧
  Calls Try.prog 79 #[.pointer Reader29, .int .i64 24] ww11 fun ee31 ww32 => ∃ (bytes30a : Option Addr) (bytes30n : Nat) (bytes30c : Nat), ee31 = .returned (.slice bytes30a bytes30n bytes30c) ∧
  c2.elim False fun a33 =>
  canStore ww32 ((a33.add 5).add 0) ∧
  thenW (ww32.setCell ((a33.add 5).add 0) (.slice bytes30a bytes30n bytes30c)) fun ww34 =>
  R (.tuple #[]) ww34)

theorem members_reader_epoch.eq (rReader1 : Option Addr) (c2 : Option Addr) (R : Value → World → Prop) (w : World) : mfunc Try.prog [(0, [1, 2, 6], [(7, (.one (.int .i64)))])] 71 [.agg #[.pointer rReader1], .pointer c2] R w = members_reader_epoch.M rReader1 c2 R w := by kernel_rfl
theorem members_reader_epoch.ok (rReader1 : Option Addr) (c2 : Option Addr) {R : Value → World → Prop} {w : World} (h : members_reader_epoch.M rReader1 c2 R w) : Calls Try.prog 71 #[.agg #[.pointer rReader1], .pointer c2] w fun e w' => ∃ v, e = .returned v ∧ R v w' :=
  mfunc_ok follows (H := [(0, [1, 2, 6], [(7, (.one (.int .i64)))])]) (args := [.agg #[.pointer rReader1], .pointer c2]) (by rw [members_reader_epoch.eq]; exact h)

def members_reader_epoch.N (rReader1 : Option Addr) (c2 : Option Addr) (R : Value → World → Prop) (w : World) : Prop :=
  ∀ (ww3 : World) (p4 : Nat), Ext no w ww3 → Priv w ww3 [p4] →
  Calls Try.prog 47 #[.pointer rReader1, .int .i64 8] ww3 fun ee6 ww7 => ∃ (count5 : Int), ee6 = .returned (.int .i64 count5) ∧
  Keep [p4] ww3 ww7 ∧
  ∃ (I0 : Nat → List Value → World → Prop) (m9 : Nat), I0 m9 [.int .i64 0] ww7 ∧ ∀ (m10 : Nat) (ww11 : World) (t8 : Int), I0 m10 [.int .i64 t8] ww11 →
  (t8 < count5 →
    ∃ a14 : Addr, c2 = some a14 ∧
    ∃ (Wraps16a : Option Addr) (Wraps16n : Nat) (Wraps16c : Nat), ww11.cell? (a14.add 4) = some (.slice Wraps16a Wraps16n Wraps16c) ∧
    ∀ (ww13 : World), Ext no ww11 ww13 →
    Calls Try.prog 78 #[.agg #[.pointer rReader1]] ww13 fun ee18 ww19 => ∃ (who17 : Int), ee18 = .returned (.int .i64 who17) ∧
    Keep [p4] ww13 ww19 ∧
    ww19.cell? (a14.add 4) = some (.slice Wraps16a Wraps16n Wraps16c) ∧
    Calls Try.prog 79 #[.pointer rReader1, .int .i64 16] ww19 fun ee22 ww23 => ∃ (bytes21a : Option Addr) (bytes21n : Nat) (bytes21c : Nat), ee22 = .returned (.slice bytes21a bytes21n bytes21c) ∧
    Keep [p4] ww19 ww23 ∧
    ww23.cell? (a14.add 4) = some (.slice Wraps16a Wraps16n Wraps16c) ∧
    ∀ (ww25 : World) (q26 : Nat), Ext no ww23 ww25 → Blk ww25 q26 85 [.int .i64 who17, .slice bytes21a bytes21n bytes21c] → ww23.heap.size ≤ q26 → q26 < ww25.heap.size →
    ww25.cell? (a14.add 4) = some (.slice Wraps16a Wraps16n Wraps16c) ∧
    ∃ (a28a : Option Addr) (a28n : Nat) (a28c : Nat) (ww29 : World), (Builtin.append_ #[33, 33] 33 #[.slice Wraps16a Wraps16n Wraps16c, .slice (some (blk q26)) 1 1]).run Try.prog ww25 = .ok (.slice a28a a28n a28c) ww29 ∧
    Keep [p4] ww25 ww29 ∧
    canStore ww29 ((a14.add 4).add 0) ∧
    (∀ p ∈ [p4], p ≠ Addr.block (a14.add 4)) ∧
    thenW (ww29.setCell ((a14.add 4).add 0) (.slice a28a a28n a28c)) fun ww30 =>
    (-9223372036854775808 : Int) ≤ (t8 + 1) ∧ (t8 + 1) < 9223372036854775808 ∧
    ∃ m31, m31 < m10 ∧ I0 m31 [.int .i64 (t8 + 1)] ww30) ∧
  (count5 ≤ t8 →
    Calls Try.prog 79 #[.pointer rReader1, .int .i64 24] ww11 fun ee33 ww34 => ∃ (bytes32a : Option Addr) (bytes32n : Nat) (bytes32c : Nat), ee33 = .returned (.slice bytes32a bytes32n bytes32c) ∧
    ∃ a35 : Addr, c2 = some a35 ∧
    canStore ww34 ((a35.add 5).add 0) ∧
    thenW (ww34.setCell ((a35.add 5).add 0) (.slice bytes32a bytes32n bytes32c)) fun ww36 =>
    R (.tuple #[]) ww36)

theorem members_reader_epoch.up (rReader1 : Option Addr) (c2 : Option Addr) {R : Value → World → Prop} {w : World} (h : members_reader_epoch.N rReader1 c2 R w) : members_reader_epoch.M rReader1 c2 R w := by
  unfold members_reader_epoch.M
  unfold members_reader_epoch.N at h
  refine thenW_in fun ww3 e3 => ?_
  have hb1 := Blk.of_new e3
  have hg1 := ((Ext.refl no w)).size
  have hx3 := (Ext.refl no w).x_alloc e3
  refine ⟨rReader1, hb1.celli 0 rfl rfl, ?_⟩
  have h := h ww3 (w.heap.size) hx3 (Priv.cons hg1 hb1.lt Priv.nil)
  refine h.mono fun ee6 ww7 h => ?_
  obtain ⟨count5, he, hk, h⟩ := h
  refine ⟨count5, he, ?_⟩
  have hb1 := hk.blk hb1 (by simp)
  obtain ⟨I0, m9, h0, h⟩ := h
  refine ⟨fun k vs ww => Blk ww w.heap.size 98 [.pointer rReader1] ∧ I0 k vs ww, m9, ⟨hb1, h0⟩, fun m10 ww11 t8 hI => ?_⟩
  obtain ⟨hb1, hI⟩ := hI
  have h := h m10 ww11 t8 hI
  refine bif_of (fun c12 => ?_) (fun c12 => ?_)
  · have h := h.1 (of_decide_eq_true c12)
    refine thenW_in fun ww13 e13 => ?_
    have hx13 := (Ext.refl no ww11).x_drew e13
    have hb1 := hb1.x_drew e13
    obtain ⟨a14, ha14, h⟩ := h
    refine elim_some ha14 ?_
    obtain ⟨Wraps16a, Wraps16n, Wraps16c, hc15, h⟩ := h
    refine ⟨Wraps16a, Wraps16n, Wraps16c, (hx13).cell hc15 id, ?_⟩
    refine ⟨rReader1, ⟨hb1.celli 0 rfl rfl, trivial⟩, ?_⟩
    refine ⟨rReader1, hb1.celli 0 rfl rfl, ?_⟩
    have h := h ww13 hx13
    refine h.mono fun ee18 ww19 h => ?_
    obtain ⟨who17, he, hk, h⟩ := h
    refine ⟨who17, he, ?_⟩
    have hb1 := hk.blk hb1 (by simp)
    obtain ⟨ho20, h⟩ := h
    refine ⟨hb1.celli 0 rfl rfl, ho20, ?_⟩
    refine h.mono fun ee22 ww23 h => ?_
    obtain ⟨bytes21a, bytes21n, bytes21c, he, hk, h⟩ := h
    refine ⟨bytes21a, bytes21n, bytes21c, he, ?_⟩
    have hb1 := hk.blk hb1 (by simp)
    obtain ⟨ho24, h⟩ := h
    refine ⟨ho24, ?_⟩
    refine thenW_in fun ww25 e25 => ?_
    have hb1 := hb1.x_alloc e25
    have h := h ww25 ww23.heap.size ((Ext.refl no ww23).x_alloc e25) (Blk.of_new e25) ((Ext.refl no ww23)).size (size_lt_alloc e25)
    obtain ⟨ho27, h⟩ := h
    refine ⟨ho27, ?_⟩
    obtain ⟨a28a, a28n, a28c, ww29, hr, hk, h⟩ := h
    refine ⟨a28a, a28n, a28c, ww29, hr, ?_⟩
    have hb1 := hk.blk hb1 (by simp)
    refine elim_some ha14 ?_
    obtain ⟨hcs, hof, h⟩ := h
    refine ⟨hcs, thenW_in fun ww30 e30 => ?_⟩
    replace h := thenW_out h e30
    have hb1 := hb1.off (by rw [block_add]; exact hof _ (by simp)) e30
    obtain ⟨hw1, hw2, h⟩ := h
    try rw [w64 hw1 hw2]
    obtain ⟨m31, hk, h⟩ := h
    exact ⟨m31, hk, hb1, h⟩
  · have h := h.2 (Int.not_lt.1 (of_decide_eq_false c12))
    refine ⟨rReader1, hb1.celli 0 rfl rfl, ?_⟩
    refine h.mono fun ee33 ww34 h => ?_
    obtain ⟨bytes32a, bytes32n, bytes32c, he, h⟩ := h
    refine ⟨bytes32a, bytes32n, bytes32c, he, ?_⟩
    obtain ⟨a35, ha35, h⟩ := h
    refine elim_some ha35 ?_
    obtain ⟨hcs, h⟩ := h
    refine ⟨hcs, thenW_in fun ww36 e36 => ?_⟩
    replace h := thenW_out h e36
    exact h

theorem members_reader_epoch.go (rReader1 : Option Addr) (c2 : Option Addr) {R : Value → World → Prop} {w : World} (h : members_reader_epoch.N rReader1 c2 R w) : Calls Try.prog 71 #[.agg #[.pointer rReader1], .pointer c2] w fun e w' => ∃ v, e = .returned v ∧ R v w' := members_reader_epoch.ok rReader1 c2 (members_reader_epoch.up rReader1 c2 h)
theorem members_reader_epoch.run (rReader1 : Option Addr) (c2 : Option Addr) {V : Value} {Q : World → Prop} {w : World} (h : members_reader_epoch.N rReader1 c2 (fun v w' => v = V ∧ Q w') w) : Calls Try.prog 71 #[.agg #[.pointer rReader1], .pointer c2] w (Ret V Q) := (members_reader_epoch.go rReader1 c2 h).mono fun e w' ⟨v, he, hv, hq⟩ => ⟨by rw [he, hv], hq⟩

/-- (members.reader).kind -/
def members_reader_kind.M (rReader1 : Option Addr) (n2 : Int) (R : Value → World → Prop) (w : World) : Prop :=
  thenW (w.alloc (.cells #[.pointer rReader1] 98)) fun ww3 =>
  bif n2 == 1 then (
  ∃ (xReader4 : Option Addr), cellsAt ww3 (blk w.heap.size) [.pointer xReader4] 0 ∧
  R (.func (.func 69) (#[.agg #[.pointer xReader4]]) #[]) ww3) else (
  bif n2 == 2 then (
  ∃ (xReader5 : Option Addr), cellsAt ww3 (blk w.heap.size) [.pointer xReader5] 0 ∧
  R (.func (.func 70) (#[.agg #[.pointer xReader5]]) #[]) ww3) else (
  bif n2 == 3 then (
  ∃ (xReader6 : Option Addr), cellsAt ww3 (blk w.heap.size) [.pointer xReader6] 0 ∧
  R (.func (.func 71) (#[.agg #[.pointer xReader6]]) #[]) ww3) else (
  R (.func (.func 72) #[] #[]) ww3)))

theorem members_reader_kind.eq (rReader1 : Option Addr) (n2 : Int) (R : Value → World → Prop) (w : World) : mfunc Try.prog [] 48 [.agg #[.pointer rReader1], .int .i64 n2] R w = members_reader_kind.M rReader1 n2 R w := by kernel_rfl
theorem members_reader_kind.ok (rReader1 : Option Addr) (n2 : Int) {R : Value → World → Prop} {w : World} (h : members_reader_kind.M rReader1 n2 R w) : Calls Try.prog 48 #[.agg #[.pointer rReader1], .int .i64 n2] w fun e w' => ∃ v, e = .returned v ∧ R v w' :=
  mfunc_ok follows (H := []) (args := [.agg #[.pointer rReader1], .int .i64 n2]) (by rw [members_reader_kind.eq]; exact h)

def members_reader_kind.N (rReader1 : Option Addr) (n2 : Int) (R : Value → World → Prop) (w : World) : Prop :=
  (n2 = 1 →
    ∀ (ww3 : World), Ext no w ww3 →
    R (.func (.func 69) (#[.agg #[.pointer rReader1]]) #[]) ww3) ∧
  (n2 ≠ 1 →
    (n2 = 2 →
      ∀ (ww3 : World), Ext no w ww3 →
      R (.func (.func 70) (#[.agg #[.pointer rReader1]]) #[]) ww3) ∧
    (n2 ≠ 2 →
      (n2 = 3 →
        ∀ (ww3 : World), Ext no w ww3 →
        R (.func (.func 71) (#[.agg #[.pointer rReader1]]) #[]) ww3) ∧
      (n2 ≠ 3 →
        ∀ (ww3 : World), Ext no w ww3 →
        R (.func (.func 72) #[] #[]) ww3)))

theorem members_reader_kind.up (rReader1 : Option Addr) (n2 : Int) {R : Value → World → Prop} {w : World} (h : members_reader_kind.N rReader1 n2 R w) : members_reader_kind.M rReader1 n2 R w := by
  unfold members_reader_kind.M
  unfold members_reader_kind.N at h
  refine thenW_in fun ww3 e3 => ?_
  have hb1 := Blk.of_new e3
  have hg1 := ((Ext.refl no w)).size
  have hx3 := (Ext.refl no w).x_alloc e3
  refine bif_of (fun c4 => ?_) (fun c4 => ?_)
  · have h := h.1 (beq_t c4)
    refine ⟨rReader1, ⟨hb1.celli 0 rfl rfl, trivial⟩, ?_⟩
    have h := h ww3 hx3
    exact h
  · have h := h.2 (beq_f c4)
    refine bif_of (fun c6 => ?_) (fun c6 => ?_)
    · have h := h.1 (beq_t c6)
      refine ⟨rReader1, ⟨hb1.celli 0 rfl rfl, trivial⟩, ?_⟩
      have h := h ww3 hx3
      exact h
    · have h := h.2 (beq_f c6)
      refine bif_of (fun c8 => ?_) (fun c8 => ?_)
      · have h := h.1 (beq_t c8)
        refine ⟨rReader1, ⟨hb1.celli 0 rfl rfl, trivial⟩, ?_⟩
        have h := h ww3 hx3
        exact h
      · have h := h.2 (beq_f c8)
        have h := h ww3 hx3
        exact h

theorem members_reader_kind.go (rReader1 : Option Addr) (n2 : Int) {R : Value → World → Prop} {w : World} (h : members_reader_kind.N rReader1 n2 R w) : Calls Try.prog 48 #[.agg #[.pointer rReader1], .int .i64 n2] w fun e w' => ∃ v, e = .returned v ∧ R v w' := members_reader_kind.ok rReader1 n2 (members_reader_kind.up rReader1 n2 h)
theorem members_reader_kind.run (rReader1 : Option Addr) (n2 : Int) {V : Value} {Q : World → Prop} {w : World} (h : members_reader_kind.N rReader1 n2 (fun v w' => v = V ∧ Q w') w) : Calls Try.prog 48 #[.agg #[.pointer rReader1], .int .i64 n2] w (Ret V Q) := (members_reader_kind.go rReader1 n2 h).mono fun e w' ⟨v, he, hv, hq⟩ => ⟨by rw [he, hv], hq⟩

/-- (members.reader).kind$1 -/
def members_reader_kind_1.M (p1 : Option Addr) (R : Value → World → Prop) (w : World) : Prop :=
  R (.tuple #[]) w

theorem members_reader_kind_1.eq (p1 : Option Addr) (R : Value → World → Prop) (w : World) : mfunc Try.prog [] 72 [.pointer p1] R w = members_reader_kind_1.M p1 R w := by kernel_rfl
theorem members_reader_kind_1.ok (p1 : Option Addr) {R : Value → World → Prop} {w : World} (h : members_reader_kind_1.M p1 R w) : Calls Try.prog 72 #[.pointer p1] w fun e w' => ∃ v, e = .returned v ∧ R v w' :=
  mfunc_ok follows (H := []) (args := [.pointer p1]) (by rw [members_reader_kind_1.eq]; exact h)

def members_reader_kind_1.N (p1 : Option Addr) (R : Value → World → Prop) (w : World) : Prop :=
  R (.tuple #[]) w

theorem members_reader_kind_1.up (p1 : Option Addr) {R : Value → World → Prop} {w : World} (h : members_reader_kind_1.N p1 R w) : members_reader_kind_1.M p1 R w := by
  unfold members_reader_kind_1.M
  unfold members_reader_kind_1.N at h
  exact h

theorem members_reader_kind_1.go (p1 : Option Addr) {R : Value → World → Prop} {w : World} (h : members_reader_kind_1.N p1 R w) : Calls Try.prog 72 #[.pointer p1] w fun e w' => ∃ v, e = .returned v ∧ R v w' := members_reader_kind_1.ok p1 (members_reader_kind_1.up p1 h)
theorem members_reader_kind_1.run (p1 : Option Addr) {V : Value} {Q : World → Prop} {w : World} (h : members_reader_kind_1.N p1 (fun v w' => v = V ∧ Q w') w) : Calls Try.prog 72 #[.pointer p1] w (Ret V Q) := (members_reader_kind_1.go p1 h).mono fun e w' ⟨v, he, hv, hq⟩ => ⟨by rw [he, hv], hq⟩

/-- members.Read -/
def members_Read.M (b1a : Option Addr) (b1n : Nat) (b1c : Nat) (R : Value → World → Prop) (w : World) : Prop :=
  thenW (w.alloc (.cells #[.int .i64 0, .int .i64 0, .int .u64 0, .int .i64 0, .slice none 0 0, .slice none 0 0] 36)) fun ww2 =>
  Calls Try.prog 46 #[.slice b1a b1n b1c] ww2 fun ee4 ww5 => ∃ (read3 : Option Addr), ee4 = .returned (.pointer read3) ∧
  thenW (ww5.alloc (.cells #[.pointer none] 98)) fun ww6 =>
  canStore ww6 ((blk ww5.heap.size).add 0) ∧
  thenW (ww6.setCell ((blk ww5.heap.size).add 0) (.pointer read3)) fun ww7 =>
  ∃ (Reader8 : Option Addr), ww7.cell? ((blk ww5.heap.size).add 0) = some (.pointer Reader8) ∧
  Calls Try.prog 47 #[.pointer Reader8, .int .i64 3] ww7 fun ee10 ww11 => ∃ (count9 : Int), ee10 = .returned (.int .i64 count9) ∧
  canStore ww11 (((blk w.heap.size).add 0).add 0) ∧
  thenW (ww11.setCell (((blk w.heap.size).add 0).add 0) (.int .i64 count9)) fun ww12 =>
  ∃ (xReader13 : Option Addr), cellsAt ww12 (blk ww5.heap.size) [.pointer xReader13] 0 ∧
  ∃ (Kind14 : Int), ww12.cell? ((blk w.heap.size).add 0) = some (.int .i64 Kind14) ∧
  Calls Try.prog 48 #[.agg #[.pointer xReader13], .int .i64 Kind14] ww12 fun ee16 ww17 => ∃ (kind15k : Nat) (kind15f : Array Value) (kind15g : Array Value), ee16 = .returned (.func (.func kind15k) kind15f kind15g) ∧
  bif enters Try.prog kind15k then Calls Try.prog kind15k (kind15f.toList ++ ([.pointer (some (blk w.heap.size))] : List Value) ++ kind15g.toList).toArray ww17 (fun ee18 ww19 => ee18 = .returned (.tuple #[]) ∧
  ∃ (Reader21 : Option Addr), ww19.cell? ((blk ww5.heap.size).add 0) = some (.pointer Reader21) ∧
  Calls Try.prog 49 #[.pointer Reader21] ww19 fun ee23 ww24 => ∃ (done22 : Int), ee23 = .returned (.int .i64 done22) ∧
  bif done22 != 0 then (
  canStore ww24 ((blk w.heap.size).add 0) ∧
  thenW (ww24.setCell ((blk w.heap.size).add 0) (.int .i64 0)) fun ww25 =>
  canStore ww25 ((blk w.heap.size).add 1) ∧
  thenW (ww25.setCell ((blk w.heap.size).add 1) (.int .i64 0)) fun ww26 =>
  canStore ww26 ((blk w.heap.size).add 2) ∧
  thenW (ww26.setCell ((blk w.heap.size).add 2) (.int .u64 0)) fun ww27 =>
  canStore ww27 ((blk w.heap.size).add 3) ∧
  thenW (ww27.setCell ((blk w.heap.size).add 3) (.int .i64 0)) fun ww28 =>
  canStore ww28 ((blk w.heap.size).add 4) ∧
  thenW (ww28.setCell ((blk w.heap.size).add 4) (.slice none 0 0)) fun ww29 =>
  canStore ww29 ((blk w.heap.size).add 5) ∧
  thenW (ww29.setCell ((blk w.heap.size).add 5) (.slice none 0 0)) fun ww30 =>
  ∃ (resKind31 : Int) (resWho32 : Int) (resPublic33 : Int) (resLimit34 : Int) (resWraps35a : Option Addr) (resWraps35n : Nat) (resWraps35c : Nat) (resOld36a : Option Addr) (resOld36n : Nat) (resOld36c : Nat), cellsAt ww30 (blk w.heap.size) [.int .i64 resKind31, .int .i64 resWho32, .int .u64 resPublic33, .int .i64 resLimit34, .slice resWraps35a resWraps35n resWraps35c, .slice resOld36a resOld36n resOld36c] 0 ∧
  R (.tuple #[.agg #[.int .i64 resKind31, .int .i64 resWho32, .int .u64 resPublic33, .int .i64 resLimit34, .slice resWraps35a resWraps35n resWraps35c, .slice resOld36a resOld36n resOld36c], .int .i64 done22]) ww30) else (
  ∃ (xKind37 : Int) (xWho38 : Int) (xPublic39 : Int) (xLimit40 : Int) (xWraps41a : Option Addr) (xWraps41n : Nat) (xWraps41c : Nat) (xOld42a : Option Addr) (xOld42n : Nat) (xOld42c : Nat), cellsAt ww24 (blk w.heap.size) [.int .i64 xKind37, .int .i64 xWho38, .int .u64 xPublic39, .int .i64 xLimit40, .slice xWraps41a xWraps41n xWraps41c, .slice xOld42a xOld42n xOld42c] 0 ∧
  Calls Try.prog 31 #[.agg #[.int .i64 xKind37, .int .i64 xWho38, .int .u64 xPublic39, .int .i64 xLimit40, .slice xWraps41a xWraps41n xWraps41c, .slice xOld42a xOld42n xOld42c]] ww24 fun ee44 ww45 => ∃ (right43 : Bool), ee44 = .returned (.bool right43) ∧
  bif !right43 then (
  canStore ww45 ((blk w.heap.size).add 0) ∧
  thenW (ww45.setCell ((blk w.heap.size).add 0) (.int .i64 0)) fun ww46 =>
  canStore ww46 ((blk w.heap.size).add 1) ∧
  thenW (ww46.setCell ((blk w.heap.size).add 1) (.int .i64 0)) fun ww47 =>
  canStore ww47 ((blk w.heap.size).add 2) ∧
  thenW (ww47.setCell ((blk w.heap.size).add 2) (.int .u64 0)) fun ww48 =>
  canStore ww48 ((blk w.heap.size).add 3) ∧
  thenW (ww48.setCell ((blk w.heap.size).add 3) (.int .i64 0)) fun ww49 =>
  canStore ww49 ((blk w.heap.size).add 4) ∧
  thenW (ww49.setCell ((blk w.heap.size).add 4) (.slice none 0 0)) fun ww50 =>
  canStore ww50 ((blk w.heap.size).add 5) ∧
  thenW (ww50.setCell ((blk w.heap.size).add 5) (.slice none 0 0)) fun ww51 =>
  ∃ (resKind52 : Int) (resWho53 : Int) (resPublic54 : Int) (resLimit55 : Int) (resWraps56a : Option Addr) (resWraps56n : Nat) (resWraps56c : Nat) (resOld57a : Option Addr) (resOld57n : Nat) (resOld57c : Nat), cellsAt ww51 (blk w.heap.size) [.int .i64 resKind52, .int .i64 resWho53, .int .u64 resPublic54, .int .i64 resLimit55, .slice resWraps56a resWraps56n resWraps56c, .slice resOld57a resOld57n resOld57c] 0 ∧
  R (.tuple #[.agg #[.int .i64 resKind52, .int .i64 resWho53, .int .u64 resPublic54, .int .i64 resLimit55, .slice resWraps56a resWraps56n resWraps56c, .slice resOld57a resOld57n resOld57c], .int .i64 4]) ww51) else (
  ∃ (xKind58 : Int) (xWho59 : Int) (xPublic60 : Int) (xLimit61 : Int) (xWraps62a : Option Addr) (xWraps62n : Nat) (xWraps62c : Nat) (xOld63a : Option Addr) (xOld63n : Nat) (xOld63c : Nat), cellsAt ww45 (blk w.heap.size) [.int .i64 xKind58, .int .i64 xWho59, .int .u64 xPublic60, .int .i64 xLimit61, .slice xWraps62a xWraps62n xWraps62c, .slice xOld63a xOld63n xOld63c] 0 ∧
  canStore ww45 ((blk w.heap.size).add 0) ∧
  thenW (ww45.setCell ((blk w.heap.size).add 0) (.int .i64 xKind58)) fun ww64 =>
  canStore ww64 ((blk w.heap.size).add 1) ∧
  thenW (ww64.setCell ((blk w.heap.size).add 1) (.int .i64 xWho59)) fun ww65 =>
  canStore ww65 ((blk w.heap.size).add 2) ∧
  thenW (ww65.setCell ((blk w.heap.size).add 2) (.int .u64 xPublic60)) fun ww66 =>
  canStore ww66 ((blk w.heap.size).add 3) ∧
  thenW (ww66.setCell ((blk w.heap.size).add 3) (.int .i64 xLimit61)) fun ww67 =>
  canStore ww67 ((blk w.heap.size).add 4) ∧
  thenW (ww67.setCell ((blk w.heap.size).add 4) (.slice xWraps62a xWraps62n xWraps62c)) fun ww68 =>
  canStore ww68 ((blk w.heap.size).add 5) ∧
  thenW (ww68.setCell ((blk w.heap.size).add 5) (.slice xOld63a xOld63n xOld63c)) fun ww69 =>
  ∃ (resKind70 : Int) (resWho71 : Int) (resPublic72 : Int) (resLimit73 : Int) (resWraps74a : Option Addr) (resWraps74n : Nat) (resWraps74c : Nat) (resOld75a : Option Addr) (resOld75n : Nat) (resOld75c : Nat), cellsAt ww69 (blk w.heap.size) [.int .i64 resKind70, .int .i64 resWho71, .int .u64 resPublic72, .int .i64 resLimit73, .slice resWraps74a resWraps74n resWraps74c, .slice resOld75a resOld75n resOld75c] 0 ∧
  R (.tuple #[.agg #[.int .i64 resKind70, .int .i64 resWho71, .int .u64 resPublic72, .int .i64 resLimit73, .slice resWraps74a resWraps74n resWraps74c, .slice resOld75a resOld75n resOld75c], .int .i64 0]) ww69))) else (∃ (ww20 : World), (externCall kind15k (kind15f.toList ++ ([.pointer (some (blk w.heap.size))] : List Value) ++ kind15g.toList).toArray).run Try.prog ww17 = .ok (.tuple #[]) ww20 ∧
  ∃ (Reader76 : Option Addr), ww20.cell? ((blk ww5.heap.size).add 0) = some (.pointer Reader76) ∧
  Calls Try.prog 49 #[.pointer Reader76] ww20 fun ee78 ww79 => ∃ (done77 : Int), ee78 = .returned (.int .i64 done77) ∧
  bif done77 != 0 then (
  canStore ww79 ((blk w.heap.size).add 0) ∧
  thenW (ww79.setCell ((blk w.heap.size).add 0) (.int .i64 0)) fun ww80 =>
  canStore ww80 ((blk w.heap.size).add 1) ∧
  thenW (ww80.setCell ((blk w.heap.size).add 1) (.int .i64 0)) fun ww81 =>
  canStore ww81 ((blk w.heap.size).add 2) ∧
  thenW (ww81.setCell ((blk w.heap.size).add 2) (.int .u64 0)) fun ww82 =>
  canStore ww82 ((blk w.heap.size).add 3) ∧
  thenW (ww82.setCell ((blk w.heap.size).add 3) (.int .i64 0)) fun ww83 =>
  canStore ww83 ((blk w.heap.size).add 4) ∧
  thenW (ww83.setCell ((blk w.heap.size).add 4) (.slice none 0 0)) fun ww84 =>
  canStore ww84 ((blk w.heap.size).add 5) ∧
  thenW (ww84.setCell ((blk w.heap.size).add 5) (.slice none 0 0)) fun ww85 =>
  ∃ (resKind86 : Int) (resWho87 : Int) (resPublic88 : Int) (resLimit89 : Int) (resWraps90a : Option Addr) (resWraps90n : Nat) (resWraps90c : Nat) (resOld91a : Option Addr) (resOld91n : Nat) (resOld91c : Nat), cellsAt ww85 (blk w.heap.size) [.int .i64 resKind86, .int .i64 resWho87, .int .u64 resPublic88, .int .i64 resLimit89, .slice resWraps90a resWraps90n resWraps90c, .slice resOld91a resOld91n resOld91c] 0 ∧
  R (.tuple #[.agg #[.int .i64 resKind86, .int .i64 resWho87, .int .u64 resPublic88, .int .i64 resLimit89, .slice resWraps90a resWraps90n resWraps90c, .slice resOld91a resOld91n resOld91c], .int .i64 done77]) ww85) else (
  ∃ (xKind92 : Int) (xWho93 : Int) (xPublic94 : Int) (xLimit95 : Int) (xWraps96a : Option Addr) (xWraps96n : Nat) (xWraps96c : Nat) (xOld97a : Option Addr) (xOld97n : Nat) (xOld97c : Nat), cellsAt ww79 (blk w.heap.size) [.int .i64 xKind92, .int .i64 xWho93, .int .u64 xPublic94, .int .i64 xLimit95, .slice xWraps96a xWraps96n xWraps96c, .slice xOld97a xOld97n xOld97c] 0 ∧
  Calls Try.prog 31 #[.agg #[.int .i64 xKind92, .int .i64 xWho93, .int .u64 xPublic94, .int .i64 xLimit95, .slice xWraps96a xWraps96n xWraps96c, .slice xOld97a xOld97n xOld97c]] ww79 fun ee99 ww100 => ∃ (right98 : Bool), ee99 = .returned (.bool right98) ∧
  bif !right98 then (
  canStore ww100 ((blk w.heap.size).add 0) ∧
  thenW (ww100.setCell ((blk w.heap.size).add 0) (.int .i64 0)) fun ww101 =>
  canStore ww101 ((blk w.heap.size).add 1) ∧
  thenW (ww101.setCell ((blk w.heap.size).add 1) (.int .i64 0)) fun ww102 =>
  canStore ww102 ((blk w.heap.size).add 2) ∧
  thenW (ww102.setCell ((blk w.heap.size).add 2) (.int .u64 0)) fun ww103 =>
  canStore ww103 ((blk w.heap.size).add 3) ∧
  thenW (ww103.setCell ((blk w.heap.size).add 3) (.int .i64 0)) fun ww104 =>
  canStore ww104 ((blk w.heap.size).add 4) ∧
  thenW (ww104.setCell ((blk w.heap.size).add 4) (.slice none 0 0)) fun ww105 =>
  canStore ww105 ((blk w.heap.size).add 5) ∧
  thenW (ww105.setCell ((blk w.heap.size).add 5) (.slice none 0 0)) fun ww106 =>
  ∃ (resKind107 : Int) (resWho108 : Int) (resPublic109 : Int) (resLimit110 : Int) (resWraps111a : Option Addr) (resWraps111n : Nat) (resWraps111c : Nat) (resOld112a : Option Addr) (resOld112n : Nat) (resOld112c : Nat), cellsAt ww106 (blk w.heap.size) [.int .i64 resKind107, .int .i64 resWho108, .int .u64 resPublic109, .int .i64 resLimit110, .slice resWraps111a resWraps111n resWraps111c, .slice resOld112a resOld112n resOld112c] 0 ∧
  R (.tuple #[.agg #[.int .i64 resKind107, .int .i64 resWho108, .int .u64 resPublic109, .int .i64 resLimit110, .slice resWraps111a resWraps111n resWraps111c, .slice resOld112a resOld112n resOld112c], .int .i64 4]) ww106) else (
  ∃ (xKind113 : Int) (xWho114 : Int) (xPublic115 : Int) (xLimit116 : Int) (xWraps117a : Option Addr) (xWraps117n : Nat) (xWraps117c : Nat) (xOld118a : Option Addr) (xOld118n : Nat) (xOld118c : Nat), cellsAt ww100 (blk w.heap.size) [.int .i64 xKind113, .int .i64 xWho114, .int .u64 xPublic115, .int .i64 xLimit116, .slice xWraps117a xWraps117n xWraps117c, .slice xOld118a xOld118n xOld118c] 0 ∧
  canStore ww100 ((blk w.heap.size).add 0) ∧
  thenW (ww100.setCell ((blk w.heap.size).add 0) (.int .i64 xKind113)) fun ww119 =>
  canStore ww119 ((blk w.heap.size).add 1) ∧
  thenW (ww119.setCell ((blk w.heap.size).add 1) (.int .i64 xWho114)) fun ww120 =>
  canStore ww120 ((blk w.heap.size).add 2) ∧
  thenW (ww120.setCell ((blk w.heap.size).add 2) (.int .u64 xPublic115)) fun ww121 =>
  canStore ww121 ((blk w.heap.size).add 3) ∧
  thenW (ww121.setCell ((blk w.heap.size).add 3) (.int .i64 xLimit116)) fun ww122 =>
  canStore ww122 ((blk w.heap.size).add 4) ∧
  thenW (ww122.setCell ((blk w.heap.size).add 4) (.slice xWraps117a xWraps117n xWraps117c)) fun ww123 =>
  canStore ww123 ((blk w.heap.size).add 5) ∧
  thenW (ww123.setCell ((blk w.heap.size).add 5) (.slice xOld118a xOld118n xOld118c)) fun ww124 =>
  ∃ (resKind125 : Int) (resWho126 : Int) (resPublic127 : Int) (resLimit128 : Int) (resWraps129a : Option Addr) (resWraps129n : Nat) (resWraps129c : Nat) (resOld130a : Option Addr) (resOld130n : Nat) (resOld130c : Nat), cellsAt ww124 (blk w.heap.size) [.int .i64 resKind125, .int .i64 resWho126, .int .u64 resPublic127, .int .i64 resLimit128, .slice resWraps129a resWraps129n resWraps129c, .slice resOld130a resOld130n resOld130c] 0 ∧
  R (.tuple #[.agg #[.int .i64 resKind125, .int .i64 resWho126, .int .u64 resPublic127, .int .i64 resLimit128, .slice resWraps129a resWraps129n resWraps129c, .slice resOld130a resOld130n resOld130c], .int .i64 0]) ww124)))

theorem members_Read.eq (b1a : Option Addr) (b1n : Nat) (b1c : Nat) (R : Value → World → Prop) (w : World) : mfunc Try.prog [] 29 [.slice b1a b1n b1c] R w = members_Read.M b1a b1n b1c R w := by kernel_rfl
theorem members_Read.ok (b1a : Option Addr) (b1n : Nat) (b1c : Nat) {R : Value → World → Prop} {w : World} (h : members_Read.M b1a b1n b1c R w) : Calls Try.prog 29 #[.slice b1a b1n b1c] w fun e w' => ∃ v, e = .returned v ∧ R v w' :=
  mfunc_ok follows (H := []) (args := [.slice b1a b1n b1c]) (by rw [members_Read.eq]; exact h)

def members_Read.N (b1a : Option Addr) (b1n : Nat) (b1c : Nat) (R : Value → World → Prop) (w : World) : Prop :=
  ∀ (ww2 : World) (q3 : Nat), Ext no w ww2 → Blk ww2 q3 36 [.int .i64 0, .int .i64 0, .int .u64 0, .int .i64 0, .slice none 0 0, .slice none 0 0] → w.heap.size ≤ q3 → q3 < ww2.heap.size →
  Calls Try.prog 46 #[.slice b1a b1n b1c] ww2 fun ee5 ww6 => ∃ (read4 : Option Addr), ee5 = .returned (.pointer read4) ∧
  ∀ (ww8 : World) (p9 : Nat), Ext no ww6 ww8 → Priv ww6 ww8 [p9] →
  Calls Try.prog 47 #[.pointer read4, .int .i64 3] ww8 fun ee11 ww12 => ∃ (count10 : Int), ee11 = .returned (.int .i64 count10) ∧
  Keep [p9] ww8 ww12 ∧
  canStore ww12 (((blk q3).add 0).add 0) ∧
  (∀ p ∈ [p9], p ≠ Addr.block ((blk q3).add 0)) ∧
  thenW (ww12.setCell (((blk q3).add 0).add 0) (.int .i64 count10)) fun ww13 =>
  ∃ (Kind15 : Int), ww13.cell? ((blk q3).add 0) = some (.int .i64 Kind15) ∧
  Calls Try.prog 48 #[.agg #[.pointer read4], .int .i64 Kind15] ww13 fun ee17 ww18 => ∃ (kind16k : Nat) (kind16f : Array Value) (kind16g : Array Value), ee17 = .returned (.func (.func kind16k) kind16f kind16g) ∧
  Keep [p9] ww13 ww18 ∧
  enters Try.prog kind16k = true ∧ Calls Try.prog kind16k (kind16f.toList ++ ([.pointer (some (blk q3))] : List Value) ++ kind16g.toList).toArray ww18 (fun ee19 ww20 => ee19 = .returned (.tuple #[]) ∧
  Keep [p9] ww18 ww20 ∧
  Calls Try.prog 49 #[.pointer read4] ww20 fun ee22 ww23 => ∃ (done21 : Int), ee22 = .returned (.int .i64 done21) ∧
  (done21 ≠ 0 →
    canStore ww23 ((blk q3).add 0) ∧
    thenW (ww23.setCell ((blk q3).add 0) (.int .i64 0)) fun ww25 =>
    canStore ww25 ((blk q3).add 1) ∧
    thenW (ww25.setCell ((blk q3).add 1) (.int .i64 0)) fun ww26 =>
    canStore ww26 ((blk q3).add 2) ∧
    thenW (ww26.setCell ((blk q3).add 2) (.int .u64 0)) fun ww27 =>
    canStore ww27 ((blk q3).add 3) ∧
    thenW (ww27.setCell ((blk q3).add 3) (.int .i64 0)) fun ww28 =>
    canStore ww28 ((blk q3).add 4) ∧
    thenW (ww28.setCell ((blk q3).add 4) (.slice none 0 0)) fun ww29 =>
    canStore ww29 ((blk q3).add 5) ∧
    thenW (ww29.setCell ((blk q3).add 5) (.slice none 0 0)) fun ww30 =>
    ∃ (resKind32 : Int) (resWho33 : Int) (resPublic34 : Int) (resLimit35 : Int) (resWraps36a : Option Addr) (resWraps36n : Nat) (resWraps36c : Nat) (resOld37a : Option Addr) (resOld37n : Nat) (resOld37c : Nat), cellsAt ww30 (blk q3) [.int .i64 resKind32, .int .i64 resWho33, .int .u64 resPublic34, .int .i64 resLimit35, .slice resWraps36a resWraps36n resWraps36c, .slice resOld37a resOld37n resOld37c] 0 ∧
    R (.tuple #[.agg #[.int .i64 resKind32, .int .i64 resWho33, .int .u64 resPublic34, .int .i64 resLimit35, .slice resWraps36a resWraps36n resWraps36c, .slice resOld37a resOld37n resOld37c], .int .i64 done21]) ww30) ∧
  (done21 = 0 →
    ∃ (xKind39 : Int) (xWho40 : Int) (xPublic41 : Int) (xLimit42 : Int) (xWraps43a : Option Addr) (xWraps43n : Nat) (xWraps43c : Nat) (xOld44a : Option Addr) (xOld44n : Nat) (xOld44c : Nat), cellsAt ww23 (blk q3) [.int .i64 xKind39, .int .i64 xWho40, .int .u64 xPublic41, .int .i64 xLimit42, .slice xWraps43a xWraps43n xWraps43c, .slice xOld44a xOld44n xOld44c] 0 ∧
    Calls Try.prog 31 #[.agg #[.int .i64 xKind39, .int .i64 xWho40, .int .u64 xPublic41, .int .i64 xLimit42, .slice xWraps43a xWraps43n xWraps43c, .slice xOld44a xOld44n xOld44c]] ww23 fun ee46 ww47 => ∃ (right45 : Bool), ee46 = .returned (.bool right45) ∧
    (right45 = false →
      canStore ww47 ((blk q3).add 0) ∧
      thenW (ww47.setCell ((blk q3).add 0) (.int .i64 0)) fun ww49 =>
      canStore ww49 ((blk q3).add 1) ∧
      thenW (ww49.setCell ((blk q3).add 1) (.int .i64 0)) fun ww50 =>
      canStore ww50 ((blk q3).add 2) ∧
      thenW (ww50.setCell ((blk q3).add 2) (.int .u64 0)) fun ww51 =>
      canStore ww51 ((blk q3).add 3) ∧
      thenW (ww51.setCell ((blk q3).add 3) (.int .i64 0)) fun ww52 =>
      canStore ww52 ((blk q3).add 4) ∧
      thenW (ww52.setCell ((blk q3).add 4) (.slice none 0 0)) fun ww53 =>
      canStore ww53 ((blk q3).add 5) ∧
      thenW (ww53.setCell ((blk q3).add 5) (.slice none 0 0)) fun ww54 =>
      ∃ (resKind56 : Int) (resWho57 : Int) (resPublic58 : Int) (resLimit59 : Int) (resWraps60a : Option Addr) (resWraps60n : Nat) (resWraps60c : Nat) (resOld61a : Option Addr) (resOld61n : Nat) (resOld61c : Nat), cellsAt ww54 (blk q3) [.int .i64 resKind56, .int .i64 resWho57, .int .u64 resPublic58, .int .i64 resLimit59, .slice resWraps60a resWraps60n resWraps60c, .slice resOld61a resOld61n resOld61c] 0 ∧
      R (.tuple #[.agg #[.int .i64 resKind56, .int .i64 resWho57, .int .u64 resPublic58, .int .i64 resLimit59, .slice resWraps60a resWraps60n resWraps60c, .slice resOld61a resOld61n resOld61c], .int .i64 4]) ww54) ∧
    (right45 = true →
      ∃ (xKind63 : Int) (xWho64 : Int) (xPublic65 : Int) (xLimit66 : Int) (xWraps67a : Option Addr) (xWraps67n : Nat) (xWraps67c : Nat) (xOld68a : Option Addr) (xOld68n : Nat) (xOld68c : Nat), cellsAt ww47 (blk q3) [.int .i64 xKind63, .int .i64 xWho64, .int .u64 xPublic65, .int .i64 xLimit66, .slice xWraps67a xWraps67n xWraps67c, .slice xOld68a xOld68n xOld68c] 0 ∧
      canStore ww47 ((blk q3).add 0) ∧
      thenW (ww47.setCell ((blk q3).add 0) (.int .i64 xKind63)) fun ww69 =>
      canStore ww69 ((blk q3).add 1) ∧
      thenW (ww69.setCell ((blk q3).add 1) (.int .i64 xWho64)) fun ww70 =>
      canStore ww70 ((blk q3).add 2) ∧
      thenW (ww70.setCell ((blk q3).add 2) (.int .u64 xPublic65)) fun ww71 =>
      canStore ww71 ((blk q3).add 3) ∧
      thenW (ww71.setCell ((blk q3).add 3) (.int .i64 xLimit66)) fun ww72 =>
      canStore ww72 ((blk q3).add 4) ∧
      thenW (ww72.setCell ((blk q3).add 4) (.slice xWraps67a xWraps67n xWraps67c)) fun ww73 =>
      canStore ww73 ((blk q3).add 5) ∧
      thenW (ww73.setCell ((blk q3).add 5) (.slice xOld68a xOld68n xOld68c)) fun ww74 =>
      ∃ (resKind76 : Int) (resWho77 : Int) (resPublic78 : Int) (resLimit79 : Int) (resWraps80a : Option Addr) (resWraps80n : Nat) (resWraps80c : Nat) (resOld81a : Option Addr) (resOld81n : Nat) (resOld81c : Nat), cellsAt ww74 (blk q3) [.int .i64 resKind76, .int .i64 resWho77, .int .u64 resPublic78, .int .i64 resLimit79, .slice resWraps80a resWraps80n resWraps80c, .slice resOld81a resOld81n resOld81c] 0 ∧
      R (.tuple #[.agg #[.int .i64 resKind76, .int .i64 resWho77, .int .u64 resPublic78, .int .i64 resLimit79, .slice resWraps80a resWraps80n resWraps80c, .slice resOld81a resOld81n resOld81c], .int .i64 0]) ww74)))

theorem members_Read.up (b1a : Option Addr) (b1n : Nat) (b1c : Nat) {R : Value → World → Prop} {w : World} (h : members_Read.N b1a b1n b1c R w) : members_Read.M b1a b1n b1c R w := by
  unfold members_Read.M
  unfold members_Read.N at h
  refine thenW_in fun ww2 e2 => ?_
  have h := h ww2 w.heap.size ((Ext.refl no w).x_alloc e2) (Blk.of_new e2) ((Ext.refl no w)).size (size_lt_alloc e2)
  refine h.mono fun ee5 ww6 h => ?_
  obtain ⟨read4, he, h⟩ := h
  refine ⟨read4, he, ?_⟩
  refine thenW_in fun ww7 e7 => ?_
  have hb1 := Blk.of_new e7
  have hg1 := ((Ext.refl no ww6)).size
  have hx7 := (Ext.refl no ww6).x_alloc e7
  refine ⟨hb1.cani 0 rfl rfl, thenW_in fun ww8 e8 => ?_⟩
  have hx8 := hx7.x_set (q := ww6.heap.size) (i := 0) rfl (.inr hg1) e8
  have hb1 := hb1.seti 0 rfl e8
  refine ⟨read4, hb1.celli 0 rfl rfl, ?_⟩
  have h := h ww8 (ww6.heap.size) hx8 (Priv.cons hg1 hb1.lt Priv.nil)
  refine h.mono fun ee11 ww12 h => ?_
  obtain ⟨count10, he, hk, h⟩ := h
  refine ⟨count10, he, ?_⟩
  have hb1 := hk.blk hb1 (by simp)
  obtain ⟨hcs, hof, h⟩ := h
  refine ⟨hcs, thenW_in fun ww13 e13 => ?_⟩
  replace h := thenW_out h e13
  have hb1 := hb1.off (by rw [block_add]; exact hof _ (by simp)) e13
  refine ⟨read4, ⟨hb1.celli 0 rfl rfl, trivial⟩, ?_⟩
  obtain ⟨Kind15, hc14, h⟩ := h
  refine ⟨Kind15, hc14, ?_⟩
  refine h.mono fun ee17 ww18 h => ?_
  obtain ⟨kind16k, kind16f, kind16g, he, hk, h⟩ := h
  refine ⟨kind16k, kind16f, kind16g, he, ?_⟩
  have hb1 := hk.blk hb1 (by simp)
  obtain ⟨hen, h⟩ := h
  refine bif_tt hen ?_
  refine h.mono fun ee19 ww20 h => ?_
  obtain ⟨he, hk, h⟩ := h
  refine ⟨he, ?_⟩
  have hb1 := hk.blk hb1 (by simp)
  refine ⟨read4, hb1.celli 0 rfl rfl, ?_⟩
  refine h.mono fun ee22 ww23 h => ?_
  obtain ⟨done21, he, h⟩ := h
  refine ⟨done21, he, ?_⟩
  refine bif_of (fun c24 => ?_) (fun c24 => ?_)
  · have h := h.1 (bne_t c24)
    obtain ⟨hcs, h⟩ := h
    refine ⟨hcs, thenW_in fun ww25 e25 => ?_⟩
    replace h := thenW_out h e25
    obtain ⟨hcs, h⟩ := h
    refine ⟨hcs, thenW_in fun ww26 e26 => ?_⟩
    replace h := thenW_out h e26
    obtain ⟨hcs, h⟩ := h
    refine ⟨hcs, thenW_in fun ww27 e27 => ?_⟩
    replace h := thenW_out h e27
    obtain ⟨hcs, h⟩ := h
    refine ⟨hcs, thenW_in fun ww28 e28 => ?_⟩
    replace h := thenW_out h e28
    obtain ⟨hcs, h⟩ := h
    refine ⟨hcs, thenW_in fun ww29 e29 => ?_⟩
    replace h := thenW_out h e29
    obtain ⟨hcs, h⟩ := h
    refine ⟨hcs, thenW_in fun ww30 e30 => ?_⟩
    replace h := thenW_out h e30
    obtain ⟨resKind32, resWho33, resPublic34, resLimit35, resWraps36a, resWraps36n, resWraps36c, resOld37a, resOld37n, resOld37c, hc31, h⟩ := h
    refine ⟨resKind32, resWho33, resPublic34, resLimit35, resWraps36a, resWraps36n, resWraps36c, resOld37a, resOld37n, resOld37c, hc31, ?_⟩
    exact h
  · have h := h.2 (bne_f c24)
    obtain ⟨xKind39, xWho40, xPublic41, xLimit42, xWraps43a, xWraps43n, xWraps43c, xOld44a, xOld44n, xOld44c, hc38, h⟩ := h
    refine ⟨xKind39, xWho40, xPublic41, xLimit42, xWraps43a, xWraps43n, xWraps43c, xOld44a, xOld44n, xOld44c, hc38, ?_⟩
    refine h.mono fun ee46 ww47 h => ?_
    obtain ⟨right45, he, h⟩ := h
    refine ⟨right45, he, ?_⟩
    refine bif_of (fun c48 => ?_) (fun c48 => ?_)
    · have h := h.1 (not_t c48)
      obtain ⟨hcs, h⟩ := h
      refine ⟨hcs, thenW_in fun ww49 e49 => ?_⟩
      replace h := thenW_out h e49
      obtain ⟨hcs, h⟩ := h
      refine ⟨hcs, thenW_in fun ww50 e50 => ?_⟩
      replace h := thenW_out h e50
      obtain ⟨hcs, h⟩ := h
      refine ⟨hcs, thenW_in fun ww51 e51 => ?_⟩
      replace h := thenW_out h e51
      obtain ⟨hcs, h⟩ := h
      refine ⟨hcs, thenW_in fun ww52 e52 => ?_⟩
      replace h := thenW_out h e52
      obtain ⟨hcs, h⟩ := h
      refine ⟨hcs, thenW_in fun ww53 e53 => ?_⟩
      replace h := thenW_out h e53
      obtain ⟨hcs, h⟩ := h
      refine ⟨hcs, thenW_in fun ww54 e54 => ?_⟩
      replace h := thenW_out h e54
      obtain ⟨resKind56, resWho57, resPublic58, resLimit59, resWraps60a, resWraps60n, resWraps60c, resOld61a, resOld61n, resOld61c, hc55, h⟩ := h
      refine ⟨resKind56, resWho57, resPublic58, resLimit59, resWraps60a, resWraps60n, resWraps60c, resOld61a, resOld61n, resOld61c, hc55, ?_⟩
      exact h
    · have h := h.2 (not_f c48)
      obtain ⟨xKind63, xWho64, xPublic65, xLimit66, xWraps67a, xWraps67n, xWraps67c, xOld68a, xOld68n, xOld68c, hc62, h⟩ := h
      refine ⟨xKind63, xWho64, xPublic65, xLimit66, xWraps67a, xWraps67n, xWraps67c, xOld68a, xOld68n, xOld68c, hc62, ?_⟩
      obtain ⟨hcs, h⟩ := h
      refine ⟨hcs, thenW_in fun ww69 e69 => ?_⟩
      replace h := thenW_out h e69
      obtain ⟨hcs, h⟩ := h
      refine ⟨hcs, thenW_in fun ww70 e70 => ?_⟩
      replace h := thenW_out h e70
      obtain ⟨hcs, h⟩ := h
      refine ⟨hcs, thenW_in fun ww71 e71 => ?_⟩
      replace h := thenW_out h e71
      obtain ⟨hcs, h⟩ := h
      refine ⟨hcs, thenW_in fun ww72 e72 => ?_⟩
      replace h := thenW_out h e72
      obtain ⟨hcs, h⟩ := h
      refine ⟨hcs, thenW_in fun ww73 e73 => ?_⟩
      replace h := thenW_out h e73
      obtain ⟨hcs, h⟩ := h
      refine ⟨hcs, thenW_in fun ww74 e74 => ?_⟩
      replace h := thenW_out h e74
      obtain ⟨resKind76, resWho77, resPublic78, resLimit79, resWraps80a, resWraps80n, resWraps80c, resOld81a, resOld81n, resOld81c, hc75, h⟩ := h
      refine ⟨resKind76, resWho77, resPublic78, resLimit79, resWraps80a, resWraps80n, resWraps80c, resOld81a, resOld81n, resOld81c, hc75, ?_⟩
      exact h

theorem members_Read.go (b1a : Option Addr) (b1n : Nat) (b1c : Nat) {R : Value → World → Prop} {w : World} (h : members_Read.N b1a b1n b1c R w) : Calls Try.prog 29 #[.slice b1a b1n b1c] w fun e w' => ∃ v, e = .returned v ∧ R v w' := members_Read.ok b1a b1n b1c (members_Read.up b1a b1n b1c h)
theorem members_Read.run (b1a : Option Addr) (b1n : Nat) (b1c : Nat) {V : Value} {Q : World → Prop} {w : World} (h : members_Read.N b1a b1n b1c (fun v w' => v = V ∧ Q w') w) : Calls Try.prog 29 #[.slice b1a b1n b1c] w (Ret V Q) := (members_Read.go b1a b1n b1c h).mono fun e w' ⟨v, he, hv, hq⟩ => ⟨by rw [he, hv], hq⟩

/-- cachetteref12.Changes -/
def cachetteref12_Changes.M (aKind1 : Int) (aWho2 : Int) (aPublic3 : Int) (aLimit4 : Int) (aWraps5a : Option Addr) (aWraps5n : Nat) (aWraps5c : Nat) (aOld6a : Option Addr) (aOld6n : Nat) (aOld6c : Nat) (bKind7 : Int) (bWho8 : Int) (bPublic9 : Int) (bLimit10 : Int) (bWraps11a : Option Addr) (bWraps11n : Nat) (bWraps11c : Nat) (bOld12a : Option Addr) (bOld12n : Nat) (bOld12c : Nat) (R : Value → World → Prop) (w : World) : Prop :=
  thenW (w.alloc (.cells #[.int .i64 aKind1, .int .i64 aWho2, .int .u64 aPublic3, .int .i64 aLimit4, .slice aWraps5a aWraps5n aWraps5c, .slice aOld6a aOld6n aOld6c] 40)) fun ww13 =>
  thenW (ww13.alloc (.cells #[.int .i64 bKind7, .int .i64 bWho8, .int .u64 bPublic9, .int .i64 bLimit10, .slice bWraps11a bWraps11n bWraps11c, .slice bOld12a bOld12n bOld12c] 40)) fun ww14 =>
  ∃ (Kind15 : Int), ww14.cell? ((blk w.heap.size).add 0) = some (.int .i64 Kind15) ∧
  ∃ (Kind16 : Int), ww14.cell? ((blk ww13.heap.size).add 0) = some (.int .i64 Kind16) ∧
  bif Kind15 != Kind16 then (
  R (.bool false) ww14) else (
  ∃ (Who17 : Int), ww14.cell? ((blk w.heap.size).add 1) = some (.int .i64 Who17) ∧
  ∃ (Who18 : Int), ww14.cell? ((blk ww13.heap.size).add 1) = some (.int .i64 Who18) ∧
  bif Who17 != Who18 then (
  R (.bool false) ww14) else (
  ∃ (Public19 : Int), ww14.cell? ((blk w.heap.size).add 2) = some (.int .u64 Public19) ∧
  ∃ (Public20 : Int), ww14.cell? ((blk ww13.heap.size).add 2) = some (.int .u64 Public20) ∧
  bif Public19 != Public20 then (
  R (.bool false) ww14) else (
  ∃ (Limit21 : Int), ww14.cell? ((blk w.heap.size).add 3) = some (.int .i64 Limit21) ∧
  ∃ (Limit22 : Int), ww14.cell? ((blk ww13.heap.size).add 3) = some (.int .i64 Limit22) ∧
  bif Limit21 != Limit22 then (
  R (.bool false) ww14) else (
  ∃ (Wraps23a : Option Addr) (Wraps23n : Nat) (Wraps23c : Nat), ww14.cell? ((blk w.heap.size).add 4) = some (.slice Wraps23a Wraps23n Wraps23c) ∧
  ∃ (Wraps24a : Option Addr) (Wraps24n : Nat) (Wraps24c : Nat), ww14.cell? ((blk ww13.heap.size).add 4) = some (.slice Wraps24a Wraps24n Wraps24c) ∧
  bif (Wraps23n : Int) != (Wraps24n : Int) then (
  R (.bool false) ww14) else (
  ∃ (Old25a : Option Addr) (Old25n : Nat) (Old25c : Nat), ww14.cell? ((blk w.heap.size).add 5) = some (.slice Old25a Old25n Old25c) ∧
  ∃ (Old26a : Option Addr) (Old26n : Nat) (Old26c : Nat), ww14.cell? ((blk ww13.heap.size).add 5) = some (.slice Old26a Old26n Old26c) ∧
  Calls Try.prog 33 #[.slice Old25a Old25n Old25c, .slice Old26a Old26n Old26c] ww14 fun ee28 ww29 => ∃ (same27 : Bool), ee28 = .returned (.bool same27) ∧
  bif !same27 then (
  R (.bool false) ww29) else (
  ∃ (I0 : Nat → List Value → World → Prop) (m31 : Nat), I0 m31 [.int .i64 0] ww29 ∧ ∀ (m32 : Nat) (ww33 : World) (i30 : Int), I0 m32 [.int .i64 i30] ww33 →
  ∃ (Wraps34a : Option Addr) (Wraps34n : Nat) (Wraps34c : Nat), ww33.cell? ((blk w.heap.size).add 4) = some (.slice Wraps34a Wraps34n Wraps34c) ∧
  bif decide (i30 < (Wraps34n : Int)) then (
  thenW (ww33.drew) fun ww35 =>
  ∃ (Wraps36a : Option Addr) (Wraps36n : Nat) (Wraps36c : Nat), ww35.cell? ((blk w.heap.size).add 4) = some (.slice Wraps36a Wraps36n Wraps36c) ∧
  Wraps36a.elim False fun a37 =>
  0 ≤ (i30 : Int) ∧ (i30 : Int) < (Wraps36n : Int) ∧
  ∃ (Who38 : Int), ww35.cell? ((a37.add (Int.toNat i30 * 2)).add 0) = some (.int .i64 Who38) ∧
  ∃ (Wraps39a : Option Addr) (Wraps39n : Nat) (Wraps39c : Nat), ww35.cell? ((blk ww13.heap.size).add 4) = some (.slice Wraps39a Wraps39n Wraps39c) ∧
  Wraps39a.elim False fun a40 =>
  0 ≤ (i30 : Int) ∧ (i30 : Int) < (Wraps39n : Int) ∧
  ∃ (Who41 : Int), ww35.cell? ((a40.add (Int.toNat i30 * 2)).add 0) = some (.int .i64 Who41) ∧
  bif Who38 != Who41 then (
  R (.bool false) ww35) else (
  ∃ (Wraps42a : Option Addr) (Wraps42n : Nat) (Wraps42c : Nat), ww35.cell? ((blk w.heap.size).add 4) = some (.slice Wraps42a Wraps42n Wraps42c) ∧
  Wraps42a.elim False fun a43 =>
  0 ≤ (i30 : Int) ∧ (i30 : Int) < (Wraps42n : Int) ∧
  ∃ (B44a : Option Addr) (B44n : Nat) (B44c : Nat), ww35.cell? ((a43.add (Int.toNat i30 * 2)).add 1) = some (.slice B44a B44n B44c) ∧
  ∃ (Wraps45a : Option Addr) (Wraps45n : Nat) (Wraps45c : Nat), ww35.cell? ((blk ww13.heap.size).add 4) = some (.slice Wraps45a Wraps45n Wraps45c) ∧
  Wraps45a.elim False fun a46 =>
  0 ≤ (i30 : Int) ∧ (i30 : Int) < (Wraps45n : Int) ∧
  ∃ (B47a : Option Addr) (B47n : Nat) (B47c : Nat), ww35.cell? ((a46.add (Int.toNat i30 * 2)).add 1) = some (.slice B47a B47n B47c) ∧
  Calls Try.prog 33 #[.slice B44a B44n B44c, .slice B47a B47n B47c] ww35 fun ee49 ww50 => ∃ (same48 : Bool), ee49 = .returned (.bool same48) ∧
  bif !same48 then (
  R (.bool false) ww50) else (
  ∃ m51, m51 < m32 ∧ I0 m51 [.int .i64 (IntKind.i64.wrap (i30 + 1))] ww50))) else (
  R (.bool true) ww33)))))))

theorem cachetteref12_Changes.eq (aKind1 : Int) (aWho2 : Int) (aPublic3 : Int) (aLimit4 : Int) (aWraps5a : Option Addr) (aWraps5n : Nat) (aWraps5c : Nat) (aOld6a : Option Addr) (aOld6n : Nat) (aOld6c : Nat) (bKind7 : Int) (bWho8 : Int) (bPublic9 : Int) (bLimit10 : Int) (bWraps11a : Option Addr) (bWraps11n : Nat) (bWraps11c : Nat) (bOld12a : Option Addr) (bOld12n : Nat) (bOld12c : Nat) (R : Value → World → Prop) (w : World) : mfunc Try.prog [(0, [2, 3], [(5, (.one (.int .i64)))])] 34 [.agg #[.int .i64 aKind1, .int .i64 aWho2, .int .u64 aPublic3, .int .i64 aLimit4, .slice aWraps5a aWraps5n aWraps5c, .slice aOld6a aOld6n aOld6c], .agg #[.int .i64 bKind7, .int .i64 bWho8, .int .u64 bPublic9, .int .i64 bLimit10, .slice bWraps11a bWraps11n bWraps11c, .slice bOld12a bOld12n bOld12c]] R w = cachetteref12_Changes.M aKind1 aWho2 aPublic3 aLimit4 aWraps5a aWraps5n aWraps5c aOld6a aOld6n aOld6c bKind7 bWho8 bPublic9 bLimit10 bWraps11a bWraps11n bWraps11c bOld12a bOld12n bOld12c R w := by kernel_rfl
theorem cachetteref12_Changes.ok (aKind1 : Int) (aWho2 : Int) (aPublic3 : Int) (aLimit4 : Int) (aWraps5a : Option Addr) (aWraps5n : Nat) (aWraps5c : Nat) (aOld6a : Option Addr) (aOld6n : Nat) (aOld6c : Nat) (bKind7 : Int) (bWho8 : Int) (bPublic9 : Int) (bLimit10 : Int) (bWraps11a : Option Addr) (bWraps11n : Nat) (bWraps11c : Nat) (bOld12a : Option Addr) (bOld12n : Nat) (bOld12c : Nat) {R : Value → World → Prop} {w : World} (h : cachetteref12_Changes.M aKind1 aWho2 aPublic3 aLimit4 aWraps5a aWraps5n aWraps5c aOld6a aOld6n aOld6c bKind7 bWho8 bPublic9 bLimit10 bWraps11a bWraps11n bWraps11c bOld12a bOld12n bOld12c R w) : Calls Try.prog 34 #[.agg #[.int .i64 aKind1, .int .i64 aWho2, .int .u64 aPublic3, .int .i64 aLimit4, .slice aWraps5a aWraps5n aWraps5c, .slice aOld6a aOld6n aOld6c], .agg #[.int .i64 bKind7, .int .i64 bWho8, .int .u64 bPublic9, .int .i64 bLimit10, .slice bWraps11a bWraps11n bWraps11c, .slice bOld12a bOld12n bOld12c]] w fun e w' => ∃ v, e = .returned v ∧ R v w' :=
  mfunc_ok follows (H := [(0, [2, 3], [(5, (.one (.int .i64)))])]) (args := [.agg #[.int .i64 aKind1, .int .i64 aWho2, .int .u64 aPublic3, .int .i64 aLimit4, .slice aWraps5a aWraps5n aWraps5c, .slice aOld6a aOld6n aOld6c], .agg #[.int .i64 bKind7, .int .i64 bWho8, .int .u64 bPublic9, .int .i64 bLimit10, .slice bWraps11a bWraps11n bWraps11c, .slice bOld12a bOld12n bOld12c]]) (by rw [cachetteref12_Changes.eq]; exact h)

def cachetteref12_Changes.N (aKind1 : Int) (aWho2 : Int) (aPublic3 : Int) (aLimit4 : Int) (aWraps5a : Option Addr) (aWraps5n : Nat) (aWraps5c : Nat) (aOld6a : Option Addr) (aOld6n : Nat) (aOld6c : Nat) (bKind7 : Int) (bWho8 : Int) (bPublic9 : Int) (bLimit10 : Int) (bWraps11a : Option Addr) (bWraps11n : Nat) (bWraps11c : Nat) (bOld12a : Option Addr) (bOld12n : Nat) (bOld12c : Nat) (R : Value → World → Prop) (w : World) : Prop :=
  (aKind1 ≠ bKind7 →
    ∀ (ww14 : World), Ext no w ww14 →
    R (.bool false) ww14) ∧
  (aKind1 = bKind7 →
    (aWho2 ≠ bWho8 →
      ∀ (ww14 : World), Ext no w ww14 →
      R (.bool false) ww14) ∧
    (aWho2 = bWho8 →
      (aPublic3 ≠ bPublic9 →
        ∀ (ww14 : World), Ext no w ww14 →
        R (.bool false) ww14) ∧
      (aPublic3 = bPublic9 →
        (aLimit4 ≠ bLimit10 →
          ∀ (ww14 : World), Ext no w ww14 →
          R (.bool false) ww14) ∧
        (aLimit4 = bLimit10 →
          ((aWraps5n : Int) ≠ (bWraps11n : Int) →
            ∀ (ww14 : World), Ext no w ww14 →
            R (.bool false) ww14) ∧
          ((aWraps5n : Int) = (bWraps11n : Int) →
            ∀ (ww14 : World) (p30 : Nat) (p31 : Nat), Ext no w ww14 → Priv w ww14 [p30, p31] →
            Calls Try.prog 33 #[.slice aOld6a aOld6n aOld6c, .slice bOld12a bOld12n bOld12c] ww14 fun ee33 ww34 => ∃ (same32 : Bool), ee33 = .returned (.bool same32) ∧
            Keep [p30, p31] ww14 ww34 ∧
            (same32 = false →
              R (.bool false) ww34) ∧
            (same32 = true →
              ∃ (I0 : Nat → List Value → World → Prop) (m37 : Nat), I0 m37 [.int .i64 0] ww34 ∧ ∀ (m38 : Nat) (ww39 : World) (i36 : Int), I0 m38 [.int .i64 i36] ww39 →
              (i36 < (aWraps5n : Int) →
                ∃ a42 : Addr, aWraps5a = some a42 ∧
                0 ≤ (i36 : Int) ∧ (i36 : Int) < (aWraps5n : Int) ∧
                ∃ (Who44 : Int), ww39.cell? ((a42.add (Int.toNat i36 * 2)).add 0) = some (.int .i64 Who44) ∧
                ∃ a45 : Addr, bWraps11a = some a45 ∧
                0 ≤ (i36 : Int) ∧ (i36 : Int) < (bWraps11n : Int) ∧
                ∃ (Who47 : Int), ww39.cell? ((a45.add (Int.toNat i36 * 2)).add 0) = some (.int .i64 Who47) ∧
                (Who44 ≠ Who47 →
                  ∀ (ww41 : World), Ext no ww39 ww41 →
                  R (.bool false) ww41) ∧
                (Who44 = Who47 →
                  0 ≤ (i36 : Int) ∧ (i36 : Int) < (aWraps5n : Int) ∧
                  ∃ (B50a : Option Addr) (B50n : Nat) (B50c : Nat), ww39.cell? ((a42.add (Int.toNat i36 * 2)).add 1) = some (.slice B50a B50n B50c) ∧
                  0 ≤ (i36 : Int) ∧ (i36 : Int) < (bWraps11n : Int) ∧
                  ∃ (B52a : Option Addr) (B52n : Nat) (B52c : Nat), ww39.cell? ((a45.add (Int.toNat i36 * 2)).add 1) = some (.slice B52a B52n B52c) ∧
                  ∀ (ww41 : World), Ext no ww39 ww41 →
                  Calls Try.prog 33 #[.slice B50a B50n B50c, .slice B52a B52n B52c] ww41 fun ee54 ww55 => ∃ (same53 : Bool), ee54 = .returned (.bool same53) ∧
                  Keep [p30, p31] ww41 ww55 ∧
                  (same53 = false →
                    R (.bool false) ww55) ∧
                  (same53 = true →
                    (-9223372036854775808 : Int) ≤ (i36 + 1) ∧ (i36 + 1) < 9223372036854775808 ∧
                    ∃ m57, m57 < m38 ∧ I0 m57 [.int .i64 (i36 + 1)] ww55))) ∧
              ((aWraps5n : Int) ≤ i36 →
                R (.bool true) ww39)))))))

theorem cachetteref12_Changes.up (aKind1 : Int) (aWho2 : Int) (aPublic3 : Int) (aLimit4 : Int) (aWraps5a : Option Addr) (aWraps5n : Nat) (aWraps5c : Nat) (aOld6a : Option Addr) (aOld6n : Nat) (aOld6c : Nat) (bKind7 : Int) (bWho8 : Int) (bPublic9 : Int) (bLimit10 : Int) (bWraps11a : Option Addr) (bWraps11n : Nat) (bWraps11c : Nat) (bOld12a : Option Addr) (bOld12n : Nat) (bOld12c : Nat) {R : Value → World → Prop} {w : World} (h : cachetteref12_Changes.N aKind1 aWho2 aPublic3 aLimit4 aWraps5a aWraps5n aWraps5c aOld6a aOld6n aOld6c bKind7 bWho8 bPublic9 bLimit10 bWraps11a bWraps11n bWraps11c bOld12a bOld12n bOld12c R w) : cachetteref12_Changes.M aKind1 aWho2 aPublic3 aLimit4 aWraps5a aWraps5n aWraps5c aOld6a aOld6n aOld6c bKind7 bWho8 bPublic9 bLimit10 bWraps11a bWraps11n bWraps11c bOld12a bOld12n bOld12c R w := by
  unfold cachetteref12_Changes.M
  unfold cachetteref12_Changes.N at h
  refine thenW_in fun ww13 e13 => ?_
  have hb1 := Blk.of_new e13
  have hg1 := ((Ext.refl no w)).size
  have hx13 := (Ext.refl no w).x_alloc e13
  refine thenW_in fun ww14 e14 => ?_
  have hb2 := Blk.of_new e14
  have hg2 := (hx13).size
  have hb1_2 := Nat.ne_of_lt hb1.lt
  have hb1 := hb1.x_alloc e14
  have hx14 := hx13.x_alloc e14
  refine ⟨aKind1, hb1.celli 0 rfl rfl, ?_⟩
  refine ⟨bKind7, hb2.celli 0 rfl rfl, ?_⟩
  refine bif_of (fun c15 => ?_) (fun c15 => ?_)
  · have h := h.1 (bne_t c15)
    have h := h ww14 hx14
    exact h
  · have h := h.2 (bne_f c15)
    refine ⟨aWho2, hb1.celli 1 rfl rfl, ?_⟩
    refine ⟨bWho8, hb2.celli 1 rfl rfl, ?_⟩
    refine bif_of (fun c18 => ?_) (fun c18 => ?_)
    · have h := h.1 (bne_t c18)
      have h := h ww14 hx14
      exact h
    · have h := h.2 (bne_f c18)
      refine ⟨aPublic3, hb1.celli 2 rfl rfl, ?_⟩
      refine ⟨bPublic9, hb2.celli 2 rfl rfl, ?_⟩
      refine bif_of (fun c21 => ?_) (fun c21 => ?_)
      · have h := h.1 (bne_t c21)
        have h := h ww14 hx14
        exact h
      · have h := h.2 (bne_f c21)
        refine ⟨aLimit4, hb1.celli 3 rfl rfl, ?_⟩
        refine ⟨bLimit10, hb2.celli 3 rfl rfl, ?_⟩
        refine bif_of (fun c24 => ?_) (fun c24 => ?_)
        · have h := h.1 (bne_t c24)
          have h := h ww14 hx14
          exact h
        · have h := h.2 (bne_f c24)
          refine ⟨aWraps5a, aWraps5n, aWraps5c, hb1.celli 4 rfl rfl, ?_⟩
          refine ⟨bWraps11a, bWraps11n, bWraps11c, hb2.celli 4 rfl rfl, ?_⟩
          refine bif_of (fun c27 => ?_) (fun c27 => ?_)
          · have h := h.1 (bne_t c27)
            have h := h ww14 hx14
            exact h
          · have h := h.2 (bne_f c27)
            refine ⟨aOld6a, aOld6n, aOld6c, hb1.celli 5 rfl rfl, ?_⟩
            refine ⟨bOld12a, bOld12n, bOld12c, hb2.celli 5 rfl rfl, ?_⟩
            have h := h ww14 (w.heap.size) (ww13.heap.size) hx14 (Priv.cons hg1 hb1.lt (Priv.cons hg2 hb2.lt Priv.nil))
            refine h.mono fun ee33 ww34 h => ?_
            obtain ⟨same32, he, hk, h⟩ := h
            refine ⟨same32, he, ?_⟩
            have hb1 := hk.blk hb1 (by simp)
            have hb2 := hk.blk hb2 (by simp)
            refine bif_of (fun c35 => ?_) (fun c35 => ?_)
            · have h := h.1 (not_t c35)
              exact h
            · have h := h.2 (not_f c35)
              obtain ⟨I0, m37, h0, h⟩ := h
              refine ⟨fun k vs ww => Blk ww w.heap.size 40 [.int .i64 aKind1, .int .i64 aWho2, .int .u64 aPublic3, .int .i64 aLimit4, .slice aWraps5a aWraps5n aWraps5c, .slice aOld6a aOld6n aOld6c] ∧ Blk ww ww13.heap.size 40 [.int .i64 bKind7, .int .i64 bWho8, .int .u64 bPublic9, .int .i64 bLimit10, .slice bWraps11a bWraps11n bWraps11c, .slice bOld12a bOld12n bOld12c] ∧ I0 k vs ww, m37, ⟨hb1, hb2, h0⟩, fun m38 ww39 i36 hI => ?_⟩
              obtain ⟨hb1, hb2, hI⟩ := hI
              have h := h m38 ww39 i36 hI
              refine ⟨aWraps5a, aWraps5n, aWraps5c, hb1.celli 4 rfl rfl, ?_⟩
              refine bif_of (fun c40 => ?_) (fun c40 => ?_)
              · have h := h.1 (of_decide_eq_true c40)
                refine thenW_in fun ww41 e41 => ?_
                have hx41 := (Ext.refl no ww39).x_drew e41
                have hb1 := hb1.x_drew e41
                have hb2 := hb2.x_drew e41
                refine ⟨aWraps5a, aWraps5n, aWraps5c, hb1.celli 4 rfl rfl, ?_⟩
                obtain ⟨a42, ha42, h⟩ := h
                refine elim_some ha42 ?_
                obtain ⟨hq1, hq2, h⟩ := h
                refine ⟨hq1, hq2, ?_⟩
                obtain ⟨Who44, hc43, h⟩ := h
                refine ⟨Who44, (hx41).cell hc43 id, ?_⟩
                refine ⟨bWraps11a, bWraps11n, bWraps11c, hb2.celli 4 rfl rfl, ?_⟩
                obtain ⟨a45, ha45, h⟩ := h
                refine elim_some ha45 ?_
                obtain ⟨hq1, hq2, h⟩ := h
                refine ⟨hq1, hq2, ?_⟩
                obtain ⟨Who47, hc46, h⟩ := h
                refine ⟨Who47, (hx41).cell hc46 id, ?_⟩
                refine bif_of (fun c48 => ?_) (fun c48 => ?_)
                · have h := h.1 (bne_t c48)
                  have h := h ww41 hx41
                  exact h
                · have h := h.2 (bne_f c48)
                  refine ⟨aWraps5a, aWraps5n, aWraps5c, hb1.celli 4 rfl rfl, ?_⟩
                  refine elim_some ha42 ?_
                  obtain ⟨hq1, hq2, h⟩ := h
                  refine ⟨hq1, hq2, ?_⟩
                  obtain ⟨B50a, B50n, B50c, hc49, h⟩ := h
                  refine ⟨B50a, B50n, B50c, (hx41).cell hc49 id, ?_⟩
                  refine ⟨bWraps11a, bWraps11n, bWraps11c, hb2.celli 4 rfl rfl, ?_⟩
                  refine elim_some ha45 ?_
                  obtain ⟨hq1, hq2, h⟩ := h
                  refine ⟨hq1, hq2, ?_⟩
                  obtain ⟨B52a, B52n, B52c, hc51, h⟩ := h
                  refine ⟨B52a, B52n, B52c, (hx41).cell hc51 id, ?_⟩
                  have h := h ww41 hx41
                  refine h.mono fun ee54 ww55 h => ?_
                  obtain ⟨same53, he, hk, h⟩ := h
                  refine ⟨same53, he, ?_⟩
                  have hb1 := hk.blk hb1 (by simp)
                  have hb2 := hk.blk hb2 (by simp)
                  refine bif_of (fun c56 => ?_) (fun c56 => ?_)
                  · have h := h.1 (not_t c56)
                    exact h
                  · have h := h.2 (not_f c56)
                    obtain ⟨hw1, hw2, h⟩ := h
                    try rw [w64 hw1 hw2]
                    obtain ⟨m57, hk, h⟩ := h
                    exact ⟨m57, hk, hb1, hb2, h⟩
              · have h := h.2 (Int.not_lt.1 (of_decide_eq_false c40))
                exact h

theorem cachetteref12_Changes.go (aKind1 : Int) (aWho2 : Int) (aPublic3 : Int) (aLimit4 : Int) (aWraps5a : Option Addr) (aWraps5n : Nat) (aWraps5c : Nat) (aOld6a : Option Addr) (aOld6n : Nat) (aOld6c : Nat) (bKind7 : Int) (bWho8 : Int) (bPublic9 : Int) (bLimit10 : Int) (bWraps11a : Option Addr) (bWraps11n : Nat) (bWraps11c : Nat) (bOld12a : Option Addr) (bOld12n : Nat) (bOld12c : Nat) {R : Value → World → Prop} {w : World} (h : cachetteref12_Changes.N aKind1 aWho2 aPublic3 aLimit4 aWraps5a aWraps5n aWraps5c aOld6a aOld6n aOld6c bKind7 bWho8 bPublic9 bLimit10 bWraps11a bWraps11n bWraps11c bOld12a bOld12n bOld12c R w) : Calls Try.prog 34 #[.agg #[.int .i64 aKind1, .int .i64 aWho2, .int .u64 aPublic3, .int .i64 aLimit4, .slice aWraps5a aWraps5n aWraps5c, .slice aOld6a aOld6n aOld6c], .agg #[.int .i64 bKind7, .int .i64 bWho8, .int .u64 bPublic9, .int .i64 bLimit10, .slice bWraps11a bWraps11n bWraps11c, .slice bOld12a bOld12n bOld12c]] w fun e w' => ∃ v, e = .returned v ∧ R v w' := cachetteref12_Changes.ok aKind1 aWho2 aPublic3 aLimit4 aWraps5a aWraps5n aWraps5c aOld6a aOld6n aOld6c bKind7 bWho8 bPublic9 bLimit10 bWraps11a bWraps11n bWraps11c bOld12a bOld12n bOld12c (cachetteref12_Changes.up aKind1 aWho2 aPublic3 aLimit4 aWraps5a aWraps5n aWraps5c aOld6a aOld6n aOld6c bKind7 bWho8 bPublic9 bLimit10 bWraps11a bWraps11n bWraps11c bOld12a bOld12n bOld12c h)
theorem cachetteref12_Changes.run (aKind1 : Int) (aWho2 : Int) (aPublic3 : Int) (aLimit4 : Int) (aWraps5a : Option Addr) (aWraps5n : Nat) (aWraps5c : Nat) (aOld6a : Option Addr) (aOld6n : Nat) (aOld6c : Nat) (bKind7 : Int) (bWho8 : Int) (bPublic9 : Int) (bLimit10 : Int) (bWraps11a : Option Addr) (bWraps11n : Nat) (bWraps11c : Nat) (bOld12a : Option Addr) (bOld12n : Nat) (bOld12c : Nat) {V : Value} {Q : World → Prop} {w : World} (h : cachetteref12_Changes.N aKind1 aWho2 aPublic3 aLimit4 aWraps5a aWraps5n aWraps5c aOld6a aOld6n aOld6c bKind7 bWho8 bPublic9 bLimit10 bWraps11a bWraps11n bWraps11c bOld12a bOld12n bOld12c (fun v w' => v = V ∧ Q w') w) : Calls Try.prog 34 #[.agg #[.int .i64 aKind1, .int .i64 aWho2, .int .u64 aPublic3, .int .i64 aLimit4, .slice aWraps5a aWraps5n aWraps5c, .slice aOld6a aOld6n aOld6c], .agg #[.int .i64 bKind7, .int .i64 bWho8, .int .u64 bPublic9, .int .i64 bLimit10, .slice bWraps11a bWraps11n bWraps11c, .slice bOld12a bOld12n bOld12c]] w (Ret V Q) := (cachetteref12_Changes.go aKind1 aWho2 aPublic3 aLimit4 aWraps5a aWraps5n aWraps5c aOld6a aOld6n aOld6c bKind7 bWho8 bPublic9 bLimit10 bWraps11a bWraps11n bWraps11c bOld12a bOld12n bOld12c h).mono fun e w' ⟨v, he, hv, hq⟩ => ⟨by rw [he, hv], hq⟩

/-- cachettelaw12.MembersBack -/
def cachettelaw12_MembersBack.M (cKind1 : Int) (cWho2 : Int) (cPublic3 : Int) (cLimit4 : Int) (cWraps5a : Option Addr) (cWraps5n : Nat) (cWraps5c : Nat) (cOld6a : Option Addr) (cOld6n : Nat) (cOld6c : Nat) (b7a : Option Addr) (b7n : Nat) (b7c : Nat) (R : Value → World → Prop) (w : World) : Prop :=
  thenW (w.alloc (.cells #[.int .i64 cKind1, .int .i64 cWho2, .int .u64 cPublic3, .int .i64 cLimit4, .slice cWraps5a cWraps5n cWraps5c, .slice cOld6a cOld6n cOld6c] 40)) fun ww8 =>
  ∃ (xKind9 : Int) (xWho10 : Int) (xPublic11 : Int) (xLimit12 : Int) (xWraps13a : Option Addr) (xWraps13n : Nat) (xWraps13c : Nat) (xOld14a : Option Addr) (xOld14n : Nat) (xOld14c : Nat), cellsAt ww8 (blk w.heap.size) [.int .i64 xKind9, .int .i64 xWho10, .int .u64 xPublic11, .int .i64 xLimit12, .slice xWraps13a xWraps13n xWraps13c, .slice xOld14a xOld14n xOld14c] 0 ∧
  thenW (ww8.alloc (.cells #[.int .i64 xKind9, .int .i64 xWho10, .int .u64 xPublic11, .int .i64 xLimit12, .slice xWraps13a xWraps13n xWraps13c, .slice xOld14a xOld14n xOld14c] 40)) fun ww15 =>
  Calls Try.prog 9 #[.slice (some (blk ww8.heap.size)) 1 1] ww15 fun ee17 ww18 => ∃ (light16 : Bool), ee17 = .returned (.bool light16) ∧
  bif !light16 then (
  Calls Try.prog 10 #[] ww18 fun ee20 ww21 => ∃ (alive19 : Bool), ee20 = .returned (.bool alive19) ∧
  R (.bool alive19) ww21) else (
  bif decide ((b7n : Int) > 500) then (
  Calls Try.prog 10 #[] ww18 fun ee23 ww24 => ∃ (alive22 : Bool), ee23 = .returned (.bool alive22) ∧
  R (.bool alive22) ww24) else (
  ∃ (xKind25 : Int) (xWho26 : Int) (xPublic27 : Int) (xLimit28 : Int) (xWraps29a : Option Addr) (xWraps29n : Nat) (xWraps29c : Nat) (xOld30a : Option Addr) (xOld30n : Nat) (xOld30c : Nat), cellsAt ww18 (blk w.heap.size) [.int .i64 xKind25, .int .i64 xWho26, .int .u64 xPublic27, .int .i64 xLimit28, .slice xWraps29a xWraps29n xWraps29c, .slice xOld30a xOld30n xOld30c] 0 ∧
  Calls Try.prog 13 #[.agg #[.int .i64 xKind25, .int .i64 xWho26, .int .u64 xPublic27, .int .i64 xLimit28, .slice xWraps29a xWraps29n xWraps29c, .slice xOld30a xOld30n xOld30c]] ww18 fun ee37 ww38 => ∃ (Kind31 : Int) (Who32 : Int) (Public33 : Int) (Limit34 : Int) (Wraps35a : Option Addr) (Wraps35n : Nat) (Wraps35c : Nat) (Old36a : Option Addr) (Old36n : Nat) (Old36c : Nat), ee37 = .returned (.agg #[.int .i64 Kind31, .int .i64 Who32, .int .u64 Public33, .int .i64 Limit34, .slice Wraps35a Wraps35n Wraps35c, .slice Old36a Old36n Old36c]) ∧
  Calls Try.prog 27 #[.agg #[.int .i64 Kind31, .int .i64 Who32, .int .u64 Public33, .int .i64 Limit34, .slice Wraps35a Wraps35n Wraps35c, .slice Old36a Old36n Old36c]] ww38 fun ee41 ww42 => ∃ (bytes39a : Option Addr) (bytes39n : Nat) (bytes39c : Nat) (bytes40 : Int), ee41 = .returned (.tuple #[.slice bytes39a bytes39n bytes39c, .int .i64 bytes40]) ∧
  ∃ (xKind43 : Int) (xWho44 : Int) (xPublic45 : Int) (xLimit46 : Int) (xWraps47a : Option Addr) (xWraps47n : Nat) (xWraps47c : Nat) (xOld48a : Option Addr) (xOld48n : Nat) (xOld48c : Nat), cellsAt ww42 (blk w.heap.size) [.int .i64 xKind43, .int .i64 xWho44, .int .u64 xPublic45, .int .i64 xLimit46, .slice xWraps47a xWraps47n xWraps47c, .slice xOld48a xOld48n xOld48c] 0 ∧
  Calls Try.prog 13 #[.agg #[.int .i64 xKind43, .int .i64 xWho44, .int .u64 xPublic45, .int .i64 xLimit46, .slice xWraps47a xWraps47n xWraps47c, .slice xOld48a xOld48n xOld48c]] ww42 fun ee55 ww56 => ∃ (Kind49 : Int) (Who50 : Int) (Public51 : Int) (Limit52 : Int) (Wraps53a : Option Addr) (Wraps53n : Nat) (Wraps53c : Nat) (Old54a : Option Addr) (Old54n : Nat) (Old54c : Nat), ee55 = .returned (.agg #[.int .i64 Kind49, .int .i64 Who50, .int .u64 Public51, .int .i64 Limit52, .slice Wraps53a Wraps53n Wraps53c, .slice Old54a Old54n Old54c]) ∧
  Calls Try.prog 31 #[.agg #[.int .i64 Kind49, .int .i64 Who50, .int .u64 Public51, .int .i64 Limit52, .slice Wraps53a Wraps53n Wraps53c, .slice Old54a Old54n Old54c]] ww56 fun ee58 ww59 => ∃ (right57 : Bool), ee58 = .returned (.bool right57) ∧
  bif !((bytes40 == 0) == right57) then (
  R (.bool false) ww59) else (
  bif bytes40 == 0 then (
  Calls Try.prog 29 #[.slice bytes39a bytes39n bytes39c] ww59 fun ee67 ww68 => ∃ (Kind60 : Int) (Who61 : Int) (Public62 : Int) (Limit63 : Int) (Wraps64a : Option Addr) (Wraps64n : Nat) (Wraps64c : Nat) (Old65a : Option Addr) (Old65n : Nat) (Old65c : Nat) (read66 : Int), ee67 = .returned (.tuple #[.agg #[.int .i64 Kind60, .int .i64 Who61, .int .u64 Public62, .int .i64 Limit63, .slice Wraps64a Wraps64n Wraps64c, .slice Old65a Old65n Old65c], .int .i64 read66]) ∧
  thenW (ww68.alloc (.cells #[.int .i64 0, .int .i64 0, .int .u64 0, .int .i64 0, .slice none 0 0, .slice none 0 0] 36)) fun ww69 =>
  canStore ww69 ((blk ww68.heap.size).add 0) ∧
  thenW (ww69.setCell ((blk ww68.heap.size).add 0) (.int .i64 Kind60)) fun ww70 =>
  canStore ww70 ((blk ww68.heap.size).add 1) ∧
  thenW (ww70.setCell ((blk ww68.heap.size).add 1) (.int .i64 Who61)) fun ww71 =>
  canStore ww71 ((blk ww68.heap.size).add 2) ∧
  thenW (ww71.setCell ((blk ww68.heap.size).add 2) (.int .u64 Public62)) fun ww72 =>
  canStore ww72 ((blk ww68.heap.size).add 3) ∧
  thenW (ww72.setCell ((blk ww68.heap.size).add 3) (.int .i64 Limit63)) fun ww73 =>
  canStore ww73 ((blk ww68.heap.size).add 4) ∧
  thenW (ww73.setCell ((blk ww68.heap.size).add 4) (.slice Wraps64a Wraps64n Wraps64c)) fun ww74 =>
  canStore ww74 ((blk ww68.heap.size).add 5) ∧
  thenW (ww74.setCell ((blk ww68.heap.size).add 5) (.slice Old65a Old65n Old65c)) fun ww75 =>
  thenW (ww75.drew) fun ww76 =>
  bif read66 != 0 then (
  R (.bool false) ww76) else (
  ∃ (xKind77 : Int) (xWho78 : Int) (xPublic79 : Int) (xLimit80 : Int) (xWraps81a : Option Addr) (xWraps81n : Nat) (xWraps81c : Nat) (xOld82a : Option Addr) (xOld82n : Nat) (xOld82c : Nat), cellsAt ww76 (blk ww68.heap.size) [.int .i64 xKind77, .int .i64 xWho78, .int .u64 xPublic79, .int .i64 xLimit80, .slice xWraps81a xWraps81n xWraps81c, .slice xOld82a xOld82n xOld82c] 0 ∧
  ∃ (xKind83 : Int) (xWho84 : Int) (xPublic85 : Int) (xLimit86 : Int) (xWraps87a : Option Addr) (xWraps87n : Nat) (xWraps87c : Nat) (xOld88a : Option Addr) (xOld88n : Nat) (xOld88c : Nat), cellsAt ww76 (blk w.heap.size) [.int .i64 xKind83, .int .i64 xWho84, .int .u64 xPublic85, .int .i64 xLimit86, .slice xWraps87a xWraps87n xWraps87c, .slice xOld88a xOld88n xOld88c] 0 ∧
  Calls Try.prog 35 #[.agg #[.int .i64 xKind77, .int .i64 xWho78, .int .u64 xPublic79, .int .i64 xLimit80, .slice xWraps81a xWraps81n xWraps81c, .slice xOld82a xOld82n xOld82c]] ww76 fun ee95 ww96 => ∃ (Kind89 : Int) (Who90 : Int) (Public91 : Int) (Limit92 : Int) (Wraps93a : Option Addr) (Wraps93n : Nat) (Wraps93c : Nat) (Old94a : Option Addr) (Old94n : Nat) (Old94c : Nat), ee95 = .returned (.agg #[.int .i64 Kind89, .int .i64 Who90, .int .u64 Public91, .int .i64 Limit92, .slice Wraps93a Wraps93n Wraps93c, .slice Old94a Old94n Old94c]) ∧
  cellsAt ww96 (blk w.heap.size) [.int .i64 xKind83, .int .i64 xWho84, .int .u64 xPublic85, .int .i64 xLimit86, .slice xWraps87a xWraps87n xWraps87c, .slice xOld88a xOld88n xOld88c] 0 ∧
  Calls Try.prog 34 #[.agg #[.int .i64 Kind89, .int .i64 Who90, .int .u64 Public91, .int .i64 Limit92, .slice Wraps93a Wraps93n Wraps93c, .slice Old94a Old94n Old94c], .agg #[.int .i64 xKind83, .int .i64 xWho84, .int .u64 xPublic85, .int .i64 xLimit86, .slice xWraps87a xWraps87n xWraps87c, .slice xOld88a xOld88n xOld88c]] ww96 fun ee98 ww99 => ∃ (changes97 : Bool), ee98 = .returned (.bool changes97) ∧
  bif !changes97 then (
  R (.bool false) ww99) else (
  Calls Try.prog 29 #[.slice b7a b7n b7c] ww99 fun ee107 ww108 => ∃ (Kind100 : Int) (Who101 : Int) (Public102 : Int) (Limit103 : Int) (Wraps104a : Option Addr) (Wraps104n : Nat) (Wraps104c : Nat) (Old105a : Option Addr) (Old105n : Nat) (Old105c : Nat) (read106 : Int), ee107 = .returned (.tuple #[.agg #[.int .i64 Kind100, .int .i64 Who101, .int .u64 Public102, .int .i64 Limit103, .slice Wraps104a Wraps104n Wraps104c, .slice Old105a Old105n Old105c], .int .i64 read106]) ∧
  thenW (ww108.alloc (.cells #[.int .i64 0, .int .i64 0, .int .u64 0, .int .i64 0, .slice none 0 0, .slice none 0 0] 36)) fun ww109 =>
  canStore ww109 ((blk ww108.heap.size).add 0) ∧
  thenW (ww109.setCell ((blk ww108.heap.size).add 0) (.int .i64 Kind100)) fun ww110 =>
  canStore ww110 ((blk ww108.heap.size).add 1) ∧
  thenW (ww110.setCell ((blk ww108.heap.size).add 1) (.int .i64 Who101)) fun ww111 =>
  canStore ww111 ((blk ww108.heap.size).add 2) ∧
  thenW (ww111.setCell ((blk ww108.heap.size).add 2) (.int .u64 Public102)) fun ww112 =>
  canStore ww112 ((blk ww108.heap.size).add 3) ∧
  thenW (ww112.setCell ((blk ww108.heap.size).add 3) (.int .i64 Limit103)) fun ww113 =>
  canStore ww113 ((blk ww108.heap.size).add 4) ∧
  thenW (ww113.setCell ((blk ww108.heap.size).add 4) (.slice Wraps104a Wraps104n Wraps104c)) fun ww114 =>
  canStore ww114 ((blk ww108.heap.size).add 5) ∧
  thenW (ww114.setCell ((blk ww108.heap.size).add 5) (.slice Old105a Old105n Old105c)) fun ww115 =>
  bif read106 != 0 then (
  ∃ (xKind116 : Int) (xWho117 : Int) (xPublic118 : Int) (xLimit119 : Int) (xWraps120a : Option Addr) (xWraps120n : Nat) (xWraps120c : Nat) (xOld121a : Option Addr) (xOld121n : Nat) (xOld121c : Nat), cellsAt ww115 (blk ww108.heap.size) [.int .i64 xKind116, .int .i64 xWho117, .int .u64 xPublic118, .int .i64 xLimit119, .slice xWraps120a xWraps120n xWraps120c, .slice xOld121a xOld121n xOld121c] 0 ∧
  Calls Try.prog 35 #[.agg #[.int .i64 xKind116, .int .i64 xWho117, .int .u64 xPublic118, .int .i64 xLimit119, .slice xWraps120a xWraps120n xWraps120c, .slice xOld121a xOld121n xOld121c]] ww115 fun ee128 ww129 => ∃ (Kind122 : Int) (Who123 : Int) (Public124 : Int) (Limit125 : Int) (Wraps126a : Option Addr) (Wraps126n : Nat) (Wraps126c : Nat) (Old127a : Option Addr) (Old127n : Nat) (Old127c : Nat), ee128 = .returned (.agg #[.int .i64 Kind122, .int .i64 Who123, .int .u64 Public124, .int .i64 Limit125, .slice Wraps126a Wraps126n Wraps126c, .slice Old127a Old127n Old127c]) ∧
  Calls Try.prog 34 #[.agg #[.int .i64 Kind122, .int .i64 Who123, .int .u64 Public124, .int .i64 Limit125, .slice Wraps126a Wraps126n Wraps126c, .slice Old127a Old127n Old127c], .agg #[.int .i64 0, .int .i64 0, .int .u64 0, .int .i64 0, .slice none 0 0, .slice none 0 0]] ww129 fun ee131 ww132 => ∃ (changes130 : Bool), ee131 = .returned (.bool changes130) ∧
  bif changes130 then (
  Calls Try.prog 10 #[] ww132 fun ee134 ww135 => ∃ (alive133 : Bool), ee134 = .returned (.bool alive133) ∧
  R (.bool alive133) ww135) else (
  R (.bool false) ww132)) else (
  ∃ (xKind136 : Int) (xWho137 : Int) (xPublic138 : Int) (xLimit139 : Int) (xWraps140a : Option Addr) (xWraps140n : Nat) (xWraps140c : Nat) (xOld141a : Option Addr) (xOld141n : Nat) (xOld141c : Nat), cellsAt ww115 (blk ww108.heap.size) [.int .i64 xKind136, .int .i64 xWho137, .int .u64 xPublic138, .int .i64 xLimit139, .slice xWraps140a xWraps140n xWraps140c, .slice xOld141a xOld141n xOld141c] 0 ∧
  Calls Try.prog 27 #[.agg #[.int .i64 xKind136, .int .i64 xWho137, .int .u64 xPublic138, .int .i64 xLimit139, .slice xWraps140a xWraps140n xWraps140c, .slice xOld141a xOld141n xOld141c]] ww115 fun ee144 ww145 => ∃ (bytes142a : Option Addr) (bytes142n : Nat) (bytes142c : Nat) (bytes143 : Int), ee144 = .returned (.tuple #[.slice bytes142a bytes142n bytes142c, .int .i64 bytes143]) ∧
  bif bytes143 == 0 then (
  Calls Try.prog 33 #[.slice bytes142a bytes142n bytes142c, .slice b7a b7n b7c] ww145 fun ee147 ww148 => ∃ (same146 : Bool), ee147 = .returned (.bool same146) ∧
  bif same146 then (
  Calls Try.prog 10 #[] ww148 fun ee150 ww151 => ∃ (alive149 : Bool), ee150 = .returned (.bool alive149) ∧
  R (.bool alive149) ww151) else (
  R (.bool false) ww148)) else (
  R (.bool false) ww145))))) else (
  Calls Try.prog 29 #[.slice b7a b7n b7c] ww59 fun ee159 ww160 => ∃ (Kind152 : Int) (Who153 : Int) (Public154 : Int) (Limit155 : Int) (Wraps156a : Option Addr) (Wraps156n : Nat) (Wraps156c : Nat) (Old157a : Option Addr) (Old157n : Nat) (Old157c : Nat) (read158 : Int), ee159 = .returned (.tuple #[.agg #[.int .i64 Kind152, .int .i64 Who153, .int .u64 Public154, .int .i64 Limit155, .slice Wraps156a Wraps156n Wraps156c, .slice Old157a Old157n Old157c], .int .i64 read158]) ∧
  thenW (ww160.alloc (.cells #[.int .i64 0, .int .i64 0, .int .u64 0, .int .i64 0, .slice none 0 0, .slice none 0 0] 36)) fun ww161 =>
  canStore ww161 ((blk ww160.heap.size).add 0) ∧
  thenW (ww161.setCell ((blk ww160.heap.size).add 0) (.int .i64 Kind152)) fun ww162 =>
  canStore ww162 ((blk ww160.heap.size).add 1) ∧
  thenW (ww162.setCell ((blk ww160.heap.size).add 1) (.int .i64 Who153)) fun ww163 =>
  canStore ww163 ((blk ww160.heap.size).add 2) ∧
  thenW (ww163.setCell ((blk ww160.heap.size).add 2) (.int .u64 Public154)) fun ww164 =>
  canStore ww164 ((blk ww160.heap.size).add 3) ∧
  thenW (ww164.setCell ((blk ww160.heap.size).add 3) (.int .i64 Limit155)) fun ww165 =>
  canStore ww165 ((blk ww160.heap.size).add 4) ∧
  thenW (ww165.setCell ((blk ww160.heap.size).add 4) (.slice Wraps156a Wraps156n Wraps156c)) fun ww166 =>
  canStore ww166 ((blk ww160.heap.size).add 5) ∧
  thenW (ww166.setCell ((blk ww160.heap.size).add 5) (.slice Old157a Old157n Old157c)) fun ww167 =>
  bif read158 != 0 then (
  ∃ (xKind168 : Int) (xWho169 : Int) (xPublic170 : Int) (xLimit171 : Int) (xWraps172a : Option Addr) (xWraps172n : Nat) (xWraps172c : Nat) (xOld173a : Option Addr) (xOld173n : Nat) (xOld173c : Nat), cellsAt ww167 (blk ww160.heap.size) [.int .i64 xKind168, .int .i64 xWho169, .int .u64 xPublic170, .int .i64 xLimit171, .slice xWraps172a xWraps172n xWraps172c, .slice xOld173a xOld173n xOld173c] 0 ∧
  Calls Try.prog 35 #[.agg #[.int .i64 xKind168, .int .i64 xWho169, .int .u64 xPublic170, .int .i64 xLimit171, .slice xWraps172a xWraps172n xWraps172c, .slice xOld173a xOld173n xOld173c]] ww167 fun ee180 ww181 => ∃ (Kind174 : Int) (Who175 : Int) (Public176 : Int) (Limit177 : Int) (Wraps178a : Option Addr) (Wraps178n : Nat) (Wraps178c : Nat) (Old179a : Option Addr) (Old179n : Nat) (Old179c : Nat), ee180 = .returned (.agg #[.int .i64 Kind174, .int .i64 Who175, .int .u64 Public176, .int .i64 Limit177, .slice Wraps178a Wraps178n Wraps178c, .slice Old179a Old179n Old179c]) ∧
  Calls Try.prog 34 #[.agg #[.int .i64 Kind174, .int .i64 Who175, .int .u64 Public176, .int .i64 Limit177, .slice Wraps178a Wraps178n Wraps178c, .slice Old179a Old179n Old179c], .agg #[.int .i64 0, .int .i64 0, .int .u64 0, .int .i64 0, .slice none 0 0, .slice none 0 0]] ww181 fun ee183 ww184 => ∃ (changes182 : Bool), ee183 = .returned (.bool changes182) ∧
  bif changes182 then (
  Calls Try.prog 10 #[] ww184 fun ee186 ww187 => ∃ (alive185 : Bool), ee186 = .returned (.bool alive185) ∧
  R (.bool alive185) ww187) else (
  R (.bool false) ww184)) else (
  ∃ (xKind188 : Int) (xWho189 : Int) (xPublic190 : Int) (xLimit191 : Int) (xWraps192a : Option Addr) (xWraps192n : Nat) (xWraps192c : Nat) (xOld193a : Option Addr) (xOld193n : Nat) (xOld193c : Nat), cellsAt ww167 (blk ww160.heap.size) [.int .i64 xKind188, .int .i64 xWho189, .int .u64 xPublic190, .int .i64 xLimit191, .slice xWraps192a xWraps192n xWraps192c, .slice xOld193a xOld193n xOld193c] 0 ∧
  Calls Try.prog 27 #[.agg #[.int .i64 xKind188, .int .i64 xWho189, .int .u64 xPublic190, .int .i64 xLimit191, .slice xWraps192a xWraps192n xWraps192c, .slice xOld193a xOld193n xOld193c]] ww167 fun ee196 ww197 => ∃ (bytes194a : Option Addr) (bytes194n : Nat) (bytes194c : Nat) (bytes195 : Int), ee196 = .returned (.tuple #[.slice bytes194a bytes194n bytes194c, .int .i64 bytes195]) ∧
  bif bytes195 == 0 then (
  Calls Try.prog 33 #[.slice bytes194a bytes194n bytes194c, .slice b7a b7n b7c] ww197 fun ee199 ww200 => ∃ (same198 : Bool), ee199 = .returned (.bool same198) ∧
  bif same198 then (
  Calls Try.prog 10 #[] ww200 fun ee202 ww203 => ∃ (alive201 : Bool), ee202 = .returned (.bool alive201) ∧
  R (.bool alive201) ww203) else (
  R (.bool false) ww200)) else (
  R (.bool false) ww197))))))

theorem cachettelaw12_MembersBack.eq (cKind1 : Int) (cWho2 : Int) (cPublic3 : Int) (cLimit4 : Int) (cWraps5a : Option Addr) (cWraps5n : Nat) (cWraps5c : Nat) (cOld6a : Option Addr) (cOld6n : Nat) (cOld6c : Nat) (b7a : Option Addr) (b7n : Nat) (b7c : Nat) (R : Value → World → Prop) (w : World) : mfunc Try.prog [] 8 [.agg #[.int .i64 cKind1, .int .i64 cWho2, .int .u64 cPublic3, .int .i64 cLimit4, .slice cWraps5a cWraps5n cWraps5c, .slice cOld6a cOld6n cOld6c], .slice b7a b7n b7c] R w = cachettelaw12_MembersBack.M cKind1 cWho2 cPublic3 cLimit4 cWraps5a cWraps5n cWraps5c cOld6a cOld6n cOld6c b7a b7n b7c R w := by kernel_rfl
theorem cachettelaw12_MembersBack.ok (cKind1 : Int) (cWho2 : Int) (cPublic3 : Int) (cLimit4 : Int) (cWraps5a : Option Addr) (cWraps5n : Nat) (cWraps5c : Nat) (cOld6a : Option Addr) (cOld6n : Nat) (cOld6c : Nat) (b7a : Option Addr) (b7n : Nat) (b7c : Nat) {R : Value → World → Prop} {w : World} (h : cachettelaw12_MembersBack.M cKind1 cWho2 cPublic3 cLimit4 cWraps5a cWraps5n cWraps5c cOld6a cOld6n cOld6c b7a b7n b7c R w) : Calls Try.prog 8 #[.agg #[.int .i64 cKind1, .int .i64 cWho2, .int .u64 cPublic3, .int .i64 cLimit4, .slice cWraps5a cWraps5n cWraps5c, .slice cOld6a cOld6n cOld6c], .slice b7a b7n b7c] w fun e w' => ∃ v, e = .returned v ∧ R v w' :=
  mfunc_ok follows (H := []) (args := [.agg #[.int .i64 cKind1, .int .i64 cWho2, .int .u64 cPublic3, .int .i64 cLimit4, .slice cWraps5a cWraps5n cWraps5c, .slice cOld6a cOld6n cOld6c], .slice b7a b7n b7c]) (by rw [cachettelaw12_MembersBack.eq]; exact h)

def cachettelaw12_MembersBack.N (cKind1 : Int) (cWho2 : Int) (cPublic3 : Int) (cLimit4 : Int) (cWraps5a : Option Addr) (cWraps5n : Nat) (cWraps5c : Nat) (cOld6a : Option Addr) (cOld6n : Nat) (cOld6c : Nat) (b7a : Option Addr) (b7n : Nat) (b7c : Nat) (R : Value → World → Prop) (w : World) : Prop :=
  ∀ (ww9 : World) (q10 : Nat) (p11 : Nat), Ext no w ww9 → Blk ww9 q10 40 [.int .i64 cKind1, .int .i64 cWho2, .int .u64 cPublic3, .int .i64 cLimit4, .slice cWraps5a cWraps5n cWraps5c, .slice cOld6a cOld6n cOld6c] → w.heap.size ≤ q10 → q10 < ww9.heap.size → Privq w q10 [p11] →
  Calls Try.prog 9 #[.slice (some (blk q10)) 1 1] ww9 fun ee13 ww14 => ∃ (light12 : Bool), ee13 = .returned (.bool light12) ∧
  Keep [p11] ww9 ww14 ∧
  (light12 = false →
    Calls Try.prog 10 #[] ww14 fun ee17 ww18 => ∃ (alive16 : Bool), ee17 = .returned (.bool alive16) ∧
    R (.bool alive16) ww18) ∧
  (light12 = true →
    ((b7n : Int) > 500 →
      Calls Try.prog 10 #[] ww14 fun ee21 ww22 => ∃ (alive20 : Bool), ee21 = .returned (.bool alive20) ∧
      R (.bool alive20) ww22) ∧
    ((b7n : Int) ≤ 500 →
      Calls Try.prog 13 #[.agg #[.int .i64 cKind1, .int .i64 cWho2, .int .u64 cPublic3, .int .i64 cLimit4, .slice cWraps5a cWraps5n cWraps5c, .slice cOld6a cOld6n cOld6c]] ww14 fun ee29 ww30 => ∃ (Kind23 : Int) (Who24 : Int) (Public25 : Int) (Limit26 : Int) (Wraps27a : Option Addr) (Wraps27n : Nat) (Wraps27c : Nat) (Old28a : Option Addr) (Old28n : Nat) (Old28c : Nat), ee29 = .returned (.agg #[.int .i64 Kind23, .int .i64 Who24, .int .u64 Public25, .int .i64 Limit26, .slice Wraps27a Wraps27n Wraps27c, .slice Old28a Old28n Old28c]) ∧
      Keep [p11] ww14 ww30 ∧
      Calls Try.prog 27 #[.agg #[.int .i64 Kind23, .int .i64 Who24, .int .u64 Public25, .int .i64 Limit26, .slice Wraps27a Wraps27n Wraps27c, .slice Old28a Old28n Old28c]] ww30 fun ee33 ww34 => ∃ (bytes31a : Option Addr) (bytes31n : Nat) (bytes31c : Nat) (bytes32 : Int), ee33 = .returned (.tuple #[.slice bytes31a bytes31n bytes31c, .int .i64 bytes32]) ∧
      Keep [p11] ww30 ww34 ∧
      Calls Try.prog 13 #[.agg #[.int .i64 cKind1, .int .i64 cWho2, .int .u64 cPublic3, .int .i64 cLimit4, .slice cWraps5a cWraps5n cWraps5c, .slice cOld6a cOld6n cOld6c]] ww34 fun ee41 ww42 => ∃ (Kind35 : Int) (Who36 : Int) (Public37 : Int) (Limit38 : Int) (Wraps39a : Option Addr) (Wraps39n : Nat) (Wraps39c : Nat) (Old40a : Option Addr) (Old40n : Nat) (Old40c : Nat), ee41 = .returned (.agg #[.int .i64 Kind35, .int .i64 Who36, .int .u64 Public37, .int .i64 Limit38, .slice Wraps39a Wraps39n Wraps39c, .slice Old40a Old40n Old40c]) ∧
      Keep [p11] ww34 ww42 ∧
      Calls Try.prog 31 #[.agg #[.int .i64 Kind35, .int .i64 Who36, .int .u64 Public37, .int .i64 Limit38, .slice Wraps39a Wraps39n Wraps39c, .slice Old40a Old40n Old40c]] ww42 fun ee44 ww45 => ∃ (right43 : Bool), ee44 = .returned (.bool right43) ∧
      Keep [p11] ww42 ww45 ∧
      ((bytes32 == 0) ≠ right43 →
        R (.bool false) ww45) ∧
      ((bytes32 == 0) = right43 →
        (bytes32 = 0 →
          Calls Try.prog 29 #[.slice bytes31a bytes31n bytes31c] ww45 fun ee55 ww56 => ∃ (Kind48 : Int) (Who49 : Int) (Public50 : Int) (Limit51 : Int) (Wraps52a : Option Addr) (Wraps52n : Nat) (Wraps52c : Nat) (Old53a : Option Addr) (Old53n : Nat) (Old53c : Nat) (read54 : Int), ee55 = .returned (.tuple #[.agg #[.int .i64 Kind48, .int .i64 Who49, .int .u64 Public50, .int .i64 Limit51, .slice Wraps52a Wraps52n Wraps52c, .slice Old53a Old53n Old53c], .int .i64 read54]) ∧
          Keep [p11] ww45 ww56 ∧
          (read54 ≠ 0 →
            ∀ (ww64 : World), Ext no ww56 ww64 →
            R (.bool false) ww64) ∧
          (read54 = 0 →
            ∀ (ww64 : World), Ext no ww56 ww64 →
            Calls Try.prog 35 #[.agg #[.int .i64 Kind48, .int .i64 Who49, .int .u64 Public50, .int .i64 Limit51, .slice Wraps52a Wraps52n Wraps52c, .slice Old53a Old53n Old53c]] ww64 fun ee74 ww75 => ∃ (Kind68 : Int) (Who69 : Int) (Public70 : Int) (Limit71 : Int) (Wraps72a : Option Addr) (Wraps72n : Nat) (Wraps72c : Nat) (Old73a : Option Addr) (Old73n : Nat) (Old73c : Nat), ee74 = .returned (.agg #[.int .i64 Kind68, .int .i64 Who69, .int .u64 Public70, .int .i64 Limit71, .slice Wraps72a Wraps72n Wraps72c, .slice Old73a Old73n Old73c]) ∧
            Keep [p11] ww64 ww75 ∧
            Calls Try.prog 34 #[.agg #[.int .i64 Kind68, .int .i64 Who69, .int .u64 Public70, .int .i64 Limit71, .slice Wraps72a Wraps72n Wraps72c, .slice Old73a Old73n Old73c], .agg #[.int .i64 cKind1, .int .i64 cWho2, .int .u64 cPublic3, .int .i64 cLimit4, .slice cWraps5a cWraps5n cWraps5c, .slice cOld6a cOld6n cOld6c]] ww75 fun ee77 ww78 => ∃ (changes76 : Bool), ee77 = .returned (.bool changes76) ∧
            (changes76 = false →
              R (.bool false) ww78) ∧
            (changes76 = true →
              Calls Try.prog 29 #[.slice b7a b7n b7c] ww78 fun ee87 ww88 => ∃ (Kind80 : Int) (Who81 : Int) (Public82 : Int) (Limit83 : Int) (Wraps84a : Option Addr) (Wraps84n : Nat) (Wraps84c : Nat) (Old85a : Option Addr) (Old85n : Nat) (Old85c : Nat) (read86 : Int), ee87 = .returned (.tuple #[.agg #[.int .i64 Kind80, .int .i64 Who81, .int .u64 Public82, .int .i64 Limit83, .slice Wraps84a Wraps84n Wraps84c, .slice Old85a Old85n Old85c], .int .i64 read86]) ∧
              (read86 ≠ 0 →
                ∀ (ww95 : World), Ext no ww88 ww95 →
                Calls Try.prog 35 #[.agg #[.int .i64 Kind80, .int .i64 Who81, .int .u64 Public82, .int .i64 Limit83, .slice Wraps84a Wraps84n Wraps84c, .slice Old85a Old85n Old85c]] ww95 fun ee104 ww105 => ∃ (Kind98 : Int) (Who99 : Int) (Public100 : Int) (Limit101 : Int) (Wraps102a : Option Addr) (Wraps102n : Nat) (Wraps102c : Nat) (Old103a : Option Addr) (Old103n : Nat) (Old103c : Nat), ee104 = .returned (.agg #[.int .i64 Kind98, .int .i64 Who99, .int .u64 Public100, .int .i64 Limit101, .slice Wraps102a Wraps102n Wraps102c, .slice Old103a Old103n Old103c]) ∧
                Calls Try.prog 34 #[.agg #[.int .i64 Kind98, .int .i64 Who99, .int .u64 Public100, .int .i64 Limit101, .slice Wraps102a Wraps102n Wraps102c, .slice Old103a Old103n Old103c], .agg #[.int .i64 0, .int .i64 0, .int .u64 0, .int .i64 0, .slice none 0 0, .slice none 0 0]] ww105 fun ee107 ww108 => ∃ (changes106 : Bool), ee107 = .returned (.bool changes106) ∧
                (changes106 = true →
                  Calls Try.prog 10 #[] ww108 fun ee111 ww112 => ∃ (alive110 : Bool), ee111 = .returned (.bool alive110) ∧
                  R (.bool alive110) ww112) ∧
                (changes106 = false →
                  R (.bool false) ww108)) ∧
              (read86 = 0 →
                ∀ (ww95 : World), Ext no ww88 ww95 →
                Calls Try.prog 27 #[.agg #[.int .i64 Kind80, .int .i64 Who81, .int .u64 Public82, .int .i64 Limit83, .slice Wraps84a Wraps84n Wraps84c, .slice Old85a Old85n Old85c]] ww95 fun ee116 ww117 => ∃ (bytes114a : Option Addr) (bytes114n : Nat) (bytes114c : Nat) (bytes115 : Int), ee116 = .returned (.tuple #[.slice bytes114a bytes114n bytes114c, .int .i64 bytes115]) ∧
                (bytes115 = 0 →
                  Calls Try.prog 33 #[.slice bytes114a bytes114n bytes114c, .slice b7a b7n b7c] ww117 fun ee120 ww121 => ∃ (same119 : Bool), ee120 = .returned (.bool same119) ∧
                  (same119 = true →
                    Calls Try.prog 10 #[] ww121 fun ee124 ww125 => ∃ (alive123 : Bool), ee124 = .returned (.bool alive123) ∧
                    R (.bool alive123) ww125) ∧
                  (same119 = false →
                    R (.bool false) ww121)) ∧
                (bytes115 ≠ 0 →
                  R (.bool false) ww117))))) ∧
        (bytes32 ≠ 0 →
          Calls Try.prog 29 #[.slice b7a b7n b7c] ww45 fun ee133 ww134 => ∃ (Kind126 : Int) (Who127 : Int) (Public128 : Int) (Limit129 : Int) (Wraps130a : Option Addr) (Wraps130n : Nat) (Wraps130c : Nat) (Old131a : Option Addr) (Old131n : Nat) (Old131c : Nat) (read132 : Int), ee133 = .returned (.tuple #[.agg #[.int .i64 Kind126, .int .i64 Who127, .int .u64 Public128, .int .i64 Limit129, .slice Wraps130a Wraps130n Wraps130c, .slice Old131a Old131n Old131c], .int .i64 read132]) ∧
          (read132 ≠ 0 →
            ∀ (ww141 : World), Ext no ww134 ww141 →
            Calls Try.prog 35 #[.agg #[.int .i64 Kind126, .int .i64 Who127, .int .u64 Public128, .int .i64 Limit129, .slice Wraps130a Wraps130n Wraps130c, .slice Old131a Old131n Old131c]] ww141 fun ee150 ww151 => ∃ (Kind144 : Int) (Who145 : Int) (Public146 : Int) (Limit147 : Int) (Wraps148a : Option Addr) (Wraps148n : Nat) (Wraps148c : Nat) (Old149a : Option Addr) (Old149n : Nat) (Old149c : Nat), ee150 = .returned (.agg #[.int .i64 Kind144, .int .i64 Who145, .int .u64 Public146, .int .i64 Limit147, .slice Wraps148a Wraps148n Wraps148c, .slice Old149a Old149n Old149c]) ∧
            Calls Try.prog 34 #[.agg #[.int .i64 Kind144, .int .i64 Who145, .int .u64 Public146, .int .i64 Limit147, .slice Wraps148a Wraps148n Wraps148c, .slice Old149a Old149n Old149c], .agg #[.int .i64 0, .int .i64 0, .int .u64 0, .int .i64 0, .slice none 0 0, .slice none 0 0]] ww151 fun ee153 ww154 => ∃ (changes152 : Bool), ee153 = .returned (.bool changes152) ∧
            (changes152 = true →
              Calls Try.prog 10 #[] ww154 fun ee157 ww158 => ∃ (alive156 : Bool), ee157 = .returned (.bool alive156) ∧
              R (.bool alive156) ww158) ∧
            (changes152 = false →
              R (.bool false) ww154)) ∧
          (read132 = 0 →
            ∀ (ww141 : World), Ext no ww134 ww141 →
            Calls Try.prog 27 #[.agg #[.int .i64 Kind126, .int .i64 Who127, .int .u64 Public128, .int .i64 Limit129, .slice Wraps130a Wraps130n Wraps130c, .slice Old131a Old131n Old131c]] ww141 fun ee162 ww163 => ∃ (bytes160a : Option Addr) (bytes160n : Nat) (bytes160c : Nat) (bytes161 : Int), ee162 = .returned (.tuple #[.slice bytes160a bytes160n bytes160c, .int .i64 bytes161]) ∧
            (bytes161 = 0 →
              Calls Try.prog 33 #[.slice bytes160a bytes160n bytes160c, .slice b7a b7n b7c] ww163 fun ee166 ww167 => ∃ (same165 : Bool), ee166 = .returned (.bool same165) ∧
              (same165 = true →
                Calls Try.prog 10 #[] ww167 fun ee170 ww171 => ∃ (alive169 : Bool), ee170 = .returned (.bool alive169) ∧
                R (.bool alive169) ww171) ∧
              (same165 = false →
                R (.bool false) ww167)) ∧
            (bytes161 ≠ 0 →
              R (.bool false) ww163))))))

theorem cachettelaw12_MembersBack.up (cKind1 : Int) (cWho2 : Int) (cPublic3 : Int) (cLimit4 : Int) (cWraps5a : Option Addr) (cWraps5n : Nat) (cWraps5c : Nat) (cOld6a : Option Addr) (cOld6n : Nat) (cOld6c : Nat) (b7a : Option Addr) (b7n : Nat) (b7c : Nat) {R : Value → World → Prop} {w : World} (h : cachettelaw12_MembersBack.N cKind1 cWho2 cPublic3 cLimit4 cWraps5a cWraps5n cWraps5c cOld6a cOld6n cOld6c b7a b7n b7c R w) : cachettelaw12_MembersBack.M cKind1 cWho2 cPublic3 cLimit4 cWraps5a cWraps5n cWraps5c cOld6a cOld6n cOld6c b7a b7n b7c R w := by
  unfold cachettelaw12_MembersBack.M
  unfold cachettelaw12_MembersBack.N at h
  refine thenW_in fun ww8 e8 => ?_
  have hb1 := Blk.of_new e8
  have hg1 := ((Ext.refl no w)).size
  have hx8 := (Ext.refl no w).x_alloc e8
  refine ⟨cKind1, cWho2, cPublic3, cLimit4, cWraps5a, cWraps5n, cWraps5c, cOld6a, cOld6n, cOld6c, ⟨hb1.celli 0 rfl rfl, hb1.celli 1 rfl rfl, hb1.celli 2 rfl rfl, hb1.celli 3 rfl rfl, hb1.celli 4 rfl rfl, hb1.celli 5 rfl rfl, trivial⟩, ?_⟩
  refine thenW_in fun ww9 e9 => ?_
  have hl1 := hb1.lt
  have hb1 := hb1.x_alloc e9
  have h := h ww9 ww8.heap.size (w.heap.size) (hx8.x_alloc e9) (Blk.of_new e9) (hx8).size (size_lt_alloc e9) (Privq.cons hg1 hl1 Privq.nil)
  refine h.mono fun ee13 ww14 h => ?_
  obtain ⟨light12, he, hk, h⟩ := h
  refine ⟨light12, he, ?_⟩
  have hb1 := hk.blk hb1 (by simp)
  refine bif_of (fun c15 => ?_) (fun c15 => ?_)
  · have h := h.1 (not_t c15)
    refine h.mono fun ee17 ww18 h => ?_
    obtain ⟨alive16, he, h⟩ := h
    refine ⟨alive16, he, ?_⟩
    exact h
  · have h := h.2 (not_f c15)
    refine bif_of (fun c19 => ?_) (fun c19 => ?_)
    · have h := h.1 (of_decide_eq_true c19)
      refine h.mono fun ee21 ww22 h => ?_
      obtain ⟨alive20, he, h⟩ := h
      refine ⟨alive20, he, ?_⟩
      exact h
    · have h := h.2 (Int.not_lt.1 (of_decide_eq_false c19))
      refine ⟨cKind1, cWho2, cPublic3, cLimit4, cWraps5a, cWraps5n, cWraps5c, cOld6a, cOld6n, cOld6c, ⟨hb1.celli 0 rfl rfl, hb1.celli 1 rfl rfl, hb1.celli 2 rfl rfl, hb1.celli 3 rfl rfl, hb1.celli 4 rfl rfl, hb1.celli 5 rfl rfl, trivial⟩, ?_⟩
      refine h.mono fun ee29 ww30 h => ?_
      obtain ⟨Kind23, Who24, Public25, Limit26, Wraps27a, Wraps27n, Wraps27c, Old28a, Old28n, Old28c, he, hk, h⟩ := h
      refine ⟨Kind23, Who24, Public25, Limit26, Wraps27a, Wraps27n, Wraps27c, Old28a, Old28n, Old28c, he, ?_⟩
      have hb1 := hk.blk hb1 (by simp)
      refine h.mono fun ee33 ww34 h => ?_
      obtain ⟨bytes31a, bytes31n, bytes31c, bytes32, he, hk, h⟩ := h
      refine ⟨bytes31a, bytes31n, bytes31c, bytes32, he, ?_⟩
      have hb1 := hk.blk hb1 (by simp)
      refine ⟨cKind1, cWho2, cPublic3, cLimit4, cWraps5a, cWraps5n, cWraps5c, cOld6a, cOld6n, cOld6c, ⟨hb1.celli 0 rfl rfl, hb1.celli 1 rfl rfl, hb1.celli 2 rfl rfl, hb1.celli 3 rfl rfl, hb1.celli 4 rfl rfl, hb1.celli 5 rfl rfl, trivial⟩, ?_⟩
      refine h.mono fun ee41 ww42 h => ?_
      obtain ⟨Kind35, Who36, Public37, Limit38, Wraps39a, Wraps39n, Wraps39c, Old40a, Old40n, Old40c, he, hk, h⟩ := h
      refine ⟨Kind35, Who36, Public37, Limit38, Wraps39a, Wraps39n, Wraps39c, Old40a, Old40n, Old40c, he, ?_⟩
      have hb1 := hk.blk hb1 (by simp)
      refine h.mono fun ee44 ww45 h => ?_
      obtain ⟨right43, he, hk, h⟩ := h
      refine ⟨right43, he, ?_⟩
      have hb1 := hk.blk hb1 (by simp)
      refine bif_of (fun c46 => ?_) (fun c46 => ?_)
      · have h := h.1 (bbeq_f (not_t c46))
        exact h
      · have h := h.2 (bbeq_t (not_f c46))
        refine bif_of (fun c47 => ?_) (fun c47 => ?_)
        · have h := h.1 (beq_t c47)
          refine h.mono fun ee55 ww56 h => ?_
          obtain ⟨Kind48, Who49, Public50, Limit51, Wraps52a, Wraps52n, Wraps52c, Old53a, Old53n, Old53c, read54, he, hk, h⟩ := h
          refine ⟨Kind48, Who49, Public50, Limit51, Wraps52a, Wraps52n, Wraps52c, Old53a, Old53n, Old53c, read54, he, ?_⟩
          have hb1 := hk.blk hb1 (by simp)
          refine thenW_in fun ww57 e57 => ?_
          have hb2 := Blk.of_new e57
          have hg2 := ((Ext.refl no ww56)).size
          have hb1_2 := Nat.ne_of_lt hb1.lt
          have hb1 := hb1.x_alloc e57
          have hx57 := (Ext.refl no ww56).x_alloc e57
          refine ⟨hb2.cani 0 rfl rfl, thenW_in fun ww58 e58 => ?_⟩
          have hx58 := hx57.x_set (q := ww56.heap.size) (i := 0) rfl (.inr hg2) e58
          have hb1 := hb1.oth (q := ww56.heap.size) (i := 0) rfl hb1_2 e58
          have hb2 : Blk ww58 ww56.heap.size 36 [.int .i64 Kind48, .int .i64 0, .int .u64 0, .int .i64 0, .slice none 0 0, .slice none 0 0] := hb2.seti 0 rfl e58
          refine ⟨hb2.cani 1 rfl rfl, thenW_in fun ww59 e59 => ?_⟩
          have hx59 := hx58.x_set (q := ww56.heap.size) (i := 1) rfl (.inr hg2) e59
          have hb1 := hb1.oth (q := ww56.heap.size) (i := 1) rfl hb1_2 e59
          have hb2 : Blk ww59 ww56.heap.size 36 [.int .i64 Kind48, .int .i64 Who49, .int .u64 0, .int .i64 0, .slice none 0 0, .slice none 0 0] := hb2.seti 1 rfl e59
          refine ⟨hb2.cani 2 rfl rfl, thenW_in fun ww60 e60 => ?_⟩
          have hx60 := hx59.x_set (q := ww56.heap.size) (i := 2) rfl (.inr hg2) e60
          have hb1 := hb1.oth (q := ww56.heap.size) (i := 2) rfl hb1_2 e60
          have hb2 : Blk ww60 ww56.heap.size 36 [.int .i64 Kind48, .int .i64 Who49, .int .u64 Public50, .int .i64 0, .slice none 0 0, .slice none 0 0] := hb2.seti 2 rfl e60
          refine ⟨hb2.cani 3 rfl rfl, thenW_in fun ww61 e61 => ?_⟩
          have hx61 := hx60.x_set (q := ww56.heap.size) (i := 3) rfl (.inr hg2) e61
          have hb1 := hb1.oth (q := ww56.heap.size) (i := 3) rfl hb1_2 e61
          have hb2 : Blk ww61 ww56.heap.size 36 [.int .i64 Kind48, .int .i64 Who49, .int .u64 Public50, .int .i64 Limit51, .slice none 0 0, .slice none 0 0] := hb2.seti 3 rfl e61
          refine ⟨hb2.cani 4 rfl rfl, thenW_in fun ww62 e62 => ?_⟩
          have hx62 := hx61.x_set (q := ww56.heap.size) (i := 4) rfl (.inr hg2) e62
          have hb1 := hb1.oth (q := ww56.heap.size) (i := 4) rfl hb1_2 e62
          have hb2 : Blk ww62 ww56.heap.size 36 [.int .i64 Kind48, .int .i64 Who49, .int .u64 Public50, .int .i64 Limit51, .slice Wraps52a Wraps52n Wraps52c, .slice none 0 0] := hb2.seti 4 rfl e62
          refine ⟨hb2.cani 5 rfl rfl, thenW_in fun ww63 e63 => ?_⟩
          have hx63 := hx62.x_set (q := ww56.heap.size) (i := 5) rfl (.inr hg2) e63
          have hb1 := hb1.oth (q := ww56.heap.size) (i := 5) rfl hb1_2 e63
          have hb2 : Blk ww63 ww56.heap.size 36 [.int .i64 Kind48, .int .i64 Who49, .int .u64 Public50, .int .i64 Limit51, .slice Wraps52a Wraps52n Wraps52c, .slice Old53a Old53n Old53c] := hb2.seti 5 rfl e63
          refine thenW_in fun ww64 e64 => ?_
          have hx64 := hx63.x_drew e64
          have hb1 := hb1.x_drew e64
          have hb2 := hb2.x_drew e64
          refine bif_of (fun c65 => ?_) (fun c65 => ?_)
          · have h := h.1 (bne_t c65)
            have h := h ww64 hx64
            exact h
          · have h := h.2 (bne_f c65)
            refine ⟨Kind48, Who49, Public50, Limit51, Wraps52a, Wraps52n, Wraps52c, Old53a, Old53n, Old53c, ⟨hb2.celli 0 rfl rfl, hb2.celli 1 rfl rfl, hb2.celli 2 rfl rfl, hb2.celli 3 rfl rfl, hb2.celli 4 rfl rfl, hb2.celli 5 rfl rfl, trivial⟩, ?_⟩
            refine ⟨cKind1, cWho2, cPublic3, cLimit4, cWraps5a, cWraps5n, cWraps5c, cOld6a, cOld6n, cOld6c, ⟨hb1.celli 0 rfl rfl, hb1.celli 1 rfl rfl, hb1.celli 2 rfl rfl, hb1.celli 3 rfl rfl, hb1.celli 4 rfl rfl, hb1.celli 5 rfl rfl, trivial⟩, ?_⟩
            have h := h ww64 hx64
            refine h.mono fun ee74 ww75 h => ?_
            obtain ⟨Kind68, Who69, Public70, Limit71, Wraps72a, Wraps72n, Wraps72c, Old73a, Old73n, Old73c, he, hk, h⟩ := h
            refine ⟨Kind68, Who69, Public70, Limit71, Wraps72a, Wraps72n, Wraps72c, Old73a, Old73n, Old73c, he, ?_⟩
            have hb1 := hk.blk hb1 (by simp)
            refine ⟨⟨hb1.celli 0 rfl rfl, hb1.celli 1 rfl rfl, hb1.celli 2 rfl rfl, hb1.celli 3 rfl rfl, hb1.celli 4 rfl rfl, hb1.celli 5 rfl rfl, trivial⟩, ?_⟩
            refine h.mono fun ee77 ww78 h => ?_
            obtain ⟨changes76, he, h⟩ := h
            refine ⟨changes76, he, ?_⟩
            refine bif_of (fun c79 => ?_) (fun c79 => ?_)
            · have h := h.1 (not_t c79)
              exact h
            · have h := h.2 (not_f c79)
              refine h.mono fun ee87 ww88 h => ?_
              obtain ⟨Kind80, Who81, Public82, Limit83, Wraps84a, Wraps84n, Wraps84c, Old85a, Old85n, Old85c, read86, he, h⟩ := h
              refine ⟨Kind80, Who81, Public82, Limit83, Wraps84a, Wraps84n, Wraps84c, Old85a, Old85n, Old85c, read86, he, ?_⟩
              refine thenW_in fun ww89 e89 => ?_
              have hb3 := Blk.of_new e89
              have hg3 := ((Ext.refl no ww88)).size
              have hx89 := (Ext.refl no ww88).x_alloc e89
              refine ⟨hb3.cani 0 rfl rfl, thenW_in fun ww90 e90 => ?_⟩
              have hx90 := hx89.x_set (q := ww88.heap.size) (i := 0) rfl (.inr hg3) e90
              have hb3 : Blk ww90 ww88.heap.size 36 [.int .i64 Kind80, .int .i64 0, .int .u64 0, .int .i64 0, .slice none 0 0, .slice none 0 0] := hb3.seti 0 rfl e90
              refine ⟨hb3.cani 1 rfl rfl, thenW_in fun ww91 e91 => ?_⟩
              have hx91 := hx90.x_set (q := ww88.heap.size) (i := 1) rfl (.inr hg3) e91
              have hb3 : Blk ww91 ww88.heap.size 36 [.int .i64 Kind80, .int .i64 Who81, .int .u64 0, .int .i64 0, .slice none 0 0, .slice none 0 0] := hb3.seti 1 rfl e91
              refine ⟨hb3.cani 2 rfl rfl, thenW_in fun ww92 e92 => ?_⟩
              have hx92 := hx91.x_set (q := ww88.heap.size) (i := 2) rfl (.inr hg3) e92
              have hb3 : Blk ww92 ww88.heap.size 36 [.int .i64 Kind80, .int .i64 Who81, .int .u64 Public82, .int .i64 0, .slice none 0 0, .slice none 0 0] := hb3.seti 2 rfl e92
              refine ⟨hb3.cani 3 rfl rfl, thenW_in fun ww93 e93 => ?_⟩
              have hx93 := hx92.x_set (q := ww88.heap.size) (i := 3) rfl (.inr hg3) e93
              have hb3 : Blk ww93 ww88.heap.size 36 [.int .i64 Kind80, .int .i64 Who81, .int .u64 Public82, .int .i64 Limit83, .slice none 0 0, .slice none 0 0] := hb3.seti 3 rfl e93
              refine ⟨hb3.cani 4 rfl rfl, thenW_in fun ww94 e94 => ?_⟩
              have hx94 := hx93.x_set (q := ww88.heap.size) (i := 4) rfl (.inr hg3) e94
              have hb3 : Blk ww94 ww88.heap.size 36 [.int .i64 Kind80, .int .i64 Who81, .int .u64 Public82, .int .i64 Limit83, .slice Wraps84a Wraps84n Wraps84c, .slice none 0 0] := hb3.seti 4 rfl e94
              refine ⟨hb3.cani 5 rfl rfl, thenW_in fun ww95 e95 => ?_⟩
              have hx95 := hx94.x_set (q := ww88.heap.size) (i := 5) rfl (.inr hg3) e95
              have hb3 : Blk ww95 ww88.heap.size 36 [.int .i64 Kind80, .int .i64 Who81, .int .u64 Public82, .int .i64 Limit83, .slice Wraps84a Wraps84n Wraps84c, .slice Old85a Old85n Old85c] := hb3.seti 5 rfl e95
              refine bif_of (fun c96 => ?_) (fun c96 => ?_)
              · have h := h.1 (bne_t c96)
                refine ⟨Kind80, Who81, Public82, Limit83, Wraps84a, Wraps84n, Wraps84c, Old85a, Old85n, Old85c, ⟨hb3.celli 0 rfl rfl, hb3.celli 1 rfl rfl, hb3.celli 2 rfl rfl, hb3.celli 3 rfl rfl, hb3.celli 4 rfl rfl, hb3.celli 5 rfl rfl, trivial⟩, ?_⟩
                have h := h ww95 hx95
                refine h.mono fun ee104 ww105 h => ?_
                obtain ⟨Kind98, Who99, Public100, Limit101, Wraps102a, Wraps102n, Wraps102c, Old103a, Old103n, Old103c, he, h⟩ := h
                refine ⟨Kind98, Who99, Public100, Limit101, Wraps102a, Wraps102n, Wraps102c, Old103a, Old103n, Old103c, he, ?_⟩
                refine h.mono fun ee107 ww108 h => ?_
                obtain ⟨changes106, he, h⟩ := h
                refine ⟨changes106, he, ?_⟩
                refine bif_of (fun c109 => ?_) (fun c109 => ?_)
                · have h := h.1 c109
                  refine h.mono fun ee111 ww112 h => ?_
                  obtain ⟨alive110, he, h⟩ := h
                  refine ⟨alive110, he, ?_⟩
                  exact h
                · have h := h.2 c109
                  exact h
              · have h := h.2 (bne_f c96)
                refine ⟨Kind80, Who81, Public82, Limit83, Wraps84a, Wraps84n, Wraps84c, Old85a, Old85n, Old85c, ⟨hb3.celli 0 rfl rfl, hb3.celli 1 rfl rfl, hb3.celli 2 rfl rfl, hb3.celli 3 rfl rfl, hb3.celli 4 rfl rfl, hb3.celli 5 rfl rfl, trivial⟩, ?_⟩
                have h := h ww95 hx95
                refine h.mono fun ee116 ww117 h => ?_
                obtain ⟨bytes114a, bytes114n, bytes114c, bytes115, he, h⟩ := h
                refine ⟨bytes114a, bytes114n, bytes114c, bytes115, he, ?_⟩
                refine bif_of (fun c118 => ?_) (fun c118 => ?_)
                · have h := h.1 (beq_t c118)
                  refine h.mono fun ee120 ww121 h => ?_
                  obtain ⟨same119, he, h⟩ := h
                  refine ⟨same119, he, ?_⟩
                  refine bif_of (fun c122 => ?_) (fun c122 => ?_)
                  · have h := h.1 c122
                    refine h.mono fun ee124 ww125 h => ?_
                    obtain ⟨alive123, he, h⟩ := h
                    refine ⟨alive123, he, ?_⟩
                    exact h
                  · have h := h.2 c122
                    exact h
                · have h := h.2 (beq_f c118)
                  exact h
        · have h := h.2 (beq_f c47)
          refine h.mono fun ee133 ww134 h => ?_
          obtain ⟨Kind126, Who127, Public128, Limit129, Wraps130a, Wraps130n, Wraps130c, Old131a, Old131n, Old131c, read132, he, h⟩ := h
          refine ⟨Kind126, Who127, Public128, Limit129, Wraps130a, Wraps130n, Wraps130c, Old131a, Old131n, Old131c, read132, he, ?_⟩
          refine thenW_in fun ww135 e135 => ?_
          have hb4 := Blk.of_new e135
          have hg4 := ((Ext.refl no ww134)).size
          have hx135 := (Ext.refl no ww134).x_alloc e135
          refine ⟨hb4.cani 0 rfl rfl, thenW_in fun ww136 e136 => ?_⟩
          have hx136 := hx135.x_set (q := ww134.heap.size) (i := 0) rfl (.inr hg4) e136
          have hb4 : Blk ww136 ww134.heap.size 36 [.int .i64 Kind126, .int .i64 0, .int .u64 0, .int .i64 0, .slice none 0 0, .slice none 0 0] := hb4.seti 0 rfl e136
          refine ⟨hb4.cani 1 rfl rfl, thenW_in fun ww137 e137 => ?_⟩
          have hx137 := hx136.x_set (q := ww134.heap.size) (i := 1) rfl (.inr hg4) e137
          have hb4 : Blk ww137 ww134.heap.size 36 [.int .i64 Kind126, .int .i64 Who127, .int .u64 0, .int .i64 0, .slice none 0 0, .slice none 0 0] := hb4.seti 1 rfl e137
          refine ⟨hb4.cani 2 rfl rfl, thenW_in fun ww138 e138 => ?_⟩
          have hx138 := hx137.x_set (q := ww134.heap.size) (i := 2) rfl (.inr hg4) e138
          have hb4 : Blk ww138 ww134.heap.size 36 [.int .i64 Kind126, .int .i64 Who127, .int .u64 Public128, .int .i64 0, .slice none 0 0, .slice none 0 0] := hb4.seti 2 rfl e138
          refine ⟨hb4.cani 3 rfl rfl, thenW_in fun ww139 e139 => ?_⟩
          have hx139 := hx138.x_set (q := ww134.heap.size) (i := 3) rfl (.inr hg4) e139
          have hb4 : Blk ww139 ww134.heap.size 36 [.int .i64 Kind126, .int .i64 Who127, .int .u64 Public128, .int .i64 Limit129, .slice none 0 0, .slice none 0 0] := hb4.seti 3 rfl e139
          refine ⟨hb4.cani 4 rfl rfl, thenW_in fun ww140 e140 => ?_⟩
          have hx140 := hx139.x_set (q := ww134.heap.size) (i := 4) rfl (.inr hg4) e140
          have hb4 : Blk ww140 ww134.heap.size 36 [.int .i64 Kind126, .int .i64 Who127, .int .u64 Public128, .int .i64 Limit129, .slice Wraps130a Wraps130n Wraps130c, .slice none 0 0] := hb4.seti 4 rfl e140
          refine ⟨hb4.cani 5 rfl rfl, thenW_in fun ww141 e141 => ?_⟩
          have hx141 := hx140.x_set (q := ww134.heap.size) (i := 5) rfl (.inr hg4) e141
          have hb4 : Blk ww141 ww134.heap.size 36 [.int .i64 Kind126, .int .i64 Who127, .int .u64 Public128, .int .i64 Limit129, .slice Wraps130a Wraps130n Wraps130c, .slice Old131a Old131n Old131c] := hb4.seti 5 rfl e141
          refine bif_of (fun c142 => ?_) (fun c142 => ?_)
          · have h := h.1 (bne_t c142)
            refine ⟨Kind126, Who127, Public128, Limit129, Wraps130a, Wraps130n, Wraps130c, Old131a, Old131n, Old131c, ⟨hb4.celli 0 rfl rfl, hb4.celli 1 rfl rfl, hb4.celli 2 rfl rfl, hb4.celli 3 rfl rfl, hb4.celli 4 rfl rfl, hb4.celli 5 rfl rfl, trivial⟩, ?_⟩
            have h := h ww141 hx141
            refine h.mono fun ee150 ww151 h => ?_
            obtain ⟨Kind144, Who145, Public146, Limit147, Wraps148a, Wraps148n, Wraps148c, Old149a, Old149n, Old149c, he, h⟩ := h
            refine ⟨Kind144, Who145, Public146, Limit147, Wraps148a, Wraps148n, Wraps148c, Old149a, Old149n, Old149c, he, ?_⟩
            refine h.mono fun ee153 ww154 h => ?_
            obtain ⟨changes152, he, h⟩ := h
            refine ⟨changes152, he, ?_⟩
            refine bif_of (fun c155 => ?_) (fun c155 => ?_)
            · have h := h.1 c155
              refine h.mono fun ee157 ww158 h => ?_
              obtain ⟨alive156, he, h⟩ := h
              refine ⟨alive156, he, ?_⟩
              exact h
            · have h := h.2 c155
              exact h
          · have h := h.2 (bne_f c142)
            refine ⟨Kind126, Who127, Public128, Limit129, Wraps130a, Wraps130n, Wraps130c, Old131a, Old131n, Old131c, ⟨hb4.celli 0 rfl rfl, hb4.celli 1 rfl rfl, hb4.celli 2 rfl rfl, hb4.celli 3 rfl rfl, hb4.celli 4 rfl rfl, hb4.celli 5 rfl rfl, trivial⟩, ?_⟩
            have h := h ww141 hx141
            refine h.mono fun ee162 ww163 h => ?_
            obtain ⟨bytes160a, bytes160n, bytes160c, bytes161, he, h⟩ := h
            refine ⟨bytes160a, bytes160n, bytes160c, bytes161, he, ?_⟩
            refine bif_of (fun c164 => ?_) (fun c164 => ?_)
            · have h := h.1 (beq_t c164)
              refine h.mono fun ee166 ww167 h => ?_
              obtain ⟨same165, he, h⟩ := h
              refine ⟨same165, he, ?_⟩
              refine bif_of (fun c168 => ?_) (fun c168 => ?_)
              · have h := h.1 c168
                refine h.mono fun ee170 ww171 h => ?_
                obtain ⟨alive169, he, h⟩ := h
                refine ⟨alive169, he, ?_⟩
                exact h
              · have h := h.2 c168
                exact h
            · have h := h.2 (beq_f c164)
              exact h

theorem cachettelaw12_MembersBack.go (cKind1 : Int) (cWho2 : Int) (cPublic3 : Int) (cLimit4 : Int) (cWraps5a : Option Addr) (cWraps5n : Nat) (cWraps5c : Nat) (cOld6a : Option Addr) (cOld6n : Nat) (cOld6c : Nat) (b7a : Option Addr) (b7n : Nat) (b7c : Nat) {R : Value → World → Prop} {w : World} (h : cachettelaw12_MembersBack.N cKind1 cWho2 cPublic3 cLimit4 cWraps5a cWraps5n cWraps5c cOld6a cOld6n cOld6c b7a b7n b7c R w) : Calls Try.prog 8 #[.agg #[.int .i64 cKind1, .int .i64 cWho2, .int .u64 cPublic3, .int .i64 cLimit4, .slice cWraps5a cWraps5n cWraps5c, .slice cOld6a cOld6n cOld6c], .slice b7a b7n b7c] w fun e w' => ∃ v, e = .returned v ∧ R v w' := cachettelaw12_MembersBack.ok cKind1 cWho2 cPublic3 cLimit4 cWraps5a cWraps5n cWraps5c cOld6a cOld6n cOld6c b7a b7n b7c (cachettelaw12_MembersBack.up cKind1 cWho2 cPublic3 cLimit4 cWraps5a cWraps5n cWraps5c cOld6a cOld6n cOld6c b7a b7n b7c h)
theorem cachettelaw12_MembersBack.run (cKind1 : Int) (cWho2 : Int) (cPublic3 : Int) (cLimit4 : Int) (cWraps5a : Option Addr) (cWraps5n : Nat) (cWraps5c : Nat) (cOld6a : Option Addr) (cOld6n : Nat) (cOld6c : Nat) (b7a : Option Addr) (b7n : Nat) (b7c : Nat) {V : Value} {Q : World → Prop} {w : World} (h : cachettelaw12_MembersBack.N cKind1 cWho2 cPublic3 cLimit4 cWraps5a cWraps5n cWraps5c cOld6a cOld6n cOld6c b7a b7n b7c (fun v w' => v = V ∧ Q w') w) : Calls Try.prog 8 #[.agg #[.int .i64 cKind1, .int .i64 cWho2, .int .u64 cPublic3, .int .i64 cLimit4, .slice cWraps5a cWraps5n cWraps5c, .slice cOld6a cOld6n cOld6c], .slice b7a b7n b7c] w (Ret V Q) := (cachettelaw12_MembersBack.go cKind1 cWho2 cPublic3 cLimit4 cWraps5a cWraps5n cWraps5c cOld6a cOld6n cOld6c b7a b7n b7c h).mono fun e w' ⟨v, he, hv, hq⟩ => ⟨by rw [he, hv], hq⟩

end Go.Proofs.Ytmhfoieeldiecaa
