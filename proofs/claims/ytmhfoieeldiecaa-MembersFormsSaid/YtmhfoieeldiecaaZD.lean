/- copy onto a row of one's own; append(x, make(..)...) onto a row without room; slices.overlaps of two blocks. -/
import Derived.Test.YtmhfoieeldiecaaZA
import Derived.Lib.Overlaps
import Derived.Lib.AppendZerosOnto
import Derived.Laws.IdiomCopy
import Derived.Laws.Externs
import Derived.Test.YtmhfoieeldiecaaZC
set_option linter.unusedSimpArgs false
set_option linter.unusedVariables false
set_option linter.unusedSectionVars false
namespace Go.Mx
open Go
section
variable {P : Program} {w w' : World} {b o sz : Nat} {t e : TypeId} {cur cs : List Value}
theorem setCells_setAll : ∀ {cs cur : List Value} {o : Nat} {w : World}, Blk w b t cur → o + cs.length ≤ cur.length → Blk (w.setCells b o cs) b t (setAll cur o cs) ∧ Ext (fun x => x = b) w (w.setCells b o cs)
  | [], cur, o, w, hb, _ => ⟨hb, Ext.refl _ _⟩
  | v :: r, cur, o, w, hb, hl => by
    simp only [List.length_cons] at hl
    have hb2 := hb.set o v
    have X := (Ext.refl (fun x => x = b) w).setCell (a := ⟨b, o, none⟩) (.inl rfl) v
    obtain ⟨h1, h2⟩ := setCells_setAll (cs := r) (o := o + 1) hb2 (by rw [List.length_set]; omega)
    exact ⟨h1, X.trans h2⟩
theorem run_copy_gen {dT sT ty elem : TypeId} {dLen dCap sLen sCap n : Nat} {a : Addr} {i : TypeInfo} (hu : P.underlying dT = some (.slice elem)) (hi : P.info? elem = some i) (hs : i.size = sz) (hm : Nat.min sLen dLen = n) (hn : cs.length = n * sz)
    (hsrc : ∀ j v, cs[j]? = some v → w.cell? (a.add j) = some v) (hb : Blk w b t cur) (hl : o + cs.length ≤ cur.length) (h1 : ∀ v ∈ cs, v.oneCell' = true) :
    (Builtin.copy_ #[dT, sT] ty #[.slice (some ⟨b, o, none⟩) dLen dCap, .slice (some a) sLen sCap]).run P w = .ok (goInt n) (w.setCells b o cs) := by
  have hfc := run_firstCells_some (P := P) w sz n a sLen sCap cs hn hsrc
  have hcan : ∀ j, j < cs.length → canStore w ⟨b, o + j, none⟩ := fun j hj => hb.can (v := cur[o + j]'(by omega)) (List.getElem?_eq_getElem (by omega))
  have hst := run_storeCells_cells (P := P) b o cs 0 w (fun j hj => by obtain ⟨⟨u, hu⟩, _⟩ := hcan j hj; simp [hu]) (fun j hj => by simpa using (hcan j hj).2) h1
  simp only [Nat.add_zero] at hst
  simp [Builtin.copy_, run_underlying hu, Builtin.lenOf, sizeOf, typeInfo, hi, hs, hm, hfc, hst]
theorem setAll_mid {u x y v : List Value} (h : v.length = x.length) : setAll (u ++ x ++ y) u.length v = u ++ v ++ y := by
  have := setAll_shift (vs := v) (u := u) (cs := x ++ y) (k := 0)
  rw [Nat.add_zero] at this
  rw [List.append_assoc, this, setAll_head h, List.append_assoc]
/-- append(x[:n], make([]T, k)...) where there is no room. -/
theorem run_grow_zeros {t tn ty : TypeId} {i : TypeInfo} {z : Value} {kq kn : IntKind} {bytes : Nat} (ht : P.underlying t = some (.slice e)) (htn : P.underlying tn = some (.int kn)) (hi : P.info? e = some i) (hz : i.zero = some z) (hsize : i.size = sz) (hby : i.bytes = bytes) (hzs : z.cells.size = sz) (hsz : 0 < sz)
    {a : Option Addr} {n c k : Nat} (hr : RowAt w a cs) (hl : cs.length = n * sz) (ha : a ≠ none) (hk : 0 < k) (hg : c < n + k) (hb : (n + k) * bytes ≤ 140737488355328) (h63 : n + k ≤ 1000000000) :
    ∃ c' w', (Builtin.append_ #[t, tn] ty #[.slice a n c, .int kq k]).run P w = .ok (.slice (some ⟨w.heap.size, 0, none⟩) (n + k) c') w' ∧ Ext no w w' ∧ w.heap.size < w'.heap.size ∧ n + k ≤ c' ∧ c' ≤ maxLen ∧ ∃ zs : List Value, Blk w' w.heap.size e (cs ++ zs) ∧ (cs ++ zs).length = c' * sz := by
  obtain ⟨ad, rfl⟩ := Option.ne_none_iff_exists'.1 ha
  subst hsize
  subst hby
  have hold := run_firstCells_some (P := P) w.drew i.size n ad n c cs hl fun j v hj => hr.at_ hj
  have hfit := growslice_fits hg hb
  have hgc := grownCap_ge w (n + k) c e
  have hrun := Lib.run_append_grow_zeros (P := P) w t tn ty e i z kq kn ht htn hi hz (some ad) n c cs (by
    have := run_firstCells_some (P := P) w.drew i.size n ad n c cs hl fun j v hj => hr.at_ hj
    simpa [Builtin.firstCells] using this) k hk hsz hg (by omega) (by
      have : k * i.bytes ≤ (n + k) * i.bytes := Nat.mul_le_mul_right _ (by omega)
      omega) hfit
  refine ⟨_, _, hrun, ?_, ?_, hgc, grownCap_le_maxLen w (n + k) c e (by unfold maxLen; omega), (Builtin.zeroCells z.cells k).toList ++ (Builtin.zeroCells z.cells (grownCap w (n + k) c e - (n + k))).toList, ?_, ?_⟩
  · exact (Ext.refl no w).drew.alloc _
  · simp
  · have : Blk (w.drew.alloc (.cells (cs.toArray ++ Builtin.zeroCells z.cells k ++ Builtin.zeroCells z.cells (grownCap w (n + k) c e - (n + k))) e)) w.heap.size e (cs ++ ((Builtin.zeroCells z.cells k).toList ++ (Builtin.zeroCells z.cells (grownCap w (n + k) c e - (n + k))).toList)) := by
      unfold Blk
      have := heap_alloc_new w.drew (.cells (cs.toArray ++ Builtin.zeroCells z.cells k ++ Builtin.zeroCells z.cells (grownCap w (n + k) c e - (n + k))) e)
      refine this.trans ?_
      congr 2
      apply Array.ext'
      simp [List.append_assoc]
    exact this
  · simp only [List.length_append, Array.length_toList, size_zeroCells, hzs, hl]
    rw [← Nat.add_mul, ← Nat.add_mul]
    congr 1
    omega
/-- a store into a row of a function's own. -/
theorem LRow.set {e : TypeId} {N n c j : Nat} {w : World} {o : Own} {a : Option Addr} {cs : List Value} (h : LRow e sz N w o a n c cs) (ok : Tags w o) (hj : j < cs.length) (v : Value) :
    ∃ ad, a = some ad ∧ canStore w (ad.add j) ∧ (∀ k, o ad.block = some k → N ≤ k) ∧ (o ad.block).isSome = true ∧ ∀ w', w' = w.setCell (ad.add j) v → Step (fun i => N ≤ i) w o w' (grow w o) ∧ LRow e sz N w' (grow w o) a n c (cs.set j v) ∧ Ext (fun b => b = ad.block) w w' := by
  rcases h with ⟨rfl, rfl, rfl, rfl⟩ | ⟨k, h1, h2, h⟩
  · simp at hj
  have hl := h.own.1
  rcases h.own.2 with ⟨hv, h0⟩ | ⟨g, cap, cur, hv, _, hgb, hnc, hcm, hcs, htk⟩
  · rw [h0] at hl; omega
  cases hv
  have tg := h.tg ⟨g, 0, none⟩ rfl
  have hblk : Blk w g e cur.toList := by unfold Blk; simpa using hgb
  have hcl : cur.toList.length = c * sz := by simpa using hcs
  have hjc : j < cur.toList.length := by
    have := congrArg List.length htk
    rw [List.length_take] at this
    omega
  have hadd : (⟨g, 0, none⟩ : Addr).add j = ⟨g, j, none⟩ := by simp [Addr.add_lit]
  refine ⟨_, rfl, by rw [hadd]; exact hblk.can (v := cur.toList[j]) (List.getElem?_eq_getElem hjc), fun k' hk' => ?_, by rw [tg.1]; rfl, fun w' hw' => ?_⟩
  · have : some k = some k' := tg.1.symm.trans hk'
    cases this; exact h1
  have X : Ext (fun b => b = g) w w' := by subst hw'; rw [hadd]; exact (Ext.refl (fun b => b = g) w).setCell (a := ⟨g, j, none⟩) (.inl rfl) v
  have s : Step (fun i => i = k) w o w' (grow w o) := Step.of_ext X ok fun b hb _ => by subst hb; exact tg.1
  have hb2 : Blk w' g e (cur.toList.set j v) := by subst hw'; rw [hadd]; exact hblk.set j v
  refine ⟨s.mono fun i hi _ => by omega, .inr ⟨k, h1, Nat.lt_of_lt_of_le h2 s.size, ⟨by rw [List.length_set]; exact hl, .inr ⟨g, c, _, rfl, Nat.zero_le _, hb2, hnc, hcm, by simpa using hcs, ?_⟩⟩, fun ad ha => ?_⟩, X⟩
  · show (cur.toList.set j v).take (n * sz) = cs.set j v
    rw [← htk, List.take_set]
  · cases ha; exact ⟨(s.own tg.2).trans tg.1, Nat.lt_of_lt_of_le tg.2 s.size⟩
/-- two blocks do not overlap. -/
theorem run_apart {tS tR : TypeId} (ht : P.underlying tS = some (.slice e)) {i : TypeInfo} (hi : P.info? e = some i) {qa qb la ca lb cb oa ob : Nat} {ca' cb' : List Value} (ha : Blk w qa e ca') (hb : Blk w qb e cb') (hne : qa ≠ qb) (hcb : cb' ≠ [])
    {k : FuncId} {fn : Func} (hf : P.funcs[k]? = some fn) (hname : (fn.name == "runtime.NumGoroutine") = false) (hbd : fn.body.isNone = true) (hn : Extern.findNext fn = none) (he : Extern.find fn = some (Extern.SlicesOverlaps.overlaps #[tS, tS] #[tR])) :
    (externCall k #[.slice (some ⟨qa, oa, none⟩) la ca, .slice (some ⟨qb, ob, none⟩) lb cb]).run P w = .ok (.bool false) w := by
  unfold Blk at ha hb
  have h := Lib.run_overlaps_apart (P := P) w tS tR e ht i.size (fun w => by simp [sizeOf, typeInfo, hi]) ⟨qa, oa, none⟩ ⟨qb, ob, none⟩ la ca lb cb hne e e ca'.length cb'.length (by simp [World.shape?, ha]) (by simp [World.shape?, hb]) (by intro h; exact hcb (List.eq_nil_of_length_eq_zero h))
    (by simp [World.frozen?, ha]) (by simp [World.frozen?, ha])
  unfold externCall
  simp only [Sem.run_bind, run_callFunc_extern hf hname hbd hn he, h, Result.andThen_ok]
  rfl
end
end Go.Mx

/- Members: states and changes as lists; what the program's small functions answer. -/
set_option linter.unusedVariables false
set_option linter.unusedSimpArgs false
set_option maxRecDepth 20000
set_option maxHeartbeats 2000000
namespace Go.Proofs.Ytmhfoieeldiecaa
open Go Go.Mx Go.Proofs
open W (OwnB)
theorem inf49 : (Try.prog.info? 49).map (fun i => (i.zero, i.size, i.bytes)) = some (some (.agg #[.int .i64 0, .int .u64 0, .int .i64 0, .int .i64 0, .int .i64 0]), 5, 40) := by kernel_rfl
theorem inf85 : (Try.prog.info? 85).map (fun i => (i.zero, i.size, i.bytes)) = some (some (.agg #[.int .i64 0, .slice none 0 0]), 2, 32) := by kernel_rfl
/-- a member. -/
structure Mem where
  who : Int
  pub : Int
  fr : Int
  to_ : Int
  lim : Int
deriving DecidableEq
def Mem.C (m : Mem) : List Value := [.int .i64 m.who, .int .u64 m.pub, .int .i64 m.fr, .int .i64 m.to_, .int .i64 m.lim]
theorem Mem.len (m : Mem) : m.C.length = 5 := rfl
theorem Mem.one (m : Mem) : ∀ u ∈ m.C, u.oneCell' = true := fun u hu => by
  simp only [Mem.C, List.mem_cons, List.not_mem_nil, or_false] at hu
  rcases hu with rfl | rfl | rfl | rfl | rfl <;> rfl
theorem Mems.one {l : List Mem} : ∀ u ∈ l.flatMap Mem.C, u.oneCell' = true := fun u hu => by
  obtain ⟨m, _, hm⟩ := List.mem_flatMap.1 hu
  exact m.one u hm
/-- a wrap, and where its bytes lie. -/
structure Wr where
  who : Int
  a : Option Addr
  c : Nat
  b : List UInt8
def Wr.C (x : Wr) : List Value := [.int .i64 x.who, .slice x.a x.b.length x.c]
def Wr.p (x : Wr) : Int × List UInt8 := (x.who, x.b)
theorem Wr.len (x : Wr) : x.C.length = 2 := rfl
/-- a change. -/
structure Chg where
  kd : Int
  who : Int
  pub : Int
  lim : Int
  ws : List (Int × List UInt8)
  old : List UInt8
def boxesGo (last : Int) : List (Int × List UInt8) → Bool
  | [] => true
  | x :: r => decide (0 ≤ x.1 ∧ x.1 < 8) && decide (last < x.1) && decide (x.2.length = 16) && boxesGo x.1 r
def boxesP (l : List (Int × List UInt8)) : Bool := boxesGo (-1) l && decide (l ≠ [])
def rightM (c : Chg) : Bool :=
  if 0 ≤ c.who ∧ c.who < 8 then
    (if (c.kd == 3) = boxesP c.ws then
      (if c.kd ≠ 3 ∧ ¬ (c.ws = [] ∧ c.old = []) then false
       else if c.kd = 1 then decide (c.pub ≠ 0 ∧ c.lim = 0)
       else if c.kd = 2 then decide (c.who ≠ 0 ∧ c.pub = 0 ∧ 0 ≤ c.lim ∧ c.lim ≤ 200)
       else if c.kd = 3 then decide (c.who = 0 ∧ c.pub = 0 ∧ c.lim = 0 ∧ (c.old.length = 0 ∨ c.old.length = 24))
       else false)
     else false)
  else false
def Sorted (l : List Mem) : Prop := l.Pairwise fun a b => a.who < b.who
def findI (l : List Mem) (x : Int) : Nat := (l.takeWhile fun m => decide (m.who < x)).length
def isAt (l : List Mem) (x : Int) : Bool := match l[findI l x]? with | some m => decide (m.who = x) | none => false
section
variable {w w' w1 : World} {o o' o1 : Own} {a : Option Addr} {c N : Nat} {l : List Wr} {ml : List Mem}
theorem findI_le (l : List Mem) (x : Int) : findI l x ≤ l.length := (List.takeWhile_sublist _).length_le
theorem findI_lt {l : List Mem} {x : Int} {i : Nat} {m : Mem} (h : l[i]? = some m) (hi : i < findI l x) : m.who < x := by
  unfold findI at hi
  induction l generalizing i with
  | nil => simp at h
  | cons y r ih =>
    rw [List.takeWhile_cons] at hi
    by_cases hy : y.who < x
    · rw [if_pos (by simpa using hy)] at hi
      cases i with
      | zero => simp at h; subst h; exact hy
      | succ i => exact ih (by simpa using h) (by simpa using hi)
    · rw [if_neg (by simpa using hy)] at hi; simp at hi
theorem findI_at {l : List Mem} {x : Int} {m : Mem} (h : l[findI l x]? = some m) : x ≤ m.who := by
  unfold findI at h
  induction l with
  | nil => simp at h
  | cons y r ih =>
    rw [List.takeWhile_cons] at h
    by_cases hy : y.who < x
    · rw [if_pos (by simpa using hy)] at h; exact ih (by simpa using h)
    · rw [if_neg (by simpa using hy)] at h; simp at h; subst h; omega
theorem findI_is {l : List Mem} {x : Int} {i : Nat} (hi : i ≤ l.length) (h1 : ∀ j m, j < i → l[j]? = some m → m.who < x) (h2 : ∀ m, l[i]? = some m → x ≤ m.who) : findI l x = i := by
  rcases Nat.lt_trichotomy (findI l x) i with h | h | h
  · have hlt : findI l x < l.length := by omega
    have h3 := findI_at (List.getElem?_eq_getElem hlt)
    have h4 := h1 _ _ h (List.getElem?_eq_getElem hlt)
    omega
  · exact h
  · have hlt : i < l.length := by have := findI_le l x; omega
    have h3 := findI_lt (List.getElem?_eq_getElem hlt) h
    have h4 := h2 _ (List.getElem?_eq_getElem hlt)
    omega
theorem Sorted.get {l : List Mem} (h : Sorted l) {i j : Nat} {x y : Mem} (hi : l[i]? = some x) (hj : l[j]? = some y) (hij : i < j) : x.who < y.who := by
  obtain ⟨h1, rfl⟩ := List.getElem?_eq_some_iff.1 hi
  obtain ⟨h2, rfl⟩ := List.getElem?_eq_some_iff.1 hj
  exact List.pairwise_iff_getElem.1 h i j h1 h2 hij
theorem someone_F (x : Int) : members_someone.F x = decide (0 ≤ x ∧ x < 8) := by
  unfold members_someone.F
  by_cases h : x ≥ 0
  · rw [if_pos h]
    by_cases h2 : x < 8 <;> simp [h2] <;> omega
  · rw [if_neg h]
    rw [eq_comm, decide_eq_false_iff_not]; omega
theorem boxesGo_drop {l : List (Int × List UInt8)} {t : Nat} (ht : t < l.length) (last : Int) : boxesGo last (l.drop t) = (decide (0 ≤ l[t].1 ∧ l[t].1 < 8) && decide (last < l[t].1) && decide (l[t].2.length = 16) && boxesGo l[t].1 (l.drop (t + 1))) := by
  rw [List.drop_eq_getElem_cons ht]; rfl
theorem boxes_spec (hr : RowAt w a (l.flatMap Wr.C)) (hl : l.length < 1000000) :
    Calls Try.prog 55 #[.slice a l.length c] w (Ret (.bool (boxesP (l.map Wr.p))) fun w' => Ext no w w') := by
  refine members_boxes.run _ _ _ ?_
  unfold members_boxes.N
  refine ⟨fun m vs w1 => ∃ (t : Nat) (last : Int), vs = [.int .i64 last, .int .i64 t] ∧ m + t = l.length ∧ Ext no w w1 ∧ boxesGo last ((l.map Wr.p).drop t) = boxesGo (-1) (l.map Wr.p), l.length, ⟨0, -1, rfl, rfl, Ext.refl _ _, rfl⟩, ?_⟩
  rintro m w1 la i ⟨t, last, hi, hm, X1, hB⟩
  simp only [List.cons.injEq, Value.int.injEq, true_and, and_true] at hi
  obtain ⟨rfl, rfl⟩ := hi
  refine ⟨fun ht => ?_, fun ht => ?_⟩
  · have htl : t < l.length := by omega
    have hg : l[t]? = some l[t] := List.getElem?_eq_getElem htl
    rw [boxesGo_drop (by simpa using htl)] at hB
    have e1 : (l.map Wr.p)[t]'(by simpa using htl) = l[t].p := by simp
    rw [e1] at hB
    generalize l[t] = x at *
    obtain ⟨ad, rfl⟩ := hr.faddr Wr.len (by decide) htl
    refine ⟨ad, rfl, by omega, by omega, x.who, x.a, x.b.length, x.c, by rw [Int.toNat_natCast]; exact (hr.no X1).floads Wr.len hg, fun h1 w2 X2 => ?_, fun h1 => ⟨fun h2 w2 X2 => ?_, fun h2 => ⟨fun h3 w2 X2 => ?_, fun h3 => ⟨by omega, by omega, fun w2 X2 => ?_⟩⟩⟩⟩
    · rw [someone_F] at h1
      refine ⟨?_, X1.trans X2⟩
      unfold boxesP; rw [← hB, show decide (0 ≤ x.p.1 ∧ x.p.1 < 8) = false from h1]; rfl
    · refine ⟨?_, X1.trans X2⟩
      unfold boxesP; rw [← hB, show decide (la < x.p.1) = false from decide_eq_false (by show ¬ la < x.who; omega)]; simp
    · refine ⟨?_, X1.trans X2⟩
      unfold boxesP; rw [← hB, show decide (x.p.2.length = 16) = false from decide_eq_false (by show ¬ x.b.length = 16; omega)]; simp
    · rw [someone_F] at h1
      refine ⟨m - 1, by omega, t + 1, x.who, rfl, by omega, X1.trans X2, ?_⟩
      rw [← hB, show decide (0 ≤ x.p.1 ∧ x.p.1 < 8) = true from h1, show decide (la < x.p.1) = true from decide_eq_true (show la < x.who by omega), show decide (x.p.2.length = 16) = true from decide_eq_true (show x.b.length = 16 by omega)]
      rfl
  · obtain rfl : t = l.length := by omega
    rw [List.drop_of_length_le (by simp)] at hB
    refine ⟨?_, X1⟩
    unfold boxesP; rw [← hB]
    cases l <;> simp [boxesGo]
def chgV (c : Chg) (wa : Option Addr) (wc : Nat) (oa : Option Addr) (oc : Nat) : Value := .agg #[.int .i64 c.kd, .int .i64 c.who, .int .u64 c.pub, .int .i64 c.lim, .slice wa c.ws.length wc, .slice oa c.old.length oc]
theorem Right_spec {cg : Chg} {wa oa : Option Addr} {wc oc : Nat} (hr : RowAt w wa (l.flatMap Wr.C)) (hl : l.map Wr.p = cg.ws) (hn : l.length < 1000000) (ho : cg.old.length < 1000000) :
    Calls Try.prog 31 #[chgV cg wa wc oa oc] w (Ret (.bool (rightM cg)) fun w' => Ext no w w') := by
  refine members_Right.run cg.kd cg.who cg.pub cg.lim wa cg.ws.length wc oa cg.old.length oc ?_
  unfold members_Right.N
  rw [someone_F]
  have hlen : l.length = cg.ws.length := by rw [← hl]; simp
  refine ⟨fun h w9 X => ⟨?_, X⟩, fun h w9 p12 X9 hp => ?_⟩
  · unfold rightM; rw [if_neg (of_decide_eq_false h)]
  have hw := of_decide_eq_true h
  rw [← hlen]
  refine (boxes_spec (hr.no X9) hn).mono fun x w15 ⟨he, X15⟩ => ⟨_, he, X15.kept, fun hne => ?_, fun heq => ?_⟩
  · rw [hl] at hne
    exact ⟨by unfold rightM; rw [if_pos hw, if_neg hne], X9.trans X15⟩
  rw [hl] at heq
  have X := X9.trans X15
  have hM : rightM cg = (if cg.kd ≠ 3 ∧ ¬ (cg.ws = [] ∧ cg.old = []) then false
       else if cg.kd = 1 then decide (cg.pub ≠ 0 ∧ cg.lim = 0)
       else if cg.kd = 2 then decide (cg.who ≠ 0 ∧ cg.pub = 0 ∧ 0 ≤ cg.lim ∧ cg.lim ≤ 200)
       else if cg.kd = 3 then decide (cg.who = 0 ∧ cg.pub = 0 ∧ cg.lim = 0 ∧ (cg.old.length = 0 ∨ cg.old.length = 24))
       else false) := by unfold rightM; rw [if_pos hw, if_pos heq]
  have hz : cg.ws = [] ↔ cg.ws.length = 0 := List.length_eq_zero_iff.symm
  have hz2 : cg.old = [] ↔ cg.old.length = 0 := List.length_eq_zero_iff.symm
  refine ⟨fun h3 => ⟨by omega, by omega, fun hpos => ⟨?_, X⟩, fun hpos => ?_⟩, fun h3 => ?_⟩
  · rw [hM, if_pos ⟨h3, fun hh => by rw [hz, hz2] at hh; omega⟩]
  · rw [if_neg (fun hh => hh.2 ⟨hz.2 (by omega), hz2.2 (by omega)⟩)] at hM
    rw [hM]
    refine ⟨fun h1 => ⟨fun hp => ⟨?_, X⟩, fun hp => ⟨?_, X⟩⟩, fun h1 => ⟨fun h2 => ⟨fun hw0 => ⟨fun hp => ⟨fun hl0 => ⟨?_, X⟩, fun hl0 => ⟨?_, X⟩⟩, fun hp => ⟨?_, X⟩⟩, fun hw0 => ⟨?_, X⟩⟩, fun h2 => ⟨fun h => absurd h h3, fun _ => ⟨?_, X⟩⟩⟩⟩
    · rw [if_pos h1]; simp [hp, Bool.beq_eq_decide_eq]
    · rw [if_pos h1]; simp [hp]
    · rw [if_neg h1, if_pos h2]; congr 1; simp [hw0, hp]; omega
    · rw [if_neg h1, if_pos h2]; congr 1; rw [eq_comm, decide_eq_false_iff_not]; omega
    · rw [if_neg h1, if_pos h2]; congr 1; rw [eq_comm, decide_eq_false_iff_not]; exact fun hh => hp hh.2.1
    · rw [if_neg h1, if_pos h2]; congr 1; rw [eq_comm, decide_eq_false_iff_not]; exact fun hh => hh.1 hw0
    · rw [if_neg h1, if_neg h2, if_neg h3]
  · rw [if_neg (fun hh => hh.1 h3), if_neg (by omega), if_neg (by omega), if_pos h3] at hM
    rw [hM]
    refine ⟨fun h => by omega, fun _ => ⟨fun h => by omega, fun _ => ⟨fun _ => ⟨fun hw0 => ⟨fun hp => ⟨fun hl0 => ⟨fun ho0 => ⟨?_, X⟩, fun ho0 => ⟨?_, X⟩⟩, fun hl0 => ⟨?_, X⟩⟩, fun hp => ⟨?_, X⟩⟩, fun hw0 => ⟨?_, X⟩⟩, fun h => absurd h3 h⟩⟩⟩
    · congr 1; rw [eq_comm, decide_eq_true_eq]; exact ⟨hw0, hp, hl0, .inl (by omega)⟩
    · congr 1
      by_cases h24 : cg.old.length = 24
      · rw [h24]; simp [hw0, hp, hl0]
      · have : ((cg.old.length : Int) == 24) = false := by simpa using (show (cg.old.length : Int) ≠ 24 by omega)
        rw [this, eq_comm, decide_eq_false_iff_not]; omega
    · congr 1; rw [eq_comm, decide_eq_false_iff_not]; omega
    · congr 1; rw [eq_comm, decide_eq_false_iff_not]; omega
    · congr 1; rw [eq_comm, decide_eq_false_iff_not]; omega
theorem cmp_F (x y : Int) : cmp_Compare_int.F x y = if x < y then -1 else if x > y then 1 else 0 := by
  unfold cmp_Compare_int.F cmp_isNaN_int.F; simp
theorem find1_spec (m : Mem) (x : Int) : Calls Try.prog 62 #[.agg #[.int .i64 m.who, .int .u64 m.pub, .int .i64 m.fr, .int .i64 m.to_, .int .i64 m.lim], .int .i64 x] w (Ret (.int .i64 (cmp_Compare_int.F m.who x)) fun w' => Ext no w w') := by
  refine members_State_find_1.run m.who m.pub m.fr m.to_ m.lim x ?_
  unfold members_State_find_1.N
  exact fun w' X => ⟨rfl, X⟩
theorem BS_spec (hr : RowAt w a (ml.flatMap Mem.C)) (hs : Sorted ml) (hl : ml.length < 1000000) (x : Int) :
    Calls Try.prog 61 #[.slice a ml.length c, .int .i64 x, .func (.func 62) #[] #[]] w (Ret (.tuple #[.int .i64 (findI ml x : Int), .bool (isAt ml x)]) fun w' => Ext no w w') := by
  refine slices_BinarySearchFunc_members_Member_members_Member_int.run a ml.length c x _ _ _ ?_
  unfold slices_BinarySearchFunc_members_Member_members_Member_int.N
  refine ⟨fun m vs w1 => ∃ (i j : Nat), vs = [.int .i64 i, .int .i64 j] ∧ m + i = j ∧ j ≤ ml.length ∧ Ext no w w1 ∧ (∀ k z, k < i → ml[k]? = some z → z.who < x) ∧ (∀ k z, j ≤ k → ml[k]? = some z → x ≤ z.who), ml.length, ⟨0, ml.length, rfl, rfl, Nat.le_refl _, Ext.refl _ _, fun k z hk => by omega, fun k z hk hz => by have := (List.getElem?_eq_some_iff.1 hz).1; omega⟩, ?_⟩
  rintro m w1 i0 j0 ⟨i, j, hi, hm, hj, X1, h1, h2⟩
  simp only [List.cons.injEq, Value.int.injEq, true_and, and_true] at hi
  obtain ⟨rfl, rfl⟩ := hi
  refine ⟨fun hij => ?_, fun hij => ?_⟩
  · rw [wu64 (by omega) (by omega)]
    have hh : (((i : Int) + (j : Int)) / 2).toNat = (i + j) / 2 := by omega
    have hlt : (i + j) / 2 < ml.length := by omega
    have hg : ml[(i + j) / 2]? = some ml[(i + j) / 2] := List.getElem?_eq_getElem hlt
    obtain ⟨ad, rfl⟩ := hr.faddr Mem.len (by decide) hlt
    generalize ml[(i + j) / 2] = y at *
    refine ⟨by omega, by omega, by omega, by omega, ad, rfl, by omega, by omega, y.who, y.pub, y.fr, y.to_, y.lim, by rw [hh]; exact (hr.no X1).floads Mem.len hg, by kernel_rfl, ?_⟩
    refine (find1_spec y x).mono fun e w19 ⟨he, X19⟩ => ⟨_, he, fun hneg => ⟨by omega, by omega, j - ((i + j) / 2 + 1), by omega, (i + j) / 2 + 1, j, ?_, by omega, hj, X1.trans X19, fun k z hk hz => ?_, h2⟩, fun hpos => ⟨(i + j) / 2 - i, by omega, i, (i + j) / 2, ?_, by omega, by omega, X1.trans X19, h1, fun k z hk hz => ?_⟩⟩
    · simp
    · rw [cmp_F] at hneg
      have hy : y.who < x := by by_cases h : y.who < x; exact h; rw [if_neg h] at hneg; split at hneg <;> omega
      rcases Nat.lt_or_ge k ((i + j) / 2) with hk2 | hk2
      · have := hs.get hz hg hk2; omega
      · have : k = (i + j) / 2 := by omega
        subst this; rw [hg] at hz; cases hz; exact hy
    · simp
    · rw [cmp_F] at hpos
      have hy : ¬ y.who < x := fun h => by rw [if_pos h] at hpos; omega
      rcases Nat.lt_or_ge ((i + j) / 2) k with hk2 | hk2
      · have := hs.get hg hz hk2; omega
      · have : k = (i + j) / 2 := by omega
        subst this; rw [hg] at hz; cases hz; omega
  · have hij2 : i = j := by omega
    subst hij2
    have hI : findI ml x = i := findI_is hj (fun k z hk hz => h1 k z hk hz) fun z hz => h2 i z (Nat.le_refl _) hz
    refine ⟨fun hlt => ?_, fun hge => ⟨?_, X1⟩⟩
    · have hlt2 : i < ml.length := by omega
      have hg : ml[i]? = some ml[i] := List.getElem?_eq_getElem hlt2
      obtain ⟨ad, rfl⟩ := hr.faddr Mem.len (by decide) hlt2
      have hisat : isAt ml x = decide (ml[i].who = x) := by unfold isAt; rw [hI, hg]
      generalize ml[i] = y at *
      refine ⟨ad, rfl, by omega, by omega, y.who, y.pub, y.fr, y.to_, y.lim, by rw [Int.toNat_natCast]; exact (hr.no X1).floads Mem.len hg, by kernel_rfl, ?_⟩
      refine (find1_spec y x).mono fun e w19 ⟨he, X19⟩ => ⟨_, he, ?_, X1.trans X19⟩
      rw [hI, hisat, cmp_F]
      congr 3
      by_cases h : y.who < x
      · rw [if_pos h]; simp; omega
      · rw [if_neg h]
        by_cases h' : y.who > x
        · rw [if_pos h']; simp; omega
        · rw [if_neg h']; simp; omega
    · have hn : ml[i]? = none := List.getElem?_eq_none (by omega)
      have : isAt ml x = false := by unfold isAt; rw [hI, hn]
      rw [hI, this]
theorem find_spec (hr : RowAt w a (ml.flatMap Mem.C)) (hs : Sorted ml) (hl : ml.length < 1000000) (ep x : Int) :
    Calls Try.prog 39 #[.agg #[.slice a ml.length c, .int .i64 ep], .int .i64 x] w (Ret (.tuple #[.int .i64 (findI ml x : Int), .bool (isAt ml x)]) fun w' => Ext no w w') := by
  refine members_State_find.run a ml.length c ep x ?_
  unfold members_State_find.N
  intro w4 X4
  exact (BS_spec (hr.no X4) hs hl x).mono fun e w9 ⟨he, X9⟩ => ⟨_, _, he, rfl, X4.trans X9⟩
theorem isAt_some {ml : List Mem} {x : Int} (h : isAt ml x = true) : ∃ m, ml[findI ml x]? = some m ∧ m.who = x := by
  unfold isAt at h
  cases hg : ml[findI ml x]? with
  | none => rw [hg] at h; cases h
  | some m => rw [hg] at h; exact ⟨m, rfl, of_decide_eq_true h⟩
end
end Go.Proofs.Ytmhfoieeldiecaa

/- Members: what turns a state. -/
set_option linter.unusedVariables false
set_option linter.unusedSimpArgs false
set_option maxRecDepth 20000
set_option maxHeartbeats 2000000
namespace Go.Proofs.Ytmhfoieeldiecaa
open Go Go.Mx Go.Proofs
open W (OwnB)
theorem info_mem : ∃ i, Try.prog.info? 49 = some i ∧ i.zero = some (.agg #[.int .i64 0, .int .u64 0, .int .i64 0, .int .i64 0, .int .i64 0]) ∧ i.size = 5 ∧ i.bytes = 40 := info_of inf49
section
variable {w w' w1 : World} {o o' o1 : Own} {a : Option Addr} {c N : Nat} {l : List Wr} {ml : List Mem} {cs : List Value}
abbrev MRow (N : Nat) (w : World) (o : Own) (a : Option Addr) (c : Nat) (ml : List Mem) : Prop := LRow 49 5 N w o a ml.length c (ml.flatMap Mem.C)
/-- one more member behind a row of a function's own. -/
theorem MRow.push (h : MRow N w o a c ml) (ok : Tags w o) (hl : ml.length < 1000000) (m : Mem) {q : Nat} (hb : Blk w q 49 m.C) (hq : N ≤ q) (hq' : q < w.heap.size) :
    ∃ a' c' w' o', (Builtin.append_ #[26, 26] 26 #[.slice a ml.length c, .slice (some (blk q)) 1 1]).run Try.prog w = .ok (.slice a' (ml ++ [m]).length c') w' ∧ Step (fun j => N ≤ j) w o w' o' ∧ MRow N w' o' a' c' (ml ++ [m]) := by
  obtain ⟨i, hi, hz, hsz, hby⟩ := info_mem
  obtain ⟨a', c', w', o', hrun, s2, hrow, _⟩ := LRow.push (ty := 26) Try.underlying26 hi hz hsz hby rfl (by decide) h ok hq hq' (xa := some (blk q)) (m := 1) (xc := 1) (news := m.C) rfl (RowAt.of_blk hb) m.one (by omega) (by omega)
  exact ⟨a', c', w', o', by rw [List.length_append]; exact hrun, s2, by unfold MRow; rw [List.length_append, List.flatMap_append]; simpa using hrow⟩
theorem Clone_spec (ok : Tags w o) (hr : RowAt w a (ml.flatMap Mem.C)) (hl : ml.length < 1000000) :
    Calls Try.prog 59 #[.slice a ml.length c] w (fun x w' => ∃ o' a' c', x = .returned (.slice a' ml.length c') ∧ Step no w o w' o' ∧ MRow w.heap.size w' o' a' c' ml) := by
  refine (slices_Clone_members_Member_members_Member.go _ _ _ (R := fun v w' => ∃ o' a' c', v = (.slice a' ml.length c') ∧ Step no w o w' o' ∧ MRow w.heap.size w' o' a' c' ml) ?_).mono fun x w' ⟨v, he, o', a', c', hv, hw⟩ => ⟨o', a', c', by rw [he, hv], hw⟩
  unfold slices_Clone_members_Member_members_Member.N
  refine ⟨fun hn => ?_, fun hn w3 q X hb hq hq' => ?_⟩
  · subst hn
    have h0 := hr.none_nil
    have : ml = [] := by
      have := flat_length (f := Mem.C) Mem.len ml
      rw [h0] at this
      exact List.eq_nil_of_length_eq_zero (by simp at this; omega)
    subst this
    exact ⟨o, none, 0, rfl, Step.refl _ ok, LRow.nil _ _ _ _ _⟩
  · obtain ⟨i, hi, hz, hsz, hby⟩ := info_mem
    have s3 := (Step.of_no X ok).tag hq hq'
    have g3 : Grows 49 5 w3 (tag (grow w o) q q) q (some (blk q)) 0 0 [] := ⟨owns_of_blk hb rfl (Nat.zero_le _), fun ad ha => by cases ha; exact ⟨tag_self, hq'⟩⟩
    have L3 : LRow 49 5 w.heap.size w3 (tag (grow w o) q q) (some (blk q)) 0 0 [] := .inr ⟨q, hq, hq', g3⟩
    obtain ⟨a', c', w6, o6, hrun, s6, hrow, _⟩ := L3.push (ty := 26) Try.underlying26 hi hz hsz hby rfl (by decide) s3.ok hq hq' (xa := a) (m := ml.length) (xc := c) (news := ml.flatMap Mem.C) (flat_length Mem.len ml) (hr.no X) Mems.one (by omega) (by omega)
    rw [Nat.zero_add, List.nil_append] at hrow
    rw [Nat.zero_add] at hrun
    exact ⟨a', _, c', w6, hrun, o6, a', c', rfl, s3.trans' s6 fun j hj => .inr hj, hrow⟩
theorem flat_split (ml : List Mem) (i : Nat) : (ml.flatMap Mem.C).take (i * 5) = (ml.take i).flatMap Mem.C ∧ (ml.flatMap Mem.C).drop (i * 5) = (ml.drop i).flatMap Mem.C := by
  induction ml generalizing i with
  | nil => simp
  | cons x r ih =>
    cases i with
    | zero => simp
    | succ i =>
      have := ih i
      have hx : x.C.length = 5 := rfl
      simp only [List.flatMap_cons, List.take_succ_cons, List.drop_succ_cons]
      rw [show (i + 1) * 5 = x.C.length + i * 5 by rw [hx]; omega, List.take_length_add_append, List.drop_length_add_append, this.1, this.2]
      simp
/-- one member is put in between. -/
theorem Insert_spec (h : MRow N w o a c ml) (ok : Tags w o) (hl : ml.length < 1000) {i : Nat} (hi : i ≤ ml.length) (m : Mem) {q : Nat} (hb : Blk w q 49 m.C) (hq : N ≤ q) (hq' : q < w.heap.size) (hoq : o q = none) :
    Calls Try.prog 60 #[.slice a ml.length c, .int .i64 i, .slice (some (blk q)) 1 1] w (fun x w' => ∃ o' a' c', x = .returned (.slice a' (ml.length + 1) c') ∧ Step (fun j => N ≤ j) w o w' o' ∧ MRow N w' o' a' c' (ml.take i ++ m :: ml.drop i)) := by
  refine (slices_Insert_members_Member_members_Member.go _ _ _ _ _ _ _ (R := fun v w' => ∃ o' a' c', v = (.slice a' (ml.length + 1) c') ∧ Step (fun j => N ≤ j) w o w' o' ∧ MRow N w' o' a' c' (ml.take i ++ m :: ml.drop i)) ?_).mono fun x w' ⟨v, he, o', a', c', hv, hw⟩ => ⟨o', a', c', by rw [he, hv], hw⟩
  unfold slices_Insert_members_Member_members_Member.N
  obtain ⟨inf, hinf, hz, hsz, hby⟩ := info_mem
  have hnew : (ml.take i ++ m :: ml.drop i).length = ml.length + 1 := by simp; omega
  have hcells : (ml.take i ++ m :: ml.drop i).flatMap Mem.C = (ml.flatMap Mem.C).take (i * 5) ++ m.C ++ (ml.flatMap Mem.C).drop (i * 5) := by
    rw [(flat_split ml i).1, (flat_split ml i).2]; simp
  have hfl := flat_length (f := Mem.C) Mem.len ml
  refine ⟨by omega, by omega, fun h0 => by omega, fun _ => ⟨fun he => ?_, fun hne => ⟨by omega, by omega, fun hg => ?_, fun hroom => ?_⟩⟩⟩
  · have hie : i = ml.length := by omega
    obtain ⟨a', c', w', o', hrun, s, hrow⟩ := h.push ok (by omega) m hb hq hq'
    refine ⟨a', _, c', w', hrun, o', a', c', by simp, s, ?_⟩
    subst hie
    rw [List.take_length, List.drop_length]; exact hrow
  all_goals
    have hlt : i < ml.length := by omega
    rcases h with ⟨rfl, h0, _⟩ | ⟨k, hk1, hk2, hG⟩
    · omega
    have hkind := hG.own.2
    rcases hkind with ⟨hv, h0⟩ | ⟨g, cap, cur, hv, _, hgb, hnc, hcm, hcs, htk⟩
    · omega
    cases hv
    have tg := hG.tg ⟨g, 0, none⟩ rfl
    have hqg : q ≠ g := fun e => by subst e; rw [hoq] at tg; cases tg.1
    have hblk : Blk w g 49 cur.toList := by unfold Blk; simpa using hgb
    have hcl : cur.toList.length = c * 5 := by simpa using hcs
    have hmul : ml.length * 5 ≤ c * 5 := Nat.mul_le_mul_right 5 hnc
    have hrow := hG.row
    have hci : ∀ k, k ≤ i + 1 → k ≤ ml.length → c ≠ k ∨ k = c := fun k _ _ => by omega
  · -- a new row
    obtain ⟨c', w10, hrun, X10, hlt10, hc1, hc2, zs, hb10, hzl⟩ := run_grow_zeros (P := Try.prog) (w := w) (t := 26) (tn := 3) (ty := 26) (kq := .i64) (sz := 5) Try.underlying26 Try.underlying3 hinf hz hsz hby rfl (by decide)
      (a := some ⟨g, 0, none⟩) (n := i) (c := c) (k := ml.length + 1 - i) (cs := (ml.flatMap Mem.C).take (i * 5)) (hrow.take _) (by rw [List.length_take, hfl]; omega) (by simp) (by omega) (by omega) (by omega) (by omega)
    have e1 : (ml.length : Int) + ((1 : Nat) : Int) - (i : Int) = ((ml.length + 1 - i : Nat) : Int) := by omega
    have e2 : i + (ml.length + 1 - i) = ml.length + 1 := by omega
    rw [e2] at hrun hc1
    rw [e1, Int.toNat_natCast]
    refine ⟨by omega, by omega, by omega, by omega, by omega, by omega, _, _, c', w10, hrun, by omega, by omega, ?_⟩
    generalize hB : w.heap.size = B at *
    -- the new one
    have hcut : cutA (some ⟨B, 0, none⟩) c' i 5 = some ⟨B, i * 5, none⟩ := by unfold cutA; rw [if_neg (by omega)]; simp [Addr.add_lit]
    have hq10 : Blk w10 q 49 m.C := hb.ext X10 id
    have hzs : ∃ z1 z2, zs = z1 ++ z2 ∧ z1.length = 5 ∧ True := ⟨zs.take 5, zs.drop 5, (List.take_append_drop _ _).symm, by
      have hl2 : ((ml.flatMap Mem.C).take (i * 5)).length = i * 5 := by rw [List.length_take, hfl]; omega
      rw [List.length_append, hl2] at hzl
      rw [List.length_take]; omega, trivial⟩
    obtain ⟨z1, z2, rfl, hz1, _⟩ := hzs
    have hl2 : ((ml.flatMap Mem.C).take (i * 5)).length = i * 5 := by rw [List.length_take, hfl]; omega
    have hrun2 := run_copy_gen (P := Try.prog) (w := w10) (dT := 26) (sT := 26) (ty := 3) (sz := 5) (dLen := ml.length + 1 - i) (dCap := c' - i) (sLen := 1) (sCap := 1) (n := 1) (a := blk q) (cs := m.C) (b := B) (o := i * 5) Try.underlying26 hinf hsz (Nat.min_eq_left (by omega)) rfl (fun j v hj => hq10.cella (i := j) hj) hb10 (by
      simp only [List.length_append, hl2, hz1, Mem.len]; omega) m.one
    obtain ⟨hb12, X12⟩ := setCells_setAll (cs := m.C) (o := i * 5) hb10 (by simp only [List.length_append, hl2, hz1, Mem.len]; omega)
    have hset1 : setAll ((ml.flatMap Mem.C).take (i * 5) ++ (z1 ++ z2)) (i * 5) m.C = (ml.flatMap Mem.C).take (i * 5) ++ m.C ++ z2 := by
      rw [← List.append_assoc]
      have := setAll_mid (u := (ml.flatMap Mem.C).take (i * 5)) (x := z1) (y := z2) (v := m.C) (by rw [hz1]; rfl)
      rwa [hl2] at this
    rw [hset1] at hb12
    rw [hcut]
    refine ⟨1, _, hrun2, by omega, by omega, by omega, by omega, by omega, by omega, fun w13 X13 => ?_⟩
    have hb13 := hb12.ext X13 id
    have e3 : ((i : Int) + ((1 : Nat) : Int)).toNat = i + 1 := by omega
    rw [e3]
    have hcut2 : cutA (some ⟨B, 0, none⟩) c' (i + 1) 5 = some ⟨B, (i + 1) * 5, none⟩ := by
      unfold cutA
      rw [if_neg (by omega)]; simp [Addr.add_lit]
    have hcut3 : cutA (some ⟨g, 0, none⟩) c i 5 = some ⟨g, i * 5, none⟩ := by unfold cutA; rw [if_neg (by omega)]; simp [Addr.add_lit]
    rw [hcut2, hcut3]
    have hgB0 : g < B := tg.2
    have hgB : g ≠ B := by omega
    have X013 : Ext no w w13 := (X10.then X12 fun b hb => .inr (by omega)).trans X13
    have hrow13 := hrow.no X013
    have hsrc : ∀ j v, ((ml.flatMap Mem.C).drop (i * 5))[j]? = some v → w13.cell? ((⟨g, i * 5, none⟩ : Addr).add j) = some v := fun j v hj => by
      rw [List.getElem?_drop] at hj
      have := hrow13.at_ hj
      rw [Addr.add_lit] at this ⊢
      simpa using this
    have hdl : ((ml.flatMap Mem.C).drop (i * 5)).length = (ml.length - i) * 5 := by rw [List.length_drop, hfl]; omega
    have hz2 : (ml.length - i) * 5 ≤ z2.length := by
      rw [List.length_append, List.length_append, hl2, hz1] at hzl; omega
    have hl3 : ((ml.flatMap Mem.C).take (i * 5) ++ m.C).length = (i + 1) * 5 := by rw [List.length_append, hl2, Mem.len]; omega
    have hrun3 := run_copy_gen (P := Try.prog) (w := w13) (dT := 26) (sT := 26) (ty := 3) (sz := 5) (dLen := ml.length + 1 - (i + 1)) (dCap := c' - (i + 1)) (sLen := ml.length - i) (sCap := c - i) (n := ml.length - i) (a := ⟨g, i * 5, none⟩) (cs := (ml.flatMap Mem.C).drop (i * 5)) (b := B) (o := (i + 1) * 5) Try.underlying26 hinf hsz (Nat.min_eq_left (by omega)) hdl hsrc hb13 (by
      rw [List.length_append, hl3, hdl]; omega) (fun v hv => Mems.one v (List.mem_of_mem_drop hv))
    obtain ⟨hb15, X15⟩ := setCells_setAll (cs := (ml.flatMap Mem.C).drop (i * 5)) (o := (i + 1) * 5) hb13 (by rw [List.length_append, hl3, hdl]; omega)
    have hset2 : setAll ((ml.flatMap Mem.C).take (i * 5) ++ m.C ++ z2) ((i + 1) * 5) ((ml.flatMap Mem.C).drop (i * 5)) = (ml.flatMap Mem.C).take (i * 5) ++ m.C ++ (ml.flatMap Mem.C).drop (i * 5) ++ z2.drop ((ml.length - i) * 5) := by
      have := setAll_mid (u := (ml.flatMap Mem.C).take (i * 5) ++ m.C) (x := z2.take ((ml.length - i) * 5)) (y := z2.drop ((ml.length - i) * 5)) (v := (ml.flatMap Mem.C).drop (i * 5)) (by rw [hdl, List.length_take]; omega)
      rw [hl3, List.append_assoc _ (z2.take _), List.take_append_drop] at this
      exact this
    rw [hset2] at hb15
    refine ⟨_, _, hrun3, ?_⟩
    have X015 : Ext no w (w13.setCells B ((i + 1) * 5) ((ml.flatMap Mem.C).drop (i * 5))) := X013.then X15 fun b hb => .inr (by omega)
    have sz15 := X015.size
    have hB15 := hb15.lt
    have s := (Step.of_no X015 ok).tag (p := B) (j := k) (by omega) (by omega)
    refine ⟨_, some ⟨B, 0, none⟩, c', rfl, s.none, .inr ⟨k, hk1, by omega, ?_, fun ad ha => ?_⟩⟩
    · have hlen : (ml.take i ++ m :: ml.drop i).length * 5 = ((ml.flatMap Mem.C).take (i * 5) ++ m.C ++ (ml.flatMap Mem.C).drop (i * 5)).length := by
        rw [← hcells, flat_length Mem.len]
      rw [hcells]
      refine ⟨by rw [← hlen], .inr ⟨B, c', _, rfl, Nat.zero_le _, hb15, by rw [hnew]; exact hc1, hc2, ?_, ?_⟩⟩
      · have hh := hzl
        simp only [List.length_append, hl2, hz1, Mem.len] at hh
        simp only [List.size_toArray, List.length_append, hl2, Mem.len, hdl, List.length_drop]
        omega
      · rw [hlen]; exact List.take_left
    · cases ha; exact ⟨tag_self, by omega⟩
  · -- in place
    have e0 : ((ml.length : Int) + ((1 : Nat) : Int)).toNat = ml.length + 1 := by omega
    have e3 : ((i : Int) + ((1 : Nat) : Int)).toNat = i + 1 := by omega
    rw [e0, e3]
    have hcut2 : cutA (some ⟨g, 0, none⟩) c (i + 1) 5 = some ⟨g, (i + 1) * 5, none⟩ := by unfold cutA; rw [if_neg (by omega)]; simp [Addr.add_lit]
    have hcut3 : cutA (some ⟨g, 0, none⟩) c i 5 = some ⟨g, i * 5, none⟩ := by unfold cutA; rw [if_neg (by omega)]; simp [Addr.add_lit]
    rw [Int.toNat_natCast, hcut2, hcut3]
    have hapart := run_apart (P := Try.prog) (w := w) (tS := 26) (tR := 4) (la := 1) (ca := 1) (lb := ml.length + 1 - (i + 1)) (cb := c - (i + 1)) (oa := 0) (ob := (i + 1) * 5) Try.underlying26 hinf hb hblk hqg (fun e => by rw [e] at hcl; simp at hcl; omega)
      (k := 74) Try.func74 (by kernel_rfl) (by kernel_rfl) (by kernel_rfl) (by kernel_rfl)
    refine ⟨by omega, by omega, by omega, by omega, by omega, by omega, by omega, by omega, false, w, hapart, fun _ => ⟨by omega, by omega, by omega, by omega, by omega, by omega, fun w19 X19 => ?_⟩, fun h => absurd h (by decide)⟩
    have hb19 := hblk.ext X19 id
    have hq19 := hb.ext X19 id
    have hrow19 := hrow.no X19
    have hcur : cur.toList = ml.flatMap Mem.C ++ cur.toList.drop (ml.length * 5) := by
      rw [← htk, List.take_append_drop]
    generalize hrest : cur.toList.drop (ml.length * 5) = rest at *
    have hrl : rest.length = c * 5 - ml.length * 5 := by rw [← hrest, List.length_drop, hcl]
    have hsplit : ml.flatMap Mem.C = (ml.flatMap Mem.C).take (i * 5) ++ (ml.flatMap Mem.C).drop (i * 5) := (List.take_append_drop _ _).symm
    have hl2 : ((ml.flatMap Mem.C).take (i * 5)).length = i * 5 := by rw [List.length_take, hfl]; omega
    have hdl : ((ml.flatMap Mem.C).drop (i * 5)).length = (ml.length - i) * 5 := by rw [List.length_drop, hfl]; omega
    have hsrc : ∀ j v, ((ml.flatMap Mem.C).drop (i * 5))[j]? = some v → w19.cell? ((⟨g, i * 5, none⟩ : Addr).add j) = some v := fun j v hj => by
      rw [List.getElem?_drop] at hj
      have := hrow19.at_ hj
      rw [Addr.add_lit] at this ⊢
      simpa using this
    have hrun1 := run_copy_gen (P := Try.prog) (w := w19) (dT := 26) (sT := 26) (ty := 3) (sz := 5) (dLen := ml.length + 1 - (i + 1)) (dCap := c - (i + 1)) (sLen := ml.length + 1 - i) (sCap := c - i) (n := ml.length - i) (a := ⟨g, i * 5, none⟩) (cs := (ml.flatMap Mem.C).drop (i * 5)) (b := g) (o := (i + 1) * 5) Try.underlying26 hinf hsz (by show min _ _ = _; omega) hdl hsrc hb19 (by rw [hdl, hcl]; omega) (fun v hv => Mems.one v (List.mem_of_mem_drop hv))
    obtain ⟨hb21, X21⟩ := setCells_setAll (cs := (ml.flatMap Mem.C).drop (i * 5)) (o := (i + 1) * 5) hb19 (by rw [hdl, hcl]; omega)
    refine ⟨_, _, hrun1, by omega, by omega, ?_⟩
    have hq21 := hq19.ext X21 hqg
    -- what stands there now: the first i, one more, then the rest
    have h5 : ∃ y1 y2, (ml.flatMap Mem.C).drop (i * 5) ++ rest = y1 ++ y2 ∧ y1.length = 5 ∧ (ml.length - i) * 5 ≤ y2.length := ⟨((ml.flatMap Mem.C).drop (i * 5) ++ rest).take 5, ((ml.flatMap Mem.C).drop (i * 5) ++ rest).drop 5, (List.take_append_drop _ _).symm, by rw [List.length_take, List.length_append, hdl, hrl]; omega, by rw [List.length_drop, List.length_append, hdl, hrl]; omega⟩
    obtain ⟨y1, y2, hy, hy1, hy2⟩ := h5
    have hcur2 : cur.toList = (ml.flatMap Mem.C).take (i * 5) ++ y1 ++ y2 := by rw [hcur, List.append_assoc, ← hy, ← List.append_assoc, ← hsplit]
    have hl3 : ((ml.flatMap Mem.C).take (i * 5) ++ y1).length = (i + 1) * 5 := by rw [List.length_append, hl2, hy1]; omega
    have hset1 : setAll cur.toList ((i + 1) * 5) ((ml.flatMap Mem.C).drop (i * 5)) = (ml.flatMap Mem.C).take (i * 5) ++ y1 ++ (ml.flatMap Mem.C).drop (i * 5) ++ y2.drop ((ml.length - i) * 5) := by
      have := setAll_mid (u := (ml.flatMap Mem.C).take (i * 5) ++ y1) (x := y2.take ((ml.length - i) * 5)) (y := y2.drop ((ml.length - i) * 5)) (v := (ml.flatMap Mem.C).drop (i * 5)) (by rw [hdl, List.length_take]; omega)
      rw [hl3, List.append_assoc _ (y2.take _), List.take_append_drop, ← hcur2] at this
      exact this
    rw [hset1] at hb21
    have hrun2 := run_copy_gen (P := Try.prog) (dT := 26) (sT := 26) (ty := 3) (sz := 5) (dLen := ml.length + 1 - i) (dCap := c - i) (sLen := 1) (sCap := 1) (n := 1) (a := blk q) (cs := m.C) (b := g) (o := i * 5) Try.underlying26 hinf hsz (Nat.min_eq_left (by omega)) rfl (fun j v hj => hq21.cella (i := j) hj) hb21 (by
      simp only [List.length_append, hl2, hy1, Mem.len]; omega) m.one
    obtain ⟨hb23, X23⟩ := setCells_setAll (cs := m.C) (o := i * 5) hb21 (by simp only [List.length_append, hl2, hy1, Mem.len]; omega)
    refine ⟨_, _, hrun2, ?_⟩
    have hset2 : setAll ((ml.flatMap Mem.C).take (i * 5) ++ y1 ++ (ml.flatMap Mem.C).drop (i * 5) ++ y2.drop ((ml.length - i) * 5)) (i * 5) m.C = (ml.flatMap Mem.C).take (i * 5) ++ m.C ++ (ml.flatMap Mem.C).drop (i * 5) ++ y2.drop ((ml.length - i) * 5) := by
      have := setAll_mid (u := (ml.flatMap Mem.C).take (i * 5)) (x := y1) (y := (ml.flatMap Mem.C).drop (i * 5) ++ y2.drop ((ml.length - i) * 5)) (v := m.C) (by rw [hy1]; rfl)
      rw [hl2] at this
      simpa [List.append_assoc] using this
    rw [hset2] at hb23
    have XX : Ext (fun b => b = g) w _ := (X19.none.trans X21).trans X23
    have s : Step (fun j => j = k) w o _ (grow w o) := Step.of_ext XX ok fun b hb _ => by subst hb; exact tg.1
    refine ⟨_, some ⟨g, 0, none⟩, c, rfl, s.mono fun j hj _ => by omega, .inr ⟨k, hk1, Nat.lt_of_lt_of_le hk2 s.size, ?_, fun ad ha => ?_⟩⟩
    · have hlen : (ml.take i ++ m :: ml.drop i).length * 5 = ((ml.flatMap Mem.C).take (i * 5) ++ m.C ++ (ml.flatMap Mem.C).drop (i * 5)).length := by
        rw [← hcells, flat_length Mem.len]
      rw [hcells]
      refine ⟨by rw [← hlen], .inr ⟨g, c, _, rfl, Nat.zero_le _, hb23, by rw [hnew]; omega, hcm, ?_, ?_⟩⟩
      · simp only [List.size_toArray, List.length_append, hl2, Mem.len, hdl, List.length_drop]
        have : y2.length = c * 5 - i * 5 - 5 := by
          have := congrArg List.length hcur2
          rw [List.length_append, hl3, hcl] at this
          omega
        omega
      · rw [hlen]; exact List.take_left
    · cases ha; exact ⟨(s.own tg.2).trans tg.1, Nat.lt_of_lt_of_le tg.2 s.size⟩
end
end Go.Proofs.Ytmhfoieeldiecaa

/- Members: invite, revoke, begin, and Apply. -/
set_option linter.unusedVariables false
set_option linter.unusedSimpArgs false
set_option maxRecDepth 20000
set_option maxHeartbeats 2000000
namespace Go.Proofs.Ytmhfoieeldiecaa
open Go Go.Mx Go.Proofs
open W (OwnB)
structure MS where
  ml : List Mem
  ep : Int
def MS.z : MS := ⟨[], 0⟩
def inviteM (s : MS) (c : Chg) : MS × Int := if isAt s.ml c.who = true then (MS.z, 13) else (⟨s.ml.take (findI s.ml c.who) ++ ⟨c.who, c.pub, s.ep + 1, -1, 0⟩ :: s.ml.drop (findI s.ml c.who), s.ep⟩, 0)
def revokeM (s : MS) (c : Chg) : MS × Int :=
  if isAt s.ml c.who = true then
    (match s.ml[findI s.ml c.who]? with
     | some m => if m.to_ = -1 then (⟨s.ml.set (findI s.ml c.who) { m with to_ := if s.ep < 0 then -2 else s.ep, lim := c.lim }, s.ep⟩, 0) else (MS.z, 10)
     | none => (MS.z, 20))
  else (MS.z, 20)
def nowM (l : List Mem) : List Mem := l.filter fun m => decide (m.to_ = -1)
def beginM (s : MS) (c : Chg) : MS × Int :=
  if s.ep + 1 ≥ 20 then (MS.z, 2) else if ((c.old.length : Int) == 0) = decide (s.ep < 0) then (if (nowM s.ml).map Mem.who = c.ws.map Prod.fst then (⟨s.ml, s.ep + 1⟩, 0) else (MS.z, 10)) else (MS.z, 10)
def applyM (s : MS) (c : Chg) : MS × Int := if rightM c = true then (if c.kd = 1 then inviteM s c else if c.kd = 2 then revokeM s c else beginM s c) else (MS.z, 1)
/-- a state that may be. -/
structure MS.ok (s : MS) : Prop where
  sorted : Sorted s.ml
  who : ∀ m ∈ s.ml, 0 ≤ m.who ∧ m.who < 8
  ep0 : -1 ≤ s.ep
  ep1 : s.ep < 20
theorem MS.ok.le {s : MS} (h : s.ok) : s.ml.length ≤ 8 := by
  have key : ∀ (i : Nat) (m : Mem), s.ml[i]? = some m → (i : Int) ≤ m.who := by
    intro i
    induction i with
    | zero => intro m hm; exact (h.who m (List.mem_of_getElem? hm)).1
    | succ i ih =>
      intro m hm
      have hi : i < s.ml.length := by have := (List.getElem?_eq_some_iff.1 hm).1; omega
      have h1 := ih _ (List.getElem?_eq_getElem hi)
      have h2 := h.sorted.get (List.getElem?_eq_getElem hi) hm (by omega)
      omega
  by_cases h0 : s.ml.length = 0
  · omega
  · have hi : s.ml.length - 1 < s.ml.length := by omega
    have h1 := key _ _ (List.getElem?_eq_getElem hi)
    have h2 := (h.who _ (List.getElem_mem hi)).2
    omega
/-- what a change hands back. -/
def MsG (w : World) (o : Own) (r : MS × Int) (x : Ending) (w' : World) : Prop := ∃ o' a' c', x = .returned (.tuple #[.agg #[.slice a' r.1.ml.length c', .int .i64 r.1.ep], .int .i64 r.2]) ∧ Step no w o w' o' ∧ Row w' o' a' (r.1.ml.flatMap Mem.C) ∧ r.1.ml.length ≤ c'
def MsR (w : World) (o : Own) (r : MS × Int) (v : Value) (w' : World) : Prop := ∃ o' a' c', v = (.tuple #[.agg #[.slice a' r.1.ml.length c', .int .i64 r.1.ep], .int .i64 r.2]) ∧ Step no w o w' o' ∧ Row w' o' a' (r.1.ml.flatMap Mem.C) ∧ r.1.ml.length ≤ c'
section
variable {w w' w1 : World} {o o' o1 : Own} {a : Option Addr} {c N : Nat} {l : List Wr} {ml : List Mem} {cs : List Value} {s : MS} {cg : Chg} {wa oa : Option Addr} {wc oc : Nat}
theorem MsR.zero (s1 : Step no w o w1 o1) (cd : Int) : MsR w o (MS.z, cd) (.tuple #[.agg #[.slice none 0 0, .int .i64 0], .int .i64 cd]) w1 := ⟨o1, none, 0, rfl, s1, Row.nil _ _ _, Nat.le_refl _⟩
theorem MsR.of {r : MS × Int} {v : Value} (h : MsR w o r v w') {x : Ending} (hx : x = .returned v) : MsG w o r x w' := by
  obtain ⟨o', a', c', hv, h⟩ := h
  exact ⟨o', a', c', by rw [hx, hv], h⟩
theorem noStep {K : Nat → Prop} (h : Step no w o w1 o1) : Step no w o w1 (grow w o) := Step.of_no (h.ext.mono fun b ⟨_, _, h⟩ _ => h) h.ok0
theorem invite_spec (hr : Row w o a (s.ml.flatMap Mem.C)) (ok : Tags w o) (hs : s.ok) :
    Calls Try.prog 37 #[.agg #[.slice a s.ml.length c, .int .i64 s.ep], chgV cg wa wc oa oc] w (MsG w o (inviteM s cg)) := by
  have hle := hs.le
  have h0 := hs.ep0
  have h1 := hs.ep1
  refine (members_State_invite.go a s.ml.length c s.ep cg.kd cg.who cg.pub cg.lim wa cg.ws.length wc oa cg.old.length oc (R := MsR w o (inviteM s cg)) ?_).mono fun x w' ⟨v, he, h⟩ => h.of he
  unfold members_State_invite.N
  intro w11 p12 p13 p14 X11 hp
  obtain ⟨s11, M11⟩ := Step.priv X11 hp ok
  have g : ∀ p ∈ [p12, p13, p14], w.heap.size ≤ p := fun p h => (hp p h).1
  refine (find_spec (hr.step s11).1 hs.sorted (by omega) s.ep cg.who).mono fun x w18 ⟨he, X18⟩ => ⟨_, _, he, X18.kept, fun hf w21 X21 => ?_, fun hf => ⟨by omega, by omega, fun w22 X22 => ?_, fun w23 q24 X23 hb23 hq hq' => ?_⟩⟩
  all_goals have s18' := Step.of_no X18 s11.ok
  all_goals have s18 := s11.trans s18'
  all_goals have M18 := M11.step s18'
  · have s21 := Step.stores X21 s18'.ok (M18.sub (M := [p14]) (by simp)) (by simp)
    unfold inviteM; rw [if_pos hf]
    exact MsR.zero (s18.trans' s21 fun i hi => .inr (g i (by simp at hi ⊢; omega))) 13
  · have s22' := Step.of_no X22 s18'.ok
    have s22 := s18.trans s22'
    refine (Clone_spec s22.ok (hr.step s22).1 (by omega)).mono fun x w25 ⟨o25, ca, cc, he, s25, r25⟩ => ⟨_, _, _, he, (M18.step s22').keep s25 fun _ _ => id, fun w26 q27 X26 hb hq hq' => ?_⟩
    have s26 := Step.of_no X26 s25.ok
    have r26 := r25.step s26 fun k h => h.elim
    have l22 := s22.size
    have l25 := s25.size
    refine (Insert_spec (N := w22.heap.size) r26 s26.ok (by omega) (findI_le s.ml cg.who) ⟨cg.who, cg.pub, s.ep + 1, -1, 0⟩ hb (by omega) hq' (grow_ge hq)).mono fun x w30 ⟨o30, ia, ic, he, s30, r30⟩ => ⟨_, _, _, he, ?_, fun w33 X33 => ?_⟩
    · refine ((((M18.step s22').step s25).step s26).sub (M := [p12, p14]) (by simp)).keep s30 fun p hp' => ?_
      have := (M18.step s22').lt (p := p) (by simp at hp' ⊢; omega)
      omega
    · have s33 := Step.stores X33 s30.ok (((((M18.step s22').step s25).step s26).step s30).sub (M := [p12, p14]) (by simp)) (by simp [or_comm])
      have sA : Step no w o w30 o30 := ((s22.trans s25).trans s26).trans' s30 fun i hi => .inr (by omega)
      have sB : Step no w o w33 _ := sA.trans' s33 fun i hi => .inr (g i (by simp at hi ⊢; omega))
      have r33 := r30.step s33 fun k hk => .inl ((M18.step s22').lt (p := k) (by simp at hk ⊢; omega))
      unfold inviteM; rw [if_neg (by rw [hf]; decide)]
      refine ⟨_, ia, ic, ?_, noStep (K := no) sB, r33.give sB (by omega), r33.le⟩
      have hfi := findI_le s.ml cg.who
      have hnl : (s.ml.take (findI s.ml cg.who) ++ (⟨cg.who, cg.pub, s.ep + 1, -1, 0⟩ : Mem) :: s.ml.drop (findI s.ml cg.who)).length = s.ml.length + 1 := by simp; omega
      show _ = Value.tuple #[.agg #[.slice ia (s.ml.take (findI s.ml cg.who) ++ (⟨cg.who, cg.pub, s.ep + 1, -1, 0⟩ : Mem) :: s.ml.drop (findI s.ml cg.who)).length ic, .int .i64 s.ep], .int .i64 0]
      rw [hnl]
  · have s23' := Step.of_no X23 s18'.ok
    have s23 := s18.trans s23'
    refine (Clone_spec s23.ok (hr.step s23).1 (by omega)).mono fun x w27 ⟨o27, ca, cc, he, s27, r27⟩ => ⟨_, _, _, he, ((M18.step s23').sub (M := [p12, p14]) (by simp)).keep s27 fun _ _ => id, ?_⟩
    have l18 := s18.size
    have hb27 : Blk w27 q24 49 [.int .i64 cg.who, .int .u64 cg.pub, .int .i64 (s.ep + 1), .int .i64 (-1), .int .i64 0] := by
      have := s27.at hq' (fun k hk => id)
      unfold Blk at hb23 ⊢; rw [this]; exact hb23
    have hqo : o27 q24 = none := by rw [s27.own hq']; exact grow_ge hq
    have hM24 : ∀ p ∈ [p12, p14], p < w18.heap.size := fun p hp' => M18.lt (p := p) (by simp at hp' ⊢; omega)
    have r27' : MRow w18.heap.size w27 o27 ca cc s.ml := by
      rcases r27 with h | ⟨k, h1, h2, h⟩
      · exact .inl h
      · exact .inr ⟨k, by have := X23.size; omega, h2, h⟩
    refine (Insert_spec (N := w18.heap.size) r27' s27.ok (by omega) (findI_le s.ml cg.who) ⟨cg.who, cg.pub, s.ep + 1, -1, 0⟩ hb27 hq (Nat.lt_of_lt_of_le hq' s27.size) hqo).mono fun x w30 ⟨o30, ia, ic, he, s30, r30⟩ => ⟨_, _, _, he, ?_, fun w33 X33 => ?_⟩
    · refine (((M18.step s23').step s27).sub (M := [p12, p14]) (by simp)).keep s30 fun p hp' => ?_
      have := hM24 p hp'
      omega
    · have s33 := Step.stores X33 s30.ok ((((M18.step s23').step s27).step s30).sub (M := [p12, p14]) (by simp)) (by simp [or_comm])
      have sA : Step no w o w30 o30 := (s23.trans s27).trans' s30 fun i hi => .inr (by omega)
      have sB : Step no w o w33 _ := sA.trans' s33 fun i hi => .inr (g i (by simp at hi ⊢; omega))
      have r33 := r30.step s33 fun k hk => .inl (hM24 k hk)
      unfold inviteM; rw [if_neg (by rw [hf]; decide)]
      refine ⟨_, ia, ic, ?_, noStep (K := no) sB, r33.give sB (by omega), r33.le⟩
      have hfi := findI_le s.ml cg.who
      have hnl : (s.ml.take (findI s.ml cg.who) ++ (⟨cg.who, cg.pub, s.ep + 1, -1, 0⟩ : Mem) :: s.ml.drop (findI s.ml cg.who)).length = s.ml.length + 1 := by simp; omega
      show _ = Value.tuple #[.agg #[.slice ia (s.ml.take (findI s.ml cg.who) ++ (⟨cg.who, cg.pub, s.ep + 1, -1, 0⟩ : Mem) :: s.ml.drop (findI s.ml cg.who)).length ic, .int .i64 s.ep], .int .i64 0]
      rw [hnl]
theorem flat_set (ml : List Mem) {i : Nat} {m : Mem} (h : ml[i]? = some m) (j : Nat) (v : Value) (m' : Mem) (hm : m'.C = m.C.set j v) (hj : j < 5) : (ml.flatMap Mem.C).set (i * 5 + j) v = (ml.set i m').flatMap Mem.C := by
  induction ml generalizing i with
  | nil => simp at h
  | cons x r ih =>
    cases i with
    | zero =>
      simp only [List.getElem?_cons_zero, Option.some.injEq] at h
      subst h
      rw [Nat.zero_mul, Nat.zero_add, List.flatMap_cons, List.set_append_left _ _ (by rw [Mem.len]; exact hj)]
      simp [hm]
    | succ i =>
      simp only [List.getElem?_cons_succ] at h
      rw [List.flatMap_cons, List.set_append_right _ _ (by rw [Mem.len]; omega), show (i + 1) * 5 + j - x.C.length = i * 5 + j by rw [Mem.len]; omega, ih h]
      simp
theorem revoke_spec (hr : Row w o a (s.ml.flatMap Mem.C)) (ok : Tags w o) (hs : s.ok) :
    Calls Try.prog 38 #[.agg #[.slice a s.ml.length c, .int .i64 s.ep], chgV cg wa wc oa oc] w (MsG w o (revokeM s cg)) := by
  have hle := hs.le
  have h0 := hs.ep0
  have h1 := hs.ep1
  refine (members_State_revoke.go a s.ml.length c s.ep cg.kd cg.who cg.pub cg.lim wa cg.ws.length wc oa cg.old.length oc (R := MsR w o (revokeM s cg)) ?_).mono fun x w' ⟨v, he, h⟩ => h.of he
  unfold members_State_revoke.N
  intro w11 p12 p13 p14 X11 hp
  obtain ⟨s11, M11⟩ := Step.priv X11 hp ok
  have g : ∀ p ∈ [p12, p13, p14], w.heap.size ≤ p := fun p h => (hp p h).1
  refine (find_spec (hr.step s11).1 hs.sorted (by omega) s.ep cg.who).mono fun x w18 ⟨he, X18⟩ => ⟨_, _, he, X18.kept, fun hf w21 X21 => ?_, fun hf => ?_⟩
  all_goals have s18' := Step.of_no X18 s11.ok
  all_goals have s18 := s11.trans s18'
  all_goals have M18 := M11.step s18'
  · have s21 := Step.stores X21 s18'.ok (M18.sub (M := [p14]) (by simp)) (by simp)
    unfold revokeM; rw [if_neg (by rw [hf]; decide)]
    exact MsR.zero (s18.trans' s21 fun i hi => .inr (g i (by simp at hi ⊢; omega))) 20
  obtain ⟨m, hm, hmw⟩ := isAt_some hf
  have hlt := (List.getElem?_eq_some_iff.1 hm).1
  obtain ⟨ad, rfl⟩ := hr.1.faddr Mem.len (by decide) hlt
  have hfi := Int.toNat_natCast (findI s.ml cg.who)
  have hM : revokeM s cg = if m.to_ = -1 then (⟨s.ml.set (findI s.ml cg.who) { m with to_ := if s.ep < 0 then -2 else s.ep, lim := cg.lim }, s.ep⟩, 0) else (MS.z, 10) := by unfold revokeM; rw [if_pos hf, hm]
  rw [hM, hfi]
  generalize findI s.ml cg.who = i at *
  refine ⟨ad, rfl, by omega, by omega, m.to_, (hr.step s18).1.fcell Mem.len hm 3 rfl, fun hto w27 X27 => ?_, fun hto => ?_⟩
  · have s27 := Step.stores X27 s18'.ok (M18.sub (M := [p14]) (by simp)) (by simp)
    rw [if_neg hto]
    exact MsR.zero (s18.trans' s27 fun i hi => .inr (g i (by simp at hi ⊢; omega))) 10
  rw [if_pos hto]
  refine (Clone_spec s18.ok (hr.step s18).1 (by omega)).mono fun x w30 ⟨o30, ca, cc, he, s30', r30⟩ => ⟨_, _, _, he, M18.keep s30' fun _ _ => id, ?_⟩
  have s30 := s18.trans s30'
  have M30 := M18.step s30'
  obtain ⟨cd, rfl⟩ := r30.row.faddr Mem.len (by decide) hlt
  refine ⟨cd, rfl, by omega, by omega, fun w33 X33 => ?_⟩
  have s33' := Step.stores X33 s30.ok (M30.sub (M := [p12]) (by simp)) (by simp)
  have hMlt : ∀ p ∈ [p12, p13, p14], p < w18.heap.size := fun p hp' => M18.lt hp'
  have s33 : Step no w o w33 _ := s30.trans' s33' fun i hi => .inr (g i (by simp at hi ⊢; omega))
  have M33 := M30.step s33'
  have r33 := r30.step s33' fun k hk => .inl (hMlt k (by simp at hk ⊢; omega))
  have hfl : (s.ml.flatMap Mem.C).length = s.ml.length * 5 := flat_length Mem.len s.ml
  have hadd : ∀ j, ((cd.add (i * 5)).add j).add 0 = cd.add (i * 5 + j) := fun j => by rw [add_add, add_add, Nat.add_zero]
  have hblk : ∀ j, Addr.block ((cd.add (i * 5)).add j) = cd.block := fun j => by rw [block_add, block_add]
  -- the first store
  obtain ⟨cd', hcd', can1, hN1, hsm1, hst1⟩ := r33.set s33.ok (j := i * 5 + 3) (by rw [hfl]; omega) (.int .i64 s.ep)
  cases hcd'
  have offP : ∀ {wz : World} {oz : Own}, Mine [p12, p13, p14] wz oz → (∀ k, oz cd.block = some k → w18.heap.size ≤ k) → ∀ p ∈ [p12, p13, p14], p ≠ cd.block := fun Mz hz p hp' e => by
    have h1 := (Mz p hp').2
    rw [e] at h1
    have := hz _ h1
    have := hMlt p hp'
    omega
  refine ⟨by rw [hadd]; exact can1, fun p hp' => by rw [hblk]; exact offP M33 hN1 p hp', thenW_in fun w34 e34 => ?_⟩
  rw [hadd] at e34
  obtain ⟨s34', r34, X34⟩ := hst1 w34 e34
  have s34 : Step no w o w34 _ := s33.trans' s34' fun i hi => .inr (by have := s18.size; omega)
  have M34 := M33.step s34'
  have hset1 := flat_set s.ml hm 3 (.int .i64 s.ep) { m with to_ := s.ep } rfl (by decide)
  rw [hset1] at r34
  have hm2 : (s.ml.set i { m with to_ := s.ep })[i]? = some { m with to_ := s.ep } := by rw [List.getElem?_set_self hlt]
  have hfl2 : ((s.ml.set i { m with to_ := s.ep }).flatMap Mem.C).length = s.ml.length * 5 := by rw [flat_length Mem.len, List.length_set]
  obtain ⟨cd', hcd', can2, hN2, hsm2, hst2⟩ := r34.set s34.ok (j := i * 5 + 4) (by rw [hfl2]; omega) (.int .i64 cg.lim)
  cases hcd'
  refine ⟨by rw [hadd]; exact can2, fun p hp' => by rw [hblk]; exact offP M34 hN2 p (by simp at hp' ⊢; omega), thenW_in fun w35 e35 => ?_⟩
  rw [hadd] at e35
  obtain ⟨s35', r35, X35⟩ := hst2 w35 e35
  have s35 : Step no w o w35 _ := s34.trans' s35' fun i hi => .inr (by have := s18.size; omega)
  have M35 := M34.step s35'
  have hset2 := flat_set (s.ml.set i { m with to_ := s.ep }) hm2 4 (.int .i64 cg.lim) { m with to_ := s.ep, lim := cg.lim } rfl (by decide)
  rw [hset2, List.set_set] at r35
  have hm3 : (s.ml.set i { m with to_ := s.ep, lim := cg.lim })[i]? = some { m with to_ := s.ep, lim := cg.lim } := by rw [List.getElem?_set_self hlt]
  have hfl3 : ((s.ml.set i { m with to_ := s.ep, lim := cg.lim }).flatMap Mem.C).length = s.ml.length * 5 := by rw [flat_length Mem.len, List.length_set]
  refine ⟨fun hneg => ?_, fun hpos w41 X41 => ?_⟩
  · obtain ⟨cd', hcd', can3, hN3, hsm3, hst3⟩ := r35.set s35.ok (j := i * 5 + 3) (by rw [hfl3]; omega) (.int .i64 (-2))
    cases hcd'
    refine ⟨by rw [hadd]; exact can3, fun p hp' => by rw [hblk]; exact offP M35 hN3 p (by simp at hp' ⊢; omega), thenW_in fun w37 e37 => ?_⟩
    rw [hadd] at e37
    obtain ⟨s37', r37, X37⟩ := hst3 w37 e37
    have s37 : Step no w o w37 _ := s35.trans' s37' fun i hi => .inr (by have := s18.size; omega)
    have M37 := M35.step s37'
    have hset3 := flat_set (s.ml.set i { m with to_ := s.ep, lim := cg.lim }) hm3 3 (.int .i64 (-2)) { m with to_ := -2, lim := cg.lim } rfl (by decide)
    rw [hset3, List.set_set] at r37
    intro w39 X39
    have s39' := Step.stores X39 s37.ok (M37.sub (M := [p14]) (by simp)) (by simp)
    have s39 : Step no w o w39 _ := s37.trans' s39' fun i hi => .inr (g i (by simp at hi ⊢; omega))
    have r39 := r37.step s39' fun k hk => .inl (hMlt k (by simp at hk ⊢; omega))
    rw [if_pos hneg]
    refine ⟨_, some cd, cc, by rw [List.length_set], noStep (K := no) s39, r39.give s39 s18.size, by rw [List.length_set]; exact r39.le⟩
  · have s41' := Step.stores X41 s35.ok (M35.sub (M := [p14]) (by simp)) (by simp)
    have s41 : Step no w o w41 _ := s35.trans' s41' fun i hi => .inr (g i (by simp at hi ⊢; omega))
    have r41 := r35.step s41' fun k hk => .inl (hMlt k (by simp at hk ⊢; omega))
    rw [if_neg (by omega)]
    refine ⟨_, some cd, cc, by rw [List.length_set], noStep (K := no) s41, r41.give s41 s18.size, by rw [List.length_set]; exact r41.le⟩
theorem Now_spec (hr : Row w o a (ml.flatMap Mem.C)) (ok : Tags w o) (hl : ml.length < 1000) (ep : Int) :
    Calls Try.prog 22 #[.agg #[.slice a ml.length c, .int .i64 ep]] w (fun x w' => ∃ o' a' c', x = .returned (.slice a' (nowM ml).length c') ∧ Step no w o w' o' ∧ Row w' o' a' ((nowM ml).flatMap Mem.C) ∧ (nowM ml).length ≤ c') := by
  refine (members_Now.go a ml.length c ep (R := fun v w' => ∃ o' a' c', v = (.slice a' (nowM ml).length c') ∧ Step no w o w' o' ∧ Row w' o' a' ((nowM ml).flatMap Mem.C) ∧ (nowM ml).length ≤ c') ?_).mono fun x w' ⟨v, he, o', a', c', hv, hw⟩ => ⟨o', a', c', by rw [he, hv], hw⟩
  unfold members_Now.N
  intro w3 X3
  have s3 := Step.of_no X3 ok
  refine ⟨fun m vs w1 => ∃ (t : Nat) (a1 : Option Addr) (c1 : Nat) (o1 : Own), vs = [.slice a1 (nowM (ml.take t)).length c1, .int .i64 t] ∧ m + t = ml.length ∧ Step no w o w1 o1 ∧ MRow w.heap.size w1 o1 a1 c1 (nowM (ml.take t)), ml.length, ⟨0, none, 0, _, rfl, rfl, s3, LRow.nil _ _ _ _ _⟩, ?_⟩
  rintro m w1 ra rn rc i ⟨t, a1, c1, o1, hi, hm, s1, r1⟩
  simp only [List.cons.injEq, Value.slice.injEq, Value.int.injEq, true_and, and_true] at hi
  obtain ⟨⟨rfl, rfl, rfl⟩, rfl⟩ := hi
  refine ⟨fun ht => ?_, fun ht => ?_⟩
  · have htl : t < ml.length := by omega
    have hg : ml[t]? = some ml[t] := List.getElem?_eq_getElem htl
    have htk : ml.take (t + 1) = ml.take t ++ [ml[t]] := by rw [List.take_add_one, hg]; rfl
    generalize ml[t] = x at *
    obtain ⟨ad, rfl⟩ := hr.1.faddr Mem.len (by decide) htl
    refine ⟨ad, rfl, by omega, by omega, x.who, x.pub, x.fr, x.to_, x.lim, by rw [Int.toNat_natCast]; exact (hr.step s1).1.floads Mem.len hg, fun hto w25 q26 X25 hb hq hq' => ?_, fun hto => ⟨by omega, by omega, fun w23 X23 => ?_⟩⟩
    · have s25 := Step.of_no X25 s1.ok
      have r25 : MRow w.heap.size w25 _ ra rc (nowM (ml.take t)) := LRow.step r1 s25 fun k h => h.elim
      have hln : (nowM (ml.take t)).length < 1000000 := by
        have h1 : (nowM (ml.take t)).length ≤ (ml.take t).length := List.length_filter_le _ _
        rw [List.length_take] at h1; omega
      obtain ⟨a', c', w', o', hrun, s2, hrow⟩ := r25.push s25.ok hln x hb (by have := s1.size; omega) hq'
      have hnw : nowM (ml.take (t + 1)) = nowM (ml.take t) ++ [x] := by rw [htk]; unfold nowM; rw [List.filter_append]; simp [hto]
      exact ⟨a', _, c', w', hrun, by omega, by omega, m - 1, by omega, t + 1, a', c', o', by rw [hnw]; simp, by omega, (s1.trans s25).trans' s2 fun i hi => .inr hi, by rw [hnw]; exact hrow⟩
    · have s23 := Step.of_no X23 s1.ok
      have hnw : nowM (ml.take (t + 1)) = nowM (ml.take t) := by rw [htk]; unfold nowM; rw [List.filter_append]; simp [hto]
      exact ⟨m - 1, by omega, t + 1, ra, rc, _, by rw [hnw]; simp, by omega, s1.trans s23, by rw [hnw]; exact LRow.step r1 s23 fun k h => h.elim⟩
  · have : t = ml.length := by omega
    subst this
    rw [List.take_length] at r1 ⊢
    exact ⟨_, ra, rc, rfl, noStep (K := no) s1, r1.give s1 (Nat.le_refl _), r1.le⟩
theorem begin1_spec (m : Mem) (x : Wr) : Calls Try.prog 58 #[.agg #[.int .i64 m.who, .int .u64 m.pub, .int .i64 m.fr, .int .i64 m.to_, .int .i64 m.lim], .agg #[.int .i64 x.who, .slice x.a x.b.length x.c]] w (Ret (.bool (m.who == x.who)) fun w' => Ext no w w') := by
  refine members_State_begin_1.run m.who m.pub m.fr m.to_ m.lim x.who x.a x.b.length x.c ?_
  unfold members_State_begin_1.N
  exact fun w' X => ⟨rfl, X⟩
theorem EqualFunc_spec (hr : RowAt w a (ml.flatMap Mem.C)) (hw : RowAt w wa (l.flatMap Wr.C)) (hl : ml.length < 1000000) :
    Calls Try.prog 57 #[.slice a ml.length c, .slice wa l.length wc, .func (.func 58) #[] #[]] w (Ret (.bool (decide (ml.map Mem.who = l.map Wr.who))) fun w' => Ext no w w') := by
  refine slices_EqualFunc_members_Member_members_Wrap_members_Member_members_Wrap.run a ml.length c wa l.length wc _ _ _ ?_
  unfold slices_EqualFunc_members_Member_members_Wrap_members_Member_members_Wrap.N
  refine ⟨fun hne => ⟨?_, Ext.refl _ _⟩, fun heq => ?_⟩
  · congr 1
    rw [eq_comm, decide_eq_false_iff_not]
    intro h
    have := congrArg List.length h
    simp at this; omega
  refine ⟨fun q vs w1 => ∃ t : Nat, vs = [.int .i64 t] ∧ q + t = ml.length ∧ Ext no w w1 ∧ (ml.map Mem.who).take t = (l.map Wr.who).take t, ml.length, ⟨0, rfl, rfl, Ext.refl _ _, rfl⟩, ?_⟩
  rintro q w1 i ⟨t, hi, hq, X1, hn⟩
  simp only [List.cons.injEq, Value.int.injEq, true_and, and_true] at hi
  subst hi
  refine ⟨fun ht => ?_, fun ht => ?_⟩
  · have htl : t < ml.length := by omega
    have htm : t < l.length := by omega
    have hg : ml[t]? = some ml[t] := List.getElem?_eq_getElem htl
    have hgm : l[t]? = some l[t] := List.getElem?_eq_getElem htm
    generalize ml[t] = x at *
    generalize l[t] = y at *
    obtain ⟨ad, rfl⟩ := hr.faddr Mem.len (by decide) htl
    obtain ⟨bd, rfl⟩ := hw.faddr Wr.len (by decide) htm
    refine ⟨ad, rfl, by omega, by omega, x.who, x.pub, x.fr, x.to_, x.lim, by rw [Int.toNat_natCast]; exact (hr.no X1).floads Mem.len hg, bd, rfl, by omega, by omega, y.who, y.a, y.b.length, y.c, by rw [Int.toNat_natCast]; exact (hw.no X1).floads Wr.len hgm, fun w29 X29 => ⟨by kernel_rfl, ?_⟩⟩
    refine (begin1_spec x y).mono fun e w34 ⟨he, X34⟩ => ⟨_, he, fun h => ⟨?_, (X1.trans X29).trans X34⟩, fun h => ⟨by omega, by omega, q - 1, by omega, t + 1, rfl, by omega, (X1.trans X29).trans X34, ?_⟩⟩
    · congr 1
      rw [eq_comm, decide_eq_false_iff_not]
      intro h2
      have h3 := congrArg (fun l => l[t]?) h2
      simp only [List.getElem?_map, hg, hgm, Option.map_some, Option.some.injEq] at h3
      simp [h3] at h
    · rw [List.take_add_one, List.take_add_one, hn, List.getElem?_map, List.getElem?_map, hg, hgm, Option.map_some, Option.map_some, show x.who = y.who by simpa using h]
  · have : t = ml.length := by omega
    subst this
    rw [List.take_of_length_le (by simp), List.take_of_length_le (by simp; omega)] at hn
    exact ⟨by rw [decide_eq_true hn], X1⟩
theorem begin_spec (hr : Row w o a (s.ml.flatMap Mem.C)) (ok : Tags w o) (hs : s.ok) (hw : Row w o wa (l.flatMap Wr.C)) (hlw : l.map Wr.p = cg.ws) :
    Calls Try.prog 36 #[.agg #[.slice a s.ml.length c, .int .i64 s.ep], chgV cg wa wc oa oc] w (MsG w o (beginM s cg)) := by
  have hle := hs.le
  have h0 := hs.ep0
  have h1 := hs.ep1
  have hlen : l.length = cg.ws.length := by rw [← hlw]; simp
  refine (members_State_begin.go a s.ml.length c s.ep cg.kd cg.who cg.pub cg.lim wa cg.ws.length wc oa cg.old.length oc (R := MsR w o (beginM s cg)) ?_).mono fun x w' ⟨v, he, h⟩ => h.of he
  unfold members_State_begin.N
  refine ⟨by omega, by omega, fun hge w14 X14 => ?_, fun hlt => ⟨fun hne w21 X21 => ?_, fun heq w18 p25 p26 p27 X18 hp => ?_⟩⟩
  · unfold beginM; rw [if_pos hge]; exact MsR.zero (Step.of_no X14 ok) 2
  · unfold beginM; rw [if_neg (by omega), if_neg hne]; exact MsR.zero (Step.of_no X21 ok) 10
  have hM : beginM s cg = if (nowM s.ml).map Mem.who = cg.ws.map Prod.fst then (⟨s.ml, s.ep + 1⟩, 0) else (MS.z, 10) := by unfold beginM; rw [if_neg (by omega), if_pos heq]
  have hws : cg.ws.map Prod.fst = l.map Wr.who := by rw [← hlw, List.map_map]; rfl
  rw [hM, hws, ← hlen]
  obtain ⟨s18, M18⟩ := Step.priv X18 hp ok
  have g : ∀ p ∈ [p25, p26, p27], w.heap.size ≤ p := fun p h => (hp p h).1
  refine (Now_spec (hr.step s18) s18.ok (by omega) s.ep).mono fun x w30 ⟨o30, na, nc, he, s30', rn, _⟩ => ⟨_, _, _, he, M18.keep s30' fun _ _ => id, ?_⟩
  have s30 := s18.trans s30'
  have M30 := M18.step s30'
  have hnl : (nowM s.ml).length ≤ s.ml.length := List.length_filter_le _ _
  refine (EqualFunc_spec rn.1 (hw.step s30).1 (by omega)).mono fun x w33 ⟨he, X33⟩ => ⟨_, he, X33.kept, fun hf w36 X36 => ?_, fun ht => ?_⟩
  all_goals have s33' := Step.of_no X33 s30.ok
  all_goals have s33 := s30.trans s33'
  all_goals have M33 := M30.step s33'
  · rw [if_neg (of_decide_eq_false hf)]
    have s36 := Step.stores X36 s33.ok (M33.sub (M := [p27]) (by simp)) (by simp)
    exact MsR.zero (s33.trans' s36 fun i hi => .inr (g i (by simp at hi ⊢; omega))) 10
  · rw [if_pos (of_decide_eq_true ht)]
    refine (Clone_spec s33.ok (hr.step s33).1 (by omega)).mono fun x w39 ⟨o39, ca, cc, he, s39', r39⟩ => ⟨_, _, _, he, (M33.sub (M := [p25, p27]) (by simp)).keep s39' fun _ _ => id, by omega, by omega, fun w43 X43 => ?_⟩
    have s39 := s33.trans s39'
    have s43' := Step.stores X43 s39.ok ((M33.step s39').sub (M := [p25, p27]) (by simp)) (by simp [or_comm])
    have s43 : Step no w o w43 _ := s39.trans' s43' fun i hi => .inr (g i (by simp at hi ⊢; omega))
    have r43 := r39.step s43' fun k hk => .inl (M33.lt (p := k) (by simp at hk ⊢; omega))
    exact ⟨_, ca, cc, rfl, noStep (K := no) s43, r43.give s43 s33.size, r43.le⟩
theorem Apply_spec (hr : Row w o a (s.ml.flatMap Mem.C)) (ok : Tags w o) (hs : s.ok) (hw : Row w o wa (l.flatMap Wr.C)) (hlw : l.map Wr.p = cg.ws) (hwl : l.length < 1000000) (hol : cg.old.length < 1000000) :
    Calls Try.prog 12 #[.agg #[.slice a s.ml.length c, .int .i64 s.ep], chgV cg wa wc oa oc] w (MsG w o (applyM s cg)) := by
  refine (members_Apply.go a s.ml.length c s.ep cg.kd cg.who cg.pub cg.lim wa cg.ws.length wc oa cg.old.length oc (R := MsR w o (applyM s cg)) ?_).mono fun x w' ⟨v, he, h⟩ => h.of he
  unfold members_Apply.N
  intro w11 p12 p13 p14 X11 hp
  obtain ⟨s11, M11⟩ := Step.priv X11 hp ok
  have g : ∀ p ∈ [p12, p13, p14], w.heap.size ≤ p := fun p h => (hp p h).1
  refine (Right_spec (hw.step s11).1 hlw hwl hol).mono fun x w17 ⟨he, X17⟩ => ⟨_, he, X17.kept, fun hf w20 X20 => ?_, fun ht => ?_⟩
  all_goals have s17' := Step.of_no X17 s11.ok
  all_goals have s17 := s11.trans s17'
  all_goals have M17 := M11.step s17'
  · have s20 := Step.stores X20 s17'.ok (M17.sub (M := [p14]) (by simp)) (by simp)
    unfold applyM; rw [if_neg (by rw [hf]; decide)]
    exact MsR.zero (s17.trans' s20 fun i hi => .inr (g i (by simp at hi ⊢; omega))) 1
  have fin : ∀ {r : MS × Int} {x : Ending} {w26 w28 : World}, MsG w17 (grow w11 (tags w o [p12, p13, p14])) r x w26 → ∃ (a' : Option Addr) (n' c' : Nat) (ep' cd' : Int), x = .returned (.tuple #[.agg #[.slice a' n' c', .int .i64 ep'], .int .i64 cd']) ∧ Keep [p14] w17 w26 ∧ ∀ w28, Ext (fun b => b = p14) w26 w28 → MsR w o r (.tuple #[.agg #[.slice a' n' c', .int .i64 ep'], .int .i64 cd']) w28 := by
    rintro r x w26 w28 ⟨o26, a', c', he, s26, r26, hc⟩
    refine ⟨a', _, c', _, _, he, (M17.sub (M := [p14]) (by simp)).keep s26 fun _ _ => id, fun w28 X28 => ?_⟩
    have s28' := Step.stores X28 s26.ok ((M17.step s26).sub (M := [p14]) (by simp)) (by simp)
    have s28 := (s17.trans s26).trans' s28' fun i hi => .inr (g i (by simp at hi ⊢; omega))
    exact ⟨_, a', c', rfl, s28, r26.step s28', hc⟩
  unfold applyM
  rw [if_pos ht]
  refine ⟨fun h1 => ?_, fun h1 => ⟨fun h2 => ?_, fun h2 => ?_⟩⟩
  · rw [if_pos h1]
    exact (invite_spec (hr.step s17) s17.ok hs).mono fun x w26 h => fin (w28 := w) h
  · rw [if_neg h1, if_pos h2]
    exact (revoke_spec (hr.step s17) s17.ok hs).mono fun x w26 h => fin (w28 := w) h
  · rw [if_neg h1, if_neg h2]
    exact (begin_spec (hr.step s17) s17.ok hs (hw.step s17) hlw).mono fun x w26 h => fin (w28 := w) h
end
end Go.Proofs.Ytmhfoieeldiecaa

/- Members: what is told of a state; changes and states handed over; the chapter's example. -/
set_option linter.unusedVariables false
set_option linter.unusedSimpArgs false
set_option maxRecDepth 20000
set_option maxHeartbeats 2000000
namespace Go.Proofs.Ytmhfoieeldiecaa
open Go Go.Mx Go.Proofs
open W (OwnB)
theorem inf5 : (Try.prog.info? 5).map (fun i => (i.zero, i.size, i.bytes)) = some (some (.int .u8 0), 1, 1) := by kernel_rfl
def Mem.z : Mem := ⟨0, 0, 0, 0, 0⟩
def Mem.V (m : Mem) : Value := .agg #[.int .i64 m.who, .int .u64 m.pub, .int .i64 m.fr, .int .i64 m.to_, .int .i64 m.lim]
def newM (p : Int) : MS := ⟨[⟨0, p, 0, -1, 0⟩], -1⟩
def findM (l : List Mem) (x : Int) : Mem × Bool := if isAt l x = true then ((l[findI l x]?).getD Mem.z, true) else (Mem.z, false)
def mayM (s : MS) (who index epoch : Int) : Int :=
  if (findM s.ml who).2 = true then
    (if epoch = -1 ∧ who = 0 then 0 else if epoch > s.ep then 7 else if epoch < (if (0 : Int) > (findM s.ml who).1.fr then 0 else (findM s.ml who).1.fr) then 10
     else if (findM s.ml who).1.to_ ≠ -1 ∧ (epoch > (findM s.ml who).1.to_ ∨ index ≥ (findM s.ml who).1.lim) then 10 else 0)
  else 20
theorem newM_ok (p : Int) : (newM p).ok := ⟨List.pairwise_singleton _ _, fun m hm => by simp [newM] at hm; subst hm; exact ⟨by show (0 : Int) ≤ 0; decide, by show (0 : Int) < 8; decide⟩, by show (-1 : Int) ≤ -1; decide, by show (-1 : Int) < 20; decide⟩
section
variable {s : MS} {c : Chg} {l : List Mem}
theorem Sorted.insert (h : Sorted l) {m : Mem} (hn : isAt l m.who = false) : Sorted (l.take (findI l m.who) ++ m :: l.drop (findI l m.who)) := by
  have hb : ∀ x ∈ l.drop (findI l m.who), m.who < x.who := fun x hx => by
    obtain ⟨j, hj⟩ := List.getElem?_of_mem hx
    rw [List.getElem?_drop] at hj
    have hlt : findI l m.who < l.length := by have := (List.getElem?_eq_some_iff.1 hj).1; omega
    have hg : l[findI l m.who]? = some l[findI l m.who] := List.getElem?_eq_getElem hlt
    have h1 := findI_at hg
    have h2 : m.who ≠ (l[findI l m.who]).who := fun e => by
      unfold isAt at hn; rw [hg] at hn; exact of_decide_eq_false hn e.symm
    rcases Nat.eq_zero_or_pos j with rfl | hp
    · rw [Nat.add_zero, hg] at hj; cases hj; omega
    · have := h.get hg hj (by omega); omega
  have ha : ∀ x ∈ l.take (findI l m.who), x.who < m.who := fun x hx => by
    obtain ⟨j, hj⟩ := List.getElem?_of_mem hx
    rw [List.getElem?_take] at hj
    split at hj
    · exact findI_lt hj (by assumption)
    · cases hj
  have h0 : Sorted (l.take (findI l m.who) ++ l.drop (findI l m.who)) := by rw [List.take_append_drop]; exact h
  unfold Sorted at h0 ⊢
  rw [List.pairwise_append] at h0 ⊢
  refine ⟨h0.1, List.pairwise_cons.2 ⟨hb, h0.2.1⟩, fun x hx y hy => ?_⟩
  rcases List.mem_cons.1 hy with rfl | hy
  · exact ha x hx
  · exact h0.2.2 x hx y hy
theorem Sorted.set (h : Sorted l) {i : Nat} {m m' : Mem} (hi : l[i]? = some m) (hw : m'.who = m.who) : Sorted (l.set i m') := by
  unfold Sorted at h ⊢
  rw [List.pairwise_iff_getElem] at h ⊢
  intro a b ha hb hab
  simp only [List.length_set] at ha hb
  have hm : (l[i]'(List.getElem?_eq_some_iff.1 hi).1) = m := (List.getElem?_eq_some_iff.1 hi).2
  simp only [List.getElem_set]
  split <;> split
  · omega
  · rename_i h1 h2; subst h1; rw [hw, ← hm]; exact h _ _ _ _ hab
  · rename_i h1 h2; subst h2; rw [hw, ← hm]; exact h _ _ _ _ hab
  · exact h _ _ _ _ hab
theorem rightM_who (h : rightM c = true) : 0 ≤ c.who ∧ c.who < 8 := by
  unfold rightM at h
  by_cases hw : 0 ≤ c.who ∧ c.who < 8
  · exact hw
  · rw [if_neg hw] at h; cases h
theorem invite_out (h : (inviteM s c).2 = 0) : isAt s.ml c.who = false ∧ (inviteM s c).1 = ⟨s.ml.take (findI s.ml c.who) ++ ⟨c.who, c.pub, s.ep + 1, -1, 0⟩ :: s.ml.drop (findI s.ml c.who), s.ep⟩ := by
  unfold inviteM at h ⊢
  by_cases hi : isAt s.ml c.who = true
  · rw [if_pos hi] at h; cases h
  · rw [if_neg hi]; exact ⟨by simpa using hi, rfl⟩
theorem revoke_out (h : (revokeM s c).2 = 0) : ∃ m, s.ml[findI s.ml c.who]? = some m ∧ m.who = c.who ∧ m.to_ = -1 ∧ (revokeM s c).1 = ⟨s.ml.set (findI s.ml c.who) { m with to_ := if s.ep < 0 then -2 else s.ep, lim := c.lim }, s.ep⟩ := by
  unfold revokeM at h ⊢
  by_cases hi : isAt s.ml c.who = true
  · obtain ⟨m, hm, hw⟩ := isAt_some hi
    rw [if_pos hi, hm] at h ⊢
    simp only [] at h ⊢
    by_cases ht : m.to_ = -1
    · rw [if_pos ht]; exact ⟨m, rfl, hw, ht, rfl⟩
    · rw [if_neg ht] at h; cases h
  · rw [if_neg hi] at h; cases h
theorem begin_out (h : (beginM s c).2 = 0) : (beginM s c).1 = ⟨s.ml, s.ep + 1⟩ ∧ s.ep + 1 < 20 := by
  unfold beginM at h ⊢
  by_cases h1 : s.ep + 1 ≥ 20
  · rw [if_pos h1] at h; cases h
  · rw [if_neg h1] at h ⊢
    by_cases h2 : ((c.old.length : Int) == 0) = decide (s.ep < 0)
    · rw [if_pos h2] at h ⊢
      by_cases h3 : (nowM s.ml).map Mem.who = c.ws.map Prod.fst
      · rw [if_pos h3]; exact ⟨rfl, by omega⟩
      · rw [if_neg h3] at h; cases h
    · rw [if_neg h2] at h; cases h
theorem apply_out (h : (applyM s c).2 = 0) : rightM c = true ∧ ((c.kd = 1 ∧ (inviteM s c).2 = 0 ∧ applyM s c = inviteM s c) ∨ (c.kd = 2 ∧ (revokeM s c).2 = 0 ∧ applyM s c = revokeM s c) ∨ (c.kd ≠ 1 ∧ c.kd ≠ 2 ∧ (beginM s c).2 = 0 ∧ applyM s c = beginM s c)) := by
  unfold applyM at h ⊢
  by_cases hr : rightM c = true
  · rw [if_pos hr] at h ⊢
    refine ⟨hr, ?_⟩
    by_cases h1 : c.kd = 1
    · rw [if_pos h1] at h ⊢; exact .inl ⟨h1, h, rfl⟩
    · rw [if_neg h1] at h ⊢
      by_cases h2 : c.kd = 2
      · rw [if_pos h2] at h ⊢; exact .inr (.inl ⟨h2, h, rfl⟩)
      · rw [if_neg h2] at h ⊢; exact .inr (.inr ⟨h1, h2, h, rfl⟩)
  · rw [if_neg hr] at h; cases h
theorem mem_set {l : List Mem} {i : Nat} {x y : Mem} (h : x ∈ l.set i y) : x ∈ l ∨ x = y := List.mem_or_eq_of_mem_set h
theorem applyM_ok (hs : s.ok) (h : (applyM s c).2 = 0) : (applyM s c).1.ok := by
  obtain ⟨hr, hh⟩ := apply_out h
  have hw := rightM_who hr
  rcases hh with ⟨_, h1, e⟩ | ⟨_, h1, e⟩ | ⟨_, _, h1, e⟩
  · obtain ⟨q1, q2⟩ := invite_out h1
    rw [e, q2]
    refine ⟨hs.sorted.insert (m := ⟨c.who, c.pub, s.ep + 1, -1, 0⟩) q1, fun m hm => ?_, hs.ep0, hs.ep1⟩
    rcases List.mem_append.1 hm with hm | hm
    · exact hs.who m (List.mem_of_mem_take hm)
    · rcases List.mem_cons.1 hm with rfl | hm
      · exact hw
      · exact hs.who m (List.mem_of_mem_drop hm)
  · obtain ⟨m, q1, q2, q3, q4⟩ := revoke_out h1
    rw [e, q4]
    refine ⟨hs.sorted.set q1 rfl, fun x hx => ?_, hs.ep0, hs.ep1⟩
    rcases mem_set hx with hx | rfl
    · exact hs.who x hx
    · exact hs.who m (List.mem_of_getElem? q1)
  · obtain ⟨q1, q2⟩ := begin_out h1
    rw [e, q1]
    exact ⟨hs.sorted, hs.who, by show -1 ≤ s.ep + 1; have := hs.ep0; omega, q2⟩
end
section
variable {w w' w1 : World} {o o' o1 : Own} {a : Option Addr} {c N : Nat} {l : List Wr} {ml : List Mem} {cs : List Value} {s : MS} {cg : Chg} {wa oa : Option Addr} {wc oc : Nat}
theorem New_spec (ok : Tags w o) (p : Int) : Calls Try.prog 11 #[.int .u64 p] w (fun x w' => ∃ o' a' c', x = .returned (.agg #[.slice a' (newM p).ml.length c', .int .i64 (newM p).ep]) ∧ Step no w o w' o' ∧ Row w' o' a' ((newM p).ml.flatMap Mem.C) ∧ (newM p).ml.length ≤ c') := by
  refine (members_New.go p (R := fun v w' => ∃ o' a' c', v = (.agg #[.slice a' (newM p).ml.length c', .int .i64 (newM p).ep]) ∧ Step no w o w' o' ∧ Row w' o' a' ((newM p).ml.flatMap Mem.C) ∧ (newM p).ml.length ≤ c') ?_).mono fun x w' ⟨v, he, o', a', c', hv, hw⟩ => ⟨o', a', c', by rw [he, hv], hw⟩
  unfold members_New.N
  intro w3 q4 p5 X3 hb hq hq' hp w7 X7
  have s3 := (Step.of_no X3 ok).tag (p := p5) (j := p5) (hp p5 (by simp)).1 (by have := (hp p5 (by simp)).2; omega)
  have h5 := hp p5 (by simp)
  have M3 : Mine [p5] w3 (tag (grow w o) p5 p5) := fun p hp' => by rw [show p = p5 by simpa using hp']; exact ⟨by omega, tag_self⟩
  have s7 := Step.stores X7 s3.ok M3 (by simp)
  have r3 : Row w3 (tag (grow w o) p5 p5) (some (blk q4)) ((newM p).ml.flatMap Mem.C) := ⟨RowAt.of_blk hb, fun _ ad ha => by cases ha; rw [tag_ne (by show q4 ≠ p5; omega)]; exact grow_ge hq⟩
  exact ⟨_, some (blk q4), 1, rfl, s3.trans' s7 fun i hi => .inr (by simp at hi; omega), r3.step s7, Nat.le_refl _⟩
theorem Find_spec (hr : Row w o a (ml.flatMap Mem.C)) (ok : Tags w o) (hs : Sorted ml) (hl : ml.length < 1000000) (ep x : Int) :
    Calls Try.prog 17 #[.agg #[.slice a ml.length c, .int .i64 ep], .int .i64 x] w (Ret (.tuple #[(findM ml x).1.V, .bool (findM ml x).2]) fun w' => ∃ o', Step no w o w' o') := by
  refine members_Find.run a ml.length c ep x ?_
  unfold members_Find.N
  intro w5 p6 p7 X5 hp
  obtain ⟨s5, M5⟩ := Step.priv X5 hp ok
  have g : ∀ p ∈ [p6, p7], w.heap.size ≤ p := fun p h => (hp p h).1
  refine (find_spec (hr.step s5).1 hs hl ep x).mono fun e w11 ⟨he, X11⟩ => ⟨_, _, he, X11.kept, fun hf w17 X17 => ?_, fun ht => ?_⟩
  all_goals have s11' := Step.of_no X11 s5.ok
  all_goals have s11 := s5.trans s11'
  all_goals have M11 := M5.step s11'
  · have s17 := Step.stores X17 s11'.ok (M11.sub (M := [p7]) (by simp)) (by simp)
    unfold findM; rw [if_neg (by rw [hf]; decide)]
    exact ⟨rfl, _, s11.trans' s17 fun i hi => .inr (g i (by simp at hi ⊢; omega))⟩
  · obtain ⟨m, hm, hw⟩ := isAt_some ht
    have hlt := (List.getElem?_eq_some_iff.1 hm).1
    have hF : findM ml x = (m, true) := by unfold findM; rw [if_pos ht, hm]; rfl
    rw [hF]
    obtain ⟨ad, rfl⟩ := hr.1.faddr Mem.len (by decide) hlt
    refine ⟨ad, rfl, by omega, by omega, m.who, m.pub, m.fr, m.to_, m.lim, by rw [Int.toNat_natCast]; exact (hr.step s11).1.floads Mem.len hm, fun w29 X29 => ?_⟩
    have s29 := Step.stores X29 s11'.ok (M11.sub (M := [p7]) (by simp)) (by simp)
    exact ⟨rfl, _, s11.trans' s29 fun i hi => .inr (g i (by simp at hi ⊢; omega))⟩
theorem May_spec (hr : Row w o a (s.ml.flatMap Mem.C)) (ok : Tags w o) (hs : Sorted s.ml) (hl : s.ml.length < 1000000) (who index epoch : Int) :
    Calls Try.prog 14 #[.agg #[.slice a s.ml.length c, .int .i64 s.ep], .int .i64 who, .int .i64 index, .int .i64 epoch] w (Ret (.int .i64 (mayM s who index epoch)) fun w' => ∃ o', Step no w o w' o') := by
  refine members_May.run a s.ml.length c s.ep who index epoch ?_
  unfold members_May.N
  intro w6 p7 X6 hp
  obtain ⟨s6, M6⟩ := Step.priv X6 hp ok
  refine (Find_spec (hr.step s6) s6.ok hs hl s.ep who).mono fun e w15 ⟨he, o15, s15'⟩ => ⟨_, _, _, _, _, _, he, M6.keep s15' fun _ _ => id, ?_⟩
  have s15 := s6.trans s15'
  have fin : ∀ {w21 : World} {v : Int}, Ext no w15 w21 → v = mayM s who index epoch → Value.int .i64 v = .int .i64 (mayM s who index epoch) ∧ ∃ o', Step no w o w21 o' := fun X h => ⟨by rw [h], _, s15.trans (Step.of_no X s15.ok)⟩
  unfold mayM at fin ⊢
  generalize findM s.ml who = F at *
  obtain ⟨m, is⟩ := F
  simp only [] at fin ⊢
  refine ⟨fun h w21 X => fin X (by rw [h]; rfl), fun h => ?_⟩
  rw [if_pos h] at fin
  rw [if_pos h]
  refine ⟨fun h1 => ⟨fun h2 w21 X => fin X (by rw [if_pos ⟨h1, h2⟩]), fun h2 => ?_⟩, fun h1 => ?_⟩
  · rw [if_neg (fun h => h2 h.2)] at fin ⊢
    refine ⟨fun h3 w21 X => fin X (by rw [if_pos h3]), fun h3 => ⟨fun h4 w21 X => fin X (by rw [if_neg (by omega), if_pos h4]), fun h4 => ⟨fun h5 => ⟨fun h6 w21 X => fin X ?_, fun h6 => ⟨fun h7 w21 X => fin X ?_, fun h7 w21 X => fin X ?_⟩⟩, fun h5 w21 X => fin X ?_⟩⟩⟩
    all_goals rw [if_neg (by omega), if_neg (by omega)]
    · rw [if_pos ⟨h5, .inl h6⟩]
    · rw [if_pos ⟨h5, .inr h7⟩]
    · rw [if_neg (by omega)]
    · rw [if_neg (fun h => h.1 h5)]
  · rw [if_neg (fun h => h1 h.1)] at fin ⊢
    refine ⟨fun h3 w21 X => fin X (by rw [if_pos h3]), fun h3 => ⟨fun h4 w21 X => fin X (by rw [if_neg (by omega), if_pos h4]), fun h4 => ⟨fun h5 => ⟨fun h6 w21 X => fin X ?_, fun h6 => ⟨fun h7 w21 X => fin X ?_, fun h7 w21 X => fin X ?_⟩⟩, fun h5 w21 X => fin X ?_⟩⟩⟩
    all_goals rw [if_neg (by omega), if_neg (by omega)]
    · rw [if_pos ⟨h5, .inl h6⟩]
    · rw [if_pos ⟨h5, .inr h7⟩]
    · rw [if_neg (by omega)]
    · rw [if_neg (fun h => h.1 h5)]
end
/-! ### changes that are handed in -/
structure CR where
  kd : Int
  who : Int
  pub : Int
  lim : Int
  wa : Option Addr
  wc : Nat
  l : List Wr
  oa : Option Addr
  oc : Nat
  old : List UInt8
def CR.cg (p : CR) : Chg := ⟨p.kd, p.who, p.pub, p.lim, p.l.map Wr.p, p.old⟩
def CR.C (p : CR) : List Value := [.int .i64 p.kd, .int .i64 p.who, .int .u64 p.pub, .int .i64 p.lim, .slice p.wa p.l.length p.wc, .slice p.oa p.old.length p.oc]
theorem CR.len (p : CR) : p.C.length = 6 := rfl
theorem CR.V (p : CR) : Value.agg #[.int .i64 p.kd, .int .i64 p.who, .int .u64 p.pub, .int .i64 p.lim, .slice p.wa p.l.length p.wc, .slice p.oa p.old.length p.oc] = chgV p.cg p.wa p.wc p.oa p.oc := by
  unfold chgV CR.cg; simp
section
variable {w w' w1 : World} {o o' o1 : Own} {a : Option Addr} {c N : Nat} {l : List Wr} {ml : List Mem} {cs : List Value} {s : MS} {cg : Chg} {wa oa : Option Addr} {wc oc : Nat}
structure CR.good (W : World) (p : CR) : Prop where
  ws : RowAt W p.wa (p.l.flatMap Wr.C)
  wc : p.l.length ≤ p.wc
  bs : ∀ x ∈ p.l, RowAt W x.a (bytesV x.b) ∧ x.b.length ≤ x.c
  old : RowAt W p.oa (bytesV p.old)
  oc : p.old.length ≤ p.oc
  pub : 0 ≤ p.pub ∧ p.pub < 18446744073709551616
  wide : (-9223372036854775808 ≤ p.who ∧ p.who < 9223372036854775808) ∧ -9223372036854775808 ≤ p.lim ∧ p.lim < 9223372036854775808
theorem opens_wrap : Opens Try.prog 84 fun W cs => ∃ x : Wr, cs = x.C ∧ RowAt W x.a (bytesV x.b) ∧ x.b.length ≤ x.c :=
  (opens_seq (qs := [(1, _), (1, _)]) (size := 2) Try.underlying84 (by kernel_rfl)
    ⟨⟨rfl, by kernel_rfl, opens_int Try.underlying3⟩, ⟨rfl, by kernel_rfl, opens_bytes Try.underlying34 (by kernel_rfl) Try.underlying5⟩, rfl⟩).mono
    fun W cs ⟨_, _, e0, _, ⟨who, q0, _⟩, _, _, e1, _, ⟨a, c, b, q1, lb, _, rb⟩, q2⟩ => by
      subst q0; subst q1; subst q2; subst e1; subst e0
      exact ⟨⟨who, a, c, b⟩, rfl, rb, lb⟩
theorem opens_change : Opens Try.prog 40 fun W cs => ∃ p : CR, cs = p.C ∧ p.good W :=
  (opens_seq (qs := [(1, _), (1, _), (1, _), (1, _), (1, _), (1, _)]) (size := 6) Try.underlying40 (by kernel_rfl)
    ⟨⟨rfl, by kernel_rfl, opens_int Try.underlying3⟩, ⟨rfl, by kernel_rfl, opens_int Try.underlying3⟩, ⟨rfl, by kernel_rfl, opens_int Try.underlying22⟩, ⟨rfl, by kernel_rfl, opens_int Try.underlying3⟩,
     ⟨rfl, by kernel_rfl, opens_rows (size := 2) Try.underlying38 (by kernel_rfl) opens_wrap⟩, ⟨rfl, by kernel_rfl, opens_bytes Try.underlying34 (by kernel_rfl) Try.underlying5⟩, rfl⟩).mono
    fun W cs ⟨_, _, e0, _, ⟨kd, q0, _⟩, _, _, e1, _, ⟨who, q1, fw⟩, _, _, e2, _, ⟨pub, q2, fp⟩, _, _, e3, _, ⟨lim, q3, fl⟩, _, _, e4, _, ⟨wa, wc, l, q4, lw, _, rw_, gw⟩, _, _, e5, _, ⟨oa, oc, old, q5, lo, _, ro⟩, q6⟩ => by
      subst q0; subst q1; subst q2; subst q3; subst q4; subst q5; subst q6; subst e5; subst e4; subst e3; subst e2; subst e1; subst e0
      exact ⟨⟨kd, who, pub, lim, wa, wc, l, oa, oc, old⟩, rfl, rw_, lw, gw, ro, lo, wf_u64 fp, wf_i64 fw, wf_i64 fl⟩
def light1 (p : CR) : Bool := decide (p.l.length ≤ 20) && decide (p.old.length ≤ 100) && p.l.all fun x => decide (x.b.length ≤ 100)
def light12 (l : List CR) : Bool := decide (l.length ≤ 60) && l.all light1
theorem light12_of {l : List CR} (h : light12 l = true) : l.length ≤ 60 ∧ ∀ p ∈ l, p.l.length ≤ 20 ∧ p.old.length ≤ 100 ∧ ∀ x ∈ p.l, x.b.length ≤ 100 := by
  unfold light12 light1 at h
  simp only [Bool.and_eq_true, decide_eq_true_eq, List.all_eq_true] at h
  exact ⟨h.1, fun p hp => ⟨(h.2 p hp).1.1, (h.2 p hp).1.2, (h.2 p hp).2⟩⟩
theorem light12_spec {W : World} {la : Option Addr} {lc : Nat} {l : List CR} (hl : RowAt W la (l.flatMap CR.C)) (hg : ∀ p ∈ l, RowAt W p.wa (p.l.flatMap Wr.C)) : Calls Try.prog 9 #[.slice la l.length lc] W (Ret (.bool (light12 l)) fun w' => w' = W) := by
  refine cachettelaw12_light.run _ _ _ ?_
  unfold cachettelaw12_light.N
  refine ⟨fun h => ⟨by unfold light12; rw [show decide (l.length ≤ 60) = false by simp; omega]; rfl, rfl⟩, fun h2 => ?_⟩
  refine ⟨fun q vs w1 => ∃ t : Nat, vs = [.int .i64 t] ∧ q + t = l.length ∧ w1 = W ∧ (l.take t).all light1 = true, l.length, ⟨0, rfl, rfl, rfl, rfl⟩, ?_⟩
  rintro q w1 i ⟨t, hi, hq, rfl, hn⟩
  simp only [List.cons.injEq, Value.int.injEq, true_and, and_true] at hi
  subst hi
  refine ⟨fun ht => ?_, fun ht => ?_⟩
  · have htl : t < l.length := by omega
    have hgt : l[t]? = some l[t] := List.getElem?_eq_getElem htl
    have hxm := List.getElem_mem htl
    have hws := hg _ hxm
    have no : light1 l[t] = false → light12 l = false := fun h => by
      unfold light12
      rw [show (l.all light1) = false by rw [List.all_eq_false]; exact ⟨l[t], hxm, by simp [h]⟩]; simp
    obtain ⟨ad, rfl⟩ := hl.faddr CR.len (by decide) htl
    have htk : (l.take (t + 1)) = l.take t ++ [l[t]] := by rw [List.take_add_one, hgt]; rfl
    generalize l[t] = x at *
    have c4 := hl.fcell CR.len hgt 4 (v := .slice x.wa x.l.length x.wc) rfl
    have c5 := hl.fcell CR.len hgt 5 (v := .slice x.oa x.old.length x.oc) rfl
    refine ⟨ad, rfl, by omega, by omega, _, _, _, by rw [Int.toNat_natCast]; exact c4, fun hA => ⟨by rw [no (by unfold light1; rw [show decide (x.l.length ≤ 20) = false by simp; omega]; rfl)], rfl⟩, fun hA => ⟨by omega, by omega, _, _, _, by rw [Int.toNat_natCast]; exact c5, fun hB => ⟨by rw [no (by unfold light1; rw [show decide (x.old.length ≤ 100) = false by simp; omega]; simp)], rfl⟩, fun hB => ?_⟩⟩
    refine ⟨fun q2 vs w1' => ∃ u : Nat, vs = [.int .i64 u] ∧ q2 + u = x.l.length ∧ w1' = w1 ∧ (x.l.take u).all (fun x => decide (x.b.length ≤ 100)) = true, x.l.length, ⟨0, rfl, rfl, rfl, rfl⟩, ?_⟩
    rintro q2 w1' i ⟨u, hi, hq2, rfl, hn2⟩
    simp only [List.cons.injEq, Value.int.injEq, true_and, and_true] at hi
    subst hi
    refine ⟨by omega, by omega, _, _, _, by rw [Int.toNat_natCast]; exact c4, fun hu => ?_, fun hu => ?_⟩
    · have hul : u < x.l.length := by omega
      have hgu : x.l[u]? = some x.l[u] := List.getElem?_eq_getElem hul
      have hym := List.getElem_mem hul
      have htk2 : (x.l.take (u + 1)) = x.l.take u ++ [x.l[u]] := by rw [List.take_add_one, hgu]; rfl
      generalize x.l[u] = y at *
      obtain ⟨bd, hbd⟩ := hws.faddr Wr.len (by decide) hul
      have c1 := (hbd ▸ hws).fcell Wr.len hgu 1 (v := .slice y.a y.b.length y.c) rfl
      refine ⟨by omega, by omega, _, _, _, by rw [Int.toNat_natCast]; exact c4, bd, hbd, by omega, by omega, _, _, _, by rw [Int.toNat_natCast]; exact c1, fun hb => ⟨?_, rfl⟩, fun hb => ⟨by omega, by omega, q2 - 1, by omega, u + 1, rfl, by omega, rfl, by rw [htk2, List.all_append, hn2]; simp; omega⟩⟩
      rw [no ?_]
      unfold light1
      rw [show (x.l.all fun x => decide (x.b.length ≤ 100)) = false by rw [List.all_eq_false]; exact ⟨y, hym, by simp; omega⟩]; simp
    · have : u = x.l.length := by omega
      subst this
      rw [List.take_length] at hn2
      have hx : light1 x = true := by unfold light1; rw [hn2, decide_eq_true (show x.l.length ≤ 20 by omega), decide_eq_true (show x.old.length ≤ 100 by omega)]; rfl
      exact ⟨by omega, by omega, q - 1, by omega, t + 1, rfl, by omega, rfl, by rw [htk, List.all_append, hn]; simp [hx]⟩
  · obtain rfl : t = l.length := by omega
    rw [List.take_length] at hn
    refine ⟨?_, rfl⟩
    unfold light12
    rw [hn, decide_eq_true (show l.length ≤ 60 by omega)]
    rfl
abbrev WRow (N : Nat) (w : World) (o : Own) (a : Option Addr) (c : Nat) (l : List Wr) : Prop := LRow 85 2 N w o a l.length c (l.flatMap Wr.C)
/-- the same change, as the program's. -/
theorem Own_spec (ok : Tags w o) (hr : Row w o wa (l.flatMap Wr.C)) (hw : cg.ws = l.map Wr.p) (hl : l.length < 1000000) :
    Calls Try.prog 13 #[chgV cg wa wc oa oc] w (fun x w' => ∃ o' wa' wc', x = .returned (chgV cg wa' wc' oa oc) ∧ Step no w o w' o' ∧ Row w' o' wa' (l.flatMap Wr.C) ∧ l.length ≤ wc') := by
  have hlen : cg.ws.length = l.length := by rw [hw]; simp
  refine (cachettelaw12_Own.go cg.kd cg.who cg.pub cg.lim wa cg.ws.length wc oa cg.old.length oc (R := fun v w' => ∃ o' wa' wc', v = (chgV cg wa' wc' oa oc) ∧ Step no w o w' o' ∧ Row w' o' wa' (l.flatMap Wr.C) ∧ l.length ≤ wc') ?_).mono fun x w' ⟨v, he, o', a', c', hv, hw⟩ => ⟨o', a', c', by rw [he, hv], hw⟩
  unfold cachettelaw12_Own.N
  intro w15 p16 p17 p18 X15 hp
  obtain ⟨s15, M15⟩ := Step.priv X15 hp ok
  have g : ∀ p ∈ [p16, p17, p18], w.heap.size ≤ p := fun p h => (hp p h).1
  have hM15 : ∀ p ∈ [p16, p17, p18], p < w15.heap.size := fun p h => M15.lt h
  rw [hlen]
  refine ⟨fun m vs w1 => ∃ (t : Nat) (a1 : Option Addr) (c1 : Nat) (o1 : Own), vs = [.int .i64 t, .int .i64 0, .int .i64 0, .int .u64 0, .int .i64 0, .slice none 0 0, .slice none 0 0, .int .i64 cg.kd, .int .i64 cg.who, .int .u64 cg.pub, .int .i64 cg.lim, .slice a1 (l.take t).length c1, .slice oa cg.old.length oc] ∧ m + t = l.length ∧ Step no w o w1 o1 ∧ Step (fun j => w15.heap.size ≤ j ∨ j ∈ [p16, p17, p18]) w15 (tags w o [p16, p17, p18]) w1 o1 ∧ WRow w15.heap.size w1 o1 a1 c1 (l.take t), l.length, ⟨0, none, 0, _, rfl, rfl, s15, Step.refl _ s15.ok, LRow.nil _ _ _ _ _⟩, ?_⟩
  intro m w1 i0 k1 k2 k3 k4 k5a k5n k5c k6a k6n k6c k7 k8 k9 k10 k11a k11n k11c k12a k12n k12c hI
  obtain ⟨t, a1, c1, o1, hi, hm, s1, s15', r1⟩ := hI
  simp only [List.cons.injEq, Value.slice.injEq, Value.int.injEq, true_and, and_true] at hi
  obtain ⟨rfl, rfl, rfl, rfl, rfl, ⟨rfl, rfl, rfl⟩, ⟨rfl, rfl, rfl⟩, rfl, rfl, rfl, rfl, ⟨rfl, rfl, rfl⟩, ⟨rfl, rfl, rfl⟩⟩ := hi
  have M1 := M15.step s15'
  refine ⟨fun ht => ?_, fun ht w53 X53 => ?_⟩
  · have htl : t < l.length := by omega
    have hg : l[t]? = some l[t] := List.getElem?_eq_getElem htl
    have htk : l.take (t + 1) = l.take t ++ [l[t]] := by rw [List.take_add_one, hg]; rfl
    generalize l[t] = x at *
    obtain ⟨ad, rfl⟩ := hr.1.faddr Wr.len (by decide) htl
    have hr1 := (hr.step s1).1
    refine ⟨ad, rfl, by omega, by omega, x.who, by rw [Int.toNat_natCast]; exact hr1.fcell Wr.len hg 0 rfl, by omega, by omega, x.a, x.b.length, x.c, by rw [Int.toNat_natCast]; exact hr1.fcell Wr.len hg 1 rfl, fun w42 q43 X42 hb hq hq' => ?_⟩
    have s42 := Step.of_no X42 s1.ok
    have r42 : WRow w15.heap.size w42 _ k11a k11c (l.take t) := LRow.step r1 s42 fun k h => h.elim
    obtain ⟨i, hi, hz, hsz, hby⟩ := info_of inf85
    have h15 := s15'.size
    obtain ⟨a', c', w45, o45, hrun, s45, hrow, _⟩ := LRow.push (ty := 33) Try.underlying33 hi hz hsz hby rfl (by decide) r42 s42.ok (p := q43) (by omega) hq' (xa := some (blk q43)) (m := 1) (xc := 1) (news := x.C) rfl (RowAt.of_blk hb) (fun u hu => by
      simp only [Wr.C, List.mem_cons, List.not_mem_nil, or_false] at hu
      rcases hu with rfl | rfl <;> rfl) (by rw [List.length_take]; omega) (by rw [List.length_take]; omega)
    refine ⟨a', _, c', w45, hrun, (M1.step s42).keep s45 (fun p hp' => by have := hM15 p hp'; omega), by omega, by omega, fun w46 X46 => ?_⟩
    have s46 := Step.stores X46 s45.ok ((((M1.step s42).step s45)).sub (M := [p18]) (by simp)) (by simp)
    have r46 := hrow.step s46 fun k hk => .inl (hM15 k (by simp at hk ⊢; omega))
    have h15w := s15.size
    have hcells : (l.take t).flatMap Wr.C ++ x.C = (l.take (t + 1)).flatMap Wr.C := by rw [htk]; simp
    have hlen2 : (l.take t).length + 1 = (l.take (t + 1)).length := by rw [htk]; simp
    rw [hcells, hlen2] at r46
    refine ⟨m - 1, by omega, t + 1, a', c', _, by rw [← hlen2]; rfl, by omega, ((s1.trans s42).trans' s45 fun j hj => .inr (by omega)).trans' s46 fun j hj => .inr (g j (by simp at hj ⊢; omega)), (s15'.trans (s42.none.trans (s45.mono fun j hj _ => .inl hj))).trans (s46.mono fun j hj _ => .inr (by simp at hj ⊢; omega)), r46⟩
  · have htt : t = l.length := by omega
    subst htt
    rw [List.take_length] at r1 ⊢
    have s53 := Step.stores X53 s1.ok (M1.sub (M := [p17]) (by simp)) (by simp)
    have sF : Step no w o w53 _ := s1.trans' s53 fun j hj => .inr (g j (by simp at hj ⊢; omega))
    have r53 : WRow w15.heap.size w53 _ k11a k11c l := LRow.step r1 s53 fun k hk => .inl (hM15 k (by simp at hk ⊢; omega))
    refine ⟨_, k11a, k11c, ?_, noStep (K := no) sF, r53.give sF s15.size, r53.le⟩
    unfold chgV
    rw [hlen]
end
end Go.Proofs.Ytmhfoieeldiecaa

/- Members: the chapter's example. -/
set_option linter.unusedVariables false
set_option linter.unusedSimpArgs false
set_option maxRecDepth 20000
set_option maxHeartbeats 2000000
namespace Go.Proofs.Ytmhfoieeldiecaa
open Go Go.Mx Go.Proofs
open W (OwnB)
theorem mk_bytes (w : World) (n : Nat) (hn : n < 1000000) : ∃ w', (Instr.makeSlice 34 (.int .i64 n) (.int .i64 n)).run Try.prog w = .ok (.slice (some (blk w.heap.size)) n n) w' ∧ Ext no w w' ∧ Blk w' w.heap.size 5 (bytesV (List.replicate n 0)) ∧ w.heap.size < w'.heap.size := by
  obtain ⟨i, hi, hz, hs, hb⟩ := info_of inf5
  have hmk := run_makeSlice (P := Try.prog) (w := w) 34 5 i _ Try.underlying34 hi hz .i64 .i64 n n (by omega) (Int.le_refl _) (by rw [hs]; omega) (by rw [hb]; omega) (by omega)
  rw [hs, Int.toNat_natCast] at hmk
  have hcells : (madeCells (Value.int .u8 0).cells (n * 1)) = (bytesV (List.replicate n 0)).toArray := by
    apply Array.ext'
    rw [show (Value.int .u8 0).cells = #[Value.int .u8 0] from rfl, toList_madeCells_one, Nat.mul_one]
    show _ = bytesV _
    rw [bytesV, List.map_replicate]; rfl
  rw [hcells] at hmk
  exact ⟨_, hmk, (Ext.refl _ _).alloc _, Blk.new _ _ _, by simp⟩
def ex12 : Chg := ⟨3, 0, 0, 0, [(0, List.replicate 16 0)], []⟩
def ex12b : Chg := ⟨1, 1, 6, 0, [], []⟩
theorem ex12_fact : ∃ s1 s2 : MS, applyM (newM 5) ex12 = (s1, 0) ∧ applyM s1 ex12b = (s2, 0) ∧ mayM s2 1 0 0 = 10 ∧ mayM s2 1 0 1 = 7 ∧ mayM s2 0 3 0 = 0 := ⟨_, _, rfl, rfl, rfl, rfl, rfl⟩
theorem alive12_spec (w : World) : Calls Try.prog 10 #[] w (Ret (.bool true) fun w' => Ext no w w') := by
  refine cachettelaw12_alive.run ?_
  unfold cachettelaw12_alive.N
  obtain ⟨s1, s2, f1, f2, f3, f4, f5⟩ := ex12_fact
  have ok0 : Tags w (fun _ => none) := fun b j _ h => by cases h
  have k1 : s1.ok := by have := applyM_ok (newM_ok 5) (c := ex12) (by rw [f1]); rwa [f1] at this
  have k2 : s2.ok := by have := applyM_ok k1 (c := ex12b) (by rw [f2]); rwa [f2] at this
  refine (New_spec ok0 5).mono fun x w4 ⟨o4, a4, c4, hx, s4, r4, _⟩ => ⟨_, _, _, _, hx, fun w8 p9 X8 hp => ?_⟩
  obtain ⟨s8', M8⟩ := Step.priv X8 hp s4.ok
  have s8 := s4.trans s8'
  have g9 := (hp p9 (by simp)).1
  have h9 := M8.lt (p := p9) (by simp)
  obtain ⟨w11, hmk, X11, hb11, hlt11⟩ := mk_bytes w8 16 (by decide)
  refine ⟨_, _, _, w11, hmk, X11.kept, fun w12 q13 X12 hb12 hq hq' => ?_⟩
  have s12' := Step.of_no (X11.trans X12) s8.ok
  have s12 := s8.trans s12'
  have r12 := (r4.step s8').step s12'
  have hw12 : Row w12 (grow w8 (tags w4 o4 [p9])) (some (blk q13)) (([⟨0, some (blk w8.heap.size), 16, List.replicate 16 0⟩] : List Wr).flatMap Wr.C) := ⟨RowAt.of_blk hb12, fun _ ad ha => by cases ha; exact grow_ge (by have := X11.size; show w8.heap.size ≤ q13; omega)⟩
  refine (Apply_spec (s := newM 5) (cg := ex12) (wc := 1) (oa := none) (oc := 0) r12 s12.ok (newM_ok 5) hw12 rfl (by show 1 < 1000000; decide) (by decide)).mono fun x w18 ⟨o18, a18, c18, hx, s18', r18, _⟩ => ⟨_, _, _, _, _, hx, (M8.step s12').keep s18' fun _ _ => id, fun w20 X20 => ?_⟩
  rw [f1] at hx r18 ⊢
  have s18 := s12.trans s18'
  have M18 := (M8.step s12').step s18'
  have s20' := Step.stores X20 s18.ok M18 (by simp)
  have s4w := s4.size
  have s20 : Step no w (fun _ => none) w20 _ := s18.trans' s20' fun i hi => .inr (by simp at hi; omega)
  refine (Apply_spec (s := s1) (cg := ex12b) (wa := none) (wc := 0) (oa := none) (oc := 0) (l := []) (r18.step s20') s20.ok k1 (Row.nil _ _ _) rfl (by decide) (by decide)).mono fun x w25 ⟨o25, a25, c25, hx, s25', r25, _⟩ => ⟨_, _, _, _, _, hx, (M18.step s20').keep s25' fun _ _ => id, fun _ => ⟨fun _ w27 X27 => ?_, fun h => absurd (by rw [f2]) h⟩, fun h => absurd rfl h⟩
  rw [f2] at r25 ⊢
  dsimp only at r25 ⊢
  have s25 := s20.trans s25'
  have M25 := (M18.step s20').step s25'
  have s27' := Step.stores X27 s25.ok M25 (by simp)
  have s27 : Step no w (fun _ => none) w27 _ := s25.trans' s27' fun i hi => .inr (by simp at hi; omega)
  have M27 := M25.step s27'
  have r27 := r25.step s27'
  have l2 := k2.le
  refine (May_spec (s := s2) r27 s27.ok k2.sorted (by omega) 1 0 0).mono fun x w32 ⟨hx, o32, s32⟩ => ⟨_, hx, M27.keep s32 fun _ _ => id, fun _ => ?_, fun h => absurd f3 h⟩
  refine (May_spec (s := s2) (r27.step s32) s32.ok k2.sorted (by omega) 1 0 1).mono fun x w36 ⟨hx, o36, s36⟩ => ⟨_, hx, (M27.step s32).keep s36 fun _ _ => id, fun _ => ?_, fun h => absurd f4 h⟩
  refine (May_spec (s := s2) ((r27.step s32).step s36) s36.ok k2.sorted (by omega) 0 3 0).mono fun x w40 ⟨hx, o40, s40⟩ => ⟨_, hx, by rw [f5]; rfl, ?_⟩
  exact (((s27.trans s32).trans s36).trans s40).ext.mono fun b ⟨_, _, h⟩ _ => h
end Go.Proofs.Ytmhfoieeldiecaa

/- Members' laws: predicates. -/
set_option linter.unusedVariables false
set_option linter.unusedSimpArgs false
set_option maxRecDepth 20000
set_option maxHeartbeats 2000000
namespace Go.Proofs.Ytmhfoieeldiecaa
open Go Go.Mx Go.Proofs
end Go.Proofs.Ytmhfoieeldiecaa

/- MembersGone. -/
set_option linter.unusedVariables false
set_option linter.unusedSimpArgs false
set_option maxRecDepth 20000
set_option maxHeartbeats 2000000
namespace Go.Proofs.Ytmhfoieeldiecaa
open Go Go.Mx Go.Proofs
open W (OwnB)
section
variable {w w' w1 : World} {o o' o1 : Own} {a : Option Addr} {c : Nat} {s : MS} {m : Mem} {cg : Chg}
end
end Go.Proofs.Ytmhfoieeldiecaa

/- Members' laws: predicates. -/
set_option linter.unusedVariables false
set_option linter.unusedSimpArgs false
set_option maxRecDepth 20000
set_option maxHeartbeats 2000000
namespace Go.Proofs.Ytmhfoieeldiecaa
open Go Go.Mx Go.Proofs
/-- cachetteref12.who -/
def cachetteref12_who.M (n1 : Int) (R : Value → World → Prop) (w : World) : Prop :=
  bif decide (n1 ≥ 0) then (
  R (.bool (decide (n1 < 8))) w) else (
  R (.bool false) w)

theorem cachetteref12_who.eq (n1 : Int) (R : Value → World → Prop) (w : World) : mfunc Try.prog [] 56 [.int .i64 n1] R w = cachetteref12_who.M n1 R w := by kernel_rfl
theorem cachetteref12_who.ok (n1 : Int) {R : Value → World → Prop} {w : World} (h : cachetteref12_who.M n1 R w) : Calls Try.prog 56 #[.int .i64 n1] w fun e w' => ∃ v, e = .returned v ∧ R v w' :=
  mfunc_ok follows (H := []) (args := [.int .i64 n1]) (by rw [cachetteref12_who.eq]; exact h)

def cachetteref12_who.N (n1 : Int) (R : Value → World → Prop) (w : World) : Prop :=
  (n1 ≥ 0 →
    R (.bool (decide (n1 < 8))) w) ∧
  (n1 < 0 →
    R (.bool false) w)

theorem cachetteref12_who.up (n1 : Int) {R : Value → World → Prop} {w : World} (h : cachetteref12_who.N n1 R w) : cachetteref12_who.M n1 R w := by
  unfold cachetteref12_who.M
  unfold cachetteref12_who.N at h
  refine bif_of (fun c2 => ?_) (fun c2 => ?_)
  · have h := h.1 (of_decide_eq_true c2)
    exact h
  · have h := h.2 (Int.not_le.1 (of_decide_eq_false c2))
    exact h

theorem cachetteref12_who.go (n1 : Int) {R : Value → World → Prop} {w : World} (h : cachetteref12_who.N n1 R w) : Calls Try.prog 56 #[.int .i64 n1] w fun e w' => ∃ v, e = .returned v ∧ R v w' := cachetteref12_who.ok n1 (cachetteref12_who.up n1 h)
theorem cachetteref12_who.run (n1 : Int) {V : Value} {Q : World → Prop} {w : World} (h : cachetteref12_who.N n1 (fun v w' => v = V ∧ Q w') w) : Calls Try.prog 56 #[.int .i64 n1] w (Ret V Q) := (cachetteref12_who.go n1 h).mono fun e w' ⟨v, he, hv, hq⟩ => ⟨by rw [he, hv], hq⟩

def cachetteref12_who.F (n1 : Int) : Bool :=
  if n1 ≥ 0 then
    (decide (n1 < 8))
  else
    false
theorem cachetteref12_who.pure (n1 : Int) {w : World} : Calls Try.prog 56 #[.int .i64 n1] w (Ret (.bool (cachetteref12_who.F n1)) fun w' => Ext no w w') := by
  refine cachetteref12_who.run n1 ?_
  unfold cachetteref12_who.N
  refine ⟨fun c0 => ?_, fun c0 => ?_⟩
  · exact ⟨by unfold cachetteref12_who.F; rw [if_pos c0], Ext.refl _ _⟩
  · exact ⟨by unfold cachetteref12_who.F; rw [if_neg (by omega)], Ext.refl _ _⟩

/-- cachetteref12.Right -/
def cachetteref12_Right.M (cKind1 : Int) (cWho2 : Int) (cPublic3 : Int) (cLimit4 : Int) (cWraps5a : Option Addr) (cWraps5n : Nat) (cWraps5c : Nat) (cOld6a : Option Addr) (cOld6n : Nat) (cOld6c : Nat) (R : Value → World → Prop) (w : World) : Prop :=
  thenW (w.alloc (.cells #[.int .i64 cKind1, .int .i64 cWho2, .int .u64 cPublic3, .int .i64 cLimit4, .slice cWraps5a cWraps5n cWraps5c, .slice cOld6a cOld6n cOld6c] 40)) fun ww7 =>
  ∃ (Old8a : Option Addr) (Old8n : Nat) (Old8c : Nat), ww7.cell? ((blk w.heap.size).add 5) = some (.slice Old8a Old8n Old8c) ∧
  bif (Old8n : Int) != 0 then (
  ∃ (Kind9 : Int), ww7.cell? ((blk w.heap.size).add 0) = some (.int .i64 Kind9) ∧
  bif Kind9 != 3 then (
  R (.bool false) ww7) else (
  ∃ (Old10a : Option Addr) (Old10n : Nat) (Old10c : Nat), ww7.cell? ((blk w.heap.size).add 5) = some (.slice Old10a Old10n Old10c) ∧
  bif (Old10n : Int) != 24 then (
  R (.bool false) ww7) else (
  ∃ (Kind11 : Int), ww7.cell? ((blk w.heap.size).add 0) = some (.int .i64 Kind11) ∧
  bif Kind11 == 1 then (
  ∃ (Who12 : Int), ww7.cell? ((blk w.heap.size).add 1) = some (.int .i64 Who12) ∧
  Calls Try.prog 56 #[.int .i64 Who12] ww7 fun ee14 ww15 => ∃ (who13 : Bool), ee14 = .returned (.bool who13) ∧
  bif who13 then (
  ∃ (Public16 : Int), ww15.cell? ((blk w.heap.size).add 2) = some (.int .u64 Public16) ∧
  bif Public16 != 0 then (
  ∃ (Limit17 : Int), ww15.cell? ((blk w.heap.size).add 3) = some (.int .i64 Limit17) ∧
  bif Limit17 == 0 then (
  ∃ (Wraps18a : Option Addr) (Wraps18n : Nat) (Wraps18c : Nat), ww15.cell? ((blk w.heap.size).add 4) = some (.slice Wraps18a Wraps18n Wraps18c) ∧
  R (.bool ((Wraps18n : Int) == 0)) ww15) else (
  R (.bool false) ww15)) else (
  R (.bool false) ww15)) else (
  R (.bool false) ww15)) else (
  bif Kind11 == 2 then (
  ∃ (Who19 : Int), ww7.cell? ((blk w.heap.size).add 1) = some (.int .i64 Who19) ∧
  Calls Try.prog 56 #[.int .i64 Who19] ww7 fun ee21 ww22 => ∃ (who20 : Bool), ee21 = .returned (.bool who20) ∧
  bif who20 then (
  ∃ (Who23 : Int), ww22.cell? ((blk w.heap.size).add 1) = some (.int .i64 Who23) ∧
  bif Who23 != 0 then (
  ∃ (Public24 : Int), ww22.cell? ((blk w.heap.size).add 2) = some (.int .u64 Public24) ∧
  bif Public24 == 0 then (
  ∃ (Limit25 : Int), ww22.cell? ((blk w.heap.size).add 3) = some (.int .i64 Limit25) ∧
  bif decide (Limit25 ≥ 0) then (
  ∃ (Limit26 : Int), ww22.cell? ((blk w.heap.size).add 3) = some (.int .i64 Limit26) ∧
  bif decide (Limit26 ≤ 200) then (
  ∃ (Wraps27a : Option Addr) (Wraps27n : Nat) (Wraps27c : Nat), ww22.cell? ((blk w.heap.size).add 4) = some (.slice Wraps27a Wraps27n Wraps27c) ∧
  R (.bool ((Wraps27n : Int) == 0)) ww22) else (
  R (.bool false) ww22)) else (
  R (.bool false) ww22)) else (
  R (.bool false) ww22)) else (
  R (.bool false) ww22)) else (
  R (.bool false) ww22)) else (
  bif Kind11 == 3 then (
  ∃ (I1 : Nat → List Value → World → Prop) (m29 : Nat), I1 m29 [.int .i64 0] ww7 ∧ ∀ (m30 : Nat) (ww31 : World) (i28 : Int), I1 m30 [.int .i64 i28] ww31 →
  ∃ (Wraps32a : Option Addr) (Wraps32n : Nat) (Wraps32c : Nat), ww31.cell? ((blk w.heap.size).add 4) = some (.slice Wraps32a Wraps32n Wraps32c) ∧
  bif decide (i28 < (Wraps32n : Int)) then (
  thenW (ww31.drew) fun ww33 =>
  ∃ (Wraps34a : Option Addr) (Wraps34n : Nat) (Wraps34c : Nat), ww33.cell? ((blk w.heap.size).add 4) = some (.slice Wraps34a Wraps34n Wraps34c) ∧
  Wraps34a.elim False fun a35 =>
  0 ≤ (i28 : Int) ∧ (i28 : Int) < (Wraps34n : Int) ∧
  ∃ (Who36 : Int), ww33.cell? ((a35.add (Int.toNat i28 * 2)).add 0) = some (.int .i64 Who36) ∧
  Calls Try.prog 56 #[.int .i64 Who36] ww33 fun ee38 ww39 => ∃ (who37 : Bool), ee38 = .returned (.bool who37) ∧
  bif !who37 then (
  R (.bool false) ww39) else (
  ∃ (Wraps40a : Option Addr) (Wraps40n : Nat) (Wraps40c : Nat), ww39.cell? ((blk w.heap.size).add 4) = some (.slice Wraps40a Wraps40n Wraps40c) ∧
  Wraps40a.elim False fun a41 =>
  0 ≤ (i28 : Int) ∧ (i28 : Int) < (Wraps40n : Int) ∧
  ∃ (B42a : Option Addr) (B42n : Nat) (B42c : Nat), ww39.cell? ((a41.add (Int.toNat i28 * 2)).add 1) = some (.slice B42a B42n B42c) ∧
  bif (B42n : Int) != 16 then (
  R (.bool false) ww39) else (
  bif decide (i28 > 0) then (
  ∃ (Wraps43a : Option Addr) (Wraps43n : Nat) (Wraps43c : Nat), ww39.cell? ((blk w.heap.size).add 4) = some (.slice Wraps43a Wraps43n Wraps43c) ∧
  Wraps43a.elim False fun a44 =>
  0 ≤ ((IntKind.i64.wrap (i28 - 1)) : Int) ∧ ((IntKind.i64.wrap (i28 - 1)) : Int) < (Wraps43n : Int) ∧
  ∃ (Who45 : Int), ww39.cell? ((a44.add (Int.toNat (IntKind.i64.wrap (i28 - 1)) * 2)).add 0) = some (.int .i64 Who45) ∧
  ∃ (Wraps46a : Option Addr) (Wraps46n : Nat) (Wraps46c : Nat), ww39.cell? ((blk w.heap.size).add 4) = some (.slice Wraps46a Wraps46n Wraps46c) ∧
  Wraps46a.elim False fun a47 =>
  0 ≤ (i28 : Int) ∧ (i28 : Int) < (Wraps46n : Int) ∧
  ∃ (Who48 : Int), ww39.cell? ((a47.add (Int.toNat i28 * 2)).add 0) = some (.int .i64 Who48) ∧
  bif decide (Who45 ≥ Who48) then (
  R (.bool false) ww39) else (
  ∃ m49, m49 < m30 ∧ I1 m49 [.int .i64 (IntKind.i64.wrap (i28 + 1))] ww39)) else (
  ∃ m50, m50 < m30 ∧ I1 m50 [.int .i64 (IntKind.i64.wrap (i28 + 1))] ww39)))) else (
  ∃ (Who51 : Int), ww31.cell? ((blk w.heap.size).add 1) = some (.int .i64 Who51) ∧
  bif Who51 == 0 then (
  ∃ (Public52 : Int), ww31.cell? ((blk w.heap.size).add 2) = some (.int .u64 Public52) ∧
  bif Public52 == 0 then (
  ∃ (Limit53 : Int), ww31.cell? ((blk w.heap.size).add 3) = some (.int .i64 Limit53) ∧
  bif Limit53 == 0 then (
  ∃ (Wraps54a : Option Addr) (Wraps54n : Nat) (Wraps54c : Nat), ww31.cell? ((blk w.heap.size).add 4) = some (.slice Wraps54a Wraps54n Wraps54c) ∧
  R (.bool (decide ((Wraps54n : Int) > 0))) ww31) else (
  R (.bool false) ww31)) else (
  R (.bool false) ww31)) else (
  R (.bool false) ww31))) else (
  R (.bool false) ww7)))))) else (
  ∃ (Kind55 : Int), ww7.cell? ((blk w.heap.size).add 0) = some (.int .i64 Kind55) ∧
  bif Kind55 == 1 then (
  ∃ (Who56 : Int), ww7.cell? ((blk w.heap.size).add 1) = some (.int .i64 Who56) ∧
  Calls Try.prog 56 #[.int .i64 Who56] ww7 fun ee58 ww59 => ∃ (who57 : Bool), ee58 = .returned (.bool who57) ∧
  bif who57 then (
  ∃ (Public60 : Int), ww59.cell? ((blk w.heap.size).add 2) = some (.int .u64 Public60) ∧
  bif Public60 != 0 then (
  ∃ (Limit61 : Int), ww59.cell? ((blk w.heap.size).add 3) = some (.int .i64 Limit61) ∧
  bif Limit61 == 0 then (
  ∃ (Wraps62a : Option Addr) (Wraps62n : Nat) (Wraps62c : Nat), ww59.cell? ((blk w.heap.size).add 4) = some (.slice Wraps62a Wraps62n Wraps62c) ∧
  R (.bool ((Wraps62n : Int) == 0)) ww59) else (
  R (.bool false) ww59)) else (
  R (.bool false) ww59)) else (
  R (.bool false) ww59)) else (
  bif Kind55 == 2 then (
  ∃ (Who63 : Int), ww7.cell? ((blk w.heap.size).add 1) = some (.int .i64 Who63) ∧
  Calls Try.prog 56 #[.int .i64 Who63] ww7 fun ee65 ww66 => ∃ (who64 : Bool), ee65 = .returned (.bool who64) ∧
  bif who64 then (
  ∃ (Who67 : Int), ww66.cell? ((blk w.heap.size).add 1) = some (.int .i64 Who67) ∧
  bif Who67 != 0 then (
  ∃ (Public68 : Int), ww66.cell? ((blk w.heap.size).add 2) = some (.int .u64 Public68) ∧
  bif Public68 == 0 then (
  ∃ (Limit69 : Int), ww66.cell? ((blk w.heap.size).add 3) = some (.int .i64 Limit69) ∧
  bif decide (Limit69 ≥ 0) then (
  ∃ (Limit70 : Int), ww66.cell? ((blk w.heap.size).add 3) = some (.int .i64 Limit70) ∧
  bif decide (Limit70 ≤ 200) then (
  ∃ (Wraps71a : Option Addr) (Wraps71n : Nat) (Wraps71c : Nat), ww66.cell? ((blk w.heap.size).add 4) = some (.slice Wraps71a Wraps71n Wraps71c) ∧
  R (.bool ((Wraps71n : Int) == 0)) ww66) else (
  R (.bool false) ww66)) else (
  R (.bool false) ww66)) else (
  R (.bool false) ww66)) else (
  R (.bool false) ww66)) else (
  R (.bool false) ww66)) else (
  bif Kind55 == 3 then (
  ∃ (I1 : Nat → List Value → World → Prop) (m73 : Nat), I1 m73 [.int .i64 0] ww7 ∧ ∀ (m74 : Nat) (ww75 : World) (i72 : Int), I1 m74 [.int .i64 i72] ww75 →
  ∃ (Wraps76a : Option Addr) (Wraps76n : Nat) (Wraps76c : Nat), ww75.cell? ((blk w.heap.size).add 4) = some (.slice Wraps76a Wraps76n Wraps76c) ∧
  bif decide (i72 < (Wraps76n : Int)) then (
  thenW (ww75.drew) fun ww77 =>
  ∃ (Wraps78a : Option Addr) (Wraps78n : Nat) (Wraps78c : Nat), ww77.cell? ((blk w.heap.size).add 4) = some (.slice Wraps78a Wraps78n Wraps78c) ∧
  Wraps78a.elim False fun a79 =>
  0 ≤ (i72 : Int) ∧ (i72 : Int) < (Wraps78n : Int) ∧
  ∃ (Who80 : Int), ww77.cell? ((a79.add (Int.toNat i72 * 2)).add 0) = some (.int .i64 Who80) ∧
  Calls Try.prog 56 #[.int .i64 Who80] ww77 fun ee82 ww83 => ∃ (who81 : Bool), ee82 = .returned (.bool who81) ∧
  bif !who81 then (
  R (.bool false) ww83) else (
  ∃ (Wraps84a : Option Addr) (Wraps84n : Nat) (Wraps84c : Nat), ww83.cell? ((blk w.heap.size).add 4) = some (.slice Wraps84a Wraps84n Wraps84c) ∧
  Wraps84a.elim False fun a85 =>
  0 ≤ (i72 : Int) ∧ (i72 : Int) < (Wraps84n : Int) ∧
  ∃ (B86a : Option Addr) (B86n : Nat) (B86c : Nat), ww83.cell? ((a85.add (Int.toNat i72 * 2)).add 1) = some (.slice B86a B86n B86c) ∧
  bif (B86n : Int) != 16 then (
  R (.bool false) ww83) else (
  bif decide (i72 > 0) then (
  ∃ (Wraps87a : Option Addr) (Wraps87n : Nat) (Wraps87c : Nat), ww83.cell? ((blk w.heap.size).add 4) = some (.slice Wraps87a Wraps87n Wraps87c) ∧
  Wraps87a.elim False fun a88 =>
  0 ≤ ((IntKind.i64.wrap (i72 - 1)) : Int) ∧ ((IntKind.i64.wrap (i72 - 1)) : Int) < (Wraps87n : Int) ∧
  ∃ (Who89 : Int), ww83.cell? ((a88.add (Int.toNat (IntKind.i64.wrap (i72 - 1)) * 2)).add 0) = some (.int .i64 Who89) ∧
  ∃ (Wraps90a : Option Addr) (Wraps90n : Nat) (Wraps90c : Nat), ww83.cell? ((blk w.heap.size).add 4) = some (.slice Wraps90a Wraps90n Wraps90c) ∧
  Wraps90a.elim False fun a91 =>
  0 ≤ (i72 : Int) ∧ (i72 : Int) < (Wraps90n : Int) ∧
  ∃ (Who92 : Int), ww83.cell? ((a91.add (Int.toNat i72 * 2)).add 0) = some (.int .i64 Who92) ∧
  bif decide (Who89 ≥ Who92) then (
  R (.bool false) ww83) else (
  ∃ m93, m93 < m74 ∧ I1 m93 [.int .i64 (IntKind.i64.wrap (i72 + 1))] ww83)) else (
  ∃ m94, m94 < m74 ∧ I1 m94 [.int .i64 (IntKind.i64.wrap (i72 + 1))] ww83)))) else (
  ∃ (Who95 : Int), ww75.cell? ((blk w.heap.size).add 1) = some (.int .i64 Who95) ∧
  bif Who95 == 0 then (
  ∃ (Public96 : Int), ww75.cell? ((blk w.heap.size).add 2) = some (.int .u64 Public96) ∧
  bif Public96 == 0 then (
  ∃ (Limit97 : Int), ww75.cell? ((blk w.heap.size).add 3) = some (.int .i64 Limit97) ∧
  bif Limit97 == 0 then (
  ∃ (Wraps98a : Option Addr) (Wraps98n : Nat) (Wraps98c : Nat), ww75.cell? ((blk w.heap.size).add 4) = some (.slice Wraps98a Wraps98n Wraps98c) ∧
  R (.bool (decide ((Wraps98n : Int) > 0))) ww75) else (
  R (.bool false) ww75)) else (
  R (.bool false) ww75)) else (
  R (.bool false) ww75))) else (
  R (.bool false) ww7))))

theorem cachetteref12_Right.eq (cKind1 : Int) (cWho2 : Int) (cPublic3 : Int) (cLimit4 : Int) (cWraps5a : Option Addr) (cWraps5n : Nat) (cWraps5c : Nat) (cOld6a : Option Addr) (cOld6n : Nat) (cOld6c : Nat) (R : Value → World → Prop) (w : World) : mfunc Try.prog [(1, [1], [(3, (.one (.int .i64)))])] 32 [.agg #[.int .i64 cKind1, .int .i64 cWho2, .int .u64 cPublic3, .int .i64 cLimit4, .slice cWraps5a cWraps5n cWraps5c, .slice cOld6a cOld6n cOld6c]] R w = cachetteref12_Right.M cKind1 cWho2 cPublic3 cLimit4 cWraps5a cWraps5n cWraps5c cOld6a cOld6n cOld6c R w := by kernel_rfl
theorem cachetteref12_Right.ok (cKind1 : Int) (cWho2 : Int) (cPublic3 : Int) (cLimit4 : Int) (cWraps5a : Option Addr) (cWraps5n : Nat) (cWraps5c : Nat) (cOld6a : Option Addr) (cOld6n : Nat) (cOld6c : Nat) {R : Value → World → Prop} {w : World} (h : cachetteref12_Right.M cKind1 cWho2 cPublic3 cLimit4 cWraps5a cWraps5n cWraps5c cOld6a cOld6n cOld6c R w) : Calls Try.prog 32 #[.agg #[.int .i64 cKind1, .int .i64 cWho2, .int .u64 cPublic3, .int .i64 cLimit4, .slice cWraps5a cWraps5n cWraps5c, .slice cOld6a cOld6n cOld6c]] w fun e w' => ∃ v, e = .returned v ∧ R v w' :=
  mfunc_ok follows (H := [(1, [1], [(3, (.one (.int .i64)))])]) (args := [.agg #[.int .i64 cKind1, .int .i64 cWho2, .int .u64 cPublic3, .int .i64 cLimit4, .slice cWraps5a cWraps5n cWraps5c, .slice cOld6a cOld6n cOld6c]]) (by rw [cachetteref12_Right.eq]; exact h)

def cachetteref12_Right.N (cKind1 : Int) (cWho2 : Int) (cPublic3 : Int) (cLimit4 : Int) (cWraps5a : Option Addr) (cWraps5n : Nat) (cWraps5c : Nat) (cOld6a : Option Addr) (cOld6n : Nat) (cOld6c : Nat) (R : Value → World → Prop) (w : World) : Prop :=
  ((cOld6n : Int) ≠ 0 →
    (cKind1 ≠ 3 →
      ∀ (ww7 : World), Ext no w ww7 →
      R (.bool false) ww7) ∧
    (cKind1 = 3 →
      ((cOld6n : Int) ≠ 24 →
        ∀ (ww7 : World), Ext no w ww7 →
        R (.bool false) ww7) ∧
      ((cOld6n : Int) = 24 →
        (cKind1 = 1 →
          ((cachetteref12_who.F cWho2) = true →
            (cPublic3 ≠ 0 →
              (cLimit4 = 0 →
                ∀ (ww14 : World), Ext no w ww14 →
                R (.bool ((cWraps5n : Int) == 0)) ww14) ∧
              (cLimit4 ≠ 0 →
                ∀ (ww14 : World), Ext no w ww14 →
                R (.bool false) ww14)) ∧
            (cPublic3 = 0 →
              ∀ (ww14 : World), Ext no w ww14 →
              R (.bool false) ww14)) ∧
          ((cachetteref12_who.F cWho2) = false →
            ∀ (ww14 : World), Ext no w ww14 →
            R (.bool false) ww14)) ∧
        (cKind1 ≠ 1 →
          (cKind1 = 2 →
            ((cachetteref12_who.F cWho2) = true →
              (cWho2 ≠ 0 →
                (cPublic3 = 0 →
                  (cLimit4 ≥ 0 →
                    (cLimit4 ≤ 200 →
                      ∀ (ww23 : World), Ext no w ww23 →
                      R (.bool ((cWraps5n : Int) == 0)) ww23) ∧
                    ((200 : Int) < cLimit4 →
                      ∀ (ww23 : World), Ext no w ww23 →
                      R (.bool false) ww23)) ∧
                  (cLimit4 < 0 →
                    ∀ (ww23 : World), Ext no w ww23 →
                    R (.bool false) ww23)) ∧
                (cPublic3 ≠ 0 →
                  ∀ (ww23 : World), Ext no w ww23 →
                  R (.bool false) ww23)) ∧
              (cWho2 = 0 →
                ∀ (ww23 : World), Ext no w ww23 →
                R (.bool false) ww23)) ∧
            ((cachetteref12_who.F cWho2) = false →
              ∀ (ww23 : World), Ext no w ww23 →
              R (.bool false) ww23)) ∧
          (cKind1 ≠ 2 →
            (cKind1 = 3 →
              ∀ (ww7 : World), Ext no w ww7 →
              ∃ (I1 : Nat → List Value → World → Prop) (m38 : Nat), I1 m38 [.int .i64 0] ww7 ∧ ∀ (m39 : Nat) (ww40 : World) (i37 : Int), I1 m39 [.int .i64 i37] ww40 →
              (i37 < (cWraps5n : Int) →
                ∃ a43 : Addr, cWraps5a = some a43 ∧
                0 ≤ (i37 : Int) ∧ (i37 : Int) < (cWraps5n : Int) ∧
                ∃ (Who45 : Int), ww40.cell? ((a43.add (Int.toNat i37 * 2)).add 0) = some (.int .i64 Who45) ∧
                ((cachetteref12_who.F Who45) = false →
                  ∀ (ww46 : World), Ext no ww40 ww46 →
                  R (.bool false) ww46) ∧
                ((cachetteref12_who.F Who45) = true →
                  0 ≤ (i37 : Int) ∧ (i37 : Int) < (cWraps5n : Int) ∧
                  ∃ (B49a : Option Addr) (B49n : Nat) (B49c : Nat), ww40.cell? ((a43.add (Int.toNat i37 * 2)).add 1) = some (.slice B49a B49n B49c) ∧
                  ((B49n : Int) ≠ 16 →
                    ∀ (ww46 : World), Ext no ww40 ww46 →
                    R (.bool false) ww46) ∧
                  ((B49n : Int) = 16 →
                    (i37 > 0 →
                      (-9223372036854775808 : Int) ≤ (i37 - 1) ∧ (i37 - 1) < 9223372036854775808 ∧
                      0 ≤ ((i37 - 1) : Int) ∧ ((i37 - 1) : Int) < (cWraps5n : Int) ∧
                      ∃ (Who53 : Int), ww40.cell? ((a43.add (Int.toNat (i37 - 1) * 2)).add 0) = some (.int .i64 Who53) ∧
                      0 ≤ (i37 : Int) ∧ (i37 : Int) < (cWraps5n : Int) ∧
                      ∃ (Who55 : Int), ww40.cell? ((a43.add (Int.toNat i37 * 2)).add 0) = some (.int .i64 Who55) ∧
                      (Who53 ≥ Who55 →
                        ∀ (ww46 : World), Ext no ww40 ww46 →
                        R (.bool false) ww46) ∧
                      (Who53 < Who55 →
                        (-9223372036854775808 : Int) ≤ (i37 + 1) ∧ (i37 + 1) < 9223372036854775808 ∧
                        ∀ (ww46 : World), Ext no ww40 ww46 →
                        ∃ m57, m57 < m39 ∧ I1 m57 [.int .i64 (i37 + 1)] ww46)) ∧
                    (i37 ≤ 0 →
                      (-9223372036854775808 : Int) ≤ (i37 + 1) ∧ (i37 + 1) < 9223372036854775808 ∧
                      ∀ (ww46 : World), Ext no ww40 ww46 →
                      ∃ m58, m58 < m39 ∧ I1 m58 [.int .i64 (i37 + 1)] ww46)))) ∧
              ((cWraps5n : Int) ≤ i37 →
                (cWho2 = 0 →
                  (cPublic3 = 0 →
                    (cLimit4 = 0 →
                      R (.bool (decide ((cWraps5n : Int) > 0))) ww40) ∧
                    (cLimit4 ≠ 0 →
                      R (.bool false) ww40)) ∧
                  (cPublic3 ≠ 0 →
                    R (.bool false) ww40)) ∧
                (cWho2 ≠ 0 →
                  R (.bool false) ww40))) ∧
            (cKind1 ≠ 3 →
              ∀ (ww7 : World), Ext no w ww7 →
              R (.bool false) ww7)))))) ∧
  ((cOld6n : Int) = 0 →
    (cKind1 = 1 →
      ((cachetteref12_who.F cWho2) = true →
        (cPublic3 ≠ 0 →
          (cLimit4 = 0 →
            ∀ (ww64 : World), Ext no w ww64 →
            R (.bool ((cWraps5n : Int) == 0)) ww64) ∧
          (cLimit4 ≠ 0 →
            ∀ (ww64 : World), Ext no w ww64 →
            R (.bool false) ww64)) ∧
        (cPublic3 = 0 →
          ∀ (ww64 : World), Ext no w ww64 →
          R (.bool false) ww64)) ∧
      ((cachetteref12_who.F cWho2) = false →
        ∀ (ww64 : World), Ext no w ww64 →
        R (.bool false) ww64)) ∧
    (cKind1 ≠ 1 →
      (cKind1 = 2 →
        ((cachetteref12_who.F cWho2) = true →
          (cWho2 ≠ 0 →
            (cPublic3 = 0 →
              (cLimit4 ≥ 0 →
                (cLimit4 ≤ 200 →
                  ∀ (ww73 : World), Ext no w ww73 →
                  R (.bool ((cWraps5n : Int) == 0)) ww73) ∧
                ((200 : Int) < cLimit4 →
                  ∀ (ww73 : World), Ext no w ww73 →
                  R (.bool false) ww73)) ∧
              (cLimit4 < 0 →
                ∀ (ww73 : World), Ext no w ww73 →
                R (.bool false) ww73)) ∧
            (cPublic3 ≠ 0 →
              ∀ (ww73 : World), Ext no w ww73 →
              R (.bool false) ww73)) ∧
          (cWho2 = 0 →
            ∀ (ww73 : World), Ext no w ww73 →
            R (.bool false) ww73)) ∧
        ((cachetteref12_who.F cWho2) = false →
          ∀ (ww73 : World), Ext no w ww73 →
          R (.bool false) ww73)) ∧
      (cKind1 ≠ 2 →
        (cKind1 = 3 →
          ∀ (ww7 : World), Ext no w ww7 →
          ∃ (I1 : Nat → List Value → World → Prop) (m88 : Nat), I1 m88 [.int .i64 0] ww7 ∧ ∀ (m89 : Nat) (ww90 : World) (i87 : Int), I1 m89 [.int .i64 i87] ww90 →
          (i87 < (cWraps5n : Int) →
            ∃ a93 : Addr, cWraps5a = some a93 ∧
            0 ≤ (i87 : Int) ∧ (i87 : Int) < (cWraps5n : Int) ∧
            ∃ (Who95 : Int), ww90.cell? ((a93.add (Int.toNat i87 * 2)).add 0) = some (.int .i64 Who95) ∧
            ((cachetteref12_who.F Who95) = false →
              ∀ (ww96 : World), Ext no ww90 ww96 →
              R (.bool false) ww96) ∧
            ((cachetteref12_who.F Who95) = true →
              0 ≤ (i87 : Int) ∧ (i87 : Int) < (cWraps5n : Int) ∧
              ∃ (B99a : Option Addr) (B99n : Nat) (B99c : Nat), ww90.cell? ((a93.add (Int.toNat i87 * 2)).add 1) = some (.slice B99a B99n B99c) ∧
              ((B99n : Int) ≠ 16 →
                ∀ (ww96 : World), Ext no ww90 ww96 →
                R (.bool false) ww96) ∧
              ((B99n : Int) = 16 →
                (i87 > 0 →
                  (-9223372036854775808 : Int) ≤ (i87 - 1) ∧ (i87 - 1) < 9223372036854775808 ∧
                  0 ≤ ((i87 - 1) : Int) ∧ ((i87 - 1) : Int) < (cWraps5n : Int) ∧
                  ∃ (Who103 : Int), ww90.cell? ((a93.add (Int.toNat (i87 - 1) * 2)).add 0) = some (.int .i64 Who103) ∧
                  0 ≤ (i87 : Int) ∧ (i87 : Int) < (cWraps5n : Int) ∧
                  ∃ (Who105 : Int), ww90.cell? ((a93.add (Int.toNat i87 * 2)).add 0) = some (.int .i64 Who105) ∧
                  (Who103 ≥ Who105 →
                    ∀ (ww96 : World), Ext no ww90 ww96 →
                    R (.bool false) ww96) ∧
                  (Who103 < Who105 →
                    (-9223372036854775808 : Int) ≤ (i87 + 1) ∧ (i87 + 1) < 9223372036854775808 ∧
                    ∀ (ww96 : World), Ext no ww90 ww96 →
                    ∃ m107, m107 < m89 ∧ I1 m107 [.int .i64 (i87 + 1)] ww96)) ∧
                (i87 ≤ 0 →
                  (-9223372036854775808 : Int) ≤ (i87 + 1) ∧ (i87 + 1) < 9223372036854775808 ∧
                  ∀ (ww96 : World), Ext no ww90 ww96 →
                  ∃ m108, m108 < m89 ∧ I1 m108 [.int .i64 (i87 + 1)] ww96)))) ∧
          ((cWraps5n : Int) ≤ i87 →
            (cWho2 = 0 →
              (cPublic3 = 0 →
                (cLimit4 = 0 →
                  R (.bool (decide ((cWraps5n : Int) > 0))) ww90) ∧
                (cLimit4 ≠ 0 →
                  R (.bool false) ww90)) ∧
              (cPublic3 ≠ 0 →
                R (.bool false) ww90)) ∧
            (cWho2 ≠ 0 →
              R (.bool false) ww90))) ∧
        (cKind1 ≠ 3 →
          ∀ (ww7 : World), Ext no w ww7 →
          R (.bool false) ww7))))

theorem cachetteref12_Right.up (cKind1 : Int) (cWho2 : Int) (cPublic3 : Int) (cLimit4 : Int) (cWraps5a : Option Addr) (cWraps5n : Nat) (cWraps5c : Nat) (cOld6a : Option Addr) (cOld6n : Nat) (cOld6c : Nat) {R : Value → World → Prop} {w : World} (h : cachetteref12_Right.N cKind1 cWho2 cPublic3 cLimit4 cWraps5a cWraps5n cWraps5c cOld6a cOld6n cOld6c R w) : cachetteref12_Right.M cKind1 cWho2 cPublic3 cLimit4 cWraps5a cWraps5n cWraps5c cOld6a cOld6n cOld6c R w := by
  unfold cachetteref12_Right.M
  unfold cachetteref12_Right.N at h
  refine thenW_in fun ww7 e7 => ?_
  have hb1 := Blk.of_new e7
  have hg1 := ((Ext.refl no w)).size
  have hx7 := (Ext.refl no w).x_alloc e7
  refine ⟨cOld6a, cOld6n, cOld6c, hb1.celli 5 rfl rfl, ?_⟩
  refine bif_of (fun c8 => ?_) (fun c8 => ?_)
  · have h := h.1 (bne_t c8)
    refine ⟨cKind1, hb1.celli 0 rfl rfl, ?_⟩
    refine bif_of (fun c9 => ?_) (fun c9 => ?_)
    · have h := h.1 (bne_t c9)
      have h := h ww7 hx7
      exact h
    · have h := h.2 (bne_f c9)
      refine ⟨cOld6a, cOld6n, cOld6c, hb1.celli 5 rfl rfl, ?_⟩
      refine bif_of (fun c11 => ?_) (fun c11 => ?_)
      · have h := h.1 (bne_t c11)
        have h := h ww7 hx7
        exact h
      · have h := h.2 (bne_f c11)
        refine ⟨cKind1, hb1.celli 0 rfl rfl, ?_⟩
        refine bif_of (fun c13 => ?_) (fun c13 => ?_)
        · have h := h.1 (beq_t c13)
          refine ⟨cWho2, hb1.celli 1 rfl rfl, ?_⟩
          refine (cachetteref12_who.pure cWho2).mono fun ee ww14 ⟨he, hxx⟩ => ⟨(cachetteref12_who.F cWho2), he, ?_⟩
          have hx14 := hx7.trans hxx
          have hb1 := hb1.ext hxx id
          refine bif_of (fun c15 => ?_) (fun c15 => ?_)
          · have h := h.1 c15
            refine ⟨cPublic3, hb1.celli 2 rfl rfl, ?_⟩
            refine bif_of (fun c16 => ?_) (fun c16 => ?_)
            · have h := h.1 (bne_t c16)
              refine ⟨cLimit4, hb1.celli 3 rfl rfl, ?_⟩
              refine bif_of (fun c17 => ?_) (fun c17 => ?_)
              · have h := h.1 (beq_t c17)
                refine ⟨cWraps5a, cWraps5n, cWraps5c, hb1.celli 4 rfl rfl, ?_⟩
                have h := h ww14 hx14
                exact h
              · have h := h.2 (beq_f c17)
                have h := h ww14 hx14
                exact h
            · have h := h.2 (bne_f c16)
              have h := h ww14 hx14
              exact h
          · have h := h.2 c15
            have h := h ww14 hx14
            exact h
        · have h := h.2 (beq_f c13)
          refine bif_of (fun c22 => ?_) (fun c22 => ?_)
          · have h := h.1 (beq_t c22)
            refine ⟨cWho2, hb1.celli 1 rfl rfl, ?_⟩
            refine (cachetteref12_who.pure cWho2).mono fun ee ww23 ⟨he, hxx⟩ => ⟨(cachetteref12_who.F cWho2), he, ?_⟩
            have hx23 := hx7.trans hxx
            have hb1 := hb1.ext hxx id
            refine bif_of (fun c24 => ?_) (fun c24 => ?_)
            · have h := h.1 c24
              refine ⟨cWho2, hb1.celli 1 rfl rfl, ?_⟩
              refine bif_of (fun c25 => ?_) (fun c25 => ?_)
              · have h := h.1 (bne_t c25)
                refine ⟨cPublic3, hb1.celli 2 rfl rfl, ?_⟩
                refine bif_of (fun c26 => ?_) (fun c26 => ?_)
                · have h := h.1 (beq_t c26)
                  refine ⟨cLimit4, hb1.celli 3 rfl rfl, ?_⟩
                  refine bif_of (fun c27 => ?_) (fun c27 => ?_)
                  · have h := h.1 (of_decide_eq_true c27)
                    refine ⟨cLimit4, hb1.celli 3 rfl rfl, ?_⟩
                    refine bif_of (fun c28 => ?_) (fun c28 => ?_)
                    · have h := h.1 (of_decide_eq_true c28)
                      refine ⟨cWraps5a, cWraps5n, cWraps5c, hb1.celli 4 rfl rfl, ?_⟩
                      have h := h ww23 hx23
                      exact h
                    · have h := h.2 (Int.not_le.1 (of_decide_eq_false c28))
                      have h := h ww23 hx23
                      exact h
                  · have h := h.2 (Int.not_le.1 (of_decide_eq_false c27))
                    have h := h ww23 hx23
                    exact h
                · have h := h.2 (beq_f c26)
                  have h := h ww23 hx23
                  exact h
              · have h := h.2 (bne_f c25)
                have h := h ww23 hx23
                exact h
            · have h := h.2 c24
              have h := h ww23 hx23
              exact h
          · have h := h.2 (beq_f c22)
            refine bif_of (fun c35 => ?_) (fun c35 => ?_)
            · have h := h.1 (beq_t c35)
              have h := h ww7 hx7
              obtain ⟨I1, m38, h0, h⟩ := h
              refine ⟨fun k vs ww => Blk ww w.heap.size 40 [.int .i64 cKind1, .int .i64 cWho2, .int .u64 cPublic3, .int .i64 cLimit4, .slice cWraps5a cWraps5n cWraps5c, .slice cOld6a cOld6n cOld6c] ∧ I1 k vs ww, m38, ⟨hb1, h0⟩, fun m39 ww40 i37 hI => ?_⟩
              obtain ⟨hb1, hI⟩ := hI
              have h := h m39 ww40 i37 hI
              refine ⟨cWraps5a, cWraps5n, cWraps5c, hb1.celli 4 rfl rfl, ?_⟩
              refine bif_of (fun c41 => ?_) (fun c41 => ?_)
              · have h := h.1 (of_decide_eq_true c41)
                refine thenW_in fun ww42 e42 => ?_
                have hx42 := (Ext.refl no ww40).x_drew e42
                have hb1 := hb1.x_drew e42
                refine ⟨cWraps5a, cWraps5n, cWraps5c, hb1.celli 4 rfl rfl, ?_⟩
                obtain ⟨a43, ha43, h⟩ := h
                refine elim_some ha43 ?_
                obtain ⟨hq1, hq2, h⟩ := h
                refine ⟨hq1, hq2, ?_⟩
                obtain ⟨Who45, hc44, h⟩ := h
                refine ⟨Who45, (hx42).cell hc44 id, ?_⟩
                refine (cachetteref12_who.pure Who45).mono fun ee ww46 ⟨he, hxx⟩ => ⟨(cachetteref12_who.F Who45), he, ?_⟩
                have hx46 := hx42.trans hxx
                have hb1 := hb1.ext hxx id
                refine bif_of (fun c47 => ?_) (fun c47 => ?_)
                · have h := h.1 (not_t c47)
                  have h := h ww46 hx46
                  exact h
                · have h := h.2 (not_f c47)
                  refine ⟨cWraps5a, cWraps5n, cWraps5c, hb1.celli 4 rfl rfl, ?_⟩
                  refine elim_some ha43 ?_
                  obtain ⟨hq1, hq2, h⟩ := h
                  refine ⟨hq1, hq2, ?_⟩
                  obtain ⟨B49a, B49n, B49c, hc48, h⟩ := h
                  refine ⟨B49a, B49n, B49c, (hx46).cell hc48 id, ?_⟩
                  refine bif_of (fun c50 => ?_) (fun c50 => ?_)
                  · have h := h.1 (bne_t c50)
                    have h := h ww46 hx46
                    exact h
                  · have h := h.2 (bne_f c50)
                    refine bif_of (fun c51 => ?_) (fun c51 => ?_)
                    · have h := h.1 (of_decide_eq_true c51)
                      refine ⟨cWraps5a, cWraps5n, cWraps5c, hb1.celli 4 rfl rfl, ?_⟩
                      obtain ⟨hw1, hw2, h⟩ := h
                      try rw [w64 hw1 hw2]
                      refine elim_some ha43 ?_
                      obtain ⟨hq1, hq2, h⟩ := h
                      refine ⟨hq1, hq2, ?_⟩
                      obtain ⟨Who53, hc52, h⟩ := h
                      refine ⟨Who53, (hx46).cell hc52 id, ?_⟩
                      refine ⟨cWraps5a, cWraps5n, cWraps5c, hb1.celli 4 rfl rfl, ?_⟩
                      refine elim_some ha43 ?_
                      obtain ⟨hq1, hq2, h⟩ := h
                      refine ⟨hq1, hq2, ?_⟩
                      obtain ⟨Who55, hc54, h⟩ := h
                      refine ⟨Who55, (hx46).cell hc54 id, ?_⟩
                      refine bif_of (fun c56 => ?_) (fun c56 => ?_)
                      · have h := h.1 (of_decide_eq_true c56)
                        have h := h ww46 hx46
                        exact h
                      · have h := h.2 (Int.not_le.1 (of_decide_eq_false c56))
                        obtain ⟨hw1, hw2, h⟩ := h
                        try rw [w64 hw1 hw2]
                        have h := h ww46 hx46
                        obtain ⟨m57, hk, h⟩ := h
                        exact ⟨m57, hk, hb1, h⟩
                    · have h := h.2 (Int.not_lt.1 (of_decide_eq_false c51))
                      obtain ⟨hw1, hw2, h⟩ := h
                      try rw [w64 hw1 hw2]
                      have h := h ww46 hx46
                      obtain ⟨m58, hk, h⟩ := h
                      exact ⟨m58, hk, hb1, h⟩
              · have h := h.2 (Int.not_lt.1 (of_decide_eq_false c41))
                refine ⟨cWho2, hb1.celli 1 rfl rfl, ?_⟩
                refine bif_of (fun c59 => ?_) (fun c59 => ?_)
                · have h := h.1 (beq_t c59)
                  refine ⟨cPublic3, hb1.celli 2 rfl rfl, ?_⟩
                  refine bif_of (fun c60 => ?_) (fun c60 => ?_)
                  · have h := h.1 (beq_t c60)
                    refine ⟨cLimit4, hb1.celli 3 rfl rfl, ?_⟩
                    refine bif_of (fun c61 => ?_) (fun c61 => ?_)
                    · have h := h.1 (beq_t c61)
                      refine ⟨cWraps5a, cWraps5n, cWraps5c, hb1.celli 4 rfl rfl, ?_⟩
                      exact h
                    · have h := h.2 (beq_f c61)
                      exact h
                  · have h := h.2 (beq_f c60)
                    exact h
                · have h := h.2 (beq_f c59)
                  exact h
            · have h := h.2 (beq_f c35)
              have h := h ww7 hx7
              exact h
  · have h := h.2 (bne_f c8)
    refine ⟨cKind1, hb1.celli 0 rfl rfl, ?_⟩
    refine bif_of (fun c63 => ?_) (fun c63 => ?_)
    · have h := h.1 (beq_t c63)
      refine ⟨cWho2, hb1.celli 1 rfl rfl, ?_⟩
      refine (cachetteref12_who.pure cWho2).mono fun ee ww64 ⟨he, hxx⟩ => ⟨(cachetteref12_who.F cWho2), he, ?_⟩
      have hx64 := hx7.trans hxx
      have hb1 := hb1.ext hxx id
      refine bif_of (fun c65 => ?_) (fun c65 => ?_)
      · have h := h.1 c65
        refine ⟨cPublic3, hb1.celli 2 rfl rfl, ?_⟩
        refine bif_of (fun c66 => ?_) (fun c66 => ?_)
        · have h := h.1 (bne_t c66)
          refine ⟨cLimit4, hb1.celli 3 rfl rfl, ?_⟩
          refine bif_of (fun c67 => ?_) (fun c67 => ?_)
          · have h := h.1 (beq_t c67)
            refine ⟨cWraps5a, cWraps5n, cWraps5c, hb1.celli 4 rfl rfl, ?_⟩
            have h := h ww64 hx64
            exact h
          · have h := h.2 (beq_f c67)
            have h := h ww64 hx64
            exact h
        · have h := h.2 (bne_f c66)
          have h := h ww64 hx64
          exact h
      · have h := h.2 c65
        have h := h ww64 hx64
        exact h
    · have h := h.2 (beq_f c63)
      refine bif_of (fun c72 => ?_) (fun c72 => ?_)
      · have h := h.1 (beq_t c72)
        refine ⟨cWho2, hb1.celli 1 rfl rfl, ?_⟩
        refine (cachetteref12_who.pure cWho2).mono fun ee ww73 ⟨he, hxx⟩ => ⟨(cachetteref12_who.F cWho2), he, ?_⟩
        have hx73 := hx7.trans hxx
        have hb1 := hb1.ext hxx id
        refine bif_of (fun c74 => ?_) (fun c74 => ?_)
        · have h := h.1 c74
          refine ⟨cWho2, hb1.celli 1 rfl rfl, ?_⟩
          refine bif_of (fun c75 => ?_) (fun c75 => ?_)
          · have h := h.1 (bne_t c75)
            refine ⟨cPublic3, hb1.celli 2 rfl rfl, ?_⟩
            refine bif_of (fun c76 => ?_) (fun c76 => ?_)
            · have h := h.1 (beq_t c76)
              refine ⟨cLimit4, hb1.celli 3 rfl rfl, ?_⟩
              refine bif_of (fun c77 => ?_) (fun c77 => ?_)
              · have h := h.1 (of_decide_eq_true c77)
                refine ⟨cLimit4, hb1.celli 3 rfl rfl, ?_⟩
                refine bif_of (fun c78 => ?_) (fun c78 => ?_)
                · have h := h.1 (of_decide_eq_true c78)
                  refine ⟨cWraps5a, cWraps5n, cWraps5c, hb1.celli 4 rfl rfl, ?_⟩
                  have h := h ww73 hx73
                  exact h
                · have h := h.2 (Int.not_le.1 (of_decide_eq_false c78))
                  have h := h ww73 hx73
                  exact h
              · have h := h.2 (Int.not_le.1 (of_decide_eq_false c77))
                have h := h ww73 hx73
                exact h
            · have h := h.2 (beq_f c76)
              have h := h ww73 hx73
              exact h
          · have h := h.2 (bne_f c75)
            have h := h ww73 hx73
            exact h
        · have h := h.2 c74
          have h := h ww73 hx73
          exact h
      · have h := h.2 (beq_f c72)
        refine bif_of (fun c85 => ?_) (fun c85 => ?_)
        · have h := h.1 (beq_t c85)
          have h := h ww7 hx7
          obtain ⟨I1, m88, h0, h⟩ := h
          refine ⟨fun k vs ww => Blk ww w.heap.size 40 [.int .i64 cKind1, .int .i64 cWho2, .int .u64 cPublic3, .int .i64 cLimit4, .slice cWraps5a cWraps5n cWraps5c, .slice cOld6a cOld6n cOld6c] ∧ I1 k vs ww, m88, ⟨hb1, h0⟩, fun m89 ww90 i87 hI => ?_⟩
          obtain ⟨hb1, hI⟩ := hI
          have h := h m89 ww90 i87 hI
          refine ⟨cWraps5a, cWraps5n, cWraps5c, hb1.celli 4 rfl rfl, ?_⟩
          refine bif_of (fun c91 => ?_) (fun c91 => ?_)
          · have h := h.1 (of_decide_eq_true c91)
            refine thenW_in fun ww92 e92 => ?_
            have hx92 := (Ext.refl no ww90).x_drew e92
            have hb1 := hb1.x_drew e92
            refine ⟨cWraps5a, cWraps5n, cWraps5c, hb1.celli 4 rfl rfl, ?_⟩
            obtain ⟨a93, ha93, h⟩ := h
            refine elim_some ha93 ?_
            obtain ⟨hq1, hq2, h⟩ := h
            refine ⟨hq1, hq2, ?_⟩
            obtain ⟨Who95, hc94, h⟩ := h
            refine ⟨Who95, (hx92).cell hc94 id, ?_⟩
            refine (cachetteref12_who.pure Who95).mono fun ee ww96 ⟨he, hxx⟩ => ⟨(cachetteref12_who.F Who95), he, ?_⟩
            have hx96 := hx92.trans hxx
            have hb1 := hb1.ext hxx id
            refine bif_of (fun c97 => ?_) (fun c97 => ?_)
            · have h := h.1 (not_t c97)
              have h := h ww96 hx96
              exact h
            · have h := h.2 (not_f c97)
              refine ⟨cWraps5a, cWraps5n, cWraps5c, hb1.celli 4 rfl rfl, ?_⟩
              refine elim_some ha93 ?_
              obtain ⟨hq1, hq2, h⟩ := h
              refine ⟨hq1, hq2, ?_⟩
              obtain ⟨B99a, B99n, B99c, hc98, h⟩ := h
              refine ⟨B99a, B99n, B99c, (hx96).cell hc98 id, ?_⟩
              refine bif_of (fun c100 => ?_) (fun c100 => ?_)
              · have h := h.1 (bne_t c100)
                have h := h ww96 hx96
                exact h
              · have h := h.2 (bne_f c100)
                refine bif_of (fun c101 => ?_) (fun c101 => ?_)
                · have h := h.1 (of_decide_eq_true c101)
                  refine ⟨cWraps5a, cWraps5n, cWraps5c, hb1.celli 4 rfl rfl, ?_⟩
                  obtain ⟨hw1, hw2, h⟩ := h
                  try rw [w64 hw1 hw2]
                  refine elim_some ha93 ?_
                  obtain ⟨hq1, hq2, h⟩ := h
                  refine ⟨hq1, hq2, ?_⟩
                  obtain ⟨Who103, hc102, h⟩ := h
                  refine ⟨Who103, (hx96).cell hc102 id, ?_⟩
                  refine ⟨cWraps5a, cWraps5n, cWraps5c, hb1.celli 4 rfl rfl, ?_⟩
                  refine elim_some ha93 ?_
                  obtain ⟨hq1, hq2, h⟩ := h
                  refine ⟨hq1, hq2, ?_⟩
                  obtain ⟨Who105, hc104, h⟩ := h
                  refine ⟨Who105, (hx96).cell hc104 id, ?_⟩
                  refine bif_of (fun c106 => ?_) (fun c106 => ?_)
                  · have h := h.1 (of_decide_eq_true c106)
                    have h := h ww96 hx96
                    exact h
                  · have h := h.2 (Int.not_le.1 (of_decide_eq_false c106))
                    obtain ⟨hw1, hw2, h⟩ := h
                    try rw [w64 hw1 hw2]
                    have h := h ww96 hx96
                    obtain ⟨m107, hk, h⟩ := h
                    exact ⟨m107, hk, hb1, h⟩
                · have h := h.2 (Int.not_lt.1 (of_decide_eq_false c101))
                  obtain ⟨hw1, hw2, h⟩ := h
                  try rw [w64 hw1 hw2]
                  have h := h ww96 hx96
                  obtain ⟨m108, hk, h⟩ := h
                  exact ⟨m108, hk, hb1, h⟩
          · have h := h.2 (Int.not_lt.1 (of_decide_eq_false c91))
            refine ⟨cWho2, hb1.celli 1 rfl rfl, ?_⟩
            refine bif_of (fun c109 => ?_) (fun c109 => ?_)
            · have h := h.1 (beq_t c109)
              refine ⟨cPublic3, hb1.celli 2 rfl rfl, ?_⟩
              refine bif_of (fun c110 => ?_) (fun c110 => ?_)
              · have h := h.1 (beq_t c110)
                refine ⟨cLimit4, hb1.celli 3 rfl rfl, ?_⟩
                refine bif_of (fun c111 => ?_) (fun c111 => ?_)
                · have h := h.1 (beq_t c111)
                  refine ⟨cWraps5a, cWraps5n, cWraps5c, hb1.celli 4 rfl rfl, ?_⟩
                  exact h
                · have h := h.2 (beq_f c111)
                  exact h
              · have h := h.2 (beq_f c110)
                exact h
            · have h := h.2 (beq_f c109)
              exact h
        · have h := h.2 (beq_f c85)
          have h := h ww7 hx7
          exact h

theorem cachetteref12_Right.go (cKind1 : Int) (cWho2 : Int) (cPublic3 : Int) (cLimit4 : Int) (cWraps5a : Option Addr) (cWraps5n : Nat) (cWraps5c : Nat) (cOld6a : Option Addr) (cOld6n : Nat) (cOld6c : Nat) {R : Value → World → Prop} {w : World} (h : cachetteref12_Right.N cKind1 cWho2 cPublic3 cLimit4 cWraps5a cWraps5n cWraps5c cOld6a cOld6n cOld6c R w) : Calls Try.prog 32 #[.agg #[.int .i64 cKind1, .int .i64 cWho2, .int .u64 cPublic3, .int .i64 cLimit4, .slice cWraps5a cWraps5n cWraps5c, .slice cOld6a cOld6n cOld6c]] w fun e w' => ∃ v, e = .returned v ∧ R v w' := cachetteref12_Right.ok cKind1 cWho2 cPublic3 cLimit4 cWraps5a cWraps5n cWraps5c cOld6a cOld6n cOld6c (cachetteref12_Right.up cKind1 cWho2 cPublic3 cLimit4 cWraps5a cWraps5n cWraps5c cOld6a cOld6n cOld6c h)
theorem cachetteref12_Right.run (cKind1 : Int) (cWho2 : Int) (cPublic3 : Int) (cLimit4 : Int) (cWraps5a : Option Addr) (cWraps5n : Nat) (cWraps5c : Nat) (cOld6a : Option Addr) (cOld6n : Nat) (cOld6c : Nat) {V : Value} {Q : World → Prop} {w : World} (h : cachetteref12_Right.N cKind1 cWho2 cPublic3 cLimit4 cWraps5a cWraps5n cWraps5c cOld6a cOld6n cOld6c (fun v w' => v = V ∧ Q w') w) : Calls Try.prog 32 #[.agg #[.int .i64 cKind1, .int .i64 cWho2, .int .u64 cPublic3, .int .i64 cLimit4, .slice cWraps5a cWraps5n cWraps5c, .slice cOld6a cOld6n cOld6c]] w (Ret V Q) := (cachetteref12_Right.go cKind1 cWho2 cPublic3 cLimit4 cWraps5a cWraps5n cWraps5c cOld6a cOld6n cOld6c h).mono fun e w' ⟨v, he, hv, hq⟩ => ⟨by rw [he, hv], hq⟩

end Go.Proofs.Ytmhfoieeldiecaa

/- MembersKeeps. -/
set_option linter.unusedVariables false
set_option linter.unusedSimpArgs false
set_option maxRecDepth 20000
set_option maxHeartbeats 2000000
namespace Go.Proofs.Ytmhfoieeldiecaa
open Go Go.Mx Go.Proofs
open W (OwnB)
section
variable {w w' w1 : World} {o o' o1 : Own} {a b : Option Addr} {c d N : Nat} {s t : MS} {m : Mem} {cg : Chg} {ml : List Mem}
end
end Go.Proofs.Ytmhfoieeldiecaa

/- Members: the reference's functions. -/
set_option linter.unusedVariables false
set_option linter.unusedSimpArgs false
set_option maxRecDepth 20000
set_option maxHeartbeats 4000000
namespace Go.Proofs.Ytmhfoieeldiecaa
open Go Go.Mx Go.Proofs
open W (OwnB)
section
variable {w w' w1 : World} {o o' o1 : Own} {a b : Option Addr} {c d N : Nat} {s t : MS} {m : Mem} {cg : Chg} {ml : List Mem} {l : List Wr} {wa oa : Option Addr} {wc oc : Nat}
theorem who_F (x : Int) : cachetteref12_who.F x = decide (0 ≤ x ∧ x < 8) := by
  unfold cachetteref12_who.F
  by_cases h : x ≥ 0
  · rw [if_pos h]
    by_cases h2 : x < 8 <;> simp [h2] <;> omega
  · rw [if_neg h]
    rw [eq_comm, decide_eq_false_iff_not]; omega
end
end Go.Proofs.Ytmhfoieeldiecaa

/- Members: the reference's Right, Apply, and Behind; the program's Behind. -/
set_option linter.unusedVariables false
set_option linter.unusedSimpArgs false
set_option maxRecDepth 20000
set_option maxHeartbeats 4000000
namespace Go.Proofs.Ytmhfoieeldiecaa
open Go Go.Mx Go.Proofs
open W (OwnB)
section
variable {w w' w1 : World} {o o' o1 : Own} {a b : Option Addr} {c d N : Nat} {s t : MS} {m : Mem} {cg : Chg} {ml : List Mem} {l : List Wr} {wa oa : Option Addr} {wc oc : Nat}
theorem boxesP_nil : boxesP [] = false := rfl
theorem rightM_1 (h : cg.kd = 1) : rightM cg = decide ((0 ≤ cg.who ∧ cg.who < 8) ∧ cg.pub ≠ 0 ∧ cg.lim = 0 ∧ cg.ws = [] ∧ cg.old = []) := by
  unfold rightM
  by_cases h1 : 0 ≤ cg.who ∧ cg.who < 8
  · rw [if_pos h1, show (cg.kd == 3) = false by rw [h]; rfl]
    by_cases h2 : cg.ws = [] ∧ cg.old = []
    · rw [h2.1, h2.2, if_pos boxesP_nil.symm, if_neg (by simp), if_pos h]
      simp [h1]
    · have : decide ((0 ≤ cg.who ∧ cg.who < 8) ∧ cg.pub ≠ 0 ∧ cg.lim = 0 ∧ cg.ws = [] ∧ cg.old = []) = false := decide_eq_false fun h => h2 ⟨h.2.2.2.1, h.2.2.2.2⟩
      rw [this]
      split
      · rw [if_pos ⟨by rw [h]; decide, h2⟩]
      · rfl
  · rw [if_neg h1, eq_comm, decide_eq_false_iff_not]; exact fun h => h1 h.1
theorem rightM_2 (h : cg.kd = 2) : rightM cg = decide ((0 ≤ cg.who ∧ cg.who < 8) ∧ cg.who ≠ 0 ∧ cg.pub = 0 ∧ 0 ≤ cg.lim ∧ cg.lim ≤ 200 ∧ cg.ws = [] ∧ cg.old = []) := by
  unfold rightM
  by_cases h1 : 0 ≤ cg.who ∧ cg.who < 8
  · rw [if_pos h1, show (cg.kd == 3) = false by rw [h]; rfl]
    by_cases h2 : cg.ws = [] ∧ cg.old = []
    · rw [h2.1, h2.2, if_pos boxesP_nil.symm, if_neg (by simp), if_neg (by rw [h]; decide), if_pos h]
      simp [h1]
    · have : decide ((0 ≤ cg.who ∧ cg.who < 8) ∧ cg.who ≠ 0 ∧ cg.pub = 0 ∧ 0 ≤ cg.lim ∧ cg.lim ≤ 200 ∧ cg.ws = [] ∧ cg.old = []) = false := decide_eq_false fun h => h2 ⟨h.2.2.2.2.2.1, h.2.2.2.2.2.2⟩
      rw [this]
      split
      · rw [if_pos ⟨by rw [h]; decide, h2⟩]
      · rfl
  · rw [if_neg h1, eq_comm, decide_eq_false_iff_not]; exact fun h => h1 h.1
theorem rightM_3 (h : cg.kd = 3) : rightM cg = (boxesP cg.ws && decide (cg.who = 0 ∧ cg.pub = 0 ∧ cg.lim = 0 ∧ (cg.old.length = 0 ∨ cg.old.length = 24))) := by
  unfold rightM
  by_cases h1 : 0 ≤ cg.who ∧ cg.who < 8
  · rw [if_pos h1, show (cg.kd == 3) = true by rw [h]; rfl]
    cases hb : boxesP cg.ws
    · rw [if_neg (by decide)]; rfl
    · rw [if_pos rfl, if_neg (fun h' => h'.1 h), if_neg (by rw [h]; decide), if_neg (by rw [h]; decide), if_pos h]; rfl
  · rw [if_neg h1]
    have : decide (cg.who = 0 ∧ cg.pub = 0 ∧ cg.lim = 0 ∧ (cg.old.length = 0 ∨ cg.old.length = 24)) = false := decide_eq_false fun h => h1 (by rw [h.1]; decide)
    rw [this, Bool.and_false]
theorem rightM_0 (h1 : cg.kd ≠ 1) (h2 : cg.kd ≠ 2) (h3 : cg.kd ≠ 3) : rightM cg = false := by
  unfold rightM
  split
  · split
    · split
      · rfl
      · simp only [if_neg h1, if_neg h2, if_neg h3]
    · rfl
  · rfl
theorem rRight_spec (hr : RowAt w wa (l.flatMap Wr.C)) (hl : l.map Wr.p = cg.ws) (hn : l.length < 1000000) (ho : cg.old.length < 1000000) :
    Calls Try.prog 32 #[chgV cg wa wc oa oc] w (Ret (.bool (rightM cg)) fun w' => Ext no w w') := by
  refine cachetteref12_Right.run cg.kd cg.who cg.pub cg.lim wa cg.ws.length wc oa cg.old.length oc ?_
  unfold cachetteref12_Right.N
  simp only [who_F]
  have hlen : cg.ws.length = l.length := by rw [← hl]; simp
  have hz : cg.ws = [] ↔ cg.ws.length = 0 := List.length_eq_zero_iff.symm
  have hz2 : cg.old = [] ↔ cg.old.length = 0 := List.length_eq_zero_iff.symm
  have key : ∀ {w1 : World} {b : Bool}, Ext no w w1 → b = rightM cg → Value.bool b = .bool (rightM cg) ∧ Ext no w w1 := fun X h => ⟨by rw [h], X⟩
  have f1 : cg.kd = 1 → ¬ ((0 ≤ cg.who ∧ cg.who < 8) ∧ cg.pub ≠ 0 ∧ cg.lim = 0 ∧ cg.ws = [] ∧ cg.old = []) → false = rightM cg := fun h h2 => by rw [rightM_1 h, decide_eq_false h2]
  have f2 : cg.kd = 2 → ¬ ((0 ≤ cg.who ∧ cg.who < 8) ∧ cg.who ≠ 0 ∧ cg.pub = 0 ∧ 0 ≤ cg.lim ∧ cg.lim ≤ 200 ∧ cg.ws = [] ∧ cg.old = []) → false = rightM cg := fun h h2 => by rw [rightM_2 h, decide_eq_false h2]
  have f3 : cg.kd = 3 → ¬ (cg.who = 0 ∧ cg.pub = 0 ∧ cg.lim = 0 ∧ (cg.old.length = 0 ∨ cg.old.length = 24)) → false = rightM cg := fun h h2 => by rw [rightM_3 h, decide_eq_false h2, Bool.and_false]
  have f4 : cg.kd = 3 → boxesP cg.ws = false → false = rightM cg := fun h h2 => by rw [rightM_3 h, h2, Bool.false_and]
  have f5 : cg.kd ≠ 1 → cg.kd ≠ 2 → cg.kd ≠ 3 → false = rightM cg := fun a b c => (rightM_0 a b c).symm
  refine ⟨fun ho0 => ⟨fun h3 w7 X => key X ?_, fun h3 => ⟨fun h24 w7 X => key X (f3 h3 (by omega)), fun h24 => ?_⟩⟩, fun ho0 => ?_⟩
  · by_cases h1 : cg.kd = 1
    · exact f1 h1 (by rw [hz2]; omega)
    · by_cases h2 : cg.kd = 2
      · exact f2 h2 (by rw [hz2]; omega)
      · exact f5 h1 h2 h3
  all_goals have hoo : cg.old.length = 0 ∨ cg.old.length = 24 := by omega
  all_goals refine ⟨fun h1 => ?_, fun h1 => ⟨fun h2 => ?_, fun h2 => ⟨fun h3 w7 X7 => ?_, fun h3 w7 X7 => key X7 (f5 h1 h2 h3)⟩⟩⟩
  all_goals try (exfalso; omega)
  rotate_left
  · refine ⟨fun hw => ⟨fun hp => ⟨fun hl1 w14 X => key X ?_, fun hl1 w14 X => key X (f1 h1 fun h => hl1 h.2.2.1)⟩, fun hp w14 X => key X (f1 h1 fun h => h.2.1 hp)⟩, fun hw w14 X => key X (f1 h1 fun h => of_decide_eq_false hw h.1)⟩
    rw [rightM_1 h1, Bool.eq_iff_iff, beq_iff_eq, decide_eq_true_iff]
    exact ⟨fun h => ⟨of_decide_eq_true hw, hp, hl1, hz.2 (by omega), hz2.2 (by omega)⟩, fun h => by rw [h.2.2.2.1]; rfl⟩
  · refine ⟨fun hw => ⟨fun hw0 => ⟨fun hp => ⟨fun hl0 => ⟨fun hl1 w14 X => key X ?_, fun hl1 w14 X => key X (f2 h2 fun h => by omega)⟩, fun hl0 w14 X => key X (f2 h2 fun h => by omega)⟩, fun hp w14 X => key X (f2 h2 fun h => hp h.2.2.1)⟩, fun hw0 w14 X => key X (f2 h2 fun h => h.2.1 hw0)⟩, fun hw w14 X => key X (f2 h2 fun h => of_decide_eq_false hw h.1)⟩
    rw [rightM_2 h2, Bool.eq_iff_iff, beq_iff_eq, decide_eq_true_iff]
    exact ⟨fun h => ⟨of_decide_eq_true hw, hw0, hp, hl0, hl1, hz.2 (by omega), hz2.2 (by omega)⟩, fun h => by rw [h.2.2.2.2.2.1]; rfl⟩
  all_goals
    refine ⟨fun m vs w1 => ∃ (t : Nat) (last : Int), vs = [.int .i64 t] ∧ m + t = l.length ∧ Ext no w w1 ∧ boxesGo (-1) cg.ws = boxesGo last (cg.ws.drop t) ∧ (t = 0 → last = -1) ∧ (∀ x, 0 < t → cg.ws[t - 1]? = some x → last = x.1), l.length, ⟨0, -1, rfl, rfl, X7, rfl, fun _ => rfl, fun x h => absurd h (by omega)⟩, ?_⟩
    rintro m w1 i ⟨t, last, hi, hm, X1, hbx, hz0, hzp⟩
    simp only [List.cons.injEq, Value.int.injEq, true_and, and_true] at hi
    subst hi
    refine ⟨fun ht => ?_, fun ht => ?_⟩
    · have htl : t < l.length := by omega
      have htw : t < cg.ws.length := by omega
      have hg : l[t]? = some l[t] := List.getElem?_eq_getElem htl
      have hgw : cg.ws[t]? = some l[t].p := by rw [← hl, List.getElem?_map, hg]; rfl
      have hgw' : cg.ws[t] = l[t].p := (List.getElem?_eq_some_iff.1 hgw).2
      rw [boxesGo_drop htw, hgw'] at hbx
      have hprev : ∀ (_ : 0 < t), ∃ y, l[t - 1]? = some y ∧ last = y.who := fun h0 => by
        have h1 : t - 1 < l.length := by omega
        exact ⟨l[t - 1], List.getElem?_eq_getElem h1, hzp (l[t - 1]).p h0 (by rw [← hl, List.getElem?_map, List.getElem?_eq_getElem h1]; rfl)⟩
      generalize l[t] = x at *
      have hr1 := hr.no X1
      obtain ⟨ad, rfl⟩ := hr.faddr Wr.len (by decide) htl
      refine ⟨ad, rfl, by omega, by omega, x.who, by rw [Int.toNat_natCast]; exact hr1.fcell Wr.len hg 0 rfl, fun hw w46 X46 => key (X1.trans X46) (f4 h3 ?_), fun hw => ⟨by omega, by omega, x.a, x.b.length, x.c, by rw [Int.toNat_natCast]; exact hr1.fcell Wr.len hg 1 rfl, fun hb w46 X46 => key (X1.trans X46) (f4 h3 ?_), fun hb => ⟨fun hi => ?_, fun hi => ⟨by omega, by omega, fun w46 X46 => ⟨m - 1, by omega, t + 1, x.who, rfl, by omega, X1.trans X46, ?_, fun h => by omega, fun y _ hy => ?_⟩⟩⟩⟩⟩
      · unfold boxesP; rw [hbx, show decide (0 ≤ x.p.1 ∧ x.p.1 < 8) = false from hw]; rfl
      · unfold boxesP; rw [hbx, show decide (x.p.2.length = 16) = false from decide_eq_false fun h => hb (by rw [show x.b.length = 16 from h]; rfl)]; simp
      · obtain ⟨y, hy, hyl⟩ := hprev (by omega)
        refine ⟨by omega, by omega, by omega, by omega, y.who, by rw [show ((t : Int) - 1).toNat = t - 1 by omega]; exact hr1.fcell Wr.len hy 0 rfl, by omega, by omega, x.who, by rw [Int.toNat_natCast]; exact hr1.fcell Wr.len hg 0 rfl, fun hge w46 X46 => key (X1.trans X46) (f4 h3 ?_), fun hlt => ⟨by omega, by omega, fun w46 X46 => ⟨m - 1, by omega, t + 1, x.who, rfl, by omega, X1.trans X46, ?_, fun h => by omega, fun y _ hy => ?_⟩⟩⟩
        · unfold boxesP; rw [hbx, show decide (last < x.p.1) = false from decide_eq_false fun h => by have : last < x.who := h; omega]; simp
        · rw [hbx, show decide (0 ≤ x.p.1 ∧ x.p.1 < 8) = true from hw, decide_eq_true (show last < x.p.1 by show last < x.who; omega), decide_eq_true (show x.p.2.length = 16 by show x.b.length = 16; omega)]; rfl
        · rw [Nat.add_sub_cancel, hgw] at hy; cases hy; rfl
      · have h0 := hz0 (by omega)
        have hw' : 0 ≤ x.who ∧ x.who < 8 := of_decide_eq_true hw
        rw [hbx, show decide (0 ≤ x.p.1 ∧ x.p.1 < 8) = true from hw, decide_eq_true (show last < x.p.1 by show last < x.who; omega), decide_eq_true (show x.p.2.length = 16 by show x.b.length = 16; omega)]; rfl
      · rw [Nat.add_sub_cancel, hgw] at hy; cases hy; rfl
    · have htt : cg.ws.drop t = [] := List.drop_eq_nil_of_le (by omega)
      rw [htt] at hbx
      have hbP : boxesP cg.ws = decide ((cg.ws.length : Int) > 0) := by
        unfold boxesP; rw [hbx]
        show (true && decide (cg.ws ≠ [])) = _
        rw [Bool.true_and, decide_eq_decide, Ne, hz]; omega
      refine ⟨fun hw => ⟨fun hp => ⟨fun hl1 => key X1 ?_, fun hl1 => key X1 (f3 h3 fun h => hl1 h.2.2.1)⟩, fun hp => key X1 (f3 h3 fun h => hp h.2.1)⟩, fun hw => key X1 (f3 h3 fun h => hw h.1)⟩
      rw [rightM_3 h3, ← hbP, decide_eq_true (show cg.who = 0 ∧ cg.pub = 0 ∧ cg.lim = 0 ∧ (cg.old.length = 0 ∨ cg.old.length = 24) from ⟨hw, hp, hl1, hoo⟩), Bool.and_true]
end
end Go.Proofs.Ytmhfoieeldiecaa
