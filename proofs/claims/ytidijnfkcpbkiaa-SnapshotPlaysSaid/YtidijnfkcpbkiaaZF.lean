/- Snapshot: acts; the small functions of the laws. -/
import Derived.Test.YtidijnfkcpbkiaaZE
set_option linter.unusedVariables false
set_option linter.unusedSimpArgs false
set_option maxRecDepth 20000
set_option maxHeartbeats 4000000
namespace Go.Proofs.Ytidijnfkcpbkiaa
open Go Go.Mx Go.Proofs
open W (OwnB GivesW)
structure SA where
  kind : Int
  a : Option Addr
  c : Nat
  B : List UInt8
  armed : Int
  ka : Option Addr
  kc : Nat
  keep : List Bool
def SA.C (x : SA) : List Value := [.int .i64 x.kind, .slice x.a x.B.length x.c, .int .i64 x.armed, .slice x.ka x.keep.length x.kc]
theorem SA.len (x : SA) : x.C.length = 4 := rfl
structure SA.good (W : World) (x : SA) : Prop where
  la : x.B.length ≤ x.c
  ra : RowAt W x.a (bytesV x.B)
  rk : RowAt W x.ka (boolsV x.keep)
theorem opens_sact : Opens Try.prog 38 fun W cs => ∃ x : SA, cs = x.C ∧ x.good W :=
  (opens_seq (qs := [(1, _), (1, _), (1, _), (1, _)]) (size := 4) Try.underlying38 (by kernel_rfl)
    ⟨⟨rfl, by kernel_rfl, opens_int Try.underlying3⟩, ⟨rfl, by kernel_rfl, opens_bytes Try.underlying30 (by kernel_rfl) Try.underlying5⟩, ⟨rfl, by kernel_rfl, opens_int Try.underlying3⟩, ⟨rfl, by kernel_rfl, opens_bools⟩, rfl⟩).mono
    fun W cs ⟨_, _, ek, _, ⟨n0, q9, f0⟩, _, _, e0, _, ⟨aa, ac, A, q0, la, _, ra⟩, _, _, e1, _, ⟨n, q1, f1⟩, _, _, e2, _, ⟨ka, kc, keep, q2, lk, _, rk⟩, q3⟩ => by
      subst q9; subst q0; subst q1; subst q2; subst q3; subst e2; subst e1; subst e0; subst ek
      exact ⟨⟨n0, aa, ac, A, n, ka, kc, keep⟩, rfl, la, ra, rk⟩
def SAsQ (W : World) (cs : List Value) : Prop := ∃ (a : Option Addr) (c : Nat) (l : List SA), cs = [.slice a l.length c] ∧ l.length ≤ c ∧ c ≤ maxLen ∧ RowAt W a (l.flatMap SA.C) ∧ ∀ x ∈ l, x.good W
theorem opens_sacts : Opens Try.prog 22 SAsQ := opens_rows (size := 4) Try.underlying22 (by kernel_rfl) opens_sact
def light11 (l : List SA) : Bool := decide (l.length ≤ 30) && l.all fun x => decide (x.B.length ≤ 600) && decide (x.keep.length ≤ 60)
theorem light11_of {l : List SA} (h : light11 l = true) : l.length ≤ 30 ∧ ∀ x ∈ l, x.B.length ≤ 600 ∧ x.keep.length ≤ 60 := by
  unfold light11 at h
  simp only [Bool.and_eq_true, decide_eq_true_eq, List.all_eq_true] at h
  exact h
section
variable {w w' w1 : World} {o o' o1 : Own} {q g p n m k : Nat} {K : Nat → Prop} {b s : List UInt8} {a : Option Addr} {c : Nat} {d : DS}
theorem light11_spec {la : Option Addr} {lc : Nat} {l : List SA} (hl : RowAt w la (l.flatMap SA.C)) : Calls Try.prog 5 #[.slice la l.length lc] w (Ret (.bool (light11 l)) fun w' => w' = w) := by
  refine cachettelaw11_light.run _ _ _ ?_
  unfold cachettelaw11_light.N
  refine ⟨fun h => ⟨by unfold light11; rw [decide_eq_false (by omega)]; rfl, rfl⟩, fun h => ?_⟩
  have h40 : decide (l.length ≤ 30) = true := decide_eq_true (by omega)
  refine ⟨fun m vs w1 => ∃ t : Nat, vs = [.int .i64 t] ∧ m + t = l.length ∧ w1 = w ∧ ∀ i x, i < t → l[i]? = some x → x.B.length ≤ 600 ∧ x.keep.length ≤ 60, l.length, ⟨0, rfl, rfl, rfl, fun i x h => absurd h (by omega)⟩, ?_⟩
  rintro m w6 i ⟨t, hi, hm, rfl, hs⟩
  simp only [List.cons.injEq, Value.int.injEq, true_and, and_true] at hi
  subst hi
  refine ⟨fun ht => ?_, fun ht => ?_⟩
  · have htl : t < l.length := by omega
    have gt : l[t]? = some l[t] := List.getElem?_eq_getElem htl
    have hmt := List.getElem_mem htl
    obtain ⟨ad, rfl⟩ := hl.faddr SA.len (by decide) htl
    generalize l[t] = x at *
    have no : ¬ (x.B.length ≤ 600 ∧ x.keep.length ≤ 60) → Value.bool false = .bool (light11 l) := fun hb => by
      unfold light11
      rw [h40, Bool.true_and]
      congr 1
      exact (List.all_eq_false.2 ⟨x, hmt, by simp only [Bool.and_eq_true, decide_eq_true_eq]; exact hb⟩).symm
    refine ⟨ad, rfl, by omega, by omega, x.a, x.B.length, x.c, by rw [Int.toNat_natCast]; exact hl.fcell SA.len gt 1 rfl, fun hb => ⟨no (by omega), rfl⟩, fun hb => ⟨by omega, by omega, x.ka, x.keep.length, x.kc, by rw [Int.toNat_natCast]; exact hl.fcell SA.len gt 3 rfl, fun hk => ⟨no (by omega), rfl⟩, fun hk => ⟨by omega, by omega, m - 1, by omega, t + 1, rfl, by omega, rfl, fun i y hi hy => ?_⟩⟩⟩
    by_cases hit : i = t
    · subst hit
      rw [gt] at hy; cases hy
      exact ⟨by omega, by omega⟩
    · exact hs i y (by omega) hy
  · refine ⟨?_, rfl⟩
    unfold light11
    rw [h40, Bool.true_and]
    congr 1
    refine (List.all_eq_true.2 fun x hx => ?_).symm
    obtain ⟨i, hi⟩ := List.mem_iff_getElem?.1 hx
    have := hs i x (by have := (List.getElem?_eq_some_iff.1 hi).1; omega) hi
    simp only [Bool.and_eq_true, decide_eq_true_eq]; exact this
theorem sectors11_spec (h : DG w o g d) (ok : Tags w o) (hd : d.ok m) (hm : m < 100000) :
    Calls Try.prog 13 #[.pointer (some (blk g))] w (fun z w' => ∃ o' la lc, ∃ l : List BS, z = .returned (.slice la l.length lc) ∧ Step no w o w' o' ∧ l.map BS.bs = readsD d 0 d.good.length ∧ BsRow w' o' la lc l) := by
  refine (cachettelaw11_sectors.go _ (R := fun z w' => ∃ o' la lc, ∃ l : List BS, z = (.slice la l.length lc) ∧ Step no w o w' o' ∧ l.map BS.bs = readsD d 0 d.good.length ∧ BsRow w' o' la lc l) ?_).mono fun z w' ⟨u, he, o', la, lc, l, hu, hw⟩ => ⟨o', la, lc, l, by rw [he, hu], hw⟩
  unfold cachettelaw11_sectors.N
  have hn2 := hd.n2
  refine ⟨fun m vs w1 => ∃ (t : Nat) (o1 : Own) (la : Option Addr) (lc : Nat) (l : List BS), vs = [.slice la l.length lc, .int .i64 t] ∧ m + t = d.good.length ∧ Step no w o w1 o1 ∧ BsL w.heap.size w1 o1 la lc l ∧ l.map BS.bs = readsD d 0 t, d.good.length, ⟨0, o, none, 0, [], rfl, rfl, Step.refl _ ok, BsL.nil _ _ _, rfl⟩, ?_⟩
  rintro k w7 la ln lc i ⟨t, o7, la', lc', l, hi, hk, s7, L7, hmap⟩
  simp only [List.cons.injEq, Value.slice.injEq, Value.int.injEq, true_and, and_true] at hi
  obtain ⟨⟨rfl, rfl, rfl⟩, rfl⟩ := hi
  have hll : l.length = t := by have := congrArg List.length hmap; rwa [List.length_map, readsD_len] at this
  refine (Sectors_spec (h.step s7 id)).mono fun u w9 ⟨he, hw⟩ => ⟨_, he, fun ht => ?_, fun ht => ?_⟩
  · have hw' := hw.symm
    subst hw'
    have hz0 : (((0 : Nat) : Int) + (t : Int)) = (t : Int) := by omega
    refine (dRead_spec (h.step s7 id) s7.ok (t : Int) (by have := hd.pl; omega)).mono fun u w11 ⟨ra, rn, rc, o11, he, hn, hnc, s11, hR1, hR0⟩ => ⟨ra, rn, rc, _, he, ?_⟩
    have X11 : Ext no w7 w11 := s11.ext.mono fun b ⟨_, _, h⟩ _ => h
    have t11 := Step.of_no X11 s7.ok
    have l7 := s7.size
    have push : ∀ (x : BS), BSok w11 (grow w7 o7) x → x.bs = (readD d (t : Int)).1 → ∀ (w12 : World) (q12 : Nat), Ext no w11 w12 → Blk w12 q12 30 [.slice x.a x.bs.length x.c] → w11.heap.size ≤ q12 → q12 < w12.heap.size →
        ∃ (a' : Option Addr) (n' c' : Nat) (w4 : World), (Builtin.append_ #[31, 31] 31 #[.slice la l.length lc, .slice (some (blk q12)) 1 1]).run Try.prog w12 = .ok (.slice a' n' c') w4 ∧
          (-9223372036854775808 : Int) ≤ ((t : Int) + 1) ∧ ((t : Int) + 1) < 9223372036854775808 ∧ ∃ m', m' < k ∧ ∃ (t' : Nat) (o1 : Own) (la : Option Addr) (lc : Nat) (l : List BS), [Value.slice a' n' c', Value.int .i64 ((t : Int) + 1)] = [.slice la l.length lc, .int .i64 t'] ∧ m' + t' = d.good.length ∧ Step no w o w4 o1 ∧ BsL w.heap.size w4 o1 la lc l ∧ l.map BS.bs = readsD d 0 t' := fun x okx hx w12 q12 X12 hb hq hq' => by
      obtain ⟨a', c', w39, o39, hr, s39, L39⟩ := (L7.step t11 fun _ h => h.elim).push t11.ok (by omega) okx X12 hb hq hq' (by have := X11.size; omega)
      refine ⟨a', _, c', w39, hr, by omega, by omega, k - 1, by omega, t + 1, o39, a', c', _, rfl, by omega, (s7.trans t11).trans' s39 fun i hi => .inr hi, L39, ?_⟩
      rw [List.map_append, hmap]
      unfold readsD
      rw [List.range_succ, List.map_append]
      simp only [List.map_cons, List.map_nil]
      rw [hx, hz0]
    subst hn
    refine ⟨fun hz w12 q12 X12 hb hq hq' => ?_, fun hz w12 q12 X12 hb hq hq' => ?_⟩
    · exact push ⟨none, 0, []⟩ ⟨Row.nil _ _ _, Nat.zero_le _⟩ (readD_bad hz).symm w12 q12 X12 hb hq hq'
    · refine push ⟨ra, rc, (readD d (t : Int)).1⟩ ?_ rfl w12 q12 X12 hb hq hq'
      obtain ⟨q, tt, e, hbk, hl, hq, _⟩ := hR0 hz
      subst e
      refine ⟨Row.fresh ?_ fun ad ha => by cases ha; exact hq, hnc⟩
      have := (RowAt.of_blk hbk).take (bytesV (readD d (t : Int)).1).length
      rwa [List.take_left] at this
  · have hw' := hw.symm
    subst hw'
    have htt : t = d.good.length := by omega
    exact ⟨_, la, lc, l, rfl, Step.of_no (s7.ext.mono fun b ⟨_, _, h⟩ _ => h) ok, by rw [← htt]; exact hmap, L7.give s7 (Nat.le_refl _)⟩
theorem same11_spec {sa xa ra ya : Option Addr} {sc xc rc yc : Nat} {x y : List UInt8} {r1 r2 : List BS} (h1 : RowAt w sa (bytesV x)) (h2 : RowAt w xa (bytesV y)) (hx : x.length < 1000000) (k1 : BsAt w ra rc r1) (k2 : BsAt w ya yc r2) (hl : r1.length < 1000000) (hs : ∀ z ∈ r1, z.bs.length < 1000000) :
    Calls Try.prog 18 #[.slice sa x.length sc, .slice ra r1.length rc, .slice xa y.length xc, .slice ya r2.length yc] w (Ret (.bool (decide (x = y) && decide (r1.map BS.bs = r2.map BS.bs))) fun w' => Ext no w w') := by
  refine cachettelaw11_same.run _ _ _ _ _ _ _ _ _ _ _ _ ?_
  unfold cachettelaw11_same.N
  refine (W.sameB_spec h1 h2 hx).mono fun u w2 ⟨he, X2⟩ => ⟨_, he, fun ht => ?_, fun hf => ?_⟩
  · have k1' := k1.no X2
    have k2' := k2.no X2
    refine (lists_spec k1'.row k2'.row (fun z hz => ⟨(k1'.oks z hz).1, hs z hz⟩) (fun z hz => (k2'.oks z hz).1) hl).mono fun u w3 ⟨he, X3⟩ => ⟨_, he, ?_, X2.trans X3⟩
    rw [ht]; rfl
  · rw [hf]; exact ⟨rfl, X2⟩
end
end Go.Proofs.Ytidijnfkcpbkiaa

/- Snapshot: the chapter's example; what is asked behind each act. -/
set_option linter.unusedVariables false
set_option linter.unusedSimpArgs false
set_option maxRecDepth 20000
set_option maxHeartbeats 4000000
namespace Go.Proofs.Ytidijnfkcpbkiaa
open Go Go.Mx Go.Proofs
open W (OwnB GivesW)
theorem litS {w w1 : World} (bs : List UInt8) {q : Nat} (X : Ext no w w1) (hb : Blk w1 q 5 (bytesV bs)) (hq : w.heap.size ≤ q) :
    ∃ w2, (convert 30 30 (.slice (some (blk q)) bs.length bs.length)).run Try.prog w1 = .ok (.slice (some (blk q)) bs.length bs.length) w2 ∧ RowAt w2 (some (blk q)) (bytesV bs) ∧ Ext no w w2 :=
  ⟨_, conv_mark Try.underlying30 Try.underlying5 hb, (RowAt.of_blk hb).freeze _ _, X.freeze (.inr hq) _⟩
theorem readD_64 (d : DS) (i : Int) : (readD d i).1.length = 64 ∨ (readD d i).1 = [] := by
  unfold readD
  split
  · split
    · exact .inr rfl
    · exact .inl (readS d i).h
  · exact .inr rfl
theorem dg_other {w : World} {o : Own} {g : Nat} {d : DS} (h : DG w o g d) (hl : d.good ≠ []) : ∃ k, k ≠ g ∧ k < w.heap.size := by
  obtain ⟨⟨ga, gc, pa, pc, hb, hg, hp⟩, tg⟩ := h
  have hr := hg.row
  cases hd : d.good with
  | nil => exact absurd hd hl
  | cons x r =>
    rw [hd] at hr
    have hx : ∃ v, ((x :: r).flatMap Sec.C)[0]? = some v := by
      have : 0 < ((x :: r).flatMap Sec.C).length := by rw [List.flatMap_cons, List.length_append, x.len]; omega
      exact ⟨_, List.getElem?_eq_getElem this⟩
    obtain ⟨v, hv⟩ := hx
    obtain ⟨ad, ha, _⟩ := hr 0 v hv
    exact ⟨ad.block, hg.ne hb (by decide) ad ha, (hg.tg ad ha).2⟩
section
variable {w w' w1 : World} {o o' o1 : Own} {q g p n half N T t m : Nat} {K : Nat → Prop} {d : DS} {J : JS} {S : SS} {snap : List UInt8} {all : List (List UInt8)}
theorem check_tail {R : Value → World → Prop} {Fin : World → Prop} (P : PS d S J n half N snap all T t) (h6 : 6 ≤ n) (hn : n ≤ 60) (ht : t ≤ 100) (hh : half = (n - 2) / 2) (h : SG w o p g (some (blk q)) S) (hJ : JG w o q g J) (hD : DG w o g d) (ok : Tags w o)
    {sa aa : Option Addr} {sc ac : Nat} {al : List BS} (hs : Row w o sa (bytesV snap)) (ha : ∀ w' o', Step no w o w' o' → BsAt w' aa ac al) (hm : al.map BS.bs = all) (hsl : snap.length ≤ 4000) (hal : ∀ z ∈ all, z.length ≤ 4000) {cn rm num : Int} (ecn : cn = all.length) (erm : rm = (half : Int) - T) (enum : num = N)
    (hF : ∀ w' o', Step no w o w' o' → Fin w') :
    Calls Try.prog 13 #[.pointer (some (blk g))] w fun ee54 ww55 => ∃ (sectors53a : Option Addr) (sectors53n : Nat) (sectors53c : Nat), ee54 = .returned (.slice sectors53a sectors53n sectors53c) ∧
    Calls Try.prog 12 #[.slice sectors53a sectors53n sectors53c] ww55 fun ee61 ww62 => ∃ (Number56 : Int) (Snap57a : Option Addr) (Snap57n : Nat) (Snap57c : Nat) (Records58a : Option Addr) (Records58n : Nat) (Records58c : Nat) (Room59 : Int) (Kv60 : Int), ee61 = .returned (.agg #[.int .u32 Number56, .slice Snap57a Snap57n Snap57c, .slice Records58a Records58n Records58c, .int .i64 Room59, .int .i64 Kv60]) ∧
    ∀ (ww68 : World) (p69 : Nat), Ext no ww62 ww68 → Priv ww62 ww68 [p69] →
    Calls Try.prog 14 #[.pointer (some (blk g))] ww68 fun ee71 ww72 => ∃ (copy70 : Option Addr), ee71 = .returned (.pointer copy70) ∧
    Keep [p69] ww68 ww72 ∧
    Calls Try.prog 8 #[.pointer copy70] ww72 fun ee77 ww78 => ∃ (openv73 : Option Addr) (openv74a : Option Addr) (openv74n : Nat) (openv74c : Nat) (openv75a : Option Addr) (openv75n : Nat) (openv75c : Nat) (openv76 : Int), ee77 = .returned (.tuple #[.pointer openv73, .slice openv74a openv74n openv74c, .slice openv75a openv75n openv75c, .int .i64 openv76]) ∧
    Keep [p69] ww72 ww78 ∧
    Calls Try.prog 15 #[.pointer (some (blk p))] ww78 fun ee80 ww81 => ∃ (count79 : Int), ee80 = .returned (.int .i64 count79) ∧
    Keep [p69] ww78 ww81 ∧
    (count79 ≠ cn →
      R (.bool false) ww81) ∧
    (count79 = cn →
      Calls Try.prog 16 #[.pointer (some (blk p))] ww81 fun ee84 ww85 => ∃ (room83 : Int), ee84 = .returned (.int .i64 room83) ∧
      Keep [p69] ww81 ww85 ∧
      (room83 ≠ rm →
        R (.bool false) ww85) ∧
      (room83 = rm →
        Calls Try.prog 17 #[.pointer (some (blk p))] ww85 fun ee88 ww89 => ∃ (number87 : Int), ee88 = .returned (.int .u32 number87) ∧
        Keep [p69] ww85 ww89 ∧
        (number87 ≠ num →
          R (.bool false) ww89) ∧
        (number87 = num →
          (Kv60 ≠ 0 →
            R (.bool false) ww89) ∧
          (Kv60 = 0 →
            (openv76 ≠ 0 →
              R (.bool false) ww89) ∧
            (openv76 = 0 →
              (Number56 ≠ num →
                R (.bool false) ww89) ∧
              (Number56 = num →
                Calls Try.prog 18 #[.slice Snap57a Snap57n Snap57c, .slice Records58a Records58n Records58c, .slice sa snap.length sc, .slice aa al.length ac] ww89 fun ee95 ww96 => ∃ (same94 : Bool), ee95 = .returned (.bool same94) ∧
                (same94 = false →
                  R (.bool false) ww96) ∧
                (same94 = true →
                  Calls Try.prog 18 #[.slice openv74a openv74n openv74c, .slice openv75a openv75n openv75c, .slice sa snap.length sc, .slice aa al.length ac] ww96 fun ee99 ww100 => ∃ (same98 : Bool), ee99 = .returned (.bool same98) ∧
                  (same98 = false →
                    R (.bool false) ww100) ∧
                  (same98 = true →
                    Fin ww100)))))))) := by
  have hgd := P.good
  have hbig : 200 * t < 100000 := by omega
  refine (sectors11_spec hD ok P.ok hbig).mono fun u w1 ⟨o1, la, lc, l, he, s1, hlm, hlr⟩ => ⟨_, _, _, he, ?_⟩
  rw [hgd] at hlm
  have hll : l.length = n := by have := congrArg List.length hlm; rwa [List.length_map, readsD_len] at this
  have hS : ∀ x ∈ l, x.bs.length = 64 ∨ x.bs = [] := fun x hx => by
    have : x.bs ∈ l.map BS.bs := List.mem_map_of_mem hx
    rw [hlm] at this
    unfold readsD at this
    obtain ⟨i, _, e⟩ := List.mem_map.1 this
    rw [← e]; exact readD_64 _ _
  have hof := P.of h6 (by omega) (by omega) hh
  rw [← hlm] at hof
  have hnb := P.nb
  have hO := cachetteref11_Of.go la l.length lc (w := w1) (R := fun z w' => ∃ o' xa xn xc ra rc, ∃ l' : List BS, z = (.agg #[.int .u32 N, .slice xa xn xc, .slice ra l'.length rc, .int .i64 ((half : Int) - T), .int .i64 0]) ∧ Step no w1 o1 w' o' ∧ Row w' o' xa (bytesV snap) ∧ xn = snap.length ∧ BsRow w' o' ra rc l' ∧ l'.map BS.bs = all)
    (refOf_spec hlr.at (by omega) (by omega) s1.ok hS hof (by omega) (by omega) fun w' o' xa xn xc ra rc l' a1 a2 a3 a4 a5 => ⟨o', xa, xn, xc, ra, rc, l', rfl, a1, a2, a3, a4, a5⟩)
  refine hO.mono fun u w2 ⟨v, he, o2, xa, xn, xc, ra, rc, l2, hv, s2, x2, hxn, r2, hm2⟩ => ⟨N, xa, xn, xc, ra, l2.length, rc, (half : Int) - T, 0, by rw [he, hv], fun w3 p3 X3 P3 => ?_⟩
  subst hxn
  have s12 := s1.trans s2
  obtain ⟨o3, s3, tg3⟩ := Step.priv1 X3 P3 s12.ok
  have s13 := s12.trans s3
  have pl := P3.one
  refine (dCopy_spec (hD.step s13 id) s13.ok P.ok hbig).mono fun u w4 ⟨g2, o4, he, hg2, s4, D4⟩ => ⟨_, he, s4.keep1 tg3 id, ?_⟩
  have s14 := s13.trans s4
  have tg4 : o4 p3 = some p3 := by rw [s4.own pl.2]; exact tg3
  have pl4 := Nat.lt_of_lt_of_le pl.2 s4.size
  obtain ⟨J2, hre, _⟩ := P.reopen h6 (by omega) (by omega) hh
  have hop := sOpen_spec D4 s14.ok P.ok (by omega)
  rw [hre] at hop
  have hp3g : p3 ≠ g2 := by omega
  refine Calls.mono hop fun u w5 ⟨o5, sp, ya, yn, yc, za, zc, l5, he, OG5⟩ => ⟨_, _, _, _, _, _, _, _, he, OG5.st.keep1 tg4 hp3g, ?_⟩
  have l14 := s14.size
  have l13 := s13.size
  have hyn := OG5.sn_
  subst hyn
  have s5 : Step no w o w5 o5 := s14.trans' OG5.st fun i hi => .inr (by rw [hi]; omega)
  have s25 : Step no w2 o2 w5 o5 := (s3.trans s4).trans' OG5.st fun i hi => .inr (by have := s3.size; rw [hi]; omega)
  have tg5 : o5 p3 = some p3 := by rw [OG5.st.own pl4]; exact tg4
  have jok := P.jok (by omega) (by omega)
  have hseq := P.seq
  have htl := P.tl
  have hlen := P.len
  refine (sCount_spec (h.step s5 id) (hJ.step s5 id) (by omega) (by omega)).mono fun u w6 ⟨he, hw⟩ => ⟨_, he, ?_⟩
  have hw' := hw.symm
  subst hw'
  refine ⟨Keep.refl _ _, fun hne => absurd (by rw [ecn, hseq]; omega) hne, fun _ => ?_⟩
  refine (sRoom_spec (h.step s5 id) (hJ.step s5 id) jok).mono fun u w7 ⟨he, X7⟩ => ⟨_, he, X7.kept, fun hne => absurd (by rw [erm, P.jsize, P.tail]) hne, fun _ => ?_⟩
  have t7 := Step.of_no X7 s5.ok
  have s7 := s5.trans t7
  refine (sNumber_spec (h.step s7 id)).mono fun u w8 ⟨he, hw⟩ => ⟨_, he, ?_⟩
  have hw' := hw.symm
  subst hw'
  refine ⟨Keep.refl _ _, fun hne => absurd (by rw [enum, P.eS]) hne, fun _ => ⟨fun hne => absurd rfl hne, fun _ => ⟨fun hne => absurd rfl hne, fun _ => ⟨fun hne => absurd enum.symm hne, fun _ => ?_⟩⟩⟩⟩
  have s27 := s25.trans t7
  have hsl2 : ∀ z ∈ l2, z.bs.length < 1000000 := fun z hz => by have := hal z.bs (by rw [← hm2]; exact List.mem_map_of_mem hz); omega
  have h5m : l5.map BS.bs = all := OG5.ll
  have hsl5 : ∀ z ∈ l5, z.bs.length < 1000000 := fun z hz => by have := hal z.bs (by rw [← h5m]; exact List.mem_map_of_mem hz); omega
  have hl2 : l2.length < 1000000 := by have := congrArg List.length hm2; rw [List.length_map] at this; omega
  have hl5 : l5.length < 1000000 := by have := congrArg List.length h5m; rw [List.length_map] at this; omega
  refine (same11_spec (x2.step s27).1 (hs.step s7).1 (by omega) (r2.step s27).at (ha _ _ s7) hl2 hsl2).mono fun u w9 ⟨he, X9⟩ => ⟨_, he, ?_⟩
  rw [hm2, hm, decide_eq_true rfl, decide_eq_true rfl]
  refine ⟨fun hf => (by cases hf), fun _ => ?_⟩
  have t9 := Step.of_no X9 s7.ok
  have s9 := s7.trans t9
  have s59 := t7.trans t9
  refine (same11_spec (x := snap) (OG5.sr.step s59).1 (hs.step s9).1 (by omega) (OG5.lr.step s59).at (ha _ _ s9) hl5 hsl5).mono fun u w10 ⟨he, X10⟩ => ⟨_, he, ?_⟩
  rw [h5m, hm, decide_eq_true rfl, decide_eq_true rfl]
  exact ⟨fun hf => (by cases hf), fun _ => hF w10 _ (s9.trans (Step.of_no X10 s9.ok))⟩
end
theorem alive11_spec (w : World) : Calls Try.prog 6 #[] w (Ret (.bool true) fun w' => Ext no w w') := by
  refine cachettelaw11_alive.run ?_
  unfold cachettelaw11_alive.N
  have ok0 : Tags w (fun _ => none) := fun b j _ h => by cases h
  refine (dNew_spec (n := 20) ok0 (by decide) (by decide)).mono fun u w1 ⟨g, o1, he, hg, s1, D1⟩ => ⟨_, _, he, ?_⟩
  obtain ⟨d2, J2, hO, P2⟩ := PS.new (n := 20) (half := 9) (by decide) (by decide) rfl
  have hop := sOpen_spec D1 s1.ok (newDS_ok (n := 20) (by decide) (by decide)) (by decide)
  rw [hO] at hop
  refine Calls.mono hop fun u w2 ⟨o2, sp, sa, sn, sc, la, lc, l2, he, OG2⟩ => ⟨_, _, _, _, _, _, _, _, he, fun w3 q3 X3 hb3 hq3 hq3' => ?_⟩
  obtain ⟨p, q, rfl, hp, hq, hpq, SG2, JG2⟩ := OG2.s1 _ _ rfl
  have gl := D1.lt
  have pgl : p ≠ g := by omega
  have qgl : q ≠ g := by omega
  have s2 : Step no w (fun _ => none) w2 o2 := s1.trans' OG2.st fun i hi => .inr (by rw [hi]; exact hg)
  have l1 := s1.size
  obtain ⟨w4, hc4, r4, X4⟩ := litS [97] X3 hb3 hq3
  refine ⟨_, _, _, w4, hc4, ?_⟩
  have t4 := Step.of_no X4 s2.ok
  have a5 := sAppend_spec (b := [97]) (c := 1) (SG2.step t4 id) (JG2.step t4 id) (OG2.dg.step t4 id) t4.ok hpq pgl qgl rfl P2.ok (by decide) (P2.jok (by decide) (by decide)) r4 (by decide) (by decide)
  obtain ⟨k5, P5⟩ := P2.app (b := [97]) (by decide) (by decide) (by decide) (by decide)
  generalize appendJ d2 J2 [97] = A5 at *
  obtain ⟨⟨d5, J5⟩, k5'⟩ := A5
  have k5 : k5' = 0 := k5
  subst k5
  refine Calls.mono a5 fun u w5 ⟨he, o5, s5, SG5, JG5, D5⟩ => ⟨_, he, fun w6 q6 X6 hb6 hq6 hq6' => ?_⟩
  obtain ⟨w7, hc7, r7, X7⟩ := litS [120] X6 hb6 hq6
  refine ⟨_, _, _, w7, hc7, ?_⟩
  have t7 := Step.of_no X7 s5.ok
  have r7' : Row w7 (grow w5 o5) (some (blk q6)) (bytesV [120]) := ⟨r7, fun _ ad ha => by cases ha; exact grow_ge hq6⟩
  have a8 := sCompact_spec (b := [120]) (c := 1) (SG5.step t7 id) (D5.step t7 id) t7.ok pgl P5.ok (by decide) ⟨by show (0 : Int) ≤ 9; decide, by show (9 : Int) ≤ 1000; decide⟩ (by show 1 < 4294967296; decide) r7' (by decide) (by decide)
  obtain ⟨d8, J8, hC8, P8⟩ := P5.compact (b := [120]) (by decide) (by decide) (by decide) (by decide)
  have e5 : SS.seen ⟨((9 : Nat) : Int), 1, false⟩ 0 = ⟨((9 : Nat) : Int), 1, false⟩ := rfl
  rw [e5, hC8] at a8
  refine Calls.mono a8 fun u w8 ⟨he, o8, s8, D8, _, hJ8⟩ => ⟨_, he, fun w9 q9 X9 hb9 hq9 hq9' => ?_⟩
  obtain ⟨q8, hq8, SG8, JG8⟩ := hJ8 J8 rfl
  have pl7 := (SG5.step t7 id).mem.lt
  have gl7 := (D5.step t7 id).lt
  obtain ⟨w10, hc10, r10, X10⟩ := litS [98] X9 hb9 hq9
  refine ⟨_, _, _, w10, hc10, ?_⟩
  have t10 := Step.of_no X10 s8.ok
  have a11 := sAppend_spec (b := [98]) (c := 1) (SG8.step t10 id) (JG8.step t10 id) (D8.step t10 id) t10.ok (by omega) pgl (by omega) rfl P8.ok (by decide) (P8.jok (by decide) (by decide)) r10 (by decide) (by decide)
  obtain ⟨k11, P11⟩ := P8.app (b := [98]) (by decide) (by decide) (by decide) (by decide)
  generalize appendJ d8 J8 [98] = A11 at *
  obtain ⟨⟨d11, J11⟩, k11'⟩ := A11
  have k11 : k11' = 0 := k11
  subst k11
  refine Calls.mono a11 fun u w11 ⟨he, o11, s11, SG11, JG11, D11⟩ => ⟨_, he, ?_⟩
  obtain ⟨J12, hO12, _⟩ := P11.reopen (by decide) (by decide) (by decide) rfl
  have a12 := sOpen_spec D11 s11.ok P11.ok (by decide)
  rw [hO12] at a12
  refine Calls.mono a12 fun u w12 ⟨o12, sp12, sa12, sn12, sc12, la12, lc12, l12, he, OG12⟩ => ⟨_, _, _, _, _, _, _, _, he, ?_⟩
  have T : ∀ {K : Nat → Prop} {a b : World} {x y : Own}, Step K a x b y → Step (fun _ => True) a x b y := fun s => s.mono fun _ _ _ => trivial
  have fin : Ext no w w12 := topX ((((((((T s2).trans (T t4)).trans (T s5)).trans (T t7)).trans (T s8)).trans (T t10)).trans (T s11)).trans (T OG12.st))
  have hk2 : (openS (newDS 20)).k = 0 := by rw [hO]
  have hl12 : l12.map BS.bs = [[98]] := OG12.ll
  have hln : l12.length = 1 := by have := congrArg List.length hl12; rwa [List.length_map] at this
  have hsn := OG12.sn_
  have hsr : RowAt w12 sa12 (bytesV [120]) := OG12.sr.1
  subst hsn
  refine ⟨fun _ => ⟨fun _ => ⟨fun _ => ⟨fun _ => ⟨fun _ => ⟨_, conv_str Try.underlying30 Try.underlying5 Try.underlying9 hsr, fun _ => ⟨fun _ => ?_, fun h => absurd (by rw [hln]; rfl) h⟩, fun h => absurd rfl h⟩, fun h => absurd rfl h⟩, fun h => absurd rfl h⟩, fun h => absurd rfl h⟩, fun h => absurd rfl h⟩, fun h => absurd rfl h⟩
  have h0 : l12[0]? = some l12[0] := List.getElem?_eq_getElem (by omega)
  have hmr := List.getElem_mem (show 0 < l12.length by omega)
  have hy : (l12[0]).bs = [98] := by
    have := get_map_bs h0
    rw [hl12] at this
    simp at this
    exact this.symm
  generalize l12[0] = y at *
  obtain ⟨rd, rfl, d0⟩ := OG12.lr.at.cell h0
  obtain ⟨ry, _⟩ := OG12.lr.at.oks y hmr
  refine ⟨rd, rfl, by omega, y.a, y.bs.length, y.c, d0, _, conv_str Try.underlying30 Try.underlying5 Try.underlying9 ry, ?_, fin⟩
  rw [hy]; simp
end Go.Proofs.Ytidijnfkcpbkiaa

/- SnapshotPlays. -/
set_option linter.unusedVariables false
set_option linter.unusedSimpArgs false
set_option maxRecDepth 20000
set_option maxHeartbeats 4000000
namespace Go.Proofs.Ytidijnfkcpbkiaa
open Go Go.Mx Go.Proofs
open W (OwnB GivesW)
theorem WL.at {w : World} {o : Own} {k c : Nat} {a : Option Addr} {l : List BS} (h : WL w o k a c l) : BsAt w a c l := ⟨h.row.row, fun x hx => ⟨(h.oks x hx).1.1, (h.oks x hx).2⟩, (own_fresh h.row.own).1⟩
theorem SnapshotPlays_spec (W : World) {la : Option Addr} {lc : Nat} {l : List SA} (hl : RowAt W la (l.flatMap SA.C)) (hgd : ∀ x ∈ l, x.good W) (n : Int) :
    Calls Try.prog 3 #[.int .i64 n, .slice la l.length lc] W (Ret (.bool true) fun w' => Ext no W w') := by
  refine cachettelaw11_SnapshotPlays.run _ _ _ _ ?_
  unfold cachettelaw11_SnapshotPlays.N
  refine ⟨fun _ => (alive11_spec W).mono fun u w1 ⟨he, X⟩ => ⟨_, he, rfl, X⟩, fun h6 => ⟨fun _ => (alive11_spec W).mono fun u w1 ⟨he, X⟩ => ⟨_, he, rfl, X⟩, fun h60 => ?_⟩⟩
  refine (light11_spec hl).mono fun u w13 ⟨he, hw⟩ => ⟨_, he, fun _ => ?_, fun hL => ?_⟩
  · have hw' := hw.symm
    subst hw'
    exact (alive11_spec _).mono fun u w1 ⟨he, X⟩ => ⟨_, he, rfl, X⟩
  have hw' := hw.symm
  subst hw'
  obtain ⟨hL1, hL2⟩ := light11_of hL
  obtain ⟨nn, rfl⟩ := Int.eq_ofNat_of_zero_le (show 0 ≤ n by omega)
  obtain ⟨half, hh⟩ : ∃ half, half = (nn - 2) / 2 := ⟨_, rfl⟩
  have ok0 : Tags W (fun _ => none) := fun b j _ h => by cases h
  have hlr : Row W (fun _ => none) la (l.flatMap SA.C) := ⟨hl, fun _ _ _ => rfl⟩
  refine (dNew_spec (n := nn) ok0 (by omega) (by omega)).mono fun u w21 ⟨g, o21, he, hg, s21, D21⟩ => ⟨_, _, he, ?_⟩
  have hgl := D21.lt
  obtain ⟨k, hkg, hk⟩ := dg_other D21 (by show List.replicate nn Sec.z ≠ []; intro e; have := congrArg List.length e; simp at this; omega)
  obtain ⟨d0, J0, hO, P0⟩ := PS.new (n := nn) (half := half) (by omega) (by omega) hh
  have hop := sOpen_spec D21 s21.ok (newDS_ok (n := nn) (by omega) (by omega)) (by decide)
  rw [hO] at hop
  refine Calls.mono hop fun u w27 ⟨o27, sp, ya, yn, yc, za, zc, l27, he, OG27⟩ => ⟨_, _, _, _, _, _, _, _, he, fun h => absurd rfl h, fun _ => ⟨by omega, by omega, ?_⟩⟩
  obtain ⟨p, q0, rfl, hp, hq0, hpq, SG0, JG0⟩ := OG27.s1 _ _ rfl
  have hH : IntKind.i64.wrap (Int.tdiv ((nn : Int) - 2) 2) = (half : Int) := by
    rw [w64 (by rw [Int.tdiv_eq_ediv_of_nonneg (by omega)]; omega) (by rw [Int.tdiv_eq_ediv_of_nonneg (by omega)]; omega), Int.tdiv_eq_ediv_of_nonneg (by omega)]; omega
  have hh1 : 2 ≤ half ∧ half ≤ 30 := by omega
  simp only [hH]
  have l27' := OG27.st.size
  have Tr : ∀ {K : Nat → Prop} {a b : World} {x y : Own}, Step K a x b y → Step (fun _ => True) a x b y := fun s => s.mono fun _ _ _ => trivial
  refine ⟨by omega, by omega, fun m vs w1 => ∃ (t : Nat) (o1 : Own) (d : DS) (S : SS) (J : JS) (q : Nat) (sa : Option Addr) (sc : Nat) (snap : List UInt8) (aa : Option Addr) (ac : Nat) (al : List BS) (N T : Nat), vs = [.slice sa snap.length sc, .slice aa al.length ac, .int .u32 N, .int .i64 ((half : Int) - T), .int .i64 t] ∧ m + t = l.length ∧ Step (fun _ => True) W (fun _ => none) w1 o1 ∧ DG w1 o1 g d ∧ SG w1 o1 p g (some (blk q)) S ∧ JG w1 o1 q g J ∧ PS d S J nn half N snap (al.map BS.bs) T (t + 1) ∧ Row w1 o1 sa (bytesV snap) ∧ WL w1 o1 k aa ac al ∧ w21.heap.size ≤ q ∧ q ≠ p ∧ w21.heap.size ≤ w1.heap.size ∧ snap.length ≤ 600 ∧ (∀ z ∈ al.map BS.bs, z.length ≤ 600),
    l.length, ⟨0, o27, d0, _, J0, q0, none, 0, [], none, 0, [], 1, 1, rfl, rfl, (Tr s21).trans (Tr OG27.st), OG27.dg, SG0, JG0, P0, Row.nil _ _ _, WL.nil _ _ _, hq0, fun e => hpq e.symm, l27', Nat.zero_le _, fun z hz => by cases hz⟩, ?_⟩
  rintro m w36 sva svn svc ava avn avc num room i ⟨t, oA, d, S, J, q, sa, sc, snap, aa, ac, al, N, T, hi, hm, sA, DA, SA', JA, PA, RA, LA, hq, hqp, h21, hsn, hal⟩
  simp only [List.cons.injEq, Value.slice.injEq, Value.int.injEq, true_and, and_true] at hi
  obtain ⟨⟨rfl, rfl, rfl⟩, ⟨rfl, rfl, rfl⟩, rfl, rfl, rfl⟩ := hi
  have hpg : p ≠ g := by omega
  have hqg : q ≠ g := by omega
  have hkp : k ≠ p := by omega
  have hkq : k ≠ q := by omega
  refine ⟨fun ht => ?_, fun ht => ?_⟩
  rotate_left
  · exact (alive11_spec _).mono fun u w1 ⟨he, X⟩ => ⟨_, he, rfl, (topX sA).trans X⟩
  have htl : t < l.length := by omega
  have gt : l[t]? = some l[t] := List.getElem?_eq_getElem htl
  have hmt := List.getElem_mem htl
  obtain ⟨ad, rfl⟩ := hl.faddr SA.len (by decide) htl
  generalize l[t] = x at *
  have hx := hgd x hmt
  have hxB := (hL2 x hmt).1
  have cB : ∀ {w' : World} {o' : Own}, Step (fun _ => True) W (fun _ => none) w' o' → w'.cell? ((ad.add (Int.toNat (t : Int) * 4)).add 1) = some (.slice x.a x.B.length x.c) := fun s => by
    rw [Int.toNat_natCast]; exact (hlr.step s).1.fcell SA.len gt 1 rfl
  have cK : w36.cell? ((ad.add (Int.toNat (t : Int) * 4)).add 0) = some (.int .i64 x.kind) := by
    rw [Int.toNat_natCast]; exact (hlr.step sA).1.fcell SA.len gt 0 rfl
  have hpar : cachetteref10_Parts.F (x.B.length : Int) = (partsN x.B.length : Int) := by rw [refParts_F, partsI_nat]
  have hpp := partsN_pos (n := x.B.length) (by omega)
  have rB : ∀ {w' : World} {o' : Own}, Step (fun _ => True) W (fun _ => none) w' o' → Row w' o' x.a (bytesV x.B) := fun s => Row.step (w := W) (o := fun _ => none) ⟨hx.ra, fun _ _ _ => rfl⟩ s
  have tl := PA.tl
  have hlen := PA.len
  have hnb := PA.nb
  have hSe := PA.eS
  have hT2 := PA.seq
  refine ⟨ad, rfl, by omega, by omega, _, _, _, cB sA, by omega, by omega, _, cK, fun hk1 => ⟨by omega, by omega, _, _, _, cB sA, fun w41 X41 => ?_⟩, fun hk1 => ⟨by omega, by omega, _, _, _, cB sA, fun w41 X41 => ?_⟩⟩
  all_goals
    rw [hpar]
    have t41 := Step.of_no X41 sA.ok
    have s41 := sA.trans (Tr t41)
    have D41 := DA.step t41 id
    have S41 := SA'.step t41 id
    have J41 := JA.step t41 id
    have L41 := LA.step t41 id
    have R41 := RA.step t41
    have z41 := X41.size
  -- Compact
  · have hc := sCompact_spec (b := x.B) (c := x.c) S41 D41 t41.ok hpg PA.ok (by omega) (by rw [hSe]; exact ⟨by show (0 : Int) ≤ half; omega, by show (half : Int) ≤ 1000; omega⟩) (by rw [hSe]; show N < _; omega) (rB s41) hx.la (by omega)
    by_cases hfit : partsN x.B.length ≤ half
    · obtain ⟨d2, J2, hC, P2⟩ := PA.compact (b := x.B) (by omega) (by omega) (by omega) hfit
      rw [hC] at hc
      refine Calls.mono hc fun u w49 ⟨he, o49, s49, D49, _, hJ49⟩ => ⟨_, he, fun hne => absurd (by rw [decide_eq_true (show (partsN x.B.length : Int) ≤ (half : Int) by omega)]; rfl) hne, fun _ => ⟨fun h => absurd rfl h, fun _ => ?_⟩⟩
      obtain ⟨q2, hq2, SG2, JG2⟩ := hJ49 J2 rfl
      have s2 := s41.trans (Tr s49)
      have l49 := s49.size
      have hSn : ({ S with number := S.number + 1 } : SS) = ⟨half, N + 1, false⟩ := by rw [hSe]
      rw [hSn] at SG2
      have hnw : IntKind.u32.wrap ((N : Int) + 1) = ((N + 1 : Nat) : Int) := by rw [IntKind.wrap_u32]; omega
      have L49 := L41.step s49 (show ¬ (k = p ∨ k = g) by omega)
      refine ⟨by omega, by omega, _, _, _, cB s2, by omega, by omega, ?_⟩
      rw [hnw]
      have hpl := S41.mem.lt
      refine check_tail (R := fun v w' => v = Value.bool true ∧ Ext no W w') (al := []) (cn := 0) P2 (by omega) (by omega) (by omega) hh SG2 JG2 D49 s49.ok (rB s2) (fun w' o' _ => ⟨RowAt.nil _ _, fun z hz => (by cases hz), Nat.le_refl _⟩) rfl (by omega) (fun z hz => (by cases hz)) rfl rfl rfl fun w' o' s' => ?_
      refine ⟨by omega, by omega, m - 1, by omega, t + 1, o', d2, _, J2, q2, x.a, x.c, x.B, none, 0, [], N + 1, partsN x.B.length, rfl, by omega, s2.trans (Tr s'), D49.step s' id, SG2.step s' id, JG2.step s' id, P2, (rB s2).step s', WL.nil _ _ _, by omega, by omega, by have := s'.size; omega, hxB, fun z hz => (by cases hz)⟩
    · have hC := PA.full (b := x.B) (by omega) (by omega) (by omega)
      rw [hC] at hc
      refine Calls.mono hc fun u w49 ⟨he, o49, s49, D49, S49, _⟩ => ⟨_, he, fun hne => absurd (by rw [decide_eq_false (show ¬ (partsN x.B.length : Int) ≤ (half : Int) by omega)]; rfl) hne, fun _ => ⟨fun _ => ⟨fun h => absurd rfl h, fun _ => ?_⟩, fun h => (by cases h)⟩⟩
      have S49 : SG w49 o49 p g (some (blk q)) S := S49 rfl
      have s2 := s41.trans (Tr s49)
      have l49 := s49.size
      have J49 := J41.step s49 (show ¬ (q = p ∨ q = g) by omega)
      have L49 := L41.step s49 (show ¬ (k = p ∨ k = g) by omega)
      have R49 := R41.step s49
      refine check_tail (R := fun v w' => v = Value.bool true ∧ Ext no W w') PA (by omega) (by omega) (by omega) hh S49 J49 D49 s49.ok R49 (fun w' o' s' => (L49.step s' id).at) rfl (by omega) (fun z hz => by have := hal z hz; omega) (by rw [List.length_map]) rfl rfl fun w' o' s' => ?_
      exact ⟨by omega, by omega, m - 1, by omega, t + 1, o', d, S, J, q, sva, svc, snap, ava, avc, al, N, T, rfl, by omega, s2.trans (Tr s'), D49.step s' id, S49.step s' id, J49.step s' id, PA.up', R49.step s', L49.step s' id, hq, hqp, by have := s'.size; omega, hsn, hal⟩
  -- Append
  · have hc := sAppend_spec (b := x.B) (c := x.c) S41 J41 D41 t41.ok (fun e => hqp e.symm) hpg hqg (by rw [hSe]) PA.ok (by omega) (PA.jok (by omega) (by omega)) (rB s41).1 hx.la (by omega)
    by_cases hfit : T + partsN x.B.length ≤ half
    · obtain ⟨k2, P2⟩ := PA.app (b := x.B) (by omega) (by omega) (by omega) hfit
      generalize appendJ d J x.B = A at *
      obtain ⟨⟨d2, J2⟩, k2'⟩ := A
      have k2 : k2' = 0 := k2
      subst k2
      refine Calls.mono hc fun u w49 ⟨he, o49, s49, S49, J49, D49⟩ => ⟨_, he, fun hne => absurd (by rw [decide_eq_true (show (partsN x.B.length : Int) ≤ (half : Int) - T by omega)]; rfl) hne, fun _ => ⟨fun h => absurd rfl h, fun _ => ?_⟩⟩
      have S49 : SG w49 o49 p g (some (blk q)) S := S49
      have s2 := s41.trans (Tr s49)
      have l49 := s49.size
      have L49 := L41.step s49 (show ¬ (k = p ∨ k = q ∨ k = g) by omega)
      have R49 := R41.step s49
      refine ⟨by omega, by omega, _, _, _, cB s2, fun w50 q50 X50 hb50 hq50 hq50' => ?_⟩
      obtain ⟨a', c', w51, o51, hr, s51, L51⟩ := L49.push (x := (⟨x.a, x.c, x.B⟩ : BS)) s49.ok (by omega) (by have := congrArg List.length (rfl : al.map BS.bs = _); rw [List.length_map] at hlen; omega) ⟨rB s2, hx.la⟩ X50 hb50
      refine ⟨a', _, c', w51, hr, by omega, by omega, ?_⟩
      have hkk : ∀ z : Nat, z ≠ k → ¬ z = k := fun z h => h
      have D51 := D49.step s51 (show ¬ g = k by omega)
      have S51 := S49.step s51 (show ¬ p = k by omega)
      have J51 := J49.step s51 (show ¬ q = k by omega)
      have R51 := R49.step s51
      have s51' := s2.trans (Tr s51)
      have l51 := s51.size
      have hmap : (al ++ [(⟨x.a, x.c, x.B⟩ : BS)]).map BS.bs = al.map BS.bs ++ [x.B] := by rw [List.map_append]; rfl
      rw [← hmap] at P2
      have hal2 : ∀ z ∈ (al ++ [(⟨x.a, x.c, x.B⟩ : BS)]).map BS.bs, z.length ≤ 600 := fun z hz => by
        rw [hmap] at hz
        rcases List.mem_append.1 hz with hz | hz
        · exact hal z hz
        · rw [List.mem_singleton.1 hz]; exact hxB
      have erm : (half : Int) - (T : Int) - (partsN x.B.length : Int) = (half : Int) - ((T + partsN x.B.length : Nat) : Int) := by omega
      rw [erm]
      refine check_tail (R := fun v w' => v = Value.bool true ∧ Ext no W w') P2 (by omega) (by omega) (by omega) hh S51 J51 D51 s51.ok R51 (fun w' o' s' => (L51.step s' id).at) rfl (by omega) (fun z hz => by have := hal2 z hz; omega) (by rw [List.length_map]) rfl rfl fun w' o' s' => ?_
      exact ⟨by omega, by omega, m - 1, by omega, t + 1, o', d2, S, J2, q, sva, svc, snap, a', c', _, N, T + partsN x.B.length, rfl, by omega, s51'.trans (Tr s'), D51.step s' id, S51.step s' id, J51.step s' id, P2, R51.step s', L51.step s' id, hq, hqp, by have := s'.size; omega, hsn, hal2⟩
    · have hA := PA.noroom (b := x.B) (by omega) (by omega)
      rw [hA] at hc
      refine Calls.mono hc fun u w49 ⟨he, o49, s49, S49, J49, D49⟩ => ⟨_, he, fun hne => absurd (by rw [decide_eq_false (show ¬ (partsN x.B.length : Int) ≤ (half : Int) - T by omega)]; rfl) hne, fun _ => ⟨fun _ => ⟨fun h => absurd rfl h, fun _ => ?_⟩, fun h => (by cases h)⟩⟩
      have S49 : SG w49 o49 p g (some (blk q)) S := S49
      have s2 := s41.trans (Tr s49)
      have l49 := s49.size
      have L49 := L41.step s49 (show ¬ (k = p ∨ k = q ∨ k = g) by omega)
      have R49 := R41.step s49
      refine check_tail (R := fun v w' => v = Value.bool true ∧ Ext no W w') PA (by omega) (by omega) (by omega) hh S49 J49 D49 s49.ok R49 (fun w' o' s' => (L49.step s' id).at) rfl (by omega) (fun z hz => by have := hal z hz; omega) (by rw [List.length_map]) rfl rfl fun w' o' s' => ?_
      exact ⟨by omega, by omega, m - 1, by omega, t + 1, o', d, S, J, q, sva, svc, snap, ava, avc, al, N, T, rfl, by omega, s2.trans (Tr s'), D49.step s' id, S49.step s' id, J49.step s' id, PA.up', R49.step s', L49.step s' id, hq, hqp, by have := s'.size; omega, hsn, hal⟩
theorem SnapshotPlays_walk (W : World) (n0 : Int) (a1 : Option Addr) (len1 cap1 : Nat) (w0 : (Lit.int .i64 n0).wf = true) (o1 : SAsQ W [.slice a1 len1 cap1]) :
    Calls Try.prog 3 #[.int .i64 n0, .slice a1 len1 cap1] W (Ret (.bool true) fun w' => Ext no W w') := by
  obtain ⟨_, c, l, e, _, _, r, h⟩ := o1
  cases e
  exact SnapshotPlays_spec W r h n0
end Go.Proofs.Ytidijnfkcpbkiaa
