/- Wire: so many bytes of a reader; the reference's whole numbers, and bytes with their length. -/
import Derived.Test.YtmhfoieeldiecaaZB
import Derived.Test.YtmhfoieeldiecaaZD
set_option linter.unusedVariables false
set_option linter.unusedSimpArgs false
set_option maxRecDepth 20000
namespace Go.Proofs.Ytmhfoieeldiecaa
open Go Go.Mx Go.Proofs
open W (OwnB Rd RdR GivesW numR countR doneR zig unzig intR)
/-- (*wire.Reader).take -/
def wire_Reader_take.M (r1 : Option Addr) (n2 : Int) (R : Value → World → Prop) (w : World) : Prop :=
  Calls Try.prog 66 #[.pointer r1] w fun ee4 ww5 => ∃ (ok3 : Bool), ee4 = .returned (.bool ok3) ∧
  bif !ok3 then (
  R (.slice none 0 0) ww5) else (
  r1.elim False fun a6 =>
  ∃ (b7a : Option Addr) (b7n : Nat) (b7c : Nat), ww5.cell? (a6.add 0) = some (.slice b7a b7n b7c) ∧
  bif decide (n2 > (b7n : Int)) then (
  Calls Try.prog 68 #[.pointer r1, .int .i64 4] ww5 fun ee8 ww9 => ee8 = .returned (.tuple #[]) ∧
  R (.slice none 0 0) ww9) else (
  r1.elim False fun a10 =>
  ∃ (b11a : Option Addr) (b11n : Nat) (b11c : Nat), ww5.cell? (a10.add 0) = some (.slice b11a b11n b11c) ∧
  (0 : Int) ≤ (n2 : Int) ∧ (n2 : Int) ≤ (b11c : Int) ∧
  Calls Try.prog 64 #[.slice (if b11c = 0 then b11a else Option.map (fun z : Addr => z.add (0 * 1)) b11a) ((Int.toNat n2) - 0) (b11c - 0)] ww5 fun ee13 ww14 => ∃ (clone12a : Option Addr) (clone12n : Nat) (clone12c : Nat), ee13 = .returned (.slice clone12a clone12n clone12c) ∧
  r1.elim False fun a15 =>
  ∃ (b16a : Option Addr) (b16n : Nat) (b16c : Nat), ww14.cell? (a15.add 0) = some (.slice b16a b16n b16c) ∧
  (0 : Int) ≤ (n2 : Int) ∧ (n2 : Int) ≤ (b16n : Int) ∧
  r1.elim False fun a17 =>
  canStore ww14 ((a17.add 0).add 0) ∧
  thenW (ww14.setCell ((a17.add 0).add 0) (.slice (if b16c = Int.toNat n2 then b16a else Option.map (fun z : Addr => z.add ((Int.toNat n2) * 1)) b16a) (b16n - (Int.toNat n2)) (b16c - (Int.toNat n2)))) fun ww18 =>
  R (.slice clone12a clone12n clone12c) ww18))

theorem wire_Reader_take.eq (r1 : Option Addr) (n2 : Int) (R : Value → World → Prop) (w : World) : mfunc Try.prog [] 81 [.pointer r1, .int .i64 n2] R w = wire_Reader_take.M r1 n2 R w := by kernel_rfl
theorem wire_Reader_take.ok (r1 : Option Addr) (n2 : Int) {R : Value → World → Prop} {w : World} (h : wire_Reader_take.M r1 n2 R w) : Calls Try.prog 81 #[.pointer r1, .int .i64 n2] w fun e w' => ∃ v, e = .returned v ∧ R v w' :=
  mfunc_ok follows (H := []) (args := [.pointer r1, .int .i64 n2]) (by rw [wire_Reader_take.eq]; exact h)

def wire_Reader_take.N (r1 : Option Addr) (n2 : Int) (R : Value → World → Prop) (w : World) : Prop :=
  Calls Try.prog 66 #[.pointer r1] w fun ee4 ww5 => ∃ (ok3 : Bool), ee4 = .returned (.bool ok3) ∧
  (ok3 = false →
    R (.slice none 0 0) ww5) ∧
  (ok3 = true →
    ∃ a7 : Addr, r1 = some a7 ∧
    ∃ (b9a : Option Addr) (b9n : Nat) (b9c : Nat), ww5.cell? (a7.add 0) = some (.slice b9a b9n b9c) ∧
    (n2 > (b9n : Int) →
      Calls Try.prog 68 #[.pointer r1, .int .i64 4] ww5 fun ee11 ww12 => ee11 = .returned (.tuple #[]) ∧
      R (.slice none 0 0) ww12) ∧
    (n2 ≤ (b9n : Int) →
      ∃ (b14a : Option Addr) (b14n : Nat) (b14c : Nat), ww5.cell? (a7.add 0) = some (.slice b14a b14n b14c) ∧
      (0 : Int) ≤ (n2 : Int) ∧ (n2 : Int) ≤ (b14c : Int) ∧ 
      Calls Try.prog 64 #[.slice b14a (Int.toNat n2) b14c] ww5 fun ee16 ww17 => ∃ (clone15a : Option Addr) (clone15n : Nat) (clone15c : Nat), ee16 = .returned (.slice clone15a clone15n clone15c) ∧
      ∃ (b19a : Option Addr) (b19n : Nat) (b19c : Nat), ww17.cell? (a7.add 0) = some (.slice b19a b19n b19c) ∧
      (0 : Int) ≤ (n2 : Int) ∧ (n2 : Int) ≤ (b19n : Int) ∧ 
      canStore ww17 ((a7.add 0).add 0) ∧
      thenW (ww17.setCell ((a7.add 0).add 0) (.slice (cutA b19a b19c (Int.toNat n2) 1) (b19n - (Int.toNat n2)) (b19c - (Int.toNat n2)))) fun ww20 =>
      R (.slice clone15a clone15n clone15c) ww20))

theorem wire_Reader_take.up (r1 : Option Addr) (n2 : Int) {R : Value → World → Prop} {w : World} (h : wire_Reader_take.N r1 n2 R w) : wire_Reader_take.M r1 n2 R w := by
  unfold wire_Reader_take.M
  unfold wire_Reader_take.N at h
  refine h.mono fun ee4 ww5 h => ?_
  obtain ⟨ok3, he, h⟩ := h
  refine ⟨ok3, he, ?_⟩
  refine bif_of (fun c6 => ?_) (fun c6 => ?_)
  · have h := h.1 (not_t c6)
    exact h
  · have h := h.2 (not_f c6)
    obtain ⟨a7, ha7, h⟩ := h
    refine elim_some ha7 ?_
    obtain ⟨b9a, b9n, b9c, hc8, h⟩ := h
    refine ⟨b9a, b9n, b9c, hc8, ?_⟩
    refine bif_of (fun c10 => ?_) (fun c10 => ?_)
    · have h := h.1 (of_decide_eq_true c10)
      refine h.mono fun ee11 ww12 h => ?_
      obtain ⟨he, h⟩ := h
      refine ⟨he, ?_⟩
      exact h
    · have h := h.2 (Int.not_lt.1 (of_decide_eq_false c10))
      refine elim_some ha7 ?_
      obtain ⟨b14a, b14n, b14c, hc13, h⟩ := h
      refine ⟨b14a, b14n, b14c, hc13, ?_⟩
      obtain ⟨hq0, hq1, h⟩ := h
      refine ⟨hq0, hq1, ?_⟩
      try rw [cut_zero]
      refine h.mono fun ee16 ww17 h => ?_
      obtain ⟨clone15a, clone15n, clone15c, he, h⟩ := h
      refine ⟨clone15a, clone15n, clone15c, he, ?_⟩
      refine elim_some ha7 ?_
      obtain ⟨b19a, b19n, b19c, hc18, h⟩ := h
      refine ⟨b19a, b19n, b19c, hc18, ?_⟩
      obtain ⟨hq0, hq1, h⟩ := h
      refine ⟨hq0, hq1, ?_⟩
      refine elim_some ha7 ?_
      obtain ⟨hcs, h⟩ := h
      refine ⟨hcs, thenW_in fun ww20 e20 => ?_⟩
      replace h := thenW_out h e20
      exact h

theorem wire_Reader_take.go (r1 : Option Addr) (n2 : Int) {R : Value → World → Prop} {w : World} (h : wire_Reader_take.N r1 n2 R w) : Calls Try.prog 81 #[.pointer r1, .int .i64 n2] w fun e w' => ∃ v, e = .returned v ∧ R v w' := wire_Reader_take.ok r1 n2 (wire_Reader_take.up r1 n2 h)
theorem wire_Reader_take.run (r1 : Option Addr) (n2 : Int) {V : Value} {Q : World → Prop} {w : World} (h : wire_Reader_take.N r1 n2 (fun v w' => v = V ∧ Q w') w) : Calls Try.prog 81 #[.pointer r1, .int .i64 n2] w (Ret V Q) := (wire_Reader_take.go r1 n2 h).mono fun e w' ⟨v, he, hv, hq⟩ => ⟨by rw [he, hv], hq⟩

/-- (*wire.Reader).Bytes -/
def wire_Reader_Bytes.M (r1 : Option Addr) (most2 : Int) (R : Value → World → Prop) (w : World) : Prop :=
  Calls Try.prog 47 #[.pointer r1, .int .i64 most2] w fun ee4 ww5 => ∃ (count3 : Int), ee4 = .returned (.int .i64 count3) ∧
  Calls Try.prog 81 #[.pointer r1, .int .i64 count3] ww5 fun ee7 ww8 => ∃ (take6a : Option Addr) (take6n : Nat) (take6c : Nat), ee7 = .returned (.slice take6a take6n take6c) ∧
  R (.slice take6a take6n take6c) ww8

theorem wire_Reader_Bytes.eq (r1 : Option Addr) (most2 : Int) (R : Value → World → Prop) (w : World) : mfunc Try.prog [] 79 [.pointer r1, .int .i64 most2] R w = wire_Reader_Bytes.M r1 most2 R w := by kernel_rfl
theorem wire_Reader_Bytes.ok (r1 : Option Addr) (most2 : Int) {R : Value → World → Prop} {w : World} (h : wire_Reader_Bytes.M r1 most2 R w) : Calls Try.prog 79 #[.pointer r1, .int .i64 most2] w fun e w' => ∃ v, e = .returned v ∧ R v w' :=
  mfunc_ok follows (H := []) (args := [.pointer r1, .int .i64 most2]) (by rw [wire_Reader_Bytes.eq]; exact h)

def wire_Reader_Bytes.N (r1 : Option Addr) (most2 : Int) (R : Value → World → Prop) (w : World) : Prop :=
  Calls Try.prog 47 #[.pointer r1, .int .i64 most2] w fun ee4 ww5 => ∃ (count3 : Int), ee4 = .returned (.int .i64 count3) ∧
  Calls Try.prog 81 #[.pointer r1, .int .i64 count3] ww5 fun ee7 ww8 => ∃ (take6a : Option Addr) (take6n : Nat) (take6c : Nat), ee7 = .returned (.slice take6a take6n take6c) ∧
  R (.slice take6a take6n take6c) ww8

theorem wire_Reader_Bytes.up (r1 : Option Addr) (most2 : Int) {R : Value → World → Prop} {w : World} (h : wire_Reader_Bytes.N r1 most2 R w) : wire_Reader_Bytes.M r1 most2 R w := by
  unfold wire_Reader_Bytes.M
  unfold wire_Reader_Bytes.N at h
  refine h.mono fun ee4 ww5 h => ?_
  obtain ⟨count3, he, h⟩ := h
  refine ⟨count3, he, ?_⟩
  refine h.mono fun ee7 ww8 h => ?_
  obtain ⟨take6a, take6n, take6c, he, h⟩ := h
  refine ⟨take6a, take6n, take6c, he, ?_⟩
  exact h

theorem wire_Reader_Bytes.go (r1 : Option Addr) (most2 : Int) {R : Value → World → Prop} {w : World} (h : wire_Reader_Bytes.N r1 most2 R w) : Calls Try.prog 79 #[.pointer r1, .int .i64 most2] w fun e w' => ∃ v, e = .returned v ∧ R v w' := wire_Reader_Bytes.ok r1 most2 (wire_Reader_Bytes.up r1 most2 h)
theorem wire_Reader_Bytes.run (r1 : Option Addr) (most2 : Int) {V : Value} {Q : World → Prop} {w : World} (h : wire_Reader_Bytes.N r1 most2 (fun v w' => v = V ∧ Q w') w) : Calls Try.prog 79 #[.pointer r1, .int .i64 most2] w (Ret V Q) := (wire_Reader_Bytes.go r1 most2 h).mono fun e w' ⟨v, he, hv, hq⟩ => ⟨by rw [he, hv], hq⟩

abbrev RS := List UInt8 × Int
/-- so many bytes. -/
def takeR (n : Nat) (s : RS) : List UInt8 × RS := if s.2 = 0 then (if s.1.length < n then ([], ([], 4)) else (s.1.take n, (s.1.drop n, 0))) else ([], s)
def bytesR (m : Int) (s : RS) : List UInt8 × RS := takeR (countR m s).1 (countR m s).2
theorem takeR_len (n : Nat) (s : RS) : (takeR n s).2.1.length ≤ s.1.length ∧ (takeR n s).1.length ≤ s.1.length := by
  unfold takeR
  split
  · split
    · simp
    · simp; omega
  · simp
theorem bytesR_len (m : Int) (s : RS) : (bytesR m s).2.1.length ≤ s.1.length ∧ (bytesR m s).1.length ≤ s.1.length := by
  have h1 := W.countR_len m s
  have h2 := takeR_len (countR m s).1 (countR m s).2
  unfold bytesR
  omega
theorem bytesR_le {m : Int} (hm : 0 ≤ m) (s : RS) : ((bytesR m s).1.length : Int) ≤ m := by
  have h := W.count_le m s hm
  unfold bytesR takeR
  split
  · split
    · simpa using hm
    · simp only [List.length_take]; omega
  · simpa using hm
section
variable {w w' : World} {a : Option Addr} {c N p : Nat} {bs : List UInt8} {k : Int}
theorem Rd_drop (h : Rd w p bs k) {a : Option Addr} {c : Nat} (hb : Blk w p 120 [.slice a bs.length c, .int .i64 k]) {n : Nat} (hn : n ≤ bs.length) (hc : bs.length ≤ c) (hr : RowAt w a (bytesV bs)) (h4 : bytesV bs ≠ [] → ∀ ad, a = some ad → ad.block < p)
    (e : w' = w.setCell ((blk p).add 0) (.slice (cutA a c n 1) (bs.length - n) (c - n))) : Rd w' p (bs.drop n) k ∧ Ext (fun b => b = p) w w' := by
  have hx : Ext (fun b => b = p) w w' := (Ext.refl (fun b => b = p) w).x_set (q := p) (i := 0) rfl (.inl rfl) e
  have hb' := hb.seti 0 rfl e
  have hne : bytesV (bs.drop n) ≠ [] → bytesV bs ≠ [] := fun h0 e => h0 (by rw [bytesV, List.map_drop, show List.map u8V bs = [] from e]; simp)
  refine ⟨⟨cutA a c n 1, c - n, by rw [List.length_drop]; exact hb', by rw [List.length_drop]; omega, ?_, fun h0 ad ha => ?_⟩, hx⟩
  · have := hr.cut n c (by rw [bytesV_length]; exact hc)
    rw [show bytesV (bs.drop n) = (bytesV bs).drop n by simp [bytesV]]
    refine this.ext' hx fun h0 ad ha hq => ?_
    obtain ⟨b, hb, hbb⟩ := cutA_block ha
    have := h4 (fun e => h0 (by rw [e]; simp)) b hb
    omega
  · obtain ⟨b, hb, hbb⟩ := cutA_block ha
    have := h4 (hne h0) b hb
    omega
theorem Take_spec (h : Rd w p bs k) (hl : bs.length < 1000000) (n : Nat) :
    Calls Try.prog 81 #[.pointer (some (blk p)), .int .i64 n] w (fun e w' => ∃ a c, e = .returned (.slice a (takeR n (bs, k)).1.length c) ∧ OwnB w.heap.size w' a c (takeR n (bs, k)).1 ∧ Rd w' p (takeR n (bs, k)).2.1 (takeR n (bs, k)).2.2 ∧ Ext (fun b => b = p) w w') := by
  refine (wire_Reader_take.go _ _ (R := fun v w' => ∃ a c, v = (.slice a (takeR n (bs, k)).1.length c) ∧ OwnB w.heap.size w' a c (takeR n (bs, k)).1 ∧ Rd w' p (takeR n (bs, k)).2.1 (takeR n (bs, k)).2.2 ∧ Ext (fun b => b = p) w w') ?_).mono fun e w' ⟨v, he, a, c, hv, hw⟩ => ⟨a, c, by rw [he, hv], hw⟩
  unfold wire_Reader_take.N
  refine (W.ok_spec h).mono fun e w5 ⟨he, hw⟩ => ⟨_, he, fun hk => ?_, fun hk => ?_⟩ <;> subst hw <;> simp only [beq_iff_eq, beq_eq_false_iff_ne] at hk
  · unfold takeR
    rw [if_neg hk]
    exact ⟨none, 0, rfl, OwnB.nil _ _, h, Ext.refl _ _⟩
  · subst hk
    obtain ⟨a, c, h1, h2, h3, h4⟩ := id h
    refine ⟨_, rfl, a, bs.length, c, h1.cella (i := 0) rfl, fun hn => ?_, fun hn => ?_⟩
    · unfold takeR
      rw [if_pos rfl, if_pos (by show bs.length < n; omega)]
      refine (W.fail_spec h 4).mono fun e w12 ⟨he, hr, hx⟩ => ⟨he, none, 0, rfl, OwnB.nil _ _, hr, hx⟩
    · unfold takeR
      rw [if_pos rfl, if_neg (by show ¬ bs.length < n; omega)]
      refine ⟨a, bs.length, c, h1.cella (i := 0) rfl, by omega, by omega, ?_⟩
      rw [Int.toNat_natCast]
      have ht : bytesV (bs.take n) = (bytesV bs).take n := by simp [bytesV]
      have hlt : (bs.take n).length = n := by rw [List.length_take]; omega
      have hc := W.clone_spec (c := c) (bs := bs.take n) (a := a) (w := w5) (by rw [ht]; exact h3.take n) (by omega)
      rw [hlt] at hc
      refine hc.mono fun e w18 ⟨ra, rc, he, hO, hx⟩ => ⟨ra, n, rc, he, ?_⟩
      have h' := h.no hx
      refine ⟨a, bs.length, c, (h1.ext hx id).cella (i := 0) rfl, by omega, by omega, (h1.ext hx id).cana (i := 0) rfl, thenW_in fun w23 e23 => ?_⟩
      obtain ⟨q1, q2⟩ := Rd_drop h' (h1.ext hx id) (n := n) (by omega) h2 (h3.no hx) h4 e23
      refine ⟨ra, rc, by rw [hlt], hO.ext q2 fun ad ha hb => ?_, q1, hx.none.trans q2⟩
      have := (hO.fr ad ha).1
      have := h1.lt
      omega
theorem RBytes_spec (h : Rd w p bs k) (hl : bs.length < 1000000) {m : Int} (hm : m < 4611686018427387904) :
    Calls Try.prog 79 #[.pointer (some (blk p)), .int .i64 m] w (fun e w' => ∃ a c, e = .returned (.slice a (bytesR m (bs, k)).1.length c) ∧ OwnB w.heap.size w' a c (bytesR m (bs, k)).1 ∧ Rd w' p (bytesR m (bs, k)).2.1 (bytesR m (bs, k)).2.2 ∧ Ext (fun b => b = p) w w') := by
  refine (wire_Reader_Bytes.go _ _ (R := fun v w' => ∃ a c, v = (.slice a (bytesR m (bs, k)).1.length c) ∧ OwnB w.heap.size w' a c (bytesR m (bs, k)).1 ∧ Rd w' p (bytesR m (bs, k)).2.1 (bytesR m (bs, k)).2.2 ∧ Ext (fun b => b = p) w w') ?_).mono fun e w' ⟨v, he, a, c, hv, hw⟩ => ⟨a, c, by rw [he, hv], hw⟩
  unfold wire_Reader_Bytes.N
  refine (W.Count_spec h hl hm).mono fun e w5 ⟨he, hr, hx⟩ => ⟨_, he, ?_⟩
  have hlen := W.countR_len m (bs, k)
  refine (Take_spec hr (by simp only at hlen; omega) _).mono fun e w8 ⟨a, c, he, hO, hr2, hx2⟩ => ⟨a, _, c, he, a, c, rfl, ⟨hO.own, fun ad ha => ⟨Nat.le_trans hx.size (hO.fr ad ha).1, (hO.fr ad ha).2⟩⟩, hr2, hx.trans hx2⟩

/-! ### the reference's -/
end
end Go.Proofs.Ytmhfoieeldiecaa

/- Members: a change's bytes, the program's and the reference's. -/
set_option linter.unusedVariables false
set_option linter.unusedSimpArgs false
set_option maxRecDepth 20000
set_option maxHeartbeats 4000000
namespace Go.Proofs.Ytmhfoieeldiecaa
open Go Go.Mx Go.Proofs
open W (OwnB)
def wrapL (x : Int × List UInt8) : List UInt8 := numL x.1.toNat ++ (numL x.2.length ++ x.2)
def wsL (l : List (Int × List UInt8)) : List UInt8 := l.flatMap wrapL
def bodyM (c : Chg) : List UInt8 :=
  if c.kd = 3 then numL 3 ++ numL c.ws.length ++ wsL c.ws ++ (numL c.old.length ++ c.old)
  else if c.kd = 1 then numL 1 ++ numL c.who.toNat ++ numL c.pub.toNat else numL 2 ++ numL c.who.toNat ++ numL c.lim.toNat
def bytesM (c : Chg) : List UInt8 × Int := if rightM c = true then (bodyM c, 0) else ([], 1)
section
variable {w w' w1 : World} {a b : Option Addr} {c d N : Nat} {cg : Chg} {l : List Wr} {wa oa : Option Addr} {wc oc : Nat} {bs : List UInt8} {p : Nat}
theorem boxesGo_all : ∀ {l : List (Int × List UInt8)} {last : Int}, boxesGo last l = true → ∀ x ∈ l, 0 ≤ x.1 ∧ x.1 < 8 ∧ last < x.1 ∧ x.2.length = 16
  | [], _, _, x, hx => by cases hx
  | y :: r, last, h, x, hx => by
    simp only [boxesGo, Bool.and_eq_true, decide_eq_true_eq] at h
    obtain ⟨⟨⟨h1, h2⟩, h3⟩, h4⟩ := h
    rcases List.mem_cons.1 hx with rfl | hx
    · exact ⟨h1.1, h1.2, h2, h3⟩
    · have := boxesGo_all h4 x hx; omega
theorem boxesGo_len : ∀ {l : List (Int × List UInt8)} {last : Int}, boxesGo last l = true → -1 ≤ last → (l.length : Int) + last ≤ 7 ∨ l = []
  | [], _, _, _ => .inr rfl
  | y :: r, last, h, hl => by
    simp only [boxesGo, Bool.and_eq_true, decide_eq_true_eq] at h
    obtain ⟨⟨⟨h1, h2⟩, h3⟩, h4⟩ := h
    left
    rcases boxesGo_len h4 (by omega) with h5 | h5
    · simp only [List.length_cons]; omega
    · subst h5; simp only [List.length_cons, List.length_nil]; omega
theorem right_kd (h : rightM cg = true) : cg.kd = 1 ∨ cg.kd = 2 ∨ cg.kd = 3 := by
  by_cases h1 : cg.kd = 1
  · exact .inl h1
  by_cases h2 : cg.kd = 2
  · exact .inr (.inl h2)
  by_cases h3 : cg.kd = 3
  · exact .inr (.inr h3)
  rw [rightM_0 h1 h2 h3] at h; cases h
theorem right_3 (h : rightM cg = true) (h3 : cg.kd = 3) : boxesGo (-1) cg.ws = true ∧ cg.ws ≠ [] ∧ cg.who = 0 ∧ cg.pub = 0 ∧ cg.lim = 0 ∧ (cg.old.length = 0 ∨ cg.old.length = 24) ∧ cg.ws.length ≤ 8 := by
  rw [rightM_3 h3, Bool.and_eq_true, decide_eq_true_eq] at h
  obtain ⟨h1, h2⟩ := h
  unfold boxesP at h1
  rw [Bool.and_eq_true, decide_eq_true_eq] at h1
  refine ⟨h1.1, h1.2, h2.1, h2.2.1, h2.2.2.1, h2.2.2.2, ?_⟩
  rcases boxesGo_len h1.1 (by decide) with h | h
  · omega
  · exact absurd h h1.2
theorem wrapL_len {x : Int × List UInt8} (h : x.2.length ≤ 100) : (wrapL x).length ≤ 120 := by
  have h1 := W.numL_le x.1.toNat
  have h2 := W.numL_le x.2.length
  unfold wrapL; simp only [List.length_append]; omega
theorem wsL_len : ∀ {l : List (Int × List UInt8)}, (∀ x ∈ l, x.2.length ≤ 100) → (wsL l).length ≤ 120 * l.length
  | [], _ => Nat.zero_le _
  | x :: r, h => by
    have h1 := wrapL_len (h x (by simp))
    have h2 := wsL_len (l := r) fun y hy => h y (by simp [hy])
    unfold wsL at h2 ⊢
    rw [List.flatMap_cons, List.length_append, List.length_cons]; omega
theorem mnum_spec (h : RowAt w a (bytesV bs)) (hl : bs.length ≤ 1000000) {x : Int} (h0 : 0 ≤ x) (h1 : x < 18446744073709551616) :
    Calls Try.prog 41 #[.slice a bs.length c, .int .u64 (IntKind.u64.wrap x)] w (fun e w' => ∃ a' c', e = .returned (.slice a' (bs ++ numL x.toNat).length c') ∧ OwnB w.heap.size w' a' c' (bs ++ numL x.toNat) ∧ Ext no w w') := by
  have := W.Num_spec (c := c) h hl (n := x.toNat) (by omega)
  rw [Int.toNat_of_nonneg h0] at this
  rw [wu64 h0 h1]; exact this
/-- what a change's bytes are given as. -/
def BytG (w : World) (r : List UInt8 × Int) (v : Value) (w' : World) : Prop := ∃ a' c', v = .tuple #[.slice a' r.1.length c', .int .i64 r.2] ∧ OwnB w.heap.size w' a' c' r.1 ∧ Ext no w w'
theorem mBytes_spec (hr : RowAt w wa (l.flatMap Wr.C)) (hl : l.map Wr.p = cg.ws) (hn : l.length < 1000) (hb : ∀ x ∈ l, RowAt w x.a (bytesV x.b)) (ho : RowAt w oa (bytesV cg.old)) (hol : cg.old.length < 1000) (hpub : 0 ≤ cg.pub ∧ cg.pub < 18446744073709551616) :
    Calls Try.prog 27 #[chgV cg wa wc oa oc] w (fun e w' => ∃ v, e = .returned v ∧ BytG w (bytesM cg) v w') := by
  refine members_Bytes.go cg.kd cg.who cg.pub cg.lim wa cg.ws.length wc oa cg.old.length oc (R := BytG w (bytesM cg)) ?_
  unfold members_Bytes.N
  intro w7 p8 X7 hp
  have h8 := (hp p8 (by simp)).1
  have hlen : cg.ws.length = l.length := by rw [← hl]; simp
  refine (Right_spec (hr.no X7) hl (by omega) (by omega)).mono fun e w11 ⟨he, X11⟩ => ⟨_, he, X11.kept, fun hf => ?_, fun ht => ?_⟩
  · unfold bytesM; rw [if_neg (by rw [hf]; decide)]
    exact ⟨none, 0, rfl, OwnB.nil _ _, X7.trans X11⟩
  have Y11 := X7.trans X11
  have hB : bytesM cg = (bodyM cg, 0) := by unfold bytesM; rw [if_pos ht]
  rw [hB]
  have hkd := right_kd ht
  have hwho := rightM_who ht
  refine (mnum_spec (a := none) (c := 0) (bs := []) (RowAt.nil _ _) (by decide) (x := cg.kd) (by omega) (by omega)).mono fun e w15 ⟨a15, c15, he, O15, X15⟩ => ⟨_, _, _, he, X15.kept, fun hk => ?_, fun hk => ?_⟩
  all_goals have Y15 := Y11.trans X15
  all_goals have n1 := W.numL_le cg.kd.toNat
  · obtain ⟨h1, h2, h3, h4, h5, h6, h7⟩ := right_3 ht hk
    have hall := boxesGo_all h1
    have hbody : bodyM cg = numL 3 ++ numL cg.ws.length ++ wsL cg.ws ++ (numL cg.old.length ++ cg.old) := by unfold bodyM; rw [if_pos hk]
    rw [hbody]
    rw [hk] at O15
    rw [hk]
    have hwsl : ∀ x ∈ cg.ws, x.2.length ≤ 100 := fun x hx => by have := hall x hx; omega
    refine (mnum_spec O15.row (by simp only [List.nil_append]; have := W.numL_le (3 : Int).toNat; omega) (x := (cg.ws.length : Int)) (by omega) (by omega)).mono fun e w19 ⟨a19, c19, he, O19, X19⟩ => ⟨_, _, _, he, X19.kept, ?_⟩
    have Y19 := Y15.trans X19
    have hO : OwnB w.heap.size w19 a19 c19 (numL 3 ++ numL cg.ws.length ++ wsL (cg.ws.take 0)) := by
      have := (⟨O19.own, fun ad ha => ⟨Nat.le_trans (Nat.le_trans Y15.size (Nat.le_refl _)) (O19.fr ad ha).1, (O19.fr ad ha).2⟩⟩ : OwnB w.heap.size w19 a19 c19 _)
      have e : numL 3 ++ numL cg.ws.length ++ wsL (cg.ws.take 0) = [] ++ numL (3 : Int).toNat ++ numL ((cg.ws.length : Int)).toNat := by rw [Int.toNat_natCast]; simp [wsL]
      rw [e]; exact this
    have hst : ∀ t, (numL 3 ++ numL cg.ws.length ++ wsL (cg.ws.take t)).length ≤ 2000 := fun t => by
      have q1 := W.numL_le 3
      have q2 := W.numL_le cg.ws.length
      have q3 := wsL_len (l := cg.ws.take t) fun x hx => hwsl x (List.mem_of_mem_take hx)
      have q4 : (cg.ws.take t).length ≤ 8 := by rw [List.length_take]; omega
      simp only [List.length_append]; omega
    refine ⟨fun q vs w1 => ∃ (t : Nat) (a1 : Option Addr) (c1 : Nat), vs = [.slice a1 (numL 3 ++ numL cg.ws.length ++ wsL (cg.ws.take t)).length c1, .int .i64 t] ∧ q + t = l.length ∧ OwnB w.heap.size w1 a1 c1 (numL 3 ++ numL cg.ws.length ++ wsL (cg.ws.take t)) ∧ Ext no w w1, l.length, ⟨0, a19, c19, ?_, rfl, hO, Y19⟩, ?_⟩
    · have e : ([] ++ numL (3 : Int).toNat ++ numL ((cg.ws.length : Int)).toNat).length = (numL 3 ++ numL cg.ws.length ++ wsL (cg.ws.take 0)).length := by rw [Int.toNat_natCast]; simp [wsL]
      rw [e]; rfl
    rintro q w24 ba bn bc t0 ⟨t, a1, c1, hi, hq, O24, Y24⟩
    simp only [List.cons.injEq, Value.slice.injEq, Value.int.injEq, true_and, and_true] at hi
    obtain ⟨⟨rfl, rfl, rfl⟩, rfl⟩ := hi
    have hsz := hst t
    refine ⟨fun ht => ?_, fun ht => ?_⟩
    · have htl : t < l.length := by omega
      have hg : l[t]? = some l[t] := List.getElem?_eq_getElem htl
      have hgw : cg.ws[t]? = some l[t].p := by rw [← hl, List.getElem?_map, hg]; rfl
      have hmem := List.mem_of_getElem? hgw
      have hxb := hb _ (List.getElem_mem htl)
      have htk : wsL (cg.ws.take (t + 1)) = wsL (cg.ws.take t) ++ wrapL l[t].p := by
        rw [List.take_add_one, hgw]; unfold wsL; rw [List.flatMap_append]; simp
      have hx := hall _ hmem
      generalize l[t] = x at *
      have estep : numL 3 ++ numL cg.ws.length ++ wsL (cg.ws.take t) ++ numL x.who.toNat ++ numL x.b.length ++ x.b = numL 3 ++ numL cg.ws.length ++ wsL (cg.ws.take (t + 1)) := by
        rw [htk]; unfold wrapL; simp only [List.append_assoc]; rfl
      have hx1 : 0 ≤ x.who ∧ x.who < 8 := ⟨hx.1, hx.2.1⟩
      have hx2 : x.b.length = 16 := hx.2.2.2
      obtain ⟨ad, rfl⟩ := hr.faddr Wr.len (by decide) htl
      refine ⟨ad, rfl, by omega, by omega, x.who, x.a, x.b.length, x.c, by rw [Int.toNat_natCast]; exact (hr.no Y24).floads Wr.len hg, fun w33 p34 X33 hp34 => ?_⟩
      have Y33 := Y24.trans X33
      refine (mnum_spec (O24.no X33).row (by omega) (x := x.who) (by omega) (by omega)).mono fun e w37 ⟨a37, c37, he, O37, X37⟩ => ⟨_, _, _, he, X37.kept, ?_⟩
      have Y37 := Y33.trans X37
      refine (W.Bytes_spec O37.row (by have := W.numL_le x.who.toNat; rw [List.length_append]; omega) (hxb.no Y37) (by omega)).mono fun e w40 ⟨a40, c40, he, O40, X40⟩ => ⟨_, _, _, he, X40.kept, by omega, by omega, q - 1, by omega, t + 1, a40, c40, ?_, by omega, ?_, Y37.trans X40⟩
      · rw [estep]; rfl
      · rw [estep] at O40
        exact ⟨O40.own, fun ad ha => ⟨Nat.le_trans Y37.size (O40.fr ad ha).1, (O40.fr ad ha).2⟩⟩
    · have htt : cg.ws.take t = cg.ws := List.take_of_length_le (by omega)
      rw [htt] at O24 hsz ⊢
      refine (W.Bytes_spec O24.row (by omega) (ho.no Y24) (by omega)).mono fun e w44 ⟨a44, c44, he, O44, X44⟩ => ⟨_, _, _, he, ?_⟩
      rw [List.append_assoc _ (numL cg.old.length)] at O44 ⊢
      exact ⟨a44, c44, rfl, ⟨O44.own, fun ad ha => ⟨Nat.le_trans Y24.size (O44.fr ad ha).1, (O44.fr ad ha).2⟩⟩, Y24.trans X44⟩
  · refine (mnum_spec O15.row (by simp only [List.nil_append]; omega) (x := cg.who) (by omega) (by omega)).mono fun e w47 ⟨a47, c47, he, O47, X47⟩ => ⟨_, _, _, he, X47.kept, fun hk1 => ?_, fun hk1 => ?_⟩
    all_goals have Y47 := Y15.trans X47
    all_goals have n2 := W.numL_le cg.who.toNat
    · have hbody : bodyM cg = [] ++ numL cg.kd.toNat ++ numL cg.who.toNat ++ numL cg.pub.toNat := by unfold bodyM; rw [if_neg hk, if_pos hk1, hk1]; rfl
      rw [hbody]
      have := W.Num_spec (c := c47) O47.row (by simp only [List.nil_append, List.length_append]; omega) (n := cg.pub.toNat) (by omega)
      rw [Int.toNat_of_nonneg hpub.1] at this
      refine this.mono fun e w51 ⟨a51, c51, he, O51, X51⟩ => ⟨_, _, _, he, a51, c51, rfl, ⟨O51.own, fun ad ha => ⟨Nat.le_trans Y47.size (O51.fr ad ha).1, (O51.fr ad ha).2⟩⟩, Y47.trans X51⟩
    · have hk2 : cg.kd = 2 := by omega
      have hbody : bodyM cg = [] ++ numL cg.kd.toNat ++ numL cg.who.toNat ++ numL cg.lim.toNat := by unfold bodyM; rw [if_neg hk, if_neg hk1, hk2]; rfl
      rw [hbody]
      have hlim : 0 ≤ cg.lim ∧ cg.lim ≤ 200 := by
        rw [rightM_2 hk2, decide_eq_true_eq] at ht; exact ⟨ht.2.2.2.1, ht.2.2.2.2.1⟩
      refine (mnum_spec O47.row (by simp only [List.nil_append, List.length_append]; omega) (x := cg.lim) (by omega) (by omega)).mono fun e w54 ⟨a54, c54, he, O54, X54⟩ => ⟨_, _, _, he, a54, c54, rfl, ⟨O54.own, fun ad ha => ⟨Nat.le_trans Y47.size (O54.fr ad ha).1, (O54.fr ad ha).2⟩⟩, Y47.trans X54⟩
end
end Go.Proofs.Ytmhfoieeldiecaa

/- Members: a change that is read, the program's reader. -/
set_option linter.unusedVariables false
set_option linter.unusedSimpArgs false
set_option maxRecDepth 20000
set_option maxHeartbeats 4000000
namespace Go.Proofs.Ytmhfoieeldiecaa
open Go Go.Mx Go.Proofs
open W (OwnB Rd RdR countR numR doneR)
def wsAt (s : RS) : Nat → List (Int × List UInt8) × RS
  | 0 => ([], s)
  | t + 1 => ((wsAt s t).1 ++ [(((countR 7 (wsAt s t).2).1 : Int), (bytesR 16 (countR 7 (wsAt s t).2).2).1)], (bytesR 16 (countR 7 (wsAt s t).2).2).2)
def Chg.z : Chg := ⟨0, 0, 0, 0, [], []⟩
def rawM (b : List UInt8) : Chg × RS :=
  if (countR 3 (b, 0)).1 = 1 then (⟨1, (countR 7 (countR 3 (b, 0)).2).1, (numR (countR 7 (countR 3 (b, 0)).2).2).1, 0, [], []⟩, (numR (countR 7 (countR 3 (b, 0)).2).2).2)
  else if (countR 3 (b, 0)).1 = 2 then (⟨2, (countR 7 (countR 3 (b, 0)).2).1, 0, (countR 200 (countR 7 (countR 3 (b, 0)).2).2).1, [], []⟩, (countR 200 (countR 7 (countR 3 (b, 0)).2).2).2)
  else if (countR 3 (b, 0)).1 = 3 then (⟨3, 0, 0, 0, (wsAt (countR 8 (countR 3 (b, 0)).2).2 (countR 8 (countR 3 (b, 0)).2).1).1, (bytesR 24 (wsAt (countR 8 (countR 3 (b, 0)).2).2 (countR 8 (countR 3 (b, 0)).2).1).2).1⟩, (bytesR 24 (wsAt (countR 8 (countR 3 (b, 0)).2).2 (countR 8 (countR 3 (b, 0)).2).1).2).2)
  else (⟨(countR 3 (b, 0)).1, 0, 0, 0, [], []⟩, (countR 3 (b, 0)).2)
def readM (b : List UInt8) : Chg × Int := if doneR (rawM b).2 = 0 then (if rightM (rawM b).1 = true then ((rawM b).1, 0) else (Chg.z, 4)) else (Chg.z, doneR (rawM b).2)
section
variable {K : Nat → Prop} {w w' w1 : World} {o o' o1 : Own} {a : Option Addr} {c N p q : Nat} {l : List Wr} {bs : List UInt8} {k : Int}
theorem cell_in {t : TypeId} {cs : List Value} {ad : Addr} {v : Value} (h : Blk w q t cs) (hc : w.cell? ad = some v) (hq : ad.block = q) : v ∈ cs := by
  simp only [Blk] at h
  unfold World.cell? at hc
  rw [hq, h] at hc
  simp only at hc
  split at hc
  · cases hc
  · exact List.mem_of_getElem? (by simpa using hc)
/-- a store into a block without bytes leaves a reader as it is. -/
theorem Rd_apart {t : TypeId} {cs : List Value} (h : Rd w p bs k) (hb : Blk w q t cs) (hcs : ∀ v ∈ cs, ∀ x, v ≠ .int .u8 x) (hpq : p ≠ q) (X : Ext (fun b => b = q) w w') : Rd w' p bs k := by
  obtain ⟨a, c, h1, h2, h3, h4⟩ := h
  refine ⟨a, c, h1.ext X hpq, h2, h3.ext' X fun hne ad ha (hbq : ad.block = q) => ?_, h4⟩
  subst ha
  cases bs with
  | nil => exact hne rfl
  | cons x r =>
    have := h3.at_ (i := 0) (v := .int .u8 (x.toNat : Int)) rfl
    exact hcs _ (cell_in hb this (by rw [block_add]; exact hbq)) _ rfl
theorem who_spec (h : Rd w p bs k) (hl : bs.length < 1000000) : Calls Try.prog 78 #[.agg #[.pointer (some (blk p))]] w (Ret (.int .i64 (countR 7 (bs, k)).1) fun w' => Rd w' p (countR 7 (bs, k)).2.1 (countR 7 (bs, k)).2.2 ∧ Ext (fun b => b = p) w w') := by
  refine members_reader_who.run _ ?_
  unfold members_reader_who.N
  intro w2 X2
  exact (W.Count_spec (h.no X2) hl (m := 7) (by decide)).mono fun e w6 ⟨he, hr, X6⟩ => ⟨_, he, rfl, hr, X2.none.trans X6⟩
def cgC (kd who pub lim : Int) (wa : Option Addr) (wn wc : Nat) (oa : Option Addr) (on oc : Nat) : List Value := [.int .i64 kd, .int .i64 who, .int .u64 pub, .int .i64 lim, .slice wa wn wc, .slice oa on oc]
theorem cgC_no {kd who pub lim : Int} {wa oa : Option Addr} {wn wc on oc : Nat} : ∀ v ∈ cgC kd who pub lim wa wn wc oa on oc, ∀ x, v ≠ .int .u8 x := fun v hv x => by
  simp only [cgC, List.mem_cons, List.not_mem_nil, or_false] at hv
  rcases hv with rfl | rfl | rfl | rfl | rfl | rfl <;> intro h <;> cases h
theorem invite_rd {kd : Int} (h : Rd w p bs k) (hl : bs.length < 1000000) (hb : Blk w q 36 (cgC kd 0 0 0 none 0 0 none 0 0)) (hqp : q < p) :
    Calls Try.prog 69 #[.agg #[.pointer (some (blk p))], .pointer (some (blk q))] w (Ret (.tuple #[]) fun w' => Rd w' p (numR (countR 7 (bs, k)).2).2.1 (numR (countR 7 (bs, k)).2).2.2 ∧ Blk w' q 36 (cgC kd (countR 7 (bs, k)).1 (numR (countR 7 (bs, k)).2).1 0 none 0 0 none 0 0) ∧ Ext (fun b => b = q ∨ b = p) w w') := by
  refine members_reader_invite.run _ _ ?_
  unfold members_reader_invite.N
  intro w4 p5 X4 hp
  have h5 := (hp p5 (by simp)).1
  have hlt := h.lt
  refine (who_spec (h.no X4) hl).mono fun e w8 ⟨he, r8, X8⟩ => ⟨_, he, X8.keep fun x hx _ hb => by simp at hx; omega, ?_⟩
  have hl2 : (countR 7 (bs, k)).2.1.length ≤ bs.length := W.countR_len 7 (bs, k)
  refine (W.RNum_spec r8 (by omega)).mono fun e w11 ⟨he, r11, X11⟩ => ⟨_, he, blk q, rfl, ?_⟩
  have b11 := ((hb.ext X4 id).ext X8 (by omega)).ext X11 (by omega)
  refine ⟨b11.cani 1 rfl rfl, thenW_in fun w13 e13 => ?_⟩
  have X13 := (Ext.refl (fun b => b = q) w11).x_set (q := q) (i := 1) rfl (.inl rfl) e13
  have b13 := b11.seti 1 (v := .int .i64 (countR 7 (bs, k)).1) rfl e13
  refine ⟨b13.cani 2 rfl rfl, thenW_in fun w14 e14 => ?_⟩
  have X14 := X13.x_set (q := q) (i := 2) rfl (.inl rfl) e14
  have b14 := b13.seti 2 (v := .int .u64 (numR (countR 7 (bs, k)).2).1) rfl e14
  have XX : Ext (fun b => b = q ∨ b = p) w w11 := ((X4.none.trans X8).trans X11).mono fun b hb _ => .inr hb
  exact ⟨rfl, Rd_apart r11 b11 cgC_no (by omega) X14, b14, XX.trans (X14.mono fun b hb _ => .inl hb)⟩
theorem revoke_rd {kd : Int} (h : Rd w p bs k) (hl : bs.length < 1000000) (hb : Blk w q 36 (cgC kd 0 0 0 none 0 0 none 0 0)) (hqp : q < p) :
    Calls Try.prog 70 #[.agg #[.pointer (some (blk p))], .pointer (some (blk q))] w (Ret (.tuple #[]) fun w' => Rd w' p (countR 200 (countR 7 (bs, k)).2).2.1 (countR 200 (countR 7 (bs, k)).2).2.2 ∧ Blk w' q 36 (cgC kd (countR 7 (bs, k)).1 0 (countR 200 (countR 7 (bs, k)).2).1 none 0 0 none 0 0) ∧ Ext (fun b => b = q ∨ b = p) w w') := by
  refine members_reader_revoke.run _ _ ?_
  unfold members_reader_revoke.N
  intro w4 p5 X4 hp
  have h5 := (hp p5 (by simp)).1
  have hlt := h.lt
  refine (who_spec (h.no X4) hl).mono fun e w8 ⟨he, r8, X8⟩ => ⟨_, he, X8.keep fun x hx _ hb => by simp at hx; omega, ?_⟩
  have hl2 : (countR 7 (bs, k)).2.1.length ≤ bs.length := W.countR_len 7 (bs, k)
  refine (W.Count_spec r8 (by omega) (m := 200) (by decide)).mono fun e w11 ⟨he, r11, X11⟩ => ⟨_, he, blk q, rfl, ?_⟩
  have b11 := ((hb.ext X4 id).ext X8 (by omega)).ext X11 (by omega)
  refine ⟨b11.cani 1 rfl rfl, thenW_in fun w13 e13 => ?_⟩
  have X13 := (Ext.refl (fun b => b = q) w11).x_set (q := q) (i := 1) rfl (.inl rfl) e13
  have b13 := b11.seti 1 (v := .int .i64 (countR 7 (bs, k)).1) rfl e13
  refine ⟨b13.cani 3 rfl rfl, thenW_in fun w14 e14 => ?_⟩
  have X14 := X13.x_set (q := q) (i := 3) rfl (.inl rfl) e14
  have b14 := b13.seti 3 (v := .int .i64 (countR 200 (countR 7 (bs, k)).2).1) rfl e14
  have XX : Ext (fun b => b = q ∨ b = p) w w11 := ((X4.none.trans X8).trans X11).mono fun b hb _ => .inr hb
  exact ⟨rfl, Rd_apart r11 b11 cgC_no (by omega) X14, b14, XX.trans (X14.mono fun b hb _ => .inl hb)⟩
abbrev WGw (w : World) (o : Own) (g : Nat) (a : Option Addr) (c : Nat) (l : List Wr) : Prop := Grows 85 2 w o g a l.length c (l.flatMap Wr.C)
theorem Wr.one (x : Wr) : ∀ u ∈ x.C, u.oneCell' = true := fun u hu => by
  simp only [Wr.C, List.mem_cons, List.not_mem_nil, or_false] at hu
  rcases hu with rfl | rfl <;> rfl
theorem WGw.push {g : Nat} (h : WGw w o g a c l) (ok : Tags w o) (hg : g < w.heap.size) (hl : l.length < 1000000) (x : Wr) {qb : Nat} (hb : Blk w qb 85 x.C) :
    ∃ a' n' c' w' o', (Builtin.append_ #[33, 33] 33 #[.slice a l.length c, .slice (some (blk qb)) 1 1]).run Try.prog w = .ok (.slice a' n' c') w' ∧ n' = (l ++ [x]).length ∧ Step (fun j => j = g) w o w' o' ∧ WGw w' o' g a' c' (l ++ [x]) ∧ Ext (fun b => ∃ ad, a = some ad ∧ b = ad.block) w w' ∧ (∀ ad, a' = some ad → (∃ b, a = some b ∧ ad.block = b.block) ∨ ad.block = w.heap.size) := by
  obtain ⟨i, hi, hz, hsz, hby⟩ := info_of inf85
  obtain ⟨a', c', w', o', hrun, s2, hrow, hk, hf⟩ := Grows.push (ty := 33) Try.underlying33 hi hz hsz hby rfl (by decide) h ok hg (xa := some (blk qb)) (m := 1) (xc := 1) (news := x.C) rfl (RowAt.of_blk hb) x.one (by omega) (by omega)
  exact ⟨a', _, c', w', o', hrun, by simp, s2, by unfold WGw; rw [List.length_append, List.flatMap_append]; simpa using hrow, ⟨s2.ext.os, s2.ext.tape, s2.ext.output, s2.ext.size, fun b hb hn => hk b hb fun ad ha hb' => hn ⟨ad, ha, hb'⟩⟩, hf⟩
theorem wsAt_len (s : RS) : ∀ t, (wsAt s t).2.1.length ≤ s.1.length ∧ (wsAt s t).1.length = t
  | 0 => ⟨Nat.le_refl _, rfl⟩
  | t + 1 => by
    obtain ⟨h1, h2⟩ := wsAt_len s t
    have h3 := W.countR_len 7 (wsAt s t).2
    have h4 := (bytesR_len 16 (countR 7 (wsAt s t).2).2).1
    refine ⟨?_, by show ((wsAt s t).1 ++ [_]).length = _; rw [List.length_append, h2]; rfl⟩
    show (bytesR 16 (countR 7 (wsAt s t).2).2).2.1.length ≤ _
    omega
theorem epoch_rd {kd : Int} (h : Rd w p bs k) (hl : bs.length < 1000000) (hb : Blk w q 36 (cgC kd 0 0 0 none 0 0 none 0 0)) (hqp : q < p) :
    Calls Try.prog 71 #[.agg #[.pointer (some (blk p))], .pointer (some (blk q))] w (Ret (.tuple #[]) fun w' => ∃ (wa : Option Addr) (wc : Nat) (l : List Wr) (oa : Option Addr) (oc : Nat),
      l.map Wr.p = (wsAt (countR 8 (bs, k)).2 (countR 8 (bs, k)).1).1 ∧ Rd w' p (bytesR 24 (wsAt (countR 8 (bs, k)).2 (countR 8 (bs, k)).1).2).2.1 (bytesR 24 (wsAt (countR 8 (bs, k)).2 (countR 8 (bs, k)).1).2).2.2 ∧
      Blk w' q 36 (cgC kd 0 0 0 wa l.length wc oa (bytesR 24 (wsAt (countR 8 (bs, k)).2 (countR 8 (bs, k)).1).2).1.length oc) ∧ RowAt w' wa (l.flatMap Wr.C) ∧ (∀ x ∈ l, RowAt w' x.a (bytesV x.b)) ∧ RowAt w' oa (bytesV (bytesR 24 (wsAt (countR 8 (bs, k)).2 (countR 8 (bs, k)).1).2).1) ∧ Ext (fun b => b = q ∨ b = p) w w') := by
  refine members_reader_epoch.run _ _ ?_
  unfold members_reader_epoch.N
  intro w3 p4 X3 hp
  have h4 := (hp p4 (by simp)).1
  have h4' := (hp p4 (by simp)).2
  have hlt := h.lt
  refine (W.Count_spec (h.no X3) hl (m := 8) (by decide)).mono fun e w7 ⟨he, r7, X7⟩ => ⟨_, he, X7.keep fun x hx _ hb => by simp at hx; omega, ?_⟩
  have hcl : (countR 8 (bs, k)).2.1.length ≤ bs.length := W.countR_len 8 (bs, k)
  have hcle := W.count_le 8 (bs, k) (by decide)
  generalize hS : (countR 8 (bs, k)).2 = S at *
  generalize hn : (countR 8 (bs, k)).1 = n at *
  have XX : Ext (fun b => b = q ∨ b = p) w w7 := X3.none.trans (X7.mono fun b hb _ => .inr hb)
  have b7 := (hb.ext X3 id).ext X7 (by omega)
  -- owners, from here on
  have ok7 : Tags w7 (tag (tag (fun _ => none) q q) p p) := fun b j hb hj => by
    unfold tag at hj
    split at hj
    · cases hj; exact r7.lt
    · split at hj
      · cases hj; exact b7.lt
      · cases hj
  have M7 : Mine [q, p] w7 (tag (tag (fun _ => none) q q) p p) := fun x hx => by
    simp only [List.mem_cons, List.not_mem_nil, or_false] at hx
    rcases hx with rfl | rfl
    · exact ⟨b7.lt, by rw [tag_ne (by omega)]; exact tag_self⟩
    · exact ⟨r7.lt, tag_self⟩
  have F7 : Free [p4] w7 (tag (tag (fun _ => none) q q) p p) := fun x hx => by
    rw [show x = p4 by simpa using hx]
    exact ⟨Nat.lt_of_lt_of_le h4' X7.size, by rw [tag_ne (by omega), tag_ne (by omega)]⟩
  have hp47 := (F7 p4 (by simp)).1
  refine ⟨fun m vs w1 => ∃ (t : Nat) (l : List Wr) (wa : Option Addr) (wc : Nat) (o1 : Own), vs = [.int .i64 t] ∧ m + t = n ∧ Tags w1 o1 ∧ Mine [q, p] w1 o1 ∧ Free [p4] w1 o1 ∧ Rd w1 p (wsAt S t).2.1 (wsAt S t).2.2 ∧ l.map Wr.p = (wsAt S t).1 ∧ Blk w1 q 36 (cgC kd 0 0 0 wa l.length wc none 0 0) ∧ WGw w1 o1 p4 wa wc l ∧ (∀ ad, wa = some ad → p4 < ad.block) ∧ (∀ x ∈ l, Row w1 o1 x.a (bytesV x.b)) ∧ Ext (fun b => b = q ∨ b = p) w w1, n, ⟨0, [], none, 0, _, rfl, rfl, ok7, M7, F7, r7, rfl, b7, Grows.nil _ _ _ _ _, fun ad h => (by cases h), fun x hx => (by cases hx), XX⟩, ?_⟩
  rintro m w11 t0 ⟨t, l, wa, wc, o11, hi, hm, ok11, M11, F11, r11, hlp, b11, g11, hbl, hrow, X11⟩
  simp only [List.cons.injEq, Value.int.injEq, true_and, and_true] at hi
  subst hi
  obtain ⟨hwl, hwl2⟩ := wsAt_len S t
  have hll : l.length = t := by have := congrArg List.length hlp; rwa [List.length_map, hwl2] at this
  refine ⟨fun ht => ?_, fun ht => ?_⟩
  · refine ⟨blk q, rfl, wa, _, wc, b11.celli 4 rfl rfl, fun w13 X13 => ?_⟩
    have s13 := Step.of_no X13 ok11
    refine (who_spec (r11.no X13) (by omega)).mono fun e w19 ⟨he, r19, X19⟩ => ⟨_, he, ?_⟩
    have s19 := Step.stores X19 s13.ok ((M11.step s13).sub (M := [p]) (by simp)) (by simp)
    have b19 := (b11.ext X13 id).ext X19 (by omega)
    have hc7 := W.countR_len 7 (wsAt S t).2
    have hc7' : (countR 7 ((wsAt S t).2.1, (wsAt S t).2.2)).2.1.length ≤ (wsAt S t).2.1.length := W.countR_len 7 (wsAt S t).2
    refine ⟨((F11.step s13).keep s19), b19.celli 4 rfl rfl, ?_⟩
    refine (RBytes_spec r19 (by omega) (m := 16) (by decide)).mono fun e w23 ⟨ya, yc, he, O23, r23, X23⟩ => ⟨_, _, _, he, ?_⟩
    have s23 := Step.stores X23 s19.ok (((M11.step s13).step s19).sub (M := [p]) (by simp)) (by simp)
    have b23 := b19.ext X23 (by omega)
    refine ⟨((F11.step s13).step s19).keep s23, b23.celli 4 rfl rfl, fun w25 q26 X25 hb25 hq hq' => ?_⟩
    have s25 := Step.of_no X25 s23.ok
    have b25 := b23.ext X25 id
    have S25 := ((s13.none.trans (s19.mono fun j hj _ => (by simpa using hj : j = p))).trans (s23.mono fun j hj _ => (by simpa using hj : j = p))).trans s25.none
    have g25 := g11.step S25 (by omega)
    have hsz25 := S25.size
    have hp11 := (F11 p4 (by simp)).1
    have rowy : Row w23 (grow w19 (grow w13 (grow w11 o11))) ya (bytesV (bytesR 16 (countR 7 (wsAt S t).2).2).1) := Row.fresh O23.row fun ad ha => (O23.fr ad ha).1
    obtain ⟨a29, n29, c29, w29, o29, hrun, hn29, s29, g29, X29, hf29⟩ := WGw.push g25 s25.ok (by omega) (by omega) ⟨(countR 7 (wsAt S t).2).1, ya, yc, (bytesR 16 (countR 7 (wsAt S t).2).2).1⟩ hb25
    subst hn29
    have b29 := b25.ext X29 fun ⟨ad, h1, h2⟩ => by have := hbl ad h1; omega
    have F25 := (((F11.step s13).step s19).step s23).step s25
    refine ⟨b25.celli 4 rfl rfl, a29, _, c29, w29, hrun, F25.keep s29, b29.cani 4 rfl rfl, fun x hx => by simp at hx; rw [block_add]; show x ≠ q; omega, thenW_in fun w30 e30 => ?_⟩
    have X30 := (Ext.refl (fun b => b = q) w29).x_set (q := q) (i := 4) rfl (.inl rfl) e30
    have b30 := b29.seti 4 (v := .slice a29 (l ++ [(⟨(countR 7 (wsAt S t).2).1, ya, yc, (bytesR 16 (countR 7 (wsAt S t).2).2).1⟩ : Wr)]).length c29) rfl e30
    have M29 := ((((M11.step s13).step s19).step s23).step s25).step s29
    have s30 := Step.stores X30 s29.ok (M29.sub (M := [q]) (by simp)) (by simp)
    have r29 : Rd w29 p (wsAt S (t + 1)).2.1 (wsAt S (t + 1)).2.2 := (r23.no X25).up X29 fun b ⟨ad, h1, h2⟩ => by have := hbl ad h1; omega
    refine ⟨by omega, by omega, m - 1, by omega, t + 1, _, a29, c29, _, rfl, by omega, s30.ok, M29.step s30, (F25.step s29).step s30, Rd_apart r29 b29 cgC_no (by omega) X30, ?_, b30, g29.step s30 (by simp; omega), fun ad ha => ?_, fun x hx => ?_, ?_⟩
    · rw [List.map_append, hlp]; rfl
    · rcases hf29 ad ha with ⟨b, h1, h2⟩ | h2
      · rw [h2]; exact hbl b h1
      · omega
    · rcases List.mem_append.1 hx with hx | hx
      · exact ((((((hrow x hx).step s13).step s19).step s23).step s25).step s29).step s30
      · simp at hx; subst hx
        exact ((rowy.step s25).step s29).step s30
    · have x25 : Ext (fun b => b = q ∨ b = p) w w25 := (((X11.trans X13.none).trans (X19.mono fun b hb _ => .inr hb)).trans (X23.mono fun b hb _ => .inr hb)).trans X25.none
      exact (x25.then X29 fun b ⟨ad, h1, h2⟩ => .inr (by have := hbl ad h1; have := X3.size; omega)).trans (X30.mono fun b hb _ => .inl hb)
  · have : t = n := by omega
    subst this
    refine (RBytes_spec r11 (by omega) (m := 24) (by decide)).mono fun e w34 ⟨ya, yc, he, O34, r34, X34⟩ => ⟨_, _, _, he, blk q, rfl, ?_⟩
    have s34 := Step.stores X34 ok11 (M11.sub (M := [p]) (by simp)) (by simp)
    have b34 := b11.ext X34 (by omega)
    refine ⟨b34.cani 5 rfl rfl, thenW_in fun w36 e36 => ?_⟩
    have X36 := (Ext.refl (fun b => b = q) w34).x_set (q := q) (i := 5) rfl (.inl rfl) e36
    have b36 := b34.seti 5 (v := .slice ya (bytesR 24 (wsAt S t).2).1.length yc) rfl e36
    have M34 := M11.step s34
    have s36 := Step.stores X36 s34.ok (M34.sub (M := [q]) (by simp)) (by simp)
    have rowy : Row w34 (grow w11 o11) ya (bytesV (bytesR 24 (wsAt S t).2).1) := Row.fresh O34.row fun ad ha => (O34.fr ad ha).1
    have g36 := (g11.step s34 (by simp; omega)).step s36 (by simp; omega)
    exact ⟨rfl, wa, wc, l, ya, yc, hlp, Rd_apart r34 b34 cgC_no (by omega) X36, b36, g36.row, fun x hx => (((hrow x hx).step s34).step s36).1, (rowy.step s36).1, (X11.trans (X34.mono fun b hb _ => .inr hb)).trans (X36.mono fun b hb _ => .inl hb)⟩
end
end Go.Proofs.Ytmhfoieeldiecaa

/- Members: Read, the program's. -/
set_option linter.unusedVariables false
set_option linter.unusedSimpArgs false
set_option maxRecDepth 20000
set_option maxHeartbeats 4000000
namespace Go.Proofs.Ytmhfoieeldiecaa
open Go Go.Mx Go.Proofs
open W (OwnB Rd RdR countR numR doneR)
section
variable {K : Nat → Prop} {w w' w1 : World} {o o' o1 : Own} {a : Option Addr} {c N p q : Nat} {l : List Wr} {bs : List UInt8} {k : Int}
/-- a change that was read, in memory. -/
structure CR.at_ (w : World) (x : CR) : Prop where
  ws : RowAt w x.wa (x.l.flatMap Wr.C)
  bs : ∀ y ∈ x.l, RowAt w y.a (bytesV y.b)
  old : RowAt w x.oa (bytesV x.old)
theorem CR.at_.no {x : CR} (h : x.at_ w) (X : Ext no w w') : x.at_ w' := ⟨h.ws.no X, fun y hy => (h.bs y hy).no X, h.old.no X⟩
theorem same_ext {t : TypeId} {cs : List Value} (X : Ext (fun b => b = q) w w') (h : Blk w q t cs) (h' : Blk w' q t cs) : Ext no w w' :=
  ⟨X.os, X.tape, X.output, X.size, fun b hb _ => by
    by_cases e : b = q
    · subst e; unfold Blk at h h'; rw [h, h']
    · exact X.block b hb e⟩
def CR.z : CR := ⟨0, 0, 0, 0, none, 0, [], none, 0, []⟩
theorem CR.z_at : CR.at_ w CR.z := ⟨RowAt.nil _ _, fun y h => (by cases h), RowAt.nil _ _⟩
def ReadG (w : World) (r : Chg × Int) (v : Value) (w' : World) : Prop := ∃ x : CR, v = .tuple #[.agg #[.int .i64 x.kd, .int .i64 x.who, .int .u64 x.pub, .int .i64 x.lim, .slice x.wa x.l.length x.wc, .slice x.oa x.old.length x.oc], .int .i64 r.2] ∧ x.cg = r.1 ∧ x.at_ w' ∧ Ext no w w'
theorem six {Φ : World → Prop} {a0 a1 a2 a3 a4 a5 v0 v1 v2 v3 v4 v5 : Value} (hb : Blk w q 36 [a0, a1, a2, a3, a4, a5]) (hΦ : ∀ w', Blk w' q 36 [v0, v1, v2, v3, v4, v5] → Ext (fun b => b = q) w w' → Φ w') :
    canStore w ((blk q).add 0) ∧ thenW (w.setCell ((blk q).add 0) v0) fun w1 => canStore w1 ((blk q).add 1) ∧ thenW (w1.setCell ((blk q).add 1) v1) fun w2 => canStore w2 ((blk q).add 2) ∧ thenW (w2.setCell ((blk q).add 2) v2) fun w3 =>
      canStore w3 ((blk q).add 3) ∧ thenW (w3.setCell ((blk q).add 3) v3) fun w4 => canStore w4 ((blk q).add 4) ∧ thenW (w4.setCell ((blk q).add 4) v4) fun w5 => canStore w5 ((blk q).add 5) ∧ thenW (w5.setCell ((blk q).add 5) v5) Φ := by
  refine ⟨hb.cani 0 rfl rfl, thenW_in fun w1 e1 => ?_⟩
  have X1 := (Ext.refl (fun b => b = q) w).x_set (q := q) (i := 0) rfl (.inl rfl) e1
  have b1 := hb.seti 0 (v := v0) rfl e1
  refine ⟨b1.cani 1 rfl rfl, thenW_in fun w2 e2 => ?_⟩
  have X2 := X1.x_set (q := q) (i := 1) rfl (.inl rfl) e2
  have b2 := b1.seti 1 (v := v1) rfl e2
  refine ⟨b2.cani 2 rfl rfl, thenW_in fun w3 e3 => ?_⟩
  have X3 := X2.x_set (q := q) (i := 2) rfl (.inl rfl) e3
  have b3 := b2.seti 2 (v := v2) rfl e3
  refine ⟨b3.cani 3 rfl rfl, thenW_in fun w4 e4 => ?_⟩
  have X4 := X3.x_set (q := q) (i := 3) rfl (.inl rfl) e4
  have b4 := b3.seti 3 (v := v3) rfl e4
  refine ⟨b4.cani 4 rfl rfl, thenW_in fun w5 e5 => ?_⟩
  have X5 := X4.x_set (q := q) (i := 4) rfl (.inl rfl) e5
  have b5 := b4.seti 4 (v := v4) rfl e5
  refine ⟨b5.cani 5 rfl rfl, thenW_in fun w6 e6 => ?_⟩
  have X6 := X5.x_set (q := q) (i := 5) rfl (.inl rfl) e6
  have b6 := b5.seti 5 (v := v5) rfl e6
  exact hΦ w6 b6 X6
theorem kind_spec (x : Option Addr) (n : Int) : Calls Try.prog 48 #[.agg #[.pointer x], .int .i64 n] w (fun e w' => ∃ (kk : Nat) (f g : Array Value), e = .returned (.func (.func kk) f g) ∧ Ext no w w' ∧ g = #[] ∧ (n = 1 → kk = 69 ∧ f = #[.agg #[.pointer x]]) ∧ (n = 2 → kk = 70 ∧ f = #[.agg #[.pointer x]]) ∧ (n = 3 → kk = 71 ∧ f = #[.agg #[.pointer x]]) ∧ (n ≠ 1 → n ≠ 2 → n ≠ 3 → kk = 72 ∧ f = #[])) := by
  refine (members_reader_kind.go x n (R := fun v w' => ∃ (kk : Nat) (f g : Array Value), v = (.func (.func kk) f g) ∧ Ext no w w' ∧ g = #[] ∧ (n = 1 → kk = 69 ∧ f = #[.agg #[.pointer x]]) ∧ (n = 2 → kk = 70 ∧ f = #[.agg #[.pointer x]]) ∧ (n = 3 → kk = 71 ∧ f = #[.agg #[.pointer x]]) ∧ (n ≠ 1 → n ≠ 2 → n ≠ 3 → kk = 72 ∧ f = #[])) ?_).mono fun e w' ⟨v, he, kk, f, g, hv, hw⟩ => ⟨kk, f, g, by rw [he, hv], hw⟩
  unfold members_reader_kind.N
  refine ⟨fun h w3 X => ⟨_, _, _, rfl, X, rfl, fun _ => ⟨rfl, rfl⟩, fun h2 => by omega, fun h3 => by omega, fun h1 => absurd h h1⟩, fun h1 => ⟨fun h w3 X => ⟨_, _, _, rfl, X, rfl, fun h2 => by omega, fun _ => ⟨rfl, rfl⟩, fun h3 => by omega, fun _ h1 => absurd h h1⟩, fun h2 => ⟨fun h w3 X => ⟨_, _, _, rfl, X, rfl, fun h2 => by omega, fun h2 => by omega, fun _ => ⟨rfl, rfl⟩, fun _ _ h1 => absurd h h1⟩, fun h3 w3 X => ⟨_, _, _, rfl, X, rfl, fun h2 => by omega, fun h2 => by omega, fun h2 => by omega, fun _ _ _ => ⟨rfl, rfl⟩⟩⟩⟩⟩
/-- what stands behind the body. -/
def BodyG (w : World) (q p : Nat) (r : Chg × RS) (w' : World) : Prop := ∃ x : CR, x.cg = r.1 ∧ Blk w' q 36 x.C ∧ Rd w' p r.2.1 r.2.2 ∧ x.at_ w' ∧ Ext (fun b => b = q ∨ b = p) w w'
theorem body_spec {b : List UInt8} (h : Rd w p (countR 3 (b, 0)).2.1 (countR 3 (b, 0)).2.2) (hl : (countR 3 (b, 0)).2.1.length < 1000000) (hb : Blk w q 36 (cgC (countR 3 (b, 0)).1 0 0 0 none 0 0 none 0 0)) (hqp : q < p)
    {kk : Nat} {f g : Array Value} (hg : g = #[]) (k1 : ((countR 3 (b, 0)).1 : Int) = 1 → kk = 69 ∧ f = #[.agg #[.pointer (some (blk p))]]) (k2 : ((countR 3 (b, 0)).1 : Int) = 2 → kk = 70 ∧ f = #[.agg #[.pointer (some (blk p))]]) (k3 : ((countR 3 (b, 0)).1 : Int) = 3 → kk = 71 ∧ f = #[.agg #[.pointer (some (blk p))]]) (k4 : ((countR 3 (b, 0)).1 : Int) ≠ 1 → ((countR 3 (b, 0)).1 : Int) ≠ 2 → ((countR 3 (b, 0)).1 : Int) ≠ 3 → kk = 72 ∧ f = #[]) :
    enters Try.prog kk = true ∧ Calls Try.prog kk (f.toList ++ ([.pointer (some (blk q))] : List Value) ++ g.toList).toArray w (Ret (.tuple #[]) fun w' => BodyG w q p (rawM b) w') := by
  subst hg
  by_cases h1 : (countR 3 (b, 0)).1 = 1
  · obtain ⟨rfl, rfl⟩ := k1 (by omega)
    refine ⟨by kernel_rfl, ?_⟩
    have hr : rawM b = (⟨1, (countR 7 (countR 3 (b, 0)).2).1, (numR (countR 7 (countR 3 (b, 0)).2).2).1, 0, [], []⟩, (numR (countR 7 (countR 3 (b, 0)).2).2).2) := by unfold rawM; rw [if_pos h1]
    rw [hr]
    rw [h1] at hb
    exact (invite_rd h hl hb hqp).mono fun e w' ⟨he, hR, hB, X⟩ => ⟨he, ⟨1, _, _, 0, none, 0, [], none, 0, []⟩, rfl, hB, hR, ⟨RowAt.nil _ _, fun y h => (by cases h), RowAt.nil _ _⟩, X⟩
  by_cases h2 : (countR 3 (b, 0)).1 = 2
  · obtain ⟨rfl, rfl⟩ := k2 (by omega)
    refine ⟨by kernel_rfl, ?_⟩
    have hr : rawM b = (⟨2, (countR 7 (countR 3 (b, 0)).2).1, 0, (countR 200 (countR 7 (countR 3 (b, 0)).2).2).1, [], []⟩, (countR 200 (countR 7 (countR 3 (b, 0)).2).2).2) := by unfold rawM; rw [if_neg h1, if_pos h2]
    rw [hr]
    rw [h2] at hb
    exact (revoke_rd h hl hb hqp).mono fun e w' ⟨he, hR, hB, X⟩ => ⟨he, ⟨2, _, 0, _, none, 0, [], none, 0, []⟩, rfl, hB, hR, ⟨RowAt.nil _ _, fun y h => (by cases h), RowAt.nil _ _⟩, X⟩
  by_cases h3 : (countR 3 (b, 0)).1 = 3
  · obtain ⟨rfl, rfl⟩ := k3 (by omega)
    refine ⟨by kernel_rfl, ?_⟩
    have hr : rawM b = (⟨3, 0, 0, 0, (wsAt (countR 8 (countR 3 (b, 0)).2).2 (countR 8 (countR 3 (b, 0)).2).1).1, (bytesR 24 (wsAt (countR 8 (countR 3 (b, 0)).2).2 (countR 8 (countR 3 (b, 0)).2).1).2).1⟩, (bytesR 24 (wsAt (countR 8 (countR 3 (b, 0)).2).2 (countR 8 (countR 3 (b, 0)).2).1).2).2) := by unfold rawM; rw [if_neg h1, if_neg h2, if_pos h3]
    rw [hr]
    rw [h3] at hb
    exact (epoch_rd h hl hb hqp).mono fun e w' ⟨he, wa, wc, l, oa, oc, e1, hR, hB, r1, r2, r3, X⟩ => ⟨he, ⟨3, 0, 0, 0, wa, wc, l, oa, oc, _⟩, by show Chg.mk 3 0 0 0 (l.map Wr.p) _ = _; rw [e1], hB, hR, ⟨r1, r2, r3⟩, X⟩
  · obtain ⟨rfl, rfl⟩ := k4 (by omega) (by omega) (by omega)
    refine ⟨by kernel_rfl, ?_⟩
    have hr : rawM b = (⟨(countR 3 (b, 0)).1, 0, 0, 0, [], []⟩, (countR 3 (b, 0)).2) := by unfold rawM; rw [if_neg h1, if_neg h2, if_neg h3]
    rw [hr]
    refine members_reader_kind_1.run _ ?_
    exact ⟨rfl, ⟨_, 0, 0, 0, none, 0, [], none, 0, []⟩, rfl, hb, h, ⟨RowAt.nil _ _, fun y h => (by cases h), RowAt.nil _ _⟩, Ext.refl _ _⟩
theorem raw_small (b : List UInt8) : (rawM b).1.ws.length ≤ 8 ∧ (rawM b).1.old.length ≤ 24 := by
  unfold rawM
  split
  · exact ⟨Nat.zero_le _, Nat.zero_le _⟩
  split
  · exact ⟨Nat.zero_le _, Nat.zero_le _⟩
  split
  · have h1 := (wsAt_len (countR 8 (countR 3 (b, 0)).2).2 (countR 8 (countR 3 (b, 0)).2).1).2
    have h2 := W.count_le 8 (countR 3 (b, 0)).2 (by decide)
    have h3 := bytesR_le (m := 24) (by decide) (wsAt (countR 8 (countR 3 (b, 0)).2).2 (countR 8 (countR 3 (b, 0)).2).1).2
    refine ⟨?_, ?_⟩
    · show (wsAt _ _).1.length ≤ 8; omega
    · show (bytesR 24 _).1.length ≤ 24; omega
  · exact ⟨Nat.zero_le _, Nat.zero_le _⟩
theorem mRead_spec {b : List UInt8} (h : RowAt w a (bytesV b)) (hc : b.length ≤ c) (hl : b.length < 1000000) :
    Calls Try.prog 29 #[.slice a b.length c] w (fun e w' => ∃ v, e = .returned v ∧ ReadG w (readM b) v w') := by
  refine members_Read.go _ _ _ (R := ReadG w (readM b)) ?_
  unfold members_Read.N
  intro w2 q X2 hb2 hq hq'
  refine (W.Read_spec (h.no X2) hc).mono fun e w6 ⟨p, he, r6, hp, X6⟩ => ⟨_, he, fun w8 p9 X8 hp9 => ?_⟩
  have h9 := (hp9 p9 (by simp)).1
  have hqp : q < p := by omega
  have hp6 := r6.lt
  refine (W.Count_spec (r6.no X8) hl (m := 3) (by decide)).mono fun e w12 ⟨he, r12, X12⟩ => ⟨_, he, X12.keep fun x hx _ hb => by simp at hx; omega, ?_⟩
  have hb12 := ((hb2.ext X6 id).ext X8 id).ext X12 (by omega)
  refine ⟨hb12.cani 0 rfl rfl, fun x hx => by simp at hx; rw [block_add]; show x ≠ q; omega, thenW_in fun w13 e13 => ?_⟩
  have X13 := (Ext.refl (fun b => b = q) w12).x_set (q := q) (i := 0) rfl (.inl rfl) e13
  have b13 := hb12.seti 0 (v := .int .i64 ((countR 3 (b, 0)).1 : Int)) rfl e13
  have r13 := Rd_apart r12 hb12 (cgC_no (kd := 0) (who := 0) (pub := 0) (lim := 0) (wa := none) (wn := 0) (wc := 0) (oa := none) (on := 0) (oc := 0)) (by omega) X13
  have Y12 : Ext (fun b => b = q ∨ b = p) w2 w13 := ((X6.none.trans X8.none).trans (X12.mono fun b hb _ => .inr hb)).trans (X13.mono fun b hb _ => .inl hb)
  refine ⟨_, b13.celli 0 rfl rfl, (kind_spec _ _).mono fun e w18 ⟨kk, f, g, he, X18, hg, k1, k2, k3, k4⟩ => ⟨kk, f, g, he, X18.kept, ?_⟩⟩
  have hcl : (countR 3 (b, 0)).2.1.length ≤ b.length := W.countR_len 3 (b, 0)
  obtain ⟨hen, hcall⟩ := body_spec (r13.no X18) (by omega) (b13.ext X18 id) hqp hg k1 k2 k3 k4
  obtain ⟨hsm1, hsm2⟩ := raw_small b
  refine ⟨hen, hcall.mono fun e w20 ⟨he, x, hx, hB, hR, hA, X20⟩ => ⟨he, X20.keep fun y hy _ hb => by simp at hy; omega, ?_⟩⟩
  have Y20 : Ext (fun b => b = q ∨ b = p) w2 w20 := (Y12.trans X18.none).trans X20
  have fin : ∀ {w' : World}, Ext (fun b => b = q) w20 w' → Ext no w w' := fun X => X2.then (Y20.trans (X.mono fun b hb _ => .inl hb)) fun b hb => .inr (by have := X2.size; omega)
  have hM : readM b = if doneR (rawM b).2 = 0 then (if rightM (rawM b).1 = true then ((rawM b).1, 0) else (Chg.z, 4)) else (Chg.z, doneR (rawM b).2) := rfl
  have hxl : x.l.map Wr.p = x.cg.ws := rfl
  have hll : x.l.length ≤ 8 := by have := congrArg List.length hxl; rw [List.length_map, hx] at this; omega
  have hol : x.cg.old.length ≤ 24 := by rw [hx]; exact hsm2
  refine (W.Done_spec hR).mono fun e w23 ⟨he, hw⟩ => ⟨_, he, fun hd => ?_, fun hd => ?_⟩
  all_goals subst hw
  · rw [hM, if_neg hd]
    refine six hB fun w' b' X' => ?_
    exact ⟨0, 0, 0, 0, none, 0, 0, none, 0, 0, RowAt.loads (RowAt.of_blk b') rfl, CR.z, rfl, rfl, CR.z_at, fin X'⟩
  · refine ⟨x.kd, x.who, x.pub, x.lim, x.wa, x.l.length, x.wc, x.oa, x.old.length, x.oc, RowAt.loads (RowAt.of_blk hB) rfl, ?_⟩
    rw [CR.V]
    refine (Right_spec hA.ws hxl (by omega) (by omega)).mono fun e w47 ⟨he, X47⟩ => ⟨_, he, fun hf => ?_, fun ht => ?_⟩
    all_goals have hB47 := hB.ext X47 id
    all_goals rw [hx] at he
    · rw [hM, if_pos hd, if_neg (by rw [← hx, hf]; decide)]
      refine six hB47 fun w' b' X' => ?_
      exact ⟨0, 0, 0, 0, none, 0, 0, none, 0, 0, RowAt.loads (RowAt.of_blk b') rfl, CR.z, rfl, rfl, CR.z_at, fin (X47.none.trans X')⟩
    · rw [hM, if_pos hd, if_pos (by rw [← hx, ht])]
      refine ⟨x.kd, x.who, x.pub, x.lim, x.wa, x.l.length, x.wc, x.oa, x.old.length, x.oc, RowAt.loads (RowAt.of_blk hB47) rfl, six hB47 fun w' b' X' => ?_⟩
      have Z := same_ext X' hB47 b'
      have A47 := (hA.no X47).no Z
      exact ⟨x.kd, x.who, x.pub, x.lim, x.wa, x.l.length, x.wc, x.oa, x.old.length, x.oc, RowAt.loads (RowAt.of_blk b') rfl, x, rfl, hx, A47, fin (X47.none.trans X')⟩
end
end Go.Proofs.Ytmhfoieeldiecaa

/- Members: Read, the reference's. -/
set_option linter.unusedVariables false
set_option linter.unusedSimpArgs false
set_option maxRecDepth 20000
set_option maxHeartbeats 4000000
namespace Go.Proofs.Ytmhfoieeldiecaa
open Go Go.Mx Go.Proofs
open W (OwnB Rd RdR countR numR doneR)
section
variable {K : Nat → Prop} {w w' w1 : World} {o o' o1 : Own} {a : Option Addr} {c N p q : Nat} {l : List Wr} {bs : List UInt8} {k : Int}
theorem RdR.kk (h : RdR w p N bs k) : w.cell? ((blk p).add 1) = some (.int .i64 k) := by
  obtain ⟨_, a, c, h1, _⟩ := h
  exact h1.celli 1 rfl rfl
theorem inf84 : (Try.prog.info? 84).map (fun i => (i.zero, i.size, i.bytes)) = some (some (.agg #[.int .i64 0, .slice none 0 0]), 2, 32) := by kernel_rfl
end
end Go.Proofs.Ytmhfoieeldiecaa

/- Members: a change told back, changes alike, the plain laws of its bytes. -/
set_option linter.unusedVariables false
set_option linter.unusedSimpArgs false
set_option maxRecDepth 20000
set_option maxHeartbeats 4000000
namespace Go.Proofs.Ytmhfoieeldiecaa
open Go Go.Mx Go.Proofs
open W (OwnB Rd RdR countR numR doneR)
section
variable {w w' w1 : World} {o o' o1 : Own} {a : Option Addr} {c N : Nat} {l : List Wr} {cs : List Value} {cg : Chg} {wa oa : Option Addr} {wc oc : Nat}
abbrev VRow (N : Nat) (w : World) (o : Own) (a : Option Addr) (c : Nat) (l : List Wr) : Prop := LRow 84 2 N w o a l.length c (l.flatMap Wr.C)
/-- the same change, as the document's. -/
theorem Back_spec (ok : Tags w o) (hr : Row w o wa (l.flatMap Wr.C)) (hw : cg.ws = l.map Wr.p) (hl : l.length < 1000000) :
    Calls Try.prog 35 #[chgV cg wa wc oa oc] w (fun x w' => ∃ o' wa' wc', x = .returned (chgV cg wa' wc' oa oc) ∧ Step no w o w' o' ∧ Row w' o' wa' (l.flatMap Wr.C) ∧ l.length ≤ wc') := by
  have hlen : cg.ws.length = l.length := by rw [hw]; simp
  refine (cachettelaw12_Back.go cg.kd cg.who cg.pub cg.lim wa cg.ws.length wc oa cg.old.length oc (R := fun v w' => ∃ o' wa' wc', v = (chgV cg wa' wc' oa oc) ∧ Step no w o w' o' ∧ Row w' o' wa' (l.flatMap Wr.C) ∧ l.length ≤ wc') ?_).mono fun x w' ⟨v, he, o', a', c', hv, hw⟩ => ⟨o', a', c', by rw [he, hv], hw⟩
  unfold cachettelaw12_Back.N
  intro w15 p16 p17 p18 X15 hp
  obtain ⟨s15, M15⟩ := Step.priv X15 hp ok
  have g : ∀ p ∈ [p16, p17, p18], w.heap.size ≤ p := fun p h => (hp p h).1
  have hM15 : ∀ p ∈ [p16, p17, p18], p < w15.heap.size := fun p h => M15.lt h
  rw [hlen]
  refine ⟨fun m vs w1 => ∃ (t : Nat) (a1 : Option Addr) (c1 : Nat) (o1 : Own), vs = [.int .i64 t, .int .i64 0, .int .i64 0, .int .u64 0, .int .i64 0, .slice none 0 0, .slice none 0 0, .int .i64 cg.kd, .int .i64 cg.who, .int .u64 cg.pub, .int .i64 cg.lim, .slice a1 (l.take t).length c1, .slice oa cg.old.length oc] ∧ m + t = l.length ∧ Step no w o w1 o1 ∧ Step (fun j => w15.heap.size ≤ j ∨ j ∈ [p16, p17, p18]) w15 (tags w o [p16, p17, p18]) w1 o1 ∧ VRow w15.heap.size w1 o1 a1 c1 (l.take t), l.length, ⟨0, none, 0, _, rfl, rfl, s15, Step.refl _ s15.ok, LRow.nil _ _ _ _ _⟩, ?_⟩
  intro m w1 i0 k1 k2 k3 k4 k5a k5n k5c k6a k6n k6c k7 k8 k9 k10 k11a k11n k11c k12a k12n k12c hI
  obtain ⟨t, a1, c1, o1, hi, hm, s1, s15', r1⟩ := hI
  simp only [List.cons.injEq, Value.slice.injEq, Value.int.injEq, true_and, and_true] at hi
  obtain ⟨rfl, rfl, rfl, rfl, rfl, ⟨rfl, rfl, rfl⟩, ⟨rfl, rfl, rfl⟩, rfl, rfl, rfl, rfl, ⟨rfl, rfl, rfl⟩, ⟨rfl, rfl, rfl⟩⟩ := hi
  have M1 := M15.step s15'
  refine ⟨fun ht => ?_, fun ht w53 X53 => ?_⟩
  · have htl : t < l.length := by omega
    have hg : l[t]? = some l[t] := List.getElem?_eq_getElem htl
    have htk : l.take (t + 1) = l.take t ++ [l[t]] := by rw [List.take_add_one, hg]; rfl
    generalize l[t] = x at *
    obtain ⟨ad, rfl⟩ := hr.1.faddr Wr.len (by decide) htl
    have hr1 := (hr.step s1).1
    refine ⟨ad, rfl, by omega, by omega, x.who, by rw [Int.toNat_natCast]; exact hr1.fcell Wr.len hg 0 rfl, by omega, by omega, x.a, x.b.length, x.c, by rw [Int.toNat_natCast]; exact hr1.fcell Wr.len hg 1 rfl, fun w42 q43 X42 hb hq hq' => ?_⟩
    have s42 := Step.of_no X42 s1.ok
    have r42 : VRow w15.heap.size w42 _ k11a k11c (l.take t) := LRow.step r1 s42 fun k h => h.elim
    obtain ⟨i, hi, hz, hsz, hby⟩ := info_of inf84
    have h15 := s15'.size
    obtain ⟨a', c', w45, o45, hrun, s45, hrow, _⟩ := LRow.push (ty := 38) Try.underlying38 hi hz hsz hby rfl (by decide) r42 s42.ok (p := q43) (by omega) hq' (xa := some (blk q43)) (m := 1) (xc := 1) (news := x.C) rfl (RowAt.of_blk hb) (fun u hu => by
      simp only [Wr.C, List.mem_cons, List.not_mem_nil, or_false] at hu
      rcases hu with rfl | rfl <;> rfl) (by rw [List.length_take]; omega) (by rw [List.length_take]; omega)
    refine ⟨a', _, c', w45, hrun, (M1.step s42).keep s45 (fun p hp' => by have := hM15 p hp'; omega), by omega, by omega, fun w46 X46 => ?_⟩
    have s46 := Step.stores X46 s45.ok ((((M1.step s42).step s45)).sub (M := [p18]) (by simp)) (by simp)
    have r46 := hrow.step s46 fun k hk => .inl (hM15 k (by simp at hk ⊢; omega))
    have h15w := s15.size
    have hcells : (l.take t).flatMap Wr.C ++ x.C = (l.take (t + 1)).flatMap Wr.C := by rw [htk]; simp
    have hlen2 : (l.take t).length + 1 = (l.take (t + 1)).length := by rw [htk]; simp
    rw [hcells, hlen2] at r46
    refine ⟨m - 1, by omega, t + 1, a', c', _, by rw [← hlen2]; rfl, by omega, ((s1.trans s42).trans' s45 fun j hj => .inr (by omega)).trans' s46 fun j hj => .inr (g j (by simp at hj ⊢; omega)), (s15'.trans (s42.none.trans (s45.mono fun j hj _ => .inl hj))).trans (s46.mono fun j hj _ => .inr (by simp at hj ⊢; omega)), r46⟩
  · have htt : t = l.length := by omega
    subst htt
    rw [List.take_length] at r1 ⊢
    have s53 := Step.stores X53 s1.ok (M1.sub (M := [p17]) (by simp)) (by simp)
    have sF : Step no w o w53 _ := s1.trans' s53 fun j hj => .inr (g j (by simp at hj ⊢; omega))
    have r53 : VRow w15.heap.size w53 _ k11a k11c l := LRow.step r1 s53 fun k hk => .inl (hM15 k (by simp at hk ⊢; omega))
    refine ⟨_, k11a, k11c, ?_, noStep (K := no) sF, r53.give sF s15.size, r53.le⟩
    unfold chgV
    rw [hlen]
theorem mtakeR_good {n : Nat} {s : RS} (h : (takeR n s).2.2 = 0) : s.2 = 0 ∧ s.1 = (takeR n s).1 ++ (takeR n s).2.1 ∧ (takeR n s).1.length = n := by
  unfold takeR at h ⊢
  by_cases h0 : s.2 = 0
  · rw [if_pos h0] at h ⊢
    by_cases h1 : s.1.length < n
    · rw [if_pos h1] at h; exact absurd h (by decide)
    · rw [if_neg h1]
      exact ⟨h0, (List.take_append_drop n s.1).symm, by show (s.1.take n).length = n; rw [List.length_take]; omega⟩
  · rw [if_neg h0] at h; exact absurd h h0
theorem mbytesR_good {m : Int} {s : RS} (h : (bytesR m s).2.2 = 0) : s.2 = 0 ∧ s.1 = numL (bytesR m s).1.length ++ ((bytesR m s).1 ++ (bytesR m s).2.1) := by
  unfold bytesR at h ⊢
  obtain ⟨h1, h2, h3⟩ := mtakeR_good h
  obtain ⟨h4, h5⟩ := W.countR_good h1
  refine ⟨h4, ?_⟩
  rw [h3, ← h2]; exact h5
theorem mbytesR_write {m : Int} {x : List UInt8} (hm : (x.length : Int) ≤ m) (hx : x.length < 18446744073709551616) (r : List UInt8) : bytesR m (numL x.length ++ (x ++ r), 0) = (x, (r, 0)) := by
  unfold bytesR
  rw [W.countR_write hx hm]
  unfold takeR
  rw [if_pos rfl, if_neg (by simp), List.take_left' rfl, List.drop_left' rfl]
theorem wsAt_write {ws : List (Int × List UInt8)} (h : ∀ x ∈ ws, 0 ≤ x.1 ∧ x.1 < 8 ∧ x.2.length = 16) (r : List UInt8) : ∀ t, t ≤ ws.length → wsAt (wsL ws ++ r, 0) t = (ws.take t, (wsL (ws.drop t) ++ r, 0))
  | 0, _ => rfl
  | t + 1, ht => by
    have ih := wsAt_write h r t (by omega)
    have htl : t < ws.length := by omega
    have hx := h _ (List.getElem_mem htl)
    have hd := List.drop_eq_getElem_cons htl
    have htk : ws.take (t + 1) = ws.take t ++ [ws[t]] := by rw [List.take_add_one, List.getElem?_eq_getElem htl]; rfl
    generalize ws[t] = x at *
    have e : wsL (ws.drop t) ++ r = numL x.1.toNat ++ (numL x.2.length ++ (x.2 ++ (wsL (ws.drop (t + 1)) ++ r))) := by
      rw [hd]; unfold wsL wrapL; simp
    have c1 := W.countR_write (n := x.1.toNat) (m := 7) (by omega) (by omega) (numL x.2.length ++ (x.2 ++ (wsL (ws.drop (t + 1)) ++ r)))
    have c2 := mbytesR_write (m := 16) (x := x.2) (by omega) (by omega) (wsL (ws.drop (t + 1)) ++ r)
    rw [e] at ih
    have h2 : (wsAt (wsL ws ++ r, 0) t).2 = (numL x.1.toNat ++ (numL x.2.length ++ (x.2 ++ (wsL (ws.drop (t + 1)) ++ r))), 0) := congrArg Prod.snd ih
    have h1 : (wsAt (wsL ws ++ r, 0) t).1 = ws.take t := congrArg Prod.fst ih
    show ((wsAt (wsL ws ++ r, 0) t).1 ++ [(((countR 7 (wsAt (wsL ws ++ r, 0) t).2).1 : Int), (bytesR 16 (countR 7 (wsAt (wsL ws ++ r, 0) t).2).2).1)], (bytesR 16 (countR 7 (wsAt (wsL ws ++ r, 0) t).2).2).2) = _
    rw [h1, h2, c1]
    show (ws.take t ++ [((x.1.toNat : Int), (bytesR 16 (numL x.2.length ++ (x.2 ++ (wsL (ws.drop (t + 1)) ++ r)), 0)).1)], (bytesR 16 (numL x.2.length ++ (x.2 ++ (wsL (ws.drop (t + 1)) ++ r)), 0)).2) = _
    rw [c2, htk, Int.toNat_of_nonneg hx.1]
theorem readM_write (h : rightM cg = true) (hp : 0 ≤ cg.pub ∧ cg.pub < 18446744073709551616) : readM (bodyM cg) = (cg, 0) := by
  have hraw : rawM (bodyM cg) = (cg, ([], 0)) := by
    have hwho := rightM_who h
    obtain ⟨kd, who, pub, lim, ws, old⟩ := cg
    rcases right_kd h with hk | hk | hk
    · have hk : kd = 1 := hk
      subst hk
      have hr := h
      rw [rightM_1 rfl, decide_eq_true_eq] at hr
      obtain ⟨_, _, h3, h4, h5⟩ := hr
      simp only at h3 h4 h5 hwho hp
      subst h3; subst h4; subst h5
      have eb : bodyM ⟨1, who, pub, 0, [], []⟩ = numL 1 ++ (numL who.toNat ++ (numL pub.toNat ++ [])) := by unfold bodyM; rw [if_neg (by show ¬ (1 : Int) = 3; decide), if_pos rfl]; simp
      have c1 := W.countR_write (n := 1) (m := 3) (by decide) (by decide) (numL who.toNat ++ (numL pub.toNat ++ []))
      have c2 := W.countR_write (n := who.toNat) (m := 7) (by omega) (by omega) (numL pub.toNat ++ [])
      have c3 := W.numR_write (n := pub.toNat) (by omega) []
      rw [eb]
      unfold rawM
      rw [c1]
      simp only [if_true]
      rw [c2]
      simp only
      rw [c3, Int.toNat_of_nonneg hwho.1, Int.toNat_of_nonneg hp.1]
    · have hk : kd = 2 := hk
      subst hk
      have hr := h
      rw [rightM_2 rfl, decide_eq_true_eq] at hr
      obtain ⟨_, _, h3, h4, h4', h5, h6⟩ := hr
      simp only at h3 h4 h4' h5 h6 hwho hp
      subst h3; subst h5; subst h6
      have eb : bodyM ⟨2, who, 0, lim, [], []⟩ = numL 2 ++ (numL who.toNat ++ (numL lim.toNat ++ [])) := by unfold bodyM; rw [if_neg (by show ¬ (2 : Int) = 3; decide), if_neg (by show ¬ (2 : Int) = 1; decide)]; simp
      have c1 := W.countR_write (n := 2) (m := 3) (by decide) (by decide) (numL who.toNat ++ (numL lim.toNat ++ []))
      have c2 := W.countR_write (n := who.toNat) (m := 7) (by omega) (by omega) (numL lim.toNat ++ [])
      have c3 := W.countR_write (n := lim.toNat) (m := 200) (by omega) (by omega) []
      rw [eb]
      unfold rawM
      rw [c1]
      simp only [if_neg (show ¬ (2 : Nat) = 1 by decide), if_true]
      rw [c2]
      simp only
      rw [c3, Int.toNat_of_nonneg hwho.1, Int.toNat_of_nonneg h4]
    · have hk : kd = 3 := hk
      subst hk
      obtain ⟨h1, h2, h3, h4, h5, h6, h7⟩ := right_3 h rfl
      have hall := boxesGo_all h1
      simp only at h3 h4 h5 h6 h7
      subst h3; subst h4; subst h5
      have eb : bodyM ⟨3, 0, 0, 0, ws, old⟩ = numL 3 ++ (numL ws.length ++ (wsL ws ++ (numL old.length ++ (old ++ [])))) := by unfold bodyM; rw [if_pos rfl]; simp
      have c1 := W.countR_write (n := 3) (m := 3) (by decide) (by decide) (numL ws.length ++ (wsL ws ++ (numL old.length ++ (old ++ []))))
      have c2 := W.countR_write (n := ws.length) (m := 8) (by omega) (by omega) (wsL ws ++ (numL old.length ++ (old ++ [])))
      have c3 := wsAt_write (ws := ws) (fun x hx => by have := hall x hx; omega) (numL old.length ++ (old ++ [])) ws.length (Nat.le_refl _)
      rw [List.take_length, List.drop_length] at c3
      have c4 := mbytesR_write (m := 24) (x := old) (by omega) (by omega) []
      rw [eb]
      unfold rawM
      rw [c1]
      simp only [if_neg (show ¬ (3 : Nat) = 1 by decide), if_neg (show ¬ (3 : Nat) = 2 by decide), if_true]
      rw [c2]
      simp only
      rw [c3]
      show (Chg.mk 3 0 0 0 ws (bytesR 24 ([] ++ (numL old.length ++ (old ++ [])), 0)).1, (bytesR 24 ([] ++ (numL old.length ++ (old ++ [])), 0)).2) = _
      rw [List.nil_append, c4]
  have hd0 : doneR (rawM (bodyM cg)).2 = 0 := by rw [hraw]; rfl
  have hr0 : rightM (rawM (bodyM cg)).1 = true := by rw [hraw]; exact h
  unfold readM
  rw [if_pos hd0, if_pos hr0, hraw]
theorem wsAt_good {S : RS} : ∀ {t : Nat}, (wsAt S t).2.2 = 0 → S.2 = 0 ∧ S.1 = wsL (wsAt S t).1 ++ (wsAt S t).2.1
  | 0, h => ⟨h, rfl⟩
  | t + 1, h => by
    have h : (bytesR 16 (countR 7 (wsAt S t).2).2).2.2 = 0 := h
    obtain ⟨g1, g2⟩ := mbytesR_good h
    obtain ⟨g3, g4⟩ := W.countR_good g1
    obtain ⟨g5, g6⟩ := wsAt_good g3
    refine ⟨g5, ?_⟩
    show S.1 = wsL ((wsAt S t).1 ++ [(((countR 7 (wsAt S t).2).1 : Int), (bytesR 16 (countR 7 (wsAt S t).2).2).1)]) ++ (bytesR 16 (countR 7 (wsAt S t).2).2).2.1
    rw [g6, g4, g2]
    unfold wsL wrapL
    simp
theorem readM_cases (b : List UInt8) : ((readM b).2 = 0 ∧ doneR (rawM b).2 = 0 ∧ rightM (rawM b).1 = true ∧ (readM b).1 = (rawM b).1) ∨ ((readM b).2 ≠ 0 ∧ (readM b).1 = Chg.z) := by
  unfold readM
  by_cases hd : doneR (rawM b).2 = 0
  · rw [if_pos hd]
    by_cases hr : rightM (rawM b).1 = true
    · rw [if_pos hr]; exact .inl ⟨rfl, hd, hr, rfl⟩
    · rw [if_neg hr]; exact .inr ⟨by show (4 : Int) ≠ 0; decide, rfl⟩
  · rw [if_neg hd]; exact .inr ⟨hd, rfl⟩
theorem raw_pub (b : List UInt8) : 0 ≤ (rawM b).1.pub ∧ (rawM b).1.pub < 18446744073709551616 := by
  unfold rawM
  split
  · have := W.numR_lt (countR 7 (countR 3 (b, 0)).2).2
    refine ⟨?_, ?_⟩
    · show (0 : Int) ≤ ((numR _).1 : Nat); omega
    · show (((numR _).1 : Nat) : Int) < _; omega
  split
  · exact ⟨Int.le_refl _, by show (0 : Int) < _; decide⟩
  split
  · exact ⟨Int.le_refl _, by show (0 : Int) < _; decide⟩
  · exact ⟨Int.le_refl _, by show (0 : Int) < _; decide⟩
theorem doneR_good {s : RS} (h : doneR s = 0) : s.2 = 0 ∧ s.1 = [] := by
  unfold W.doneR at h
  by_cases h0 : s.2 = 0
  · rw [if_pos h0] at h
    by_cases h1 : s.1.length > 0
    · rw [if_pos h1] at h; exact absurd h (by decide)
    · exact ⟨h0, List.eq_nil_of_length_eq_zero (by omega)⟩
  · rw [if_neg h0] at h; exact absurd h h0
theorem readM_back {b : List UInt8} (h : (readM b).2 = 0) : rightM (readM b).1 = true ∧ bodyM (readM b).1 = b := by
  rcases readM_cases b with ⟨_, hd, hr, e⟩ | ⟨hne, _⟩
  · rw [e]
    refine ⟨hr, ?_⟩
    obtain ⟨d1, d2⟩ := doneR_good hd
    revert hr d1 d2
    unfold rawM
    split
    · rename_i e1
      intro hr d1 d2
      obtain ⟨g1, g2⟩ := W.numR_good d1
      obtain ⟨g3, g4⟩ := W.countR_good g1
      obtain ⟨g5, g6⟩ := W.countR_good g3
      have d2 : (numR (countR 7 (countR 3 (b, 0)).2).2).2.1 = [] := d2
      rw [d2] at g2
      rw [g2] at g4
      rw [g4, e1] at g6
      have g6 : b = _ := g6
      unfold bodyM
      rw [if_neg (by show ¬ (1 : Int) = 3; decide), if_pos rfl]
      simp only [Int.toNat_natCast]
      refine Eq.trans ?_ g6.symm
      simp
    split
    · rename_i _ e1
      intro hr d1 d2
      obtain ⟨g1, g2⟩ := W.countR_good d1
      obtain ⟨g3, g4⟩ := W.countR_good g1
      obtain ⟨g5, g6⟩ := W.countR_good g3
      have d2 : (countR 200 (countR 7 (countR 3 (b, 0)).2).2).2.1 = [] := d2
      rw [d2] at g2
      rw [g2] at g4
      rw [g4, e1] at g6
      have g6 : b = _ := g6
      unfold bodyM
      rw [if_neg (by show ¬ (2 : Int) = 3; decide), if_neg (by show ¬ (2 : Int) = 1; decide)]
      simp only [Int.toNat_natCast]
      refine Eq.trans ?_ g6.symm
      simp
    split
    · rename_i _ _ e1
      intro hr d1 d2
      obtain ⟨g1, g2⟩ := mbytesR_good d1
      obtain ⟨g3, g4⟩ := wsAt_good g1
      obtain ⟨g5, g6⟩ := W.countR_good g3
      obtain ⟨g7, g8⟩ := W.countR_good g5
      have d2 : (bytesR 24 (wsAt (countR 8 (countR 3 (b, 0)).2).2 (countR 8 (countR 3 (b, 0)).2).1).2).2.1 = [] := d2
      have hlen := (wsAt_len (countR 8 (countR 3 (b, 0)).2).2 (countR 8 (countR 3 (b, 0)).2).1).2
      rw [d2] at g2
      rw [g2] at g4
      rw [g4] at g6
      rw [g6, e1] at g8
      have g8 : b = _ := g8
      unfold bodyM
      rw [if_pos rfl]
      simp only
      rw [hlen]
      refine Eq.trans ?_ g8.symm
      simp
    · rename_i e1 e2 e3
      intro hr _ _
      exfalso
      rcases right_kd hr with hk | hk | hk
      · have hk : ((countR 3 (b, 0)).1 : Int) = 1 := hk; omega
      · have hk : ((countR 3 (b, 0)).1 : Int) = 2 := hk; omega
      · have hk : ((countR 3 (b, 0)).1 : Int) = 3 := hk; omega
  · exact absurd h hne
theorem changes_spec {x y : CR} (hx : x.at_ w) (hy : y.at_ w) (hxl : x.l.length < 1000000) (hxb : ∀ u ∈ x.l, u.b.length < 1000000) (hxo : x.old.length < 1000000) :
    Calls Try.prog 34 #[chgV x.cg x.wa x.wc x.oa x.oc, chgV y.cg y.wa y.wc y.oa y.oc] w (fun e w' => ∃ r : Bool, e = .returned (.bool r) ∧ (r = true ↔ x.cg = y.cg) ∧ Ext no w w') := by
  rw [← CR.V, ← CR.V]
  refine (cachetteref12_Changes.go x.kd x.who x.pub x.lim x.wa x.l.length x.wc x.oa x.old.length x.oc y.kd y.who y.pub y.lim y.wa y.l.length y.wc y.oa y.old.length y.oc (R := fun v w' => ∃ r : Bool, v = .bool r ∧ (r = true ↔ x.cg = y.cg) ∧ Ext no w w') ?_).mono fun e w' ⟨v, he, r, hv, h⟩ => ⟨r, by rw [he, hv], h⟩
  unfold cachetteref12_Changes.N
  have no_ : ∀ {w' : World}, (x.cg = y.cg → False) → Ext no w w' → ∃ r : Bool, Value.bool false = .bool r ∧ (r = true ↔ x.cg = y.cg) ∧ Ext no w w' := fun h X => ⟨false, rfl, ⟨fun h => (by cases h), fun e => (h e).elim⟩, X⟩
  refine ⟨fun h w14 X => no_ (fun e => h (congrArg Chg.kd e)) X, fun h1 => ⟨fun h w14 X => no_ (fun e => h (congrArg Chg.who e)) X, fun h2 => ⟨fun h w14 X => no_ (fun e => h (congrArg Chg.pub e)) X, fun h3 => ⟨fun h w14 X => no_ (fun e => h (congrArg Chg.lim e)) X, fun h4 => ⟨fun h w14 X => no_ (fun e => h (by have := congrArg (fun c => c.ws.length) e; simp only [CR.cg, List.length_map] at this; omega)) X, fun h5 w14 p30 p31 X14 hp => ?_⟩⟩⟩⟩⟩
  refine (W.sameB_spec (hx.old.no X14) (hy.old.no X14) hxo).mono fun e w34 ⟨he, X34⟩ => ⟨_, he, X34.kept, fun hf => no_ (fun e => of_decide_eq_false hf (congrArg Chg.old e)) (X14.trans X34), fun ho => ?_⟩
  have ho := of_decide_eq_true ho
  have Y34 := X14.trans X34
  refine ⟨fun q vs w1 => ∃ t : Nat, vs = [.int .i64 t] ∧ q + t = x.l.length ∧ Ext no w w1 ∧ (x.l.map Wr.p).take t = (y.l.map Wr.p).take t, x.l.length, ⟨0, rfl, rfl, Y34, rfl⟩, ?_⟩
  rintro q w39 i ⟨t, hi, hq, Y39, hn⟩
  simp only [List.cons.injEq, Value.int.injEq, true_and, and_true] at hi
  subst hi
  refine ⟨fun ht => ?_, fun ht => ?_⟩
  · have t1 : t < x.l.length := by omega
    have t2 : t < y.l.length := by omega
    have g1 : x.l[t]? = some x.l[t] := List.getElem?_eq_getElem t1
    have g2 : y.l[t]? = some y.l[t] := List.getElem?_eq_getElem t2
    have m1 := List.getElem_mem t1
    have m2 := List.getElem_mem t2
    have e1 : (x.l.map Wr.p)[t]? = some x.l[t].p := by rw [List.getElem?_map, g1]; rfl
    have e2 : (y.l.map Wr.p)[t]? = some y.l[t].p := by rw [List.getElem?_map, g2]; rfl
    have ne : x.l[t].p ≠ y.l[t].p → x.cg = y.cg → False := fun h e => by
      have := congrArg (fun c : Chg => c.ws[t]?) e
      simp only [CR.cg] at this
      rw [e1, e2] at this
      exact h (Option.some.inj this)
    generalize x.l[t] = u at *
    generalize y.l[t] = v at *
    obtain ⟨ad, had⟩ := hx.ws.faddr Wr.len (by decide) t1
    obtain ⟨bd, hbd⟩ := hy.ws.faddr Wr.len (by decide) t2
    have rx := hx.ws.no Y39
    have ry := hy.ws.no Y39
    rw [had] at rx ⊢
    rw [hbd] at ry ⊢
    refine ⟨ad, rfl, by omega, by omega, u.who, by rw [Int.toNat_natCast]; exact rx.fcell Wr.len g1 0 rfl, bd, rfl, by omega, by omega, v.who, by rw [Int.toNat_natCast]; exact ry.fcell Wr.len g2 0 rfl, fun hne w41 X41 => no_ (ne fun e => hne (congrArg Prod.fst e)) (Y39.trans X41), fun hw => ⟨by omega, by omega, u.a, u.b.length, u.c, by rw [Int.toNat_natCast]; exact rx.fcell Wr.len g1 1 rfl, by omega, by omega, v.a, v.b.length, v.c, by rw [Int.toNat_natCast]; exact ry.fcell Wr.len g2 1 rfl, fun w41 X41 => ?_⟩⟩
    have Y41 := Y39.trans X41
    refine (W.sameB_spec ((hx.bs u m1).no Y41) ((hy.bs v m2).no Y41) (hxb u m1)).mono fun e w55 ⟨he, X55⟩ => ⟨_, he, X55.kept, fun hf => no_ (ne fun e => of_decide_eq_false hf (congrArg Prod.snd e)) (Y41.trans X55), fun hb => ⟨by omega, by omega, q - 1, by omega, t + 1, rfl, by omega, Y41.trans X55, ?_⟩⟩
    have hb := of_decide_eq_true hb
    have : u.p = v.p := by unfold Wr.p; rw [hw, hb]
    rw [List.take_add_one, List.take_add_one, hn, e1, e2, this]
  · rw [List.take_of_length_le (by simp; omega), List.take_of_length_le (by simp; omega)] at hn
    refine ⟨true, rfl, ⟨fun _ => ?_, fun _ => rfl⟩, Y39⟩
    unfold CR.cg
    rw [h1, h2, h3, h4, hn, ho]
end
end Go.Proofs.Ytmhfoieeldiecaa

/- MembersForms, MembersBack. -/
set_option linter.unusedVariables false
set_option linter.unusedSimpArgs false
set_option maxRecDepth 20000
set_option maxHeartbeats 4000000
namespace Go.Proofs.Ytmhfoieeldiecaa
open Go Go.Mx Go.Proofs
open W (OwnB Rd RdR countR numR doneR numL_le sameB_spec)
section
variable {w w' w1 : World} {o o' o1 : Own} {a ba : Option Addr} {c bc N : Nat} {l : List Wr} {cg : Chg} {wa oa : Option Addr} {wc oc : Nat} {b : List UInt8}
theorem noTags (w : World) : Tags w (fun _ => none) := fun b j _ h => by cases h
theorem noExt (h : Step no w o w' o') : Ext no w w' := h.ext.mono fun b ⟨_, _, h⟩ _ => h
theorem ownE (hr : RowAt w wa (l.flatMap Wr.C)) (hw : cg.ws = l.map Wr.p) (hl : l.length < 1000000) : Calls Try.prog 13 #[chgV cg wa wc oa oc] w (fun e w' => ∃ wa' wc', e = .returned (chgV cg wa' wc' oa oc) ∧ RowAt w' wa' (l.flatMap Wr.C) ∧ Ext no w w') :=
  (Own_spec (noTags w) ⟨hr, fun _ _ _ => rfl⟩ hw hl).mono fun e w' ⟨o', wa', wc', he, s, r, _⟩ => ⟨wa', wc', he, r.1, noExt s⟩
theorem backE (hr : RowAt w wa (l.flatMap Wr.C)) (hw : cg.ws = l.map Wr.p) (hl : l.length < 1000000) : Calls Try.prog 35 #[chgV cg wa wc oa oc] w (fun e w' => ∃ wa' wc', e = .returned (chgV cg wa' wc' oa oc) ∧ RowAt w' wa' (l.flatMap Wr.C) ∧ Ext no w w') :=
  (Back_spec (noTags w) ⟨hr, fun _ _ _ => rfl⟩ hw hl).mono fun e w' ⟨o', wa', wc', he, s, r, _⟩ => ⟨wa', wc', he, r.1, noExt s⟩
theorem CR.at_with {x : CR} (h : x.at_ w) {wa : Option Addr} {wc : Nat} (hr : RowAt w wa (x.l.flatMap Wr.C)) : CR.at_ w { x with wa := wa, wc := wc } := ⟨hr, h.bs, h.old⟩
theorem raw_bs (x : CR) (h : x.cg = (readM b).1) : x.l.length < 1000000 ∧ x.old.length < 1000000 ∧ ∀ u ∈ x.l, u.b.length < 1000000 := by
  rcases readM_cases b with ⟨_, hd, hr, e⟩ | ⟨_, e⟩
  · rw [e] at h
    obtain ⟨s1, s2⟩ := raw_small b
    have h1 : (x.l.map Wr.p).length ≤ 8 := by have := congrArg (fun c : Chg => c.ws.length) h; simp only [CR.cg] at this; omega
    have h2 : x.old.length ≤ 24 := by have := congrArg (fun c : Chg => c.old.length) h; simp only [CR.cg] at this; omega
    rw [List.length_map] at h1
    refine ⟨by omega, by omega, fun u hu => ?_⟩
    have hr : rightM x.cg = true := by rw [h]; exact hr
    have hm : u.p ∈ x.cg.ws := List.mem_map.2 ⟨u, hu, rfl⟩
    rcases right_kd hr with hk | hk | hk
    · rw [rightM_1 hk, decide_eq_true_eq] at hr; rw [hr.2.2.2.1] at hm; cases hm
    · rw [rightM_2 hk, decide_eq_true_eq] at hr; rw [hr.2.2.2.2.2.1] at hm; cases hm
    · have hb := boxesGo_all (right_3 hr hk).1 _ hm
      have : u.b.length = 16 := hb.2.2.2
      omega
  · rw [e] at h
    have h1 : (x.l.map Wr.p) = [] := congrArg Chg.ws h
    have h2 : x.old = [] := congrArg Chg.old h
    have h3 : x.l = [] := List.map_eq_nil_iff.1 h1
    rw [h2, h3]
    exact ⟨by decide, by decide, fun u hu => (by cases hu)⟩
theorem bytes_len {x : CR} (hx2 : x.old.length ≤ 100) : (bytesM x.cg).1.length < 1000000 := by
  unfold bytesM
  split
  · rename_i hr
    have hold : x.cg.old.length ≤ 100 := hx2
    rcases right_kd hr with hk | hk | hk
    · unfold bodyM; rw [if_neg (by omega), if_pos hk]
      have n1 := numL_le 1; have n2 := numL_le x.cg.who.toNat; have n3 := numL_le x.cg.pub.toNat
      simp only [List.length_append]; omega
    · unfold bodyM; rw [if_neg (by omega), if_neg (by omega)]
      have n1 := numL_le 2; have n2 := numL_le x.cg.who.toNat; have n3 := numL_le x.cg.lim.toNat
      simp only [List.length_append]; omega
    · obtain ⟨h1, _, _, _, _, h6, h7⟩ := right_3 hr hk
      have hall := boxesGo_all h1
      have q3 := wsL_len (l := x.cg.ws) fun u hu => by have := hall u hu; omega
      unfold bodyM; rw [if_pos hk]
      have n1 := numL_le 3; have n2 := numL_le x.cg.ws.length; have n3 := numL_le x.cg.old.length
      simp only [List.length_append]; omega
  · exact (by decide : 0 < 1000000)
end
end Go.Proofs.Ytmhfoieeldiecaa

/- MembersBack. -/
set_option linter.unusedVariables false
set_option linter.unusedSimpArgs false
set_option maxRecDepth 20000
set_option maxHeartbeats 4000000
namespace Go.Proofs.Ytmhfoieeldiecaa
open Go Go.Mx Go.Proofs
open W (OwnB Rd RdR countR numR doneR numL_le sameB_spec)
section
variable {w w' w1 : World} {o o' o1 : Own} {a ba : Option Addr} {c bc N : Nat} {l : List Wr} {cg : Chg} {wa oa : Option Addr} {wc oc : Nat} {b : List UInt8}
theorem read_pub (b : List UInt8) : 0 ≤ (readM b).1.pub ∧ (readM b).1.pub < 18446744073709551616 := by
  rcases readM_cases b with ⟨_, _, _, e⟩ | ⟨_, e⟩
  · rw [e]; exact raw_pub b
  · rw [e]; exact ⟨Int.le_refl _, by show (0 : Int) < _; decide⟩
theorem read_small (x : CR) (h : x.cg = (readM b).1) : x.l.length < 1000 ∧ x.cg.old.length < 1000 := by
  rcases readM_cases b with ⟨_, hd, hr, e⟩ | ⟨_, e⟩
  · rw [e] at h
    obtain ⟨s1, s2⟩ := raw_small b
    have h1 : (x.l.map Wr.p).length ≤ 8 := by have := congrArg (fun c : Chg => c.ws.length) h; simp only [CR.cg] at this; omega
    rw [List.length_map] at h1
    exact ⟨by omega, by rw [h]; omega⟩
  · rw [e] at h
    have h1 : (x.l.map Wr.p) = [] := congrArg Chg.ws h
    have h3 : x.l = [] := List.map_eq_nil_iff.1 h1
    rw [h3, h]
    exact ⟨by decide, by decide⟩
theorem MembersBack_spec (W : World) {x : CR} (hg : x.good W) (hb : RowAt W ba (bytesV b)) (hbc : b.length ≤ bc) :
    Calls Try.prog 8 #[.agg #[.int .i64 x.kd, .int .i64 x.who, .int .u64 x.pub, .int .i64 x.lim, .slice x.wa x.l.length x.wc, .slice x.oa x.old.length x.oc], .slice ba b.length bc] W (Ret (.bool true) fun w' => Ext no W w') := by
  refine cachettelaw12_MembersBack.run _ _ _ _ _ _ _ _ _ _ _ _ _ ?_
  unfold cachettelaw12_MembersBack.N
  intro w9 q10 p11 X9 hq10 hq hq' hp11
  have hlr : RowAt w9 (some (blk q10)) (([x] : List CR).flatMap CR.C) := by simpa using (RowAt.of_blk hq10 : RowAt w9 (some (blk q10)) x.C)
  have hA : x.at_ w9 := ⟨hg.ws.no X9, fun y hy => (hg.bs y hy).1.no X9, hg.old.no X9⟩
  refine (light12_spec (l := [x]) (lc := 1) hlr (fun p hp => by rw [List.mem_singleton.1 hp]; exact hA.ws)).mono fun e w14 ⟨he, hw⟩ => ⟨_, he, by subst hw; exact fun _ _ _ => rfl, fun _ => ?_, fun hL => ⟨fun _ => ?_, fun h500 => ?_⟩⟩
  · subst hw; exact (alive12_spec _).mono fun e w18 ⟨he, X⟩ => ⟨_, he, rfl, X9.trans X⟩
  · subst hw; exact (alive12_spec _).mono fun e w18 ⟨he, X⟩ => ⟨_, he, rfl, X9.trans X⟩
  subst hw
  obtain ⟨_, hl2⟩ := light12_of hL
  obtain ⟨hx1, hx2, hx3⟩ := hl2 x (by simp)
  have hxl : x.l.map Wr.p = x.cg.ws := rfl
  rw [CR.V]
  refine (ownE hA.ws rfl (by omega)).mono fun e w30 ⟨wa1, wc1, he, r30, X30⟩ => ⟨_, _, _, _, _, _, _, _, _, _, he, X30.kept, ?_⟩
  have A30 := hA.no X30
  refine (mBytes_spec r30 hxl (by omega) A30.bs A30.old (by show x.old.length < 1000; omega) hg.pub).mono fun e w34 ⟨v, he, a34, c34, hv, O34, X34⟩ => ?_
  subst hv
  refine ⟨_, _, _, _, he, X34.kept, ?_⟩
  have A34 := A30.no X34
  refine (ownE A34.ws rfl (by omega)).mono fun e w42 ⟨wa2, wc2, he, r42, X42⟩ => ⟨_, _, _, _, _, _, _, _, _, _, he, X42.kept, ?_⟩
  refine (Right_spec r42 hxl (by omega) (by show x.old.length < _; omega)).mono fun e w45 ⟨he, X45⟩ => ⟨_, he, X45.kept, fun hne => ?_, fun _ => ⟨fun h0 => ?_, fun h0 => ?_⟩⟩
  · exfalso
    apply hne
    unfold bytesM
    cases hr : rightM x.cg
    · rw [if_neg (by decide)]; rfl
    · rw [if_pos rfl]; rfl
  all_goals have Y45 := (((X9.trans X30).trans X34).trans X42).trans X45
  · have hr : rightM x.cg = true := by
      unfold bytesM at h0
      cases hr : rightM x.cg
      · rw [hr, if_neg (by decide)] at h0; cases h0
      · rfl
    have hB : (bytesM x.cg).1 = bodyM x.cg := by unfold bytesM; rw [if_pos hr]
    have hrd := readM_write hr hg.pub
    have hbl := bytes_len hx2
    rw [← hB] at hrd
    refine (mRead_spec ((O34.row.no X42).no X45) O34.le hbl).mono fun e w56 ⟨v, he, y, hv, hy, B56, X56⟩ => ?_
    subst hv
    obtain ⟨y1, y2, y3⟩ := raw_bs y hy
    rw [hrd] at hy
    refine ⟨_, _, _, _, _, _, _, _, _, _, _, he, X56.kept, fun hne w64 X64 => absurd (by rw [hrd]) hne, fun _ w64 X64 => ?_⟩
    rw [CR.V]
    refine (backE (B56.no X64).ws rfl y1).mono fun e w75 ⟨wa3, wc3, he, r75, X75⟩ => ⟨_, _, _, _, _, _, _, _, _, _, he, X75.kept, ?_⟩
    have B75 : CR.at_ w75 { y with wa := wa3, wc := wc3 } := CR.at_with ((B56.no X64).no X75) r75
    have A75 := (((A34.no X42).no X45).no X56).no (X64.trans X75)
    refine (changes_spec B75 A75 y1 y3 y2).mono fun e w78 ⟨r, he, hrr, X78⟩ => ⟨r, he, fun hf => ?_, fun _ => ?_⟩
    · have : r = true := hrr.2 (by show y.cg = x.cg; rw [hy])
      rw [this] at hf; cases hf
    have Y78 := ((Y45.trans X56).trans X64).trans (X75.trans X78)
    refine (mRead_spec (hb.no Y78) hbc (by omega)).mono fun e w88 ⟨v, he, y, hv, hy, B88, X88⟩ => ?_
    subst hv
    obtain ⟨y1, y2, y3⟩ := raw_bs y hy
    obtain ⟨z1, z2⟩ := read_small y hy
    have hpub := read_pub b
    rw [← hy] at hpub
    refine ⟨_, _, _, _, _, _, _, _, _, _, _, he, fun hne w95 X95 => ?_, fun hz w95 X95 => ?_⟩
    all_goals have Y95 := (Y78.trans X88).trans X95
    all_goals rw [CR.V]
    · refine (backE (B88.no X95).ws rfl y1).mono fun e w105 ⟨wa4, wc4, he, r105, X105⟩ => ⟨_, _, _, _, _, _, _, _, _, _, he, ?_⟩
      have B105 : CR.at_ w105 { y with wa := wa4, wc := wc4 } := CR.at_with ((B88.no X95).no X105) r105
      refine (changes_spec B105 (CR.z_at (w := w105)) y1 y3 y2).mono fun e w108 ⟨r, he, hrr, X108⟩ => ⟨r, he, fun _ => ?_, fun hf => ?_⟩
      · exact (alive12_spec _).mono fun e w112 ⟨he, X⟩ => ⟨_, he, rfl, (Y95.trans X105).trans (X108.trans X)⟩
      · have : r = true := hrr.2 (by
          show y.cg = CR.z.cg
          rcases readM_cases b with ⟨h1, _⟩ | ⟨_, h1⟩
          · exact absurd h1 hne
          · rw [hy, h1]; rfl)
        rw [this] at hf; cases hf
    · obtain ⟨k1, k2⟩ := readM_back hz
      have B95 := B88.no X95
      refine (mBytes_spec B95.ws rfl z1 B95.bs B95.old z2 hpub).mono fun e w117 ⟨v, he, a117, c117, hv, O117, X117⟩ => ?_
      subst hv
      have hBy : bytesM y.cg = (b, 0) := by unfold bytesM; rw [hy, if_pos k1, k2]
      rw [hBy] at he O117
      refine ⟨_, _, _, _, he, fun _ => ?_, fun h => absurd rfl h⟩
      refine (sameB_spec O117.row (hb.no (Y95.trans X117)) (by show b.length < 1000000; omega)).mono fun e w121 ⟨he, X121⟩ => ⟨_, he, fun _ => ?_, fun hf => absurd rfl (of_decide_eq_false hf)⟩
      exact (alive12_spec _).mono fun e w125 ⟨he, X⟩ => ⟨_, he, rfl, (Y95.trans X117).trans (X121.trans X)⟩
  · have Y78 := Y45
    refine (mRead_spec (hb.no Y78) hbc (by omega)).mono fun e w88 ⟨v, he, y, hv, hy, B88, X88⟩ => ?_
    subst hv
    obtain ⟨y1, y2, y3⟩ := raw_bs y hy
    obtain ⟨z1, z2⟩ := read_small y hy
    have hpub := read_pub b
    rw [← hy] at hpub
    refine ⟨_, _, _, _, _, _, _, _, _, _, _, he, fun hne w95 X95 => ?_, fun hz w95 X95 => ?_⟩
    all_goals have Y95 := (Y78.trans X88).trans X95
    all_goals rw [CR.V]
    · refine (backE (B88.no X95).ws rfl y1).mono fun e w105 ⟨wa4, wc4, he, r105, X105⟩ => ⟨_, _, _, _, _, _, _, _, _, _, he, ?_⟩
      have B105 : CR.at_ w105 { y with wa := wa4, wc := wc4 } := CR.at_with ((B88.no X95).no X105) r105
      refine (changes_spec B105 (CR.z_at (w := w105)) y1 y3 y2).mono fun e w108 ⟨r, he, hrr, X108⟩ => ⟨r, he, fun _ => ?_, fun hf => ?_⟩
      · exact (alive12_spec _).mono fun e w112 ⟨he, X⟩ => ⟨_, he, rfl, (Y95.trans X105).trans (X108.trans X)⟩
      · have : r = true := hrr.2 (by
          show y.cg = CR.z.cg
          rcases readM_cases b with ⟨h1, _⟩ | ⟨_, h1⟩
          · exact absurd h1 hne
          · rw [hy, h1]; rfl)
        rw [this] at hf; cases hf
    · obtain ⟨k1, k2⟩ := readM_back hz
      have B95 := B88.no X95
      refine (mBytes_spec B95.ws rfl z1 B95.bs B95.old z2 hpub).mono fun e w117 ⟨v, he, a117, c117, hv, O117, X117⟩ => ?_
      subst hv
      have hBy : bytesM y.cg = (b, 0) := by unfold bytesM; rw [hy, if_pos k1, k2]
      rw [hBy] at he O117
      refine ⟨_, _, _, _, he, fun _ => ?_, fun h => absurd rfl h⟩
      refine (sameB_spec O117.row (hb.no (Y95.trans X117)) (by show b.length < 1000000; omega)).mono fun e w121 ⟨he, X121⟩ => ⟨_, he, fun _ => ?_, fun hf => absurd rfl (of_decide_eq_false hf)⟩
      exact (alive12_spec _).mono fun e w125 ⟨he, X⟩ => ⟨_, he, rfl, (Y95.trans X117).trans (X121.trans X)⟩
theorem MembersBack_walk (W : World) (cs0 : Array Value) (a1 : Option Addr) (len1 cap1 : Nat) (o0 : ∃ p : CR, cs0.toList = p.C ∧ p.good W) (o1 : BytesQ W [.slice a1 len1 cap1]) :
    Calls Try.prog 8 #[.agg cs0, .slice a1 len1 cap1] W (Ret (.bool true) fun w' => Ext no W w') := by
  obtain ⟨x, e0, hg⟩ := o0
  have : cs0 = x.C.toArray := Array.ext' e0
  subst this
  obtain ⟨_, c1, b, e1, q1, q2, r1⟩ := o1
  cases e1
  exact MembersBack_spec W hg r1 q1
end
end Go.Proofs.Ytmhfoieeldiecaa
