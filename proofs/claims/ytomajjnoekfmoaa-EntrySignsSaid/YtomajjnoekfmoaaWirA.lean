/- Wire: numbers that are written and read, what a reader has left. -/
import Derived.Test.YtomajjnoekfmoaaProg
import Derived.Test.YtomajjnoekfmoaaMxN
import Derived.KernelRfl
set_option linter.unusedVariables false
set_option linter.unusedSimpArgs false
set_option maxRecDepth 20000
namespace Go.Proofs.Ytomajjnoekfmoaa.W
open Go Go.Mx Go.Proofs
theorem follows : Try.prog.follows .mixedOrders = true := by kernel_rfl
/-- slices.Clone[[]byte,byte] -/
def wClone.M (s1a : Option Addr) (s1n : Nat) (s1c : Nat) (R : Value → World → Prop) (w : World) : Prop :=
  bif Option.isNone s1a then (
  R (.slice none 0 0) w) else (
  thenW (w.alloc (.cells #[] 5)) fun ww2 =>
  ∃ (a3a : Option Addr) (a3n : Nat) (a3c : Nat) (ww4 : World), (Builtin.append_ #[25, 25] 25 #[.slice (some (blk w.heap.size)) 0 0, .slice s1a s1n s1c]).run Try.prog ww2 = .ok (.slice a3a a3n a3c) ww4 ∧
  R (.slice a3a a3n a3c) ww4)

theorem wClone.eq (s1a : Option Addr) (s1n : Nat) (s1c : Nat) (R : Value → World → Prop) (w : World) : mfunc Try.prog [] 62 [.slice s1a s1n s1c] R w = wClone.M s1a s1n s1c R w := by kernel_rfl
theorem wClone.ok (s1a : Option Addr) (s1n : Nat) (s1c : Nat) {R : Value → World → Prop} {w : World} (h : wClone.M s1a s1n s1c R w) : Calls Try.prog 62 #[.slice s1a s1n s1c] w fun e w' => ∃ v, e = .returned v ∧ R v w' :=
  mfunc_ok follows (H := []) (args := [.slice s1a s1n s1c]) (by rw [wClone.eq]; exact h)

/-- wire.Num -/
def wNum.M (b1a : Option Addr) (b1n : Nat) (b1c : Nat) (n2 : Int) (R : Value → World → Prop) (w : World) : Prop :=
  Calls Try.prog 62 #[.slice b1a b1n b1c] w fun ee4 ww5 => ∃ (clone3a : Option Addr) (clone3n : Nat) (clone3c : Nat), ee4 = .returned (.slice clone3a clone3n clone3c) ∧
  ∃ (I0 : Nat → List Value → World → Prop) (m8 : Nat), I0 m8 [.int .u64 n2, .slice clone3a clone3n clone3c] ww5 ∧ ∀ (m9 : Nat) (ww10 : World) (n6 : Int) (outv7a : Option Addr) (outv7n : Nat) (outv7c : Nat), I0 m9 [.int .u64 n6, .slice outv7a outv7n outv7c] ww10 →
  bif decide (n6 ≥ 128) then (
  thenW (ww10.alloc (.cells #[.int .u8 (IntKind.u8.wrap ((BitVec.ofInt (IntKind.bits .u8) (IntKind.u8.wrap n6) ||| BitVec.ofInt (IntKind.bits .u8) 128).toNat))] 5)) fun ww11 =>
  ∃ (a12a : Option Addr) (a12n : Nat) (a12c : Nat) (ww13 : World), (Builtin.append_ #[25, 25] 25 #[.slice outv7a outv7n outv7c, .slice (some (blk ww10.heap.size)) 1 1]).run Try.prog ww11 = .ok (.slice a12a a12n a12c) ww13 ∧
  0 ≤ (7 : Int) ∧
  ∃ m14, m14 < m9 ∧ I0 m14 [.int .u64 (Int.fdiv n6 (2 ^ (min (Int.toNat 7) (IntKind.bits .u64)))), .slice a12a a12n a12c] ww13) else (
  thenW (ww10.alloc (.cells #[.int .u8 (IntKind.u8.wrap n6)] 5)) fun ww15 =>
  ∃ (a16a : Option Addr) (a16n : Nat) (a16c : Nat) (ww17 : World), (Builtin.append_ #[25, 25] 25 #[.slice outv7a outv7n outv7c, .slice (some (blk ww10.heap.size)) 1 1]).run Try.prog ww15 = .ok (.slice a16a a16n a16c) ww17 ∧
  R (.slice a16a a16n a16c) ww17)

theorem wNum.eq (b1a : Option Addr) (b1n : Nat) (b1c : Nat) (n2 : Int) (R : Value → World → Prop) (w : World) : mfunc Try.prog [(0, [], [(1, (.one (.int .u64))), (5, (.one .slice))])] 32 [.slice b1a b1n b1c, .int .u64 n2] R w = wNum.M b1a b1n b1c n2 R w := by kernel_rfl
theorem wNum.ok (b1a : Option Addr) (b1n : Nat) (b1c : Nat) (n2 : Int) {R : Value → World → Prop} {w : World} (h : wNum.M b1a b1n b1c n2 R w) : Calls Try.prog 32 #[.slice b1a b1n b1c, .int .u64 n2] w fun e w' => ∃ v, e = .returned v ∧ R v w' :=
  mfunc_ok follows (H := [(0, [], [(1, (.one (.int .u64))), (5, (.one .slice))])]) (args := [.slice b1a b1n b1c, .int .u64 n2]) (by rw [wNum.eq]; exact h)

/-- wire.Read -/
def wRead.M (b1a : Option Addr) (b1n : Nat) (b1c : Nat) (R : Value → World → Prop) (w : World) : Prop :=
  thenW (w.alloc (.cells #[.slice b1a b1n b1c, .int .i64 0] 103)) fun ww2 =>
  R (.pointer (some (blk w.heap.size))) ww2

theorem wRead.eq (b1a : Option Addr) (b1n : Nat) (b1c : Nat) (R : Value → World → Prop) (w : World) : mfunc Try.prog [] 36 [.slice b1a b1n b1c] R w = wRead.M b1a b1n b1c R w := by kernel_rfl
theorem wRead.ok (b1a : Option Addr) (b1n : Nat) (b1c : Nat) {R : Value → World → Prop} {w : World} (h : wRead.M b1a b1n b1c R w) : Calls Try.prog 36 #[.slice b1a b1n b1c] w fun e w' => ∃ v, e = .returned v ∧ R v w' :=
  mfunc_ok follows (H := []) (args := [.slice b1a b1n b1c]) (by rw [wRead.eq]; exact h)

/-- (*wire.Reader).ok -/
def wOk.M (r1 : Option Addr) (R : Value → World → Prop) (w : World) : Prop :=
  bif !(Option.isNone r1) then (
  r1.elim False fun a2 =>
  ∃ (k3 : Int), w.cell? (a2.add 1) = some (.int .i64 k3) ∧
  R (.bool (k3 == 0)) w) else (
  R (.bool false) w)

theorem wOk.eq (r1 : Option Addr) (R : Value → World → Prop) (w : World) : mfunc Try.prog [] 67 [.pointer r1] R w = wOk.M r1 R w := by kernel_rfl
theorem wOk.ok (r1 : Option Addr) {R : Value → World → Prop} {w : World} (h : wOk.M r1 R w) : Calls Try.prog 67 #[.pointer r1] w fun e w' => ∃ v, e = .returned v ∧ R v w' :=
  mfunc_ok follows (H := []) (args := [.pointer r1]) (by rw [wOk.eq]; exact h)

/-- (*wire.Reader).fail -/
def wFail.M (r1 : Option Addr) (k2 : Int) (R : Value → World → Prop) (w : World) : Prop :=
  r1.elim False fun a3 =>
  canStore w ((a3.add 0).add 0) ∧
  thenW (w.setCell ((a3.add 0).add 0) (.slice none 0 0)) fun ww4 =>
  r1.elim False fun a5 =>
  canStore ww4 ((a5.add 1).add 0) ∧
  thenW (ww4.setCell ((a5.add 1).add 0) (.int .i64 k2)) fun ww6 =>
  R (.tuple #[]) ww6

theorem wFail.eq (r1 : Option Addr) (k2 : Int) (R : Value → World → Prop) (w : World) : mfunc Try.prog [] 69 [.pointer r1, .int .i64 k2] R w = wFail.M r1 k2 R w := by kernel_rfl
theorem wFail.ok (r1 : Option Addr) (k2 : Int) {R : Value → World → Prop} {w : World} (h : wFail.M r1 k2 R w) : Calls Try.prog 69 #[.pointer r1, .int .i64 k2] w fun e w' => ∃ v, e = .returned v ∧ R v w' :=
  mfunc_ok follows (H := []) (args := [.pointer r1, .int .i64 k2]) (by rw [wFail.eq]; exact h)

/-- (*wire.Reader).width -/
def wWidth.M (r1 : Option Addr) (R : Value → World → Prop) (w : World) : Prop :=
  r1.elim False fun a2 =>
  ∃ (b3a : Option Addr) (b3n : Nat) (b3c : Nat), w.cell? (a2.add 0) = some (.slice b3a b3n b3c) ∧
  ∃ (I0 : Nat → List Value → World → Prop) (m5 : Nat), I0 m5 [.int .i64 0] w ∧ ∀ (m6 : Nat) (ww7 : World) (t4 : Int), I0 m6 [.int .i64 t4] ww7 →
  bif decide (t4 < (b3n : Int)) then (
  b3a.elim False fun a8 =>
  0 ≤ (t4 : Int) ∧ (t4 : Int) < (b3n : Int) ∧
  ∃ (x9 : Int), ww7.cell? (a8.add (Int.toNat t4 * 1)) = some (.int .u8 x9) ∧
  bif t4 == 9 then (
  bif x9 != 1 then (
  R (.int .i64 0) ww7) else (
  bif decide (x9 < 128) then (
  bif x9 == 0 then (
  bif decide (t4 > 0) then (
  R (.int .i64 0) ww7) else (
  R (.int .i64 (IntKind.i64.wrap (t4 + 1))) ww7)) else (
  R (.int .i64 (IntKind.i64.wrap (t4 + 1))) ww7)) else (
  ∃ m10, m10 < m6 ∧ I0 m10 [.int .i64 (IntKind.i64.wrap (t4 + 1))] ww7))) else (
  bif decide (x9 < 128) then (
  bif x9 == 0 then (
  bif decide (t4 > 0) then (
  R (.int .i64 0) ww7) else (
  R (.int .i64 (IntKind.i64.wrap (t4 + 1))) ww7)) else (
  R (.int .i64 (IntKind.i64.wrap (t4 + 1))) ww7)) else (
  ∃ m11, m11 < m6 ∧ I0 m11 [.int .i64 (IntKind.i64.wrap (t4 + 1))] ww7))) else (
  R (.int .i64 0) ww7)

theorem wWidth.eq (r1 : Option Addr) (R : Value → World → Prop) (w : World) : mfunc Try.prog [(0, [8, 9], [(10, (.one (.int .i64)))])] 70 [.pointer r1] R w = wWidth.M r1 R w := by kernel_rfl
theorem wWidth.ok (r1 : Option Addr) {R : Value → World → Prop} {w : World} (h : wWidth.M r1 R w) : Calls Try.prog 70 #[.pointer r1] w fun e w' => ∃ v, e = .returned v ∧ R v w' :=
  mfunc_ok follows (H := [(0, [8, 9], [(10, (.one (.int .i64)))])]) (args := [.pointer r1]) (by rw [wWidth.eq]; exact h)

/-- (*wire.Reader).Num -/
def wRNum.M (r1 : Option Addr) (R : Value → World → Prop) (w : World) : Prop :=
  Calls Try.prog 67 #[.pointer r1] w fun ee3 ww4 => ∃ (ok2 : Bool), ee3 = .returned (.bool ok2) ∧
  bif !ok2 then (
  R (.int .u64 0) ww4) else (
  Calls Try.prog 70 #[.pointer r1] ww4 fun ee6 ww7 => ∃ (width5 : Int), ee6 = .returned (.int .i64 width5) ∧
  bif width5 == 0 then (
  Calls Try.prog 69 #[.pointer r1, .int .i64 4] ww7 fun ee8 ww9 => ee8 = .returned (.tuple #[]) ∧
  R (.int .u64 0) ww9) else (
  ∃ (I0 : Nat → List Value → World → Prop) (m12 : Nat), I0 m12 [.int .u64 0, .int .i64 0] ww7 ∧ ∀ (m13 : Nat) (ww14 : World) (n10 : Int) (t11 : Int), I0 m13 [.int .u64 n10, .int .i64 t11] ww14 →
  bif decide (t11 < width5) then (
  r1.elim False fun a15 =>
  ∃ (b16a : Option Addr) (b16n : Nat) (b16c : Nat), ww14.cell? (a15.add 0) = some (.slice b16a b16n b16c) ∧
  b16a.elim False fun a17 =>
  0 ≤ (t11 : Int) ∧ (t11 : Int) < (b16n : Int) ∧
  ∃ (x18 : Int), ww14.cell? (a17.add (Int.toNat t11 * 1)) = some (.int .u8 x18) ∧
  0 ≤ ((IntKind.i64.wrap ((7 : Int) * t11)) : Int) ∧
  ∃ m19, m19 < m13 ∧ I0 m19 [.int .u64 (IntKind.u64.wrap ((BitVec.ofInt (IntKind.bits .u64) n10 ||| BitVec.ofInt (IntKind.bits .u64) (IntKind.u64.wrap ((IntKind.u64.wrap (IntKind.u8.wrap ((BitVec.ofInt (IntKind.bits .u8) x18 &&& BitVec.ofInt (IntKind.bits .u8) 127).toNat))) * 2 ^ (min (Int.toNat (IntKind.i64.wrap ((7 : Int) * t11))) (IntKind.bits .u64))))).toNat)), .int .i64 (IntKind.i64.wrap (t11 + 1))] ww14) else (
  r1.elim False fun a20 =>
  ∃ (b21a : Option Addr) (b21n : Nat) (b21c : Nat), ww14.cell? (a20.add 0) = some (.slice b21a b21n b21c) ∧
  (0 : Int) ≤ (width5 : Int) ∧ (width5 : Int) ≤ (b21n : Int) ∧
  r1.elim False fun a22 =>
  canStore ww14 ((a22.add 0).add 0) ∧
  thenW (ww14.setCell ((a22.add 0).add 0) (.slice (if b21c = Int.toNat width5 then b21a else Option.map (fun z : Addr => z.add ((Int.toNat width5) * 1)) b21a) (b21n - (Int.toNat width5)) (b21c - (Int.toNat width5)))) fun ww23 =>
  R (.int .u64 n10) ww23)))

theorem wRNum.eq (r1 : Option Addr) (R : Value → World → Prop) (w : World) : mfunc Try.prog [(0, [0, 3, 14], [(2, (.one (.int .u64))), (15, (.one (.int .i64)))])] 38 [.pointer r1] R w = wRNum.M r1 R w := by kernel_rfl
theorem wRNum.ok (r1 : Option Addr) {R : Value → World → Prop} {w : World} (h : wRNum.M r1 R w) : Calls Try.prog 38 #[.pointer r1] w fun e w' => ∃ v, e = .returned v ∧ R v w' :=
  mfunc_ok follows (H := [(0, [0, 3, 14], [(2, (.one (.int .u64))), (15, (.one (.int .i64)))])]) (args := [.pointer r1]) (by rw [wRNum.eq]; exact h)

/-- (*wire.Reader).Count -/
def wCount.M (r1 : Option Addr) (most2 : Int) (R : Value → World → Prop) (w : World) : Prop :=
  Calls Try.prog 38 #[.pointer r1] w fun ee4 ww5 => ∃ (num3 : Int), ee4 = .returned (.int .u64 num3) ∧
  Calls Try.prog 67 #[.pointer r1] ww5 fun ee7 ww8 => ∃ (ok6 : Bool), ee7 = .returned (.bool ok6) ∧
  bif !ok6 then (
  R (.int .i64 0) ww8) else (
  bif decide (most2 < 0) then (
  Calls Try.prog 69 #[.pointer r1, .int .i64 3] ww8 fun ee9 ww10 => ee9 = .returned (.tuple #[]) ∧
  R (.int .i64 0) ww10) else (
  Calls Try.prog 68 #[.int .u64 num3] ww8 fun ee12 ww13 => ∃ (len11 : Int), ee12 = .returned (.int .i64 len11) ∧
  bif decide (len11 > 62) then (
  Calls Try.prog 69 #[.pointer r1, .int .i64 3] ww13 fun ee14 ww15 => ee14 = .returned (.tuple #[]) ∧
  R (.int .i64 0) ww15) else (
  bif decide ((IntKind.i64.wrap num3) > most2) then (
  Calls Try.prog 69 #[.pointer r1, .int .i64 3] ww13 fun ee16 ww17 => ee16 = .returned (.tuple #[]) ∧
  R (.int .i64 0) ww17) else (
  R (.int .i64 (IntKind.i64.wrap num3)) ww13))))

theorem wCount.eq (r1 : Option Addr) (most2 : Int) (R : Value → World → Prop) (w : World) : mfunc Try.prog [] 37 [.pointer r1, .int .i64 most2] R w = wCount.M r1 most2 R w := by kernel_rfl
theorem wCount.ok (r1 : Option Addr) (most2 : Int) {R : Value → World → Prop} {w : World} (h : wCount.M r1 most2 R w) : Calls Try.prog 37 #[.pointer r1, .int .i64 most2] w fun e w' => ∃ v, e = .returned v ∧ R v w' :=
  mfunc_ok follows (H := []) (args := [.pointer r1, .int .i64 most2]) (by rw [wCount.eq]; exact h)

/-- (*wire.Reader).Done -/
def wDone.M (r1 : Option Addr) (R : Value → World → Prop) (w : World) : Prop :=
  bif Option.isNone r1 then (
  R (.int .i64 4) w) else (
  Calls Try.prog 67 #[.pointer r1] w fun ee3 ww4 => ∃ (ok2 : Bool), ee3 = .returned (.bool ok2) ∧
  bif ok2 then (
  r1.elim False fun a5 =>
  ∃ (b6a : Option Addr) (b6n : Nat) (b6c : Nat), ww4.cell? (a5.add 0) = some (.slice b6a b6n b6c) ∧
  bif decide ((b6n : Int) > 0) then (
  R (.int .i64 4) ww4) else (
  r1.elim False fun a7 =>
  ∃ (k8 : Int), ww4.cell? (a7.add 1) = some (.int .i64 k8) ∧
  R (.int .i64 k8) ww4)) else (
  r1.elim False fun a9 =>
  ∃ (k10 : Int), ww4.cell? (a9.add 1) = some (.int .i64 k10) ∧
  R (.int .i64 k10) ww4))

theorem wDone.eq (r1 : Option Addr) (R : Value → World → Prop) (w : World) : mfunc Try.prog [] 42 [.pointer r1] R w = wDone.M r1 R w := by kernel_rfl
theorem wDone.ok (r1 : Option Addr) {R : Value → World → Prop} {w : World} (h : wDone.M r1 R w) : Calls Try.prog 42 #[.pointer r1] w fun e w' => ∃ v, e = .returned v ∧ R v w' :=
  mfunc_ok follows (H := []) (args := [.pointer r1]) (by rw [wDone.eq]; exact h)

theorem infU8 : (Try.prog.info? 5).map (fun i => (i.zero, i.size, i.bytes)) = some (some (.int .u8 0), 1, 1) := by kernel_rfl
def GivesW (v : Value) (Q : World → Prop) (e : Ending) (w' : World) : Prop := e = .returned v ∧ Q w'

/-- bytes in a row of one's own, from block N on. -/
structure OwnB (N : Nat) (w : World) (a : Option Addr) (c : Nat) (bs : List UInt8) : Prop where
  own : w.ownsRow 0 5 1 (.slice a bs.length c) bs.length (bytesV bs)
  fr : ∀ ad, a = some ad → N ≤ ad.block ∧ ad.block < w.heap.size
section
variable {w w' : World} {a : Option Addr} {c N : Nat} {bs : List UInt8}
theorem OwnB.row (h : OwnB N w a c bs) : RowAt w a (bytesV bs) := by
  obtain ⟨_, _, hv, hr⟩ := RowAt.of_owns h.own
  cases hv; exact hr
theorem OwnB.le (h : OwnB N w a c bs) : bs.length ≤ c := (own_fresh h.own).1
theorem OwnB.ext {m : Nat → Prop} (h : OwnB N w a c bs) (k : Ext m w w') (hm : ∀ ad, a = some ad → ¬ m ad.block) : OwnB N w' a c bs := by
  refine ⟨⟨h.own.1, ?_⟩, fun ad ha => ⟨(h.fr ad ha).1, Nat.lt_of_lt_of_le (h.fr ad ha).2 k.size⟩⟩
  rcases h.own.2 with h2 | ⟨g, cap, cur, hv, hb, hg, hr⟩
  · exact .inl h2
  · have ha : a = some ⟨g, 0, none⟩ := by cases hv; rfl
    exact .inr ⟨g, cap, cur, hv, hb, k.get hg (hm _ ha), hr⟩
theorem OwnB.no (h : OwnB N w a c bs) (k : Ext no w w') : OwnB N w' a c bs := h.ext k fun _ _ h => h
theorem OwnB.nil (N : Nat) (w : World) : OwnB N w none 0 [] := ⟨⟨by simp [bytesV], .inl ⟨rfl, rfl⟩⟩, fun ad ha => by cases ha⟩
/-- 'append(out, x...)'. -/
theorem OwnB.append {t ty : TypeId} (ht : Try.prog.underlying t = some (.slice 5)) (h : OwnB N w a c bs) (hN : N ≤ w.heap.size) {xa : Option Addr} {xc : Nat} {xs : List UInt8} (hx : RowAt w xa (bytesV xs)) (hl : bs.length + xs.length ≤ 100000000) :
    ∃ a' c' w', (Builtin.append_ #[t, t] ty #[.slice a bs.length c, .slice xa xs.length xc]).run Try.prog w = .ok (.slice a' (bs ++ xs).length c') w' ∧ OwnB N w' a' c' (bs ++ xs) ∧ Ext (fun b => N ≤ b) w w' := by
  obtain ⟨i, hi, hz, hs, hb⟩ := info_of infU8
  obtain ⟨a', c', w', hr, ho, hg, hbk⟩ := run_append (ty := ty) ht hi hz hs hb rfl (by decide) h.own (xa := xa) (m := xs.length) (c := xc) (by rw [bytesV_length]; omega) hx (bytesV_one xs) (by omega) (by omega)
  have hrow : ∀ q, (Value.slice a bs.length c).ownBlock = some q → N ≤ q := fun q hq => by
    cases a with
    | none => simp [Value.ownBlock] at hq
    | some ad => simp only [Value.ownBlock, Option.some.injEq] at hq; subst hq; exact (h.fr ad rfl).1
  refine ⟨a', c', w', by rw [List.length_append]; exact hr, ⟨by rw [List.length_append, show bytesV (bs ++ xs) = bytesV bs ++ bytesV xs by simp [bytesV]]; exact ho, fun ad ha => ⟨?_, (own_fresh ho).2 ad ha⟩⟩, Ext.of_grown hg fun q hq => .inl (hrow q hq)⟩
  subst ha
  rcases hbk with hq | hq
  · exact hrow _ hq.symm
  · simp only [Value.ownBlock, Option.some.injEq] at hq; omega
theorem clone_spec (h : RowAt w a (bytesV bs)) (hl : bs.length ≤ 1000000) :
    Calls Try.prog 62 #[.slice a bs.length c] w (fun e w' => ∃ a' c', e = .returned (.slice a' bs.length c') ∧ OwnB w.heap.size w' a' c' bs ∧ Ext no w w') := by
  refine (wClone.ok a bs.length c (R := fun v w' => ∃ a' c', v = (.slice a' bs.length c') ∧ OwnB w.heap.size w' a' c' bs ∧ Ext no w w') ?_).mono fun e w' ⟨v, he, a', c', hv, hw⟩ => ⟨a', c', by rw [he, hv], hw⟩
  unfold wClone.M
  cases a with
  | none =>
    have : bs = [] := by simpa [bytesV] using h.none_nil
    subst this
    exact ⟨none, 0, rfl, OwnB.nil _ _, Ext.refl _ _⟩
  | some ad =>
    rw [Option.isNone_some, cond_false]
    refine thenW_in fun w2 hw2 => ?_
    subst hw2
    obtain ⟨i, hi, hz, hs, hb⟩ := info_of infU8
    obtain ⟨a', c', w', hr, h1, h2, h3, h4, h5⟩ := clone_owns (c := c) (m := bs.length) (ty := 25) Try.underlying25 hi hz hs hb rfl (bytesV_length bs) h (bytesV_one bs) (by omega) (by omega)
    exact ⟨a', bs.length, c', w', hr, a', c', rfl, ⟨h2, h5⟩, h4⟩
/-- wire.Num: the bytes, and the number's behind them. -/
theorem Num_spec (h : RowAt w a (bytesV bs)) (hl : bs.length ≤ 1000000) {n : Nat} (hn : n < 18446744073709551616) :
    Calls Try.prog 32 #[.slice a bs.length c, .int .u64 n] w (fun e w' => ∃ a' c', e = .returned (.slice a' (bs ++ numL n).length c') ∧ OwnB w.heap.size w' a' c' (bs ++ numL n) ∧ Ext no w w') := by
  refine (wNum.ok _ _ _ _ (R := fun v w' => ∃ a' c', v = (.slice a' (bs ++ numL n).length c') ∧ OwnB w.heap.size w' a' c' (bs ++ numL n) ∧ Ext no w w') ?_).mono fun e w' ⟨v, he, a', c', hv, hw⟩ => ⟨a', c', by rw [he, hv], hw⟩
  unfold wNum.M
  refine (clone_spec h hl).mono fun e w5 ⟨a5, c5, he, ho5, hx5⟩ => ⟨a5, _, c5, he, ?_⟩
  refine ⟨fun k vs w1 => ∃ (m : Nat) (l : List UInt8) (a1 : Option Addr) (c1 : Nat), vs = [.int .u64 m, .slice a1 l.length c1] ∧ m < 128 ^ k ∧ m < 18446744073709551616 ∧ 0 < k ∧ k ≤ 10 ∧ l ++ numF k m = bs ++ numL n ∧ l.length + k ≤ bs.length + 10 ∧ OwnB w.heap.size w1 a1 c1 l ∧ Ext no w w1, 10,
    ⟨n, bs, a5, c5, rfl, by omega, hn, by decide, by decide, rfl, by omega, ho5, hx5⟩, ?_⟩
  rintro k w1 m0 a0 n0 c0 ⟨m, l, a1, c1, hvs, hm, hm64, hk0, hk10, hl2, hlen, ho, hx⟩
  simp only [List.cons.injEq, Value.int.injEq, Value.slice.injEq, true_and, and_true] at hvs
  obtain ⟨rfl, rfl, rfl, rfl⟩ := hvs
  obtain ⟨k, rfl⟩ : ∃ q, k = q + 1 := ⟨k - 1, by omega⟩
  simp only [numF] at hl2
  by_cases h1 : m < 128
  · rw [show decide ((m : Int) ≥ 128) = false by simp; omega, cond_false]
    rw [if_pos h1] at hl2
    refine thenW_in fun w15 h15 => ?_
    have e15 : Ext no w1 w15 := by subst h15; exact (Ext.refl _ _).alloc _
    have hv : IntKind.u8.wrap (m : Int) = ((UInt8.ofNat m).toNat : Int) := by rw [wu8 (by omega) (by omega), ofNat_lt (by omega)]
    have hb15 : Blk w15 w1.heap.size 5 (bytesV [UInt8.ofNat m]) := by subst h15; rw [hv]; exact Blk.new _ _ _
    obtain ⟨a', c', w17, hr, ho17, hx17⟩ := (ho.no e15).append (t := 25) (ty := 25) Try.underlying25 (Nat.le_trans hx.size e15.size) (xc := 1) (RowAt.of_blk hb15) (by simp; omega)
    refine ⟨a', _, c', w17, hr, a', c', by rw [hl2], by rw [← hl2]; exact ho17, (hx.trans e15).then hx17 fun b hb => .inr hb⟩
  · rw [show decide ((m : Int) ≥ 128) = true by simp; omega, cond_true]
    rw [if_neg h1] at hl2
    refine thenW_in fun w15 h15 => ?_
    have e15 : Ext no w1 w15 := by subst h15; exact (Ext.refl _ _).alloc _
    have hb15 : Blk w15 w1.heap.size 5 (bytesV [UInt8.ofNat (m % 128 + 128)]) := by subst h15; rw [or128]; exact Blk.new _ _ _
    obtain ⟨a', c', w17, hr, ho17, hx17⟩ := (ho.no e15).append (t := 25) (ty := 25) Try.underlying25 (Nat.le_trans hx.size e15.size) (xc := 1) (RowAt.of_blk hb15) (by simp; omega)
    have hdiv : Int.fdiv (m : Int) (2 ^ (min (Int.toNat 7) (IntKind.bits .u64))) = ((m / 128 : Nat) : Int) := by
      rw [show min (Int.toNat 7) (IntKind.bits .u64) = 7 from rfl, Int.fdiv_eq_ediv_of_nonneg _ (by decide)]; omega
    have hkk : 0 < k := Nat.pos_of_ne_zero fun e => by subst e; simp at hm; omega
    refine ⟨a', _, c', w17, hr, by decide, k, by omega, m / 128, l ++ [UInt8.ofNat (m % 128 + 128)], a', c', by rw [hdiv], by rw [Nat.pow_succ] at hm; omega, by omega, hkk, by omega, by rw [← hl2]; simp, by simp; omega, ho17, (hx.trans e15).then hx17 fun b hb => .inr hb⟩

/-! ### a reader -/
/-- what a reader has: what is left, what is wrong. -/
def Rd (w : World) (p : Nat) (bs : List UInt8) (k : Int) : Prop :=
  ∃ a c, Blk w p 103 [.slice a bs.length c, .int .i64 k] ∧ bs.length ≤ c ∧ RowAt w a (bytesV bs) ∧ (bytesV bs ≠ [] → ∀ ad, a = some ad → ad.block < p)
theorem Rd.ext {m : Nat → Prop} {p : Nat} {k : Int} (h : Rd w p bs k) (e : Ext m w w') (hm : ∀ b, b < w.heap.size → ¬ m b) : Rd w' p bs k := by
  obtain ⟨a, c, h1, h2, h3, h4⟩ := h
  exact ⟨a, c, h1.ext e (hm _ h1.lt), h2, h3.ext' e (fun h0 ad ha hb => hm _ (h3.lt h0 ha) hb), h4⟩
theorem Rd.no {p : Nat} {k : Int} (h : Rd w p bs k) (e : Ext no w w') : Rd w' p bs k := h.ext e fun _ _ h => h
theorem Rd.up {m : Nat → Prop} {p : Nat} {k : Int} (h : Rd w p bs k) (e : Ext m w w') (hm : ∀ b, m b → p < b) : Rd w' p bs k := by
  obtain ⟨a, c, h1, h2, h3, h4⟩ := h
  exact ⟨a, c, h1.ext e (fun h => by have := hm _ h; omega), h2, h3.ext' e (fun h0 ad ha hb => by have := hm _ hb; have := h4 h0 ad ha; omega), h4⟩
theorem Rd.lt {p : Nat} {k : Int} (h : Rd w p bs k) : p < w.heap.size := by obtain ⟨a, c, h1, _⟩ := h; exact h1.lt
theorem Read_spec (h : RowAt w a (bytesV bs)) (hc : bs.length ≤ c) :
    Calls Try.prog 36 #[.slice a bs.length c] w (fun e w' => ∃ p, e = .returned (.pointer (some (blk p))) ∧ Rd w' p bs 0 ∧ w.heap.size ≤ p ∧ Ext no w w') := by
  refine (wRead.ok _ _ _ (R := fun v w' => ∃ p, v = (.pointer (some (blk p))) ∧ Rd w' p bs 0 ∧ w.heap.size ≤ p ∧ Ext no w w') ?_).mono fun e w' ⟨v, he, p, hv, hw⟩ => ⟨p, by rw [he, hv], hw⟩
  unfold wRead.M
  refine thenW_in fun w2 h2 => ?_
  have e2 : Ext no w w2 := by subst h2; exact (Ext.refl _ _).alloc _
  have hb : Blk w2 w.heap.size 103 [.slice a bs.length c, .int .i64 0] := by subst h2; exact Blk.new _ _ _
  exact ⟨_, rfl, ⟨a, c, hb, hc, h.no e2, fun h0 ad ha => h.lt h0 ha⟩, Nat.le_refl _, e2⟩
variable {p : Nat} {k : Int}
theorem ok_spec (h : Rd w p bs k) : Calls Try.prog 67 #[.pointer (some (blk p))] w (GivesW (.bool (k == 0)) fun w' => w' = w) := by
  refine (wOk.ok _ (R := fun v w' => v = .bool (k == 0) ∧ w' = w) ?_).mono fun e w' ⟨v, he, hv, hw⟩ => ⟨by rw [he, hv], hw⟩
  unfold wOk.M
  obtain ⟨a, c, h1, _⟩ := h
  exact ⟨_, h1.cella (i := 1) rfl, rfl, rfl⟩
theorem fail_spec (h : Rd w p bs k) (j : Int) : Calls Try.prog 69 #[.pointer (some (blk p)), .int .i64 j] w (GivesW (.tuple #[]) fun w' => Rd w' p [] j ∧ Ext (fun b => b = p) w w') := by
  refine (wFail.ok _ _ (R := fun v w' => v = .tuple #[] ∧ Rd w' p [] j ∧ Ext (fun b => b = p) w w') ?_).mono fun e w' ⟨v, he, hv, hw⟩ => ⟨by rw [he, hv], hw⟩
  unfold wFail.M
  obtain ⟨a, c, h1, _⟩ := h
  refine ⟨h1.cana (i := 0) rfl, thenW_in fun w4 h4 => ?_⟩
  have hb4 := h1.seta 0 (.slice none 0 0)
  have e4 : Ext (fun b => b = p) w w4 := by subst h4; exact (Ext.refl (fun b => b = p) w).setCell (a := ((blk p).add 0).add 0) (.inl rfl) _
  rw [add_zero] at h4
  rw [← h4] at hb4
  refine ⟨hb4.cana (i := 1) rfl, thenW_in fun w6 h6 => ?_⟩
  rw [add_zero] at h6
  have hb6 := hb4.seta 1 (.int .i64 j)
  rw [← h6] at hb6
  have e6 : Ext (fun b => b = p) w4 w6 := by subst h6; exact (Ext.refl (fun b => b = p) w4).setCell (a := (blk p).add 1) (.inl (by rw [add_blk])) _
  exact ⟨rfl, ⟨none, 0, hb6, Nat.le_refl _, RowAt.nil _ _, fun h0 => absurd rfl h0⟩, e4.trans e6⟩
theorem width_spec (h : Rd w p bs k) (hl : bs.length < 1000000) : Calls Try.prog 70 #[.pointer (some (blk p))] w (GivesW (.int .i64 (widthF 0 bs)) fun w' => w' = w) := by
  refine (wWidth.ok _ (R := fun v w' => v = .int .i64 (widthF 0 bs) ∧ w' = w) ?_).mono fun e w' ⟨v, he, hv, hw⟩ => ⟨by rw [he, hv], hw⟩
  unfold wWidth.M
  obtain ⟨a, c, h1, h2, h3, h4⟩ := h
  refine ⟨a, bs.length, c, h1.cella (i := 0) rfl, ?_⟩
  refine ⟨fun j vs w1 => ∃ t : Nat, vs = [.int .i64 t] ∧ j + t = bs.length ∧ widthF t (bs.drop t) = widthF 0 bs ∧ w1 = w, bs.length, ⟨0, rfl, rfl, rfl, rfl⟩, ?_⟩
  rintro j w1 i ⟨t, hi, hk, hf, rfl⟩
  simp only [List.cons.injEq, Value.int.injEq, true_and, and_true] at hi
  subst hi
  cases j with
  | zero =>
    obtain rfl : t = bs.length := by omega
    rw [show decide ((bs.length : Int) < (bs.length : Int)) = false by simp, cond_false]
    rw [List.drop_length] at hf
    exact ⟨by rw [← hf]; rfl, rfl⟩
  | succ j =>
    have ht : t < bs.length := by omega
    rw [show decide ((t : Int) < (bs.length : Int)) = true by simp; omega, cond_true]
    obtain ⟨ad, rfl⟩ := h3.addr (by intro e; rw [bytesV, List.map_eq_nil_iff] at e; subst e; simp at ht)
    rw [List.drop_eq_getElem_cons ht] at hf
    simp only [widthF] at hf
    have hw1 : IntKind.i64.wrap ((t : Int) + 1) = ((t + 1 : Nat) : Int) := by rw [w64 (by omega) (by omega)]; rfl
    refine ⟨by omega, by omega, _, by rw [Int.toNat_natCast, Nat.mul_one]; exact h3.at_ (bytesV_get ht), ?_⟩
    have hc := u8_lt bs[t]
    rw [hw1]
    -- what is said where the byte is the last one
    have last : ∀ (q : Prop), ¬ (t = 9 ∧ bs[t].toNat ≠ 1) → bif decide ((bs[t].toNat : Int) < 128) then (bif (bs[t].toNat : Int) == 0 then (bif decide ((t : Int) > 0) then (Value.int .i64 0 = .int .i64 (widthF 0 bs) ∧ w1 = w1) else (Value.int .i64 ((t + 1 : Nat) : Int) = .int .i64 (widthF 0 bs) ∧ w1 = w1)) else (Value.int .i64 ((t + 1 : Nat) : Int) = .int .i64 (widthF 0 bs) ∧ w1 = w1)) else
        ∃ m, m < j + 1 ∧ ∃ t_1 : Nat, [Value.int .i64 ((t + 1 : Nat) : Int)] = [.int .i64 t_1] ∧ m + t_1 = bs.length ∧ widthF t_1 (bs.drop t_1) = widthF 0 bs ∧ w1 = w1 := fun _ hn => by
      rw [if_neg hn] at hf
      by_cases c1 : bs[t].toNat < 128
      · rw [if_pos c1] at hf
        rw [decide_eq_true (by omega : (bs[t].toNat : Int) < 128), cond_true]
        by_cases c2 : bs[t].toNat = 0
        · rw [beq_iff_eq.2 (by omega : (bs[t].toNat : Int) = 0), cond_true]
          by_cases c3 : 0 < t
          · rw [if_pos ⟨c2, c3⟩] at hf
            rw [decide_eq_true (by omega : (t : Int) > 0), cond_true]
            exact ⟨by rw [← hf]; rfl, rfl⟩
          · rw [if_neg (fun h => c3 h.2)] at hf
            rw [decide_eq_false (by omega : ¬ (t : Int) > 0), cond_false]
            exact ⟨by rw [← hf], rfl⟩
        · rw [if_neg (fun h => c2 h.1)] at hf
          rw [beq_eq_false_iff_ne.2 (by omega : (bs[t].toNat : Int) ≠ 0), cond_false]
          exact ⟨by rw [← hf], rfl⟩
      · rw [if_neg c1] at hf
        rw [decide_eq_false (by omega : ¬ (bs[t].toNat : Int) < 128), cond_false]
        exact ⟨j, by omega, t + 1, rfl, by omega, hf, rfl⟩
    by_cases c9 : t = 9
    · rw [beq_iff_eq.2 (by omega : (t : Int) = 9), cond_true]
      by_cases c8 : bs[t].toNat = 1
      · rw [show ((bs[t].toNat : Int) != 1) = false by simp; omega, cond_false]
        exact last True fun h => h.2 c8
      · rw [show ((bs[t].toNat : Int) != 1) = true by simp; omega, cond_true]
        rw [if_pos ⟨c9, c8⟩] at hf
        exact ⟨by rw [← hf]; rfl, rfl⟩
    · rw [beq_eq_false_iff_ne.2 (by omega : (t : Int) ≠ 9), cond_false]
      exact last True fun h => c9 h.1
end
end Go.Proofs.Ytomajjnoekfmoaa.W
