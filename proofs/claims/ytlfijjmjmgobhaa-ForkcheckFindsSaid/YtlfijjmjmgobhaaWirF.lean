/- Wire: so many bytes of a reader; the reference's whole numbers, and bytes with their length. -/
import Derived.Test.YtlfijjmjmgobhaaWirE
set_option linter.unusedVariables false
set_option linter.unusedSimpArgs false
set_option maxRecDepth 20000
namespace Go.Proofs.Ytlfijjmjmgobhaa
open Go Go.Mx Go.Proofs
open W (OwnB GivesW numR countR doneR zig unzig intR)
/-- cachetteref01.Int -/
def cachetteref01_Int.M (n1 : Int) (R : Value → World → Prop) (w : World) : Prop :=
  bif decide (n1 ≥ 0) then (
  Calls Try.prog 64 #[.int .u64 (IntKind.u64.wrap ((IntKind.u64.wrap n1) * 2))] w fun ee3 ww4 => ∃ (num2a : Option Addr) (num2n : Nat) (num2c : Nat), ee3 = .returned (.slice num2a num2n num2c) ∧
  R (.slice num2a num2n num2c) ww4) else (
  Calls Try.prog 64 #[.int .u64 (IntKind.u64.wrap ((IntKind.u64.wrap ((IntKind.u64.wrap (IntKind.i64.wrap (0 - (IntKind.i64.wrap (n1 + 1))))) * 2)) + 1))] w fun ee6 ww7 => ∃ (num5a : Option Addr) (num5n : Nat) (num5c : Nat), ee6 = .returned (.slice num5a num5n num5c) ∧
  R (.slice num5a num5n num5c) ww7)

theorem cachetteref01_Int.eq (n1 : Int) (R : Value → World → Prop) (w : World) : mfunc Try.prog [] 82 [.int .i64 n1] R w = cachetteref01_Int.M n1 R w := by kernel_rfl
theorem cachetteref01_Int.ok (n1 : Int) {R : Value → World → Prop} {w : World} (h : cachetteref01_Int.M n1 R w) : Calls Try.prog 82 #[.int .i64 n1] w fun e w' => ∃ v, e = .returned v ∧ R v w' :=
  mfunc_ok follows (H := []) (args := [.int .i64 n1]) (by rw [cachetteref01_Int.eq]; exact h)

def cachetteref01_Int.N (n1 : Int) (R : Value → World → Prop) (w : World) : Prop :=
  (n1 ≥ 0 →
    Calls Try.prog 64 #[.int .u64 (IntKind.u64.wrap ((IntKind.u64.wrap n1) * 2))] w fun ee4 ww5 => ∃ (num3a : Option Addr) (num3n : Nat) (num3c : Nat), ee4 = .returned (.slice num3a num3n num3c) ∧
    R (.slice num3a num3n num3c) ww5) ∧
  (n1 < 0 →
    (-9223372036854775808 : Int) ≤ (n1 + 1) ∧ (n1 + 1) < 9223372036854775808 ∧
    (-9223372036854775808 : Int) ≤ (0 - (n1 + 1)) ∧ (0 - (n1 + 1)) < 9223372036854775808 ∧
    Calls Try.prog 64 #[.int .u64 (IntKind.u64.wrap ((IntKind.u64.wrap ((IntKind.u64.wrap (0 - (n1 + 1))) * 2)) + 1))] w fun ee7 ww8 => ∃ (num6a : Option Addr) (num6n : Nat) (num6c : Nat), ee7 = .returned (.slice num6a num6n num6c) ∧
    R (.slice num6a num6n num6c) ww8)

theorem cachetteref01_Int.up (n1 : Int) {R : Value → World → Prop} {w : World} (h : cachetteref01_Int.N n1 R w) : cachetteref01_Int.M n1 R w := by
  unfold cachetteref01_Int.M
  unfold cachetteref01_Int.N at h
  refine bif_of (fun c2 => ?_) (fun c2 => ?_)
  · have h := h.1 (of_decide_eq_true c2)
    refine h.mono fun ee4 ww5 h => ?_
    obtain ⟨num3a, num3n, num3c, he, h⟩ := h
    refine ⟨num3a, num3n, num3c, he, ?_⟩
    exact h
  · have h := h.2 (Int.not_le.1 (of_decide_eq_false c2))
    obtain ⟨hw1, hw2, h⟩ := h
    try rw [w64 hw1 hw2]
    obtain ⟨hw1, hw2, h⟩ := h
    try rw [w64 hw1 hw2]
    refine h.mono fun ee7 ww8 h => ?_
    obtain ⟨num6a, num6n, num6c, he, h⟩ := h
    refine ⟨num6a, num6n, num6c, he, ?_⟩
    exact h

theorem cachetteref01_Int.go (n1 : Int) {R : Value → World → Prop} {w : World} (h : cachetteref01_Int.N n1 R w) : Calls Try.prog 82 #[.int .i64 n1] w fun e w' => ∃ v, e = .returned v ∧ R v w' := cachetteref01_Int.ok n1 (cachetteref01_Int.up n1 h)
theorem cachetteref01_Int.run (n1 : Int) {V : Value} {Q : World → Prop} {w : World} (h : cachetteref01_Int.N n1 (fun v w' => v = V ∧ Q w') w) : Calls Try.prog 82 #[.int .i64 n1] w (Ret V Q) := (cachetteref01_Int.go n1 h).mono fun e w' ⟨v, he, hv, hq⟩ => ⟨by rw [he, hv], hq⟩

/-- cachetteref01.Bytes -/
def cachetteref01_Bytes.M (x1a : Option Addr) (x1n : Nat) (x1c : Nat) (R : Value → World → Prop) (w : World) : Prop :=
  Calls Try.prog 64 #[.int .u64 (IntKind.u64.wrap (x1n : Int))] w fun ee3 ww4 => ∃ (num2a : Option Addr) (num2n : Nat) (num2c : Nat), ee3 = .returned (.slice num2a num2n num2c) ∧
  ∃ (a5a : Option Addr) (a5n : Nat) (a5c : Nat) (ww6 : World), (Builtin.append_ #[26, 26] 26 #[.slice num2a num2n num2c, .slice x1a x1n x1c]).run Try.prog ww4 = .ok (.slice a5a a5n a5c) ww6 ∧
  R (.slice a5a a5n a5c) ww6

theorem cachetteref01_Bytes.eq (x1a : Option Addr) (x1n : Nat) (x1c : Nat) (R : Value → World → Prop) (w : World) : mfunc Try.prog [] 83 [.slice x1a x1n x1c] R w = cachetteref01_Bytes.M x1a x1n x1c R w := by kernel_rfl
theorem cachetteref01_Bytes.ok (x1a : Option Addr) (x1n : Nat) (x1c : Nat) {R : Value → World → Prop} {w : World} (h : cachetteref01_Bytes.M x1a x1n x1c R w) : Calls Try.prog 83 #[.slice x1a x1n x1c] w fun e w' => ∃ v, e = .returned v ∧ R v w' :=
  mfunc_ok follows (H := []) (args := [.slice x1a x1n x1c]) (by rw [cachetteref01_Bytes.eq]; exact h)

def cachetteref01_Bytes.N (x1a : Option Addr) (x1n : Nat) (x1c : Nat) (R : Value → World → Prop) (w : World) : Prop :=
  Calls Try.prog 64 #[.int .u64 (IntKind.u64.wrap (x1n : Int))] w fun ee3 ww4 => ∃ (num2a : Option Addr) (num2n : Nat) (num2c : Nat), ee3 = .returned (.slice num2a num2n num2c) ∧
  ∃ (a5a : Option Addr) (a5n : Nat) (a5c : Nat) (ww6 : World), (Builtin.append_ #[26, 26] 26 #[.slice num2a num2n num2c, .slice x1a x1n x1c]).run Try.prog ww4 = .ok (.slice a5a a5n a5c) ww6 ∧
  R (.slice a5a a5n a5c) ww6

theorem cachetteref01_Bytes.up (x1a : Option Addr) (x1n : Nat) (x1c : Nat) {R : Value → World → Prop} {w : World} (h : cachetteref01_Bytes.N x1a x1n x1c R w) : cachetteref01_Bytes.M x1a x1n x1c R w := by
  unfold cachetteref01_Bytes.M
  unfold cachetteref01_Bytes.N at h
  refine h.mono fun ee3 ww4 h => ?_
  obtain ⟨num2a, num2n, num2c, he, h⟩ := h
  refine ⟨num2a, num2n, num2c, he, ?_⟩
  obtain ⟨a5a, a5n, a5c, ww6, hr, h⟩ := h
  refine ⟨a5a, a5n, a5c, ww6, hr, ?_⟩
  exact h

theorem cachetteref01_Bytes.go (x1a : Option Addr) (x1n : Nat) (x1c : Nat) {R : Value → World → Prop} {w : World} (h : cachetteref01_Bytes.N x1a x1n x1c R w) : Calls Try.prog 83 #[.slice x1a x1n x1c] w fun e w' => ∃ v, e = .returned v ∧ R v w' := cachetteref01_Bytes.ok x1a x1n x1c (cachetteref01_Bytes.up x1a x1n x1c h)
theorem cachetteref01_Bytes.run (x1a : Option Addr) (x1n : Nat) (x1c : Nat) {V : Value} {Q : World → Prop} {w : World} (h : cachetteref01_Bytes.N x1a x1n x1c (fun v w' => v = V ∧ Q w') w) : Calls Try.prog 83 #[.slice x1a x1n x1c] w (Ret V Q) := (cachetteref01_Bytes.go x1a x1n x1c h).mono fun e w' ⟨v, he, hv, hq⟩ => ⟨by rw [he, hv], hq⟩

abbrev RS := List UInt8 × Int
/-- so many bytes. -/
def takeR (n : Nat) (s : RS) : List UInt8 × RS := if s.2 = 0 then (if s.1.length < n then ([], ([], 4)) else (s.1.take n, (s.1.drop n, 0))) else ([], s)
def bytesR (m : Int) (s : RS) : List UInt8 × RS := takeR (countR m s).1 (countR m s).2
theorem takeR_len (n : Nat) (s : RS) : (takeR n s).2.1.length ≤ s.1.length ∧ (takeR n s).1.length ≤ s.1.length := by
  unfold takeR
  split
  · split
    · simp
    · simp; omega
  · simp
theorem bytesR_len (m : Int) (s : RS) : (bytesR m s).2.1.length ≤ s.1.length ∧ (bytesR m s).1.length ≤ s.1.length := by
  have h1 := W.countR_len m s
  have h2 := takeR_len (countR m s).1 (countR m s).2
  unfold bytesR
  omega
theorem bytesR_le {m : Int} (hm : 0 ≤ m) (s : RS) : ((bytesR m s).1.length : Int) ≤ m := by
  have h := W.count_le m s hm
  unfold bytesR takeR
  split
  · split
    · simpa using hm
    · simp only [List.length_take]; omega
  · simpa using hm
section
variable {w w' : World} {a : Option Addr} {c N p : Nat} {bs : List UInt8} {k : Int}
/-! ### the reference's -/
theorem rInt_spec {n : Int} (h0 : -9223372036854775808 ≤ n) (h1 : n < 9223372036854775808) :
    Calls Try.prog 82 #[.int .i64 n] w (fun e w' => ∃ a' c', e = .returned (.slice a' (numL (zig n)).length c') ∧ OwnB w.heap.size w' a' c' (numL (zig n)) ∧ Ext no w w') := by
  refine (cachetteref01_Int.go _ (R := fun v w' => ∃ a' c', v = (.slice a' (numL (zig n)).length c') ∧ OwnB w.heap.size w' a' c' (numL (zig n)) ∧ Ext no w w') ?_).mono fun e w' ⟨v, he, a, c, hv, hw⟩ => ⟨a, c, by rw [he, hv], hw⟩
  unfold cachetteref01_Int.N
  have hz := W.zig_lt h0 h1
  refine ⟨fun hn => ?_, fun hn => ?_⟩
  · rw [wu64 (n := n) (by omega) (by omega), wu64 (n := n * 2) (by omega) (by omega)]
    have e : n * 2 = ((zig n : Nat) : Int) := by unfold zig; rw [if_pos (by omega)]; omega
    rw [e]
    exact (W.rNum_spec (zig n) w hz).mono fun e w5 ⟨a', c', he, hO, hx⟩ => ⟨a', _, c', he, a', c', rfl, hO, hx⟩
  · refine ⟨by omega, by omega, by omega, by omega, ?_⟩
    rw [wu64 (n := 0 - (n + 1)) (by omega) (by omega), wu64 (n := (0 - (n + 1)) * 2) (by omega) (by omega), wu64 (by omega) (by omega)]
    have e : (0 - (n + 1)) * 2 + 1 = ((zig n : Nat) : Int) := by unfold zig; rw [if_neg (by omega)]; omega
    rw [e]
    exact (W.rNum_spec (zig n) w hz).mono fun e w5 ⟨a', c', he, hO, hx⟩ => ⟨a', _, c', he, a', c', rfl, hO, hx⟩
theorem rBytes_spec {xs : List UInt8} {xa : Option Addr} {xc : Nat} (hx : RowAt w xa (bytesV xs)) (hl : xs.length ≤ 1000000) :
    Calls Try.prog 83 #[.slice xa xs.length xc] w (fun e w' => ∃ a' c', e = .returned (.slice a' (numL xs.length ++ xs).length c') ∧ OwnB w.heap.size w' a' c' (numL xs.length ++ xs) ∧ Ext no w w') := by
  refine (cachetteref01_Bytes.go _ _ _ (R := fun v w' => ∃ a' c', v = (.slice a' (numL xs.length ++ xs).length c') ∧ OwnB w.heap.size w' a' c' (numL xs.length ++ xs) ∧ Ext no w w') ?_).mono fun e w' ⟨v, he, a, c, hv, hw⟩ => ⟨a, c, by rw [he, hv], hw⟩
  unfold cachetteref01_Bytes.N
  rw [wu64 (n := (xs.length : Int)) (by omega) (by omega)]
  refine (W.rNum_spec xs.length w (by omega)).mono fun e w4 ⟨a4, c4, he, hO, hx4⟩ => ⟨a4, _, c4, he, ?_⟩
  have hnl : (numL xs.length).length ≤ 10 := numF_le 10 _
  obtain ⟨a', c', w7, hr, hO7, hx7⟩ := hO.append (t := 26) (ty := 26) Try.underlying26 hx4.size (xc := xc) (hx.no hx4) (by omega)
  exact ⟨a', _, c', w7, hr, a', c', rfl, hO7, hx4.then hx7 fun b hb => .inr hb⟩
end
end Go.Proofs.Ytlfijjmjmgobhaa
