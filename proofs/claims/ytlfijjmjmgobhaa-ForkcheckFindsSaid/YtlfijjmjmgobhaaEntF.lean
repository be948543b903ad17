/- EntryForms: what the law's function answers. -/
import Derived.Test.YtlfijjmjmgobhaaEntE
import Derived.Test.YtlfijjmjmgobhaaEntO
set_option linter.unusedVariables false
set_option linter.unusedSimpArgs false
set_option maxRecDepth 20000
namespace Go.Proofs.Ytlfijjmjmgobhaa
open Go Go.Mx Go.Proofs
open W (OwnB GivesW numR countR doneR zig unzig intR)
def textK (e : Ent) : List UInt8 × Int := if entRight e = true then (textL e, 0) else ([], 1)
def bytesK (e : Ent) : List UInt8 × Int := if entRight e = true then (bytesL e, 0) else ([], 1)
theorem textK_le (e : Ent) : (textK e).1.length ≤ 1200 := by
  unfold textK
  split
  · rename_i h; have := textL_le e; have := ((entRight_iff _).1 h).2.2.2.2.2.2.2.2.2.1; show (textL e).length ≤ 1200; omega
  · simp
theorem bytesK_le (e : Ent) : (bytesK e).1.length ≤ 1200 := by
  unfold bytesK
  split
  · rename_i h; have := bytesL_le e; have := ((entRight_iff _).1 h).2.2.2.2.2.2.2.2.2.1; show (bytesL e).length ≤ 1200; omega
  · simp
def Tup (w : World) (k : List UInt8 × Int) (x : Ending) (w' : World) : Prop := ∃ a' c', x = .returned (.tuple #[.slice a' k.1.length c', .int .i64 k.2]) ∧ OwnB w.heap.size w' a' c' k.1 ∧ Ext no w w'
section
variable {w w' : World} {a : Option Addr} {c N p : Nat} {bs : List UInt8} {k : Int}
theorem TextK_spec {e : Ent} (hf : entRight e = true → e.fit) {ba : Option Addr} {bc : Nat} (hb : RowAt w ba (bytesV e.body)) : Calls Try.prog 47 #[entV e ba bc] w (Tup w (textK e)) :=
  (Text_spec hf hb).mono fun x w' ⟨X, h⟩ => by
    unfold textK
    rcases h with ⟨h, he⟩ | ⟨h, a', c', he, hO⟩
    · rw [if_neg (by simp [h])]; exact ⟨none, 0, he, OwnB.nil _ _, X⟩
    · rw [if_pos h]; exact ⟨a', c', he, hO, X⟩
theorem rTextK_spec {e : Ent} (hf : entRight e = true → e.fit) {ba : Option Addr} {bc : Nat} (hb : RowAt w ba (bytesV e.body)) : Calls Try.prog 50 #[entV e ba bc] w (Tup w (textK e)) :=
  (rText_spec hf hb).mono fun x w' ⟨X, h⟩ => by
    unfold textK
    rcases h with ⟨h, he⟩ | ⟨h, a', c', he, hO⟩
    · rw [if_neg (by simp [h])]; exact ⟨none, 0, he, OwnB.nil _ _, X⟩
    · rw [if_pos h]; exact ⟨a', c', he, hO, X⟩
theorem EBytesK_spec {e : Ent} (hf : entRight e = true → e.fit) {ba : Option Addr} {bc : Nat} (hb : RowAt w ba (bytesV e.body)) : Calls Try.prog 109 #[entV e ba bc] w (Tup w (bytesK e)) :=
  (EBytes_spec hf hb).mono fun x w' ⟨X, h⟩ => by
    unfold bytesK
    rcases h with ⟨h, he⟩ | ⟨h, a', c', he, hO⟩
    · rw [if_neg (by simp [h])]; exact ⟨none, 0, he, OwnB.nil _ _, X⟩
    · rw [if_pos h]; exact ⟨a', c', he, hO, X⟩
end
theorem keep3 {w w' : World} {m : Nat → Prop} {p q r : Nat} (h : Ext m w w') (hp : ¬ m p) (hq : ¬ m q) (hr : ¬ m r) : Keep [p, q, r] w w' := h.keep fun x hx _ => by
  simp at hx
  rcases hx with rfl | rfl | rfl
  · exact hp
  · exact hq
  · exact hr
end Go.Proofs.Ytlfijjmjmgobhaa
