/- Entries that are the same; EntryBack. -/
import Derived.Test.YtlfijjmjmgobhaaEntB
set_option linter.unusedVariables false
set_option linter.unusedSimpArgs false
set_option maxRecDepth 20000
namespace Go.Proofs.Ytlfijjmjmgobhaa
open Go Go.Mx Go.Proofs
open W (OwnB GivesW numR countR doneR zig unzig intR)
/-- bytes of a literal. -/
theorem litB {w w1 : World} {t e : TypeId} (hs : Try.prog.underlying t = some (.slice e)) (he : Try.prog.underlying e = some (.int .u8)) (bs : List UInt8) {q : Nat} (X : Ext no w w1) (hb : Blk w1 q e (bytesV bs)) (hq : w.heap.size ≤ q) :
    ∃ w2, (convert t t (.slice (some (blk q)) bs.length bs.length)).run Try.prog w1 = .ok (.slice (some (blk q)) bs.length bs.length) w2 ∧ RowAt w2 (some (blk q)) (bytesV bs) ∧ Ext no w w2 :=
  ⟨_, conv_mark hs he hb, (RowAt.of_blk hb).freeze _ _, X.freeze (.inr hq) _⟩
section
variable {w w' : World} {a : Option Addr} {c N p : Nat} {bs : List UInt8} {k : Int}
theorem Equal_spec {b : Option Addr} {d : Nat} {x y : List UInt8} (ha : RowAt w a (bytesV x)) (hb : RowAt w b (bytesV y)) :
    Calls Try.prog 86 #[.slice a x.length c, .slice b y.length d] w (Ret (.bool (decide (x = y))) fun w' => w' = w) := by
  refine bytes_Equal.run _ _ _ _ _ _ ?_
  unfold bytes_Equal.N
  refine ⟨_, conv_str Try.underlying26 Try.underlying5 Try.underlying9 ha, _, conv_str Try.underlying26 Try.underlying5 Try.underlying9 hb, ?_, rfl⟩
  have key := bytes_beq x y
  have e : ∀ s : List UInt8, (ByteArray.mk s.toArray).toList = s := fun s => by
    simp
  congr 1
  rw [e, e, Bool.eq_iff_iff]
  simp
def sameE (e f : Ent) : Bool := decide (e = f)
theorem ESame_spec {e f : Ent} {b : Option Addr} {d : Nat} (ha : RowAt w a (bytesV e.body)) (hb : RowAt w b (bytesV f.body)) :
    Calls Try.prog 59 #[entV e a c, entV f b d] w (Ret (.bool (decide (e = f))) fun w' => Ext no w w') := by
  refine entry_Same.run _ _ _ _ _ _ _ _ _ _ _ _ _ _ _ _ _ _ _ _ ?_
  unfold entry_Same.N
  intro w19 p20 p21 X hp
  refine (Equal_spec (ha.no X) (hb.no X)).mono fun x w24 ⟨he, hw⟩ => ⟨_, he, by subst hw; exact Keep.refl _ _, ?_⟩
  subst hw
  obtain ⟨e1, e2, e3, e4, e5, e6, e7, e8⟩ := e
  obtain ⟨f1, f2, f3, f4, f5, f6, f7, f8⟩ := f
  simp only [Ent.mk.injEq]
  refine ⟨fun h => ?_, fun h => ?_⟩
  · have h := of_decide_eq_true h
    subst h
    refine ⟨fun c1 => ⟨fun c2 => ⟨fun c3 => ⟨fun c4 => ⟨fun c5 => ?_, fun c5 => ?_⟩, fun c4 => ?_⟩, fun c3 => ?_⟩, fun c2 => ?_⟩, fun c1 => ?_⟩ <;> refine ⟨?_, X⟩
    · congr 1; rw [Bool.eq_iff_iff, beq_iff_eq, decide_eq_true_eq]; exact ⟨fun h => ⟨c1, c2, c3, c4.1, c4.2, c5, rfl, h⟩, fun h => h.2.2.2.2.2.2.2⟩
    · rw [decide_eq_false fun h => c5 h.2.2.2.2.2.1]
    · rw [decide_eq_false fun h => c4 ⟨h.2.2.2.1, h.2.2.2.2.1⟩]
    · rw [decide_eq_false fun h => c3 h.2.2.1]
    · rw [decide_eq_false fun h => c2 h.2.1]
    · rw [decide_eq_false fun h => c1 h.1]
  · have h := of_decide_eq_false h
    exact ⟨by rw [decide_eq_false fun q => h q.2.2.2.2.2.2.1], X⟩
end
end Go.Proofs.Ytlfijjmjmgobhaa
