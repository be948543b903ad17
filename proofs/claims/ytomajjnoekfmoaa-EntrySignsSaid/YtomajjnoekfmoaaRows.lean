/-
  No cell of these rows narrows 'for every input' (looked for: loops, veiled, ifaces, maps, wideKeys, modest, calm, conditions, laid).
  DERIVED. THE GIVEN ROWS OF THIS SEAT. 5 by the template 'for every input the law returns true; each argument reads behind the call as it read before'; 0 by the template 'total and deterministic' (their statements: YtomajjnoekfmoaaTotals.lean).
  GIVEN WITH THE SEED: the statements are not yours to turn. If you find one false, say at which input.
  Laid BY PROGRAM, IN A SANDBOX (cutbox-rows.mjs): the forced cells as the released guide's own fill.sh prints them over the translation ca7c295703d6e837… (all of the seat's roots in one cut). By AI agents, Wed Nov 11 2026. No macro, syntax, notation, axiom, sorry.
-/
import Derived.Test.YtomajjnoekfmoaaChecked
import GoSem.Claim
import GoSem.ClaimJoined
import GoSem.ClaimMapViews
import Derived.JoinedTies
import Derived.KernelRfl
namespace Go.Proofs.Ytomajjnoekfmoaa
/- THE CELL 'sum', in the pinned program and in every row, IS THE sha256 OF THE DUMP (.gsa) THAT YtomajjnoekfmoaaProg.lean LOADS. Nothing in Lean hashes anything: it is a label: what it is worth is what the hold of that sum in a sandbox is worth. -/
noncomputable def Try.pinned : Pinned := { name := "ytomajjnoekfmoaa", sum := "ca7c295703d6e837ebe3a39b65cf390f17df8cd8a60b13632cda6331e1bd96b8", checked := Try.checked }
namespace Rows
def none {H : Type} : Left H := { results := [], args := [] }

/-- 'cachettelaw06.EntryBack': WHATEVER THE INPUT: true; the input reads as it did. -/
def entryBackSpec : ChangeSpec := { name := "entryBack", fn := fun _ => fun
  | [d1, d2, d3] => { results := [.lit (.bool true)], args := [d1, d2, d3] }
  | _ => none }
def entryBackRow : OpenClaim := { program := "ytomajjnoekfmoaa", sum := "ca7c295703d6e837ebe3a39b65cf390f17df8cd8a60b13632cda6331e1bd96b8", func := "cachette/cachettelaw06.EntryBack", spec := "entryBack", unfollowed := true, recurses := true, plainKeys := false, apart := false }
def EntryBackSaid : Prop := entryBackRow.holds Try.pinned (OpenSpec.ofChange entryBackSpec)

/-- ITS FALSE NEIGHBOUR: 'it returns false'. Refute it at one input. -/
def entryBackWrong : ChangeSpec := { name := "entryBack", fn := fun _ => fun
  | [d1, d2, d3] => { results := [.lit (.bool false)], args := [d1, d2, d3] }
  | _ => none }
def EntryBackWrongFalsely : Prop := entryBackRow.holds Try.pinned (OpenSpec.ofChange entryBackWrong)

/-- 'cachettelaw06.EntryForms': WHATEVER THE INPUT: true; the input reads as it did. -/
def entryFormsSpec : ChangeSpec := { name := "entryForms", fn := fun _ => fun
  | [d1, d2, d3] => { results := [.lit (.bool true)], args := [d1, d2, d3] }
  | _ => none }
def entryFormsRow : OpenClaim := { program := "ytomajjnoekfmoaa", sum := "ca7c295703d6e837ebe3a39b65cf390f17df8cd8a60b13632cda6331e1bd96b8", func := "cachette/cachettelaw06.EntryForms", spec := "entryForms", unfollowed := true, recurses := true, plainKeys := false, apart := false }
def EntryFormsSaid : Prop := entryFormsRow.holds Try.pinned (OpenSpec.ofChange entryFormsSpec)

/-- ITS FALSE NEIGHBOUR: 'it returns false'. Refute it at one input. -/
def entryFormsWrong : ChangeSpec := { name := "entryForms", fn := fun _ => fun
  | [d1, d2, d3] => { results := [.lit (.bool false)], args := [d1, d2, d3] }
  | _ => none }
def EntryFormsWrongFalsely : Prop := entryFormsRow.holds Try.pinned (OpenSpec.ofChange entryFormsWrong)

/-- 'cachettelaw06.EntryBounds': WHATEVER THE INPUT: true; the input reads as it did. -/
def entryBoundsSpec : ChangeSpec := { name := "entryBounds", fn := fun _ => fun
  | [d1, d2, d3, d4, d5, d6] => { results := [.lit (.bool true)], args := [d1, d2, d3, d4, d5, d6] }
  | _ => none }
def entryBoundsRow : OpenClaim := { program := "ytomajjnoekfmoaa", sum := "ca7c295703d6e837ebe3a39b65cf390f17df8cd8a60b13632cda6331e1bd96b8", func := "cachette/cachettelaw06.EntryBounds", spec := "entryBounds", unfollowed := true, recurses := true, plainKeys := false, apart := false }
def EntryBoundsSaid : Prop := entryBoundsRow.holds Try.pinned (OpenSpec.ofChange entryBoundsSpec)

/-- ITS FALSE NEIGHBOUR: 'it returns false'. Refute it at one input. -/
def entryBoundsWrong : ChangeSpec := { name := "entryBounds", fn := fun _ => fun
  | [d1, d2, d3, d4, d5, d6] => { results := [.lit (.bool false)], args := [d1, d2, d3, d4, d5, d6] }
  | _ => none }
def EntryBoundsWrongFalsely : Prop := entryBoundsRow.holds Try.pinned (OpenSpec.ofChange entryBoundsWrong)

/-- 'cachettelaw06.EntrySigns': WHATEVER THE INPUT: true; the input reads as it did. -/
def entrySignsSpec : ChangeSpec := { name := "entrySigns", fn := fun _ => fun
  | [d1, d2, d3, d4] => { results := [.lit (.bool true)], args := [d1, d2, d3, d4] }
  | _ => none }
def entrySignsRow : OpenClaim := { program := "ytomajjnoekfmoaa", sum := "ca7c295703d6e837ebe3a39b65cf390f17df8cd8a60b13632cda6331e1bd96b8", func := "cachette/cachettelaw06.EntrySigns", spec := "entrySigns", unfollowed := true, recurses := true, plainKeys := false, apart := false }
def EntrySignsSaid : Prop := entrySignsRow.holds Try.pinned (OpenSpec.ofChange entrySignsSpec)

/-- ITS FALSE NEIGHBOUR: 'it returns false'. Refute it at one input. -/
def entrySignsWrong : ChangeSpec := { name := "entrySigns", fn := fun _ => fun
  | [d1, d2, d3, d4] => { results := [.lit (.bool false)], args := [d1, d2, d3, d4] }
  | _ => none }
def EntrySignsWrongFalsely : Prop := entrySignsRow.holds Try.pinned (OpenSpec.ofChange entrySignsWrong)

/-- 'cachettelaw06.EntryApart': WHATEVER THE INPUT: true; the input reads as it did. -/
def entryApartSpec : ChangeSpec := { name := "entryApart", fn := fun _ => fun
  | [d1, d2, d3] => { results := [.lit (.bool true)], args := [d1, d2, d3] }
  | _ => none }
def entryApartRow : OpenClaim := { program := "ytomajjnoekfmoaa", sum := "ca7c295703d6e837ebe3a39b65cf390f17df8cd8a60b13632cda6331e1bd96b8", func := "cachette/cachettelaw06.EntryApart", spec := "entryApart", unfollowed := true, recurses := true, plainKeys := false, apart := false }
def EntryApartSaid : Prop := entryApartRow.holds Try.pinned (OpenSpec.ofChange entryApartSpec)

/-- ITS FALSE NEIGHBOUR: 'it returns false'. Refute it at one input. -/
def entryApartWrong : ChangeSpec := { name := "entryApart", fn := fun _ => fun
  | [d1, d2, d3] => { results := [.lit (.bool false)], args := [d1, d2, d3] }
  | _ => none }
def EntryApartWrongFalsely : Prop := entryApartRow.holds Try.pinned (OpenSpec.ofChange entryApartWrong)

/- THE SECOND FORM. 'bulk': how many values and letters a reading holds, each counted each time it is reached (what is shared counts as often as it is met; a slice's spare places count too). A statement '..UptoSaid' is the law's where the arguments, and the package variables that the reading takes, are together of bulk at most 1048576: NARROWER than '..Said'. Prove '..Said' where nothing that the law and all that it calls make is longer than what came in: it says more and counts as full. Else prove '..UptoSaid'. A law counts once. -/
mutual
def uptoBulk {H : Type} : DataW H → Nat
  | .lit (.string bytes) => bytes.length + 1
  | .lit _ => 1
  | .nil => 1
  | .ptr d => uptoBulk d + 1
  | .slice elems spare => uptoBulkAll elems + uptoBulkAll spare + 1
  | .agg parts => uptoBulkAll parts + 1
  | .iface _ d => uptoBulk d + 1
  | .map entries => uptoBulkEntries entries + 1
  | .held _ => 1
def uptoBulkAll {H : Type} : List (DataW H) → Nat
  | [] => 0
  | d :: r => uptoBulk d + uptoBulkAll r
def uptoBulkEntries {H : Type} : List (Lit × DataW H) → Nat
  | [] => 0
  | x :: r => uptoBulkEntry x + uptoBulkEntries r
def uptoBulkEntry {H : Type} : Lit × DataW H → Nat
  | (.string bytes, d) => bytes.length + uptoBulk d + 1
  | (_, d) => uptoBulk d + 1
 end
def uptoSmall : (H : Type) → List (DataW H) → Bool := fun _ ds => decide (uptoBulkAll ds ≤ 1048576)
def OpenSpec.upto (s : _root_.Go.ChangeSpec) : _root_.Go.OpenSpec := { _root_.Go.OpenSpec.ofChange s with cond := some uptoSmall }

/-- 'cachettelaw06.EntryBack', WHERE WHAT IT READS IS OF BULK AT MOST 1048576: true; the input reads as it did. -/
def entryBackUptoRow : OpenClaim := { program := "ytomajjnoekfmoaa", sum := "ca7c295703d6e837ebe3a39b65cf390f17df8cd8a60b13632cda6331e1bd96b8", func := "cachette/cachettelaw06.EntryBack", spec := "entryBack", unfollowed := true, recurses := true, plainKeys := false, apart := false, narrowed := true }
def EntryBackUptoSaid : Prop := entryBackUptoRow.holds Try.pinned (OpenSpec.upto entryBackSpec)

/-- 'cachettelaw06.EntryForms', WHERE WHAT IT READS IS OF BULK AT MOST 1048576: true; the input reads as it did. -/
def entryFormsUptoRow : OpenClaim := { program := "ytomajjnoekfmoaa", sum := "ca7c295703d6e837ebe3a39b65cf390f17df8cd8a60b13632cda6331e1bd96b8", func := "cachette/cachettelaw06.EntryForms", spec := "entryForms", unfollowed := true, recurses := true, plainKeys := false, apart := false, narrowed := true }
def EntryFormsUptoSaid : Prop := entryFormsUptoRow.holds Try.pinned (OpenSpec.upto entryFormsSpec)

/-- 'cachettelaw06.EntryBounds', WHERE WHAT IT READS IS OF BULK AT MOST 1048576: true; the input reads as it did. -/
def entryBoundsUptoRow : OpenClaim := { program := "ytomajjnoekfmoaa", sum := "ca7c295703d6e837ebe3a39b65cf390f17df8cd8a60b13632cda6331e1bd96b8", func := "cachette/cachettelaw06.EntryBounds", spec := "entryBounds", unfollowed := true, recurses := true, plainKeys := false, apart := false, narrowed := true }
def EntryBoundsUptoSaid : Prop := entryBoundsUptoRow.holds Try.pinned (OpenSpec.upto entryBoundsSpec)

/-- 'cachettelaw06.EntrySigns', WHERE WHAT IT READS IS OF BULK AT MOST 1048576: true; the input reads as it did. -/
def entrySignsUptoRow : OpenClaim := { program := "ytomajjnoekfmoaa", sum := "ca7c295703d6e837ebe3a39b65cf390f17df8cd8a60b13632cda6331e1bd96b8", func := "cachette/cachettelaw06.EntrySigns", spec := "entrySigns", unfollowed := true, recurses := true, plainKeys := false, apart := false, narrowed := true }
def EntrySignsUptoSaid : Prop := entrySignsUptoRow.holds Try.pinned (OpenSpec.upto entrySignsSpec)

/-- 'cachettelaw06.EntryApart', WHERE WHAT IT READS IS OF BULK AT MOST 1048576: true; the input reads as it did. -/
def entryApartUptoRow : OpenClaim := { program := "ytomajjnoekfmoaa", sum := "ca7c295703d6e837ebe3a39b65cf390f17df8cd8a60b13632cda6331e1bd96b8", func := "cachette/cachettelaw06.EntryApart", spec := "entryApart", unfollowed := true, recurses := true, plainKeys := false, apart := false, narrowed := true }
def EntryApartUptoSaid : Prop := entryApartUptoRow.holds Try.pinned (OpenSpec.upto entryApartSpec)

end Rows
end Go.Proofs.Ytomajjnoekfmoaa
