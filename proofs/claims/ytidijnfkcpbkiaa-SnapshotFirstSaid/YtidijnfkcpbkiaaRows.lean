/-
  No cell of these rows narrows 'for every input' (looked for: loops, veiled, ifaces, maps, wideKeys, modest, calm, conditions, laid).
  DERIVED. THE GIVEN ROWS OF THIS SEAT. 2 by the template 'for every input the law returns true; each argument reads behind the call as it read before'; 0 by the template 'total and deterministic' (their statements: YtidijnfkcpbkiaaTotals.lean).
  GIVEN WITH THE SEED: the statements are not yours to turn. If you find one false, say at which input.
  Laid BY PROGRAM, IN A SANDBOX (cutbox-rows.mjs): the forced cells as the released guide's own fill.sh prints them over the translation 3605a6c980ae5133… (all of the seat's roots in one cut). By AI agents, Wed Nov 11 2026. No macro, syntax, notation, axiom, sorry.
-/
import Derived.Test.YtidijnfkcpbkiaaChecked
import GoSem.Claim
import GoSem.ClaimJoined
import GoSem.ClaimMapViews
import Derived.JoinedTies
import Derived.KernelRfl
namespace Go.Proofs.Ytidijnfkcpbkiaa
/- THE CELL 'sum', in the pinned program and in every row, IS THE sha256 OF THE DUMP (.gsa) THAT YtidijnfkcpbkiaaProg.lean LOADS. Nothing in Lean hashes anything: it is a label: what it is worth is what the hold of that sum in a sandbox is worth. -/
noncomputable def Try.pinned : Pinned := { name := "ytidijnfkcpbkiaa", sum := "3605a6c980ae5133fe9df4245a6f639b15de06653ab6b6f7bd505352efd47841", checked := Try.checked }
namespace Rows
def none {H : Type} : Left H := { results := [], args := [] }

/-- 'cachettelaw11.SnapshotPlays': WHATEVER THE INPUT: true; the input reads as it did. -/
def snapshotPlaysSpec : ChangeSpec := { name := "snapshotPlays", fn := fun _ => fun
  | [d1, d2] => { results := [.lit (.bool true)], args := [d1, d2] }
  | _ => none }
def snapshotPlaysRow : OpenClaim := { program := "ytidijnfkcpbkiaa", sum := "3605a6c980ae5133fe9df4245a6f639b15de06653ab6b6f7bd505352efd47841", func := "cachette/cachettelaw11.SnapshotPlays", spec := "snapshotPlays", unfollowed := true, recurses := true, apart := false }
def SnapshotPlaysSaid : Prop := snapshotPlaysRow.holds Try.pinned (OpenSpec.ofChange snapshotPlaysSpec)

/-- ITS FALSE NEIGHBOUR: 'it returns false'. Refute it at one input. -/
def snapshotPlaysWrong : ChangeSpec := { name := "snapshotPlays", fn := fun _ => fun
  | [d1, d2] => { results := [.lit (.bool false)], args := [d1, d2] }
  | _ => none }
def SnapshotPlaysWrongFalsely : Prop := snapshotPlaysRow.holds Try.pinned (OpenSpec.ofChange snapshotPlaysWrong)

/-- 'cachettelaw11.SnapshotFirst': WHATEVER THE INPUT: true; the input reads as it did. -/
def snapshotFirstSpec : ChangeSpec := { name := "snapshotFirst", fn := fun _ => fun
  | [d1, d2, d3, d4] => { results := [.lit (.bool true)], args := [d1, d2, d3, d4] }
  | _ => none }
def snapshotFirstRow : OpenClaim := { program := "ytidijnfkcpbkiaa", sum := "3605a6c980ae5133fe9df4245a6f639b15de06653ab6b6f7bd505352efd47841", func := "cachette/cachettelaw11.SnapshotFirst", spec := "snapshotFirst", unfollowed := true, recurses := true, apart := false }
def SnapshotFirstSaid : Prop := snapshotFirstRow.holds Try.pinned (OpenSpec.ofChange snapshotFirstSpec)

/-- ITS FALSE NEIGHBOUR: 'it returns false'. Refute it at one input. -/
def snapshotFirstWrong : ChangeSpec := { name := "snapshotFirst", fn := fun _ => fun
  | [d1, d2, d3, d4] => { results := [.lit (.bool false)], args := [d1, d2, d3, d4] }
  | _ => none }
def SnapshotFirstWrongFalsely : Prop := snapshotFirstRow.holds Try.pinned (OpenSpec.ofChange snapshotFirstWrong)

/- THE SECOND FORM. 'bulk': how many values and letters a reading holds, each counted each time it is reached (what is shared counts as often as it is met; a slice's spare places count too). A statement '..UptoSaid' is the law's where the arguments, and the package variables that the reading takes, are together of bulk at most 1048576: NARROWER than '..Said'. Prove '..Said' where nothing that the law and all that it calls make is longer than what came in: it says more and counts as full. Else prove '..UptoSaid'. A law counts once. -/
mutual
def uptoBulk {H : Type} : DataW H → Nat
  | .lit (.string bytes) => bytes.length + 1
  | .lit _ => 1
  | .nil => 1
  | .ptr d => uptoBulk d + 1
  | .slice elems spare => uptoBulkAll elems + uptoBulkAll spare + 1
  | .agg parts => uptoBulkAll parts + 1
  | .iface _ d => uptoBulk d + 1
  | .map entries => uptoBulkEntries entries + 1
  | .held _ => 1
def uptoBulkAll {H : Type} : List (DataW H) → Nat
  | [] => 0
  | d :: r => uptoBulk d + uptoBulkAll r
def uptoBulkEntries {H : Type} : List (Lit × DataW H) → Nat
  | [] => 0
  | x :: r => uptoBulkEntry x + uptoBulkEntries r
def uptoBulkEntry {H : Type} : Lit × DataW H → Nat
  | (.string bytes, d) => bytes.length + uptoBulk d + 1
  | (_, d) => uptoBulk d + 1
 end
def uptoSmall : (H : Type) → List (DataW H) → Bool := fun _ ds => decide (uptoBulkAll ds ≤ 1048576)
def OpenSpec.upto (s : _root_.Go.ChangeSpec) : _root_.Go.OpenSpec := { _root_.Go.OpenSpec.ofChange s with cond := some uptoSmall }

/-- 'cachettelaw11.SnapshotPlays', WHERE WHAT IT READS IS OF BULK AT MOST 1048576: true; the input reads as it did. -/
def snapshotPlaysUptoRow : OpenClaim := { program := "ytidijnfkcpbkiaa", sum := "3605a6c980ae5133fe9df4245a6f639b15de06653ab6b6f7bd505352efd47841", func := "cachette/cachettelaw11.SnapshotPlays", spec := "snapshotPlays", unfollowed := true, recurses := true, apart := false, narrowed := true }
def SnapshotPlaysUptoSaid : Prop := snapshotPlaysUptoRow.holds Try.pinned (OpenSpec.upto snapshotPlaysSpec)

/-- 'cachettelaw11.SnapshotFirst', WHERE WHAT IT READS IS OF BULK AT MOST 1048576: true; the input reads as it did. -/
def snapshotFirstUptoRow : OpenClaim := { program := "ytidijnfkcpbkiaa", sum := "3605a6c980ae5133fe9df4245a6f639b15de06653ab6b6f7bd505352efd47841", func := "cachette/cachettelaw11.SnapshotFirst", spec := "snapshotFirst", unfollowed := true, recurses := true, apart := false, narrowed := true }
def SnapshotFirstUptoSaid : Prop := snapshotFirstUptoRow.holds Try.pinned (OpenSpec.upto snapshotFirstSpec)

end Rows
end Go.Proofs.Ytidijnfkcpbkiaa
