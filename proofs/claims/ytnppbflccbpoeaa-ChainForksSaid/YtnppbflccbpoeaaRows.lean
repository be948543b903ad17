/-
  No cell of these rows narrows 'for every input' (looked for: loops, veiled, ifaces, maps, wideKeys, modest, calm, conditions, laid).
  DERIVED. THE GIVEN ROWS OF THIS SEAT. 6 by the template 'for every input the law returns true; each argument reads behind the call as it read before'; 0 by the template 'total and deterministic' (their statements: YtnppbflccbpoeaaTotals.lean).
  GIVEN WITH THE SEED: the statements are not yours to turn. If you find one false, say at which input.
  Laid BY PROGRAM, IN A SANDBOX (cutbox-rows.mjs): the forced cells as the released guide's own fill.sh prints them over the translation 77ae247a1f4a8990… (all of the seat's roots in one cut). By AI agents, Wed Nov 11 2026. No macro, syntax, notation, axiom, sorry.
-/
import Derived.Test.YtnppbflccbpoeaaChecked
import GoSem.Claim
import GoSem.ClaimJoined
import GoSem.ClaimMapViews
import Derived.JoinedTies
import Derived.KernelRfl
namespace Go.Proofs.Ytnppbflccbpoeaa
/- THE CELL 'sum', in the pinned program and in every row, IS THE sha256 OF THE DUMP (.gsa) THAT YtnppbflccbpoeaaProg.lean LOADS. Nothing in Lean hashes anything: it is a label: what it is worth is what the hold of that sum in a sandbox is worth. -/
noncomputable def Try.pinned : Pinned := { name := "ytnppbflccbpoeaa", sum := "77ae247a1f4a8990c54cc6e40ccff6972c8a0a4123cba72cfd67da6c78e1408a", checked := Try.checked }
namespace Rows
def none {H : Type} : Left H := { results := [], args := [] }

/-- 'cachettelaw07.ChainHeads': WHATEVER THE INPUT: true; the input reads as it did. -/
def chainHeadsSpec : ChangeSpec := { name := "chainHeads", fn := fun _ => fun
  | [d1, d2, d3] => { results := [.lit (.bool true)], args := [d1, d2, d3] }
  | _ => none }
def chainHeadsRow : OpenClaim := { program := "ytnppbflccbpoeaa", sum := "77ae247a1f4a8990c54cc6e40ccff6972c8a0a4123cba72cfd67da6c78e1408a", func := "cachette/cachettelaw07.ChainHeads", spec := "chainHeads", unfollowed := true, recurses := true, plainKeys := false, apart := false }
def ChainHeadsSaid : Prop := chainHeadsRow.holds Try.pinned (OpenSpec.ofChange chainHeadsSpec)

/-- ITS FALSE NEIGHBOUR: 'it returns false'. Refute it at one input. -/
def chainHeadsWrong : ChangeSpec := { name := "chainHeads", fn := fun _ => fun
  | [d1, d2, d3] => { results := [.lit (.bool false)], args := [d1, d2, d3] }
  | _ => none }
def ChainHeadsWrongFalsely : Prop := chainHeadsRow.holds Try.pinned (OpenSpec.ofChange chainHeadsWrong)

/-- 'cachettelaw07.ChainWhole': WHATEVER THE INPUT: true; the input reads as it did. -/
def chainWholeSpec : ChangeSpec := { name := "chainWhole", fn := fun _ => fun
  | [d1, d2, d3, d4] => { results := [.lit (.bool true)], args := [d1, d2, d3, d4] }
  | _ => none }
def chainWholeRow : OpenClaim := { program := "ytnppbflccbpoeaa", sum := "77ae247a1f4a8990c54cc6e40ccff6972c8a0a4123cba72cfd67da6c78e1408a", func := "cachette/cachettelaw07.ChainWhole", spec := "chainWhole", unfollowed := true, recurses := true, plainKeys := false, apart := false }
def ChainWholeSaid : Prop := chainWholeRow.holds Try.pinned (OpenSpec.ofChange chainWholeSpec)

/-- ITS FALSE NEIGHBOUR: 'it returns false'. Refute it at one input. -/
def chainWholeWrong : ChangeSpec := { name := "chainWhole", fn := fun _ => fun
  | [d1, d2, d3, d4] => { results := [.lit (.bool false)], args := [d1, d2, d3, d4] }
  | _ => none }
def ChainWholeWrongFalsely : Prop := chainWholeRow.holds Try.pinned (OpenSpec.ofChange chainWholeWrong)

/-- 'cachettelaw07.ChainForks': WHATEVER THE INPUT: true; the input reads as it did. -/
def chainForksSpec : ChangeSpec := { name := "chainForks", fn := fun _ => fun
  | [d1, d2, d3] => { results := [.lit (.bool true)], args := [d1, d2, d3] }
  | _ => none }
def chainForksRow : OpenClaim := { program := "ytnppbflccbpoeaa", sum := "77ae247a1f4a8990c54cc6e40ccff6972c8a0a4123cba72cfd67da6c78e1408a", func := "cachette/cachettelaw07.ChainForks", spec := "chainForks", unfollowed := true, recurses := true, plainKeys := false, apart := false }
def ChainForksSaid : Prop := chainForksRow.holds Try.pinned (OpenSpec.ofChange chainForksSpec)

/-- ITS FALSE NEIGHBOUR: 'it returns false'. Refute it at one input. -/
def chainForksWrong : ChangeSpec := { name := "chainForks", fn := fun _ => fun
  | [d1, d2, d3] => { results := [.lit (.bool false)], args := [d1, d2, d3] }
  | _ => none }
def ChainForksWrongFalsely : Prop := chainForksRow.holds Try.pinned (OpenSpec.ofChange chainForksWrong)

/-- 'cachettelaw07.ChainStays': WHATEVER THE INPUT: true; the input reads as it did. -/
def chainStaysSpec : ChangeSpec := { name := "chainStays", fn := fun _ => fun
  | [d1, d2, d3] => { results := [.lit (.bool true)], args := [d1, d2, d3] }
  | _ => none }
def chainStaysRow : OpenClaim := { program := "ytnppbflccbpoeaa", sum := "77ae247a1f4a8990c54cc6e40ccff6972c8a0a4123cba72cfd67da6c78e1408a", func := "cachette/cachettelaw07.ChainStays", spec := "chainStays", unfollowed := true, recurses := true, plainKeys := false, apart := false }
def ChainStaysSaid : Prop := chainStaysRow.holds Try.pinned (OpenSpec.ofChange chainStaysSpec)

/-- ITS FALSE NEIGHBOUR: 'it returns false'. Refute it at one input. -/
def chainStaysWrong : ChangeSpec := { name := "chainStays", fn := fun _ => fun
  | [d1, d2, d3] => { results := [.lit (.bool false)], args := [d1, d2, d3] }
  | _ => none }
def ChainStaysWrongFalsely : Prop := chainStaysRow.holds Try.pinned (OpenSpec.ofChange chainStaysWrong)

/-- 'cachettelaw07.ChainPlays': WHATEVER THE INPUT: true; the input reads as it did. -/
def chainPlaysSpec : ChangeSpec := { name := "chainPlays", fn := fun _ => fun
  | [d1, d2] => { results := [.lit (.bool true)], args := [d1, d2] }
  | _ => none }
def chainPlaysRow : OpenClaim := { program := "ytnppbflccbpoeaa", sum := "77ae247a1f4a8990c54cc6e40ccff6972c8a0a4123cba72cfd67da6c78e1408a", func := "cachette/cachettelaw07.ChainPlays", spec := "chainPlays", unfollowed := true, recurses := true, plainKeys := false, apart := false }
def ChainPlaysSaid : Prop := chainPlaysRow.holds Try.pinned (OpenSpec.ofChange chainPlaysSpec)

/-- ITS FALSE NEIGHBOUR: 'it returns false'. Refute it at one input. -/
def chainPlaysWrong : ChangeSpec := { name := "chainPlays", fn := fun _ => fun
  | [d1, d2] => { results := [.lit (.bool false)], args := [d1, d2] }
  | _ => none }
def ChainPlaysWrongFalsely : Prop := chainPlaysRow.holds Try.pinned (OpenSpec.ofChange chainPlaysWrong)

/-- 'cachettelaw07.ChainAts': WHATEVER THE INPUT: true; the input reads as it did. -/
def chainAtsSpec : ChangeSpec := { name := "chainAts", fn := fun _ => fun
  | [d1, d2] => { results := [.lit (.bool true)], args := [d1, d2] }
  | _ => none }
def chainAtsRow : OpenClaim := { program := "ytnppbflccbpoeaa", sum := "77ae247a1f4a8990c54cc6e40ccff6972c8a0a4123cba72cfd67da6c78e1408a", func := "cachette/cachettelaw07.ChainAts", spec := "chainAts", unfollowed := true, recurses := true, plainKeys := false, apart := false }
def ChainAtsSaid : Prop := chainAtsRow.holds Try.pinned (OpenSpec.ofChange chainAtsSpec)

/-- ITS FALSE NEIGHBOUR: 'it returns false'. Refute it at one input. -/
def chainAtsWrong : ChangeSpec := { name := "chainAts", fn := fun _ => fun
  | [d1, d2] => { results := [.lit (.bool false)], args := [d1, d2] }
  | _ => none }
def ChainAtsWrongFalsely : Prop := chainAtsRow.holds Try.pinned (OpenSpec.ofChange chainAtsWrong)

/- THE SECOND FORM. 'bulk': how many values and letters a reading holds, each counted each time it is reached (what is shared counts as often as it is met; a slice's spare places count too). A statement '..UptoSaid' is the law's where the arguments, and the package variables that the reading takes, are together of bulk at most 1048576: NARROWER than '..Said'. Prove '..Said' where nothing that the law and all that it calls make is longer than what came in: it says more and counts as full. Else prove '..UptoSaid'. A law counts once. -/
mutual
def uptoBulk {H : Type} : DataW H → Nat
  | .lit (.string bytes) => bytes.length + 1
  | .lit _ => 1
  | .nil => 1
  | .ptr d => uptoBulk d + 1
  | .slice elems spare => uptoBulkAll elems + uptoBulkAll spare + 1
  | .agg parts => uptoBulkAll parts + 1
  | .iface _ d => uptoBulk d + 1
  | .map entries => uptoBulkEntries entries + 1
  | .held _ => 1
def uptoBulkAll {H : Type} : List (DataW H) → Nat
  | [] => 0
  | d :: r => uptoBulk d + uptoBulkAll r
def uptoBulkEntries {H : Type} : List (Lit × DataW H) → Nat
  | [] => 0
  | x :: r => uptoBulkEntry x + uptoBulkEntries r
def uptoBulkEntry {H : Type} : Lit × DataW H → Nat
  | (.string bytes, d) => bytes.length + uptoBulk d + 1
  | (_, d) => uptoBulk d + 1
 end
def uptoSmall : (H : Type) → List (DataW H) → Bool := fun _ ds => decide (uptoBulkAll ds ≤ 1048576)
def OpenSpec.upto (s : _root_.Go.ChangeSpec) : _root_.Go.OpenSpec := { _root_.Go.OpenSpec.ofChange s with cond := some uptoSmall }

/-- 'cachettelaw07.ChainHeads', WHERE WHAT IT READS IS OF BULK AT MOST 1048576: true; the input reads as it did. -/
def chainHeadsUptoRow : OpenClaim := { program := "ytnppbflccbpoeaa", sum := "77ae247a1f4a8990c54cc6e40ccff6972c8a0a4123cba72cfd67da6c78e1408a", func := "cachette/cachettelaw07.ChainHeads", spec := "chainHeads", unfollowed := true, recurses := true, plainKeys := false, apart := false, narrowed := true }
def ChainHeadsUptoSaid : Prop := chainHeadsUptoRow.holds Try.pinned (OpenSpec.upto chainHeadsSpec)

/-- 'cachettelaw07.ChainWhole', WHERE WHAT IT READS IS OF BULK AT MOST 1048576: true; the input reads as it did. -/
def chainWholeUptoRow : OpenClaim := { program := "ytnppbflccbpoeaa", sum := "77ae247a1f4a8990c54cc6e40ccff6972c8a0a4123cba72cfd67da6c78e1408a", func := "cachette/cachettelaw07.ChainWhole", spec := "chainWhole", unfollowed := true, recurses := true, plainKeys := false, apart := false, narrowed := true }
def ChainWholeUptoSaid : Prop := chainWholeUptoRow.holds Try.pinned (OpenSpec.upto chainWholeSpec)

/-- 'cachettelaw07.ChainForks', WHERE WHAT IT READS IS OF BULK AT MOST 1048576: true; the input reads as it did. -/
def chainForksUptoRow : OpenClaim := { program := "ytnppbflccbpoeaa", sum := "77ae247a1f4a8990c54cc6e40ccff6972c8a0a4123cba72cfd67da6c78e1408a", func := "cachette/cachettelaw07.ChainForks", spec := "chainForks", unfollowed := true, recurses := true, plainKeys := false, apart := false, narrowed := true }
def ChainForksUptoSaid : Prop := chainForksUptoRow.holds Try.pinned (OpenSpec.upto chainForksSpec)

/-- 'cachettelaw07.ChainStays', WHERE WHAT IT READS IS OF BULK AT MOST 1048576: true; the input reads as it did. -/
def chainStaysUptoRow : OpenClaim := { program := "ytnppbflccbpoeaa", sum := "77ae247a1f4a8990c54cc6e40ccff6972c8a0a4123cba72cfd67da6c78e1408a", func := "cachette/cachettelaw07.ChainStays", spec := "chainStays", unfollowed := true, recurses := true, plainKeys := false, apart := false, narrowed := true }
def ChainStaysUptoSaid : Prop := chainStaysUptoRow.holds Try.pinned (OpenSpec.upto chainStaysSpec)

/-- 'cachettelaw07.ChainPlays', WHERE WHAT IT READS IS OF BULK AT MOST 1048576: true; the input reads as it did. -/
def chainPlaysUptoRow : OpenClaim := { program := "ytnppbflccbpoeaa", sum := "77ae247a1f4a8990c54cc6e40ccff6972c8a0a4123cba72cfd67da6c78e1408a", func := "cachette/cachettelaw07.ChainPlays", spec := "chainPlays", unfollowed := true, recurses := true, plainKeys := false, apart := false, narrowed := true }
def ChainPlaysUptoSaid : Prop := chainPlaysUptoRow.holds Try.pinned (OpenSpec.upto chainPlaysSpec)

/-- 'cachettelaw07.ChainAts', WHERE WHAT IT READS IS OF BULK AT MOST 1048576: true; the input reads as it did. -/
def chainAtsUptoRow : OpenClaim := { program := "ytnppbflccbpoeaa", sum := "77ae247a1f4a8990c54cc6e40ccff6972c8a0a4123cba72cfd67da6c78e1408a", func := "cachette/cachettelaw07.ChainAts", spec := "chainAts", unfollowed := true, recurses := true, plainKeys := false, apart := false, narrowed := true }
def ChainAtsUptoSaid : Prop := chainAtsUptoRow.holds Try.pinned (OpenSpec.upto chainAtsSpec)

end Rows
end Go.Proofs.Ytnppbflccbpoeaa
