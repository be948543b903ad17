/-
  No cell of these rows narrows 'for every input' (looked for: loops, veiled, ifaces, maps, wideKeys, modest, calm, conditions, laid).
  DERIVED. THE GIVEN ROWS OF THIS SEAT. 3 by the template 'for every input the law returns true; each argument reads behind the call as it read before'; 0 by the template 'total and deterministic' (their statements: YtgeakpldocfccaaTotals.lean).
  GIVEN WITH THE SEED: the statements are not yours to turn. If you find one false, say at which input.
  Laid BY PROGRAM, IN A SANDBOX (cutbox-rows.mjs): the forced cells as the released guide's own fill.sh prints them over the translation 5ea9b5c5ffc74839… (all of the seat's roots in one cut). By AI agents, Wed Nov 11 2026. No macro, syntax, notation, axiom, sorry.
-/
import Derived.Test.YtgeakpldocfccaaChecked
import GoSem.Claim
import GoSem.ClaimJoined
import GoSem.ClaimMapViews
import Derived.JoinedTies
import Derived.KernelRfl
namespace Go.Proofs.Ytgeakpldocfccaa
/- THE CELL 'sum', in the pinned program and in every row, IS THE sha256 OF THE DUMP (.gsa) THAT YtgeakpldocfccaaProg.lean LOADS. Nothing in Lean hashes anything: it is a label: what it is worth is what the hold of that sum in a sandbox is worth. -/
noncomputable def Try.pinned : Pinned := { name := "ytgeakpldocfccaa", sum := "5ea9b5c5ffc748396c7c7f55069df413e6caa0363bca3b160db70a72a9e32b79", checked := Try.checked }
namespace Rows
def none {H : Type} : Left H := { results := [], args := [] }

/-- 'cachettelaw14.SealingBack': WHATEVER THE INPUT: true; the input reads as it did. -/
def sealingBackSpec : ChangeSpec := { name := "sealingBack", fn := fun _ => fun
  | [d1, d2, d3, d4] => { results := [.lit (.bool true)], args := [d1, d2, d3, d4] }
  | _ => none }
def sealingBackRow : OpenClaim := { program := "ytgeakpldocfccaa", sum := "5ea9b5c5ffc748396c7c7f55069df413e6caa0363bca3b160db70a72a9e32b79", func := "cachette/cachettelaw14.SealingBack", spec := "sealingBack", inPlace := ["slices.overlaps[cachette/members.Member]"], unfollowed := true, recurses := true, plainKeys := false, apart := false }
def SealingBackSaid : Prop := sealingBackRow.holds Try.pinned (OpenSpec.ofChange sealingBackSpec)

/-- ITS FALSE NEIGHBOUR: 'it returns false'. Refute it at one input. -/
def sealingBackWrong : ChangeSpec := { name := "sealingBack", fn := fun _ => fun
  | [d1, d2, d3, d4] => { results := [.lit (.bool false)], args := [d1, d2, d3, d4] }
  | _ => none }
def SealingBackWrongFalsely : Prop := sealingBackRow.holds Try.pinned (OpenSpec.ofChange sealingBackWrong)

/-- 'cachettelaw14.SealingBlind': WHATEVER THE INPUT: true; the input reads as it did. -/
def sealingBlindSpec : ChangeSpec := { name := "sealingBlind", fn := fun _ => fun
  | [d1, d2, d3, d4, d5] => { results := [.lit (.bool true)], args := [d1, d2, d3, d4, d5] }
  | _ => none }
def sealingBlindRow : OpenClaim := { program := "ytgeakpldocfccaa", sum := "5ea9b5c5ffc748396c7c7f55069df413e6caa0363bca3b160db70a72a9e32b79", func := "cachette/cachettelaw14.SealingBlind", spec := "sealingBlind", inPlace := ["slices.overlaps[cachette/members.Member]"], unfollowed := true, recurses := true, plainKeys := false, apart := false }
def SealingBlindSaid : Prop := sealingBlindRow.holds Try.pinned (OpenSpec.ofChange sealingBlindSpec)

/-- ITS FALSE NEIGHBOUR: 'it returns false'. Refute it at one input. -/
def sealingBlindWrong : ChangeSpec := { name := "sealingBlind", fn := fun _ => fun
  | [d1, d2, d3, d4, d5] => { results := [.lit (.bool false)], args := [d1, d2, d3, d4, d5] }
  | _ => none }
def SealingBlindWrongFalsely : Prop := sealingBlindRow.holds Try.pinned (OpenSpec.ofChange sealingBlindWrong)

/-- 'cachettelaw14.SealingNils': WHATEVER THE INPUT: true; the input reads as it did. -/
def sealingNilsSpec : ChangeSpec := { name := "sealingNils", fn := fun _ => fun
  | [d1, d2] => { results := [.lit (.bool true)], args := [d1, d2] }
  | _ => none }
def sealingNilsRow : OpenClaim := { program := "ytgeakpldocfccaa", sum := "5ea9b5c5ffc748396c7c7f55069df413e6caa0363bca3b160db70a72a9e32b79", func := "cachette/cachettelaw14.SealingNils", spec := "sealingNils", inPlace := ["slices.overlaps[cachette/members.Member]"], unfollowed := true, recurses := true, plainKeys := false, apart := false }
def SealingNilsSaid : Prop := sealingNilsRow.holds Try.pinned (OpenSpec.ofChange sealingNilsSpec)

/-- ITS FALSE NEIGHBOUR: 'it returns false'. Refute it at one input. -/
def sealingNilsWrong : ChangeSpec := { name := "sealingNils", fn := fun _ => fun
  | [d1, d2] => { results := [.lit (.bool false)], args := [d1, d2] }
  | _ => none }
def SealingNilsWrongFalsely : Prop := sealingNilsRow.holds Try.pinned (OpenSpec.ofChange sealingNilsWrong)

/- THE SECOND FORM. 'bulk': how many values and letters a reading holds, each counted each time it is reached (what is shared counts as often as it is met; a slice's spare places count too). A statement '..UptoSaid' is the law's where the arguments, and the package variables that the reading takes, are together of bulk at most 1048576: NARROWER than '..Said'. Prove '..Said' where nothing that the law and all that it calls make is longer than what came in: it says more and counts as full. Else prove '..UptoSaid'. A law counts once. -/
mutual
def uptoBulk {H : Type} : DataW H → Nat
  | .lit (.string bytes) => bytes.length + 1
  | .lit _ => 1
  | .nil => 1
  | .ptr d => uptoBulk d + 1
  | .slice elems spare => uptoBulkAll elems + uptoBulkAll spare + 1
  | .agg parts => uptoBulkAll parts + 1
  | .iface _ d => uptoBulk d + 1
  | .map entries => uptoBulkEntries entries + 1
  | .held _ => 1
def uptoBulkAll {H : Type} : List (DataW H) → Nat
  | [] => 0
  | d :: r => uptoBulk d + uptoBulkAll r
def uptoBulkEntries {H : Type} : List (Lit × DataW H) → Nat
  | [] => 0
  | x :: r => uptoBulkEntry x + uptoBulkEntries r
def uptoBulkEntry {H : Type} : Lit × DataW H → Nat
  | (.string bytes, d) => bytes.length + uptoBulk d + 1
  | (_, d) => uptoBulk d + 1
 end
def uptoSmall : (H : Type) → List (DataW H) → Bool := fun _ ds => decide (uptoBulkAll ds ≤ 1048576)
def OpenSpec.upto (s : _root_.Go.ChangeSpec) : _root_.Go.OpenSpec := { _root_.Go.OpenSpec.ofChange s with cond := some uptoSmall }

/-- 'cachettelaw14.SealingBack', WHERE WHAT IT READS IS OF BULK AT MOST 1048576: true; the input reads as it did. -/
def sealingBackUptoRow : OpenClaim := { program := "ytgeakpldocfccaa", sum := "5ea9b5c5ffc748396c7c7f55069df413e6caa0363bca3b160db70a72a9e32b79", func := "cachette/cachettelaw14.SealingBack", spec := "sealingBack", inPlace := ["slices.overlaps[cachette/members.Member]"], unfollowed := true, recurses := true, plainKeys := false, apart := false, narrowed := true }
def SealingBackUptoSaid : Prop := sealingBackUptoRow.holds Try.pinned (OpenSpec.upto sealingBackSpec)

/-- 'cachettelaw14.SealingBlind', WHERE WHAT IT READS IS OF BULK AT MOST 1048576: true; the input reads as it did. -/
def sealingBlindUptoRow : OpenClaim := { program := "ytgeakpldocfccaa", sum := "5ea9b5c5ffc748396c7c7f55069df413e6caa0363bca3b160db70a72a9e32b79", func := "cachette/cachettelaw14.SealingBlind", spec := "sealingBlind", inPlace := ["slices.overlaps[cachette/members.Member]"], unfollowed := true, recurses := true, plainKeys := false, apart := false, narrowed := true }
def SealingBlindUptoSaid : Prop := sealingBlindUptoRow.holds Try.pinned (OpenSpec.upto sealingBlindSpec)

/-- 'cachettelaw14.SealingNils', WHERE WHAT IT READS IS OF BULK AT MOST 1048576: true; the input reads as it did. -/
def sealingNilsUptoRow : OpenClaim := { program := "ytgeakpldocfccaa", sum := "5ea9b5c5ffc748396c7c7f55069df413e6caa0363bca3b160db70a72a9e32b79", func := "cachette/cachettelaw14.SealingNils", spec := "sealingNils", inPlace := ["slices.overlaps[cachette/members.Member]"], unfollowed := true, recurses := true, plainKeys := false, apart := false, narrowed := true }
def SealingNilsUptoSaid : Prop := sealingNilsUptoRow.holds Try.pinned (OpenSpec.upto sealingNilsSpec)

end Rows
end Go.Proofs.Ytgeakpldocfccaa
