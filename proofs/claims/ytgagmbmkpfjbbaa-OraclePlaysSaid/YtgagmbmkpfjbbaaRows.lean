/-
  No cell of these rows narrows 'for every input' (looked for: loops, veiled, ifaces, maps, wideKeys, modest, calm, conditions, laid).
  DERIVED. THE GIVEN ROWS OF THIS SEAT. 3 by the template 'for every input the law returns true; each argument reads behind the call as it read before'; 0 by the template 'total and deterministic' (their statements: YtgagmbmkpfjbbaaTotals.lean).
  GIVEN WITH THE SEED: the statements are not yours to turn. If you find one false, say at which input.
  Laid BY PROGRAM, IN A SANDBOX (cutbox-rows.mjs): the forced cells as the released guide's own fill.sh prints them over the translation c78618e22b5edf00… (all of the seat's roots in one cut). By AI agents, Wed Nov 11 2026. No macro, syntax, notation, axiom, sorry.
-/
import Derived.Test.YtgagmbmkpfjbbaaChecked
import GoSem.Claim
import GoSem.ClaimJoined
import GoSem.ClaimMapViews
import Derived.JoinedTies
import Derived.KernelRfl
namespace Go.Proofs.Ytgagmbmkpfjbbaa
/- THE CELL 'sum', in the pinned program and in every row, IS THE sha256 OF THE DUMP (.gsa) THAT YtgagmbmkpfjbbaaProg.lean LOADS. Nothing in Lean hashes anything: it is a label: what it is worth is what the hold of that sum in a sandbox is worth. -/
noncomputable def Try.pinned : Pinned := { name := "ytgagmbmkpfjbbaa", sum := "c78618e22b5edf00ec310c3d8d02ea1cc3319a06a2bd75f7512b3a790e20b4c3", checked := Try.checked }
namespace Rows
def none {H : Type} : Left H := { results := [], args := [] }

/-- 'cachettelaw03.OracleHashes': WHATEVER THE INPUT: true; the input reads as it did. -/
def oracleHashesSpec : ChangeSpec := { name := "oracleHashes", fn := fun _ => fun
  | [d1, d2, d3] => { results := [.lit (.bool true)], args := [d1, d2, d3] }
  | _ => none }
def oracleHashesRow : OpenClaim := { program := "ytgagmbmkpfjbbaa", sum := "c78618e22b5edf00ec310c3d8d02ea1cc3319a06a2bd75f7512b3a790e20b4c3", func := "cachette/cachettelaw03.OracleHashes", spec := "oracleHashes", unfollowed := true, recurses := true, plainKeys := false, apart := false }
def OracleHashesSaid : Prop := oracleHashesRow.holds Try.pinned (OpenSpec.ofChange oracleHashesSpec)

/-- ITS FALSE NEIGHBOUR: 'it returns false'. Refute it at one input. -/
def oracleHashesWrong : ChangeSpec := { name := "oracleHashes", fn := fun _ => fun
  | [d1, d2, d3] => { results := [.lit (.bool false)], args := [d1, d2, d3] }
  | _ => none }
def OracleHashesWrongFalsely : Prop := oracleHashesRow.holds Try.pinned (OpenSpec.ofChange oracleHashesWrong)

/-- 'cachettelaw03.OracleSigns': WHATEVER THE INPUT: true; the input reads as it did. -/
def oracleSignsSpec : ChangeSpec := { name := "oracleSigns", fn := fun _ => fun
  | [d1, d2, d3, d4] => { results := [.lit (.bool true)], args := [d1, d2, d3, d4] }
  | _ => none }
def oracleSignsRow : OpenClaim := { program := "ytgagmbmkpfjbbaa", sum := "c78618e22b5edf00ec310c3d8d02ea1cc3319a06a2bd75f7512b3a790e20b4c3", func := "cachette/cachettelaw03.OracleSigns", spec := "oracleSigns", unfollowed := true, recurses := true, plainKeys := false, apart := false }
def OracleSignsSaid : Prop := oracleSignsRow.holds Try.pinned (OpenSpec.ofChange oracleSignsSpec)

/-- ITS FALSE NEIGHBOUR: 'it returns false'. Refute it at one input. -/
def oracleSignsWrong : ChangeSpec := { name := "oracleSigns", fn := fun _ => fun
  | [d1, d2, d3, d4] => { results := [.lit (.bool false)], args := [d1, d2, d3, d4] }
  | _ => none }
def OracleSignsWrongFalsely : Prop := oracleSignsRow.holds Try.pinned (OpenSpec.ofChange oracleSignsWrong)

/-- 'cachettelaw03.OraclePlays': WHATEVER THE INPUT: true; the input reads as it did. -/
def oraclePlaysSpec : ChangeSpec := { name := "oraclePlays", fn := fun _ => fun
  | [d1, d2] => { results := [.lit (.bool true)], args := [d1, d2] }
  | _ => none }
def oraclePlaysRow : OpenClaim := { program := "ytgagmbmkpfjbbaa", sum := "c78618e22b5edf00ec310c3d8d02ea1cc3319a06a2bd75f7512b3a790e20b4c3", func := "cachette/cachettelaw03.OraclePlays", spec := "oraclePlays", unfollowed := true, recurses := true, plainKeys := false, apart := false }
def OraclePlaysSaid : Prop := oraclePlaysRow.holds Try.pinned (OpenSpec.ofChange oraclePlaysSpec)

/-- ITS FALSE NEIGHBOUR: 'it returns false'. Refute it at one input. -/
def oraclePlaysWrong : ChangeSpec := { name := "oraclePlays", fn := fun _ => fun
  | [d1, d2] => { results := [.lit (.bool false)], args := [d1, d2] }
  | _ => none }
def OraclePlaysWrongFalsely : Prop := oraclePlaysRow.holds Try.pinned (OpenSpec.ofChange oraclePlaysWrong)

/- THE SECOND FORM. 'bulk': how many values and letters a reading holds, each counted each time it is reached (what is shared counts as often as it is met; a slice's spare places count too). A statement '..UptoSaid' is the law's where the arguments, and the package variables that the reading takes, are together of bulk at most 1048576: NARROWER than '..Said'. Prove '..Said' where nothing that the law and all that it calls make is longer than what came in: it says more and counts as full. Else prove '..UptoSaid'. A law counts once. -/
mutual
def uptoBulk {H : Type} : DataW H → Nat
  | .lit (.string bytes) => bytes.length + 1
  | .lit _ => 1
  | .nil => 1
  | .ptr d => uptoBulk d + 1
  | .slice elems spare => uptoBulkAll elems + uptoBulkAll spare + 1
  | .agg parts => uptoBulkAll parts + 1
  | .iface _ d => uptoBulk d + 1
  | .map entries => uptoBulkEntries entries + 1
  | .held _ => 1
def uptoBulkAll {H : Type} : List (DataW H) → Nat
  | [] => 0
  | d :: r => uptoBulk d + uptoBulkAll r
def uptoBulkEntries {H : Type} : List (Lit × DataW H) → Nat
  | [] => 0
  | x :: r => uptoBulkEntry x + uptoBulkEntries r
def uptoBulkEntry {H : Type} : Lit × DataW H → Nat
  | (.string bytes, d) => bytes.length + uptoBulk d + 1
  | (_, d) => uptoBulk d + 1
 end
def uptoSmall : (H : Type) → List (DataW H) → Bool := fun _ ds => decide (uptoBulkAll ds ≤ 1048576)
def OpenSpec.upto (s : _root_.Go.ChangeSpec) : _root_.Go.OpenSpec := { _root_.Go.OpenSpec.ofChange s with cond := some uptoSmall }

/-- 'cachettelaw03.OracleHashes', WHERE WHAT IT READS IS OF BULK AT MOST 1048576: true; the input reads as it did. -/
def oracleHashesUptoRow : OpenClaim := { program := "ytgagmbmkpfjbbaa", sum := "c78618e22b5edf00ec310c3d8d02ea1cc3319a06a2bd75f7512b3a790e20b4c3", func := "cachette/cachettelaw03.OracleHashes", spec := "oracleHashes", unfollowed := true, recurses := true, plainKeys := false, apart := false, narrowed := true }
def OracleHashesUptoSaid : Prop := oracleHashesUptoRow.holds Try.pinned (OpenSpec.upto oracleHashesSpec)

/-- 'cachettelaw03.OracleSigns', WHERE WHAT IT READS IS OF BULK AT MOST 1048576: true; the input reads as it did. -/
def oracleSignsUptoRow : OpenClaim := { program := "ytgagmbmkpfjbbaa", sum := "c78618e22b5edf00ec310c3d8d02ea1cc3319a06a2bd75f7512b3a790e20b4c3", func := "cachette/cachettelaw03.OracleSigns", spec := "oracleSigns", unfollowed := true, recurses := true, plainKeys := false, apart := false, narrowed := true }
def OracleSignsUptoSaid : Prop := oracleSignsUptoRow.holds Try.pinned (OpenSpec.upto oracleSignsSpec)

/-- 'cachettelaw03.OraclePlays', WHERE WHAT IT READS IS OF BULK AT MOST 1048576: true; the input reads as it did. -/
def oraclePlaysUptoRow : OpenClaim := { program := "ytgagmbmkpfjbbaa", sum := "c78618e22b5edf00ec310c3d8d02ea1cc3319a06a2bd75f7512b3a790e20b4c3", func := "cachette/cachettelaw03.OraclePlays", spec := "oraclePlays", unfollowed := true, recurses := true, plainKeys := false, apart := false, narrowed := true }
def OraclePlaysUptoSaid : Prop := oraclePlaysUptoRow.holds Try.pinned (OpenSpec.upto oraclePlaysSpec)

end Rows
end Go.Proofs.Ytgagmbmkpfjbbaa
