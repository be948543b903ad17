/-
  No cell of these rows narrows 'for every input' (looked for: loops, veiled, ifaces, maps, wideKeys, modest, calm, conditions, laid).
  DERIVED. THE GIVEN ROWS OF THIS SEAT. 14 by the template 'for every input the law returns true; each argument reads behind the call as it read before'; 0 by the template 'total and deterministic' (their statements: YtbeakiidhndhhaaTotals.lean).
  GIVEN WITH THE SEED: the statements are not yours to turn. If you find one false, say at which input.
  Laid BY PROGRAM, IN A SANDBOX (cutbox-rows.mjs): the forced cells as the released guide's own fill.sh prints them over the translation 2db82676d6362eeb… (all of the seat's roots in one cut). By AI agents, Wed Nov 11 2026. No macro, syntax, notation, axiom, sorry.
-/
import Derived.Test.YtbeakiidhndhhaaChecked
import GoSem.Claim
import GoSem.ClaimJoined
import GoSem.ClaimMapViews
import Derived.JoinedTies
import Derived.KernelRfl
namespace Go.Proofs.Ytbeakiidhndhhaa
/- THE CELL 'sum', in the pinned program and in every row, IS THE sha256 OF THE DUMP (.gsa) THAT YtbeakiidhndhhaaProg.lean LOADS. Nothing in Lean hashes anything: it is a label: what it is worth is what the hold of that sum in a sandbox is worth. -/
noncomputable def Try.pinned : Pinned := { name := "ytbeakiidhndhhaa", sum := "2db82676d6362eeb347ccd45a95eafa0db0eb78d64774b9f640fc4ce9c5e646b", checked := Try.checked }
namespace Rows
def none {H : Type} : Left H := { results := [], args := [] }

/-- 'cachettelaw03.OracleHashes': WHATEVER THE INPUT: true; the input reads as it did. -/
def oracleHashesSpec : ChangeSpec := { name := "oracleHashes", fn := fun _ => fun
  | [d1, d2, d3] => { results := [.lit (.bool true)], args := [d1, d2, d3] }
  | _ => none }
def oracleHashesRow : OpenClaim := { program := "ytbeakiidhndhhaa", sum := "2db82676d6362eeb347ccd45a95eafa0db0eb78d64774b9f640fc4ce9c5e646b", func := "cachette/cachettelaw03.OracleHashes", spec := "oracleHashes", unfollowed := true, recurses := true, plainKeys := false, apart := false }
def OracleHashesSaid : Prop := oracleHashesRow.holds Try.pinned (OpenSpec.ofChange oracleHashesSpec)

/-- ITS FALSE NEIGHBOUR: 'it returns false'. Refute it at one input. -/
def oracleHashesWrong : ChangeSpec := { name := "oracleHashes", fn := fun _ => fun
  | [d1, d2, d3] => { results := [.lit (.bool false)], args := [d1, d2, d3] }
  | _ => none }
def OracleHashesWrongFalsely : Prop := oracleHashesRow.holds Try.pinned (OpenSpec.ofChange oracleHashesWrong)

/-- 'cachettelaw03.OracleSigns': WHATEVER THE INPUT: true; the input reads as it did. -/
def oracleSignsSpec : ChangeSpec := { name := "oracleSigns", fn := fun _ => fun
  | [d1, d2, d3, d4] => { results := [.lit (.bool true)], args := [d1, d2, d3, d4] }
  | _ => none }
def oracleSignsRow : OpenClaim := { program := "ytbeakiidhndhhaa", sum := "2db82676d6362eeb347ccd45a95eafa0db0eb78d64774b9f640fc4ce9c5e646b", func := "cachette/cachettelaw03.OracleSigns", spec := "oracleSigns", unfollowed := true, recurses := true, plainKeys := false, apart := false }
def OracleSignsSaid : Prop := oracleSignsRow.holds Try.pinned (OpenSpec.ofChange oracleSignsSpec)

/-- ITS FALSE NEIGHBOUR: 'it returns false'. Refute it at one input. -/
def oracleSignsWrong : ChangeSpec := { name := "oracleSigns", fn := fun _ => fun
  | [d1, d2, d3, d4] => { results := [.lit (.bool false)], args := [d1, d2, d3, d4] }
  | _ => none }
def OracleSignsWrongFalsely : Prop := oracleSignsRow.holds Try.pinned (OpenSpec.ofChange oracleSignsWrong)

/-- 'cachettelaw03.OracleBlind': WHATEVER THE INPUT: true; the input reads as it did. -/
def oracleBlindSpec : ChangeSpec := { name := "oracleBlind", fn := fun _ => fun
  | [d1, d2, d3] => { results := [.lit (.bool true)], args := [d1, d2, d3] }
  | _ => none }
def oracleBlindRow : OpenClaim := { program := "ytbeakiidhndhhaa", sum := "2db82676d6362eeb347ccd45a95eafa0db0eb78d64774b9f640fc4ce9c5e646b", func := "cachette/cachettelaw03.OracleBlind", spec := "oracleBlind", unfollowed := true, recurses := true, plainKeys := false, apart := false }
def OracleBlindSaid : Prop := oracleBlindRow.holds Try.pinned (OpenSpec.ofChange oracleBlindSpec)

/-- ITS FALSE NEIGHBOUR: 'it returns false'. Refute it at one input. -/
def oracleBlindWrong : ChangeSpec := { name := "oracleBlind", fn := fun _ => fun
  | [d1, d2, d3] => { results := [.lit (.bool false)], args := [d1, d2, d3] }
  | _ => none }
def OracleBlindWrongFalsely : Prop := oracleBlindRow.holds Try.pinned (OpenSpec.ofChange oracleBlindWrong)

/-- 'cachettelaw09.DiskSafe': WHATEVER THE INPUT: true; the input reads as it did. -/
def diskSafeSpec : ChangeSpec := { name := "diskSafe", fn := fun _ => fun
  | [d1, d2, d3] => { results := [.lit (.bool true)], args := [d1, d2, d3] }
  | _ => none }
def diskSafeRow : OpenClaim := { program := "ytbeakiidhndhhaa", sum := "2db82676d6362eeb347ccd45a95eafa0db0eb78d64774b9f640fc4ce9c5e646b", func := "cachette/cachettelaw09.DiskSafe", spec := "diskSafe", unfollowed := true, recurses := true, plainKeys := false, apart := false }
def DiskSafeSaid : Prop := diskSafeRow.holds Try.pinned (OpenSpec.ofChange diskSafeSpec)

/-- ITS FALSE NEIGHBOUR: 'it returns false'. Refute it at one input. -/
def diskSafeWrong : ChangeSpec := { name := "diskSafe", fn := fun _ => fun
  | [d1, d2, d3] => { results := [.lit (.bool false)], args := [d1, d2, d3] }
  | _ => none }
def DiskSafeWrongFalsely : Prop := diskSafeRow.holds Try.pinned (OpenSpec.ofChange diskSafeWrong)

/-- 'cachettelaw09.DiskCopies': WHATEVER THE INPUT: true; the input reads as it did. -/
def diskCopiesSpec : ChangeSpec := { name := "diskCopies", fn := fun _ => fun
  | [d1, d2] => { results := [.lit (.bool true)], args := [d1, d2] }
  | _ => none }
def diskCopiesRow : OpenClaim := { program := "ytbeakiidhndhhaa", sum := "2db82676d6362eeb347ccd45a95eafa0db0eb78d64774b9f640fc4ce9c5e646b", func := "cachette/cachettelaw09.DiskCopies", spec := "diskCopies", unfollowed := true, recurses := true, plainKeys := false, apart := false }
def DiskCopiesSaid : Prop := diskCopiesRow.holds Try.pinned (OpenSpec.ofChange diskCopiesSpec)

/-- ITS FALSE NEIGHBOUR: 'it returns false'. Refute it at one input. -/
def diskCopiesWrong : ChangeSpec := { name := "diskCopies", fn := fun _ => fun
  | [d1, d2] => { results := [.lit (.bool false)], args := [d1, d2] }
  | _ => none }
def DiskCopiesWrongFalsely : Prop := diskCopiesRow.holds Try.pinned (OpenSpec.ofChange diskCopiesWrong)

/-- 'cachettelaw05.VectorTurns': WHATEVER THE INPUT: true; the input reads as it did. -/
def vectorTurnsSpec : ChangeSpec := { name := "vectorTurns", fn := fun _ => fun
  | [d1, d2] => { results := [.lit (.bool true)], args := [d1, d2] }
  | _ => none }
def vectorTurnsRow : OpenClaim := { program := "ytbeakiidhndhhaa", sum := "2db82676d6362eeb347ccd45a95eafa0db0eb78d64774b9f640fc4ce9c5e646b", func := "cachette/cachettelaw05.VectorTurns", spec := "vectorTurns", unfollowed := true, recurses := true, plainKeys := false, apart := false }
def VectorTurnsSaid : Prop := vectorTurnsRow.holds Try.pinned (OpenSpec.ofChange vectorTurnsSpec)

/-- ITS FALSE NEIGHBOUR: 'it returns false'. Refute it at one input. -/
def vectorTurnsWrong : ChangeSpec := { name := "vectorTurns", fn := fun _ => fun
  | [d1, d2] => { results := [.lit (.bool false)], args := [d1, d2] }
  | _ => none }
def VectorTurnsWrongFalsely : Prop := vectorTurnsRow.holds Try.pinned (OpenSpec.ofChange vectorTurnsWrong)

/-- 'cachettelaw09.DiskPlays': WHATEVER THE INPUT: true; the input reads as it did. -/
def diskPlaysSpec : ChangeSpec := { name := "diskPlays", fn := fun _ => fun
  | [d1, d2] => { results := [.lit (.bool true)], args := [d1, d2] }
  | _ => none }
def diskPlaysRow : OpenClaim := { program := "ytbeakiidhndhhaa", sum := "2db82676d6362eeb347ccd45a95eafa0db0eb78d64774b9f640fc4ce9c5e646b", func := "cachette/cachettelaw09.DiskPlays", spec := "diskPlays", unfollowed := true, recurses := true, plainKeys := false, apart := false }
def DiskPlaysSaid : Prop := diskPlaysRow.holds Try.pinned (OpenSpec.ofChange diskPlaysSpec)

/-- ITS FALSE NEIGHBOUR: 'it returns false'. Refute it at one input. -/
def diskPlaysWrong : ChangeSpec := { name := "diskPlays", fn := fun _ => fun
  | [d1, d2] => { results := [.lit (.bool false)], args := [d1, d2] }
  | _ => none }
def DiskPlaysWrongFalsely : Prop := diskPlaysRow.holds Try.pinned (OpenSpec.ofChange diskPlaysWrong)

/-- 'cachettelaw09.DiskArms': WHATEVER THE INPUT: true; the input reads as it did. -/
def diskArmsSpec : ChangeSpec := { name := "diskArms", fn := fun _ => fun
  | [d1, d2] => { results := [.lit (.bool true)], args := [d1, d2] }
  | _ => none }
def diskArmsRow : OpenClaim := { program := "ytbeakiidhndhhaa", sum := "2db82676d6362eeb347ccd45a95eafa0db0eb78d64774b9f640fc4ce9c5e646b", func := "cachette/cachettelaw09.DiskArms", spec := "diskArms", unfollowed := true, recurses := true, plainKeys := false, apart := false }
def DiskArmsSaid : Prop := diskArmsRow.holds Try.pinned (OpenSpec.ofChange diskArmsSpec)

/-- ITS FALSE NEIGHBOUR: 'it returns false'. Refute it at one input. -/
def diskArmsWrong : ChangeSpec := { name := "diskArms", fn := fun _ => fun
  | [d1, d2] => { results := [.lit (.bool false)], args := [d1, d2] }
  | _ => none }
def DiskArmsWrongFalsely : Prop := diskArmsRow.holds Try.pinned (OpenSpec.ofChange diskArmsWrong)

/-- 'cachettelaw03.OracleSeals': WHATEVER THE INPUT: true; the input reads as it did. -/
def oracleSealsSpec : ChangeSpec := { name := "oracleSeals", fn := fun _ => fun
  | [d1, d2, d3, d4, d5, d6] => { results := [.lit (.bool true)], args := [d1, d2, d3, d4, d5, d6] }
  | _ => none }
def oracleSealsRow : OpenClaim := { program := "ytbeakiidhndhhaa", sum := "2db82676d6362eeb347ccd45a95eafa0db0eb78d64774b9f640fc4ce9c5e646b", func := "cachette/cachettelaw03.OracleSeals", spec := "oracleSeals", unfollowed := true, recurses := true, plainKeys := false, apart := false }
def OracleSealsSaid : Prop := oracleSealsRow.holds Try.pinned (OpenSpec.ofChange oracleSealsSpec)

/-- ITS FALSE NEIGHBOUR: 'it returns false'. Refute it at one input. -/
def oracleSealsWrong : ChangeSpec := { name := "oracleSeals", fn := fun _ => fun
  | [d1, d2, d3, d4, d5, d6] => { results := [.lit (.bool false)], args := [d1, d2, d3, d4, d5, d6] }
  | _ => none }
def OracleSealsWrongFalsely : Prop := oracleSealsRow.holds Try.pinned (OpenSpec.ofChange oracleSealsWrong)

/-- 'cachettelaw03.OracleWraps': WHATEVER THE INPUT: true; the input reads as it did. -/
def oracleWrapsSpec : ChangeSpec := { name := "oracleWraps", fn := fun _ => fun
  | [d1, d2] => { results := [.lit (.bool true)], args := [d1, d2] }
  | _ => none }
def oracleWrapsRow : OpenClaim := { program := "ytbeakiidhndhhaa", sum := "2db82676d6362eeb347ccd45a95eafa0db0eb78d64774b9f640fc4ce9c5e646b", func := "cachette/cachettelaw03.OracleWraps", spec := "oracleWraps", unfollowed := true, recurses := true, plainKeys := false, apart := false }
def OracleWrapsSaid : Prop := oracleWrapsRow.holds Try.pinned (OpenSpec.ofChange oracleWrapsSpec)

/-- ITS FALSE NEIGHBOUR: 'it returns false'. Refute it at one input. -/
def oracleWrapsWrong : ChangeSpec := { name := "oracleWraps", fn := fun _ => fun
  | [d1, d2] => { results := [.lit (.bool false)], args := [d1, d2] }
  | _ => none }
def OracleWrapsWrongFalsely : Prop := oracleWrapsRow.holds Try.pinned (OpenSpec.ofChange oracleWrapsWrong)

/-- 'cachettelaw03.OraclePlays': WHATEVER THE INPUT: true; the input reads as it did. -/
def oraclePlaysSpec : ChangeSpec := { name := "oraclePlays", fn := fun _ => fun
  | [d1, d2] => { results := [.lit (.bool true)], args := [d1, d2] }
  | _ => none }
def oraclePlaysRow : OpenClaim := { program := "ytbeakiidhndhhaa", sum := "2db82676d6362eeb347ccd45a95eafa0db0eb78d64774b9f640fc4ce9c5e646b", func := "cachette/cachettelaw03.OraclePlays", spec := "oraclePlays", unfollowed := true, recurses := true, plainKeys := false, apart := false }
def OraclePlaysSaid : Prop := oraclePlaysRow.holds Try.pinned (OpenSpec.ofChange oraclePlaysSpec)

/-- ITS FALSE NEIGHBOUR: 'it returns false'. Refute it at one input. -/
def oraclePlaysWrong : ChangeSpec := { name := "oraclePlays", fn := fun _ => fun
  | [d1, d2] => { results := [.lit (.bool false)], args := [d1, d2] }
  | _ => none }
def OraclePlaysWrongFalsely : Prop := oraclePlaysRow.holds Try.pinned (OpenSpec.ofChange oraclePlaysWrong)

/-- 'cachettelaw05.VectorBytes': WHATEVER THE INPUT: true; the input reads as it did. -/
def vectorBytesSpec : ChangeSpec := { name := "vectorBytes", fn := fun _ => fun
  | [d1, d2] => { results := [.lit (.bool true)], args := [d1, d2] }
  | _ => none }
def vectorBytesRow : OpenClaim := { program := "ytbeakiidhndhhaa", sum := "2db82676d6362eeb347ccd45a95eafa0db0eb78d64774b9f640fc4ce9c5e646b", func := "cachette/cachettelaw05.VectorBytes", spec := "vectorBytes", unfollowed := true, recurses := true, plainKeys := false, apart := false }
def VectorBytesSaid : Prop := vectorBytesRow.holds Try.pinned (OpenSpec.ofChange vectorBytesSpec)

/-- ITS FALSE NEIGHBOUR: 'it returns false'. Refute it at one input. -/
def vectorBytesWrong : ChangeSpec := { name := "vectorBytes", fn := fun _ => fun
  | [d1, d2] => { results := [.lit (.bool false)], args := [d1, d2] }
  | _ => none }
def VectorBytesWrongFalsely : Prop := vectorBytesRow.holds Try.pinned (OpenSpec.ofChange vectorBytesWrong)

/-- 'cachettelaw05.VectorBack': WHATEVER THE INPUT: true; the input reads as it did. -/
def vectorBackSpec : ChangeSpec := { name := "vectorBack", fn := fun _ => fun
  | [d1, d2] => { results := [.lit (.bool true)], args := [d1, d2] }
  | _ => none }
def vectorBackRow : OpenClaim := { program := "ytbeakiidhndhhaa", sum := "2db82676d6362eeb347ccd45a95eafa0db0eb78d64774b9f640fc4ce9c5e646b", func := "cachette/cachettelaw05.VectorBack", spec := "vectorBack", unfollowed := true, recurses := true, plainKeys := false, apart := false }
def VectorBackSaid : Prop := vectorBackRow.holds Try.pinned (OpenSpec.ofChange vectorBackSpec)

/-- ITS FALSE NEIGHBOUR: 'it returns false'. Refute it at one input. -/
def vectorBackWrong : ChangeSpec := { name := "vectorBack", fn := fun _ => fun
  | [d1, d2] => { results := [.lit (.bool false)], args := [d1, d2] }
  | _ => none }
def VectorBackWrongFalsely : Prop := vectorBackRow.holds Try.pinned (OpenSpec.ofChange vectorBackWrong)

/-- 'cachettelaw05.VectorHolds': WHATEVER THE INPUT: true; the input reads as it did. -/
def vectorHoldsSpec : ChangeSpec := { name := "vectorHolds", fn := fun _ => fun
  | [d1, d2, d3] => { results := [.lit (.bool true)], args := [d1, d2, d3] }
  | _ => none }
def vectorHoldsRow : OpenClaim := { program := "ytbeakiidhndhhaa", sum := "2db82676d6362eeb347ccd45a95eafa0db0eb78d64774b9f640fc4ce9c5e646b", func := "cachette/cachettelaw05.VectorHolds", spec := "vectorHolds", inPlace := ["slices.overlaps[cachette/api.Head]"], unfollowed := true, recurses := true, plainKeys := false, apart := false }
def VectorHoldsSaid : Prop := vectorHoldsRow.holds Try.pinned (OpenSpec.ofChange vectorHoldsSpec)

/-- ITS FALSE NEIGHBOUR: 'it returns false'. Refute it at one input. -/
def vectorHoldsWrong : ChangeSpec := { name := "vectorHolds", fn := fun _ => fun
  | [d1, d2, d3] => { results := [.lit (.bool false)], args := [d1, d2, d3] }
  | _ => none }
def VectorHoldsWrongFalsely : Prop := vectorHoldsRow.holds Try.pinned (OpenSpec.ofChange vectorHoldsWrong)

/- THE SECOND FORM. 'bulk': how many values and letters a reading holds, each counted each time it is reached (what is shared counts as often as it is met; a slice's spare places count too). A statement '..UptoSaid' is the law's where the arguments, and the package variables that the reading takes, are together of bulk at most 1048576: NARROWER than '..Said'. Prove '..Said' where nothing that the law and all that it calls make is longer than what came in: it says more and counts as full. Else prove '..UptoSaid'. A law counts once. -/
mutual
def uptoBulk {H : Type} : DataW H → Nat
  | .lit (.string bytes) => bytes.length + 1
  | .lit _ => 1
  | .nil => 1
  | .ptr d => uptoBulk d + 1
  | .slice elems spare => uptoBulkAll elems + uptoBulkAll spare + 1
  | .agg parts => uptoBulkAll parts + 1
  | .iface _ d => uptoBulk d + 1
  | .map entries => uptoBulkEntries entries + 1
  | .held _ => 1
def uptoBulkAll {H : Type} : List (DataW H) → Nat
  | [] => 0
  | d :: r => uptoBulk d + uptoBulkAll r
def uptoBulkEntries {H : Type} : List (Lit × DataW H) → Nat
  | [] => 0
  | x :: r => uptoBulkEntry x + uptoBulkEntries r
def uptoBulkEntry {H : Type} : Lit × DataW H → Nat
  | (.string bytes, d) => bytes.length + uptoBulk d + 1
  | (_, d) => uptoBulk d + 1
 end
def uptoSmall : (H : Type) → List (DataW H) → Bool := fun _ ds => decide (uptoBulkAll ds ≤ 1048576)
def OpenSpec.upto (s : _root_.Go.ChangeSpec) : _root_.Go.OpenSpec := { _root_.Go.OpenSpec.ofChange s with cond := some uptoSmall }

/-- 'cachettelaw03.OracleHashes', WHERE WHAT IT READS IS OF BULK AT MOST 1048576: true; the input reads as it did. -/
def oracleHashesUptoRow : OpenClaim := { program := "ytbeakiidhndhhaa", sum := "2db82676d6362eeb347ccd45a95eafa0db0eb78d64774b9f640fc4ce9c5e646b", func := "cachette/cachettelaw03.OracleHashes", spec := "oracleHashes", unfollowed := true, recurses := true, plainKeys := false, apart := false, narrowed := true }
def OracleHashesUptoSaid : Prop := oracleHashesUptoRow.holds Try.pinned (OpenSpec.upto oracleHashesSpec)

/-- 'cachettelaw03.OracleSigns', WHERE WHAT IT READS IS OF BULK AT MOST 1048576: true; the input reads as it did. -/
def oracleSignsUptoRow : OpenClaim := { program := "ytbeakiidhndhhaa", sum := "2db82676d6362eeb347ccd45a95eafa0db0eb78d64774b9f640fc4ce9c5e646b", func := "cachette/cachettelaw03.OracleSigns", spec := "oracleSigns", unfollowed := true, recurses := true, plainKeys := false, apart := false, narrowed := true }
def OracleSignsUptoSaid : Prop := oracleSignsUptoRow.holds Try.pinned (OpenSpec.upto oracleSignsSpec)

/-- 'cachettelaw03.OracleBlind', WHERE WHAT IT READS IS OF BULK AT MOST 1048576: true; the input reads as it did. -/
def oracleBlindUptoRow : OpenClaim := { program := "ytbeakiidhndhhaa", sum := "2db82676d6362eeb347ccd45a95eafa0db0eb78d64774b9f640fc4ce9c5e646b", func := "cachette/cachettelaw03.OracleBlind", spec := "oracleBlind", unfollowed := true, recurses := true, plainKeys := false, apart := false, narrowed := true }
def OracleBlindUptoSaid : Prop := oracleBlindUptoRow.holds Try.pinned (OpenSpec.upto oracleBlindSpec)

/-- 'cachettelaw09.DiskSafe', WHERE WHAT IT READS IS OF BULK AT MOST 1048576: true; the input reads as it did. -/
def diskSafeUptoRow : OpenClaim := { program := "ytbeakiidhndhhaa", sum := "2db82676d6362eeb347ccd45a95eafa0db0eb78d64774b9f640fc4ce9c5e646b", func := "cachette/cachettelaw09.DiskSafe", spec := "diskSafe", unfollowed := true, recurses := true, plainKeys := false, apart := false, narrowed := true }
def DiskSafeUptoSaid : Prop := diskSafeUptoRow.holds Try.pinned (OpenSpec.upto diskSafeSpec)

/-- 'cachettelaw09.DiskCopies', WHERE WHAT IT READS IS OF BULK AT MOST 1048576: true; the input reads as it did. -/
def diskCopiesUptoRow : OpenClaim := { program := "ytbeakiidhndhhaa", sum := "2db82676d6362eeb347ccd45a95eafa0db0eb78d64774b9f640fc4ce9c5e646b", func := "cachette/cachettelaw09.DiskCopies", spec := "diskCopies", unfollowed := true, recurses := true, plainKeys := false, apart := false, narrowed := true }
def DiskCopiesUptoSaid : Prop := diskCopiesUptoRow.holds Try.pinned (OpenSpec.upto diskCopiesSpec)

/-- 'cachettelaw05.VectorTurns', WHERE WHAT IT READS IS OF BULK AT MOST 1048576: true; the input reads as it did. -/
def vectorTurnsUptoRow : OpenClaim := { program := "ytbeakiidhndhhaa", sum := "2db82676d6362eeb347ccd45a95eafa0db0eb78d64774b9f640fc4ce9c5e646b", func := "cachette/cachettelaw05.VectorTurns", spec := "vectorTurns", unfollowed := true, recurses := true, plainKeys := false, apart := false, narrowed := true }
def VectorTurnsUptoSaid : Prop := vectorTurnsUptoRow.holds Try.pinned (OpenSpec.upto vectorTurnsSpec)

/-- 'cachettelaw09.DiskPlays', WHERE WHAT IT READS IS OF BULK AT MOST 1048576: true; the input reads as it did. -/
def diskPlaysUptoRow : OpenClaim := { program := "ytbeakiidhndhhaa", sum := "2db82676d6362eeb347ccd45a95eafa0db0eb78d64774b9f640fc4ce9c5e646b", func := "cachette/cachettelaw09.DiskPlays", spec := "diskPlays", unfollowed := true, recurses := true, plainKeys := false, apart := false, narrowed := true }
def DiskPlaysUptoSaid : Prop := diskPlaysUptoRow.holds Try.pinned (OpenSpec.upto diskPlaysSpec)

/-- 'cachettelaw09.DiskArms', WHERE WHAT IT READS IS OF BULK AT MOST 1048576: true; the input reads as it did. -/
def diskArmsUptoRow : OpenClaim := { program := "ytbeakiidhndhhaa", sum := "2db82676d6362eeb347ccd45a95eafa0db0eb78d64774b9f640fc4ce9c5e646b", func := "cachette/cachettelaw09.DiskArms", spec := "diskArms", unfollowed := true, recurses := true, plainKeys := false, apart := false, narrowed := true }
def DiskArmsUptoSaid : Prop := diskArmsUptoRow.holds Try.pinned (OpenSpec.upto diskArmsSpec)

/-- 'cachettelaw03.OracleSeals', WHERE WHAT IT READS IS OF BULK AT MOST 1048576: true; the input reads as it did. -/
def oracleSealsUptoRow : OpenClaim := { program := "ytbeakiidhndhhaa", sum := "2db82676d6362eeb347ccd45a95eafa0db0eb78d64774b9f640fc4ce9c5e646b", func := "cachette/cachettelaw03.OracleSeals", spec := "oracleSeals", unfollowed := true, recurses := true, plainKeys := false, apart := false, narrowed := true }
def OracleSealsUptoSaid : Prop := oracleSealsUptoRow.holds Try.pinned (OpenSpec.upto oracleSealsSpec)

/-- 'cachettelaw03.OracleWraps', WHERE WHAT IT READS IS OF BULK AT MOST 1048576: true; the input reads as it did. -/
def oracleWrapsUptoRow : OpenClaim := { program := "ytbeakiidhndhhaa", sum := "2db82676d6362eeb347ccd45a95eafa0db0eb78d64774b9f640fc4ce9c5e646b", func := "cachette/cachettelaw03.OracleWraps", spec := "oracleWraps", unfollowed := true, recurses := true, plainKeys := false, apart := false, narrowed := true }
def OracleWrapsUptoSaid : Prop := oracleWrapsUptoRow.holds Try.pinned (OpenSpec.upto oracleWrapsSpec)

/-- 'cachettelaw03.OraclePlays', WHERE WHAT IT READS IS OF BULK AT MOST 1048576: true; the input reads as it did. -/
def oraclePlaysUptoRow : OpenClaim := { program := "ytbeakiidhndhhaa", sum := "2db82676d6362eeb347ccd45a95eafa0db0eb78d64774b9f640fc4ce9c5e646b", func := "cachette/cachettelaw03.OraclePlays", spec := "oraclePlays", unfollowed := true, recurses := true, plainKeys := false, apart := false, narrowed := true }
def OraclePlaysUptoSaid : Prop := oraclePlaysUptoRow.holds Try.pinned (OpenSpec.upto oraclePlaysSpec)

/-- 'cachettelaw05.VectorBytes', WHERE WHAT IT READS IS OF BULK AT MOST 1048576: true; the input reads as it did. -/
def vectorBytesUptoRow : OpenClaim := { program := "ytbeakiidhndhhaa", sum := "2db82676d6362eeb347ccd45a95eafa0db0eb78d64774b9f640fc4ce9c5e646b", func := "cachette/cachettelaw05.VectorBytes", spec := "vectorBytes", unfollowed := true, recurses := true, plainKeys := false, apart := false, narrowed := true }
def VectorBytesUptoSaid : Prop := vectorBytesUptoRow.holds Try.pinned (OpenSpec.upto vectorBytesSpec)

/-- 'cachettelaw05.VectorBack', WHERE WHAT IT READS IS OF BULK AT MOST 1048576: true; the input reads as it did. -/
def vectorBackUptoRow : OpenClaim := { program := "ytbeakiidhndhhaa", sum := "2db82676d6362eeb347ccd45a95eafa0db0eb78d64774b9f640fc4ce9c5e646b", func := "cachette/cachettelaw05.VectorBack", spec := "vectorBack", unfollowed := true, recurses := true, plainKeys := false, apart := false, narrowed := true }
def VectorBackUptoSaid : Prop := vectorBackUptoRow.holds Try.pinned (OpenSpec.upto vectorBackSpec)

/-- 'cachettelaw05.VectorHolds', WHERE WHAT IT READS IS OF BULK AT MOST 1048576: true; the input reads as it did. -/
def vectorHoldsUptoRow : OpenClaim := { program := "ytbeakiidhndhhaa", sum := "2db82676d6362eeb347ccd45a95eafa0db0eb78d64774b9f640fc4ce9c5e646b", func := "cachette/cachettelaw05.VectorHolds", spec := "vectorHolds", inPlace := ["slices.overlaps[cachette/api.Head]"], unfollowed := true, recurses := true, plainKeys := false, apart := false, narrowed := true }
def VectorHoldsUptoSaid : Prop := vectorHoldsUptoRow.holds Try.pinned (OpenSpec.upto vectorHoldsSpec)

end Rows
end Go.Proofs.Ytbeakiidhndhhaa
