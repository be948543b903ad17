/-
  No cell of these rows narrows 'for every input' (looked for: loops, veiled, ifaces, maps, wideKeys, modest, calm, conditions, laid).
  DERIVED. THE GIVEN ROWS OF THIS SEAT. 6 by the template 'for every input the law returns true; each argument reads behind the call as it read before'; 0 by the template 'total and deterministic' (their statements: YtmhfoieeldiecaaTotals.lean).
  GIVEN WITH THE SEED: the statements are not yours to turn. If you find one false, say at which input.
  Laid BY PROGRAM, IN A SANDBOX (cutbox-rows.mjs): the forced cells as the released guide's own fill.sh prints them over the translation f41ca4f61ff32bd4… (all of the seat's roots in one cut). By AI agents, Wed Nov 11 2026. No macro, syntax, notation, axiom, sorry.
-/
import Derived.Test.YtmhfoieeldiecaaChecked
import GoSem.Claim
import GoSem.ClaimJoined
import GoSem.ClaimMapViews
import Derived.JoinedTies
import Derived.KernelRfl
namespace Go.Proofs.Ytmhfoieeldiecaa
/- THE CELL 'sum', in the pinned program and in every row, IS THE sha256 OF THE DUMP (.gsa) THAT YtmhfoieeldiecaaProg.lean LOADS. Nothing in Lean hashes anything: it is a label: what it is worth is what the hold of that sum in a sandbox is worth. -/
noncomputable def Try.pinned : Pinned := { name := "ytmhfoieeldiecaa", sum := "f41ca4f61ff32bd4037861fd44966ccf4b91dfbdf9eead0f415ec2dc4a39389a", checked := Try.checked }
namespace Rows
def none {H : Type} : Left H := { results := [], args := [] }

/-- 'cachettelaw12.MembersGone': WHATEVER THE INPUT: true; the input reads as it did. -/
def membersGoneSpec : ChangeSpec := { name := "membersGone", fn := fun _ => fun
  | [d1, d2, d3, d4, d5, d6] => { results := [.lit (.bool true)], args := [d1, d2, d3, d4, d5, d6] }
  | _ => none }
def membersGoneRow : OpenClaim := { program := "ytmhfoieeldiecaa", sum := "f41ca4f61ff32bd4037861fd44966ccf4b91dfbdf9eead0f415ec2dc4a39389a", func := "cachette/cachettelaw12.MembersGone", spec := "membersGone", inPlace := ["slices.overlaps[cachette/members.Member]"], unfollowed := true, recurses := true, apart := false }
def MembersGoneSaid : Prop := membersGoneRow.holds Try.pinned (OpenSpec.ofChange membersGoneSpec)

/-- ITS FALSE NEIGHBOUR: 'it returns false'. Refute it at one input. -/
def membersGoneWrong : ChangeSpec := { name := "membersGone", fn := fun _ => fun
  | [d1, d2, d3, d4, d5, d6] => { results := [.lit (.bool false)], args := [d1, d2, d3, d4, d5, d6] }
  | _ => none }
def MembersGoneWrongFalsely : Prop := membersGoneRow.holds Try.pinned (OpenSpec.ofChange membersGoneWrong)

/-- 'cachettelaw12.MembersKeeps': WHATEVER THE INPUT: true; the input reads as it did. -/
def membersKeepsSpec : ChangeSpec := { name := "membersKeeps", fn := fun _ => fun
  | [d1, d2] => { results := [.lit (.bool true)], args := [d1, d2] }
  | _ => none }
def membersKeepsRow : OpenClaim := { program := "ytmhfoieeldiecaa", sum := "f41ca4f61ff32bd4037861fd44966ccf4b91dfbdf9eead0f415ec2dc4a39389a", func := "cachette/cachettelaw12.MembersKeeps", spec := "membersKeeps", inPlace := ["slices.overlaps[cachette/members.Member]"], unfollowed := true, recurses := true, apart := false }
def MembersKeepsSaid : Prop := membersKeepsRow.holds Try.pinned (OpenSpec.ofChange membersKeepsSpec)

/-- ITS FALSE NEIGHBOUR: 'it returns false'. Refute it at one input. -/
def membersKeepsWrong : ChangeSpec := { name := "membersKeeps", fn := fun _ => fun
  | [d1, d2] => { results := [.lit (.bool false)], args := [d1, d2] }
  | _ => none }
def MembersKeepsWrongFalsely : Prop := membersKeepsRow.holds Try.pinned (OpenSpec.ofChange membersKeepsWrong)

/-- 'cachettelaw12.MembersPlays': WHATEVER THE INPUT: true; the input reads as it did. -/
def membersPlaysSpec : ChangeSpec := { name := "membersPlays", fn := fun _ => fun
  | [d1, d2, d3] => { results := [.lit (.bool true)], args := [d1, d2, d3] }
  | _ => none }
def membersPlaysRow : OpenClaim := { program := "ytmhfoieeldiecaa", sum := "f41ca4f61ff32bd4037861fd44966ccf4b91dfbdf9eead0f415ec2dc4a39389a", func := "cachette/cachettelaw12.MembersPlays", spec := "membersPlays", inPlace := ["slices.overlaps[cachette/members.Member]"], unfollowed := true, recurses := true, apart := false }
def MembersPlaysSaid : Prop := membersPlaysRow.holds Try.pinned (OpenSpec.ofChange membersPlaysSpec)

/-- ITS FALSE NEIGHBOUR: 'it returns false'. Refute it at one input. -/
def membersPlaysWrong : ChangeSpec := { name := "membersPlays", fn := fun _ => fun
  | [d1, d2, d3] => { results := [.lit (.bool false)], args := [d1, d2, d3] }
  | _ => none }
def MembersPlaysWrongFalsely : Prop := membersPlaysRow.holds Try.pinned (OpenSpec.ofChange membersPlaysWrong)

/-- 'cachettelaw12.MembersMay': WHATEVER THE INPUT: true; the input reads as it did. -/
def membersMaySpec : ChangeSpec := { name := "membersMay", fn := fun _ => fun
  | [d1, d2, d3, d4, d5] => { results := [.lit (.bool true)], args := [d1, d2, d3, d4, d5] }
  | _ => none }
def membersMayRow : OpenClaim := { program := "ytmhfoieeldiecaa", sum := "f41ca4f61ff32bd4037861fd44966ccf4b91dfbdf9eead0f415ec2dc4a39389a", func := "cachette/cachettelaw12.MembersMay", spec := "membersMay", inPlace := ["slices.overlaps[cachette/members.Member]"], unfollowed := true, recurses := true, apart := false }
def MembersMaySaid : Prop := membersMayRow.holds Try.pinned (OpenSpec.ofChange membersMaySpec)

/-- ITS FALSE NEIGHBOUR: 'it returns false'. Refute it at one input. -/
def membersMayWrong : ChangeSpec := { name := "membersMay", fn := fun _ => fun
  | [d1, d2, d3, d4, d5] => { results := [.lit (.bool false)], args := [d1, d2, d3, d4, d5] }
  | _ => none }
def MembersMayWrongFalsely : Prop := membersMayRow.holds Try.pinned (OpenSpec.ofChange membersMayWrong)

/-- 'cachettelaw12.MembersForms': WHATEVER THE INPUT: true; the input reads as it did. -/
def membersFormsSpec : ChangeSpec := { name := "membersForms", fn := fun _ => fun
  | [d1, d2] => { results := [.lit (.bool true)], args := [d1, d2] }
  | _ => none }
def membersFormsRow : OpenClaim := { program := "ytmhfoieeldiecaa", sum := "f41ca4f61ff32bd4037861fd44966ccf4b91dfbdf9eead0f415ec2dc4a39389a", func := "cachette/cachettelaw12.MembersForms", spec := "membersForms", inPlace := ["slices.overlaps[cachette/members.Member]"], unfollowed := true, recurses := true, apart := false }
def MembersFormsSaid : Prop := membersFormsRow.holds Try.pinned (OpenSpec.ofChange membersFormsSpec)

/-- ITS FALSE NEIGHBOUR: 'it returns false'. Refute it at one input. -/
def membersFormsWrong : ChangeSpec := { name := "membersForms", fn := fun _ => fun
  | [d1, d2] => { results := [.lit (.bool false)], args := [d1, d2] }
  | _ => none }
def MembersFormsWrongFalsely : Prop := membersFormsRow.holds Try.pinned (OpenSpec.ofChange membersFormsWrong)

/-- 'cachettelaw12.MembersBack': WHATEVER THE INPUT: true; the input reads as it did. -/
def membersBackSpec : ChangeSpec := { name := "membersBack", fn := fun _ => fun
  | [d1, d2] => { results := [.lit (.bool true)], args := [d1, d2] }
  | _ => none }
def membersBackRow : OpenClaim := { program := "ytmhfoieeldiecaa", sum := "f41ca4f61ff32bd4037861fd44966ccf4b91dfbdf9eead0f415ec2dc4a39389a", func := "cachette/cachettelaw12.MembersBack", spec := "membersBack", inPlace := ["slices.overlaps[cachette/members.Member]"], unfollowed := true, recurses := true, apart := false }
def MembersBackSaid : Prop := membersBackRow.holds Try.pinned (OpenSpec.ofChange membersBackSpec)

/-- ITS FALSE NEIGHBOUR: 'it returns false'. Refute it at one input. -/
def membersBackWrong : ChangeSpec := { name := "membersBack", fn := fun _ => fun
  | [d1, d2] => { results := [.lit (.bool false)], args := [d1, d2] }
  | _ => none }
def MembersBackWrongFalsely : Prop := membersBackRow.holds Try.pinned (OpenSpec.ofChange membersBackWrong)

/- THE SECOND FORM. 'bulk': how many values and letters a reading holds, each counted each time it is reached (what is shared counts as often as it is met; a slice's spare places count too). A statement '..UptoSaid' is the law's where the arguments, and the package variables that the reading takes, are together of bulk at most 1048576: NARROWER than '..Said'. Prove '..Said' where nothing that the law and all that it calls make is longer than what came in: it says more and counts as full. Else prove '..UptoSaid'. A law counts once. -/
mutual
def uptoBulk {H : Type} : DataW H → Nat
  | .lit (.string bytes) => bytes.length + 1
  | .lit _ => 1
  | .nil => 1
  | .ptr d => uptoBulk d + 1
  | .slice elems spare => uptoBulkAll elems + uptoBulkAll spare + 1
  | .agg parts => uptoBulkAll parts + 1
  | .iface _ d => uptoBulk d + 1
  | .map entries => uptoBulkEntries entries + 1
  | .held _ => 1
def uptoBulkAll {H : Type} : List (DataW H) → Nat
  | [] => 0
  | d :: r => uptoBulk d + uptoBulkAll r
def uptoBulkEntries {H : Type} : List (Lit × DataW H) → Nat
  | [] => 0
  | x :: r => uptoBulkEntry x + uptoBulkEntries r
def uptoBulkEntry {H : Type} : Lit × DataW H → Nat
  | (.string bytes, d) => bytes.length + uptoBulk d + 1
  | (_, d) => uptoBulk d + 1
 end
def uptoSmall : (H : Type) → List (DataW H) → Bool := fun _ ds => decide (uptoBulkAll ds ≤ 1048576)
def OpenSpec.upto (s : _root_.Go.ChangeSpec) : _root_.Go.OpenSpec := { _root_.Go.OpenSpec.ofChange s with cond := some uptoSmall }

/-- 'cachettelaw12.MembersGone', WHERE WHAT IT READS IS OF BULK AT MOST 1048576: true; the input reads as it did. -/
def membersGoneUptoRow : OpenClaim := { program := "ytmhfoieeldiecaa", sum := "f41ca4f61ff32bd4037861fd44966ccf4b91dfbdf9eead0f415ec2dc4a39389a", func := "cachette/cachettelaw12.MembersGone", spec := "membersGone", inPlace := ["slices.overlaps[cachette/members.Member]"], unfollowed := true, recurses := true, apart := false, narrowed := true }
def MembersGoneUptoSaid : Prop := membersGoneUptoRow.holds Try.pinned (OpenSpec.upto membersGoneSpec)

/-- 'cachettelaw12.MembersKeeps', WHERE WHAT IT READS IS OF BULK AT MOST 1048576: true; the input reads as it did. -/
def membersKeepsUptoRow : OpenClaim := { program := "ytmhfoieeldiecaa", sum := "f41ca4f61ff32bd4037861fd44966ccf4b91dfbdf9eead0f415ec2dc4a39389a", func := "cachette/cachettelaw12.MembersKeeps", spec := "membersKeeps", inPlace := ["slices.overlaps[cachette/members.Member]"], unfollowed := true, recurses := true, apart := false, narrowed := true }
def MembersKeepsUptoSaid : Prop := membersKeepsUptoRow.holds Try.pinned (OpenSpec.upto membersKeepsSpec)

/-- 'cachettelaw12.MembersPlays', WHERE WHAT IT READS IS OF BULK AT MOST 1048576: true; the input reads as it did. -/
def membersPlaysUptoRow : OpenClaim := { program := "ytmhfoieeldiecaa", sum := "f41ca4f61ff32bd4037861fd44966ccf4b91dfbdf9eead0f415ec2dc4a39389a", func := "cachette/cachettelaw12.MembersPlays", spec := "membersPlays", inPlace := ["slices.overlaps[cachette/members.Member]"], unfollowed := true, recurses := true, apart := false, narrowed := true }
def MembersPlaysUptoSaid : Prop := membersPlaysUptoRow.holds Try.pinned (OpenSpec.upto membersPlaysSpec)

/-- 'cachettelaw12.MembersMay', WHERE WHAT IT READS IS OF BULK AT MOST 1048576: true; the input reads as it did. -/
def membersMayUptoRow : OpenClaim := { program := "ytmhfoieeldiecaa", sum := "f41ca4f61ff32bd4037861fd44966ccf4b91dfbdf9eead0f415ec2dc4a39389a", func := "cachette/cachettelaw12.MembersMay", spec := "membersMay", inPlace := ["slices.overlaps[cachette/members.Member]"], unfollowed := true, recurses := true, apart := false, narrowed := true }
def MembersMayUptoSaid : Prop := membersMayUptoRow.holds Try.pinned (OpenSpec.upto membersMaySpec)

/-- 'cachettelaw12.MembersForms', WHERE WHAT IT READS IS OF BULK AT MOST 1048576: true; the input reads as it did. -/
def membersFormsUptoRow : OpenClaim := { program := "ytmhfoieeldiecaa", sum := "f41ca4f61ff32bd4037861fd44966ccf4b91dfbdf9eead0f415ec2dc4a39389a", func := "cachette/cachettelaw12.MembersForms", spec := "membersForms", inPlace := ["slices.overlaps[cachette/members.Member]"], unfollowed := true, recurses := true, apart := false, narrowed := true }
def MembersFormsUptoSaid : Prop := membersFormsUptoRow.holds Try.pinned (OpenSpec.upto membersFormsSpec)

/-- 'cachettelaw12.MembersBack', WHERE WHAT IT READS IS OF BULK AT MOST 1048576: true; the input reads as it did. -/
def membersBackUptoRow : OpenClaim := { program := "ytmhfoieeldiecaa", sum := "f41ca4f61ff32bd4037861fd44966ccf4b91dfbdf9eead0f415ec2dc4a39389a", func := "cachette/cachettelaw12.MembersBack", spec := "membersBack", inPlace := ["slices.overlaps[cachette/members.Member]"], unfollowed := true, recurses := true, apart := false, narrowed := true }
def MembersBackUptoSaid : Prop := membersBackUptoRow.holds Try.pinned (OpenSpec.upto membersBackSpec)

end Rows
end Go.Proofs.Ytmhfoieeldiecaa
