/-
  No cell of these rows narrows 'for every input' (looked for: loops, veiled, ifaces, maps, wideKeys, modest, calm, conditions, laid).
  DERIVED. THE GIVEN ROWS OF THIS SEAT. 7 by the template 'for every input the law returns true; each argument reads behind the call as it read before'; 0 by the template 'total and deterministic' (their statements: YtgaaffanoegbhaaTotals.lean).
  GIVEN WITH THE SEED: the statements are not yours to turn. If you find one false, say at which input.
  Laid BY PROGRAM, IN A SANDBOX (cutbox-rows.mjs): the forced cells as the released guide's own fill.sh prints them over the translation 9d2c8c8f0a08a129… (all of the seat's roots in one cut). By AI agents, Wed Nov 11 2026. No macro, syntax, notation, axiom, sorry.
-/
import Derived.Test.YtgaaffanoegbhaaChecked
import GoSem.Claim
import GoSem.ClaimJoined
import GoSem.ClaimMapViews
import Derived.JoinedTies
import Derived.KernelRfl
namespace Go.Proofs.Ytgaaffanoegbhaa
/- THE CELL 'sum', in the pinned program and in every row, IS THE sha256 OF THE DUMP (.gsa) THAT YtgaaffanoegbhaaProg.lean LOADS. Nothing in Lean hashes anything: it is a label: what it is worth is what the hold of that sum in a sandbox is worth. -/
noncomputable def Try.pinned : Pinned := { name := "ytgaaffanoegbhaa", sum := "9d2c8c8f0a08a1292aec40590c35102563f5689ce16a95747ecba55909f72e9c", checked := Try.checked }
namespace Rows
def none {H : Type} : Left H := { results := [], args := [] }

/-- 'delphilaw21.BallotCount': WHATEVER THE INPUT: true; the input reads as it did. -/
def ballotCountSpec : ChangeSpec := { name := "ballotCount", fn := fun _ => fun
  | [d1, d2, d3] => { results := [.lit (.bool true)], args := [d1, d2, d3] }
  | _ => none }
def ballotCountRow : OpenClaim := { program := "ytgaaffanoegbhaa", sum := "9d2c8c8f0a08a1292aec40590c35102563f5689ce16a95747ecba55909f72e9c", func := "delphi/delphilaw21.BallotCount", spec := "ballotCount", recurses := true, apart := false }
def BallotCountSaid : Prop := ballotCountRow.holds Try.pinned (OpenSpec.ofChange ballotCountSpec)

/-- ITS FALSE NEIGHBOUR: 'it returns false'. Refute it at one input. -/
def ballotCountWrong : ChangeSpec := { name := "ballotCount", fn := fun _ => fun
  | [d1, d2, d3] => { results := [.lit (.bool false)], args := [d1, d2, d3] }
  | _ => none }
def BallotCountWrongFalsely : Prop := ballotCountRow.holds Try.pinned (OpenSpec.ofChange ballotCountWrong)

/-- 'delphilaw21.BallotMeet': WHATEVER THE INPUT: true; the input reads as it did. -/
def ballotMeetSpec : ChangeSpec := { name := "ballotMeet", fn := fun _ => fun
  | [d1, d2, d3, d4] => { results := [.lit (.bool true)], args := [d1, d2, d3, d4] }
  | _ => none }
def ballotMeetRow : OpenClaim := { program := "ytgaaffanoegbhaa", sum := "9d2c8c8f0a08a1292aec40590c35102563f5689ce16a95747ecba55909f72e9c", func := "delphi/delphilaw21.BallotMeet", spec := "ballotMeet", recurses := true, apart := false }
def BallotMeetSaid : Prop := ballotMeetRow.holds Try.pinned (OpenSpec.ofChange ballotMeetSpec)

/-- ITS FALSE NEIGHBOUR: 'it returns false'. Refute it at one input. -/
def ballotMeetWrong : ChangeSpec := { name := "ballotMeet", fn := fun _ => fun
  | [d1, d2, d3, d4] => { results := [.lit (.bool false)], args := [d1, d2, d3, d4] }
  | _ => none }
def BallotMeetWrongFalsely : Prop := ballotMeetRow.holds Try.pinned (OpenSpec.ofChange ballotMeetWrong)

/-- 'delphilaw21.BallotMembers': WHATEVER THE INPUT: true; the input reads as it did. -/
def ballotMembersSpec : ChangeSpec := { name := "ballotMembers", fn := fun _ => fun
  | [d1, d2] => { results := [.lit (.bool true)], args := [d1, d2] }
  | _ => none }
def ballotMembersRow : OpenClaim := { program := "ytgaaffanoegbhaa", sum := "9d2c8c8f0a08a1292aec40590c35102563f5689ce16a95747ecba55909f72e9c", func := "delphi/delphilaw21.BallotMembers", spec := "ballotMembers", recurses := true, apart := false }
def BallotMembersSaid : Prop := ballotMembersRow.holds Try.pinned (OpenSpec.ofChange ballotMembersSpec)

/-- ITS FALSE NEIGHBOUR: 'it returns false'. Refute it at one input. -/
def ballotMembersWrong : ChangeSpec := { name := "ballotMembers", fn := fun _ => fun
  | [d1, d2] => { results := [.lit (.bool false)], args := [d1, d2] }
  | _ => none }
def BallotMembersWrongFalsely : Prop := ballotMembersRow.holds Try.pinned (OpenSpec.ofChange ballotMembersWrong)

/-- 'delphilaw10.StrataAll': WHATEVER THE INPUT: true; the input reads as it did. -/
def strataAllSpec : ChangeSpec := { name := "strataAll", fn := fun _ => fun
  | [d1, d2] => { results := [.lit (.bool true)], args := [d1, d2] }
  | _ => none }
def strataAllRow : OpenClaim := { program := "ytgaaffanoegbhaa", sum := "9d2c8c8f0a08a1292aec40590c35102563f5689ce16a95747ecba55909f72e9c", func := "delphi/delphilaw10.StrataAll", spec := "strataAll", recurses := true, apart := false }
def StrataAllSaid : Prop := strataAllRow.holds Try.pinned (OpenSpec.ofChange strataAllSpec)

/-- ITS FALSE NEIGHBOUR: 'it returns false'. Refute it at one input. -/
def strataAllWrong : ChangeSpec := { name := "strataAll", fn := fun _ => fun
  | [d1, d2] => { results := [.lit (.bool false)], args := [d1, d2] }
  | _ => none }
def StrataAllWrongFalsely : Prop := strataAllRow.holds Try.pinned (OpenSpec.ofChange strataAllWrong)

/-- 'delphilaw10.StrataChain': WHATEVER THE INPUT: true; the input reads as it did. -/
def strataChainSpec : ChangeSpec := { name := "strataChain", fn := fun _ => fun
  | [d1, d2] => { results := [.lit (.bool true)], args := [d1, d2] }
  | _ => none }
def strataChainRow : OpenClaim := { program := "ytgaaffanoegbhaa", sum := "9d2c8c8f0a08a1292aec40590c35102563f5689ce16a95747ecba55909f72e9c", func := "delphi/delphilaw10.StrataChain", spec := "strataChain", recurses := true, apart := false }
def StrataChainSaid : Prop := strataChainRow.holds Try.pinned (OpenSpec.ofChange strataChainSpec)

/-- ITS FALSE NEIGHBOUR: 'it returns false'. Refute it at one input. -/
def strataChainWrong : ChangeSpec := { name := "strataChain", fn := fun _ => fun
  | [d1, d2] => { results := [.lit (.bool false)], args := [d1, d2] }
  | _ => none }
def StrataChainWrongFalsely : Prop := strataChainRow.holds Try.pinned (OpenSpec.ofChange strataChainWrong)

/-- 'delphilaw22.RaftLone': WHATEVER THE INPUT: true; the input reads as it did. -/
def raftLoneSpec : ChangeSpec := { name := "raftLone", fn := fun _ => fun
  | [d1, d2, d3] => { results := [.lit (.bool true)], args := [d1, d2, d3] }
  | _ => none }
def raftLoneRow : OpenClaim := { program := "ytgaaffanoegbhaa", sum := "9d2c8c8f0a08a1292aec40590c35102563f5689ce16a95747ecba55909f72e9c", func := "delphi/delphilaw22.RaftLone", spec := "raftLone", unfollowed := true, recurses := true, apart := false }
def RaftLoneSaid : Prop := raftLoneRow.holds Try.pinned (OpenSpec.ofChange raftLoneSpec)

/-- ITS FALSE NEIGHBOUR: 'it returns false'. Refute it at one input. -/
def raftLoneWrong : ChangeSpec := { name := "raftLone", fn := fun _ => fun
  | [d1, d2, d3] => { results := [.lit (.bool false)], args := [d1, d2, d3] }
  | _ => none }
def RaftLoneWrongFalsely : Prop := raftLoneRow.holds Try.pinned (OpenSpec.ofChange raftLoneWrong)

/-- 'delphilaw22.RaftMay': WHATEVER THE INPUT: true; the input reads as it did. -/
def raftMaySpec : ChangeSpec := { name := "raftMay", fn := fun _ => fun
  | [d] => { results := [.lit (.bool true)], args := [d] }
  | _ => none }
def raftMayRow : OpenClaim := { program := "ytgaaffanoegbhaa", sum := "9d2c8c8f0a08a1292aec40590c35102563f5689ce16a95747ecba55909f72e9c", func := "delphi/delphilaw22.RaftMay", spec := "raftMay", unfollowed := true, recurses := true, apart := false }
def RaftMaySaid : Prop := raftMayRow.holds Try.pinned (OpenSpec.ofChange raftMaySpec)

/-- ITS FALSE NEIGHBOUR: 'it returns false'. Refute it at one input. -/
def raftMayWrong : ChangeSpec := { name := "raftMay", fn := fun _ => fun
  | [d] => { results := [.lit (.bool false)], args := [d] }
  | _ => none }
def RaftMayWrongFalsely : Prop := raftMayRow.holds Try.pinned (OpenSpec.ofChange raftMayWrong)

/- THE SECOND FORM. 'bulk': how many values and letters a reading holds, each counted each time it is reached (what is shared counts as often as it is met; a slice's spare places count too). A statement '..UptoSaid' is the law's where the arguments, and the package variables that the reading takes, are together of bulk at most 1048576: NARROWER than '..Said'. Prove '..Said' where nothing that the law and all that it calls make is longer than what came in: it says more and counts as full. Else prove '..UptoSaid'. A law counts once. -/
mutual
def uptoBulk {H : Type} : DataW H → Nat
  | .lit (.string bytes) => bytes.length + 1
  | .lit _ => 1
  | .nil => 1
  | .ptr d => uptoBulk d + 1
  | .slice elems spare => uptoBulkAll elems + uptoBulkAll spare + 1
  | .agg parts => uptoBulkAll parts + 1
  | .iface _ d => uptoBulk d + 1
  | .map entries => uptoBulkEntries entries + 1
  | .held _ => 1
def uptoBulkAll {H : Type} : List (DataW H) → Nat
  | [] => 0
  | d :: r => uptoBulk d + uptoBulkAll r
def uptoBulkEntries {H : Type} : List (Lit × DataW H) → Nat
  | [] => 0
  | x :: r => uptoBulkEntry x + uptoBulkEntries r
def uptoBulkEntry {H : Type} : Lit × DataW H → Nat
  | (.string bytes, d) => bytes.length + uptoBulk d + 1
  | (_, d) => uptoBulk d + 1
 end
def uptoSmall : (H : Type) → List (DataW H) → Bool := fun _ ds => decide (uptoBulkAll ds ≤ 1048576)
def OpenSpec.upto (s : _root_.Go.ChangeSpec) : _root_.Go.OpenSpec := { _root_.Go.OpenSpec.ofChange s with cond := some uptoSmall }

/-- 'delphilaw21.BallotCount', WHERE WHAT IT READS IS OF BULK AT MOST 1048576: true; the input reads as it did. -/
def ballotCountUptoRow : OpenClaim := { program := "ytgaaffanoegbhaa", sum := "9d2c8c8f0a08a1292aec40590c35102563f5689ce16a95747ecba55909f72e9c", func := "delphi/delphilaw21.BallotCount", spec := "ballotCount", recurses := true, apart := false, narrowed := true }
def BallotCountUptoSaid : Prop := ballotCountUptoRow.holds Try.pinned (OpenSpec.upto ballotCountSpec)

/-- 'delphilaw21.BallotMeet', WHERE WHAT IT READS IS OF BULK AT MOST 1048576: true; the input reads as it did. -/
def ballotMeetUptoRow : OpenClaim := { program := "ytgaaffanoegbhaa", sum := "9d2c8c8f0a08a1292aec40590c35102563f5689ce16a95747ecba55909f72e9c", func := "delphi/delphilaw21.BallotMeet", spec := "ballotMeet", recurses := true, apart := false, narrowed := true }
def BallotMeetUptoSaid : Prop := ballotMeetUptoRow.holds Try.pinned (OpenSpec.upto ballotMeetSpec)

/-- 'delphilaw21.BallotMembers', WHERE WHAT IT READS IS OF BULK AT MOST 1048576: true; the input reads as it did. -/
def ballotMembersUptoRow : OpenClaim := { program := "ytgaaffanoegbhaa", sum := "9d2c8c8f0a08a1292aec40590c35102563f5689ce16a95747ecba55909f72e9c", func := "delphi/delphilaw21.BallotMembers", spec := "ballotMembers", recurses := true, apart := false, narrowed := true }
def BallotMembersUptoSaid : Prop := ballotMembersUptoRow.holds Try.pinned (OpenSpec.upto ballotMembersSpec)

/-- 'delphilaw10.StrataAll', WHERE WHAT IT READS IS OF BULK AT MOST 1048576: true; the input reads as it did. -/
def strataAllUptoRow : OpenClaim := { program := "ytgaaffanoegbhaa", sum := "9d2c8c8f0a08a1292aec40590c35102563f5689ce16a95747ecba55909f72e9c", func := "delphi/delphilaw10.StrataAll", spec := "strataAll", recurses := true, apart := false, narrowed := true }
def StrataAllUptoSaid : Prop := strataAllUptoRow.holds Try.pinned (OpenSpec.upto strataAllSpec)

/-- 'delphilaw10.StrataChain', WHERE WHAT IT READS IS OF BULK AT MOST 1048576: true; the input reads as it did. -/
def strataChainUptoRow : OpenClaim := { program := "ytgaaffanoegbhaa", sum := "9d2c8c8f0a08a1292aec40590c35102563f5689ce16a95747ecba55909f72e9c", func := "delphi/delphilaw10.StrataChain", spec := "strataChain", recurses := true, apart := false, narrowed := true }
def StrataChainUptoSaid : Prop := strataChainUptoRow.holds Try.pinned (OpenSpec.upto strataChainSpec)

/-- 'delphilaw22.RaftLone', WHERE WHAT IT READS IS OF BULK AT MOST 1048576: true; the input reads as it did. -/
def raftLoneUptoRow : OpenClaim := { program := "ytgaaffanoegbhaa", sum := "9d2c8c8f0a08a1292aec40590c35102563f5689ce16a95747ecba55909f72e9c", func := "delphi/delphilaw22.RaftLone", spec := "raftLone", unfollowed := true, recurses := true, apart := false, narrowed := true }
def RaftLoneUptoSaid : Prop := raftLoneUptoRow.holds Try.pinned (OpenSpec.upto raftLoneSpec)

/-- 'delphilaw22.RaftMay', WHERE WHAT IT READS IS OF BULK AT MOST 1048576: true; the input reads as it did. -/
def raftMayUptoRow : OpenClaim := { program := "ytgaaffanoegbhaa", sum := "9d2c8c8f0a08a1292aec40590c35102563f5689ce16a95747ecba55909f72e9c", func := "delphi/delphilaw22.RaftMay", spec := "raftMay", unfollowed := true, recurses := true, apart := false, narrowed := true }
def RaftMayUptoSaid : Prop := raftMayUptoRow.holds Try.pinned (OpenSpec.upto raftMaySpec)

end Rows
end Go.Proofs.Ytgaaffanoegbhaa
