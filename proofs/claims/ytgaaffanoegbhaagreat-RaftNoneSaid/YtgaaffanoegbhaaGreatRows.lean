/-
  No cell of these rows narrows 'for every input' (looked for: loops, veiled, ifaces, maps, wideKeys, modest, calm, conditions, laid).
  DERIVED. THE GIVEN ROWS OF THIS SEAT. 7 by the template 'for every input the law returns true; each argument reads behind the call as it read before'; 0 by the template 'total and deterministic' (their statements: YtgaaffanoegbhaaGreatTotals.lean).
  GIVEN WITH THE SEED: the statements are not yours to turn. If you find one false, say at which input.
  Laid BY PROGRAM, IN A SANDBOX (cutbox-rows.mjs): the forced cells as the released guide's own fill.sh prints them over the translation 1b713c5c4fe700a2… (all of the seat's roots in one cut). By AI agents, Wed Nov 11 2026. No macro, syntax, notation, axiom, sorry.
-/
import Derived.Test.YtgaaffanoegbhaaGreatChecked
import GoSem.Claim
import GoSem.ClaimJoined
import GoSem.ClaimMapViews
import Derived.JoinedTies
import Derived.KernelRfl
namespace Go.Proofs.YtgaaffanoegbhaaGreat
/- THE CELL 'sum', in the pinned program and in every row, IS THE sha256 OF THE DUMP (.gsa) THAT YtgaaffanoegbhaaGreatProg.lean LOADS. Nothing in Lean hashes anything: it is a label: what it is worth is what the hold of that sum in a sandbox is worth. -/
noncomputable def Tryz.pinned : Pinned := { name := "ytgaaffanoegbhaagreat", sum := "1b713c5c4fe700a23ec475d16e870aa5857095a1ca490d8da8a56ca35be6ba10", checked := Tryz.checked }
namespace Rows
def none {H : Type} : Left H := { results := [], args := [] }

/-- 'delphilaw22.RaftVoteOnce': WHATEVER THE INPUT: true; the input reads as it did. -/
def raftVoteOnceSpec : ChangeSpec := { name := "raftVoteOnce", fn := fun _ => fun
  | [d1, d2, d3] => { results := [.lit (.bool true)], args := [d1, d2, d3] }
  | _ => none }
def raftVoteOnceRow : OpenClaim := { program := "ytgaaffanoegbhaagreat", sum := "1b713c5c4fe700a23ec475d16e870aa5857095a1ca490d8da8a56ca35be6ba10", func := "delphi/delphilaw22.RaftVoteOnce", spec := "raftVoteOnce", unfollowed := true, recurses := true, apart := false }
def RaftVoteOnceSaid : Prop := raftVoteOnceRow.holds Tryz.pinned (OpenSpec.ofChange raftVoteOnceSpec)

/-- ITS FALSE NEIGHBOUR: 'it returns false'. Refute it at one input. -/
def raftVoteOnceWrong : ChangeSpec := { name := "raftVoteOnce", fn := fun _ => fun
  | [d1, d2, d3] => { results := [.lit (.bool false)], args := [d1, d2, d3] }
  | _ => none }
def RaftVoteOnceWrongFalsely : Prop := raftVoteOnceRow.holds Tryz.pinned (OpenSpec.ofChange raftVoteOnceWrong)

/-- 'delphilaw22.RaftElects': WHATEVER THE INPUT: true; the input reads as it did. -/
def raftElectsSpec : ChangeSpec := { name := "raftElects", fn := fun _ => fun
  | [d1, d2] => { results := [.lit (.bool true)], args := [d1, d2] }
  | _ => none }
def raftElectsRow : OpenClaim := { program := "ytgaaffanoegbhaagreat", sum := "1b713c5c4fe700a23ec475d16e870aa5857095a1ca490d8da8a56ca35be6ba10", func := "delphi/delphilaw22.RaftElects", spec := "raftElects", unfollowed := true, recurses := true, apart := false }
def RaftElectsSaid : Prop := raftElectsRow.holds Tryz.pinned (OpenSpec.ofChange raftElectsSpec)

/-- ITS FALSE NEIGHBOUR: 'it returns false'. Refute it at one input. -/
def raftElectsWrong : ChangeSpec := { name := "raftElects", fn := fun _ => fun
  | [d1, d2] => { results := [.lit (.bool false)], args := [d1, d2] }
  | _ => none }
def RaftElectsWrongFalsely : Prop := raftElectsRow.holds Tryz.pinned (OpenSpec.ofChange raftElectsWrong)

/-- 'delphilaw22.RaftReads': WHATEVER THE INPUT: true; the input reads as it did. -/
def raftReadsSpec : ChangeSpec := { name := "raftReads", fn := fun _ => fun
  | [d1, d2] => { results := [.lit (.bool true)], args := [d1, d2] }
  | _ => none }
def raftReadsRow : OpenClaim := { program := "ytgaaffanoegbhaagreat", sum := "1b713c5c4fe700a23ec475d16e870aa5857095a1ca490d8da8a56ca35be6ba10", func := "delphi/delphilaw22.RaftReads", spec := "raftReads", unfollowed := true, recurses := true, apart := false }
def RaftReadsSaid : Prop := raftReadsRow.holds Tryz.pinned (OpenSpec.ofChange raftReadsSpec)

/-- ITS FALSE NEIGHBOUR: 'it returns false'. Refute it at one input. -/
def raftReadsWrong : ChangeSpec := { name := "raftReads", fn := fun _ => fun
  | [d1, d2] => { results := [.lit (.bool false)], args := [d1, d2] }
  | _ => none }
def RaftReadsWrongFalsely : Prop := raftReadsRow.holds Tryz.pinned (OpenSpec.ofChange raftReadsWrong)

/-- 'delphilaw22.RaftNode': WHATEVER THE INPUT: true; the input reads as it did. -/
def raftNodeSpec : ChangeSpec := { name := "raftNode", fn := fun _ => fun
  | [d1, d2, d3, d4, d5, d6] => { results := [.lit (.bool true)], args := [d1, d2, d3, d4, d5, d6] }
  | _ => none }
def raftNodeRow : OpenClaim := { program := "ytgaaffanoegbhaagreat", sum := "1b713c5c4fe700a23ec475d16e870aa5857095a1ca490d8da8a56ca35be6ba10", func := "delphi/delphilaw22.RaftNode", spec := "raftNode", unfollowed := true, recurses := true, apart := false }
def RaftNodeSaid : Prop := raftNodeRow.holds Tryz.pinned (OpenSpec.ofChange raftNodeSpec)

/-- ITS FALSE NEIGHBOUR: 'it returns false'. Refute it at one input. -/
def raftNodeWrong : ChangeSpec := { name := "raftNode", fn := fun _ => fun
  | [d1, d2, d3, d4, d5, d6] => { results := [.lit (.bool false)], args := [d1, d2, d3, d4, d5, d6] }
  | _ => none }
def RaftNodeWrongFalsely : Prop := raftNodeRow.holds Tryz.pinned (OpenSpec.ofChange raftNodeWrong)

/-- 'delphilaw22.RaftGroup': WHATEVER THE INPUT: true; the input reads as it did. -/
def raftGroupSpec : ChangeSpec := { name := "raftGroup", fn := fun _ => fun
  | [d1, d2, d3] => { results := [.lit (.bool true)], args := [d1, d2, d3] }
  | _ => none }
def raftGroupRow : OpenClaim := { program := "ytgaaffanoegbhaagreat", sum := "1b713c5c4fe700a23ec475d16e870aa5857095a1ca490d8da8a56ca35be6ba10", func := "delphi/delphilaw22.RaftGroup", spec := "raftGroup", unfollowed := true, recurses := true, apart := false }
def RaftGroupSaid : Prop := raftGroupRow.holds Tryz.pinned (OpenSpec.ofChange raftGroupSpec)

/-- ITS FALSE NEIGHBOUR: 'it returns false'. Refute it at one input. -/
def raftGroupWrong : ChangeSpec := { name := "raftGroup", fn := fun _ => fun
  | [d1, d2, d3] => { results := [.lit (.bool false)], args := [d1, d2, d3] }
  | _ => none }
def RaftGroupWrongFalsely : Prop := raftGroupRow.holds Tryz.pinned (OpenSpec.ofChange raftGroupWrong)

/-- 'delphilaw22.RaftSafe': WHATEVER THE INPUT: true; the input reads as it did. -/
def raftSafeSpec : ChangeSpec := { name := "raftSafe", fn := fun _ => fun
  | [d1, d2, d3] => { results := [.lit (.bool true)], args := [d1, d2, d3] }
  | _ => none }
def raftSafeRow : OpenClaim := { program := "ytgaaffanoegbhaagreat", sum := "1b713c5c4fe700a23ec475d16e870aa5857095a1ca490d8da8a56ca35be6ba10", func := "delphi/delphilaw22.RaftSafe", spec := "raftSafe", unfollowed := true, recurses := true, apart := false }
def RaftSafeSaid : Prop := raftSafeRow.holds Tryz.pinned (OpenSpec.ofChange raftSafeSpec)

/-- ITS FALSE NEIGHBOUR: 'it returns false'. Refute it at one input. -/
def raftSafeWrong : ChangeSpec := { name := "raftSafe", fn := fun _ => fun
  | [d1, d2, d3] => { results := [.lit (.bool false)], args := [d1, d2, d3] }
  | _ => none }
def RaftSafeWrongFalsely : Prop := raftSafeRow.holds Tryz.pinned (OpenSpec.ofChange raftSafeWrong)

/-- 'delphilaw22.RaftNone': WHATEVER THE INPUT: true; the input reads as it did. -/
def raftNoneSpec : ChangeSpec := { name := "raftNone", fn := fun _ => fun
  | [] => { results := [.lit (.bool true)], args := [] }
  | _ => none }
def raftNoneRow : OpenClaim := { program := "ytgaaffanoegbhaagreat", sum := "1b713c5c4fe700a23ec475d16e870aa5857095a1ca490d8da8a56ca35be6ba10", func := "delphi/delphilaw22.RaftNone", spec := "raftNone", unfollowed := true, recurses := true, apart := false }
def RaftNoneSaid : Prop := raftNoneRow.holds Tryz.pinned (OpenSpec.ofChange raftNoneSpec)

/-- ITS FALSE NEIGHBOUR: 'it returns false'. Refute it at one input. -/
def raftNoneWrong : ChangeSpec := { name := "raftNone", fn := fun _ => fun
  | [] => { results := [.lit (.bool false)], args := [] }
  | _ => none }
def RaftNoneWrongFalsely : Prop := raftNoneRow.holds Tryz.pinned (OpenSpec.ofChange raftNoneWrong)

/- THE SECOND FORM. 'bulk': how many values and letters a reading holds, each counted each time it is reached (what is shared counts as often as it is met; a slice's spare places count too). A statement '..UptoSaid' is the law's where the arguments, and the package variables that the reading takes, are together of bulk at most 1048576: NARROWER than '..Said'. Prove '..Said' where nothing that the law and all that it calls make is longer than what came in: it says more and counts as full. Else prove '..UptoSaid'. A law counts once. -/
mutual
def uptoBulk {H : Type} : DataW H → Nat
  | .lit (.string bytes) => bytes.length + 1
  | .lit _ => 1
  | .nil => 1
  | .ptr d => uptoBulk d + 1
  | .slice elems spare => uptoBulkAll elems + uptoBulkAll spare + 1
  | .agg parts => uptoBulkAll parts + 1
  | .iface _ d => uptoBulk d + 1
  | .map entries => uptoBulkEntries entries + 1
  | .held _ => 1
def uptoBulkAll {H : Type} : List (DataW H) → Nat
  | [] => 0
  | d :: r => uptoBulk d + uptoBulkAll r
def uptoBulkEntries {H : Type} : List (Lit × DataW H) → Nat
  | [] => 0
  | x :: r => uptoBulkEntry x + uptoBulkEntries r
def uptoBulkEntry {H : Type} : Lit × DataW H → Nat
  | (.string bytes, d) => bytes.length + uptoBulk d + 1
  | (_, d) => uptoBulk d + 1
 end
def uptoSmall : (H : Type) → List (DataW H) → Bool := fun _ ds => decide (uptoBulkAll ds ≤ 1048576)
def OpenSpec.upto (s : _root_.Go.ChangeSpec) : _root_.Go.OpenSpec := { _root_.Go.OpenSpec.ofChange s with cond := some uptoSmall }

/-- 'delphilaw22.RaftVoteOnce', WHERE WHAT IT READS IS OF BULK AT MOST 1048576: true; the input reads as it did. -/
def raftVoteOnceUptoRow : OpenClaim := { program := "ytgaaffanoegbhaagreat", sum := "1b713c5c4fe700a23ec475d16e870aa5857095a1ca490d8da8a56ca35be6ba10", func := "delphi/delphilaw22.RaftVoteOnce", spec := "raftVoteOnce", unfollowed := true, recurses := true, apart := false, narrowed := true }
def RaftVoteOnceUptoSaid : Prop := raftVoteOnceUptoRow.holds Tryz.pinned (OpenSpec.upto raftVoteOnceSpec)

/-- 'delphilaw22.RaftElects', WHERE WHAT IT READS IS OF BULK AT MOST 1048576: true; the input reads as it did. -/
def raftElectsUptoRow : OpenClaim := { program := "ytgaaffanoegbhaagreat", sum := "1b713c5c4fe700a23ec475d16e870aa5857095a1ca490d8da8a56ca35be6ba10", func := "delphi/delphilaw22.RaftElects", spec := "raftElects", unfollowed := true, recurses := true, apart := false, narrowed := true }
def RaftElectsUptoSaid : Prop := raftElectsUptoRow.holds Tryz.pinned (OpenSpec.upto raftElectsSpec)

/-- 'delphilaw22.RaftReads', WHERE WHAT IT READS IS OF BULK AT MOST 1048576: true; the input reads as it did. -/
def raftReadsUptoRow : OpenClaim := { program := "ytgaaffanoegbhaagreat", sum := "1b713c5c4fe700a23ec475d16e870aa5857095a1ca490d8da8a56ca35be6ba10", func := "delphi/delphilaw22.RaftReads", spec := "raftReads", unfollowed := true, recurses := true, apart := false, narrowed := true }
def RaftReadsUptoSaid : Prop := raftReadsUptoRow.holds Tryz.pinned (OpenSpec.upto raftReadsSpec)

/-- 'delphilaw22.RaftNode', WHERE WHAT IT READS IS OF BULK AT MOST 1048576: true; the input reads as it did. -/
def raftNodeUptoRow : OpenClaim := { program := "ytgaaffanoegbhaagreat", sum := "1b713c5c4fe700a23ec475d16e870aa5857095a1ca490d8da8a56ca35be6ba10", func := "delphi/delphilaw22.RaftNode", spec := "raftNode", unfollowed := true, recurses := true, apart := false, narrowed := true }
def RaftNodeUptoSaid : Prop := raftNodeUptoRow.holds Tryz.pinned (OpenSpec.upto raftNodeSpec)

/-- 'delphilaw22.RaftGroup', WHERE WHAT IT READS IS OF BULK AT MOST 1048576: true; the input reads as it did. -/
def raftGroupUptoRow : OpenClaim := { program := "ytgaaffanoegbhaagreat", sum := "1b713c5c4fe700a23ec475d16e870aa5857095a1ca490d8da8a56ca35be6ba10", func := "delphi/delphilaw22.RaftGroup", spec := "raftGroup", unfollowed := true, recurses := true, apart := false, narrowed := true }
def RaftGroupUptoSaid : Prop := raftGroupUptoRow.holds Tryz.pinned (OpenSpec.upto raftGroupSpec)

/-- 'delphilaw22.RaftSafe', WHERE WHAT IT READS IS OF BULK AT MOST 1048576: true; the input reads as it did. -/
def raftSafeUptoRow : OpenClaim := { program := "ytgaaffanoegbhaagreat", sum := "1b713c5c4fe700a23ec475d16e870aa5857095a1ca490d8da8a56ca35be6ba10", func := "delphi/delphilaw22.RaftSafe", spec := "raftSafe", unfollowed := true, recurses := true, apart := false, narrowed := true }
def RaftSafeUptoSaid : Prop := raftSafeUptoRow.holds Tryz.pinned (OpenSpec.upto raftSafeSpec)

/-- 'delphilaw22.RaftNone', WHERE WHAT IT READS IS OF BULK AT MOST 1048576: true; the input reads as it did. -/
def raftNoneUptoRow : OpenClaim := { program := "ytgaaffanoegbhaagreat", sum := "1b713c5c4fe700a23ec475d16e870aa5857095a1ca490d8da8a56ca35be6ba10", func := "delphi/delphilaw22.RaftNone", spec := "raftNone", unfollowed := true, recurses := true, apart := false, narrowed := true }
def RaftNoneUptoSaid : Prop := raftNoneUptoRow.holds Tryz.pinned (OpenSpec.upto raftNoneSpec)

end Rows
end Go.Proofs.YtgaaffanoegbhaaGreat
