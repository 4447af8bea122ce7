/-
  No cell of these rows narrows 'for every input' (looked for: loops, veiled, ifaces, maps, wideKeys, modest, calm, conditions, laid).
  DERIVED. THE GIVEN ROWS OF THIS SEAT. 17 by the template 'for every input the law returns true; each argument reads behind the call as it read before'; 0 by the template 'total and deterministic' (their statements: YteegdhfekemhmaaTotals.lean).
  GIVEN WITH THE SEED: the statements are not yours to turn. If you find one false, say at which input.
  Laid BY PROGRAM, IN A SANDBOX (cutbox-rows.mjs): the forced cells as the released guide's own fill.sh prints them over the translation db314ede5649ffb8… (all of the seat's roots in one cut). By AI agents, Wed Nov 11 2026. No macro, syntax, notation, axiom, sorry.
-/
import Derived.Test.YteegdhfekemhmaaChecked
import GoSem.Claim
import GoSem.ClaimJoined
import GoSem.ClaimMapViews
import Derived.JoinedTies
import Derived.KernelRfl
namespace Go.Proofs.Yteegdhfekemhmaa
/- THE CELL 'sum', in the pinned program and in every row, IS THE sha256 OF THE DUMP (.gsa) THAT YteegdhfekemhmaaProg.lean LOADS. Nothing in Lean hashes anything: it is a label: what it is worth is what the hold of that sum in a sandbox is worth. -/
noncomputable def Try.pinned : Pinned := { name := "yteegdhfekemhmaa", sum := "db314ede5649ffb842cb6cff050808c926b37edd8875a6f3d0bbec7151a8be72", checked := Try.checked }
namespace Rows
def none {H : Type} : Left H := { results := [], args := [] }

/-- 'delphilaw17.CommandBytes': WHATEVER THE INPUT: true; the input reads as it did. -/
def commandBytesSpec : ChangeSpec := { name := "commandBytes", fn := fun _ => fun
  | [d1, d2, d3, d4] => { results := [.lit (.bool true)], args := [d1, d2, d3, d4] }
  | _ => none }
def commandBytesRow : OpenClaim := { program := "yteegdhfekemhmaa", sum := "db314ede5649ffb842cb6cff050808c926b37edd8875a6f3d0bbec7151a8be72", func := "delphi/delphilaw17.CommandBytes", spec := "commandBytes", apart := false }
def CommandBytesSaid : Prop := commandBytesRow.holds Try.pinned (OpenSpec.ofChange commandBytesSpec)

/-- ITS FALSE NEIGHBOUR: 'it returns false'. Refute it at one input. -/
def commandBytesWrong : ChangeSpec := { name := "commandBytes", fn := fun _ => fun
  | [d1, d2, d3, d4] => { results := [.lit (.bool false)], args := [d1, d2, d3, d4] }
  | _ => none }
def CommandBytesWrongFalsely : Prop := commandBytesRow.holds Try.pinned (OpenSpec.ofChange commandBytesWrong)

/-- 'delphilaw17.CommandBounds': WHATEVER THE INPUT: true; the input reads as it did. -/
def commandBoundsSpec : ChangeSpec := { name := "commandBounds", fn := fun _ => fun
  | [d1, d2, d3, d4] => { results := [.lit (.bool true)], args := [d1, d2, d3, d4] }
  | _ => none }
def commandBoundsRow : OpenClaim := { program := "yteegdhfekemhmaa", sum := "db314ede5649ffb842cb6cff050808c926b37edd8875a6f3d0bbec7151a8be72", func := "delphi/delphilaw17.CommandBounds", spec := "commandBounds", apart := false }
def CommandBoundsSaid : Prop := commandBoundsRow.holds Try.pinned (OpenSpec.ofChange commandBoundsSpec)

/-- ITS FALSE NEIGHBOUR: 'it returns false'. Refute it at one input. -/
def commandBoundsWrong : ChangeSpec := { name := "commandBounds", fn := fun _ => fun
  | [d1, d2, d3, d4] => { results := [.lit (.bool false)], args := [d1, d2, d3, d4] }
  | _ => none }
def CommandBoundsWrongFalsely : Prop := commandBoundsRow.holds Try.pinned (OpenSpec.ofChange commandBoundsWrong)

/-- 'delphilaw20.LogConf': WHATEVER THE INPUT: true; the input reads as it did. -/
def logConfSpec : ChangeSpec := { name := "logConf", fn := fun _ => fun
  | [d1, d2] => { results := [.lit (.bool true)], args := [d1, d2] }
  | _ => none }
def logConfRow : OpenClaim := { program := "yteegdhfekemhmaa", sum := "db314ede5649ffb842cb6cff050808c926b37edd8875a6f3d0bbec7151a8be72", func := "delphi/delphilaw20.LogConf", spec := "logConf", apart := false }
def LogConfSaid : Prop := logConfRow.holds Try.pinned (OpenSpec.ofChange logConfSpec)

/-- ITS FALSE NEIGHBOUR: 'it returns false'. Refute it at one input. -/
def logConfWrong : ChangeSpec := { name := "logConf", fn := fun _ => fun
  | [d1, d2] => { results := [.lit (.bool false)], args := [d1, d2] }
  | _ => none }
def LogConfWrongFalsely : Prop := logConfRow.holds Try.pinned (OpenSpec.ofChange logConfWrong)

/-- 'delphilaw20.LogCut': WHATEVER THE INPUT: true; the input reads as it did. -/
def logCutSpec : ChangeSpec := { name := "logCut", fn := fun _ => fun
  | [d1, d2, d3, d4] => { results := [.lit (.bool true)], args := [d1, d2, d3, d4] }
  | _ => none }
def logCutRow : OpenClaim := { program := "yteegdhfekemhmaa", sum := "db314ede5649ffb842cb6cff050808c926b37edd8875a6f3d0bbec7151a8be72", func := "delphi/delphilaw20.LogCut", spec := "logCut", apart := false }
def LogCutSaid : Prop := logCutRow.holds Try.pinned (OpenSpec.ofChange logCutSpec)

/-- ITS FALSE NEIGHBOUR: 'it returns false'. Refute it at one input. -/
def logCutWrong : ChangeSpec := { name := "logCut", fn := fun _ => fun
  | [d1, d2, d3, d4] => { results := [.lit (.bool false)], args := [d1, d2, d3, d4] }
  | _ => none }
def LogCutWrongFalsely : Prop := logCutRow.holds Try.pinned (OpenSpec.ofChange logCutWrong)

/-- 'delphilaw20.LogNone': WHATEVER THE INPUT: true; the input reads as it did. -/
def logNoneSpec : ChangeSpec := { name := "logNone", fn := fun _ => fun
  | [] => { results := [.lit (.bool true)], args := [] }
  | _ => none }
def logNoneRow : OpenClaim := { program := "yteegdhfekemhmaa", sum := "db314ede5649ffb842cb6cff050808c926b37edd8875a6f3d0bbec7151a8be72", func := "delphi/delphilaw20.LogNone", spec := "logNone", apart := false }
def LogNoneSaid : Prop := logNoneRow.holds Try.pinned (OpenSpec.ofChange logNoneSpec)

/-- ITS FALSE NEIGHBOUR: 'it returns false'. Refute it at one input. -/
def logNoneWrong : ChangeSpec := { name := "logNone", fn := fun _ => fun
  | [] => { results := [.lit (.bool false)], args := [] }
  | _ => none }
def LogNoneWrongFalsely : Prop := logNoneRow.holds Try.pinned (OpenSpec.ofChange logNoneWrong)

/-- 'delphilaw17.CommandSnap': WHATEVER THE INPUT: true; the input reads as it did. -/
def commandSnapSpec : ChangeSpec := { name := "commandSnap", fn := fun _ => fun
  | [d1, d2, d3, d4] => { results := [.lit (.bool true)], args := [d1, d2, d3, d4] }
  | _ => none }
def commandSnapRow : OpenClaim := { program := "yteegdhfekemhmaa", sum := "db314ede5649ffb842cb6cff050808c926b37edd8875a6f3d0bbec7151a8be72", func := "delphi/delphilaw17.CommandSnap", spec := "commandSnap", apart := false }
def CommandSnapSaid : Prop := commandSnapRow.holds Try.pinned (OpenSpec.ofChange commandSnapSpec)

/-- ITS FALSE NEIGHBOUR: 'it returns false'. Refute it at one input. -/
def commandSnapWrong : ChangeSpec := { name := "commandSnap", fn := fun _ => fun
  | [d1, d2, d3, d4] => { results := [.lit (.bool false)], args := [d1, d2, d3, d4] }
  | _ => none }
def CommandSnapWrongFalsely : Prop := commandSnapRow.holds Try.pinned (OpenSpec.ofChange commandSnapWrong)

/-- 'delphilaw17.CommandReply': WHATEVER THE INPUT: true; the input reads as it did. -/
def commandReplySpec : ChangeSpec := { name := "commandReply", fn := fun _ => fun
  | [d1, d2, d3] => { results := [.lit (.bool true)], args := [d1, d2, d3] }
  | _ => none }
def commandReplyRow : OpenClaim := { program := "yteegdhfekemhmaa", sum := "db314ede5649ffb842cb6cff050808c926b37edd8875a6f3d0bbec7151a8be72", func := "delphi/delphilaw17.CommandReply", spec := "commandReply", apart := false }
def CommandReplySaid : Prop := commandReplyRow.holds Try.pinned (OpenSpec.ofChange commandReplySpec)

/-- ITS FALSE NEIGHBOUR: 'it returns false'. Refute it at one input. -/
def commandReplyWrong : ChangeSpec := { name := "commandReply", fn := fun _ => fun
  | [d1, d2, d3] => { results := [.lit (.bool false)], args := [d1, d2, d3] }
  | _ => none }
def CommandReplyWrongFalsely : Prop := commandReplyRow.holds Try.pinned (OpenSpec.ofChange commandReplyWrong)

/-- 'delphilaw20.LogAll': WHATEVER THE INPUT: true; the input reads as it did. -/
def logAllSpec : ChangeSpec := { name := "logAll", fn := fun _ => fun
  | [d1, d2, d3] => { results := [.lit (.bool true)], args := [d1, d2, d3] }
  | _ => none }
def logAllRow : OpenClaim := { program := "yteegdhfekemhmaa", sum := "db314ede5649ffb842cb6cff050808c926b37edd8875a6f3d0bbec7151a8be72", func := "delphi/delphilaw20.LogAll", spec := "logAll", apart := false }
def LogAllSaid : Prop := logAllRow.holds Try.pinned (OpenSpec.ofChange logAllSpec)

/-- ITS FALSE NEIGHBOUR: 'it returns false'. Refute it at one input. -/
def logAllWrong : ChangeSpec := { name := "logAll", fn := fun _ => fun
  | [d1, d2, d3] => { results := [.lit (.bool false)], args := [d1, d2, d3] }
  | _ => none }
def LogAllWrongFalsely : Prop := logAllRow.holds Try.pinned (OpenSpec.ofChange logAllWrong)

/-- 'delphilaw17.CommandMsg': WHATEVER THE INPUT: true; the input reads as it did. -/
def commandMsgSpec : ChangeSpec := { name := "commandMsg", fn := fun _ => fun
  | [d1, d2, d3, d4] => { results := [.lit (.bool true)], args := [d1, d2, d3, d4] }
  | _ => none }
def commandMsgRow : OpenClaim := { program := "yteegdhfekemhmaa", sum := "db314ede5649ffb842cb6cff050808c926b37edd8875a6f3d0bbec7151a8be72", func := "delphi/delphilaw17.CommandMsg", spec := "commandMsg", apart := false }
def CommandMsgSaid : Prop := commandMsgRow.holds Try.pinned (OpenSpec.ofChange commandMsgSpec)

/-- ITS FALSE NEIGHBOUR: 'it returns false'. Refute it at one input. -/
def commandMsgWrong : ChangeSpec := { name := "commandMsg", fn := fun _ => fun
  | [d1, d2, d3, d4] => { results := [.lit (.bool false)], args := [d1, d2, d3, d4] }
  | _ => none }
def CommandMsgWrongFalsely : Prop := commandMsgRow.holds Try.pinned (OpenSpec.ofChange commandMsgWrong)

/-- 'delphilaw25.ClientSeq': WHATEVER THE INPUT: true; the input reads as it did. -/
def clientSeqSpec : ChangeSpec := { name := "clientSeq", fn := fun _ => fun
  | [d1, d2] => { results := [.lit (.bool true)], args := [d1, d2] }
  | _ => none }
def clientSeqRow : OpenClaim := { program := "yteegdhfekemhmaa", sum := "db314ede5649ffb842cb6cff050808c926b37edd8875a6f3d0bbec7151a8be72", func := "delphi/delphilaw25.ClientSeq", spec := "clientSeq", apart := false }
def ClientSeqSaid : Prop := clientSeqRow.holds Try.pinned (OpenSpec.ofChange clientSeqSpec)

/-- ITS FALSE NEIGHBOUR: 'it returns false'. Refute it at one input. -/
def clientSeqWrong : ChangeSpec := { name := "clientSeq", fn := fun _ => fun
  | [d1, d2] => { results := [.lit (.bool false)], args := [d1, d2] }
  | _ => none }
def ClientSeqWrongFalsely : Prop := clientSeqRow.holds Try.pinned (OpenSpec.ofChange clientSeqWrong)

/-- 'delphilaw25.ClientAll': WHATEVER THE INPUT: true; the input reads as it did. -/
def clientAllSpec : ChangeSpec := { name := "clientAll", fn := fun _ => fun
  | [d1, d2] => { results := [.lit (.bool true)], args := [d1, d2] }
  | _ => none }
def clientAllRow : OpenClaim := { program := "yteegdhfekemhmaa", sum := "db314ede5649ffb842cb6cff050808c926b37edd8875a6f3d0bbec7151a8be72", func := "delphi/delphilaw25.ClientAll", spec := "clientAll", apart := false }
def ClientAllSaid : Prop := clientAllRow.holds Try.pinned (OpenSpec.ofChange clientAllSpec)

/-- ITS FALSE NEIGHBOUR: 'it returns false'. Refute it at one input. -/
def clientAllWrong : ChangeSpec := { name := "clientAll", fn := fun _ => fun
  | [d1, d2] => { results := [.lit (.bool false)], args := [d1, d2] }
  | _ => none }
def ClientAllWrongFalsely : Prop := clientAllRow.holds Try.pinned (OpenSpec.ofChange clientAllWrong)

/-- 'delphilaw25.ClientNone': WHATEVER THE INPUT: true; the input reads as it did. -/
def clientNoneSpec : ChangeSpec := { name := "clientNone", fn := fun _ => fun
  | [] => { results := [.lit (.bool true)], args := [] }
  | _ => none }
def clientNoneRow : OpenClaim := { program := "yteegdhfekemhmaa", sum := "db314ede5649ffb842cb6cff050808c926b37edd8875a6f3d0bbec7151a8be72", func := "delphi/delphilaw25.ClientNone", spec := "clientNone", apart := false }
def ClientNoneSaid : Prop := clientNoneRow.holds Try.pinned (OpenSpec.ofChange clientNoneSpec)

/-- ITS FALSE NEIGHBOUR: 'it returns false'. Refute it at one input. -/
def clientNoneWrong : ChangeSpec := { name := "clientNone", fn := fun _ => fun
  | [] => { results := [.lit (.bool false)], args := [] }
  | _ => none }
def ClientNoneWrongFalsely : Prop := clientNoneRow.holds Try.pinned (OpenSpec.ofChange clientNoneWrong)

/-- 'delphilaw23.NetMany': WHATEVER THE INPUT: true; the input reads as it did. -/
def netManySpec : ChangeSpec := { name := "netMany", fn := fun _ => fun
  | [d] => { results := [.lit (.bool true)], args := [d] }
  | _ => none }
def netManyRow : OpenClaim := { program := "yteegdhfekemhmaa", sum := "db314ede5649ffb842cb6cff050808c926b37edd8875a6f3d0bbec7151a8be72", func := "delphi/delphilaw23.NetMany", spec := "netMany", apart := false }
def NetManySaid : Prop := netManyRow.holds Try.pinned (OpenSpec.ofChange netManySpec)

/-- ITS FALSE NEIGHBOUR: 'it returns false'. Refute it at one input. -/
def netManyWrong : ChangeSpec := { name := "netMany", fn := fun _ => fun
  | [d] => { results := [.lit (.bool false)], args := [d] }
  | _ => none }
def NetManyWrongFalsely : Prop := netManyRow.holds Try.pinned (OpenSpec.ofChange netManyWrong)

/-- 'delphilaw23.NetOrder': WHATEVER THE INPUT: true; the input reads as it did. -/
def netOrderSpec : ChangeSpec := { name := "netOrder", fn := fun _ => fun
  | [d1, d2] => { results := [.lit (.bool true)], args := [d1, d2] }
  | _ => none }
def netOrderRow : OpenClaim := { program := "yteegdhfekemhmaa", sum := "db314ede5649ffb842cb6cff050808c926b37edd8875a6f3d0bbec7151a8be72", func := "delphi/delphilaw23.NetOrder", spec := "netOrder", apart := false }
def NetOrderSaid : Prop := netOrderRow.holds Try.pinned (OpenSpec.ofChange netOrderSpec)

/-- ITS FALSE NEIGHBOUR: 'it returns false'. Refute it at one input. -/
def netOrderWrong : ChangeSpec := { name := "netOrder", fn := fun _ => fun
  | [d1, d2] => { results := [.lit (.bool false)], args := [d1, d2] }
  | _ => none }
def NetOrderWrongFalsely : Prop := netOrderRow.holds Try.pinned (OpenSpec.ofChange netOrderWrong)

/-- 'delphilaw23.NetCut': WHATEVER THE INPUT: true; the input reads as it did. -/
def netCutSpec : ChangeSpec := { name := "netCut", fn := fun _ => fun
  | [d1, d2, d3, d4] => { results := [.lit (.bool true)], args := [d1, d2, d3, d4] }
  | _ => none }
def netCutRow : OpenClaim := { program := "yteegdhfekemhmaa", sum := "db314ede5649ffb842cb6cff050808c926b37edd8875a6f3d0bbec7151a8be72", func := "delphi/delphilaw23.NetCut", spec := "netCut", apart := false }
def NetCutSaid : Prop := netCutRow.holds Try.pinned (OpenSpec.ofChange netCutSpec)

/-- ITS FALSE NEIGHBOUR: 'it returns false'. Refute it at one input. -/
def netCutWrong : ChangeSpec := { name := "netCut", fn := fun _ => fun
  | [d1, d2, d3, d4] => { results := [.lit (.bool false)], args := [d1, d2, d3, d4] }
  | _ => none }
def NetCutWrongFalsely : Prop := netCutRow.holds Try.pinned (OpenSpec.ofChange netCutWrong)

/-- 'delphilaw23.NetAll': WHATEVER THE INPUT: true; the input reads as it did. -/
def netAllSpec : ChangeSpec := { name := "netAll", fn := fun _ => fun
  | [d] => { results := [.lit (.bool true)], args := [d] }
  | _ => none }
def netAllRow : OpenClaim := { program := "yteegdhfekemhmaa", sum := "db314ede5649ffb842cb6cff050808c926b37edd8875a6f3d0bbec7151a8be72", func := "delphi/delphilaw23.NetAll", spec := "netAll", apart := false }
def NetAllSaid : Prop := netAllRow.holds Try.pinned (OpenSpec.ofChange netAllSpec)

/-- ITS FALSE NEIGHBOUR: 'it returns false'. Refute it at one input. -/
def netAllWrong : ChangeSpec := { name := "netAll", fn := fun _ => fun
  | [d] => { results := [.lit (.bool false)], args := [d] }
  | _ => none }
def NetAllWrongFalsely : Prop := netAllRow.holds Try.pinned (OpenSpec.ofChange netAllWrong)

/-- 'delphilaw23.NetNone': WHATEVER THE INPUT: true; the input reads as it did. -/
def netNoneSpec : ChangeSpec := { name := "netNone", fn := fun _ => fun
  | [] => { results := [.lit (.bool true)], args := [] }
  | _ => none }
def netNoneRow : OpenClaim := { program := "yteegdhfekemhmaa", sum := "db314ede5649ffb842cb6cff050808c926b37edd8875a6f3d0bbec7151a8be72", func := "delphi/delphilaw23.NetNone", spec := "netNone", apart := false }
def NetNoneSaid : Prop := netNoneRow.holds Try.pinned (OpenSpec.ofChange netNoneSpec)

/-- ITS FALSE NEIGHBOUR: 'it returns false'. Refute it at one input. -/
def netNoneWrong : ChangeSpec := { name := "netNone", fn := fun _ => fun
  | [] => { results := [.lit (.bool false)], args := [] }
  | _ => none }
def NetNoneWrongFalsely : Prop := netNoneRow.holds Try.pinned (OpenSpec.ofChange netNoneWrong)

/- THE SECOND FORM. 'bulk': how many values and letters a reading holds, each counted each time it is reached (what is shared counts as often as it is met; a slice's spare places count too). A statement '..UptoSaid' is the law's where the arguments, and the package variables that the reading takes, are together of bulk at most 1048576: NARROWER than '..Said'. Prove '..Said' where nothing that the law and all that it calls make is longer than what came in: it says more and counts as full. Else prove '..UptoSaid'. A law counts once. -/
mutual
def uptoBulk {H : Type} : DataW H → Nat
  | .lit (.string bytes) => bytes.length + 1
  | .lit _ => 1
  | .nil => 1
  | .ptr d => uptoBulk d + 1
  | .slice elems spare => uptoBulkAll elems + uptoBulkAll spare + 1
  | .agg parts => uptoBulkAll parts + 1
  | .iface _ d => uptoBulk d + 1
  | .map entries => uptoBulkEntries entries + 1
  | .held _ => 1
def uptoBulkAll {H : Type} : List (DataW H) → Nat
  | [] => 0
  | d :: r => uptoBulk d + uptoBulkAll r
def uptoBulkEntries {H : Type} : List (Lit × DataW H) → Nat
  | [] => 0
  | x :: r => uptoBulkEntry x + uptoBulkEntries r
def uptoBulkEntry {H : Type} : Lit × DataW H → Nat
  | (.string bytes, d) => bytes.length + uptoBulk d + 1
  | (_, d) => uptoBulk d + 1
 end
def uptoSmall : (H : Type) → List (DataW H) → Bool := fun _ ds => decide (uptoBulkAll ds ≤ 1048576)
def OpenSpec.upto (s : _root_.Go.ChangeSpec) : _root_.Go.OpenSpec := { _root_.Go.OpenSpec.ofChange s with cond := some uptoSmall }

/-- 'delphilaw17.CommandBytes', WHERE WHAT IT READS IS OF BULK AT MOST 1048576: true; the input reads as it did. -/
def commandBytesUptoRow : OpenClaim := { program := "yteegdhfekemhmaa", sum := "db314ede5649ffb842cb6cff050808c926b37edd8875a6f3d0bbec7151a8be72", func := "delphi/delphilaw17.CommandBytes", spec := "commandBytes", apart := false, narrowed := true }
def CommandBytesUptoSaid : Prop := commandBytesUptoRow.holds Try.pinned (OpenSpec.upto commandBytesSpec)

/-- 'delphilaw17.CommandBounds', WHERE WHAT IT READS IS OF BULK AT MOST 1048576: true; the input reads as it did. -/
def commandBoundsUptoRow : OpenClaim := { program := "yteegdhfekemhmaa", sum := "db314ede5649ffb842cb6cff050808c926b37edd8875a6f3d0bbec7151a8be72", func := "delphi/delphilaw17.CommandBounds", spec := "commandBounds", apart := false, narrowed := true }
def CommandBoundsUptoSaid : Prop := commandBoundsUptoRow.holds Try.pinned (OpenSpec.upto commandBoundsSpec)

/-- 'delphilaw20.LogConf', WHERE WHAT IT READS IS OF BULK AT MOST 1048576: true; the input reads as it did. -/
def logConfUptoRow : OpenClaim := { program := "yteegdhfekemhmaa", sum := "db314ede5649ffb842cb6cff050808c926b37edd8875a6f3d0bbec7151a8be72", func := "delphi/delphilaw20.LogConf", spec := "logConf", apart := false, narrowed := true }
def LogConfUptoSaid : Prop := logConfUptoRow.holds Try.pinned (OpenSpec.upto logConfSpec)

/-- 'delphilaw20.LogCut', WHERE WHAT IT READS IS OF BULK AT MOST 1048576: true; the input reads as it did. -/
def logCutUptoRow : OpenClaim := { program := "yteegdhfekemhmaa", sum := "db314ede5649ffb842cb6cff050808c926b37edd8875a6f3d0bbec7151a8be72", func := "delphi/delphilaw20.LogCut", spec := "logCut", apart := false, narrowed := true }
def LogCutUptoSaid : Prop := logCutUptoRow.holds Try.pinned (OpenSpec.upto logCutSpec)

/-- 'delphilaw20.LogNone', WHERE WHAT IT READS IS OF BULK AT MOST 1048576: true; the input reads as it did. -/
def logNoneUptoRow : OpenClaim := { program := "yteegdhfekemhmaa", sum := "db314ede5649ffb842cb6cff050808c926b37edd8875a6f3d0bbec7151a8be72", func := "delphi/delphilaw20.LogNone", spec := "logNone", apart := false, narrowed := true }
def LogNoneUptoSaid : Prop := logNoneUptoRow.holds Try.pinned (OpenSpec.upto logNoneSpec)

/-- 'delphilaw17.CommandSnap', WHERE WHAT IT READS IS OF BULK AT MOST 1048576: true; the input reads as it did. -/
def commandSnapUptoRow : OpenClaim := { program := "yteegdhfekemhmaa", sum := "db314ede5649ffb842cb6cff050808c926b37edd8875a6f3d0bbec7151a8be72", func := "delphi/delphilaw17.CommandSnap", spec := "commandSnap", apart := false, narrowed := true }
def CommandSnapUptoSaid : Prop := commandSnapUptoRow.holds Try.pinned (OpenSpec.upto commandSnapSpec)

/-- 'delphilaw17.CommandReply', WHERE WHAT IT READS IS OF BULK AT MOST 1048576: true; the input reads as it did. -/
def commandReplyUptoRow : OpenClaim := { program := "yteegdhfekemhmaa", sum := "db314ede5649ffb842cb6cff050808c926b37edd8875a6f3d0bbec7151a8be72", func := "delphi/delphilaw17.CommandReply", spec := "commandReply", apart := false, narrowed := true }
def CommandReplyUptoSaid : Prop := commandReplyUptoRow.holds Try.pinned (OpenSpec.upto commandReplySpec)

/-- 'delphilaw20.LogAll', WHERE WHAT IT READS IS OF BULK AT MOST 1048576: true; the input reads as it did. -/
def logAllUptoRow : OpenClaim := { program := "yteegdhfekemhmaa", sum := "db314ede5649ffb842cb6cff050808c926b37edd8875a6f3d0bbec7151a8be72", func := "delphi/delphilaw20.LogAll", spec := "logAll", apart := false, narrowed := true }
def LogAllUptoSaid : Prop := logAllUptoRow.holds Try.pinned (OpenSpec.upto logAllSpec)

/-- 'delphilaw17.CommandMsg', WHERE WHAT IT READS IS OF BULK AT MOST 1048576: true; the input reads as it did. -/
def commandMsgUptoRow : OpenClaim := { program := "yteegdhfekemhmaa", sum := "db314ede5649ffb842cb6cff050808c926b37edd8875a6f3d0bbec7151a8be72", func := "delphi/delphilaw17.CommandMsg", spec := "commandMsg", apart := false, narrowed := true }
def CommandMsgUptoSaid : Prop := commandMsgUptoRow.holds Try.pinned (OpenSpec.upto commandMsgSpec)

/-- 'delphilaw25.ClientSeq', WHERE WHAT IT READS IS OF BULK AT MOST 1048576: true; the input reads as it did. -/
def clientSeqUptoRow : OpenClaim := { program := "yteegdhfekemhmaa", sum := "db314ede5649ffb842cb6cff050808c926b37edd8875a6f3d0bbec7151a8be72", func := "delphi/delphilaw25.ClientSeq", spec := "clientSeq", apart := false, narrowed := true }
def ClientSeqUptoSaid : Prop := clientSeqUptoRow.holds Try.pinned (OpenSpec.upto clientSeqSpec)

/-- 'delphilaw25.ClientAll', WHERE WHAT IT READS IS OF BULK AT MOST 1048576: true; the input reads as it did. -/
def clientAllUptoRow : OpenClaim := { program := "yteegdhfekemhmaa", sum := "db314ede5649ffb842cb6cff050808c926b37edd8875a6f3d0bbec7151a8be72", func := "delphi/delphilaw25.ClientAll", spec := "clientAll", apart := false, narrowed := true }
def ClientAllUptoSaid : Prop := clientAllUptoRow.holds Try.pinned (OpenSpec.upto clientAllSpec)

/-- 'delphilaw25.ClientNone', WHERE WHAT IT READS IS OF BULK AT MOST 1048576: true; the input reads as it did. -/
def clientNoneUptoRow : OpenClaim := { program := "yteegdhfekemhmaa", sum := "db314ede5649ffb842cb6cff050808c926b37edd8875a6f3d0bbec7151a8be72", func := "delphi/delphilaw25.ClientNone", spec := "clientNone", apart := false, narrowed := true }
def ClientNoneUptoSaid : Prop := clientNoneUptoRow.holds Try.pinned (OpenSpec.upto clientNoneSpec)

/-- 'delphilaw23.NetMany', WHERE WHAT IT READS IS OF BULK AT MOST 1048576: true; the input reads as it did. -/
def netManyUptoRow : OpenClaim := { program := "yteegdhfekemhmaa", sum := "db314ede5649ffb842cb6cff050808c926b37edd8875a6f3d0bbec7151a8be72", func := "delphi/delphilaw23.NetMany", spec := "netMany", apart := false, narrowed := true }
def NetManyUptoSaid : Prop := netManyUptoRow.holds Try.pinned (OpenSpec.upto netManySpec)

/-- 'delphilaw23.NetOrder', WHERE WHAT IT READS IS OF BULK AT MOST 1048576: true; the input reads as it did. -/
def netOrderUptoRow : OpenClaim := { program := "yteegdhfekemhmaa", sum := "db314ede5649ffb842cb6cff050808c926b37edd8875a6f3d0bbec7151a8be72", func := "delphi/delphilaw23.NetOrder", spec := "netOrder", apart := false, narrowed := true }
def NetOrderUptoSaid : Prop := netOrderUptoRow.holds Try.pinned (OpenSpec.upto netOrderSpec)

/-- 'delphilaw23.NetCut', WHERE WHAT IT READS IS OF BULK AT MOST 1048576: true; the input reads as it did. -/
def netCutUptoRow : OpenClaim := { program := "yteegdhfekemhmaa", sum := "db314ede5649ffb842cb6cff050808c926b37edd8875a6f3d0bbec7151a8be72", func := "delphi/delphilaw23.NetCut", spec := "netCut", apart := false, narrowed := true }
def NetCutUptoSaid : Prop := netCutUptoRow.holds Try.pinned (OpenSpec.upto netCutSpec)

/-- 'delphilaw23.NetAll', WHERE WHAT IT READS IS OF BULK AT MOST 1048576: true; the input reads as it did. -/
def netAllUptoRow : OpenClaim := { program := "yteegdhfekemhmaa", sum := "db314ede5649ffb842cb6cff050808c926b37edd8875a6f3d0bbec7151a8be72", func := "delphi/delphilaw23.NetAll", spec := "netAll", apart := false, narrowed := true }
def NetAllUptoSaid : Prop := netAllUptoRow.holds Try.pinned (OpenSpec.upto netAllSpec)

/-- 'delphilaw23.NetNone', WHERE WHAT IT READS IS OF BULK AT MOST 1048576: true; the input reads as it did. -/
def netNoneUptoRow : OpenClaim := { program := "yteegdhfekemhmaa", sum := "db314ede5649ffb842cb6cff050808c926b37edd8875a6f3d0bbec7151a8be72", func := "delphi/delphilaw23.NetNone", spec := "netNone", apart := false, narrowed := true }
def NetNoneUptoSaid : Prop := netNoneUptoRow.holds Try.pinned (OpenSpec.upto netNoneSpec)

end Rows
end Go.Proofs.Yteegdhfekemhmaa
