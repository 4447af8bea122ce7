/-
  No cell of these rows narrows 'for every input' (looked for: loops, veiled, ifaces, maps, wideKeys, modest, calm, conditions, laid).
  DERIVED. THE GIVEN ROWS OF THIS SEAT. 15 by the template 'for every input the law returns true; each argument reads behind the call as it read before'; 0 by the template 'total and deterministic' (their statements: YtjlfojgacnphmaaTotals.lean).
  GIVEN WITH THE SEED: the statements are not yours to turn. If you find one false, say at which input.
  Laid BY PROGRAM, IN A SANDBOX (cutbox-rows.mjs): the forced cells as the released guide's own fill.sh prints them over the translation e591ececd60d8b25… (all of the seat's roots in one cut). By AI agents, Wed Nov 11 2026. No macro, syntax, notation, axiom, sorry.
-/
import Derived.Test.YtjlfojgacnphmaaChecked
import GoSem.Claim
import GoSem.ClaimJoined
import GoSem.ClaimMapViews
import Derived.JoinedTies
import Derived.KernelRfl
namespace Go.Proofs.Ytjlfojgacnphmaa
/- THE CELL 'sum', in the pinned program and in every row, IS THE sha256 OF THE DUMP (.gsa) THAT YtjlfojgacnphmaaProg.lean LOADS. Nothing in Lean hashes anything: it is a label: what it is worth is what the hold of that sum in a sandbox is worth. -/
noncomputable def Try.pinned : Pinned := { name := "ytjlfojgacnphmaa", sum := "e591ececd60d8b2573da1946642607adeb3a8dd70b333125f7065eea35e32da9", checked := Try.checked }
namespace Rows
def none {H : Type} : Left H := { results := [], args := [] }

/-- 'delphilaw4.WalFull': WHATEVER THE INPUT: true; the input reads as it did. -/
def walFullSpec : ChangeSpec := { name := "walFull", fn := fun _ => fun
  | [d1, d2] => { results := [.lit (.bool true)], args := [d1, d2] }
  | _ => none }
def walFullRow : OpenClaim := { program := "ytjlfojgacnphmaa", sum := "e591ececd60d8b2573da1946642607adeb3a8dd70b333125f7065eea35e32da9", func := "delphi/delphilaw4.WalFull", spec := "walFull", inPlace := ["maps.clone"], apart := false }
def WalFullSaid : Prop := walFullRow.holds Try.pinned (OpenSpec.ofChange walFullSpec)

/-- ITS FALSE NEIGHBOUR: 'it returns false'. Refute it at one input. -/
def walFullWrong : ChangeSpec := { name := "walFull", fn := fun _ => fun
  | [d1, d2] => { results := [.lit (.bool false)], args := [d1, d2] }
  | _ => none }
def WalFullWrongFalsely : Prop := walFullRow.holds Try.pinned (OpenSpec.ofChange walFullWrong)

/-- 'delphilaw4.WalAgain': WHATEVER THE INPUT: true; the input reads as it did. -/
def walAgainSpec : ChangeSpec := { name := "walAgain", fn := fun _ => fun
  | [d1, d2, d3, d4] => { results := [.lit (.bool true)], args := [d1, d2, d3, d4] }
  | _ => none }
def walAgainRow : OpenClaim := { program := "ytjlfojgacnphmaa", sum := "e591ececd60d8b2573da1946642607adeb3a8dd70b333125f7065eea35e32da9", func := "delphi/delphilaw4.WalAgain", spec := "walAgain", inPlace := ["maps.clone"], apart := false }
def WalAgainSaid : Prop := walAgainRow.holds Try.pinned (OpenSpec.ofChange walAgainSpec)

/-- ITS FALSE NEIGHBOUR: 'it returns false'. Refute it at one input. -/
def walAgainWrong : ChangeSpec := { name := "walAgain", fn := fun _ => fun
  | [d1, d2, d3, d4] => { results := [.lit (.bool false)], args := [d1, d2, d3, d4] }
  | _ => none }
def WalAgainWrongFalsely : Prop := walAgainRow.holds Try.pinned (OpenSpec.ofChange walAgainWrong)

/-- 'delphilaw4.WalAll': WHATEVER THE INPUT: true; the input reads as it did. -/
def walAllSpec : ChangeSpec := { name := "walAll", fn := fun _ => fun
  | [d] => { results := [.lit (.bool true)], args := [d] }
  | _ => none }
def walAllRow : OpenClaim := { program := "ytjlfojgacnphmaa", sum := "e591ececd60d8b2573da1946642607adeb3a8dd70b333125f7065eea35e32da9", func := "delphi/delphilaw4.WalAll", spec := "walAll", inPlace := ["maps.clone"], apart := false }
def WalAllSaid : Prop := walAllRow.holds Try.pinned (OpenSpec.ofChange walAllSpec)

/-- ITS FALSE NEIGHBOUR: 'it returns false'. Refute it at one input. -/
def walAllWrong : ChangeSpec := { name := "walAll", fn := fun _ => fun
  | [d] => { results := [.lit (.bool false)], args := [d] }
  | _ => none }
def WalAllWrongFalsely : Prop := walAllRow.holds Try.pinned (OpenSpec.ofChange walAllWrong)

/-- 'delphilaw4.WalCrash': WHATEVER THE INPUT: true; the input reads as it did. -/
def walCrashSpec : ChangeSpec := { name := "walCrash", fn := fun _ => fun
  | [d1, d2, d3, d4] => { results := [.lit (.bool true)], args := [d1, d2, d3, d4] }
  | _ => none }
def walCrashRow : OpenClaim := { program := "ytjlfojgacnphmaa", sum := "e591ececd60d8b2573da1946642607adeb3a8dd70b333125f7065eea35e32da9", func := "delphi/delphilaw4.WalCrash", spec := "walCrash", inPlace := ["maps.clone"], apart := false }
def WalCrashSaid : Prop := walCrashRow.holds Try.pinned (OpenSpec.ofChange walCrashSpec)

/-- ITS FALSE NEIGHBOUR: 'it returns false'. Refute it at one input. -/
def walCrashWrong : ChangeSpec := { name := "walCrash", fn := fun _ => fun
  | [d1, d2, d3, d4] => { results := [.lit (.bool false)], args := [d1, d2, d3, d4] }
  | _ => none }
def WalCrashWrongFalsely : Prop := walCrashRow.holds Try.pinned (OpenSpec.ofChange walCrashWrong)

/-- 'delphilaw4.WalNone': WHATEVER THE INPUT: true; the input reads as it did. -/
def walNoneSpec : ChangeSpec := { name := "walNone", fn := fun _ => fun
  | [] => { results := [.lit (.bool true)], args := [] }
  | _ => none }
def walNoneRow : OpenClaim := { program := "ytjlfojgacnphmaa", sum := "e591ececd60d8b2573da1946642607adeb3a8dd70b333125f7065eea35e32da9", func := "delphi/delphilaw4.WalNone", spec := "walNone", inPlace := ["maps.clone"], apart := false }
def WalNoneSaid : Prop := walNoneRow.holds Try.pinned (OpenSpec.ofChange walNoneSpec)

/-- ITS FALSE NEIGHBOUR: 'it returns false'. Refute it at one input. -/
def walNoneWrong : ChangeSpec := { name := "walNone", fn := fun _ => fun
  | [] => { results := [.lit (.bool false)], args := [] }
  | _ => none }
def WalNoneWrongFalsely : Prop := walNoneRow.holds Try.pinned (OpenSpec.ofChange walNoneWrong)

/-- 'delphilaw4.WalEnds': WHATEVER THE INPUT: true; the input reads as it did. -/
def walEndsSpec : ChangeSpec := { name := "walEnds", fn := fun _ => fun
  | [d1, d2, d3, d4] => { results := [.lit (.bool true)], args := [d1, d2, d3, d4] }
  | _ => none }
def walEndsRow : OpenClaim := { program := "ytjlfojgacnphmaa", sum := "e591ececd60d8b2573da1946642607adeb3a8dd70b333125f7065eea35e32da9", func := "delphi/delphilaw4.WalEnds", spec := "walEnds", inPlace := ["maps.clone"], apart := false }
def WalEndsSaid : Prop := walEndsRow.holds Try.pinned (OpenSpec.ofChange walEndsSpec)

/-- ITS FALSE NEIGHBOUR: 'it returns false'. Refute it at one input. -/
def walEndsWrong : ChangeSpec := { name := "walEnds", fn := fun _ => fun
  | [d1, d2, d3, d4] => { results := [.lit (.bool false)], args := [d1, d2, d3, d4] }
  | _ => none }
def WalEndsWrongFalsely : Prop := walEndsRow.holds Try.pinned (OpenSpec.ofChange walEndsWrong)

/-- 'delphilaw3.DiskMany': WHATEVER THE INPUT: true; the input reads as it did. -/
def diskManySpec : ChangeSpec := { name := "diskMany", fn := fun _ => fun
  | [d] => { results := [.lit (.bool true)], args := [d] }
  | _ => none }
def diskManyRow : OpenClaim := { program := "ytjlfojgacnphmaa", sum := "e591ececd60d8b2573da1946642607adeb3a8dd70b333125f7065eea35e32da9", func := "delphi/delphilaw3.DiskMany", spec := "diskMany", inPlace := ["maps.clone"], unfollowed := true, recurses := true, apart := false }
def DiskManySaid : Prop := diskManyRow.holds Try.pinned (OpenSpec.ofChange diskManySpec)

/-- ITS FALSE NEIGHBOUR: 'it returns false'. Refute it at one input. -/
def diskManyWrong : ChangeSpec := { name := "diskMany", fn := fun _ => fun
  | [d] => { results := [.lit (.bool false)], args := [d] }
  | _ => none }
def DiskManyWrongFalsely : Prop := diskManyRow.holds Try.pinned (OpenSpec.ofChange diskManyWrong)

/-- 'delphilaw3.DiskTorn': WHATEVER THE INPUT: true; the input reads as it did. -/
def diskTornSpec : ChangeSpec := { name := "diskTorn", fn := fun _ => fun
  | [d1, d2, d3] => { results := [.lit (.bool true)], args := [d1, d2, d3] }
  | _ => none }
def diskTornRow : OpenClaim := { program := "ytjlfojgacnphmaa", sum := "e591ececd60d8b2573da1946642607adeb3a8dd70b333125f7065eea35e32da9", func := "delphi/delphilaw3.DiskTorn", spec := "diskTorn", inPlace := ["maps.clone"], unfollowed := true, recurses := true, apart := false }
def DiskTornSaid : Prop := diskTornRow.holds Try.pinned (OpenSpec.ofChange diskTornSpec)

/-- ITS FALSE NEIGHBOUR: 'it returns false'. Refute it at one input. -/
def diskTornWrong : ChangeSpec := { name := "diskTorn", fn := fun _ => fun
  | [d1, d2, d3] => { results := [.lit (.bool false)], args := [d1, d2, d3] }
  | _ => none }
def DiskTornWrongFalsely : Prop := diskTornRow.holds Try.pinned (OpenSpec.ofChange diskTornWrong)

/-- 'delphilaw3.DiskMoves': WHATEVER THE INPUT: true; the input reads as it did. -/
def diskMovesSpec : ChangeSpec := { name := "diskMoves", fn := fun _ => fun
  | [d1, d2, d3, d4] => { results := [.lit (.bool true)], args := [d1, d2, d3, d4] }
  | _ => none }
def diskMovesRow : OpenClaim := { program := "ytjlfojgacnphmaa", sum := "e591ececd60d8b2573da1946642607adeb3a8dd70b333125f7065eea35e32da9", func := "delphi/delphilaw3.DiskMoves", spec := "diskMoves", inPlace := ["maps.clone"], unfollowed := true, recurses := true, apart := false }
def DiskMovesSaid : Prop := diskMovesRow.holds Try.pinned (OpenSpec.ofChange diskMovesSpec)

/-- ITS FALSE NEIGHBOUR: 'it returns false'. Refute it at one input. -/
def diskMovesWrong : ChangeSpec := { name := "diskMoves", fn := fun _ => fun
  | [d1, d2, d3, d4] => { results := [.lit (.bool false)], args := [d1, d2, d3, d4] }
  | _ => none }
def DiskMovesWrongFalsely : Prop := diskMovesRow.holds Try.pinned (OpenSpec.ofChange diskMovesWrong)

/-- 'delphilaw3.DiskNone': WHATEVER THE INPUT: true; the input reads as it did. -/
def diskNoneSpec : ChangeSpec := { name := "diskNone", fn := fun _ => fun
  | [] => { results := [.lit (.bool true)], args := [] }
  | _ => none }
def diskNoneRow : OpenClaim := { program := "ytjlfojgacnphmaa", sum := "e591ececd60d8b2573da1946642607adeb3a8dd70b333125f7065eea35e32da9", func := "delphi/delphilaw3.DiskNone", spec := "diskNone", inPlace := ["maps.clone"], unfollowed := true, recurses := true, apart := false }
def DiskNoneSaid : Prop := diskNoneRow.holds Try.pinned (OpenSpec.ofChange diskNoneSpec)

/-- ITS FALSE NEIGHBOUR: 'it returns false'. Refute it at one input. -/
def diskNoneWrong : ChangeSpec := { name := "diskNone", fn := fun _ => fun
  | [] => { results := [.lit (.bool false)], args := [] }
  | _ => none }
def DiskNoneWrongFalsely : Prop := diskNoneRow.holds Try.pinned (OpenSpec.ofChange diskNoneWrong)

/-- 'delphilaw5.KeepVotes': WHATEVER THE INPUT: true; the input reads as it did. -/
def keepVotesSpec : ChangeSpec := { name := "keepVotes", fn := fun _ => fun
  | [d1, d2, d3] => { results := [.lit (.bool true)], args := [d1, d2, d3] }
  | _ => none }
def keepVotesRow : OpenClaim := { program := "ytjlfojgacnphmaa", sum := "e591ececd60d8b2573da1946642607adeb3a8dd70b333125f7065eea35e32da9", func := "delphi/delphilaw5.KeepVotes", spec := "keepVotes", inPlace := ["maps.clone"], unfollowed := true, recurses := true, apart := false }
def KeepVotesSaid : Prop := keepVotesRow.holds Try.pinned (OpenSpec.ofChange keepVotesSpec)

/-- ITS FALSE NEIGHBOUR: 'it returns false'. Refute it at one input. -/
def keepVotesWrong : ChangeSpec := { name := "keepVotes", fn := fun _ => fun
  | [d1, d2, d3] => { results := [.lit (.bool false)], args := [d1, d2, d3] }
  | _ => none }
def KeepVotesWrongFalsely : Prop := keepVotesRow.holds Try.pinned (OpenSpec.ofChange keepVotesWrong)

/-- 'delphilaw5.KeepAll': WHATEVER THE INPUT: true; the input reads as it did. -/
def keepAllSpec : ChangeSpec := { name := "keepAll", fn := fun _ => fun
  | [d] => { results := [.lit (.bool true)], args := [d] }
  | _ => none }
def keepAllRow : OpenClaim := { program := "ytjlfojgacnphmaa", sum := "e591ececd60d8b2573da1946642607adeb3a8dd70b333125f7065eea35e32da9", func := "delphi/delphilaw5.KeepAll", spec := "keepAll", inPlace := ["maps.clone"], unfollowed := true, recurses := true, apart := false }
def KeepAllSaid : Prop := keepAllRow.holds Try.pinned (OpenSpec.ofChange keepAllSpec)

/-- ITS FALSE NEIGHBOUR: 'it returns false'. Refute it at one input. -/
def keepAllWrong : ChangeSpec := { name := "keepAll", fn := fun _ => fun
  | [d] => { results := [.lit (.bool false)], args := [d] }
  | _ => none }
def KeepAllWrongFalsely : Prop := keepAllRow.holds Try.pinned (OpenSpec.ofChange keepAllWrong)

/-- 'delphilaw5.KeepNone': WHATEVER THE INPUT: true; the input reads as it did. -/
def keepNoneSpec : ChangeSpec := { name := "keepNone", fn := fun _ => fun
  | [] => { results := [.lit (.bool true)], args := [] }
  | _ => none }
def keepNoneRow : OpenClaim := { program := "ytjlfojgacnphmaa", sum := "e591ececd60d8b2573da1946642607adeb3a8dd70b333125f7065eea35e32da9", func := "delphi/delphilaw5.KeepNone", spec := "keepNone", inPlace := ["maps.clone"], unfollowed := true, recurses := true, apart := false }
def KeepNoneSaid : Prop := keepNoneRow.holds Try.pinned (OpenSpec.ofChange keepNoneSpec)

/-- ITS FALSE NEIGHBOUR: 'it returns false'. Refute it at one input. -/
def keepNoneWrong : ChangeSpec := { name := "keepNone", fn := fun _ => fun
  | [] => { results := [.lit (.bool false)], args := [] }
  | _ => none }
def KeepNoneWrongFalsely : Prop := keepNoneRow.holds Try.pinned (OpenSpec.ofChange keepNoneWrong)

/-- 'delphilaw5.KeepGrows': WHATEVER THE INPUT: true; the input reads as it did. -/
def keepGrowsSpec : ChangeSpec := { name := "keepGrows", fn := fun _ => fun
  | [d1, d2] => { results := [.lit (.bool true)], args := [d1, d2] }
  | _ => none }
def keepGrowsRow : OpenClaim := { program := "ytjlfojgacnphmaa", sum := "e591ececd60d8b2573da1946642607adeb3a8dd70b333125f7065eea35e32da9", func := "delphi/delphilaw5.KeepGrows", spec := "keepGrows", inPlace := ["maps.clone"], unfollowed := true, recurses := true, apart := false }
def KeepGrowsSaid : Prop := keepGrowsRow.holds Try.pinned (OpenSpec.ofChange keepGrowsSpec)

/-- ITS FALSE NEIGHBOUR: 'it returns false'. Refute it at one input. -/
def keepGrowsWrong : ChangeSpec := { name := "keepGrows", fn := fun _ => fun
  | [d1, d2] => { results := [.lit (.bool false)], args := [d1, d2] }
  | _ => none }
def KeepGrowsWrongFalsely : Prop := keepGrowsRow.holds Try.pinned (OpenSpec.ofChange keepGrowsWrong)

/-- 'delphilaw5.KeepCrash': WHATEVER THE INPUT: true; the input reads as it did. -/
def keepCrashSpec : ChangeSpec := { name := "keepCrash", fn := fun _ => fun
  | [d1, d2, d3, d4, d5] => { results := [.lit (.bool true)], args := [d1, d2, d3, d4, d5] }
  | _ => none }
def keepCrashRow : OpenClaim := { program := "ytjlfojgacnphmaa", sum := "e591ececd60d8b2573da1946642607adeb3a8dd70b333125f7065eea35e32da9", func := "delphi/delphilaw5.KeepCrash", spec := "keepCrash", inPlace := ["maps.clone"], unfollowed := true, recurses := true, apart := false }
def KeepCrashSaid : Prop := keepCrashRow.holds Try.pinned (OpenSpec.ofChange keepCrashSpec)

/-- ITS FALSE NEIGHBOUR: 'it returns false'. Refute it at one input. -/
def keepCrashWrong : ChangeSpec := { name := "keepCrash", fn := fun _ => fun
  | [d1, d2, d3, d4, d5] => { results := [.lit (.bool false)], args := [d1, d2, d3, d4, d5] }
  | _ => none }
def KeepCrashWrongFalsely : Prop := keepCrashRow.holds Try.pinned (OpenSpec.ofChange keepCrashWrong)

/- THE SECOND FORM. 'bulk': how many values and letters a reading holds, each counted each time it is reached (what is shared counts as often as it is met; a slice's spare places count too). A statement '..UptoSaid' is the law's where the arguments, and the package variables that the reading takes, are together of bulk at most 1048576: NARROWER than '..Said'. Prove '..Said' where nothing that the law and all that it calls make is longer than what came in: it says more and counts as full. Else prove '..UptoSaid'. A law counts once. -/
mutual
def uptoBulk {H : Type} : DataW H → Nat
  | .lit (.string bytes) => bytes.length + 1
  | .lit _ => 1
  | .nil => 1
  | .ptr d => uptoBulk d + 1
  | .slice elems spare => uptoBulkAll elems + uptoBulkAll spare + 1
  | .agg parts => uptoBulkAll parts + 1
  | .iface _ d => uptoBulk d + 1
  | .map entries => uptoBulkEntries entries + 1
  | .held _ => 1
def uptoBulkAll {H : Type} : List (DataW H) → Nat
  | [] => 0
  | d :: r => uptoBulk d + uptoBulkAll r
def uptoBulkEntries {H : Type} : List (Lit × DataW H) → Nat
  | [] => 0
  | x :: r => uptoBulkEntry x + uptoBulkEntries r
def uptoBulkEntry {H : Type} : Lit × DataW H → Nat
  | (.string bytes, d) => bytes.length + uptoBulk d + 1
  | (_, d) => uptoBulk d + 1
 end
def uptoSmall : (H : Type) → List (DataW H) → Bool := fun _ ds => decide (uptoBulkAll ds ≤ 1048576)
def OpenSpec.upto (s : _root_.Go.ChangeSpec) : _root_.Go.OpenSpec := { _root_.Go.OpenSpec.ofChange s with cond := some uptoSmall }

/-- 'delphilaw4.WalFull', WHERE WHAT IT READS IS OF BULK AT MOST 1048576: true; the input reads as it did. -/
def walFullUptoRow : OpenClaim := { program := "ytjlfojgacnphmaa", sum := "e591ececd60d8b2573da1946642607adeb3a8dd70b333125f7065eea35e32da9", func := "delphi/delphilaw4.WalFull", spec := "walFull", inPlace := ["maps.clone"], apart := false, narrowed := true }
def WalFullUptoSaid : Prop := walFullUptoRow.holds Try.pinned (OpenSpec.upto walFullSpec)

/-- 'delphilaw4.WalAgain', WHERE WHAT IT READS IS OF BULK AT MOST 1048576: true; the input reads as it did. -/
def walAgainUptoRow : OpenClaim := { program := "ytjlfojgacnphmaa", sum := "e591ececd60d8b2573da1946642607adeb3a8dd70b333125f7065eea35e32da9", func := "delphi/delphilaw4.WalAgain", spec := "walAgain", inPlace := ["maps.clone"], apart := false, narrowed := true }
def WalAgainUptoSaid : Prop := walAgainUptoRow.holds Try.pinned (OpenSpec.upto walAgainSpec)

/-- 'delphilaw4.WalAll', WHERE WHAT IT READS IS OF BULK AT MOST 1048576: true; the input reads as it did. -/
def walAllUptoRow : OpenClaim := { program := "ytjlfojgacnphmaa", sum := "e591ececd60d8b2573da1946642607adeb3a8dd70b333125f7065eea35e32da9", func := "delphi/delphilaw4.WalAll", spec := "walAll", inPlace := ["maps.clone"], apart := false, narrowed := true }
def WalAllUptoSaid : Prop := walAllUptoRow.holds Try.pinned (OpenSpec.upto walAllSpec)

/-- 'delphilaw4.WalCrash', WHERE WHAT IT READS IS OF BULK AT MOST 1048576: true; the input reads as it did. -/
def walCrashUptoRow : OpenClaim := { program := "ytjlfojgacnphmaa", sum := "e591ececd60d8b2573da1946642607adeb3a8dd70b333125f7065eea35e32da9", func := "delphi/delphilaw4.WalCrash", spec := "walCrash", inPlace := ["maps.clone"], apart := false, narrowed := true }
def WalCrashUptoSaid : Prop := walCrashUptoRow.holds Try.pinned (OpenSpec.upto walCrashSpec)

/-- 'delphilaw4.WalNone', WHERE WHAT IT READS IS OF BULK AT MOST 1048576: true; the input reads as it did. -/
def walNoneUptoRow : OpenClaim := { program := "ytjlfojgacnphmaa", sum := "e591ececd60d8b2573da1946642607adeb3a8dd70b333125f7065eea35e32da9", func := "delphi/delphilaw4.WalNone", spec := "walNone", inPlace := ["maps.clone"], apart := false, narrowed := true }
def WalNoneUptoSaid : Prop := walNoneUptoRow.holds Try.pinned (OpenSpec.upto walNoneSpec)

/-- 'delphilaw4.WalEnds', WHERE WHAT IT READS IS OF BULK AT MOST 1048576: true; the input reads as it did. -/
def walEndsUptoRow : OpenClaim := { program := "ytjlfojgacnphmaa", sum := "e591ececd60d8b2573da1946642607adeb3a8dd70b333125f7065eea35e32da9", func := "delphi/delphilaw4.WalEnds", spec := "walEnds", inPlace := ["maps.clone"], apart := false, narrowed := true }
def WalEndsUptoSaid : Prop := walEndsUptoRow.holds Try.pinned (OpenSpec.upto walEndsSpec)

/-- 'delphilaw3.DiskMany', WHERE WHAT IT READS IS OF BULK AT MOST 1048576: true; the input reads as it did. -/
def diskManyUptoRow : OpenClaim := { program := "ytjlfojgacnphmaa", sum := "e591ececd60d8b2573da1946642607adeb3a8dd70b333125f7065eea35e32da9", func := "delphi/delphilaw3.DiskMany", spec := "diskMany", inPlace := ["maps.clone"], unfollowed := true, recurses := true, apart := false, narrowed := true }
def DiskManyUptoSaid : Prop := diskManyUptoRow.holds Try.pinned (OpenSpec.upto diskManySpec)

/-- 'delphilaw3.DiskTorn', WHERE WHAT IT READS IS OF BULK AT MOST 1048576: true; the input reads as it did. -/
def diskTornUptoRow : OpenClaim := { program := "ytjlfojgacnphmaa", sum := "e591ececd60d8b2573da1946642607adeb3a8dd70b333125f7065eea35e32da9", func := "delphi/delphilaw3.DiskTorn", spec := "diskTorn", inPlace := ["maps.clone"], unfollowed := true, recurses := true, apart := false, narrowed := true }
def DiskTornUptoSaid : Prop := diskTornUptoRow.holds Try.pinned (OpenSpec.upto diskTornSpec)

/-- 'delphilaw3.DiskMoves', WHERE WHAT IT READS IS OF BULK AT MOST 1048576: true; the input reads as it did. -/
def diskMovesUptoRow : OpenClaim := { program := "ytjlfojgacnphmaa", sum := "e591ececd60d8b2573da1946642607adeb3a8dd70b333125f7065eea35e32da9", func := "delphi/delphilaw3.DiskMoves", spec := "diskMoves", inPlace := ["maps.clone"], unfollowed := true, recurses := true, apart := false, narrowed := true }
def DiskMovesUptoSaid : Prop := diskMovesUptoRow.holds Try.pinned (OpenSpec.upto diskMovesSpec)

/-- 'delphilaw3.DiskNone', WHERE WHAT IT READS IS OF BULK AT MOST 1048576: true; the input reads as it did. -/
def diskNoneUptoRow : OpenClaim := { program := "ytjlfojgacnphmaa", sum := "e591ececd60d8b2573da1946642607adeb3a8dd70b333125f7065eea35e32da9", func := "delphi/delphilaw3.DiskNone", spec := "diskNone", inPlace := ["maps.clone"], unfollowed := true, recurses := true, apart := false, narrowed := true }
def DiskNoneUptoSaid : Prop := diskNoneUptoRow.holds Try.pinned (OpenSpec.upto diskNoneSpec)

/-- 'delphilaw5.KeepVotes', WHERE WHAT IT READS IS OF BULK AT MOST 1048576: true; the input reads as it did. -/
def keepVotesUptoRow : OpenClaim := { program := "ytjlfojgacnphmaa", sum := "e591ececd60d8b2573da1946642607adeb3a8dd70b333125f7065eea35e32da9", func := "delphi/delphilaw5.KeepVotes", spec := "keepVotes", inPlace := ["maps.clone"], unfollowed := true, recurses := true, apart := false, narrowed := true }
def KeepVotesUptoSaid : Prop := keepVotesUptoRow.holds Try.pinned (OpenSpec.upto keepVotesSpec)

/-- 'delphilaw5.KeepAll', WHERE WHAT IT READS IS OF BULK AT MOST 1048576: true; the input reads as it did. -/
def keepAllUptoRow : OpenClaim := { program := "ytjlfojgacnphmaa", sum := "e591ececd60d8b2573da1946642607adeb3a8dd70b333125f7065eea35e32da9", func := "delphi/delphilaw5.KeepAll", spec := "keepAll", inPlace := ["maps.clone"], unfollowed := true, recurses := true, apart := false, narrowed := true }
def KeepAllUptoSaid : Prop := keepAllUptoRow.holds Try.pinned (OpenSpec.upto keepAllSpec)

/-- 'delphilaw5.KeepNone', WHERE WHAT IT READS IS OF BULK AT MOST 1048576: true; the input reads as it did. -/
def keepNoneUptoRow : OpenClaim := { program := "ytjlfojgacnphmaa", sum := "e591ececd60d8b2573da1946642607adeb3a8dd70b333125f7065eea35e32da9", func := "delphi/delphilaw5.KeepNone", spec := "keepNone", inPlace := ["maps.clone"], unfollowed := true, recurses := true, apart := false, narrowed := true }
def KeepNoneUptoSaid : Prop := keepNoneUptoRow.holds Try.pinned (OpenSpec.upto keepNoneSpec)

/-- 'delphilaw5.KeepGrows', WHERE WHAT IT READS IS OF BULK AT MOST 1048576: true; the input reads as it did. -/
def keepGrowsUptoRow : OpenClaim := { program := "ytjlfojgacnphmaa", sum := "e591ececd60d8b2573da1946642607adeb3a8dd70b333125f7065eea35e32da9", func := "delphi/delphilaw5.KeepGrows", spec := "keepGrows", inPlace := ["maps.clone"], unfollowed := true, recurses := true, apart := false, narrowed := true }
def KeepGrowsUptoSaid : Prop := keepGrowsUptoRow.holds Try.pinned (OpenSpec.upto keepGrowsSpec)

/-- 'delphilaw5.KeepCrash', WHERE WHAT IT READS IS OF BULK AT MOST 1048576: true; the input reads as it did. -/
def keepCrashUptoRow : OpenClaim := { program := "ytjlfojgacnphmaa", sum := "e591ececd60d8b2573da1946642607adeb3a8dd70b333125f7065eea35e32da9", func := "delphi/delphilaw5.KeepCrash", spec := "keepCrash", inPlace := ["maps.clone"], unfollowed := true, recurses := true, apart := false, narrowed := true }
def KeepCrashUptoSaid : Prop := keepCrashUptoRow.holds Try.pinned (OpenSpec.upto keepCrashSpec)

end Rows
end Go.Proofs.Ytjlfojgacnphmaa
