/-
  No cell of these rows narrows 'for every input' (looked for: loops, veiled, ifaces, maps, wideKeys, modest, calm, conditions, laid).
  DERIVED. THE GIVEN ROWS OF THIS SEAT. 10 by the template 'for every input the law returns true; each argument reads behind the call as it read before'; 0 by the template 'total and deterministic' (their statements: YteodbcgfmfkdmaaTotals.lean).
  GIVEN WITH THE SEED: the statements are not yours to turn. If you find one false, say at which input.
  Laid BY PROGRAM, IN A SANDBOX (cutbox-rows.mjs): the forced cells as the released guide's own fill.sh prints them over the translation 66992e81f1065b75… (all of the seat's roots in one cut). By AI agents, Wed Nov 11 2026. No macro, syntax, notation, axiom, sorry.
-/
import Derived.Test.YteodbcgfmfkdmaaChecked
import GoSem.Claim
import GoSem.ClaimJoined
import GoSem.ClaimMapViews
import Derived.JoinedTies
import Derived.KernelRfl
namespace Go.Proofs.Yteodbcgfmfkdmaa
/- THE CELL 'sum', in the pinned program and in every row, IS THE sha256 OF THE DUMP (.gsa) THAT YteodbcgfmfkdmaaProg.lean LOADS. Nothing in Lean hashes anything: it is a label: what it is worth is what the hold of that sum in a sandbox is worth. -/
noncomputable def Try.pinned : Pinned := { name := "yteodbcgfmfkdmaa", sum := "66992e81f1065b75f18a12ca0338ec9fe305f3147130150ae8e305b43c56b26d", checked := Try.checked }
namespace Rows
def none {H : Type} : Left H := { results := [], args := [] }

/-- 'delphilaw2.FrameSeal': WHATEVER THE INPUT: true; the input reads as it did. -/
def frameSealSpec : ChangeSpec := { name := "frameSeal", fn := fun _ => fun
  | [d] => { results := [.lit (.bool true)], args := [d] }
  | _ => none }
def frameSealRow : OpenClaim := { program := "yteodbcgfmfkdmaa", sum := "66992e81f1065b75f18a12ca0338ec9fe305f3147130150ae8e305b43c56b26d", func := "delphi/delphilaw2.FrameSeal", spec := "frameSeal", apart := false }
def FrameSealSaid : Prop := frameSealRow.holds Try.pinned (OpenSpec.ofChange frameSealSpec)

/-- ITS FALSE NEIGHBOUR: 'it returns false'. Refute it at one input. -/
def frameSealWrong : ChangeSpec := { name := "frameSeal", fn := fun _ => fun
  | [d] => { results := [.lit (.bool false)], args := [d] }
  | _ => none }
def FrameSealWrongFalsely : Prop := frameSealRow.holds Try.pinned (OpenSpec.ofChange frameSealWrong)

/-- 'delphilaw2.FrameBig': WHATEVER THE INPUT: true; the input reads as it did. -/
def frameBigSpec : ChangeSpec := { name := "frameBig", fn := fun _ => fun
  | [] => { results := [.lit (.bool true)], args := [] }
  | _ => none }
def frameBigRow : OpenClaim := { program := "yteodbcgfmfkdmaa", sum := "66992e81f1065b75f18a12ca0338ec9fe305f3147130150ae8e305b43c56b26d", func := "delphi/delphilaw2.FrameBig", spec := "frameBig", apart := false }
def FrameBigSaid : Prop := frameBigRow.holds Try.pinned (OpenSpec.ofChange frameBigSpec)

/-- ITS FALSE NEIGHBOUR: 'it returns false'. Refute it at one input. -/
def frameBigWrong : ChangeSpec := { name := "frameBig", fn := fun _ => fun
  | [] => { results := [.lit (.bool false)], args := [] }
  | _ => none }
def FrameBigWrongFalsely : Prop := frameBigRow.holds Try.pinned (OpenSpec.ofChange frameBigWrong)

/-- 'delphilaw2.FrameScan': WHATEVER THE INPUT: true; the input reads as it did. -/
def frameScanSpec : ChangeSpec := { name := "frameScan", fn := fun _ => fun
  | [d1, d2, d3, d4] => { results := [.lit (.bool true)], args := [d1, d2, d3, d4] }
  | _ => none }
def frameScanRow : OpenClaim := { program := "yteodbcgfmfkdmaa", sum := "66992e81f1065b75f18a12ca0338ec9fe305f3147130150ae8e305b43c56b26d", func := "delphi/delphilaw2.FrameScan", spec := "frameScan", apart := false }
def FrameScanSaid : Prop := frameScanRow.holds Try.pinned (OpenSpec.ofChange frameScanSpec)

/-- ITS FALSE NEIGHBOUR: 'it returns false'. Refute it at one input. -/
def frameScanWrong : ChangeSpec := { name := "frameScan", fn := fun _ => fun
  | [d1, d2, d3, d4] => { results := [.lit (.bool false)], args := [d1, d2, d3, d4] }
  | _ => none }
def FrameScanWrongFalsely : Prop := frameScanRow.holds Try.pinned (OpenSpec.ofChange frameScanWrong)

/-- 'delphilaw2.FrameFlip': WHATEVER THE INPUT: true; the input reads as it did. -/
def frameFlipSpec : ChangeSpec := { name := "frameFlip", fn := fun _ => fun
  | [d1, d2, d3] => { results := [.lit (.bool true)], args := [d1, d2, d3] }
  | _ => none }
def frameFlipRow : OpenClaim := { program := "yteodbcgfmfkdmaa", sum := "66992e81f1065b75f18a12ca0338ec9fe305f3147130150ae8e305b43c56b26d", func := "delphi/delphilaw2.FrameFlip", spec := "frameFlip", apart := false }
def FrameFlipSaid : Prop := frameFlipRow.holds Try.pinned (OpenSpec.ofChange frameFlipSpec)

/-- ITS FALSE NEIGHBOUR: 'it returns false'. Refute it at one input. -/
def frameFlipWrong : ChangeSpec := { name := "frameFlip", fn := fun _ => fun
  | [d1, d2, d3] => { results := [.lit (.bool false)], args := [d1, d2, d3] }
  | _ => none }
def FrameFlipWrongFalsely : Prop := frameFlipRow.holds Try.pinned (OpenSpec.ofChange frameFlipWrong)

/-- 'delphilaw2.FrameCut': WHATEVER THE INPUT: true; the input reads as it did. -/
def frameCutSpec : ChangeSpec := { name := "frameCut", fn := fun _ => fun
  | [d1, d2, d3] => { results := [.lit (.bool true)], args := [d1, d2, d3] }
  | _ => none }
def frameCutRow : OpenClaim := { program := "yteodbcgfmfkdmaa", sum := "66992e81f1065b75f18a12ca0338ec9fe305f3147130150ae8e305b43c56b26d", func := "delphi/delphilaw2.FrameCut", spec := "frameCut", apart := false }
def FrameCutSaid : Prop := frameCutRow.holds Try.pinned (OpenSpec.ofChange frameCutSpec)

/-- ITS FALSE NEIGHBOUR: 'it returns false'. Refute it at one input. -/
def frameCutWrong : ChangeSpec := { name := "frameCut", fn := fun _ => fun
  | [d1, d2, d3] => { results := [.lit (.bool false)], args := [d1, d2, d3] }
  | _ => none }
def FrameCutWrongFalsely : Prop := frameCutRow.holds Try.pinned (OpenSpec.ofChange frameCutWrong)

/-- 'delphilaw1.BinWrites': WHATEVER THE INPUT: true; the input reads as it did. -/
def binWritesSpec : ChangeSpec := { name := "binWrites", fn := fun _ => fun
  | [d] => { results := [.lit (.bool true)], args := [d] }
  | _ => none }
def binWritesRow : OpenClaim := { program := "yteodbcgfmfkdmaa", sum := "66992e81f1065b75f18a12ca0338ec9fe305f3147130150ae8e305b43c56b26d", func := "delphi/delphilaw1.BinWrites", spec := "binWrites", apart := false }
def BinWritesSaid : Prop := binWritesRow.holds Try.pinned (OpenSpec.ofChange binWritesSpec)

/-- ITS FALSE NEIGHBOUR: 'it returns false'. Refute it at one input. -/
def binWritesWrong : ChangeSpec := { name := "binWrites", fn := fun _ => fun
  | [d] => { results := [.lit (.bool false)], args := [d] }
  | _ => none }
def BinWritesWrongFalsely : Prop := binWritesRow.holds Try.pinned (OpenSpec.ofChange binWritesWrong)

/-- 'delphilaw1.BinReads': WHATEVER THE INPUT: true; the input reads as it did. -/
def binReadsSpec : ChangeSpec := { name := "binReads", fn := fun _ => fun
  | [d1, d2] => { results := [.lit (.bool true)], args := [d1, d2] }
  | _ => none }
def binReadsRow : OpenClaim := { program := "yteodbcgfmfkdmaa", sum := "66992e81f1065b75f18a12ca0338ec9fe305f3147130150ae8e305b43c56b26d", func := "delphi/delphilaw1.BinReads", spec := "binReads", apart := false }
def BinReadsSaid : Prop := binReadsRow.holds Try.pinned (OpenSpec.ofChange binReadsSpec)

/-- ITS FALSE NEIGHBOUR: 'it returns false'. Refute it at one input. -/
def binReadsWrong : ChangeSpec := { name := "binReads", fn := fun _ => fun
  | [d1, d2] => { results := [.lit (.bool false)], args := [d1, d2] }
  | _ => none }
def BinReadsWrongFalsely : Prop := binReadsRow.holds Try.pinned (OpenSpec.ofChange binReadsWrong)

/-- 'delphilaw1.BinNone': WHATEVER THE INPUT: true; the input reads as it did. -/
def binNoneSpec : ChangeSpec := { name := "binNone", fn := fun _ => fun
  | [] => { results := [.lit (.bool true)], args := [] }
  | _ => none }
def binNoneRow : OpenClaim := { program := "yteodbcgfmfkdmaa", sum := "66992e81f1065b75f18a12ca0338ec9fe305f3147130150ae8e305b43c56b26d", func := "delphi/delphilaw1.BinNone", spec := "binNone", apart := false }
def BinNoneSaid : Prop := binNoneRow.holds Try.pinned (OpenSpec.ofChange binNoneSpec)

/-- ITS FALSE NEIGHBOUR: 'it returns false'. Refute it at one input. -/
def binNoneWrong : ChangeSpec := { name := "binNone", fn := fun _ => fun
  | [] => { results := [.lit (.bool false)], args := [] }
  | _ => none }
def BinNoneWrongFalsely : Prop := binNoneRow.holds Try.pinned (OpenSpec.ofChange binNoneWrong)

/-- 'delphilaw1.BinTight': WHATEVER THE INPUT: true; the input reads as it did. -/
def binTightSpec : ChangeSpec := { name := "binTight", fn := fun _ => fun
  | [d1, d2] => { results := [.lit (.bool true)], args := [d1, d2] }
  | _ => none }
def binTightRow : OpenClaim := { program := "yteodbcgfmfkdmaa", sum := "66992e81f1065b75f18a12ca0338ec9fe305f3147130150ae8e305b43c56b26d", func := "delphi/delphilaw1.BinTight", spec := "binTight", apart := false }
def BinTightSaid : Prop := binTightRow.holds Try.pinned (OpenSpec.ofChange binTightSpec)

/-- ITS FALSE NEIGHBOUR: 'it returns false'. Refute it at one input. -/
def binTightWrong : ChangeSpec := { name := "binTight", fn := fun _ => fun
  | [d1, d2] => { results := [.lit (.bool false)], args := [d1, d2] }
  | _ => none }
def BinTightWrongFalsely : Prop := binTightRow.holds Try.pinned (OpenSpec.ofChange binTightWrong)

/-- 'delphilaw1.BinCut': WHATEVER THE INPUT: true; the input reads as it did. -/
def binCutSpec : ChangeSpec := { name := "binCut", fn := fun _ => fun
  | [d1, d2] => { results := [.lit (.bool true)], args := [d1, d2] }
  | _ => none }
def binCutRow : OpenClaim := { program := "yteodbcgfmfkdmaa", sum := "66992e81f1065b75f18a12ca0338ec9fe305f3147130150ae8e305b43c56b26d", func := "delphi/delphilaw1.BinCut", spec := "binCut", apart := false }
def BinCutSaid : Prop := binCutRow.holds Try.pinned (OpenSpec.ofChange binCutSpec)

/-- ITS FALSE NEIGHBOUR: 'it returns false'. Refute it at one input. -/
def binCutWrong : ChangeSpec := { name := "binCut", fn := fun _ => fun
  | [d1, d2] => { results := [.lit (.bool false)], args := [d1, d2] }
  | _ => none }
def BinCutWrongFalsely : Prop := binCutRow.holds Try.pinned (OpenSpec.ofChange binCutWrong)

/- THE SECOND FORM. 'bulk': how many values and letters a reading holds, each counted each time it is reached (what is shared counts as often as it is met; a slice's spare places count too). A statement '..UptoSaid' is the law's where the arguments, and the package variables that the reading takes, are together of bulk at most 1048576: NARROWER than '..Said'. Prove '..Said' where nothing that the law and all that it calls make is longer than what came in: it says more and counts as full. Else prove '..UptoSaid'. A law counts once. -/
mutual
def uptoBulk {H : Type} : DataW H → Nat
  | .lit (.string bytes) => bytes.length + 1
  | .lit _ => 1
  | .nil => 1
  | .ptr d => uptoBulk d + 1
  | .slice elems spare => uptoBulkAll elems + uptoBulkAll spare + 1
  | .agg parts => uptoBulkAll parts + 1
  | .iface _ d => uptoBulk d + 1
  | .map entries => uptoBulkEntries entries + 1
  | .held _ => 1
def uptoBulkAll {H : Type} : List (DataW H) → Nat
  | [] => 0
  | d :: r => uptoBulk d + uptoBulkAll r
def uptoBulkEntries {H : Type} : List (Lit × DataW H) → Nat
  | [] => 0
  | x :: r => uptoBulkEntry x + uptoBulkEntries r
def uptoBulkEntry {H : Type} : Lit × DataW H → Nat
  | (.string bytes, d) => bytes.length + uptoBulk d + 1
  | (_, d) => uptoBulk d + 1
 end
def uptoSmall : (H : Type) → List (DataW H) → Bool := fun _ ds => decide (uptoBulkAll ds ≤ 1048576)
def OpenSpec.upto (s : _root_.Go.ChangeSpec) : _root_.Go.OpenSpec := { _root_.Go.OpenSpec.ofChange s with cond := some uptoSmall }

/-- 'delphilaw2.FrameSeal', WHERE WHAT IT READS IS OF BULK AT MOST 1048576: true; the input reads as it did. -/
def frameSealUptoRow : OpenClaim := { program := "yteodbcgfmfkdmaa", sum := "66992e81f1065b75f18a12ca0338ec9fe305f3147130150ae8e305b43c56b26d", func := "delphi/delphilaw2.FrameSeal", spec := "frameSeal", apart := false, narrowed := true }
def FrameSealUptoSaid : Prop := frameSealUptoRow.holds Try.pinned (OpenSpec.upto frameSealSpec)

/-- 'delphilaw2.FrameBig', WHERE WHAT IT READS IS OF BULK AT MOST 1048576: true; the input reads as it did. -/
def frameBigUptoRow : OpenClaim := { program := "yteodbcgfmfkdmaa", sum := "66992e81f1065b75f18a12ca0338ec9fe305f3147130150ae8e305b43c56b26d", func := "delphi/delphilaw2.FrameBig", spec := "frameBig", apart := false, narrowed := true }
def FrameBigUptoSaid : Prop := frameBigUptoRow.holds Try.pinned (OpenSpec.upto frameBigSpec)

/-- 'delphilaw2.FrameScan', WHERE WHAT IT READS IS OF BULK AT MOST 1048576: true; the input reads as it did. -/
def frameScanUptoRow : OpenClaim := { program := "yteodbcgfmfkdmaa", sum := "66992e81f1065b75f18a12ca0338ec9fe305f3147130150ae8e305b43c56b26d", func := "delphi/delphilaw2.FrameScan", spec := "frameScan", apart := false, narrowed := true }
def FrameScanUptoSaid : Prop := frameScanUptoRow.holds Try.pinned (OpenSpec.upto frameScanSpec)

/-- 'delphilaw2.FrameFlip', WHERE WHAT IT READS IS OF BULK AT MOST 1048576: true; the input reads as it did. -/
def frameFlipUptoRow : OpenClaim := { program := "yteodbcgfmfkdmaa", sum := "66992e81f1065b75f18a12ca0338ec9fe305f3147130150ae8e305b43c56b26d", func := "delphi/delphilaw2.FrameFlip", spec := "frameFlip", apart := false, narrowed := true }
def FrameFlipUptoSaid : Prop := frameFlipUptoRow.holds Try.pinned (OpenSpec.upto frameFlipSpec)

/-- 'delphilaw2.FrameCut', WHERE WHAT IT READS IS OF BULK AT MOST 1048576: true; the input reads as it did. -/
def frameCutUptoRow : OpenClaim := { program := "yteodbcgfmfkdmaa", sum := "66992e81f1065b75f18a12ca0338ec9fe305f3147130150ae8e305b43c56b26d", func := "delphi/delphilaw2.FrameCut", spec := "frameCut", apart := false, narrowed := true }
def FrameCutUptoSaid : Prop := frameCutUptoRow.holds Try.pinned (OpenSpec.upto frameCutSpec)

/-- 'delphilaw1.BinWrites', WHERE WHAT IT READS IS OF BULK AT MOST 1048576: true; the input reads as it did. -/
def binWritesUptoRow : OpenClaim := { program := "yteodbcgfmfkdmaa", sum := "66992e81f1065b75f18a12ca0338ec9fe305f3147130150ae8e305b43c56b26d", func := "delphi/delphilaw1.BinWrites", spec := "binWrites", apart := false, narrowed := true }
def BinWritesUptoSaid : Prop := binWritesUptoRow.holds Try.pinned (OpenSpec.upto binWritesSpec)

/-- 'delphilaw1.BinReads', WHERE WHAT IT READS IS OF BULK AT MOST 1048576: true; the input reads as it did. -/
def binReadsUptoRow : OpenClaim := { program := "yteodbcgfmfkdmaa", sum := "66992e81f1065b75f18a12ca0338ec9fe305f3147130150ae8e305b43c56b26d", func := "delphi/delphilaw1.BinReads", spec := "binReads", apart := false, narrowed := true }
def BinReadsUptoSaid : Prop := binReadsUptoRow.holds Try.pinned (OpenSpec.upto binReadsSpec)

/-- 'delphilaw1.BinNone', WHERE WHAT IT READS IS OF BULK AT MOST 1048576: true; the input reads as it did. -/
def binNoneUptoRow : OpenClaim := { program := "yteodbcgfmfkdmaa", sum := "66992e81f1065b75f18a12ca0338ec9fe305f3147130150ae8e305b43c56b26d", func := "delphi/delphilaw1.BinNone", spec := "binNone", apart := false, narrowed := true }
def BinNoneUptoSaid : Prop := binNoneUptoRow.holds Try.pinned (OpenSpec.upto binNoneSpec)

/-- 'delphilaw1.BinTight', WHERE WHAT IT READS IS OF BULK AT MOST 1048576: true; the input reads as it did. -/
def binTightUptoRow : OpenClaim := { program := "yteodbcgfmfkdmaa", sum := "66992e81f1065b75f18a12ca0338ec9fe305f3147130150ae8e305b43c56b26d", func := "delphi/delphilaw1.BinTight", spec := "binTight", apart := false, narrowed := true }
def BinTightUptoSaid : Prop := binTightUptoRow.holds Try.pinned (OpenSpec.upto binTightSpec)

/-- 'delphilaw1.BinCut', WHERE WHAT IT READS IS OF BULK AT MOST 1048576: true; the input reads as it did. -/
def binCutUptoRow : OpenClaim := { program := "yteodbcgfmfkdmaa", sum := "66992e81f1065b75f18a12ca0338ec9fe305f3147130150ae8e305b43c56b26d", func := "delphi/delphilaw1.BinCut", spec := "binCut", apart := false, narrowed := true }
def BinCutUptoSaid : Prop := binCutUptoRow.holds Try.pinned (OpenSpec.upto binCutSpec)

end Rows
end Go.Proofs.Yteodbcgfmfkdmaa
