/- The closed statement RaftNone, reckoned by the kernel on the plain machine. -/
import Derived.Test.YtgaaffanoegbhaaGreatSimN
namespace Go.Proofs.YtgaaffanoegbhaaGreat
open Go.RowKit

theorem raftNone_calls (w : World) : Calls Tryz.prog 9 #[] w fun e w' => e = .returned (.bool true) ∧ Below w.heap.size w w' :=
  Sim.closed_true (n := 300) mixed noNG (by kernel_rfl) w
end Go.Proofs.YtgaaffanoegbhaaGreat
