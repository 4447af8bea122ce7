/- The closed statement NetNone, reckoned by the kernel on the plain machine. -/
import Derived.Test.YteegdhfekemhmaaSimN
namespace Go.Proofs.Yteegdhfekemhmaa
open Go.RowKit

theorem netNone_calls (w : World) : Calls Try.prog 19 #[] w fun e w' => e = .returned (.bool true) ∧ Below w.heap.size w w' :=
  Sim.closed_true (n := 300) mixed noNG (by kernel_rfl) w
end Go.Proofs.Yteegdhfekemhmaa
