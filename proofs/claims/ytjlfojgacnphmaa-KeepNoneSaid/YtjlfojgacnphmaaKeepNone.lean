/- The closed statement KeepNone, reckoned by the kernel on the plain machine. -/
import Derived.Test.YtjlfojgacnphmaaSimN
namespace Go.Proofs.Ytjlfojgacnphmaa
open Go.RowKit

theorem keepNone_calls (w : World) : Calls Try.prog 15 #[] w fun e w' => e = .returned (.bool true) ∧ Below w.heap.size w w' :=
  Sim.closed_true (n := 300) mixed noNG (by kernel_rfl) w
end Go.Proofs.Ytjlfojgacnphmaa
