/- Closed statements, reckoned by the kernel on the plain machine. -/
import Derived.Test.YtgaaffanoegbhaaSimC
import Derived.Test.YtgaaffanoegbhaaChecked
import Derived.Test.YtgaaffanoegbhaaRows
namespace Go.Proofs.Ytgaaffanoegbhaa
open Go.RowKit Sim

theorem mixed : Try.prog.follows .mixedOrders = true := by kernel_rfl
theorem noNG (f : FuncId) (fn : Func) (h : Try.prog.funcs[f]? = some fn) : (fn.name == "runtime.NumGoroutine") = false := by
  have h1 : Try.prog.funcs.all (fun fn => !(fn.name == "runtime.NumGoroutine")) = true := by kernel_rfl
  have h2 := Array.all_eq_true'.1 h1 fn (Array.mem_of_getElem? h)
  simpa using h2
end Go.Proofs.Ytgaaffanoegbhaa
