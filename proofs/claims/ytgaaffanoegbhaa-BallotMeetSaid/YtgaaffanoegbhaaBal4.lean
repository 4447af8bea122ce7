/- delphilaw21.BallotMeet: what it returns. -/
import Derived.Test.YtgaaffanoegbhaaBal3
import Derived.Test.YtgaaffanoegbhaaArg
namespace Go.Proofs.Ytgaaffanoegbhaa
open Go.RowKit Sim Go Sym
set_option linter.unusedVariables false
theorem meet_calls (w : World) (v0 : Value) (a : List Int) (v1 : Value) (b : List Int) (v2 : Value) (x : List Int) (v3 : Value) (y : List Int) (h0 : RdI .i64 w (fun _ => True) v0 a) (h1 : RdI .i64 w (fun _ => True) v1 b) (h2 : RdI .i64 w (fun _ => True) v2 x) (h3 : RdI .i64 w (fun _ => True) v3 y) :
    Calls Try.prog 4 #[v0, v1, v2, v3] w fun e w' => e = .returned (.bool true) ∧ Below w.heap.size w w' := by
  obtain ⟨z0, g0⟩ := h0.tz
  obtain ⟨z1, g1⟩ := h1.tz
  obtain ⟨z2, g2⟩ := h2.tz
  obtain ⟨z3, g3⟩ := h3.tz
  exact CallS.law (args' := [v0, v1, v2, v3]) (Meet_spec z0 z1 z2 z3 a b x y) ⟨g0, g1, g2, g3, trivial⟩
#print axioms meet_calls
end Go.Proofs.Ytgaaffanoegbhaa
