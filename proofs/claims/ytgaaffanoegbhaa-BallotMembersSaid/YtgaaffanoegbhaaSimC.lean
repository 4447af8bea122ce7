/- What the plain machine returns out of nothing, a program returns in whatever memory. No program in sight. -/
import Derived.Test.YtgaaffanoegbhaaSimE
namespace Go.Proofs.Ytgaaffanoegbhaa.Sim
open Go Go.RowKit
set_option linter.unusedSimpArgs false
set_option linter.unusedVariables false
variable {P : Program}

/-- No memory of the plain machine's. -/
def noMem : SH := ⟨.e, 0⟩
theorem HR.none (w : World) : HR w.heap.size ⟨fun _ => Option.none, fun _ => Option.none⟩ noMem w :=
  ⟨(fun b L h => by cases h), Nat.le_refl _, (fun b q h => by cases h), (fun m o h => by cases h), (fun b b' q L L' h => by obtain ⟨q0, h1, _⟩ := h; cases h1)⟩
theorem Mv.below {φ φ' : Ph} {h h' : SH} {w w' : World} (m : Mv φ h w φ' h' w') (hn : ∀ b q, h.get b = some q → q.own = false) : Below w.heap.size w w' :=
  ⟨m.os, m.tape, m.output, m.size, fun k hk => m.keep k hk fun b L ho => by
    obtain ⟨q, h1, h2, _⟩ := ho
    rw [hn b q h1] at h2
    cases h2⟩
/-- A function of no arguments that returns true. -/
theorem closed_true {n : Nat} {f : FuncId} (hmix : P.follows .mixedOrders = true) (hng : ∀ (f : FuncId) (fn : Func), P.funcs[f]? = some fn → (fn.name == "runtime.NumGoroutine") = false) (h : isTrue (callF P n f [] noMem) = true) (w : World) :
    Calls P f #[] w fun e w' => e = .returned (.bool true) ∧ Below w.heap.size w w' := by
  cases hc : callF P n f [] noMem with
  | none => rw [hc] at h; cases h
  | some r =>
    obtain ⟨v, h'⟩ := r
    rw [hc] at h
    have hv : v = .c (.bool true) := by
      unfold isTrue at h
      split at h
      · rename_i e; cases e; rfl
      · cases h
    subst hv
    refine Calls.mono ((calls_sound (base := w.heap.size) (n := n) hmix hng f [] noMem _ h' hc).2 ⟨fun _ => none, fun _ => none⟩ [] w trivial (HR.none w)) fun e w' he => ?_
    obtain ⟨v', φ', rfl, h1, -, h3⟩ := he
    have : v' = .bool true := h1
    subst this
    exact ⟨rfl, h3.below fun b q hq => by cases hq⟩
end Go.Proofs.Ytgaaffanoegbhaa.Sim
