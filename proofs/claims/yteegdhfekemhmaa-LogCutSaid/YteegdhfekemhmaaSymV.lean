/- From a contract without memory to what a statement asks. No program in sight. -/
import Derived.Test.YteegdhfekemhmaaSymU
import Derived.Test.YteegdhfekemhmaaSimC
namespace Go.Proofs.Yteegdhfekemhmaa.Sym
open Go Go.RowKit Sim
variable {P : Program}
/-- All that is there at the start: nobody writes it. -/
def startP (w : World) : Ph := ⟨fun _ => none, fun m => w.heap[m]?⟩
theorem HR.start (w : World) : HR w.heap.size (startP w) noMem w :=
  ⟨(fun b L h => by cases h), Nat.le_refl _, (fun b q h => by cases h), (fun m o h => ⟨h, fun b L ⟨q, h1, _⟩ => by cases h1⟩), (fun b b' q L L' h => by obtain ⟨q0, h1, _⟩ := h; cases h1)⟩
/-- What a law function that returns true does. -/
theorem CallS.law {f : FuncId} {args : List XV} {w : World} (C : CallS P w.heap.size f args ⟨[], 0⟩ (.c (.p (.bool true))) ⟨[], 0⟩) {args' : List Value} (ha : All2 (VR (startP w)) (args.map XV.sv) args') :
    Calls P f args'.toArray w fun e w' => e = .returned (.bool true) ∧ Below w.heap.size w w' := by
  refine Calls.mono (C.run (startP w) args' w ha (HR.start w)) fun e w' he => ?_
  obtain ⟨v', φ', rfl, h1, -, h3⟩ := he
  have : v' = .bool true := h1
  subst this
  exact ⟨rfl, h3.os, h3.tape, h3.output, h3.size, fun k hk => h3.keep k hk fun b L ⟨q, _, _, hL⟩ => by cases hL⟩
theorem M.freezeO {base n k : Nat} {e : Env} {h : HS} {Q : QX} {K : List Fr} {i b s m : Nat} {el : List PC} {c : Option Nat} {q : List LOp} (hi : look e i = some (.c (.sl b 0 m s c))) (hb : h.get b = some (.els s el)) (hm : m = el.length) (hx : M P base n k (.ops q) K ((i, .c (.p (.tz false s el c))) :: e) (h.put b none) Q) : M P base n k (.ops q) K e h Q := ⟨XR.freeze hi hb hm hx.run⟩
end Go.Proofs.Yteegdhfekemhmaa.Sym
