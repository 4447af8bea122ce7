/- Texts of this claim, several in one: Arg. -/
import Derived.Test.YtgaaffanoegbhaaMgRaftMay4
import Derived.Test.YtgaaffanoegbhaaMgRaftMay9
/- How a statement's arguments read as data that nobody writes. No program in sight. -/
namespace Go.Proofs.Ytgaaffanoegbhaa
open Go.RowKit Sim Go Sym
set_option linter.unusedVariables false
set_option linter.unusedSimpArgs false
theorem start_cell {w : World} {a : Addr} {u : Value} (h : w.cell? a = some u) : (startP w).cell a = some u := by
  unfold World.cell? at h
  unfold Ph.cell startP
  simp only
  cases hq : w.heap[a.block]? with
  | none => rw [hq] at h; simp at h
  | some o =>
    rw [hq] at h
    cases o <;> simp_all
theorem Rd.tz {w : World} {N : Nat → Prop} {v : Value} {n s : Nat} {cs : List Value} {el : List PC} (h : Rd w N v n s cs) (hn : el.length = n) (hc : ∀ (j : Nat) (x : SC), (flatE s el)[j]? = some x → ∃ u, cs[j]? = some u ∧ CR (startP w) x u) : ∃ z, VR (startP w) (XV.sv (.c (.p (.tz z s el none)))) v := by
  obtain ⟨h1, h2, h3, h4⟩ := h
  rcases h4 with ⟨rfl, h5⟩ | ⟨a, cap, rfl, h5, h6, h7, h8⟩
  · have : el = [] := List.eq_nil_of_length_eq_zero (by omega)
    subst this
    exact ⟨true, rfl⟩
  · refine ⟨false, ?_⟩
    show CR (startP w) (.fz el.length s (flatE s el) none) _
    simp only [CR]
    refine ⟨flatE_len s el, a, cap, by rw [hn], by omega, h6, (fun c' h => by cases h), CRs.mk fun j x hx => ?_⟩
    obtain ⟨u, g1, g2⟩ := hc j x hx
    rw [Nat.zero_add]
    exact ⟨u, start_cell (h8 j u g1), g2⟩
theorem flatE_ints (xs : List Int) : flatE 1 (inP xs) = xs.map (SC.int .i64) := by
  induction xs with
  | nil => rfl
  | cons x l ih => rw [inP, List.map_cons, flatE, ← inP, ih]; rfl
theorem RdI.tz {w : World} {N : Nat → Prop} {v : Value} {xs : List Int} (h : RdI .i64 w N v xs) : ∃ z, VR (startP w) (XV.sv (.c (.p (.tz z 1 (inP xs) none)))) v := by
  refine Rd.tz h.1 (by simp [inP]) fun j x hx => ?_
  rw [flatE_ints, List.getElem?_map] at hx
  cases hq : xs[j]? with
  | none => simp [hq] at hx
  | some y =>
    simp only [hq, Option.map_some, Option.some.injEq] at hx
    subst hx
    exact ⟨.int .i64 y, by simp [ints, hq], by simp only [CR]⟩
end Go.Proofs.Ytgaaffanoegbhaa
