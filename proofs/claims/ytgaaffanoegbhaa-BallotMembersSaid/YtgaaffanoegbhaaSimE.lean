/- Regions, whatever they are; calls. No program in sight. -/
import Derived.Test.YtgaaffanoegbhaaSimG
namespace Go.Proofs.Ytgaaffanoegbhaa.Sim
open Go Go.RowKit
set_option linter.unusedSimpArgs false
set_option linter.unusedVariables false
variable {P : Program}

theorem reg_ok {base : Nat} (hmix : P.follows .mixedOrders = true) : RegOK P base := by
  intro call hc id ops draw t h e t' h' hs φ a w ht hr
  cases draw with
  | false =>
    simp only [stepsD] at hs
    split at hs
    · rename_i t1 h1 hst
      simp only [Option.some.injEq, Prod.mk.injEq] at hs
      obtain ⟨rfl, rfl, rfl⟩ := hs
      exact wp_region_list (steps_sound hc ops ops.toList ht hr hst fun a2 w2 φ2 g1 g2 g3 g4 => ⟨φ2, rfl, g1, g2, g3, g4⟩)
    · cases hs
  | true =>
    simp only [stepsD] at hs
    split at hs
    · rename_i hord
      have hO := ord_of hord
      have go : ∀ (l : List Tr) (t1 : SF) (h1 : SH), traceS P call ops ops.toList t h = some (l, t1, h1) → stable P ops l h1 (floats P ops) = true → e = .normal → t1 = t' → h1 = h' → (Code.region id ops true).wp P (Post base φ h w a.defers e t' h') a w := by
        intro l t1 h1 htr hstb he ht1 hh1
        subst he ht1 hh1
        obtain ⟨T, H, V, W, e1, e2, e3, e4, e5, e6⟩ := trace_text ops ops.toList _ _ _ _ _ htr
        simp only [Array.length_toList] at e3 e4 e5
        have e6' : ∀ i o, ops[i]? = some o → _ := fun i o ho => e6 i o (by simpa using ho)
        have x : Text P call ops T H V W := ⟨fun i o ho => (e6' i o ho).1, fun i o ho => (e6' i o ho).2.1, fun i o ho => (e6' i o ho).2.2.1, fun i o ho => (e6' i o ho).2.2.2.1⟩
        have hst : Steady P ops T H V W := stable_sound (fun i o ho => (e6' i o ho).2.2.2.2) e5 e4 (floats P ops) floats_le hstb
        refine wp_region_any hmix ?_
        have hf : ∀ i, (Array.replicate ops.size false).getD i false = false := fun i => by
          rw [Array.getD_eq_getD_getElem?, Array.getElem?_replicate]
          split <;> rfl
        have hw1 : ({ w with drawn := w.drawn + 1 } : World).heap = w.heap := rfl
        refine any_sound hc x hO hst ops.size _ a _ φ 0 (by simp) (by simp) (fun j q hq hj => absurd ((hf j).symm.trans hj) (by simp)) (Nat.zero_le _) (fun e q hq hqc => by rw [hf]; simp) (by rw [e2]; exact hr.same hw1) ?_ fun a2 w2 φ2 g1 g2 g3 g4 => ?_
        · have hcur : ∀ m, cur ops (T 0) V (fun i => (Array.replicate ops.size false).getD i false) m = T 0 := by
            intro m
            induction m with
            | zero => rfl
            | succ m ih => simp only [cur]; rw [if_neg (by rw [hf]; simp), ih]
          rw [hcur, e1]
          exact ht
        · rw [e2, e4] at g4
          refine ⟨φ2, rfl, by rw [← e3]; exact g1, g2, by rw [← e4]; exact g3, ?_⟩
          exact (Mv.same (w := w) (w' := { w with drawn := w.drawn + 1 }) rfl rfl rfl rfl).trans g4
      split at hs
      · rename_i hfl
        split at hs
        · rename_i t1 h1 hst
          simp only [Option.some.injEq, Prod.mk.injEq] at hs
          obtain ⟨he, ht1, hh1⟩ := hs
          obtain ⟨l, htr⟩ := steps_trace ops ops.toList _ _ _ _ hst
          exact go l t1 h1 htr (by rw [hfl]; rfl) he.symm ht1 hh1
        · cases hs
      · rename_i fl hfl
        split at hs
        · rename_i l t1 h1 htr
          split at hs
          · rename_i hstb
            simp only [Option.some.injEq, Prod.mk.injEq] at hs
            obtain ⟨he, ht1, hh1⟩ := hs
            exact go l t1 h1 htr hstb he.symm ht1 hh1
          · cases hs
        · cases hs
    · split at hs
      · rename_i hord
        have hO := ord3_of hord
        split at hs
        · rename_i l t1 h1 htr
          split at hs
          · rename_i hstb
            simp only [Option.some.injEq, Prod.mk.injEq] at hs
            obtain ⟨rfl, rfl, rfl⟩ := hs
            obtain ⟨T, H, V, W, e1, e2, e3, e4, e5, e6⟩ := trace_textN ops ops.toList _ _ _ _ _ _ htr
            simp only [Array.length_toList] at e3 e4 e5
            have e6' : ∀ i o, ops[i]? = some o → _ := fun i o ho => e6 i o (by simpa using ho)
            have x : TextN P call ops h.next T H V W := ⟨fun i o ho => (e6' i o ho).1, fun i o ho => (e6' i o ho).2.1, fun i o ho => (e6' i o ho).2.2.1, fun i o ho => (e6' i o ho).2.2.2.1⟩
            have hst : Steady3 P ops T H V W := steady3_of (fun i o ho => (e6' i o ho).2.2.2.2) e5 e4 hstb
            refine wp_region_any hmix ?_
            have hf : ∀ i, (Array.replicate ops.size false).getD i false = false := fun i => by
              rw [Array.getD_eq_getD_getElem?, Array.getElem?_replicate]
              split <;> rfl
            have hw1 : ({ w with drawn := w.drawn + 1 } : World).heap = w.heap := rfl
            have r1 := hr.same hw1
            obtain ⟨r2, m2⟩ := r1.forget (h' := ⟨h.m, h.next + ops.size⟩) (Nat.le_add_right _ _) (fun b q hb => hb)
            have hfr : ∀ n, h.next ≤ n → φ n = none := fun n hn => by
              cases hq : φ n with
              | none => rfl
              | some L => have := hr.dom n L hq; omega
            refine any3_sound (φ0 := φ) (h0 := h) (w0 := w) hc x hO hst (Nat.le_refl _) ops.size _ a _ φ 0 (by simp) (by simp) (fun j q hq hj => absurd ((hf j).symm.trans hj) (by simp)) (Nat.zero_le _) (.inl rfl) (fun e q hq hqc => by rw [hf]; simp) ?_ (fun j o g1 g2 g3 g4 => hfr _ (by omega)) ?_ fun a2 w2 φ2 g1 g2 g3 g4 => ?_
            · refine ⟨by rw [e2]; exact r2, ?_, by rw [e2]; exact Nat.le_refl _, fun j o q g1 g2 g3 g4 => ?_, fun j j' o o' L L' a1 a2 a3 a4 => ?_⟩
              · rw [e2]
                exact (Mv.same (w := w) (w' := { w with drawn := w.drawn + 1 }) rfl rfl rfl rfl).trans m2
              · rw [hf] at g4; cases g4
              · rw [hf] at a4; cases a4
            · have hcur : ∀ m, cur ops (T 0) V (fun i => (Array.replicate ops.size false).getD i false) m = T 0 := by
                intro m
                induction m with
                | zero => rfl
                | succ m ih => simp only [cur]; rw [if_neg (by rw [hf]; simp), ih]
              rw [hcur, e1]
              exact ht
            · exact ⟨φ2, rfl, by rw [← e3]; exact g1, g2, by rw [← e4]; exact g3, by rw [← e4]; exact g4⟩
          · cases hs
        · cases hs
      · cases hs
/-- What the plain machine returns, the program returns. -/
theorem calls_sound {base n : Nat} (hmix : P.follows .mixedOrders = true) (hng : ∀ (f : FuncId) (fn : Func), P.funcs[f]? = some fn → (fn.name == "runtime.NumGoroutine") = false) : CallOK P base (callF P n) :=
  call_sound hng (exec_sound hng (reg_ok hmix) n)
end Go.Proofs.Ytgaaffanoegbhaa.Sim
