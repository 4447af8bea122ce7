/- The plain machine beside the model's: one operation, whatever it is. No program in sight. -/
import Derived.Test.YtgaaffanoegbhaaSimM
namespace Go.Proofs.Ytgaaffanoegbhaa.Sim
open Go Go.RowKit
set_option linter.unusedSimpArgs false
set_option linter.unusedVariables false
variable {P : Program}

/-- Calls of the plain machine's are calls of the model's. -/
def CallOK (P : Program) (base : Nat) (call : FuncId → List SV → SH → Option (SV × SH)) : Prop :=
  ∀ f args h v h', call f args h = some (v, h') → (∃ fn, P.funcs[f]? = some fn ∧ fn.body.isSome = true ∧ (fn.name == "runtime.NumGoroutine") = false) ∧
    ∀ φ (args' : List Value) w, All2 (VR φ) args args' → HR base φ h w → Calls P f args'.toArray w fun e w' => ∃ v' φ', e = .returned v' ∧ VR φ' v v' ∧ HR base φ' h' w' ∧ Mv φ h w φ' h' w'
section
variable {base : Nat} {φ : Ph} {t : SF} {h h' : SH} {w : World} {o : Oper} {a : Act} {K : Act → World → Prop} {Q : Exit → Act → World → Prop} {v : SV}
theorem wp_fits {r : Sem Value} (e : execOp a.eval o = (do pure (.value (← r)))) (hf : Fits base φ h w v h' (r.run P w))
    (hK : ∀ v' w' φ', VR φ' v v' → HR base φ' h' w' → Mv φ h w φ' h' w' → K (a.put o.dst v') w') : o.wp P a w K Q := by
  obtain ⟨v', w', φ', h1, h2, h3, h4⟩ := hf
  unfold Oper.wp
  rw [e]
  simp only [Sem.run_bind, h1, Result.andThen_ok, Sem.run_pure]
  exact hK v' w' φ' h2 h3 h4
theorem wp_quiet {v1 : Value} {r : Sem Value} (hr : HR base φ h w) (e : execOp a.eval o = (do pure (.value (← r)))) (h1 : r.run P w = .ok v1 w) (hv : VR φ v v1)
    (hK : ∀ v' w' φ', VR φ' v v' → HR base φ' h w' → Mv φ h w φ' h w' → K (a.put o.dst v') w') : o.wp P a w K Q :=
  wp_fits e (Fits.pure hr h1 hv) hK
theorem all2_one {α β : Type} {R : α → β → Prop} {x : α} {l : List β} (h : All2 R [x] l) : ∃ y, l = [y] ∧ R x y := by
  match l, h with
  | [y], h => exact ⟨y, rfl, h.1⟩
theorem all2_two {α β : Type} {R : α → β → Prop} {x x' : α} {l : List β} (h : All2 R [x, x'] l) : ∃ y y', l = [y, y'] ∧ R x y ∧ R x' y' := by
  match l, h with
  | [y, y'], h => exact ⟨y, y', rfl, h.1, h.2.1⟩
theorem builtin_sound {c : Call} {b : Builtin} {args : List SV} (hop : o.op = .call c) (hcal : c.callee = .builtin b) (hr : HR base φ h w) (hargs : All2 (VR φ) args (c.args.toList.map a.eval)) (hs : sBuiltin P b c.argTypes h args = some (v, h'))
    (hK : ∀ v' w' φ', VR φ' v v' → HR base φ' h' w' → Mv φ h w φ' h' w' → K (a.put o.dst v') w') : o.wp P a w K Q := by
  have arr : ∀ l : List Value, c.args.toList.map a.eval = l → c.args.map a.eval = l.toArray := fun l hl => by
    apply Array.ext'
    simpa using hl
  have ex : ∀ (l : List Value) (r : Sem Value), c.args.toList.map a.eval = l → (∀ (ts : Array Bool), builtin b c.argTypes o.type ts l.toArray = (do pure (.value (← r)))) → execOp a.eval o = (do pure (.value (← r))) := fun l r hl hb => by
    simp only [execOp, hop, resolve, hcal, arr l hl]
    exact Eq.trans (show _ = invoke (.builtin b c.argTypes o.type (c.args.map fun | .const _ => true | _ => false)) l.toArray from rfl) (hb _)
  unfold sBuiltin at hs
  split at hs
  · rename_i x
    obtain ⟨y, hl, hxy⟩ := all2_one hargs
    split at hs
    · rename_i t0 ht0
      split at hs
      · rename_i d hd
        cases hq : sLen d h x with
        | none => simp [hq] at hs
        | some n =>
          simp only [hq, Option.map_some, Option.some.injEq, Prod.mk.injEq] at hs
          obtain ⟨rfl, rfl⟩ := hs
          exact wp_quiet (r := Builtin.len_ c.argTypes o.type #[y]) hr (ex _ _ hl fun _ => rfl) (len_sound hr hd hxy hq c.argTypes ht0 o.type) (show VR φ (.c (.int .i64 n)) _ from rfl) hK
      · cases hs
    · cases hs
  · rename_i x x'
    obtain ⟨y, y', hl, hxy, hxy'⟩ := all2_two hargs
    split at hs
    · rename_i t0 u0 ht0 hu0
      have happ : ∀ d, P.underlying u0 = some d → (∀ k, d ≠ .int k) → sAppend P t0 h x x' = some (v, h') → o.wp P a w K Q := by
        intro d hd hdi hs
        have hf := append_fits (t := t0) hr hd hdi hxy hxy' hs o.type
        have hta : ∀ ts : Array TypeId, ts[0]? = some t0 → ts[1]? = some u0 → Builtin.append_ ts o.type #[y, y'] = Builtin.append_ #[t0, u0] o.type #[y, y'] := by
          intro ts h0 h1
          simp [Builtin.append_, h0, h1]
        refine wp_fits (r := Builtin.append_ c.argTypes o.type #[y, y']) (ex _ _ hl fun _ => rfl) ?_ hK
        rw [hta _ ht0 hu0]
        exact hf
      split at hs
      · cases hs
      · rename_i d hdi hd
        exact happ d hd (fun k e => hdi k e) hs
      · cases hs
    · cases hs
  · rename_i k p k' q
    obtain ⟨y, y', hl, hxy, hxy'⟩ := all2_two hargs
    simp only [VR, VR1, CR] at hxy hxy'
    subst hxy hxy'
    simp only [Option.some.injEq, Prod.mk.injEq] at hs
    obtain ⟨rfl, rfl⟩ := hs
    exact wp_quiet (r := Builtin.min_ c.argTypes o.type #[.int k p, .int k' q]) hr (ex _ _ hl fun _ => rfl) (v1 := .int k (if q < p then q else p)) (by simp [Builtin.min_, Builtin.min2]) (show VR φ (.c (.int k _)) _ from rfl) hK
  · rename_i k p k' q
    obtain ⟨y, y', hl, hxy, hxy'⟩ := all2_two hargs
    simp only [VR, VR1, CR] at hxy hxy'
    subst hxy hxy'
    simp only [Option.some.injEq, Prod.mk.injEq] at hs
    obtain ⟨rfl, rfl⟩ := hs
    exact wp_quiet (r := Builtin.max_ c.argTypes o.type #[.int k p, .int k' q]) hr (ex _ _ hl fun _ => rfl) (v1 := .int k (if p < q then q else p)) (by simp [Builtin.max_, Builtin.max2]) (show VR φ (.c (.int k _)) _ from rfl) hK
  · rename_i x x'
    obtain ⟨y, y', hl, hxy, hxy'⟩ := all2_two hargs
    split at hs
    · rename_i t0 ht0
      cases hq : sDelete P t0 h x x' with
      | none => simp [hq] at hs
      | some h1 =>
        simp only [hq, Option.map_some, Option.some.injEq, Prod.mk.injEq] at hs
        obtain ⟨rfl, rfl⟩ := hs
        exact wp_fits (r := Builtin.delete_ c.argTypes o.type #[y, y']) (ex _ _ hl fun _ => rfl) (delete_sound hr hxy hxy' hq c.argTypes ht0 o.type) hK
    · cases hs
  · rename_i x
    obtain ⟨y, hl, hxy⟩ := all2_one hargs
    split at hs
    · rename_i t0 ht0
      split at hs
      · rename_i e he
        refine wp_fits (r := Builtin.clear_ c.argTypes o.type #[y]) (ex _ _ hl fun _ => rfl) ?_ hK
        unfold sClear at hs
        split at hs
        · simp only [VR, VR1, CR] at hxy
          subst hxy
          simp only [Option.some.injEq, Prod.mk.injEq] at hs
          obtain ⟨rfl, rfl⟩ := hs
          exact Fits.pure hr (v' := .tuple #[]) (by simp [Builtin.clear_, ht0, run_underlying (elem_of he)]) ⟨#[], rfl, trivial⟩
        · obtain ⟨ad, c0, rfl, _⟩ := hxy
          simp only [Option.some.injEq, Prod.mk.injEq] at hs
          obtain ⟨rfl, rfl⟩ := hs
          exact Fits.pure hr (v' := .tuple #[]) (by simp [Builtin.clear_, ht0, run_underlying (elem_of he)]) ⟨#[], rfl, trivial⟩
        · rename_i b0 o0 n0 s0 c0
          split at hs
          · rename_i h0
            subst h0
            obtain ⟨L, ad, cap, _, rfl, _⟩ := hxy
            simp only [Option.some.injEq, Prod.mk.injEq] at hs
            obtain ⟨rfl, rfl⟩ := hs
            exact Fits.pure hr (v' := .tuple #[]) (by simp [Builtin.clear_, ht0, run_underlying (elem_of he)]) ⟨#[], rfl, trivial⟩
          · rename_i h0
            split at hs
            · rename_i z hz
              split at hs
              · rename_i hzc
                cases hw : h.write b0 o0 (rep z n0) with
                | none => simp [hw] at hs
                | some h1 =>
                  simp only [hw, Option.map_some, Option.some.injEq, Prod.mk.injEq] at hs
                  obtain ⟨rfl, rfl⟩ := hs
                  obtain ⟨w', g1, g2, g3⟩ := clear_fits (P := P) hr he hz hzc.1 hzc.2 hxy hw (by omega) c.argTypes ht0 o.type
                  exact ⟨_, w', φ, g1, ⟨#[], rfl, trivial⟩, g2, g3⟩
              · cases hs
            · cases hs
        · cases hs
      · cases hs
    · cases hs
  · cases hs
set_option maxHeartbeats 1000000 in
theorem step_sound {call : FuncId → List SV → SH → Option (SV × SH)} (hc : CallOK P base call) (ht : TR φ t a) (hr : HR base φ h w) (hs : step P call t h o = some (v, h'))
    (hK : ∀ v' w' φ', VR φ' v v' → HR base φ' h' w' → Mv φ h w φ' h' w' → K (a.put o.dst v') w') : o.wp P a w K Q := by
  cases hop : o.op with
  | move x =>
    simp only [step, hop] at hs
    cases hv : ev t x with
    | none => simp [hv] at hs
    | some q =>
      simp only [hv, Option.map_some, Option.some.injEq, Prod.mk.injEq] at hs
      obtain ⟨rfl, rfl⟩ := hs
      exact wp_quiet (r := pure (a.eval x)) hr (by simp [execOp, hop]) rfl (ev_sound ht hv) hK
  | assign x =>
    simp only [step, hop] at hs
    cases hv : ev t x with
    | none => simp [hv] at hs
    | some q =>
      simp only [hv, Option.map_some, Option.some.injEq, Prod.mk.injEq] at hs
      obtain ⟨rfl, rfl⟩ := hs
      exact wp_quiet (r := pure (a.eval x)) hr (by simp [execOp, hop]) rfl (ev_sound ht hv) hK
  | pick c x y =>
    simp only [step, hop] at hs
    split at hs
    · rename_i hcv
      have hcv := ev_sound ht hcv
      simp only [VR, VR1, CR] at hcv
      cases hv : ev t x with
      | none => simp [hv] at hs
      | some q =>
        simp only [hv, Option.map_some, Option.some.injEq, Prod.mk.injEq] at hs
        obtain ⟨rfl, rfl⟩ := hs
        exact wp_quiet (r := pure (a.eval x)) hr (by simp [execOp, hop, hcv, asBool]) rfl (ev_sound ht hv) hK
    · rename_i hcv
      have hcv := ev_sound ht hcv
      simp only [VR, VR1, CR] at hcv
      cases hv : ev t y with
      | none => simp [hv] at hs
      | some q =>
        simp only [hv, Option.map_some, Option.some.injEq, Prod.mk.injEq] at hs
        obtain ⟨rfl, rfl⟩ := hs
        exact wp_quiet (r := pure (a.eval y)) hr (by simp [execOp, hop, hcv, asBool]) rfl (ev_sound ht hv) hK
    · cases hs
  | alloc e =>
    simp only [step, hop] at hs
    split at hs
    · rename_i z hz
      simp only [Option.some.injEq, Prod.mk.injEq] at hs
      obtain ⟨rfl, rfl⟩ := hs
      exact wp_fits (r := Instr.alloc e true (.tuple #[])) (by simp [execOp, hop]) (alloc_fits hr hz) hK
    · cases hs
  | box e x =>
    simp only [step, hop] at hs
    split at hs
    · rename_i q hq
      split at hs
      · rename_i cs hcs
        simp only [Option.some.injEq, Prod.mk.injEq] at hs
        obtain ⟨rfl, rfl⟩ := hs
        exact wp_fits (r := Instr.box e (a.eval x)) (by simp [execOp, hop]) (box_fits hr e (ev_sound ht hq) hcs) hK
      · cases hs
    · cases hs
  | build ty ps =>
    simp only [step, hop] at hs
    split at hs
    · rename_i l hl
      cases hb : sBuild P ty l with
      | none => simp [hb] at hs
      | some q =>
        simp only [hb, Option.map_some, Option.some.injEq, Prod.mk.injEq] at hs
        obtain ⟨rfl, rfl⟩ := hs
        have hp := evps_sound ht hl
        obtain ⟨v1, h1, h2⟩ := build_sound (P := P) (parts' := ps.map fun (i, x) => (i, a.eval x)) (by simpa using hp) hb w
        exact wp_quiet (r := Instr.build ty (ps.map fun (i, x) => (i, a.eval x))) hr (by simp [execOp, hop]) h1 h2 hK
    · cases hs
  | buildSlice ty n ps =>
    simp only [step, hop] at hs
    split at hs
    · rename_i l hl
      have hp := evps_sound ht hl
      exact wp_fits (r := Instr.buildSlice ty n (ps.map fun (i, x) => (i, a.eval x))) (by simp [execOp, hop]) (buildSlice_fits (P := P) hr (by simpa using hp) hs) hK
    · cases hs
  | load ty x =>
    simp only [step, hop] at hs
    split at hs
    · rename_i b q hq
      cases hl : sLoad P ty h b q with
      | none => simp [hl] at hs
      | some y =>
        simp only [hl, Option.map_some, Option.some.injEq, Prod.mk.injEq] at hs
        obtain ⟨rfl, rfl⟩ := hs
        exact wp_fits (r := Instr.loadAt ty (a.eval x)) (by simp [execOp, hop]) (load_fits hr (ev_sound ht hq) hl) hK
    · rename_i l q hq
      cases hl : sLoadL P ty l q with
      | none => simp [hl] at hs
      | some y =>
        simp only [hl, Option.map_some, Option.some.injEq, Prod.mk.injEq] at hs
        obtain ⟨rfl, rfl⟩ := hs
        exact wp_fits (r := Instr.loadAt ty (a.eval x)) (by simp [execOp, hop]) (loadL_sound hr (ev_sound ht hq) hl) hK
    · cases hs
  | store ty x y =>
    simp only [step, hop] at hs
    split at hs
    · rename_i b q v1 s hx hy hz
      split at hs
      · rename_i cs hcs
        split at hs
        · rename_i hlen
          cases hw : h.write b q cs with
          | none => simp [hw] at hs
          | some h1 =>
            simp only [hw, Option.map_some, Option.some.injEq, Prod.mk.injEq] at hs
            obtain ⟨rfl, rfl⟩ := hs
            obtain ⟨w', g1, g2, g3⟩ := store_fits (P := P) hr (ev_sound ht hx) (ev_sound ht hy) hz hcs hlen hw
            unfold Oper.wp
            simp only [execOp, hop, Sem.run_bind, g1, Result.andThen_ok, Sem.run_pure]
            exact hK undef w' φ (VR.undef φ) g2 g3
        · cases hs
      · cases hs
    · cases hs
  | nilCheck x =>
    simp only [step, hop] at hs
    split at hs
    · rename_i b q hq
      simp only [Option.some.injEq, Prod.mk.injEq] at hs
      obtain ⟨rfl, rfl⟩ := hs
      have hv := ev_sound ht hq
      obtain ⟨L, hL, he⟩ := hv
      exact wp_quiet (r := pure (a.eval x)) hr (by simp [execOp, hop, he]) rfl (show VR φ (.c (.ptr b q)) _ from ⟨L, hL, he⟩) hK
    · rename_i l q hq
      simp only [Option.some.injEq, Prod.mk.injEq] at hs
      obtain ⟨rfl, rfl⟩ := hs
      have hv := ev_sound ht hq
      have hv0 := hv
      simp only [VR, VR1, CR] at hv
      obtain ⟨ad, he, hc⟩ := hv
      exact wp_quiet (r := pure (a.eval x)) hr (by simp [execOp, hop, he]) rfl hv0 hK
    · cases hs
  | binOp op ty x y yt =>
    simp only [step, hop] at hs
    split at hs
    · rename_i p q hx hy
      cases hb : sBin (P.underlying ty) op p q with
      | none => simp [hb] at hs
      | some z =>
        simp only [hb, Option.map_some, Option.some.injEq, Prod.mk.injEq] at hs
        obtain ⟨rfl, rfl⟩ := hs
        obtain ⟨v1, h1, h2⟩ := sBin_sound (P := P) op ty x y (ev_sound ht hx) (ev_sound ht hy) hb w
        exact wp_quiet (r := (do eqGuard op ty x y (a.eval x) (a.eval y); Go.binOp op ty (a.eval x) (a.eval y))) hr (by simp [execOp, hop]) h1 (show VR φ (.c z) v1 from h2) hK
    · rename_i p q hx hy
      cases hb : sBinAgg P ty op p q with
      | none => simp [hb] at hs
      | some z =>
        simp only [hb, Option.map_some, Option.some.injEq, Prod.mk.injEq] at hs
        obtain ⟨rfl, rfl⟩ := hs
        obtain ⟨v1, h1, h2⟩ := binAgg_sound (P := P) op ty x y (ev_sound ht hx) (ev_sound ht hy) hb w
        exact wp_quiet (r := (do eqGuard op ty x y (a.eval x) (a.eval y); Go.binOp op ty (a.eval x) (a.eval y))) hr (by simp [execOp, hop]) h1 (show VR φ (.c z) v1 from h2) hK
    · cases hs
  | unOp op ty x =>
    simp only [step, hop] at hs
    split at hs
    · rename_i p hx
      cases hb : sUn op p with
      | none => simp [hb] at hs
      | some z =>
        simp only [hb, Option.map_some, Option.some.injEq, Prod.mk.injEq] at hs
        obtain ⟨rfl, rfl⟩ := hs
        obtain ⟨v1, h1, h2⟩ := sUn_sound (P := P) op (ev_sound ht hx) hb w
        exact wp_quiet (r := Op.unary op (a.eval x)) hr (by simp [execOp, hop]) h1 (show VR φ (.c z) v1 from h2) hK
    · cases hs
  | convert s d x =>
    simp only [step, hop] at hs
    split at hs
    · rename_i q hq
      exact wp_fits (r := Go.convert s d (a.eval x)) (by simp [execOp, hop]) (convert_fits hr (ev_sound ht hq) hs) hK
    · cases hs
  | makeSlice ty l c =>
    simp only [step, hop] at hs
    split at hs
    · rename_i p q hp hq
      exact wp_fits (r := Instr.makeSlice ty (a.eval l) (a.eval c)) (by simp [execOp, hop]) (make_fits hr (ev_sound ht hp) (ev_sound ht hq) hs) hK
    · cases hs
  | slice ty x lo hi mx =>
    simp only [step, hop] at hs
    split at hs
    · rename_i q hq
      cases hb : sSlice P t h ty q lo hi mx with
      | none => simp [hb] at hs
      | some z =>
        simp only [hb, Option.map_some, Option.some.injEq, Prod.mk.injEq] at hs
        obtain ⟨rfl, rfl⟩ := hs
        obtain ⟨v1, h1, h2⟩ := slice_sound (P := P) hr ht (ev_sound ht hq) hb
        exact wp_quiet (r := Instr.sliceAt ty (a.eval x) (lo.map a.eval) (hi.map a.eval) (mx.map a.eval)) hr (by simp [execOp, hop]) h1 h2 hK
    · cases hs
  | fieldAddr ty x f =>
    simp only [step, hop] at hs
    split at hs
    · rename_i q hq
      cases hb : sFieldAddr P ty q f with
      | none => simp [hb] at hs
      | some z =>
        simp only [hb, Option.map_some, Option.some.injEq, Prod.mk.injEq] at hs
        obtain ⟨rfl, rfl⟩ := hs
        obtain ⟨v1, h1, h2⟩ := fieldAddr_sound (P := P) (ev_sound ht hq) hb w
        exact wp_quiet (r := Instr.fieldAt ty (a.eval x) f) hr (by simp [execOp, hop]) h1 h2 hK
    · cases hs
  | field ty x f =>
    simp only [step, hop] at hs
    split at hs
    · rename_i q hq
      cases hb : sField P ty q f with
      | none => simp [hb] at hs
      | some z =>
        simp only [hb, Option.map_some, Option.some.injEq, Prod.mk.injEq] at hs
        obtain ⟨rfl, rfl⟩ := hs
        obtain ⟨v1, h1, h2⟩ := field_sound (P := P) (ev_sound ht hq) hb w
        exact wp_quiet (r := Instr.field ty (a.eval x) f) hr (by simp [execOp, hop]) h1 h2 hK
    · cases hs
  | indexAddr ty x i =>
    simp only [step, hop] at hs
    split at hs
    · rename_i p q hp hq
      cases hb : sIndexAddr P ty p q with
      | none => simp [hb] at hs
      | some z =>
        simp only [hb, Option.map_some, Option.some.injEq, Prod.mk.injEq] at hs
        obtain ⟨rfl, rfl⟩ := hs
        obtain ⟨v1, h1, h2⟩ := indexAddr_sound (P := P) (ev_sound ht hp) (ev_sound ht hq) hb w
        exact wp_quiet (r := Instr.indexAt ty (a.eval x) (a.eval i)) hr (by simp [execOp, hop]) h1 h2 hK
    · cases hs
  | index ty x i =>
    simp only [step, hop] at hs
    split at hs
    · rename_i p q hp hq
      cases hb : sIndex P ty p q with
      | none => simp [hb] at hs
      | some z =>
        simp only [hb, Option.map_some, Option.some.injEq, Prod.mk.injEq] at hs
        obtain ⟨rfl, rfl⟩ := hs
        obtain ⟨v1, h1, h2⟩ := index_sound (P := P) (ev_sound ht hp) (ev_sound ht hq) hb w
        exact wp_quiet (r := Instr.index ty (a.eval x) (a.eval i)) hr (by simp [execOp, hop]) h1 h2 hK
    · cases hs
  | extract x i =>
    simp only [step, hop] at hs
    split at hs
    · rename_i l hl
      split at hs
      · rename_i q hq
        simp only [Option.some.injEq, Prod.mk.injEq] at hs
        obtain ⟨rfl, rfl⟩ := hs
        obtain ⟨v1, h1, h2⟩ := extract_sound (P := P) (ev_sound ht hl) hq w
        exact wp_quiet (r := Instr.extract (a.eval x) i) hr (by simp [execOp, hop]) h1 h2 hK
      · cases hs
    · cases hs
  | call c =>
    simp only [step, hop] at hs
    split at hs
    · rename_i args hargs
      have hargs := evs_sound ht hargs
      have hmap : (c.args.map a.eval).toList = c.args.toList.map a.eval := by simp
      split at hs
      · rename_i b hcal
        exact builtin_sound hop hcal hr hargs hs hK
      · rename_i f hcal
        have harr : c.args.map a.eval = (c.args.toList.map a.eval).toArray := by apply Array.ext'; simp
        split at hs
        · rename_i p hex
          simp only [Option.some.injEq] at hs
          subst hs
          obtain ⟨v', w', φ', g1, g2, g3, g4⟩ := extern_sound hr hargs hex
          have hrun : (execOp a.eval o).run P w = .ok (.value v') w' := by
            simp only [execOp, hop, resolve, hcal, Act.eval, Deferred.ofValue, invoke, harr, Sem.run_bind, Sem.run_pure, Result.andThen_ok]
            simpa using g1
          unfold Oper.wp
          rw [hrun]
          exact hK v' w' φ' g2 g3 g4
        · obtain ⟨⟨fn, k1, k2, k3⟩, k4⟩ := hc f args h v h' hs
          have k5 := k4 φ (c.args.toList.map a.eval) w hargs hr
          unfold Oper.wp
          have hn : fn.body.isNone = false := by
            cases hb : fn.body with
            | none => simp [hb] at k2
            | some _ => rfl
          have hrun : (execOp a.eval o).run P w = .ok (.enter f (c.args.toList.map a.eval).toArray) w := by
            have hname : ¬ fn.name = "runtime.NumGoroutine" := by simpa using k3
            have hbn : ¬ fn.body = none := fun e => by rw [e] at k2; cases k2
            simp [execOp, hop, resolve, hcal, Act.eval, Deferred.ofValue, invoke, callFunc, k1, hname, hbn, harr]
          rw [hrun]
          refine Calls.mono k5 fun e w' he => ?_
          obtain ⟨v', φ', rfl, g1, g2, g3⟩ := he
          exact hK v' w' φ' g1 g2 g3
      · rename_i i hcal
        have harr : c.args.map a.eval = (c.args.toList.map a.eval).toArray := by apply Array.ext'; simp
        split at hs
        · rename_i f x y hfx
          have hf := ev_sound ht (x := .tmp i) (show ev t (.tmp i) = some _ from hfx)
          simp only [VR, VR1, CR] at hf
          obtain ⟨X, Y, hval, hX, hY⟩ := hf
          obtain ⟨⟨fn, k1, k2, k3⟩, k4⟩ := hc f _ h v h' hs
          have hall : All2 (VR φ) (x.map SV.c ++ args ++ y.map SV.c) (X.toList ++ c.args.toList.map a.eval ++ Y.toList) := ((all2_c hX.all2).app hargs).app (all2_c hY.all2)
          have k5 := k4 φ _ w hall hr
          unfold Oper.wp
          have hrun : (execOp a.eval o).run P w = .ok (.enter f (X.toList ++ c.args.toList.map a.eval ++ Y.toList).toArray) w := by
            have hname : ¬ fn.name = "runtime.NumGoroutine" := by simpa using k3
            have hbn : ¬ fn.body = none := fun e => by rw [e] at k2; cases k2
            simp [execOp, hop, resolve, hcal, hval, Deferred.ofValue, invoke, callFunc, k1, hname, hbn, harr]
          rw [hrun]
          refine Calls.mono k5 fun e w' he => ?_
          obtain ⟨v', φ', rfl, g1, g2, g3⟩ := he
          exact hK v' w' φ' g1 g2 g3
        · cases hs
      · cases hs
    · cases hs
  | makeMap ty rv =>
    simp only [step, hop] at hs
    obtain ⟨φ1, m1, m2, m3⟩ := makeMap_sound hr
    split at hs
    · rename_i kt et ht0
      simp only [Option.some.injEq, Prod.mk.injEq] at hs
      obtain ⟨rfl, rfl⟩ := hs
      exact wp_fits (r := Instr.makeMap ty none) (by simp [execOp, hop]) ⟨_, _, φ1, by simp [Instr.makeMap], m3, m1, m2⟩ hK
    · rename_i kt et x ht0
      split at hs
      · rename_i kd n hx
        have hv := ev_sound ht hx
        simp only [VR, VR1, CR] at hv
        simp only [Option.some.injEq, Prod.mk.injEq] at hs
        obtain ⟨rfl, rfl⟩ := hs
        exact wp_fits (r := Instr.makeMap ty (some (a.eval x))) (by simp [execOp, hop]) ⟨_, _, φ1, by simp [Instr.makeMap, run_underlying ht0, hv, asInt, asIntOf], m3, m1, m2⟩ hK
      · cases hs
    · cases hs
  | lookup ty x k ok =>
    simp only [step, hop] at hs
    split at hs
    · rename_i p q hp hq
      cases hl : sLookup P ty h p q ok with
      | none => simp [hl] at hs
      | some z =>
        simp only [hl, Option.map_some, Option.some.injEq, Prod.mk.injEq] at hs
        obtain ⟨rfl, rfl⟩ := hs
        exact wp_fits (r := Instr.lookup ty (a.eval x) (a.eval k) ok) (by simp [execOp, hop]) (lookup_sound hr (ev_sound ht hp) (ev_sound ht hq) hl) hK
    · cases hs
  | mapUpdate ty m k x =>
    simp only [step, hop] at hs
    split at hs
    · rename_i p q z hp hq hz
      cases hu : sUpdate P ty h p q z with
      | none => simp [hu] at hs
      | some h1 =>
        simp only [hu, Option.map_some, Option.some.injEq, Prod.mk.injEq] at hs
        obtain ⟨rfl, rfl⟩ := hs
        obtain ⟨w', φ', g1, g2, g3⟩ := update_sound hr (ev_sound ht hp) (ev_sound ht hq) (ev_sound ht hz) hu
        unfold Oper.wp
        simp only [execOp, hop, Sem.run_bind, g1, Result.andThen_ok, Sem.run_pure]
        exact hK undef w' φ' (VR.undef φ') g2 g3
    · cases hs
  | insert ty m k x =>
    simp only [step, hop] at hs
    split at hs
    · rename_i p q z hp hq hz
      cases hu : sUpdate P ty h p q z with
      | none => simp [hu] at hs
      | some h1 =>
        simp only [hu, Option.map_some, Option.some.injEq, Prod.mk.injEq] at hs
        obtain ⟨rfl, rfl⟩ := hs
        obtain ⟨w', φ', g1, g2, g3⟩ := update_sound hr (ev_sound ht hp) (ev_sound ht hq) (ev_sound ht hz) hu
        unfold Oper.wp
        simp only [execOp, hop, Sem.run_bind, g1, Result.andThen_ok, Sem.run_pure]
        exact hK undef w' φ' (VR.undef φ') g2 g3
    · cases hs
  | range ty x =>
    simp only [step, hop] at hs
    split at hs
    · rename_i q hq
      exact wp_fits (r := Instr.range ty (a.eval x)) (by simp [execOp, hop]) (range_sound hr (ev_sound ht hq) hs) hK
    · cases hs
  | next it isS =>
    cases isS with
    | true => simp [step, hop] at hs
    | false =>
      simp only [step, hop] at hs
      split at hs
      · rename_i q hq
        exact wp_fits (r := Instr.next (a.eval it) false o.type) (by simp [execOp, hop]) (next_sound hr (ev_sound ht hq) hs o.type) hK
      · cases hs
  | entry it =>
    simp only [step, hop] at hs
    split at hs
    · rename_i q hq
      cases he : sEntry h q with
      | none => simp [he] at hs
      | some z =>
        simp only [he, Option.map_some, Option.some.injEq, Prod.mk.injEq] at hs
        obtain ⟨rfl, rfl⟩ := hs
        exact wp_fits (r := Instr.entry (a.eval it)) (by simp [execOp, hop]) (entry_sound hr (ev_sound ht hq) he) hK
    · cases hs
  | makeInterface ty x =>
    simp only [step, hop] at hs
    split at hs
    · cases hs
    · rename_i d x' hn hd hq
      simp only [Option.some.injEq, Prod.mk.injEq] at hs
      obtain ⟨rfl, rfl⟩ := hs
      have hv := ev_sound ht hq
      refine wp_quiet (r := Instr.makeInterface ty (a.eval x)) hr (by simp [execOp, hop]) (v1 := .iface ty (a.eval x)) ?_ (show VR φ (.c (.ifc ty x')) _ by simp only [VR, VR1, CR]; exact ⟨_, rfl, hv⟩) hK
      cases d <;> first | exact (hn _ hd).elim | exact (hn _ rfl).elim | exact (hn _ _ rfl rfl).elim | simp [Instr.makeInterface, run_underlying hd]
    · cases hs
  | typeAssert x xt ty ok =>
    simp only [step, hop] at hs
    split at hs
    · cases hs
    · rename_i d dt x' hn hd hq
      split at hs
      · rename_i he
        subst he
        simp only [Option.some.injEq, Prod.mk.injEq] at hs
        obtain ⟨rfl, rfl⟩ := hs
        have hv := ev_sound ht hq
        simp only [VR, VR1, CR] at hv
        obtain ⟨u, hu, hcr⟩ := hv
        refine wp_quiet (r := Instr.typeAssert (a.eval x) xt dt ok) hr (by simp [execOp, hop]) ?_ (lookRes_vr (v := .c x') (u := u) hcr ok true) hK
        rw [hu]
        cases d <;> first | exact (hn _ hd).elim | exact (hn _ rfl).elim | exact (hn _ _ rfl rfl).elim | (cases ok <;> simp [Instr.typeAssert, run_underlying hd])
      · cases hs
    · cases hs
  | makeFunc fn xs ys =>
    cases fn with
    | func f =>
      simp only [step, hop] at hs
      split at hs
      · rename_i p q hp hq
        split at hs
        · rename_i p' q' hp' hq'
          simp only [Option.some.injEq, Prod.mk.injEq] at hs
          obtain ⟨rfl, rfl⟩ := hs
          have h1 := ones_all2 hp' (evs_sound ht hp)
          have h2 := ones_all2 hq' (evs_sound ht hq)
          exact wp_quiet (r := Instr.makeFunc (.func f) (xs.map a.eval) (ys.map a.eval)) hr (by simp [execOp, hop]) (v1 := .func (.func f) (xs.map a.eval) (ys.map a.eval)) (by simp [Instr.makeFunc])
            (show VR φ (.c (.cl f p' q')) _ by simp only [VR, VR1, CR]; exact ⟨_, _, rfl, CRl.of (by simpa using h1), CRl.of (by simpa using h2)⟩) hK
        · cases hs
      · cases hs
    | _ => simp [step, hop] at hs
  | _ => simp [step, hop] at hs
end
end Go.Proofs.Ytgaaffanoegbhaa.Sim
