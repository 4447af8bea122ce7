/- The plain machine beside the model's: regions that draw their order. No program in sight. -/
import Derived.Test.YtgaaffanoegbhaaSimY
import Derived.Orders
namespace Go.Proofs.Ytgaaffanoegbhaa.Sim
open Go Go.RowKit
set_option linter.unusedSimpArgs false
set_option linter.unusedVariables false
variable {P : Program}

/-! ### An operation looks at its own slots alone -/
theorem evs_congr {t t' : SF} : ∀ {l : List Operand}, (∀ x ∈ l, ev t x = ev t' x) → evs t l = evs t' l
  | [], _ => rfl
  | x :: l, h => by simp only [evs]; rw [h x (by simp), evs_congr fun y hy => h y (by simp [hy])]
theorem evps_congr {t t' : SF} : ∀ {l : List (Nat × Operand)}, (∀ p ∈ l, ev t p.2 = ev t' p.2) → evps t l = evps t' l
  | [], _ => rfl
  | (i, x) :: l, h => by simp only [evps]; rw [h (i, x) (by simp), evps_congr fun y hy => h y (by simp [hy])]
theorem bnd_congr {t t' : SF} {x : Option Operand} {d : Nat} (h : ∀ y, x = some y → ev t y = ev t' y) : bnd t x d = bnd t' x d := by
  cases x with
  | none => rfl
  | some y => simp only [bnd]; rw [h y rfl]
theorem bndM_congr {t t' : SF} {x : Option Operand} (h : ∀ y, x = some y → ev t y = ev t' y) : bndM t x = bndM t' x := by
  cases x with
  | none => rfl
  | some y => simp only [bndM]; rw [h y rfl]
theorem sSlice_congr {t t' : SF} {h : SH} {ty : TypeId} {x : SV} {lo hi mx : Option Operand} (h1 : ∀ y, lo = some y → ev t y = ev t' y) (h2 : ∀ y, hi = some y → ev t y = ev t' y) (h3 : ∀ y, mx = some y → ev t y = ev t' y) :
    sSlice P t h ty x lo hi mx = sSlice P t' h ty x lo hi mx := by
  have e1 : ∀ d, bnd t lo d = bnd t' lo d := fun d => bnd_congr h1
  have e2 : ∀ d, bnd t hi d = bnd t' hi d := fun d => bnd_congr h2
  have e3 := bndM_congr h3
  unfold sSlice
  simp only [e1, e2, e3]
theorem step_congr {call : FuncId → List SV → SH → Option (SV × SH)} {t t' : SF} {h : SH} {o : Oper} (hx : ∀ x ∈ o.op.operands.toList, ev t x = ev t' x) : step P call t h o = step P call t' h o := by
  cases hop : o.op <;> rw [hop] at hx <;> simp only [Op.operands] at hx <;> simp only [step, hop]
  case move x => rw [hx x (by simp)]
  case assign x => rw [hx x (by simp)]
  case pick c a b => rw [hx c (by simp), hx a (by simp), hx b (by simp)]
  case box e x => rw [hx x (by simp)]
  case build ty ps => rw [evps_congr fun p hp => hx p.2 (by simp; exact ⟨p.1, by simpa using hp⟩)]
  case buildSlice ty n ps => rw [evps_congr fun p hp => hx p.2 (by simp; exact ⟨p.1, by simpa using hp⟩)]
  case load ty x => rw [hx x (by simp)]
  case store ty x y => rw [hx x (by simp), hx y (by simp)]
  case nilCheck x => rw [hx x (by simp)]
  case binOp op ty x y yt => rw [hx x (by simp), hx y (by simp)]
  case unOp op ty x => rw [hx x (by simp)]
  case convert s d x => rw [hx x (by simp)]
  case makeSlice ty l c => rw [hx l (by simp), hx c (by simp)]
  case slice ty x lo hi mx =>
    rw [hx x (by simp)]
    cases ev t' x with
    | none => rfl
    | some q => simp only; rw [sSlice_congr (fun y hy => hx y (by simp [hy])) (fun y hy => hx y (by simp [hy])) (fun y hy => hx y (by simp [hy]))]
  case fieldAddr ty x f => rw [hx x (by simp)]
  case field ty x f => rw [hx x (by simp)]
  case indexAddr ty x i => rw [hx x (by simp), hx i (by simp)]
  case index ty x i => rw [hx x (by simp), hx i (by simp)]
  case extract x i => rw [hx x (by simp)]
  case call c =>
    rw [evs_congr fun y hy => hx y (by simp [Call.operands]; exact .inr (by simpa using hy))]
    cases hcal : c.callee with
    | value x =>
      cases x with
      | tmp i =>
        have := hx (.tmp i) (by simp [Call.operands, hcal])
        simp only [ev] at this
        simp only [this]
      | _ => rfl
    | _ => rfl
  case makeMap ty r =>
    cases r with
    | none => cases P.underlying ty with
      | none => rfl
      | some d => cases d <;> rfl
    | some x =>
      have hx := hx x (by simp)
      cases P.underlying ty with
      | none => rfl
      | some d => cases d <;> first | rfl | simp only [hx]
  case lookup ty x k ok => rw [hx x (by simp), hx k (by simp)]
  case mapUpdate ty m k x => rw [hx m (by simp), hx k (by simp), hx x (by simp)]
  case insert ty m k x => rw [hx m (by simp), hx k (by simp), hx x (by simp)]
  case range ty x => rw [hx x (by simp)]
  case next it b =>
    cases b with
    | true => simp only [step, hop]
    | false => simp only [step, hop]; rw [hx it (by simp)]
  case entry it => rw [hx it (by simp)]
  case makeInterface ty x => rw [hx x (by simp)]
  case typeAssert x xt ty ok => rw [hx x (by simp)]
  case makeFunc f xs ys =>
    cases f with
    | func f => simp only [step, hop]; rw [evs_congr fun y hy => hx y (by simp at hy ⊢; exact .inl hy), evs_congr fun y hy => hx y (by simp at hy ⊢; exact .inr hy)]
    | _ => simp only [step, hop]
theorem mem_tmps {l : List Operand} {i : Nat} (h : Operand.tmp i ∈ l) : i ∈ tmpsIn l := List.mem_filterMap.2 ⟨_, h, rfl⟩
theorem looks_congr {call : FuncId → List SV → SH → Option (SV × SH)} {ops : Array Oper} {t t' : SF} {h : SH} {o : Oper} (hx : ∀ s ∈ readsOf ops o, t.get s = t'.get s) :
    wantedS ops t o = wantedS ops t' o ∧ step P call t h o = step P call t' h o := by
  constructor
  · unfold wantedS
    cases hg : o.guard with
    | none => rfl
    | some jw =>
      obtain ⟨j, want⟩ := jw
      simp only
      cases hp : ops[j]? with
      | none => rfl
      | some p =>
        simp only
        cases hd : p.dst with
        | none => rfl
        | some d =>
          have := hx d (by simp [readsOf, hg, hp, hd])
          simp only [ev, this]
  · refine step_congr fun x hm => ?_
    cases x with
    | tmp i => exact hx i (by unfold readsOf; exact List.mem_append_right _ (mem_tmps hm))
    | const c => rfl
    | global g => rfl
    | func f => rfl

/-! ### What reads, and what does not -/
theorem map_snd {α β : Type} {x : Option α} {h h' : SH} {v : α} {f : α → SV} {u : SV} (e : x.map (fun y => (f y, h)) = some (u, h')) : h' = h ∧ x.map f = some u := by
  cases x with
  | none => simp at e
  | some y => simp only [Option.map_some, Option.some.injEq, Prod.mk.injEq] at e ⊢; exact ⟨e.2.symm, e.1⟩
theorem minmax {b : Builtin} {tys : Array TypeId} {h h' : SH} {args : List SV} {v : SV} (hb : b = .min ∨ b = .max) (hs : sBuiltin P b tys h args = some (v, h')) : h' = h ∧ ∀ h2, sBuiltin P b tys h2 args = some (v, h2) := by
  unfold sBuiltin at hs ⊢
  rcases hb with rfl | rfl
  · split at hs <;> first | (cases hs; done) | (rename_i e; cases e; done) | skip
    all_goals first | (rename_i e _; cases e; done) | skip
    all_goals simp_all
  · split at hs <;> first | (cases hs; done) | (rename_i e; cases e; done) | skip
    all_goals first | (rename_i e _; cases e; done) | skip
    all_goals simp_all
theorem conv0 {s d : TypeId} {h h' : SH} {x v : SV} (hk : (∃ k k', P.underlying s = some (.int k) ∧ P.underlying d = some (.int k')) ∨ (P.underlying s = some .string ∧ P.underlying d = some .string)) (hs : sConvert P s d h x = some (v, h')) : h' = h ∧ ∀ h2, sConvert P s d h2 x = some (v, h2) := by
  unfold sConvert at hs ⊢
  rcases hk with ⟨k, k', h1, h2⟩ | ⟨h1, h2⟩
  · rw [h1, h2] at hs ⊢
    split at hs <;> first | (cases hs; done) | skip
    all_goals simp_all
  · rw [h1, h2] at hs ⊢
    split at hs <;> first | (cases hs; done) | skip
    all_goals simp_all
set_option maxHeartbeats 1000000 in
theorem cls0 {call : FuncId → List SV → SH → Option (SV × SH)} {t : SF} {h h' : SH} {o : Oper} {v : SV} (hc : cls P o = 0) (hs : step P call t h o = some (v, h')) : h' = h ∧ ∀ h2, step P call t h2 o = some (v, h2) := by
  cases hop : o.op <;> simp only [cls, hop, reduceCtorEq] at hc <;> simp only [step, hop] at hs ⊢
  case convert s d x =>
    split at hs
    · rename_i q hq
      split at hc
      · cases hc
      · rename_i h1 h2
        exact conv0 (.inl ⟨_, _, h1, h2⟩) hs
      · rename_i h1 h2
        exact conv0 (.inr ⟨h1, h2⟩) hs
      · cases hc
    · cases hs
  case call c =>
    split at hs
    · rename_i args hargs
      split at hc
      · cases hc
      · rename_i hcal
        rw [hcal] at hs ⊢
        exact minmax (.inl rfl) hs
      · rename_i hcal
        rw [hcal] at hs ⊢
        exact minmax (.inr rfl) hs
      · cases hc
    · cases hs
  case pick c a b =>
    split at hs
    · rename_i hcv
      cases hq : ev t a with
      | none => simp [hq] at hs
      | some q => simp only [hq, Option.map_some, Option.some.injEq, Prod.mk.injEq] at hs ⊢; exact ⟨hs.2.symm, fun _ => ⟨hs.1, trivial⟩⟩
    · rename_i hcv
      cases hq : ev t b with
      | none => simp [hq] at hs
      | some q => simp only [hq, Option.map_some, Option.some.injEq, Prod.mk.injEq] at hs ⊢; exact ⟨hs.2.symm, fun _ => ⟨hs.1, trivial⟩⟩
    · cases hs
  all_goals
    repeat' split at hs
    all_goals first | (cases hs; done) | skip
    all_goals simp_all [Option.map_eq_some_iff]
    all_goals (obtain ⟨a, h1, h2, h3⟩ := hs; exact ⟨h3.symm, fun _ => by first | exact ⟨a, h1, h2⟩ | (subst h2; exact h1)⟩)
set_option maxHeartbeats 1000000 in
theorem cls1 {call : FuncId → List SV → SH → Option (SV × SH)} {t : SF} {h h' : SH} {o : Oper} {v : SV} (hc : cls P o = 1) (hs : step P call t h o = some (v, h')) : h' = h := by
  cases hop : o.op <;> simp only [cls, hop, reduceCtorEq] at hc <;> simp only [step, hop] at hs
  case convert s d x =>
    split at hs
    · rename_i q hq
      unfold sConvert at hs
      split at hc
      · rename_i h1
        simp only [h1] at hs
        repeat' split at hs
        all_goals first | (cases hs; done) | skip
        all_goals simp_all
      · cases hc
      · cases hc
      · cases hc
    · cases hs
  case call c =>
    split at hs
    · rename_i args hargs
      split at hc
      · rename_i hcal
        rw [hcal] at hs
        simp only at hs
        unfold sBuiltin at hs
        repeat' split at hs
        all_goals first | (cases hs; done) | skip
        all_goals try (obtain ⟨n, _, hn⟩ := Option.map_eq_some_iff.1 hs; exact ((Prod.mk.inj hn).2).symm)
        all_goals simp_all
      · cases hc
      · cases hc
      · cases hc
    · cases hs
  case load ty x =>
    repeat' split at hs
    all_goals first | (cases hs; done) | skip
    all_goals
      obtain ⟨n, _, hn⟩ := Option.map_eq_some_iff.1 hs
      exact ((Prod.mk.inj hn).2).symm
  case lookup ty x k ok =>
    repeat' split at hs
    all_goals first | (cases hs; done) | skip
    all_goals
      obtain ⟨n, _, hn⟩ := Option.map_eq_some_iff.1 hs
      exact ((Prod.mk.inj hn).2).symm
  case entry it =>
    repeat' split at hs
    all_goals first | (cases hs; done) | skip
    all_goals
      obtain ⟨n, _, hn⟩ := Option.map_eq_some_iff.1 hs
      exact ((Prod.mk.inj hn).2).symm
  case slice ty x lo hi mx =>
    repeat' split at hs
    all_goals first | (cases hs; done) | skip
    obtain ⟨n, _, hn⟩ := Option.map_eq_some_iff.1 hs
    exact ((Prod.mk.inj hn).2).symm
  all_goals
    first
      | (cases hc; done)
      | (split at hc <;> cases hc)
theorem cls1_call {call call2 : FuncId → List SV → SH → Option (SV × SH)} {t : SF} {h : SH} {o : Oper} (hc : cls P o = 1) : step P call t h o = step P call2 t h o := by
  cases hop : o.op <;> simp only [cls, hop, reduceCtorEq] at hc <;> simp only [step, hop]
  case call c =>
    split at hc
    · rename_i hcal
      rw [hcal]
    · cases hc
    · cases hc
    · cases hc
  all_goals (cases hc)
end Go.Proofs.Ytgaaffanoegbhaa.Sim
