/- Texts of this claim, several in one: SimY. -/
import Derived.Test.YtjlfojgacnphmaaMgKeepVotes6
import Derived.LoopN
namespace Go.Proofs.Ytjlfojgacnphmaa.Sim
open Go Go.RowKit
set_option linter.unusedSimpArgs false
set_option linter.unusedVariables false
variable {P : Program}

theorem wanted_sound {φ : Ph} {t : SF} {a : Act} (ht : TR φ t a) {ops : Array Oper} {o : Oper} {b : Bool} (h : wantedS ops t o = some b) : Region.wanted o (yielded ops a.tmps) = b := by
  unfold wantedS at h
  unfold Region.wanted
  cases hg : o.guard with
  | none => simp only [hg, Option.some.injEq] at h; exact h
  | some jw =>
    obtain ⟨j, want⟩ := jw
    simp only [hg] at h ⊢
    split at h
    · rename_i p hp
      split at h
      · rename_i d hd
        have key : ∀ v, ev t (.tmp d) = some v → ∃ x, a.tmps[d]? = some x ∧ VR φ v x := fun v hv => by
          obtain ⟨h1, h2⟩ := ht.at_ d v hv
          refine ⟨a.tmps[d], Array.getElem?_eq_getElem h1, ?_⟩
          rw [Array.getD_eq_getD_getElem?, Array.getElem?_eq_getElem h1] at h2
          exact h2
        unfold yielded
        simp only [hp, Option.bind_some, hd]
        split at h
        · rename_i b' hb
          obtain ⟨x, h1, h2⟩ := key _ hb
          simp only [VR, VR1, CR] at h2
          subst h2
          simp only [Option.some.injEq] at h
          subst h
          rw [h1]
          cases b' <;> cases want <;> rfl
        · rename_i l hb
          obtain ⟨x, h1, h2⟩ := key _ hb
          simp only [Option.some.injEq] at h
          subst h
          rw [h1]
          obtain ⟨vs, rfl, _⟩ := h2
          rfl
        · cases h
      · cases h
    · cases h
theorem put_defers (a : Act) (d : Option Tmp) (v : Value) : (a.put d v).defers = a.defers := by cases d <;> rfl
theorem steps_sound {base : Nat} {call : FuncId → List SV → SH → Option (SV × SH)} (hc : CallOK P base call) (ops : Array Oper) {Q : Exit → Act → World → Prop} : ∀ (l : List Oper) {φ : Ph} {t t' : SF} {h h' : SH} {a : Act} {w : World}, TR φ t a → HR base φ h w → stepsS P call ops l t h = some (t', h') →
    (∀ a' w' φ', TR φ' t' a' → a'.defers = a.defers → HR base φ' h' w' → Mv φ h w φ' h' w' → Q .normal a' w') → wpList P ops Q l a w
  | [], φ, t, t', h, h', a, w, ht, hr, hs, hQ => by
    simp only [stepsS, Option.some.injEq, Prod.mk.injEq] at hs
    obtain ⟨rfl, rfl⟩ := hs
    exact hQ a w φ ht rfl hr (Mv.refl _ _ _)
  | o :: l, φ, t, t', h, h', a, w, ht, hr, hs, hQ => by
    simp only [stepsS] at hs
    unfold wpList
    split at hs
    · rename_i hw
      rw [if_pos (wanted_sound ht hw)]
      split at hs
      · rename_i v h1 hst
        left
        refine step_sound hc ht hr hst fun v' w' φ' hv hr' hm => ?_
        exact steps_sound hc ops l ((ht.mono hm.le).put hv o.dst) hr' hs fun a2 w2 φ2 h2 hd h3 h4 => hQ a2 w2 φ2 h2 (by rw [hd, put_defers]) h3 (hm.trans h4)
      · cases hs
    · rename_i hw
      rw [if_neg (by rw [wanted_sound ht hw]; simp)]
      exact steps_sound hc ops l (ht.put (VR.undef φ) o.dst) hr hs fun a2 w2 φ2 h2 hd h3 h4 => hQ a2 w2 φ2 h2 (by rw [hd, put_defers]) h3 h4
    · cases hs
def exOf : Ex → Exit
  | .normal => .normal
  | .exit id => .exit id
  | .ret => .ret
def Post (base : Nat) (φ : Ph) (h : SH) (w : World) (ds : List Deferred) (e : Ex) (t' : SF) (h' : SH) : Exit → Act → World → Prop :=
  fun ex a' w' => ∃ φ', ex = exOf e ∧ TR φ' t' a' ∧ a'.defers = ds ∧ HR base φ' h' w' ∧ Mv φ h w φ' h' w'
theorem Post.of {base : Nat} {φ φ1 : Ph} {h h1 : SH} {w w1 : World} {ds : List Deferred} {e : Ex} {t' : SF} {h' : SH} (hm : Mv φ h w φ1 h1 w1) {ex : Exit} {a' : Act} {w' : World} (hp : Post base φ1 h1 w1 ds e t' h' ex a' w') : Post base φ h w ds e t' h' ex a' w' := by
  obtain ⟨φ', p1, p2, p3, p4, p5⟩ := hp
  exact ⟨φ', p1, p2, p3, p4, hm.trans p5⟩
def ExecOK (P : Program) (base n : Nat) : Prop :=
  ∀ c t h e t' h', exec P n c t h = some (e, t', h') → ∀ φ a w, TR φ t a → HR base φ h w → c.wp P (Post base φ h w a.defers e t' h') a w
theorem frame_get (args : List SV) (n i : Nat) (v : SV) (h : (frame args n).get i = some v) : args[i]? = some v := by
  have key : ∀ (l : List SV) (t : T SV) (k : Nat), (l.foldl (fun (q : T SV × Nat) v => (q.1.put q.2 (some v), q.2 + 1)) (t, k)).1.get i = if k ≤ i ∧ i < k + l.length then l[i - k]? else t.get i := by
    intro l
    induction l with
    | nil => intro t k; simp; omega
    | cons x l ih =>
      intro t k
      rw [List.foldl_cons, ih, T.get_put, List.length_cons]
      by_cases h1 : i = k
      · subst h1; rw [if_neg (by omega), if_pos rfl, if_pos (by omega)]; simp
      · by_cases h2 : k + 1 ≤ i ∧ i < k + 1 + l.length
        · rw [if_pos h2, if_pos (by omega)]
          rw [show i - k = (i - (k + 1)) + 1 by omega, List.getElem?_cons_succ]
        · rw [if_neg h2, if_neg h1, if_neg (by omega)]
  have h' : (args.foldl (fun (q : T SV × Nat) v => (q.1.put q.2 (some v), q.2 + 1)) (.e, 0)).1.get i = some v := h
  rw [key] at h'
  by_cases hi : 0 ≤ i ∧ i < 0 + args.length
  · rw [if_pos hi] at h'; simpa using h'
  · rw [if_neg hi] at h'; simp at h'
theorem frame_TR {φ : Ph} {args : List SV} {args' : List Value} (h : All2 (VR φ) args args') (n : Nat) : TR φ (frame args n) { tmps := args'.toArray ++ Array.replicate (n - args'.toArray.size) undef, defers := [] } := by
  have hl := h.length
  refine ⟨by simp [frame]; omega, fun i v hi => ?_⟩
  have := frame_get args n i v hi
  obtain ⟨x, h1, h2⟩ := h.get this
  have hlt := (List.getElem?_eq_some_iff.1 h1).1
  refine ⟨by simp; omega, ?_⟩
  rw [Array.getD_eq_getD_getElem?, Array.getElem?_append_left (by simpa using hlt)]
  simpa [h1] using h2
theorem VR.flat {φ : Ph} : ∀ {x : SV} {v : Value}, VR φ x v → x.flat = true → VR1 φ x v
  | .c _, _, h, _ => h
  | .agg _, _, h, _ => h
  | .tup _, _, _, h => by simp [SV.flat] at h
theorem evRes_sound {base : Nat} {φ : Ph} {h : SH} {w : World} {t : SF} {a : Act} (ht : TR φ t a) (hr : HR base φ h w) : ∀ {rs : List ResultVar} {l : List SV}, evRes P t h rs = some l →
    ∃ vs : List Value, (rs.mapM fun (x : ResultVar) => (match x with | .tmp t => pure (a.tmps.getD t undef) | .cell b ty => do loadVar ty (← asAddr (a.tmps.getD b undef)) : Sem Value)).run P w = .ok vs w ∧ All2 (VR φ) l vs
  | [], l, hl => by simp only [evRes, Option.some.injEq] at hl; subst hl; exact ⟨[], rfl, trivial⟩
  | .tmp i :: rs, l, hl => by
    simp only [evRes] at hl
    split at hl
    · rename_i v r hv hr'
      simp only [Option.some.injEq] at hl
      subst hl
      obtain ⟨vs, h1, h2⟩ := evRes_sound ht hr hr'
      have := ev_sound ht hv
      exact ⟨a.tmps.getD i undef :: vs, by simp only [List.mapM_cons, Sem.run_bind, Sem.run_pure, Result.andThen_ok, h1], this, h2⟩
    · cases hl
  | .cell i ty :: rs, l, hl => by
    simp only [evRes] at hl
    split at hl
    · rename_i b o r hv hr'
      split at hl
      · rename_i v hld
        simp only [Option.some.injEq] at hl
        subst hl
        obtain ⟨vs, h1, h2⟩ := evRes_sound ht hr hr'
        have hp := ev_sound ht hv
        obtain ⟨v', g1, g2⟩ := load_sound (P := P) hr (a := a.eval (.tmp i)) hp hld
        obtain ⟨L, hL, he⟩ := hp
        have he' : a.tmps.getD i undef = .pointer (some ⟨L.m, L.m0 + o, none⟩) := he
        rw [he] at g1
        have g1' : (loadVar ty ⟨L.m, L.m0 + o, none⟩).run P w = .ok v' w := by simpa [Instr.loadAt, Instr.sureAddr] using g1
        refine ⟨v' :: vs, ?_, g2, h2⟩
        have ha : (asAddr (a.tmps.getD i undef)).run P w = .ok ⟨L.m, L.m0 + o, none⟩ w := by rw [he']; rfl
        simp only [List.mapM_cons, Sem.run_bind, ha, Sem.run_pure, Result.andThen_ok, g1', h1]
      · cases hl
    · cases hl
theorem ending_sound {base : Nat} {φ : Ph} {h : SH} {w : World} {fn : Func} {r : Option (Ex × SF × SH)} {v : SV} {h' : SH} (hs : ending P fn.results.toList r = some (v, h')) : ∃ e t, r = some (e, t, h') ∧ (e = .normal ∨ e = .ret) ∧
    ∀ φ a w, TR φ t a → HR base φ h' w → ∃ v', (results fn a.tmps).run P w = .ok v' w ∧ VR φ v v' := by
  have key : ∀ (t : SF) (h1 : SH) (l : List SV), evRes P t h1 fn.results.toList = some l → (resOf l).map (·, h1) = some (v, h') → h1 = h' ∧ ∀ φ a w, TR φ t a → HR base φ h' w → ∃ v', (results fn a.tmps).run P w = .ok v' w ∧ VR φ v v' := by
    intro t h1 l hl hres
    cases hq : resOf l with
    | none => simp [hq] at hres
    | some x =>
      simp only [hq, Option.map_some, Option.some.injEq, Prod.mk.injEq] at hres
      obtain ⟨rfl, rfl⟩ := hres
      refine ⟨rfl, fun φ a w ht hr => ?_⟩
      obtain ⟨vs, g1, g2⟩ := evRes_sound ht hr hl
      have hrun : (results fn a.tmps).run P w = .ok (if h : vs.toArray.size = 1 then vs.toArray[0] else .tuple vs.toArray) w := by
        unfold results
        rw [Array.mapM_eq_mapM_toList]
        simp only [Sem.run_bind, Sem.run_map]
        erw [g1]
        rfl
      refine ⟨_, hrun, ?_⟩
      unfold resOf at hq
      split at hq
      · rename_i v0
        simp only [Option.some.injEq] at hq
        subst hq
        obtain ⟨y, rfl, hy⟩ := all2_one g2
        simpa using hy
      · rename_i l0 hne
        split at hq
        · rename_i hall
          simp only [Option.some.injEq] at hq
          subst hq
          have hlen := g2.length
          have h1 : ¬ (vs.toArray.size = 1) := by
            intro e
            have : l.length = 1 := by rw [hlen]; simpa using e
            match l, this with
            | [x], _ => exact hne x rfl
          rw [dif_neg h1]
          refine ⟨vs.toArray, rfl, ?_⟩
          have : ∀ (l : List SV) (vs : List Value), All2 (VR φ) l vs → l.all SV.flat = true → All2 (VR1 φ) l vs := by
            intro l
            induction l with
            | nil => intro vs h _; cases vs with
              | nil => trivial
              | cons _ _ => exact h.elim
            | cons x l ih => intro vs h ha; cases vs with
              | nil => exact h.elim
              | cons y vs =>
                simp only [List.all_cons, Bool.and_eq_true] at ha
                exact ⟨h.1.flat ha.1, ih vs h.2 ha.2⟩
          simpa using this _ _ g2 hall
        · cases hq
  unfold ending at hs
  split at hs
  · rename_i t h1
    split at hs
    · rename_i l hl
      obtain ⟨rfl, k⟩ := key t h1 l hl hs
      exact ⟨_, t, rfl, .inl rfl, k⟩
    · cases hs
  · rename_i t h1
    split at hs
    · rename_i l hl
      obtain ⟨rfl, k⟩ := key t h1 l hl hs
      exact ⟨_, t, rfl, .inr rfl, k⟩
    · cases hs
  · cases hs
def callF (P : Program) (n : Nat) : FuncId → List SV → SH → Option (SV × SH) := fun f args h =>
  match P.funcs[f]? with
  | some fn => match fn.body with
    | some b => ending P fn.results.toList (exec P n b (frame args fn.ntmps) h)
    | none => none
  | none => none
theorem call_sound {base n : Nat} (hng : ∀ (f : FuncId) (fn : Func), P.funcs[f]? = some fn → (fn.name == "runtime.NumGoroutine") = false) (hx : ExecOK P base n) : CallOK P base (callF P n) := by
  intro f args h v h' hs
  unfold callF at hs
  split at hs
  · rename_i fn hf
    split at hs
    · rename_i b hb
      refine ⟨⟨fn, hf, by rw [hb]; rfl, hng f fn hf⟩, fun φ args' w ha hr => ?_⟩
      obtain ⟨e, t, he, hor, hk⟩ := ending_sound (base := base) (φ := φ) (h := h) (w := w) hs
      have hwp := hx b (frame args fn.ntmps) h e t h' he φ _ w (frame_TR ha fn.ntmps) hr
      refine calls_of_wp hf hb (wp_mono hwp fun ex a' w' hp => ?_)
      obtain ⟨φ', rfl, p2, p3, p4, p5⟩ := hp
      obtain ⟨v', r1, r2⟩ := hk φ' a' w' p2 p4
      rcases hor with rfl | rfl
      · exact ⟨p3, v', r1, v', φ', rfl, r2, p4, p5⟩
      · exact ⟨p3, v', r1, v', φ', rfl, r2, p4, p5⟩
    · cases hs
  · cases hs
theorem exec_eq (n : Nat) (c : Code) (t : SF) (h : SH) : exec P (n + 1) c t h = match c with
    | .skip => some (.normal, t, h)
    | .ret => some (.ret, t, h)
    | .exit id => some (.exit id, t, h)
    | .seq x y => match exec P n x t h with
      | some (.normal, t, h) => exec P n y t h
      | r => r
    | .cond c x y => match ev t c with
      | some (.c (.bool true)) => exec P n x t h
      | some (.c (.bool false)) => exec P n y t h
      | _ => none
    | .block id x => match exec P n x t h with
      | some (.exit j, t, h) => if j = id then some (.normal, t, h) else some (.exit j, t, h)
      | r => r
    | .loop x => match exec P n x t h with
      | some (.normal, t, h) => exec P n (.loop x) t h
      | r => r
    | .region _ ops draw => stepsD P draw (callF P n) ops t h
    | _ => none := by
  cases c <;> rfl
def RegOK (P : Program) (base : Nat) : Prop := ∀ (call : FuncId → List SV → SH → Option (SV × SH)), CallOK P base call → ∀ id ops draw t h e t' h', stepsD P draw call ops t h = some (e, t', h') →
  ∀ φ a w, TR φ t a → HR base φ h w → (Code.region id ops draw).wp P (Post base φ h w a.defers e t' h') a w
theorem exec_sound {base : Nat} (hng : ∀ (f : FuncId) (fn : Func), P.funcs[f]? = some fn → (fn.name == "runtime.NumGoroutine") = false) (hreg : RegOK P base) : ∀ n, ExecOK P base n := by
  intro n
  induction n using Nat.strongRecOn with
  | _ n ih =>
    intro c t h e t' h' hs φ a w ht hr
    cases n with
    | zero => simp [exec] at hs
    | succ n =>
      have ih' : ExecOK P base n := ih n (Nat.lt_succ_self n)
      rw [exec_eq] at hs
      cases c with
      | skip =>
        simp only [Option.some.injEq, Prod.mk.injEq] at hs
        obtain ⟨rfl, rfl, rfl⟩ := hs
        exact wp_skip ⟨φ, rfl, ht, rfl, hr, Mv.refl _ _ _⟩
      | ret =>
        simp only [Option.some.injEq, Prod.mk.injEq] at hs
        obtain ⟨rfl, rfl, rfl⟩ := hs
        exact wp_ret ⟨φ, rfl, ht, rfl, hr, Mv.refl _ _ _⟩
      | exit id =>
        simp only [Option.some.injEq, Prod.mk.injEq] at hs
        obtain ⟨rfl, rfl, rfl⟩ := hs
        exact wp_exit ⟨φ, rfl, ht, rfl, hr, Mv.refl _ _ _⟩
      | seq x y =>
        simp only at hs
        refine wp_seq ?_
        split at hs
        · rename_i t1 h1 hx
          refine wp_mono (ih' x t h .normal t1 h1 hx φ a w ht hr) fun ex a1 w1 hp => ?_
          obtain ⟨φ1, rfl, p2, p3, p4, p5⟩ := hp
          refine wp_mono (ih' y t1 h1 e t' h' hs φ1 a1 w1 p2 p4) fun ex a2 w2 hp2 => ?_
          rw [p3] at hp2
          exact hp2.of p5
        · rename_i hne
          refine wp_mono (ih' x t h e t' h' hs φ a w ht hr) fun ex a1 w1 hp => ?_
          obtain ⟨φ1, rfl, p⟩ := hp
          cases e with
          | normal => exact absurd hs (hne t' h')
          | exit id => exact ⟨φ1, rfl, p⟩
          | ret => exact ⟨φ1, rfl, p⟩
      | cond c x y =>
        simp only at hs
        split at hs
        · rename_i hc
          exact wp_cond_true (ev_sound ht hc) (ih' x t h e t' h' hs φ a w ht hr)
        · rename_i hc
          exact wp_cond_false (ev_sound ht hc) (ih' y t h e t' h' hs φ a w ht hr)
        · cases hs
      | block id x =>
        simp only at hs
        refine wp_block ?_
        split at hs
        · rename_i j t1 h1 hx
          refine wp_mono (ih' x t h (.exit j) t1 h1 hx φ a w ht hr) fun ex a1 w1 hp => ?_
          obtain ⟨φ1, rfl, p2⟩ := hp
          show (if j = id then _ else _ : Prop)
          split at hs
          · rename_i hj
            simp only [Option.some.injEq, Prod.mk.injEq] at hs
            obtain ⟨rfl, rfl, rfl⟩ := hs
            rw [if_pos hj]
            exact ⟨φ1, rfl, p2⟩
          · rename_i hj
            simp only [Option.some.injEq, Prod.mk.injEq] at hs
            obtain ⟨rfl, rfl, rfl⟩ := hs
            rw [if_neg hj]
            exact ⟨φ1, rfl, p2⟩
        · rename_i hne
          refine wp_mono (ih' x t h e t' h' hs φ a w ht hr) fun ex a1 w1 hp => ?_
          obtain ⟨φ1, rfl, p⟩ := hp
          cases e with
          | normal => exact ⟨φ1, rfl, p⟩
          | exit j => exact absurd hs (hne j t' h')
          | ret => exact ⟨φ1, rfl, p⟩
      | loop x =>
        refine wp_loop_rounds (n + 1) ?_
        have key : ∀ m, m ≤ n → ∀ (φ : Ph) (t : SF) (h : SH) (a : Act) (w : World), TR φ t a → HR base φ h w → exec P (m + 1) (.loop x) t h = some (e, t', h') → Code.rounds P x (Post base φ h w a.defers e t' h') (m + 1) a w := by
          intro m
          induction m with
          | zero =>
            intro _ φ t h a w ht hr hs
            rw [exec_eq] at hs
            simp [exec] at hs
          | succ m ihm =>
            intro hm φ t h a w ht hr hs
            rw [exec_eq] at hs
            simp only at hs
            rw [rounds_succ]
            split at hs
            · rename_i t1 h1 hx
              refine wp_mono (ih (m + 1) (by omega) x t h .normal t1 h1 hx φ a w ht hr) fun ex a1 w1 hp => ?_
              obtain ⟨φ1, rfl, p2, p3, p4, p5⟩ := hp
              have := ihm (by omega) φ1 t1 h1 a1 w1 p2 p4 hs
              have hmono : ∀ (k : Nat) (Q Q' : Exit → Act → World → Prop), (∀ ex a w, Q ex a w → Q' ex a w) → ∀ a w, Code.rounds P x Q k a w → Code.rounds P x Q' k a w := by
                intro k Q Q' hq
                induction k with
                | zero => intro a w h; exact h
                | succ k ihk =>
                  intro a w h
                  rw [rounds_succ] at h ⊢
                  refine wp_mono h fun ex a w hh => ?_
                  cases ex with
                  | normal => exact ihk _ _ hh
                  | exit id => exact hq _ _ _ hh
                  | goto l => exact hq _ _ _ hh
                  | ret => exact hq _ _ _ hh
                  | panic c => exact hq _ _ _ hh
                  | outgrown => exact hq _ _ _ hh
              refine hmono _ _ _ (fun ex a2 w2 hp2 => ?_) _ _ this
              rw [p3] at hp2
              exact hp2.of p5
            · rename_i hne
              refine wp_mono (ih (m + 1) (by omega) x t h e t' h' hs φ a w ht hr) fun ex a1 w1 hp => ?_
              obtain ⟨φ1, rfl, p⟩ := hp
              cases e with
              | normal => exact absurd hs (hne t' h')
              | exit id => exact ⟨φ1, rfl, p⟩
              | ret => exact ⟨φ1, rfl, p⟩
        refine key n (Nat.le_refl _) φ t h a w ht hr ?_
        rw [exec_eq]
        exact hs
      | region id ops draw =>
        exact hreg (callF P n) (call_sound hng ih') id ops draw t h e t' h' hs φ a w ht hr
      | _ => simp at hs
end Go.Proofs.Ytjlfojgacnphmaa.Sim
