/- Calls: a function's contract over a small memory, and its use in a greater one. No program in sight. -/
import Derived.Test.YtgaaffanoegbhaaSymF
namespace Go.Proofs.Ytgaaffanoegbhaa.Sym
open Go Go.RowKit Go.Proofs.Ytgaaffanoegbhaa.Sim
set_option linter.unusedSimpArgs false
set_option linter.unusedVariables false

inductive LR where
  | t (i : Nat)
  | c1 (i : Nat)
  | cn (i n : Nat)
def lowR (P : Program) : ResultVar → Option LR
  | .tmp i => some (.t i)
  | .cell i ty => match isAg P ty, szOf P ty with
    | some false, some _ => some (.c1 i)
    | some true, some n => some (.cn i n)
    | _, _ => none
def lowRs (P : Program) : List ResultVar → Option (List LR)
  | [] => some []
  | x :: l => match lowR P x, lowRs P l with
    | some y, some r => some (y :: r)
    | _, _ => none
def resV (e : Env) (h : HS) : LR → Option XV
  | .t i => look e i
  | .c1 i => match look e i with
    | some (.c (.ptr b o)) => match h.get b with
      | some (.row l _) => match getN l o 1 with
        | some [x] => some (.c x)
        | _ => none
      | _ => none
    | _ => none
  | .cn i n => match look e i with
    | some (.c (.ptr b o)) => match h.get b with
      | some (.row l _) => match getN l o n with
        | some r => some (.agg r)
        | none => none
      | _ => none
    | _ => none
def resVs (e : Env) (h : HS) : List LR → Option (List XV)
  | [] => some []
  | x :: l => match resV e h x, resVs e h l with
    | some v, some r => some (v :: r)
    | _, _ => none
def XV.flat : XV → Bool
  | .tup _ => false
  | _ => true
def retX (rs : List LR) (e : Env) (h : HS) : Option XV :=
  match resVs e h rs with
  | some [v] => some v
  | some l => match l.all XV.flat with
    | true => some (.tup l)
    | false => none
  | none => none
structure LF where
  n : Nat
  rs : List LR
  c : LC
def lowerF (P : Program) (f : FuncId) : Option LF :=
  match P.funcs[f]? with
  | some fn => match fn.body with
    | some b => match lowerC P fn.ntmps b, lowRs P fn.results.toList with
      | some c, some rs => some ⟨fn.ntmps, rs, c⟩
      | _, _ => none
    | none => none
  | none => none
def argE : Nat → List XV → Env
  | _, [] => []
  | k, v :: l => (k, v) :: argE (k + 1) l
theorem look_argE : ∀ {l : List XV} {k i : Nat} {v : XV}, look (argE k l) i = some v → k ≤ i ∧ l[i - k]? = some v
  | [], k, i, v, h => by simp [argE, look] at h
  | x :: l, k, i, v, h => by
    simp only [argE, look_cons] at h
    by_cases hb : Nat.beq k i = true
    · rw [hb] at h
      have := Nat.eq_of_beq_eq_true hb
      subst this
      simp only [cond_true] at h
      simpa using h
    · rw [Bool.eq_false_iff.2 hb] at h
      obtain ⟨h1, h2⟩ := look_argE h
      refine ⟨by omega, ?_⟩
      rw [show i - k = (i - (k + 1)) + 1 by omega, List.getElem?_cons_succ]
      exact h2
theorem resV_ev {P : Program} {n : Nat} {e : Env} {h : HS} {x : ResultVar} {y : LR} {v : XV} {rs : List ResultVar} {r : List SV} (hx : lowR P x = some y) (hv : resV e h y = some v) (hr : evRes P (toSF n e) h.sh rs = some r) : evRes P (toSF n e) h.sh (x :: rs) = some (v.sv :: r) := by
  cases x with
  | tmp i =>
    simp only [lowR, Option.some.injEq] at hx
    subst hx
    simp only [resV] at hv
    simp only [evRes, ev, get_toSF, hv, Option.map_some, hr]
  | cell i ty =>
    simp only [lowR] at hx
    split at hx
    · rename_i s hag hsz
      simp only [Option.some.injEq] at hx
      subst hx
      simp only [resV] at hv
      repeat' split at hv
      all_goals first
        | cases hv; done
        | skip
      rename_i b o hi _ l own hb _ z hl
      simp only [Option.some.injEq] at hv
      subst hv
      obtain ⟨g1, g2⟩ := map_getN XC.sc hl
      simp only [evRes, ev, get_toSF, hi, Option.map_some, XV.sv, XC.sc, hr, sLoad, hag, hsz, SH.read, get_row hb, if_pos g1, g2, List.map_cons, List.map_nil]
    · rename_i s hag hsz
      simp only [Option.some.injEq] at hx
      subst hx
      simp only [resV] at hv
      repeat' split at hv
      all_goals first
        | cases hv; done
        | skip
      rename_i b o hi _ l own hb _ z hl
      simp only [Option.some.injEq] at hv
      subst hv
      obtain ⟨g1, g2⟩ := map_getN XC.sc hl
      simp only [evRes, ev, get_toSF, hi, Option.map_some, XV.sv, XC.sc, hr, sLoad, hag, hsz, SH.read, get_row hb, if_pos g1, g2]
    · cases hx
theorem resVs_ev {P : Program} {n : Nat} {e : Env} {h : HS} : ∀ {xs : List ResultVar} {ys : List LR} {vs : List XV}, lowRs P xs = some ys → resVs e h ys = some vs → evRes P (toSF n e) h.sh xs = some (vs.map XV.sv)
  | [], ys, vs, hx, hv => by
    simp only [lowRs, Option.some.injEq] at hx; subst hx
    simp only [resVs, Option.some.injEq] at hv; subst hv; rfl
  | x :: l, ys, vs, hx, hv => by
    simp only [lowRs] at hx
    split at hx
    · rename_i y r h1 h2
      simp only [Option.some.injEq] at hx
      subst hx
      simp only [resVs] at hv
      split at hv
      · rename_i v q g1 g2
        simp only [Option.some.injEq] at hv
        subst hv
        exact resV_ev h1 g1 (resVs_ev h2 g2)
      · cases hv
    · cases hx
theorem retX_ev {P : Program} {n : Nat} {e : Env} {h : HS} {xs : List ResultVar} {ys : List LR} {v : XV} (hx : lowRs P xs = some ys) (hv : retX ys e h = some v) : ∃ l, evRes P (toSF n e) h.sh xs = some l ∧ resOf l = some v.sv := by
  unfold retX at hv
  split at hv
  · rename_i v1 h1
    simp only [Option.some.injEq] at hv
    subst hv
    exact ⟨_, resVs_ev hx h1, rfl⟩
  · rename_i l hne h1
    split at hv
    · rename_i hf
      simp only [Option.some.injEq] at hv
      subst hv
      refine ⟨_, resVs_ev hx h1, ?_⟩
      have hall : (l.map XV.sv).all SV.flat = true := by
        rw [List.all_map, List.all_eq_true] at *
        intro x hx
        have := hf x hx
        cases x <;> simp_all [XV.flat, XV.sv, SV.flat]
      have hs : (XV.tup l).sv = .tup (l.map XV.sv) := by simp only [XV.sv, svs_map]
      rw [hs]
      match l, hne with
      | [], _ => rfl
      | [x], hne => exact absurd rfl (hne x)
      | x :: y :: r, _ =>
        show (if (List.map XV.sv (x :: y :: r)).all SV.flat = true then some (SV.tup (List.map XV.sv (x :: y :: r))) else none) = _
        rw [if_pos hall]
    · cases hv
  · cases hv

/-- A function's contract: with these arguments and this memory it returns that, and leaves that memory. -/
structure CallS (P : Program) (base : Nat) (f : FuncId) (args : List XV) (h : HS) (r : XV) (h' : HS) : Prop where
  fn : ∃ fn, P.funcs[f]? = some fn ∧ fn.body.isSome = true ∧ (fn.name == "runtime.NumGoroutine") = false
  run : ∀ φ (args' : List Value) w, All2 (VR φ) (args.map XV.sv) args' → HR base φ h.sh w → Calls P f args'.toArray w fun e w' => ∃ v' φ', e = .returned v' ∧ VR φ' r.sv v' ∧ HR base φ' h'.sh w' ∧ Mo h.next φ φ' h.sh w h'.sh w'
/-- The same, in whatever memory. -/
structure Call (P : Program) (base : Nat) (f : FuncId) (args : List SV) (h : SH) (r : SV) (h' : SH) : Prop where
  fn : ∃ fn, P.funcs[f]? = some fn ∧ fn.body.isSome = true ∧ (fn.name == "runtime.NumGoroutine") = false
  run : ∀ φ (args' : List Value) w, All2 (VR φ) args args' → HR base φ h w → Calls P f args'.toArray w fun e w' => ∃ v' φ', e = .returned v' ∧ VR φ' r v' ∧ HR base φ' h' w' ∧ Mv φ h w φ' h' w'
/-- How a body is to end. -/
def finQ (k : Nat) (rs : List LR) (r : XV) (h' : HS) : QX := fun x e h => (x = .normal ∨ x = .ret) ∧ ∃ ρ r2 r3, retX rs e h = some r2 ∧ rhoOK ρ k h'.next = true ∧ r.ren (look ρ) = some r3 ∧ Wk r2 r3 ∧ HeapOK (look ρ) h h'.l
section
variable {P : Program} {base : Nat}
theorem finQ.ret {k : Nat} {rs : List LR} {r r2 r3 : XV} {e : Env} {h h' : HS} (ρ : List (Nat × Nat)) (hr : retX rs e h = some r2) (hρ : rhoOK ρ k h'.next = true) (hn : r.ren (look ρ) = some r3) (hw : Wk r2 r3) (hh : HeapOK (look ρ) h h'.l) : finQ k rs r h' .ret e h := ⟨.inr rfl, ρ, r2, r3, hr, hρ, hn, hw, hh⟩
theorem finQ.normal {k : Nat} {rs : List LR} {r r2 r3 : XV} {e : Env} {h h' : HS} (ρ : List (Nat × Nat)) (hr : retX rs e h = some r2) (hρ : rhoOK ρ k h'.next = true) (hn : r.ren (look ρ) = some r3) (hw : Wk r2 r3) (hh : HeapOK (look ρ) h h'.l) : finQ k rs r h' .normal e h := ⟨.inl rfl, ρ, r2, r3, hr, hρ, hn, hw, hh⟩
theorem arg_TR {φ : Ph} {n : Nat} {args : List XV} {args' : List Value} (ha : All2 (VR φ) (args.map XV.sv) args') (hn : args.length ≤ n) : TR φ (toSF n (argE 0 args)) { tmps := args'.toArray ++ Array.replicate (n - args'.toArray.size) undef, defers := [] } := by
  have hl := ha.length
  simp only [List.length_map] at hl
  refine ⟨by simp [toSF]; omega, fun i v hi => ?_⟩
  rw [get_toSF] at hi
  cases hq : look (argE 0 args) i with
  | none => simp [hq] at hi
  | some u =>
    simp only [hq, Option.map_some, Option.some.injEq] at hi
    subst hi
    obtain ⟨_, h1⟩ := look_argE hq
    obtain ⟨x, h2, h3⟩ := ha.get (i := i) (a := u.sv) (by rw [List.getElem?_map]; simp at h1; rw [h1]; rfl)
    have hlt := (List.getElem?_eq_some_iff.1 h2).1
    refine ⟨by simp; omega, ?_⟩
    rw [Array.getD_eq_getD_getElem?, Array.getElem?_append_left (by simpa using hlt)]
    simpa [h2] using h3
theorem CallS.of {f : FuncId} {args : List XV} {h h' : HS} {r : XV} {F : LF} (hng : ∀ (f : FuncId) (fn : Func), P.funcs[f]? = some fn → (fn.name == "runtime.NumGoroutine") = false) (hl : lowerF P f = some F) (hn : Nat.ble args.length F.n = true)
    (hx : X P base F.n h.next F.c (argE 0 args) h (finQ h.next F.rs r h')) : CallS P base f args h r h' := by
  unfold lowerF at hl
  split at hl
  · rename_i fn hf
    split at hl
    · rename_i b hb
      split at hl
      · rename_i c rs h1 h2
        simp only [Option.some.injEq] at hl
        subst hl
        refine ⟨⟨fn, hf, by rw [hb]; rfl, hng f fn hf⟩, fun φ args' w ha hr => ?_⟩
        refine calls_of_wp hf hb (wp_mono (hx.run b h1 φ _ w (arg_TR ha (Nat.le_of_ble_eq_true hn)) hr) fun ex a' w' hp => ?_)
        obtain ⟨x, e', h2', φ', ⟨p0, ρ, r2, r3, p1, q1, q2, q3, q4⟩, rfl, p3, p4, p5, p6⟩ := hp
        obtain ⟨l, g1, g2⟩ := retX_ev (n := fn.ntmps) h2 p1
        have hend : ending P fn.results.toList (some (x, toSF fn.ntmps e', h2'.sh)) = some (r2.sv, h2'.sh) := by
          rcases p0 with rfl | rfl <;> simp only [ending, g1, g2, Option.map_some]
        obtain ⟨e0, t0, f1, f2, f3⟩ := ending_sound (base := base) (φ := φ) (h := h.sh) (w := w) hend
        simp only [Option.some.injEq, Prod.mk.injEq] at f1
        obtain ⟨rfl, rfl, _⟩ := f1
        obtain ⟨v', r1, r2'⟩ := f3 φ' a' w' p3 p5
        obtain ⟨-, s2, s3⟩ := ren_state (k := h.next) (e := e') (e' := []) q1 trivial q4 p3 p5
        have s4 : VR (pull (look ρ) φ') r.sv v' := (VR.al (pull_al (look ρ) φ') q2).2 (q3 φ' v' r2')
        rcases f2 with rfl | rfl
        · exact ⟨p4, v', r1, v', _, rfl, s4, s2, p6.trans s3⟩
        · exact ⟨p4, v', r1, v', _, rfl, s4, s2, p6.trans s3⟩
      · cases hl
    · cases hl
  · cases hl
/-- How the small names lie in the greater memory. -/
def gOf (ρ : List (Nat × Nat)) (k N : Nat) : Nat → Option Nat := fun b => bif Nat.blt b k then look ρ b else some (N + (b - k))
def frameL (g : Nat → Option Nat) : List (Nat × Option XO) → Option (List (Nat × Option XO))
  | [] => some []
  | (b, some o) :: r => match g b, o.ren g, frameL g r with
    | some b, some o, some r => some ((b, some o) :: r)
    | _, _, _ => none
  | (b, none) :: r => match g b, frameL g r with
    | some b, some r => some ((b, none) :: r)
    | none, some r => some r
    | _, _ => none
def drops : List (Nat × Nat) → List (Nat × Option XO)
  | [] => []
  | p :: r => (p.2, none) :: drops r
def appL {α : Type} : List α → List α → List α
  | [], r => r
  | x :: l, r => x :: appL l r
theorem look_app {α : Type} : ∀ {l r : List (Nat × α)} {i : Nat}, look (appL l r) i = match look l i with
    | some x => some x
    | none => look r i
  | [], r, i => by simp [appL, look]
  | p :: l, r, i => by
    simp only [appL, look_cons]
    cases Nat.beq p.1 i with
    | true => rfl
    | false => exact look_app
theorem look_drops : ∀ {ρ : List (Nat × Nat)} {j : Nat} {x : Option XO}, look (drops ρ) j = some x → x = none
  | [], j, x, h => by simp [drops, look] at h
  | p :: r, j, x, h => by
    simp only [drops, look_cons] at h
    cases hb : Nat.beq p.2 j with
    | true => rw [hb] at h; simp only [cond_true, Option.some.injEq] at h; exact h.symm
    | false => rw [hb] at h; exact look_drops h
theorem look_drops_none : ∀ {ρ : List (Nat × Nat)} {j b : Nat}, look (drops ρ) j = none → look ρ b ≠ some j
  | [], j, b, _ => by simp [look]
  | p :: r, j, b, h => by
    simp only [drops, look_cons] at h ⊢
    cases hb : Nat.beq p.2 j with
    | true => rw [hb] at h; simp at h
    | false =>
      rw [hb] at h
      cases Nat.beq p.1 b with
      | true => intro e; simp only [cond_true, Option.some.injEq] at e; rw [e] at hb; simp at hb
      | false => exact look_drops_none h
theorem frameL_get {g : Nat → Option Nat} (hg : ∀ a b c, g a = some c → g b = some c → a = b) : ∀ {l l2 : List (Nat × Option XO)}, frameL g l = some l2 → ∀ {j : Nat} {x : Option XO}, look l2 j = some x → ∃ b y, g b = some j ∧ look l b = some y ∧ (∀ o, x = some o → ∃ o0, y = some o0 ∧ o0.ren g = some o)
  | [], l2, h, j, x, hj => by
    simp only [frameL, Option.some.injEq] at h
    subst h
    simp [look] at hj
  | (b, some o) :: r, l2, h, j, x, hj => by
    simp only [frameL] at h
    split at h
    · rename_i b' o' r' h1 h2 h3
      simp only [Option.some.injEq] at h
      subst h
      simp only [look_cons] at hj
      cases hb : Nat.beq b' j with
      | true =>
        rw [hb] at hj
        simp only [cond_true, Option.some.injEq] at hj
        have := Nat.eq_of_beq_eq_true hb
        subst hj; subst this
        exact ⟨b, some o, h1, by simp [look], fun q hq => by simp only [Option.some.injEq] at hq; subst hq; exact ⟨o, rfl, h2⟩⟩
      | false =>
        rw [hb] at hj
        obtain ⟨c, y, k1, k2, k3⟩ := frameL_get hg h3 hj
        refine ⟨c, y, k1, ?_, k3⟩
        simp only [look_cons]
        have : Nat.beq b c = false := by
          rw [Bool.eq_false_iff]
          intro e
          have := Nat.eq_of_beq_eq_true e
          subst this
          rw [k1] at h1
          cases h1
          simp at hb
        rw [this]; exact k2
    · cases h
  | (b, none) :: r, l2, h, j, x, hj => by
    simp only [frameL] at h
    split at h
    · rename_i b' r' h1 h3
      simp only [Option.some.injEq] at h
      subst h
      simp only [look_cons] at hj
      cases hb : Nat.beq b' j with
      | true =>
        rw [hb] at hj
        simp only [cond_true, Option.some.injEq] at hj
        have := Nat.eq_of_beq_eq_true hb
        subst hj; subst this
        exact ⟨b, none, h1, by simp [look], fun q hq => by cases hq⟩
      | false =>
        rw [hb] at hj
        obtain ⟨c, y, k1, k2, k3⟩ := frameL_get hg h3 hj
        refine ⟨c, y, k1, ?_, k3⟩
        simp only [look_cons]
        have : Nat.beq b c = false := by
          rw [Bool.eq_false_iff]
          intro e
          have := Nat.eq_of_beq_eq_true e
          subst this
          rw [k1] at h1
          cases h1
          simp at hb
        rw [this]; exact k2
    · rename_i r' h1 h3
      simp only [Option.some.injEq] at h
      subst h
      obtain ⟨c, y, k1, k2, k3⟩ := frameL_get hg h3 hj
      refine ⟨c, y, k1, ?_, k3⟩
      simp only [look_cons]
      have : Nat.beq b c = false := by
        rw [Bool.eq_false_iff]
        intro e
        have := Nat.eq_of_beq_eq_true e
        subst this
        rw [k1] at h1
        cases h1
      rw [this]; exact k2
    · cases h
/-- May the small names lie so? -/
def rhoIn (ρ : List (Nat × Nat)) (h : HS) (N : Nat) : Bool := ρ.all (fun p => Nat.blt p.1 h.next && Nat.blt p.2 N && (h.get p.1).isSome) && nodupB (ρ.map (·.2))
theorem CallS.use {f : FuncId} {args args2 : List XV} {h h' H : HS} {r r2 : XV} (C : CallS P base f args h r h') (ρ : List (Nat × Nat)) (hρ : rhoIn ρ h H.next = true) (ha : XV.rens (look ρ) args = some args2) (hh : HeapOK (look ρ) H h.l)
    (hr2 : r.ren (gOf ρ h.next H.next) = some r2) {l2 : List (Nat × Option XO)} (hl2 : frameL (gOf ρ h.next H.next) h'.l = some l2) :
    Call P base f (args2.map XV.sv) H.sh r2.sv (HS.sh ⟨appL l2 (appL (drops ρ) H.l), H.next + (h'.next - h.next)⟩) := by
  refine ⟨C.fn, fun φ args' w hv hr => ?_⟩
  simp only [rhoIn, Bool.and_eq_true] at hρ
  obtain ⟨hρ1, hρ2⟩ := hρ
  have hρa : ∀ b c, look ρ b = some c → b < h.next ∧ c < H.next ∧ ∃ o, h.get b = some o := fun b c hb => by
    have := List.all_eq_true.1 hρ1 _ (look_mem hb)
    simp only [Bool.and_eq_true, Nat.blt_eq, Option.isSome_iff_exists] at this
    exact ⟨this.1.1, this.1.2, this.2⟩
  have hρ0 : rhoOK ρ 0 h.next = true := by
    simp only [rhoOK, Bool.and_eq_true, keeps, and_true]
    refine ⟨List.all_eq_true.2 fun p hp => ?_, hρ2⟩
    have := List.all_eq_true.1 hρ1 p hp
    simp only [Bool.and_eq_true] at this
    exact this.1.1
  have hal := pull_al (look ρ) φ
  obtain ⟨-, hrs, -⟩ := ren_state (n := 0) (k := 0) (e := []) (e' := []) (a := ⟨#[], []⟩) hρ0 trivial hh ⟨rfl, fun i v hi => by simp [get_toSF, look] at hi⟩ hr
  -- the small names that are owned are owned in the greater memory
  have hget : ∀ b q, h.sh.get b = some q → ∃ b' q', look ρ b = some b' ∧ H.sh.get b' = some q' ∧ q'.own = q.own := fun b q hq => by
    rw [HS.get_sh] at hq
    cases ho : h.get b with
    | none => simp [ho] at hq
    | some o =>
      simp only [ho, Option.map_some, Option.some.injEq] at hq
      subst hq
      obtain ⟨b', o2, o3, g1, g2, g3, g4⟩ := hh.get (HS.get_look ho)
      exact ⟨b', o2.so, g1, by rw [HS.get_sh, g3]; rfl, by rw [g4.1, ren_own g2]⟩
  have hown : ∀ b L, Owns (pull (look ρ) φ) h.sh b L → ∃ b', look ρ b = some b' ∧ Owns φ H.sh b' L := fun b L ⟨q, hq, ho, hL⟩ => by
    obtain ⟨b', q', g1, g2, g3⟩ := hget b q hq
    exact ⟨b', g1, q', g2, by rw [g3]; exact ho, by rw [← hal.f b b' g1]; exact hL⟩
  refine Calls.mono (C.run (pull (look ρ) φ) args' w ?_ hrs) fun en w' hp => ?_
  · have : ∀ {x y : List XV} {r : List Value}, XV.rens (look ρ) x = some y → All2 (VR φ) (y.map XV.sv) r → All2 (VR (pull (look ρ) φ)) (x.map XV.sv) r := by
      intro x
      induction x with
      | nil => intro y r hy h; simp only [XV.rens, Option.some.injEq] at hy; subst hy; cases r <;> first | exact h | trivial
      | cons u x ih =>
        intro y r hy h
        simp only [XV.rens] at hy
        split at hy
        · rename_i u' x' h1 h2
          simp only [Option.some.injEq] at hy
          subst hy
          cases r with
          | nil => exact h.elim
          | cons v r => exact ⟨(VR.al hal h1).2 h.1, ih h2 h.2⟩
        · cases hy
    exact this ha hv
  obtain ⟨v', φ', rfl, hv', hr', hm⟩ := hp
  have hg : ∀ a b c, gOf ρ h.next H.next a = some c → gOf ρ h.next H.next b = some c → a = b := fun a b c h1 h2 => by
    unfold gOf at h1 h2
    cases ha : Nat.blt a h.next <;> cases hb : Nat.blt b h.next <;> simp only [ha, hb, cond_true, cond_false, Option.some.injEq] at h1 h2
    · have e1 : ¬ a < h.next := fun e => by rw [← Nat.blt_eq] at e; rw [ha] at e; cases e
      have e2 : ¬ b < h.next := fun e => by rw [← Nat.blt_eq] at e; rw [hb] at e; cases e
      omega
    · have := (hρa _ _ h2).2.1; omega
    · have := (hρa _ _ h1).2.1; omega
    · exact nodupB_inj hρ2 h1 h2
  obtain ⟨ψ, hψ⟩ : ∃ ψ : Ph, ψ = ⟨fun j => if j < H.next then φ j else φ' (j - H.next + h.next), φ'.fm⟩ := ⟨_, rfl⟩
  have ψlt : ∀ j, j < H.next → ψ j = φ j := fun j hj => by rw [hψ]; exact if_pos hj
  have ψge : ∀ j, ¬ j < H.next → ψ j = φ' (j - H.next + h.next) := fun j hj => by rw [hψ]; exact if_neg hj
  have ψfm : ψ.fm = φ'.fm := by rw [hψ]
  have hal2 : Al (gOf ρ h.next H.next) φ' ψ := ⟨fun b b' hb => by
    unfold gOf at hb
    by_cases hlt : b < h.next
    · rw [show Nat.blt b h.next = true by simpa using hlt] at hb
      simp only [cond_true] at hb
      obtain ⟨g1, g2, o, g3⟩ := hρa b b' hb
      obtain ⟨L, g4, _⟩ := hrs.live b o.so (by rw [HS.get_sh, g3]; rfl)
      rw [hm.le b L hlt g4, ψlt b' g2, ← hal.f b b' hb, g4]
    · rw [show Nat.blt b h.next = false by rw [Bool.eq_false_iff]; simpa using hlt] at hb
      simp only [cond_false, Option.some.injEq] at hb
      subst hb
      rw [ψge _ (by omega)]
      congr 1
      omega, ψfm.symm⟩
  have hle : Le φ ψ := ⟨fun b L hb => by rw [ψlt b (hr.dom b L hb)]; exact hb, fun m o ho => by rw [ψfm]; exact hm.lfm m o ho⟩
  -- what stands in the new memory
  obtain ⟨H', hH'⟩ : ∃ H' : HS, H' = ⟨appL l2 (appL (drops ρ) H.l), H.next + (h'.next - h.next)⟩ := ⟨_, rfl⟩
  rw [← hH']
  have hnx : H'.sh.next = H.next + (h'.next - h.next) := by rw [hH']; rfl
  have hnew : ∀ j q, H'.sh.get j = some q → (∃ (b : Nat) (o o2 : XO), gOf ρ h.next H.next b = some j ∧ h'.sh.get b = some o.so ∧ o.ren (gOf ρ h.next H.next) = some o2 ∧ q = o2.so) ∨ (H.sh.get j = some q ∧ ∀ b, look ρ b ≠ some j) := fun j q hq => by
    rw [HS.get_sh] at hq
    cases ho : H'.get j with
    | none => simp [ho] at hq
    | some o =>
      simp only [ho, Option.map_some, Option.some.injEq] at hq
      subst hq
      have h1 := HS.get_look ho
      rw [hH'] at h1
      simp only [look_app] at h1
      cases h2 : look l2 j with
      | some x =>
        simp only [h2, Option.some.injEq] at h1
        subst h1
        obtain ⟨b, y, k1, k2, k3⟩ := frameL_get hg hl2 h2
        obtain ⟨o0, rfl, k4⟩ := k3 o rfl
        exact .inl ⟨b, o0, o, k1, by rw [HS.get_sh]; simp only [HS.get, k2]; rfl, k4, rfl⟩
      | none =>
        simp only [h2] at h1
        cases h3 : look (drops ρ) j with
        | some x =>
          simp only [h3] at h1
          have := look_drops h3
          subst this
          cases h1
        | none =>
          simp only [h3] at h1
          exact .inr ⟨by rw [HS.get_sh]; simp only [HS.get, h1]; rfl, fun b => look_drops_none h3⟩
  have hlt : ∀ j q, H.sh.get j = some q → j < H.next := fun j q hj => hr.old hj
  -- an owned block of the new memory
  have hown2 : ∀ j L, Owns ψ H'.sh j L → (∃ b, gOf ρ h.next H.next b = some j ∧ Owns φ' h'.sh b L) ∨ (Owns φ H.sh j L ∧ ∀ b, look ρ b ≠ some j) := fun j L ⟨q, hq, ho, hL⟩ => by
    rcases hnew j q hq with ⟨b, o, o2, k1, k2, k3, rfl⟩ | ⟨k1, k2⟩
    · exact .inl ⟨b, k1, o.so, k2, by rw [ren_own k3] at ho; exact ho, by rw [hal2.f b j k1]; exact hL⟩
    · exact .inr ⟨⟨q, k1, ho, by rw [← ψlt j (hlt j q k1)]; exact hL⟩, k2⟩
  -- an owned block of the callee's and one that is none of its own lie apart
  have apart : ∀ b L j q M, Owns (pull (look ρ) φ) h.sh b L → H.sh.get j = some q → φ j = some M → (∀ b, look ρ b ≠ some j) → L.m ≠ M.m := fun b L j q M hb hj hM hn => by
    obtain ⟨b', g1, g2⟩ := hown b L hb
    exact hr.inj b' j q L M g2 hj hM (fun e => hn b (e ▸ g1))
  have hHR : HR base ψ H'.sh w' := by
    refine ⟨fun j L hj => ?_, hr'.lo, fun j q hq => ?_, fun m o hmo => ?_, fun j j' q L L' hj hj' hL' hne => ?_⟩
    · rw [hnx]
      by_cases hjl : j < H.next
      · omega
      · rw [ψge j hjl] at hj
        have h1 := hr'.dom _ _ hj
        have h2 : j - H.next + h.next < h'.next := h1
        omega
    · rcases hnew j q hq with ⟨b, o, o2, k1, k2, k3, rfl⟩ | ⟨k1, k2⟩
      · obtain ⟨L, g1, g2⟩ := hr'.live b o.so k2
        exact ⟨L, by rw [← hal2.f b j k1]; exact g1, (Live.al hal2 k3).1 g2⟩
      · obtain ⟨L, g1, g2⟩ := hr.live j q k1
        refine ⟨L, hle.f _ _ g1, g2.mono hle (hm.keep _ g2.lt fun b M hb => apart b M j q L hb k1 g1 k2)⟩
    · rw [ψfm] at hmo
      refine ⟨(hr'.froz m o hmo).1, fun j L hj => ?_⟩
      rcases hown2 j L hj with ⟨b, k1, k2⟩ | ⟨k1, k2⟩
      · exact (hr'.froz m o hmo).2 b L k2
      · obtain ⟨q, k3, k4, k5⟩ := k1
        obtain ⟨M, g1, g2⟩ := hr.live j q k3
        rw [k5] at g1; cases g1
        rcases hm.fm m o hmo with h1 | h1 | ⟨b, M, h1, h2⟩
        · exact (hr.froz m o h1).2 j L ⟨q, k3, k4, k5⟩
        · have := g2.lt; omega
        · rw [← h2]; exact fun e => apart b M j q L h1 k3 k5 k2 e.symm
    · rcases hown2 j L hj with ⟨b, k1, k2⟩ | ⟨k1, k2⟩
      · rcases hnew j' q hj' with ⟨b', o, o2, f1, f2, f3, rfl⟩ | ⟨f1, f2⟩
        · rw [← hal2.f b' j' f1] at hL'
          exact hr'.inj b b' o.so L L' k2 f2 hL' (fun e => hne (by rw [e] at k1; rw [k1] at f1; exact Option.some.inj f1))
        · rw [ψlt j' (hlt j' q f1)] at hL'
          obtain ⟨M, g1, g2⟩ := hr.live j' q f1
          rw [hL'] at g1; cases g1
          rcases hm.own b L k2 with h1 | ⟨b0, L0, h1, h2⟩
          · have := g2.lt; omega
          · rw [← h2]; exact apart b0 L0 j' q L' h1 f1 hL' f2
      · obtain ⟨q0, k3, k4, k5⟩ := k1
        obtain ⟨M, g1, g2⟩ := hr.live j q0 k3
        rw [k5] at g1; cases g1
        rcases hnew j' q hj' with ⟨b', o, o2, f1, f2, f3, rfl⟩ | ⟨f1, f2⟩
        · rw [← hal2.f b' j' f1] at hL'
          rcases hm.has b' o.so L' f2 hL' with h1 | ⟨b0, q1, L0, h1, h2, h3⟩
          · have := g2.lt; omega
          · rw [← h3]
            obtain ⟨c, q2, e1, e2, e3⟩ := hget b0 q1 h1
            have h4 : φ c = some L0 := by rw [← hal.f b0 c e1]; exact h2
            exact hr.inj j c q2 L L0 ⟨q0, k3, k4, k5⟩ e2 h4 (fun e => k2 b0 (e ▸ e1))
        · rw [ψlt j' (hlt j' q f1)] at hL'
          exact hr.inj j j' q L L' ⟨q0, k3, k4, k5⟩ f1 hL' hne
  refine ⟨v', ψ, rfl, (VR.al hal2 hr2).1 hv', hHR, hle, hm.os, hm.tape, hm.output, hm.size, fun q hq hn => hm.keep q hq fun b L hb => ?_, fun j L hj => ?_, fun j q L hj hL => ?_, fun m o hmo => ?_, ?_, fun j L hj => ?_⟩
  · obtain ⟨b', g1, g2⟩ := hown b L hb
    exact hn b' L g2
  · rcases hown2 j L hj with ⟨b, k1, k2⟩ | ⟨k1, k2⟩
    · rcases hm.own b L k2 with h1 | ⟨b0, L0, h1, h2⟩
      · exact .inl h1
      · obtain ⟨c, e1, e2⟩ := hown b0 L0 h1
        exact .inr ⟨c, L0, e2, h2⟩
    · exact .inr ⟨j, L, k1, rfl⟩
  · rcases hnew j q hj with ⟨b, o, o2, k1, k2, k3, rfl⟩ | ⟨k1, k2⟩
    · rw [← hal2.f b j k1] at hL
      rcases hm.has b o.so L k2 hL with h1 | ⟨b0, q1, L0, h1, h2, h3⟩
      · exact .inl h1
      · obtain ⟨c, q2, e1, e2, e3⟩ := hget b0 q1 h1
        exact .inr ⟨c, q2, L0, e2, by rw [← hal.f b0 c e1]; exact h2, h3⟩
    · rw [ψlt j (hlt j q k1)] at hL
      exact .inr ⟨j, q, L, k1, hL, rfl⟩
  · rw [ψfm] at hmo
    rcases hm.fm m o hmo with h1 | h1 | ⟨b, M, h1, h2⟩
    · exact .inl h1
    · exact .inr (.inl h1)
    · obtain ⟨c, e1, e2⟩ := hown b M h1
      exact .inr (.inr ⟨c, M, e2, h2⟩)
  · rw [hnx]; exact Nat.le_add_right _ _
  · by_cases hjl : j < H.next
    · rw [ψlt j hjl] at hj; exact .inl hj
    · right
      have : H.next ≤ j := by omega
      exact this
end
end Go.Proofs.Ytgaaffanoegbhaa.Sym
