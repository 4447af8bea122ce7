/- Texts of this claim, several in one: SymG, SymP, SymR, SimC, SymT, SymU, SymV, SymB, SymM, SymN, SymI, SymK, SymQ. -/
import Derived.Test.YtjlfojgacnphmaaMgKeepVotes8
namespace Go.Proofs.Ytjlfojgacnphmaa.Sym
open Go Go.RowKit Go.Proofs.Ytjlfojgacnphmaa.Sim
set_option linter.unusedSimpArgs false
set_option linter.unusedVariables false

inductive LR where
  | t (i : Nat)
  | c1 (i : Nat)
  | cn (i n : Nat)
def lowR (P : Program) : ResultVar → Option LR
  | .tmp i => some (.t i)
  | .cell i ty => match isAg P ty, szOf P ty with
    | some false, some _ => some (.c1 i)
    | some true, some n => some (.cn i n)
    | _, _ => none
def lowRs (P : Program) : List ResultVar → Option (List LR)
  | [] => some []
  | x :: l => match lowR P x, lowRs P l with
    | some y, some r => some (y :: r)
    | _, _ => none
def resV (e : Env) (h : HS) : LR → Option XV
  | .t i => look e i
  | .c1 i => match look e i with
    | some (.c (.ptr b o)) => match h.get b with
      | some (.row l _) => match getN l o 1 with
        | some [x] => some (.c x)
        | _ => none
      | _ => none
    | _ => none
  | .cn i n => match look e i with
    | some (.c (.ptr b o)) => match h.get b with
      | some (.row l _) => match getN l o n with
        | some r => some (.agg r)
        | none => none
      | _ => none
    | _ => none
def resVs (e : Env) (h : HS) : List LR → Option (List XV)
  | [] => some []
  | x :: l => match resV e h x, resVs e h l with
    | some v, some r => some (v :: r)
    | _, _ => none
def XV.flat : XV → Bool
  | .tup _ => false
  | _ => true
def retX (rs : List LR) (e : Env) (h : HS) : Option XV :=
  match resVs e h rs with
  | some [v] => some v
  | some l => match l.all XV.flat with
    | true => some (.tup l)
    | false => none
  | none => none
structure LF where
  n : Nat
  rs : List LR
  c : LC
def lowerF (P : Program) (f : FuncId) : Option LF :=
  match P.funcs[f]? with
  | some fn => match fn.body with
    | some b => match lowerC P fn.ntmps b, lowRs P fn.results.toList with
      | some c, some rs => some ⟨fn.ntmps, rs, c⟩
      | _, _ => none
    | none => none
  | none => none
def argE : Nat → List XV → Env
  | _, [] => []
  | k, v :: l => (k, v) :: argE (k + 1) l
theorem look_argE : ∀ {l : List XV} {k i : Nat} {v : XV}, look (argE k l) i = some v → k ≤ i ∧ l[i - k]? = some v
  | [], k, i, v, h => by simp [argE, look] at h
  | x :: l, k, i, v, h => by
    simp only [argE, look_cons] at h
    by_cases hb : Nat.beq k i = true
    · rw [hb] at h
      have := Nat.eq_of_beq_eq_true hb
      subst this
      simp only [cond_true] at h
      simpa using h
    · rw [Bool.eq_false_iff.2 hb] at h
      obtain ⟨h1, h2⟩ := look_argE h
      refine ⟨by omega, ?_⟩
      rw [show i - k = (i - (k + 1)) + 1 by omega, List.getElem?_cons_succ]
      exact h2
theorem resV_ev {P : Program} {n : Nat} {e : Env} {h : HS} {x : ResultVar} {y : LR} {v : XV} {rs : List ResultVar} {r : List SV} (hx : lowR P x = some y) (hv : resV e h y = some v) (hr : evRes P (toSF n e) h.sh rs = some r) : evRes P (toSF n e) h.sh (x :: rs) = some (v.sv :: r) := by
  cases x with
  | tmp i =>
    simp only [lowR, Option.some.injEq] at hx
    subst hx
    simp only [resV] at hv
    simp only [evRes, ev, get_toSF, hv, Option.map_some, hr]
  | cell i ty =>
    simp only [lowR] at hx
    split at hx
    · rename_i s hag hsz
      simp only [Option.some.injEq] at hx
      subst hx
      simp only [resV] at hv
      repeat' split at hv
      all_goals first
        | cases hv; done
        | skip
      rename_i b o hi _ l own hb _ z hl
      simp only [Option.some.injEq] at hv
      subst hv
      obtain ⟨g1, g2⟩ := map_getN XC.sc hl
      simp only [evRes, ev, get_toSF, hi, Option.map_some, XV.sv, XC.sc, hr, sLoad, hag, hsz, SH.read, get_row hb, if_pos g1, g2, List.map_cons, List.map_nil]
    · rename_i s hag hsz
      simp only [Option.some.injEq] at hx
      subst hx
      simp only [resV] at hv
      repeat' split at hv
      all_goals first
        | cases hv; done
        | skip
      rename_i b o hi _ l own hb _ z hl
      simp only [Option.some.injEq] at hv
      subst hv
      obtain ⟨g1, g2⟩ := map_getN XC.sc hl
      simp only [evRes, ev, get_toSF, hi, Option.map_some, XV.sv, XC.sc, hr, sLoad, hag, hsz, SH.read, get_row hb, if_pos g1, g2]
    · cases hx
theorem resVs_ev {P : Program} {n : Nat} {e : Env} {h : HS} : ∀ {xs : List ResultVar} {ys : List LR} {vs : List XV}, lowRs P xs = some ys → resVs e h ys = some vs → evRes P (toSF n e) h.sh xs = some (vs.map XV.sv)
  | [], ys, vs, hx, hv => by
    simp only [lowRs, Option.some.injEq] at hx; subst hx
    simp only [resVs, Option.some.injEq] at hv; subst hv; rfl
  | x :: l, ys, vs, hx, hv => by
    simp only [lowRs] at hx
    split at hx
    · rename_i y r h1 h2
      simp only [Option.some.injEq] at hx
      subst hx
      simp only [resVs] at hv
      split at hv
      · rename_i v q g1 g2
        simp only [Option.some.injEq] at hv
        subst hv
        exact resV_ev h1 g1 (resVs_ev h2 g2)
      · cases hv
    · cases hx
theorem retX_ev {P : Program} {n : Nat} {e : Env} {h : HS} {xs : List ResultVar} {ys : List LR} {v : XV} (hx : lowRs P xs = some ys) (hv : retX ys e h = some v) : ∃ l, evRes P (toSF n e) h.sh xs = some l ∧ resOf l = some v.sv := by
  unfold retX at hv
  split at hv
  · rename_i v1 h1
    simp only [Option.some.injEq] at hv
    subst hv
    exact ⟨_, resVs_ev hx h1, rfl⟩
  · rename_i l hne h1
    split at hv
    · rename_i hf
      simp only [Option.some.injEq] at hv
      subst hv
      refine ⟨_, resVs_ev hx h1, ?_⟩
      have hall : (l.map XV.sv).all SV.flat = true := by
        rw [List.all_map, List.all_eq_true] at *
        intro x hx
        have := hf x hx
        cases x <;> simp_all [XV.flat, XV.sv, SV.flat]
      have hs : (XV.tup l).sv = .tup (l.map XV.sv) := by simp only [XV.sv, svs_map]
      rw [hs]
      match l, hne with
      | [], _ => rfl
      | [x], hne => exact absurd rfl (hne x)
      | x :: y :: r, _ =>
        show (if (List.map XV.sv (x :: y :: r)).all SV.flat = true then some (SV.tup (List.map XV.sv (x :: y :: r))) else none) = _
        rw [if_pos hall]
    · cases hv
  · cases hv

structure CallS (P : Program) (base : Nat) (f : FuncId) (args : List XV) (h : HS) (r : XV) (h' : HS) : Prop where
  fn : ∃ fn, P.funcs[f]? = some fn ∧ fn.body.isSome = true ∧ (fn.name == "runtime.NumGoroutine") = false
  run : ∀ φ (args' : List Value) w, All2 (VR φ) (args.map XV.sv) args' → HR base φ h.sh w → Calls P f args'.toArray w fun e w' => ∃ v' φ', e = .returned v' ∧ VR φ' r.sv v' ∧ HR base φ' h'.sh w' ∧ Mo h.next φ φ' h.sh w h'.sh w'
structure Call (P : Program) (base : Nat) (f : FuncId) (args : List SV) (h : SH) (r : SV) (h' : SH) : Prop where
  fn : ∃ fn, P.funcs[f]? = some fn ∧ fn.body.isSome = true ∧ (fn.name == "runtime.NumGoroutine") = false
  run : ∀ φ (args' : List Value) w, All2 (VR φ) args args' → HR base φ h w → Calls P f args'.toArray w fun e w' => ∃ v' φ', e = .returned v' ∧ VR φ' r v' ∧ HR base φ' h' w' ∧ Mv φ h w φ' h' w'
def finQ (k : Nat) (rs : List LR) (r : XV) (h' : HS) : QX := fun x e h => (x = .normal ∨ x = .ret) ∧ ∃ ρ r2 r3, retX rs e h = some r2 ∧ rhoOK ρ k h'.next = true ∧ r.ren (look ρ) = some r3 ∧ Wk r2 r3 ∧ HeapOK (look ρ) h h'.l
section
variable {P : Program} {base : Nat}
theorem finQ.ret {k : Nat} {rs : List LR} {r r2 r3 : XV} {e : Env} {h h' : HS} (ρ : List (Nat × Nat)) (hr : retX rs e h = some r2) (hρ : rhoOK ρ k h'.next = true) (hn : r.ren (look ρ) = some r3) (hw : Wk r2 r3) (hh : HeapOK (look ρ) h h'.l) : finQ k rs r h' .ret e h := ⟨.inr rfl, ρ, r2, r3, hr, hρ, hn, hw, hh⟩
theorem finQ.normal {k : Nat} {rs : List LR} {r r2 r3 : XV} {e : Env} {h h' : HS} (ρ : List (Nat × Nat)) (hr : retX rs e h = some r2) (hρ : rhoOK ρ k h'.next = true) (hn : r.ren (look ρ) = some r3) (hw : Wk r2 r3) (hh : HeapOK (look ρ) h h'.l) : finQ k rs r h' .normal e h := ⟨.inl rfl, ρ, r2, r3, hr, hρ, hn, hw, hh⟩
theorem arg_TR {φ : Ph} {n : Nat} {args : List XV} {args' : List Value} (ha : All2 (VR φ) (args.map XV.sv) args') (hn : args.length ≤ n) : TR φ (toSF n (argE 0 args)) { tmps := args'.toArray ++ Array.replicate (n - args'.toArray.size) undef, defers := [] } := by
  have hl := ha.length
  simp only [List.length_map] at hl
  refine ⟨by simp [toSF]; omega, fun i v hi => ?_⟩
  rw [get_toSF] at hi
  cases hq : look (argE 0 args) i with
  | none => simp [hq] at hi
  | some u =>
    simp only [hq, Option.map_some, Option.some.injEq] at hi
    subst hi
    obtain ⟨_, h1⟩ := look_argE hq
    obtain ⟨x, h2, h3⟩ := ha.get (i := i) (a := u.sv) (by rw [List.getElem?_map]; simp at h1; rw [h1]; rfl)
    have hlt := (List.getElem?_eq_some_iff.1 h2).1
    refine ⟨by simp; omega, ?_⟩
    rw [Array.getD_eq_getD_getElem?, Array.getElem?_append_left (by simpa using hlt)]
    simpa [h2] using h3
theorem CallS.of {f : FuncId} {args : List XV} {h h' : HS} {r : XV} {F : LF} (hng : ∀ (f : FuncId) (fn : Func), P.funcs[f]? = some fn → (fn.name == "runtime.NumGoroutine") = false) (hl : lowerF P f = some F) (hn : Nat.ble args.length F.n = true)
    (hx : X P base F.n h.next F.c (argE 0 args) h (finQ h.next F.rs r h')) : CallS P base f args h r h' := by
  unfold lowerF at hl
  split at hl
  · rename_i fn hf
    split at hl
    · rename_i b hb
      split at hl
      · rename_i c rs h1 h2
        simp only [Option.some.injEq] at hl
        subst hl
        refine ⟨⟨fn, hf, by rw [hb]; rfl, hng f fn hf⟩, fun φ args' w ha hr => ?_⟩
        refine calls_of_wp hf hb (wp_mono (hx.run b h1 φ _ w (arg_TR ha (Nat.le_of_ble_eq_true hn)) hr) fun ex a' w' hp => ?_)
        obtain ⟨x, e', h2', φ', ⟨p0, ρ, r2, r3, p1, q1, q2, q3, q4⟩, rfl, p3, p4, p5, p6⟩ := hp
        obtain ⟨l, g1, g2⟩ := retX_ev (n := fn.ntmps) h2 p1
        have hend : ending P fn.results.toList (some (x, toSF fn.ntmps e', h2'.sh)) = some (r2.sv, h2'.sh) := by
          rcases p0 with rfl | rfl <;> simp only [ending, g1, g2, Option.map_some]
        obtain ⟨e0, t0, f1, f2, f3⟩ := ending_sound (base := base) (φ := φ) (h := h.sh) (w := w) hend
        simp only [Option.some.injEq, Prod.mk.injEq] at f1
        obtain ⟨rfl, rfl, _⟩ := f1
        obtain ⟨v', r1, r2'⟩ := f3 φ' a' w' p3 p5
        obtain ⟨-, s2, s3⟩ := ren_state (k := h.next) (e := e') (e' := []) q1 trivial q4 p3 p5
        have s4 : VR (pull (look ρ) φ') r.sv v' := (VR.al (pull_al (look ρ) φ') q2).2 (q3 φ' v' r2')
        rcases f2 with rfl | rfl
        · exact ⟨p4, v', r1, v', _, rfl, s4, s2, p6.trans s3⟩
        · exact ⟨p4, v', r1, v', _, rfl, s4, s2, p6.trans s3⟩
      · cases hl
    · cases hl
  · cases hl
def gOf (ρ : List (Nat × Nat)) (k N : Nat) : Nat → Option Nat := fun b => bif Nat.blt b k then look ρ b else some (N + (b - k))
def frameL (g : Nat → Option Nat) : List (Nat × Option XO) → Option (List (Nat × Option XO))
  | [] => some []
  | (b, some o) :: r => match g b, o.ren g, frameL g r with
    | some b, some o, some r => some ((b, some o) :: r)
    | _, _, _ => none
  | (b, none) :: r => match g b, frameL g r with
    | some b, some r => some ((b, none) :: r)
    | none, some r => some r
    | _, _ => none
def drops : List (Nat × Nat) → List (Nat × Option XO)
  | [] => []
  | p :: r => (p.2, none) :: drops r
def appL {α : Type} : List α → List α → List α
  | [], r => r
  | x :: l, r => x :: appL l r
theorem look_app {α : Type} : ∀ {l r : List (Nat × α)} {i : Nat}, look (appL l r) i = match look l i with
    | some x => some x
    | none => look r i
  | [], r, i => by simp [appL, look]
  | p :: l, r, i => by
    simp only [appL, look_cons]
    cases Nat.beq p.1 i with
    | true => rfl
    | false => exact look_app
theorem look_drops : ∀ {ρ : List (Nat × Nat)} {j : Nat} {x : Option XO}, look (drops ρ) j = some x → x = none
  | [], j, x, h => by simp [drops, look] at h
  | p :: r, j, x, h => by
    simp only [drops, look_cons] at h
    cases hb : Nat.beq p.2 j with
    | true => rw [hb] at h; simp only [cond_true, Option.some.injEq] at h; exact h.symm
    | false => rw [hb] at h; exact look_drops h
theorem look_drops_none : ∀ {ρ : List (Nat × Nat)} {j b : Nat}, look (drops ρ) j = none → look ρ b ≠ some j
  | [], j, b, _ => by simp [look]
  | p :: r, j, b, h => by
    simp only [drops, look_cons] at h ⊢
    cases hb : Nat.beq p.2 j with
    | true => rw [hb] at h; simp at h
    | false =>
      rw [hb] at h
      cases Nat.beq p.1 b with
      | true => intro e; simp only [cond_true, Option.some.injEq] at e; rw [e] at hb; simp at hb
      | false => exact look_drops_none h
theorem frameL_get {g : Nat → Option Nat} (hg : ∀ a b c, g a = some c → g b = some c → a = b) : ∀ {l l2 : List (Nat × Option XO)}, frameL g l = some l2 → ∀ {j : Nat} {x : Option XO}, look l2 j = some x → ∃ b y, g b = some j ∧ look l b = some y ∧ (∀ o, x = some o → ∃ o0, y = some o0 ∧ o0.ren g = some o)
  | [], l2, h, j, x, hj => by
    simp only [frameL, Option.some.injEq] at h
    subst h
    simp [look] at hj
  | (b, some o) :: r, l2, h, j, x, hj => by
    simp only [frameL] at h
    split at h
    · rename_i b' o' r' h1 h2 h3
      simp only [Option.some.injEq] at h
      subst h
      simp only [look_cons] at hj
      cases hb : Nat.beq b' j with
      | true =>
        rw [hb] at hj
        simp only [cond_true, Option.some.injEq] at hj
        have := Nat.eq_of_beq_eq_true hb
        subst hj; subst this
        exact ⟨b, some o, h1, by simp [look], fun q hq => by simp only [Option.some.injEq] at hq; subst hq; exact ⟨o, rfl, h2⟩⟩
      | false =>
        rw [hb] at hj
        obtain ⟨c, y, k1, k2, k3⟩ := frameL_get hg h3 hj
        refine ⟨c, y, k1, ?_, k3⟩
        simp only [look_cons]
        have : Nat.beq b c = false := by
          rw [Bool.eq_false_iff]
          intro e
          have := Nat.eq_of_beq_eq_true e
          subst this
          rw [k1] at h1
          cases h1
          simp at hb
        rw [this]; exact k2
    · cases h
  | (b, none) :: r, l2, h, j, x, hj => by
    simp only [frameL] at h
    split at h
    · rename_i b' r' h1 h3
      simp only [Option.some.injEq] at h
      subst h
      simp only [look_cons] at hj
      cases hb : Nat.beq b' j with
      | true =>
        rw [hb] at hj
        simp only [cond_true, Option.some.injEq] at hj
        have := Nat.eq_of_beq_eq_true hb
        subst hj; subst this
        exact ⟨b, none, h1, by simp [look], fun q hq => by cases hq⟩
      | false =>
        rw [hb] at hj
        obtain ⟨c, y, k1, k2, k3⟩ := frameL_get hg h3 hj
        refine ⟨c, y, k1, ?_, k3⟩
        simp only [look_cons]
        have : Nat.beq b c = false := by
          rw [Bool.eq_false_iff]
          intro e
          have := Nat.eq_of_beq_eq_true e
          subst this
          rw [k1] at h1
          cases h1
          simp at hb
        rw [this]; exact k2
    · rename_i r' h1 h3
      simp only [Option.some.injEq] at h
      subst h
      obtain ⟨c, y, k1, k2, k3⟩ := frameL_get hg h3 hj
      refine ⟨c, y, k1, ?_, k3⟩
      simp only [look_cons]
      have : Nat.beq b c = false := by
        rw [Bool.eq_false_iff]
        intro e
        have := Nat.eq_of_beq_eq_true e
        subst this
        rw [k1] at h1
        cases h1
      rw [this]; exact k2
    · cases h
def rhoIn (ρ : List (Nat × Nat)) (h : HS) (N : Nat) : Bool := ρ.all (fun p => Nat.blt p.1 h.next && Nat.blt p.2 N && (h.get p.1).isSome) && nodupB (ρ.map (·.2))
theorem CallS.use {f : FuncId} {args args2 : List XV} {h h' H : HS} {r r2 : XV} (C : CallS P base f args h r h') (ρ : List (Nat × Nat)) (hρ : rhoIn ρ h H.next = true) (ha : XV.rens (look ρ) args = some args2) (hh : HeapOK (look ρ) H h.l)
    (hr2 : r.ren (gOf ρ h.next H.next) = some r2) {l2 : List (Nat × Option XO)} (hl2 : frameL (gOf ρ h.next H.next) h'.l = some l2) :
    Call P base f (args2.map XV.sv) H.sh r2.sv (HS.sh ⟨appL l2 (appL (drops ρ) H.l), H.next + (h'.next - h.next)⟩) := by
  refine ⟨C.fn, fun φ args' w hv hr => ?_⟩
  simp only [rhoIn, Bool.and_eq_true] at hρ
  obtain ⟨hρ1, hρ2⟩ := hρ
  have hρa : ∀ b c, look ρ b = some c → b < h.next ∧ c < H.next ∧ ∃ o, h.get b = some o := fun b c hb => by
    have := List.all_eq_true.1 hρ1 _ (look_mem hb)
    simp only [Bool.and_eq_true, Nat.blt_eq, Option.isSome_iff_exists] at this
    exact ⟨this.1.1, this.1.2, this.2⟩
  have hρ0 : rhoOK ρ 0 h.next = true := by
    simp only [rhoOK, Bool.and_eq_true, keeps, and_true]
    refine ⟨List.all_eq_true.2 fun p hp => ?_, hρ2⟩
    have := List.all_eq_true.1 hρ1 p hp
    simp only [Bool.and_eq_true] at this
    exact this.1.1
  have hal := pull_al (look ρ) φ
  obtain ⟨-, hrs, -⟩ := ren_state (n := 0) (k := 0) (e := []) (e' := []) (a := ⟨#[], []⟩) hρ0 trivial hh ⟨rfl, fun i v hi => by simp [get_toSF, look] at hi⟩ hr
  -- the small names that are owned are owned in the greater memory
  have hget : ∀ b q, h.sh.get b = some q → ∃ b' q', look ρ b = some b' ∧ H.sh.get b' = some q' ∧ q'.own = q.own := fun b q hq => by
    rw [HS.get_sh] at hq
    cases ho : h.get b with
    | none => simp [ho] at hq
    | some o =>
      simp only [ho, Option.map_some, Option.some.injEq] at hq
      subst hq
      obtain ⟨b', o2, o3, g1, g2, g3, g4⟩ := hh.get (HS.get_look ho)
      exact ⟨b', o2.so, g1, by rw [HS.get_sh, g3]; rfl, by rw [g4.1, ren_own g2]⟩
  have hown : ∀ b L, Owns (pull (look ρ) φ) h.sh b L → ∃ b', look ρ b = some b' ∧ Owns φ H.sh b' L := fun b L ⟨q, hq, ho, hL⟩ => by
    obtain ⟨b', q', g1, g2, g3⟩ := hget b q hq
    exact ⟨b', g1, q', g2, by rw [g3]; exact ho, by rw [← hal.f b b' g1]; exact hL⟩
  refine Calls.mono (C.run (pull (look ρ) φ) args' w ?_ hrs) fun en w' hp => ?_
  · have : ∀ {x y : List XV} {r : List Value}, XV.rens (look ρ) x = some y → All2 (VR φ) (y.map XV.sv) r → All2 (VR (pull (look ρ) φ)) (x.map XV.sv) r := by
      intro x
      induction x with
      | nil => intro y r hy h; simp only [XV.rens, Option.some.injEq] at hy; subst hy; cases r <;> first | exact h | trivial
      | cons u x ih =>
        intro y r hy h
        simp only [XV.rens] at hy
        split at hy
        · rename_i u' x' h1 h2
          simp only [Option.some.injEq] at hy
          subst hy
          cases r with
          | nil => exact h.elim
          | cons v r => exact ⟨(VR.al hal h1).2 h.1, ih h2 h.2⟩
        · cases hy
    exact this ha hv
  obtain ⟨v', φ', rfl, hv', hr', hm⟩ := hp
  have hg : ∀ a b c, gOf ρ h.next H.next a = some c → gOf ρ h.next H.next b = some c → a = b := fun a b c h1 h2 => by
    unfold gOf at h1 h2
    cases ha : Nat.blt a h.next <;> cases hb : Nat.blt b h.next <;> simp only [ha, hb, cond_true, cond_false, Option.some.injEq] at h1 h2
    · have e1 : ¬ a < h.next := fun e => by rw [← Nat.blt_eq] at e; rw [ha] at e; cases e
      have e2 : ¬ b < h.next := fun e => by rw [← Nat.blt_eq] at e; rw [hb] at e; cases e
      omega
    · have := (hρa _ _ h2).2.1; omega
    · have := (hρa _ _ h1).2.1; omega
    · exact nodupB_inj hρ2 h1 h2
  obtain ⟨ψ, hψ⟩ : ∃ ψ : Ph, ψ = ⟨fun j => if j < H.next then φ j else φ' (j - H.next + h.next), φ'.fm⟩ := ⟨_, rfl⟩
  have ψlt : ∀ j, j < H.next → ψ j = φ j := fun j hj => by rw [hψ]; exact if_pos hj
  have ψge : ∀ j, ¬ j < H.next → ψ j = φ' (j - H.next + h.next) := fun j hj => by rw [hψ]; exact if_neg hj
  have ψfm : ψ.fm = φ'.fm := by rw [hψ]
  have hal2 : Al (gOf ρ h.next H.next) φ' ψ := ⟨fun b b' hb => by
    unfold gOf at hb
    by_cases hlt : b < h.next
    · rw [show Nat.blt b h.next = true by simpa using hlt] at hb
      simp only [cond_true] at hb
      obtain ⟨g1, g2, o, g3⟩ := hρa b b' hb
      obtain ⟨L, g4, _⟩ := hrs.live b o.so (by rw [HS.get_sh, g3]; rfl)
      rw [hm.le b L hlt g4, ψlt b' g2, ← hal.f b b' hb, g4]
    · rw [show Nat.blt b h.next = false by rw [Bool.eq_false_iff]; simpa using hlt] at hb
      simp only [cond_false, Option.some.injEq] at hb
      subst hb
      rw [ψge _ (by omega)]
      congr 1
      omega, ψfm.symm⟩
  have hle : Le φ ψ := ⟨fun b L hb => by rw [ψlt b (hr.dom b L hb)]; exact hb, fun m o ho => by rw [ψfm]; exact hm.lfm m o ho⟩
  -- what stands in the new memory
  obtain ⟨H', hH'⟩ : ∃ H' : HS, H' = ⟨appL l2 (appL (drops ρ) H.l), H.next + (h'.next - h.next)⟩ := ⟨_, rfl⟩
  rw [← hH']
  have hnx : H'.sh.next = H.next + (h'.next - h.next) := by rw [hH']; rfl
  have hnew : ∀ j q, H'.sh.get j = some q → (∃ (b : Nat) (o o2 : XO), gOf ρ h.next H.next b = some j ∧ h'.sh.get b = some o.so ∧ o.ren (gOf ρ h.next H.next) = some o2 ∧ q = o2.so) ∨ (H.sh.get j = some q ∧ ∀ b, look ρ b ≠ some j) := fun j q hq => by
    rw [HS.get_sh] at hq
    cases ho : H'.get j with
    | none => simp [ho] at hq
    | some o =>
      simp only [ho, Option.map_some, Option.some.injEq] at hq
      subst hq
      have h1 := HS.get_look ho
      rw [hH'] at h1
      simp only [look_app] at h1
      cases h2 : look l2 j with
      | some x =>
        simp only [h2, Option.some.injEq] at h1
        subst h1
        obtain ⟨b, y, k1, k2, k3⟩ := frameL_get hg hl2 h2
        obtain ⟨o0, rfl, k4⟩ := k3 o rfl
        exact .inl ⟨b, o0, o, k1, by rw [HS.get_sh]; simp only [HS.get, k2]; rfl, k4, rfl⟩
      | none =>
        simp only [h2] at h1
        cases h3 : look (drops ρ) j with
        | some x =>
          simp only [h3] at h1
          have := look_drops h3
          subst this
          cases h1
        | none =>
          simp only [h3] at h1
          exact .inr ⟨by rw [HS.get_sh]; simp only [HS.get, h1]; rfl, fun b => look_drops_none h3⟩
  have hlt : ∀ j q, H.sh.get j = some q → j < H.next := fun j q hj => hr.old hj
  -- an owned block of the new memory
  have hown2 : ∀ j L, Owns ψ H'.sh j L → (∃ b, gOf ρ h.next H.next b = some j ∧ Owns φ' h'.sh b L) ∨ (Owns φ H.sh j L ∧ ∀ b, look ρ b ≠ some j) := fun j L ⟨q, hq, ho, hL⟩ => by
    rcases hnew j q hq with ⟨b, o, o2, k1, k2, k3, rfl⟩ | ⟨k1, k2⟩
    · exact .inl ⟨b, k1, o.so, k2, by rw [ren_own k3] at ho; exact ho, by rw [hal2.f b j k1]; exact hL⟩
    · exact .inr ⟨⟨q, k1, ho, by rw [← ψlt j (hlt j q k1)]; exact hL⟩, k2⟩
  -- an owned block of the callee's and one that is none of its own lie apart
  have apart : ∀ b L j q M, Owns (pull (look ρ) φ) h.sh b L → H.sh.get j = some q → φ j = some M → (∀ b, look ρ b ≠ some j) → L.m ≠ M.m := fun b L j q M hb hj hM hn => by
    obtain ⟨b', g1, g2⟩ := hown b L hb
    exact hr.inj b' j q L M g2 hj hM (fun e => hn b (e ▸ g1))
  have hHR : HR base ψ H'.sh w' := by
    refine ⟨fun j L hj => ?_, hr'.lo, fun j q hq => ?_, fun m o hmo => ?_, fun j j' q L L' hj hj' hL' hne => ?_⟩
    · rw [hnx]
      by_cases hjl : j < H.next
      · omega
      · rw [ψge j hjl] at hj
        have h1 := hr'.dom _ _ hj
        have h2 : j - H.next + h.next < h'.next := h1
        omega
    · rcases hnew j q hq with ⟨b, o, o2, k1, k2, k3, rfl⟩ | ⟨k1, k2⟩
      · obtain ⟨L, g1, g2⟩ := hr'.live b o.so k2
        exact ⟨L, by rw [← hal2.f b j k1]; exact g1, (Live.al hal2 k3).1 g2⟩
      · obtain ⟨L, g1, g2⟩ := hr.live j q k1
        refine ⟨L, hle.f _ _ g1, g2.mono hle (hm.keep _ g2.lt fun b M hb => apart b M j q L hb k1 g1 k2)⟩
    · rw [ψfm] at hmo
      refine ⟨(hr'.froz m o hmo).1, fun j L hj => ?_⟩
      rcases hown2 j L hj with ⟨b, k1, k2⟩ | ⟨k1, k2⟩
      · exact (hr'.froz m o hmo).2 b L k2
      · obtain ⟨q, k3, k4, k5⟩ := k1
        obtain ⟨M, g1, g2⟩ := hr.live j q k3
        rw [k5] at g1; cases g1
        rcases hm.fm m o hmo with h1 | h1 | ⟨b, M, h1, h2⟩
        · exact (hr.froz m o h1).2 j L ⟨q, k3, k4, k5⟩
        · have := g2.lt; omega
        · rw [← h2]; exact fun e => apart b M j q L h1 k3 k5 k2 e.symm
    · rcases hown2 j L hj with ⟨b, k1, k2⟩ | ⟨k1, k2⟩
      · rcases hnew j' q hj' with ⟨b', o, o2, f1, f2, f3, rfl⟩ | ⟨f1, f2⟩
        · rw [← hal2.f b' j' f1] at hL'
          exact hr'.inj b b' o.so L L' k2 f2 hL' (fun e => hne (by rw [e] at k1; rw [k1] at f1; exact Option.some.inj f1))
        · rw [ψlt j' (hlt j' q f1)] at hL'
          obtain ⟨M, g1, g2⟩ := hr.live j' q f1
          rw [hL'] at g1; cases g1
          rcases hm.own b L k2 with h1 | ⟨b0, L0, h1, h2⟩
          · have := g2.lt; omega
          · rw [← h2]; exact apart b0 L0 j' q L' h1 f1 hL' f2
      · obtain ⟨q0, k3, k4, k5⟩ := k1
        obtain ⟨M, g1, g2⟩ := hr.live j q0 k3
        rw [k5] at g1; cases g1
        rcases hnew j' q hj' with ⟨b', o, o2, f1, f2, f3, rfl⟩ | ⟨f1, f2⟩
        · rw [← hal2.f b' j' f1] at hL'
          rcases hm.has b' o.so L' f2 hL' with h1 | ⟨b0, q1, L0, h1, h2, h3⟩
          · have := g2.lt; omega
          · rw [← h3]
            obtain ⟨c, q2, e1, e2, e3⟩ := hget b0 q1 h1
            have h4 : φ c = some L0 := by rw [← hal.f b0 c e1]; exact h2
            exact hr.inj j c q2 L L0 ⟨q0, k3, k4, k5⟩ e2 h4 (fun e => k2 b0 (e ▸ e1))
        · rw [ψlt j' (hlt j' q f1)] at hL'
          exact hr.inj j j' q L L' ⟨q0, k3, k4, k5⟩ f1 hL' hne
  refine ⟨v', ψ, rfl, (VR.al hal2 hr2).1 hv', hHR, hle, hm.os, hm.tape, hm.output, hm.size, fun q hq hn => hm.keep q hq fun b L hb => ?_, fun j L hj => ?_, fun j q L hj hL => ?_, fun m o hmo => ?_, ?_, fun j L hj => ?_⟩
  · obtain ⟨b', g1, g2⟩ := hown b L hb
    exact hn b' L g2
  · rcases hown2 j L hj with ⟨b, k1, k2⟩ | ⟨k1, k2⟩
    · rcases hm.own b L k2 with h1 | ⟨b0, L0, h1, h2⟩
      · exact .inl h1
      · obtain ⟨c, e1, e2⟩ := hown b0 L0 h1
        exact .inr ⟨c, L0, e2, h2⟩
    · exact .inr ⟨j, L, k1, rfl⟩
  · rcases hnew j q hj with ⟨b, o, o2, k1, k2, k3, rfl⟩ | ⟨k1, k2⟩
    · rw [← hal2.f b j k1] at hL
      rcases hm.has b o.so L k2 hL with h1 | ⟨b0, q1, L0, h1, h2, h3⟩
      · exact .inl h1
      · obtain ⟨c, q2, e1, e2, e3⟩ := hget b0 q1 h1
        exact .inr ⟨c, q2, L0, e2, by rw [← hal.f b0 c e1]; exact h2, h3⟩
    · rw [ψlt j (hlt j q k1)] at hL
      exact .inr ⟨j, q, L, k1, hL, rfl⟩
  · rw [ψfm] at hmo
    rcases hm.fm m o hmo with h1 | h1 | ⟨b, M, h1, h2⟩
    · exact .inl h1
    · exact .inr (.inl h1)
    · obtain ⟨c, e1, e2⟩ := hown b M h1
      exact .inr (.inr ⟨c, M, e2, h2⟩)
  · rw [hnx]; exact Nat.le_add_right _ _
  · by_cases hjl : j < H.next
    · rw [ψlt j hjl] at hj; exact .inl hj
    · right
      have : H.next ≤ j := by omega
      exact this
end
end Go.Proofs.Ytjlfojgacnphmaa.Sym

namespace Go.Proofs.Ytjlfojgacnphmaa.Sym
open Go Go.RowKit Go.Proofs.Ytjlfojgacnphmaa.Sim
set_option linter.unusedSimpArgs false
set_option linter.unusedVariables false
section ops
variable {P : Program} {base n k : Nat} {e : Env} {h : HS} {Q : QX}
/-! Calls. -/
open Classical in
noncomputable def oneCall (f : FuncId) (args : List SV) (h : SH) (r : SV) (h' : SH) : FuncId → List SV → SH → Option (SV × SH) :=
  fun f' a' h0 => if f' = f ∧ a' = args ∧ h0 = h then some (r, h') else none
theorem oneCall_ok {f : FuncId} {args : List SV} {h : SH} {r : SV} {h' : SH} (C : Call P base f args h r h') : CallOK P base (oneCall f args h r h') := by
  intro f' a' h0 v h1 hs
  unfold oneCall at hs
  split at hs
  · rename_i hc
    obtain ⟨rfl, rfl, rfl⟩ := hc
    simp only [Option.some.injEq, Prod.mk.injEq] at hs
    obtain ⟨rfl, rfl⟩ := hs
    exact ⟨C.fn, C.run⟩
  · cases hs
theorem extern_none {f : FuncId} {args : List SV} {h : SH} (hb : hasBody P f = true) : sExtern P f args h = none := by
  unfold hasBody at hb
  unfold sExtern
  split at hb
  · rename_i fn hf
    rw [hf]
    obtain ⟨b, hb⟩ := Option.isSome_iff_exists.1 hb
    simp only [hb]
  · cases hb
theorem step_call {call : FuncId → List SV → SH → Option (SV × SH)} {f : FuncId} {as : List LX} {vs : List XV} {r : XV} {h' : HS} (ha : xevs e as = some vs) (hc : call f (vs.map XV.sv) h.sh = some (r.sv, h'.sh)) (o : Oper) (hw : Lw P o.op (.call f as)) :
    Sim.step P call (toSF n e) h.sh o = some (r.sv, h'.sh) := by
  generalize ho : o.op = op at hw
  cases hw with
  | call h1 h2 => simp only [Sim.step, ho, xevs_evs h1 ha, extern_none h2, hc]
theorem XR.call {d : Option Nat} {f : FuncId} {as : List LX} {l : List LOp} {vs : List XV} {r : XV} {h' : HS} (ha : xevs e as = some vs) (C : Call P base f (vs.map XV.sv) h.sh r.sv h'.sh) (hx : XR P base n k l (push d r e) h' Q) :
    XR P base n k (⟨none, d, .call f as⟩ :: l) e h Q :=
  XR.step (oneCall f (vs.map XV.sv) h.sh r.sv h'.sh) (oneCall_ok C) (fun ops o hg => by
    unfold lowG at hg
    split at hg
    · rename_i h1; unfold wantedS; rw [h1]
    · repeat' split at hg
      all_goals simp at hg) (fun o hl => step_call ha (by simp [oneCall]) o hl) hx
theorem XR.use {d : Option Nat} {f : FuncId} {as : List LX} {l : List LOp} {vs args : List XV} {r r2 : XV} {hs hs' : HS} (C : CallS P base f args hs r hs') (ρ : List (Nat × Nat)) (ha : xevs e as = some vs) (hv : XV.rens (look ρ) args = some vs) (hρ : rhoIn ρ hs h.next = true) (hh : HeapOK (look ρ) h hs.l)
    {l2 : List (Nat × Option XO)} (hr2 : r.ren (gOf ρ hs.next h.next) = some r2) (hl2 : frameL (gOf ρ hs.next h.next) hs'.l = some l2) (hx : XR P base n k l (push d r2 e) ⟨appL l2 (appL (drops ρ) h.l), h.next + (hs'.next - hs.next)⟩ Q) :
    XR P base n k (⟨none, d, .call f as⟩ :: l) e h Q := XR.call ha (C.use ρ hρ hv hh hr2 hl2) hx
/-! Lengths. -/
theorem SOp.len {x : LX} {z : Bool} {s : Nat} {el : List PC} {c : Option Nat} (hx : xev e x = some (.c (.p (.tz z s el c)))) : SOp P n (.len .sl x) e h (.c (.p (.int .i64 el.length))) h := ⟨fun q call hw => by
  generalize ho : q.op = op' at hw
  generalize hk : NK.sl = nk at hw
  generalize hlk : LK.len nk x = lk at hw
  cases hw <;> try (cases hlk; done)
  rename_i o as ts x' t d h1 h2 h3 h4 h5
  simp only [LK.len.injEq] at hlk
  obtain ⟨hnk, rfl⟩ := hlk
  have hd : ∃ e, d = .slice e := by
    rcases h5 with h5 | ⟨a, b, rfl⟩
    · exact h5
    · subst hk; cases hnk
  obtain ⟨u, rfl⟩ := hd
  simp only [Sim.step, ho, h2, evs, xev_ev h1 hx, sBuiltin, h3, h4, XV.sv, XC.sc, PC.sc]
  cases hz : z && el.isEmpty
  · rfl
  · have : el = [] := by simp only [Bool.and_eq_true, List.isEmpty_iff] at hz; exact hz.2
    subst this
    rfl⟩
theorem SOp.lenO {x : LX} {b o m s : Nat} {c : Option Nat} (hx : xev e x = some (.c (.sl b o m s c))) : SOp P n (.len .sl x) e h (.c (.p (.int .i64 m))) h := ⟨fun q call hw => by
  generalize ho : q.op = op' at hw
  generalize hk : NK.sl = nk at hw
  generalize hlk : LK.len nk x = lk at hw
  cases hw <;> try (cases hlk; done)
  rename_i o as ts x' t d h1 h2 h3 h4 h5
  simp only [LK.len.injEq] at hlk
  obtain ⟨hnk, rfl⟩ := hlk
  have hd : ∃ e, d = .slice e := by
    rcases h5 with h5 | ⟨a, b, rfl⟩
    · exact h5
    · subst hk; cases hnk
  obtain ⟨u, rfl⟩ := hd
  simp only [Sim.step, ho, h2, evs, xev_ev h1 hx, sBuiltin, h3, h4, XV.sv, XC.sc, PC.sc]
  rfl⟩
theorem SOp.lenA {x : LX} {b s : Nat} {el : List PC} (hx : xev e x = some (.c (.acc b s el))) : SOp P n (.len .sl x) e h (.c (.p (.int .i64 el.length))) h := by
  have h1 : ∀ (x : LX) (e : Env) (v : XV), xev e x = some v → xev [(0, v)] (.t 0) = some v := fun _ _ _ _ => rfl
  cases el with
  | nil =>
    refine ⟨fun q call hw => ?_⟩
    have := (SOp.len (P := P) (n := n) (h := h) (e := [(0, .c (.p (.tz true 0 [] none)))]) (x := .t 0) rfl).run
    generalize ho : q.op = op' at hw
    generalize hk : NK.sl = nk at hw
    generalize hlk : LK.len nk x = lk at hw
    cases hw <;> try (cases hlk; done)
    rename_i o as ts x' t d h1 h2 h3 h4 h5
    simp only [LK.len.injEq] at hlk
    obtain ⟨hnk, rfl⟩ := hlk
    have hd : ∃ e, d = .slice e := by
      rcases h5 with h5 | ⟨a, b, rfl⟩
      · exact h5
      · subst hk; cases hnk
    obtain ⟨u, rfl⟩ := hd
    simp only [Sim.step, ho, h2, evs, xev_ev h1 hx, sBuiltin, h3, h4, XV.sv, XC.sc, PC.sc]
    rfl
  | cons y l =>
    refine ⟨fun q call hw => ?_⟩
    generalize ho : q.op = op' at hw
    generalize hk : NK.sl = nk at hw
    generalize hlk : LK.len nk x = lk at hw
    cases hw <;> try (cases hlk; done)
    rename_i o as ts x' t d h1 h2 h3 h4 h5
    simp only [LK.len.injEq] at hlk
    obtain ⟨hnk, rfl⟩ := hlk
    have hd : ∃ e, d = .slice e := by
      rcases h5 with h5 | ⟨a, b, rfl⟩
      · exact h5
      · subst hk; cases hnk
    obtain ⟨u, rfl⟩ := hd
    simp only [Sim.step, ho, h2, evs, xev_ev h1 hx, sBuiltin, h3, h4, XV.sv, XC.sc, PC.sc]
    rfl
theorem SOp.lenStr {x : LX} {l : List Nat} (hx : xev e x = some (.c (.p (.str l)))) : SOp P n (.lenStr x) e h (.c (.p (.int .i64 l.length))) h := ⟨fun q call hw => by
  generalize ho : q.op = op' at hw
  cases hw with
  | lenStr h1 h2 h3 h4 =>
    simp only [Sim.step, ho, h2, evs, xev_ev h1 hx, sBuiltin, h3, h4, XV.sv, XC.sc, PC.sc]
    rfl⟩
theorem SOp.min {x y : LX} {i j : IntKind} {a b : Int} (hx : xev e x = some (.c (.p (.int i a)))) (hy : xev e y = some (.c (.p (.int j b)))) : SOp P n (.min x y) e h (.c (.p (.int i (if b < a then b else a)))) h := ⟨fun q call hw => by
  generalize ho : q.op = op' at hw
  cases hw with
  | min h1 h2 h3 => simp only [Sim.step, ho, h3, evs, xev_ev h1 hx, xev_ev h2 hy, sBuiltin, XV.sv, XC.sc, PC.sc]⟩
theorem SOp.max {x y : LX} {i j : IntKind} {a b : Int} (hx : xev e x = some (.c (.p (.int i a)))) (hy : xev e y = some (.c (.p (.int j b)))) : SOp P n (.max x y) e h (.c (.p (.int i (if a < b then b else a)))) h := ⟨fun q call hw => by
  generalize ho : q.op = op' at hw
  cases hw with
  | max h1 h2 h3 => simp only [Sim.step, ho, h3, evs, xev_ev h1 hx, xev_ev h2 hy, sBuiltin, XV.sv, XC.sc, PC.sc]⟩
/-! Strings. -/
theorem SOp.ix {x i : LX} {l : List Nat} {j : IntKind} {m : Int} {b : Nat} (hx : xev e x = some (.c (.p (.str l)))) (hi : xev e i = some (.c (.p (.int j m)))) (h0 : 0 ≤ m) (hb : l[m.toNat]? = some b) : SOp P n (.ix x i) e h (.c (.p (.int .u8 b))) h := ⟨fun q call hw => by
  generalize ho : q.op = op' at hw
  cases hw with
  | ix h1 h2 h3 => simp only [Sim.step, ho, xev_ev h1 hx, xev_ev h2 hi, XV.sv, XC.sc, PC.sc, sIndex, h3, idx, if_pos h0, hb, Option.map_some]⟩
theorem SOp.cvSB {x : LX} {l : List Nat} (hx : xev e x = some (.c (.p (.str l)))) (hl : l.length ≤ 140737488355328) : SOp P n (.cvSB x) e h (.c (.sl h.next 0 l.length 1 none)) (h.newO (.els 1 (l.map fun (b : Nat) => PC.int .u8 b))) := ⟨fun q call hw => by
  generalize ho : q.op = op' at hw
  cases hw with
  | cvSB h1 h2 h3 h4 =>
    have hf : ∀ l : List Nat, flatE 1 (l.map fun (b : Nat) => PC.int .u8 b) = l.map fun (b : Nat) => SC.int .u8 (b : Int) := by
      intro l
      induction l with
      | nil => rfl
      | cons b l ih => simp only [List.map_cons, flatE, ih]; rfl
    simp only [Sim.step, ho, xev_ev h1 hx, XV.sv, XC.sc, PC.sc, sConvert, h2, h3, h4, if_pos hl]
    rw [← hf l]; rfl⟩
def byX : PC → Option Nat
  | .int .u8 n => if 0 ≤ n ∧ n < 256 then some n.toNat else none
  | _ => none
def bytesX : List PC → Option (List Nat)
  | [] => some []
  | x :: l => match byX x, bytesX l with
    | some b, some r => some (b :: r)
    | _, _ => none
theorem bytesX_flat : ∀ {el : List PC} {l : List Nat}, bytesX el = some l → bytesOf' (flatE 1 el) = some l
  | [], l, h => by simp only [bytesX, Option.some.injEq] at h; subst h; rfl
  | x :: el, l, h => by
    simp only [bytesX] at h
    split at h
    · rename_i b r h1 h2
      simp only [Option.some.injEq] at h
      subst h
      unfold byX at h1
      split at h1
      · rename_i m
        have : flatE 1 (PC.int .u8 m :: el) = SC.int .u8 m :: flatE 1 el := by simp only [flatE]; rfl
        rw [this]
        simp only [bytesOf', byteOf', h1, bytesX_flat h2]
      · cases h1
    · cases h
theorem SOp.cvBS {x : LX} {z : Bool} {el : List PC} {c : Option Nat} {l : List Nat} (hx : xev e x = some (.c (.p (.tz z 1 el c)))) (hl : bytesX el = some l) : SOp P n (.cvBS x) e h (.c (.p (.str l))) h := ⟨fun q call hw => by
  generalize ho : q.op = op' at hw
  cases hw with
  | cvBS h1 h2 h3 h4 =>
    simp only [Sim.step, ho, xev_ev h1 hx, XV.sv, XC.sc, PC.sc, sConvert, h2, h3, h4]
    cases hz : z && el.isEmpty
    · simp only [cond_false, bytesX_flat hl]; rfl
    · have : el = [] := by simp only [Bool.and_eq_true, List.isEmpty_iff] at hz; exact hz.2
      subst this
      simp only [bytesX, Option.some.injEq] at hl
      subst hl
      rfl⟩
theorem SOp.cvO {x : LX} {b m s : Nat} {el : List PC} {c : Option Nat} (hx : xev e x = some (.c (.sl b 0 m s c))) (hb : h.get b = some (.els s el)) (hm : 0 < m) : SOp P n (.cvO x) e h (.c (.sl b 0 m s c)) h := ⟨fun q call hw => by
  generalize ho : q.op = op' at hw
  cases hw with
  | cvO h1 h2 h3 h4 =>
    subst h2
    simp only [Sim.step, ho, xev_ev h1 hx, XV.sv, XC.sc, sConvert, h3, h4, get_els hb]
    rw [if_pos ⟨trivial, hm⟩]⟩
/-! Bounds. -/
def BndX (e : Env) (o : Option LX) (d l : Nat) : Prop :=
  match o with
  | none => l = d
  | some x => ∃ k m, xev e x = some (.c (.p (.int k m))) ∧ 0 ≤ m ∧ l = m.toNat
def BndM (e : Env) (o : Option LX) (l : Option Nat) : Prop :=
  match o with
  | none => l = none
  | some x => ∃ k m, xev e x = some (.c (.p (.int k m))) ∧ 0 ≤ m ∧ l = some m.toNat
theorem BndX.bnd {o : Option Operand} {o' : Option LX} {d l : Nat} (ho : lowO o = some o') (hb : BndX e o' d l) : bnd (toSF n e) o d = some l := by
  cases o with
  | none =>
    simp only [lowO, Option.some.injEq] at ho
    subst ho
    have hb' : l = d := hb
    subst hb'; rfl
  | some p =>
    simp only [lowO] at ho
    split at ho
    · rename_i x hx
      simp only [Option.some.injEq] at ho
      subst ho
      obtain ⟨k, m, h1, h2, rfl⟩ := hb
      simp only [Sim.bnd, xev_ev hx h1, XV.sv, XC.sc, PC.sc, if_pos h2]
    · cases ho
theorem BndM.bnd {o : Option Operand} {o' : Option LX} {l : Option Nat} (ho : lowO o = some o') (hb : BndM e o' l) : bndM (toSF n e) o = some l := by
  cases o with
  | none =>
    simp only [lowO, Option.some.injEq] at ho
    subst ho
    have hb' : l = none := hb
    subst hb'; rfl
  | some p =>
    simp only [lowO] at ho
    split at ho
    · rename_i x hx
      simp only [Option.some.injEq] at ho
      subst ho
      obtain ⟨k, m, h1, h2, rfl⟩ := hb
      simp only [Sim.bndM, xev_ev hx h1, XV.sv, XC.sc, PC.sc, if_pos h2]
    · cases ho
theorem lowO_some {o : Option Operand} {o' : Option LX} (ho : lowO o = some o') : o.isSome = o'.isSome := by
  cases o with
  | none => simp only [lowO, Option.some.injEq] at ho; subst ho; rfl
  | some p =>
    simp only [lowO] at ho
    split at ho
    · simp only [Option.some.injEq] at ho; subst ho; rfl
    · cases ho
theorem SOp.slS {x : LX} {lo hi : Option LX} {q : List Nat} {l r : Nat} (hx : xev e x = some (.c (.p (.str q)))) (hl : BndX e lo 0 l) (hr : BndX e hi q.length r) (h1 : l ≤ r) (h2 : r ≤ q.length) : SOp P n (.slS x lo hi) e h (.c (.p (.str ((q.take r).drop l)))) h := ⟨fun o call hw => by
  generalize ho : o.op = op' at hw
  cases hw with
  | slS g1 g2 g3 g4 =>
    have h3 := BndX.bnd (n := n) g3 hl
    have h4 := BndX.bnd (n := n) g4 hr
    simp only [Sim.step, ho, xev_ev g1 hx, XV.sv, XC.sc, PC.sc, sSlice, g2, h3, h4, bndM, if_pos (And.intro h1 h2), Option.map_some]⟩
theorem take_drop_flat (s : Nat) (el : List PC) (l r : Nat) (h1 : l ≤ r) : ((flatE s el).drop (l * s)).take ((r - l) * s) = flatE s ((el.drop l).take (r - l)) := by rw [flatE_drop, flatE_take]
theorem SOp.sl {s : Nat} {x : LX} {lo hi : Option LX} {z : Bool} {el : List PC} {c : Option Nat} {l r : Nat} (hx : xev e x = some (.c (.p (.tz z s el c)))) (hl : BndX e lo 0 l) (hr : BndX e hi el.length r) (h1 : l ≤ r) (h2 : r ≤ el.length) :
    SOp P n (.sl s x lo hi none) e h (.c (.p (.tz (z && el.isEmpty) s ((el.drop l).take (r - l)) (c.map (· - l))))) h := ⟨fun o call hw => by
  generalize ho : o.op = op' at hw
  generalize hm0 : (none : Option LX) = mx0 at hw
  cases hw with
  | sl g1 g2 g3 g4 g5 g6 =>
    rename_i t o' lo' hi' mx' e'
    subst hm0
    have h3 := BndX.bnd (n := n) g4 hl
    have h4 := BndX.bnd (n := n) g5 hr
    have h5 : bndM (toSF n e) mx' = some none := BndM.bnd (n := n) (e := e) g6 rfl
    have h6 := lowO_some g6
    simp only [Sim.step, ho, xev_ev g1 hx, XV.sv, XC.sc, PC.sc, sSlice, g2, g3]
    cases hz : z && el.isEmpty
    · have hlen : ((el.drop l).take (r - l)).length = r - l := by simp; omega
      simp only [cond_false, g3, h3, h4, h5, Bool.false_and]
      rw [if_pos ⟨h1, h2, trivial, fun hh => by simp at hh⟩]
      simp only [Option.map_some, take_drop_flat s el l r h1, hlen]
    · have : el = [] := by simp only [Bool.and_eq_true, List.isEmpty_iff] at hz; exact hz.2
      subst this
      have hr0 : r = 0 := by simpa using h2
      subst hr0
      have hl0 : l = 0 := by omega
      subst hl0
      simp only [cond_true, g3, h3, show bnd (toSF n e) hi' 0 = some 0 from h4, h5, Option.map_some]
      rfl⟩
theorem SOp.slM {s : Nat} {x : LX} {lo : Option LX} {hi mx : LX} {z : Bool} {el : List PC} {c : Option Nat} {l r m : Nat} (hx : xev e x = some (.c (.p (.tz z s el c)))) (hl : BndX e lo 0 l) (hr : BndX e (some hi) el.length r) (hm : BndM e (some mx) (some m)) (h1 : l ≤ r) (h2 : r ≤ m) (h3 : m ≤ el.length) :
    SOp P n (.sl s x lo (some hi) (some mx)) e h (.c (.p (.tz (z && el.isEmpty) s ((el.drop l).take (r - l)) (some (m - l))))) h := ⟨fun o call hw => by
  generalize ho : o.op = op' at hw
  cases hw with
  | sl g1 g2 g3 g4 g5 g6 =>
    rename_i t o' lo' hi' mx' e'
    have h4 := BndX.bnd (n := n) g4 hl
    have h5 := BndX.bnd (n := n) g5 hr
    have h6 := BndM.bnd (n := n) g6 hm
    have h7 := lowO_some g5
    simp only [Option.isSome_some] at h7
    simp only [Sim.step, ho, xev_ev g1 hx, XV.sv, XC.sc, PC.sc, sSlice, g2, g3]
    cases hz : z && el.isEmpty
    · have hlen : ((el.drop l).take (r - l)).length = r - l := by simp; omega
      simp only [cond_false, g3, h4, h5, h6, Bool.false_and]
      rw [if_pos ⟨h1, by omega, trivial, fun _ => h7⟩, if_pos ⟨h2, h3⟩]
      simp only [Option.map_some, take_drop_flat s el l r h1, hlen]
    · have : el = [] := by simp only [Bool.and_eq_true, List.isEmpty_iff] at hz; exact hz.2
      subst this
      have hm0 : m = 0 := by simpa using h3
      subst hm0
      have hr0 : r = 0 := by omega
      subst hr0
      have hl0 : l = 0 := by omega
      subst hl0
      simp only [cond_true, g3, h4, show bnd (toSF n e) hi' 0 = some 0 from h5, h6, h7, if_true, Option.map_some]
      rfl⟩
/-! Appends. -/
inductive ElsX (h : HS) (s : Nat) : XC → List PC → Prop where
  | tz {z el c} : ElsX h s (.p (.tz z s el c)) el
  | nil {s' c} : ElsX h s (.p (.tz true s' [] c)) []
  | own {b m c el} (hb : h.get b = some (.els s el)) (hm : m = el.length) : ElsX h s (.sl b 0 m s c) el
  | str {l : List Nat} (hs : s = 1) : ElsX h s (.p (.str l)) (l.map fun (b : Nat) => PC.int .u8 b)
  /-- A part of one's own. -/
  | part {b o m c el0 el} (hb : h.get b = some (.els s el0)) (hm : o + m ≤ el0.length) (he : el = (el0.drop o).take m) : ElsX h s (.sl b (o * s) m s c) el
theorem ElsX.elems {s : Nat} {y : XC} {el : List PC} (hy : ElsX h s y el) : elems h.sh s (.c y.sc) = some (el.length, flatE s el) := by
  cases hy with
  | @tz z _ c =>
    simp only [XC.sc, PC.sc]
    cases hz : z && el.isEmpty
    · simp only [cond_false, Sim.elems, if_true]
    · have : el = [] := by simp only [Bool.and_eq_true, List.isEmpty_iff] at hz; exact hz.2
      subst this
      rfl
  | nil => rfl
  | own hb hm =>
    subst hm
    have hlen : (flatE s el).length = el.length * s := flatE_len s el
    simp only [XC.sc, Sim.elems, if_true, SH.read, get_els hb]
    rw [if_pos (by omega), List.drop_zero, List.take_of_length_le (by omega)]; rfl
  | @part b o m c el0 el hb hm he =>
    subst he
    have hlen : (flatE s el0).length = el0.length * s := flatE_len s el0
    have h1 : o * s + m * s ≤ el0.length * s := by rw [← Nat.add_mul]; exact Nat.mul_le_mul_right _ hm
    have h2 : ((el0.drop o).take m).length = m := by simp; omega
    simp only [XC.sc, Sim.elems, if_true, SH.read, get_els hb]
    rw [if_pos (by omega), flatE_drop, flatE_take, h2]; rfl
  | @str l hs =>
    subst hs
    have hf : ∀ l : List Nat, flatE 1 (l.map fun (b : Nat) => PC.int .u8 b) = l.map fun (b : Nat) => SC.int .u8 (b : Int) := by
      intro l
      induction l with
      | nil => rfl
      | cons b l ih => simp only [List.map_cons, flatE, ih]; rfl
    simp only [XC.sc, PC.sc, Sim.elems, if_true, List.length_map, hf]
theorem step_app {s bytes : Nat} {x y : LX} {u v : XC} {el : List PC} {r : XV} {h' : HS} (hx : xev e x = some (.c u)) (hy : xev e y = some (.c v)) (hel : ElsX h s v el)
    (hr : 0 < bytes → 0 < s → (match SV.c u.sc with
        | .c .nils => if el.length = 0 then some (SV.c u.sc, h.sh) else
          if el.length * bytes ≤ 140737488355328 ∧ 0 < bytes ∧ 0 < s then some (.c (.sl h.sh.next 0 el.length s none), h.sh.new (flatE s el)) else none
        | .c .em => if el.length = 0 then some (SV.c u.sc, h.sh) else none
        | .c (.fz n s' l (some c)) => if el.length = 0 then some (SV.c u.sc, h.sh) else
          if (n + el.length) * bytes ≤ 140737488355328 ∧ 0 < bytes ∧ 0 < s ∧ s' = s ∧ c < n + el.length then some (.c (.sl h.sh.next 0 (n + el.length) s' none), h.sh.new (l ++ flatE s el)) else none
        | .c (.fz _ _ _ none) => if el.length = 0 then some (SV.c u.sc, h.sh) else none
        | .c (.sl b o n s' c) => if el.length = 0 then some (SV.c u.sc, h.sh) else
          if (n + el.length) * bytes ≤ 140737488355328 ∧ 0 < bytes ∧ 0 < s ∧ s' = s then
            match h.sh.get b with
            | some (.row cs own) =>
              if roomB c (n + el.length) o s' cs.length = true then
                (h.sh.write b (o + n * s') (flatE s el)).map fun h => (.c (.sl b o (n + el.length) s' c), h)
              else if o + n * s' ≤ cs.length ∧ (c.isSome = true ∨ own = true) then
                some (.c (.sl h.sh.next 0 (n + el.length) s' none), (if c.isSome then h.sh else h.sh.put b none).new ((cs.drop o).take (n * s') ++ flatE s el))
              else none
            | _ => none
          else none
        | _ => none) = some (r.sv, h'.sh)) : SOp P n (.app s bytes x y) e h r h' := ⟨fun o call hw => by
  generalize ho : o.op = op' at hw
  generalize hlk : LK.app s bytes x y = lk at hw
  cases hw <;> try (cases hlk; done)
  rename_i o1 p1 as ts x1 y1 t u1 e1 i z d g1 g2 g3 g4 g5 g6 g7 g8 g9 g10 g11 g12 g13
  simp only [LK.app.injEq] at hlk
  obtain ⟨rfl, rfl, rfl, rfl⟩ := hlk
  have h1 := hel.elems
  have h2 := hr g12 g13
  simp only [Sim.step, ho, g3, evs, xev_ev g1 hx, xev_ev g2 hy, sBuiltin, g4, g5, g6]
  have hA : sAppend P t h.sh (XV.sv (.c u)) (XV.sv (.c v)) = some (r.sv, h'.sh) := by
    simp only [XV.sv, sAppend, g8, g9, g10, g11, ne_eq, not_true, if_false, h1]
    rw [← h2]
    rfl
  cases d <;> first | exact absurd rfl (g7 _) | exact hA⟩
theorem SOp.app0 {s bytes : Nat} {x y : LX} {u v : XC} (hx : xev e x = some (.c u)) (hy : xev e y = some (.c v)) (hel : ElsX h s v []) (hu : (∃ b o m s' c, u = .sl b o m s' c) ∨ ∃ z s' l c, u = .p (.tz z s' l c)) : SOp P n (.app s bytes x y) e h (.c u) h :=
  step_app hx hy hel fun _ _ => by
    rcases hu with ⟨b, o, m, s', c, rfl⟩ | ⟨z, s', l, c, rfl⟩
    · rfl
    · simp only [XV.sv, XC.sc, PC.sc]
      cases z && l.isEmpty
      · cases c <;> rfl
      · rfl
theorem SOp.appN {s bytes s' : Nat} {x y : LX} {v : XC} {c : Option Nat} {el : List PC} (hx : xev e x = some (.c (.p (.tz true s' [] c)))) (hy : xev e y = some (.c v)) (hel : ElsX h s v el) (h0 : el ≠ []) (hb : el.length * bytes ≤ 140737488355328) :
    SOp P n (.app s bytes x y) e h (.c (.sl h.next 0 el.length s none)) (h.newO (.els s el)) :=
  step_app hx hy hel fun h1 h2 => by
    have : ¬ el.length = 0 := fun e => h0 (List.eq_nil_of_length_eq_zero e)
    simp only [XC.sc, PC.sc, List.isEmpty_nil, Bool.and_self, cond_true, if_neg this]
    rw [if_pos ⟨hb, h1, h2⟩]
    rfl
theorem SOp.appC {s bytes c : Nat} {x y : LX} {v : XC} {z : Bool} {ex el : List PC} (hx : xev e x = some (.c (.p (.tz z s ex (some c))))) (hy : xev e y = some (.c v)) (hel : ElsX h s v el) (h0 : el ≠ []) (hc : c < ex.length + el.length) (hb : (ex.length + el.length) * bytes ≤ 140737488355328) :
    SOp P n (.app s bytes x y) e h (.c (.sl h.next 0 (ex.length + el.length) s none)) (h.newO (.els s (ex ++ el))) :=
  step_app hx hy hel fun h1 h2 => by
    have h3 : ¬ el.length = 0 := fun e => h0 (List.eq_nil_of_length_eq_zero e)
    simp only [XC.sc, PC.sc]
    cases hz : z && ex.isEmpty
    · simp only [cond_false, if_neg h3]
      rw [if_pos ⟨hb, h1, h2, trivial, hc⟩, ← flatE_app]
      rfl
    · have : ex = [] := by simp only [Bool.and_eq_true, List.isEmpty_iff] at hz; exact hz.2
      subst this
      simp only [cond_true, if_neg h3]
      rw [if_pos ⟨by simpa using hb, h1, h2⟩]
      simp only [List.length_nil, Nat.zero_add, List.nil_append]
      rfl
theorem SOp.appO {s bytes b m : Nat} {x y : LX} {v : XC} {ex el : List PC} (hx : xev e x = some (.c (.sl b 0 m s none))) (hb : h.get b = some (.els s ex)) (hm : m = ex.length) (hy : xev e y = some (.c v)) (hel : ElsX h s v el) (h0 : el ≠ []) (hc : (ex.length + el.length) * bytes ≤ 140737488355328) :
    SOp P n (.app s bytes x y) e h (.c (.sl h.next 0 (ex.length + el.length) s none)) ((h.put b none).newO (.els s (ex ++ el))) :=
  step_app hx hy hel fun h1 h2 => by
    subst hm
    have h3 : ¬ el.length = 0 := fun e => h0 (List.eq_nil_of_length_eq_zero e)
    have h4 : (flatE s ex).length = ex.length * s := flatE_len s ex
    have h5 : ¬ (roomB none (ex.length + el.length) 0 s (flatE s ex).length = true) := by
      simp only [roomB, h4, Nat.ble_eq, Nat.add_mul, Nat.zero_add, Nat.not_le]
      have : 0 < el.length * s := Nat.mul_pos (by omega) h2
      omega
    simp only [XC.sc, if_neg h3, get_els hb]
    rw [if_pos ⟨hc, h1, h2, trivial⟩, if_neg h5, if_pos ⟨by omega, .inr trivial⟩]
    simp only [Option.isSome_none, Bool.false_eq_true, if_false, List.drop_zero]
    rw [List.take_of_length_le (by omega), ← flatE_app]
    rfl
theorem SOp.appF {s bytes b m c : Nat} {x y : LX} {v : XC} {ex el : List PC} (hx : xev e x = some (.c (.sl b 0 m s (some c)))) (hb : h.get b = some (.els s ex)) (hm : m = ex.length) (hcm : c < ex.length + el.length) (hy : xev e y = some (.c v)) (hel : ElsX h s v el) (h0 : el ≠ []) (hc : (ex.length + el.length) * bytes ≤ 140737488355328) :
    SOp P n (.app s bytes x y) e h (.c (.sl h.next 0 (ex.length + el.length) s none)) (h.newO (.els s (ex ++ el))) :=
  step_app hx hy hel fun h1 h2 => by
    subst hm
    have h3 : ¬ el.length = 0 := fun e => h0 (List.eq_nil_of_length_eq_zero e)
    have h4 : (flatE s ex).length = ex.length * s := flatE_len s ex
    have h5 : ¬ (roomB (some c) (ex.length + el.length) 0 s (flatE s ex).length = true) := by
      simp only [roomB, Nat.ble_eq, Nat.not_le]
      omega
    simp only [XC.sc, if_neg h3, get_els hb]
    rw [if_pos ⟨hc, h1, h2, trivial⟩, if_neg h5, if_pos ⟨by omega, .inl rfl⟩]
    simp only [Option.isSome_some, if_true, List.drop_zero]
    rw [List.take_of_length_le (by omega), ← flatE_app]
    rfl
theorem SOp.sv {lk : LK} {v v' : XV} {h' : HS} (ho : SOp P n lk e h v h') (hv : v'.sv = v.sv) : SOp P n lk e h v' h' := ⟨fun o call hl => by rw [hv]; exact ho.run o call hl⟩
theorem SOp.appA0 {s bytes b : Nat} {x y : LX} {v : XC} {el : List PC} (hx : xev e x = some (.c (.acc b s []))) (hy : xev e y = some (.c v)) (hel : ElsX h s v el) (h0 : el ≠ []) (hb : el.length * bytes ≤ 140737488355328) :
    SOp P n (.app s bytes x y) e h (.c (.acc h.next s el)) (h.newO (.els s el)) :=
  step_app hx hy hel fun h1 h2 => by
    have : ¬ el.length = 0 := fun e => h0 (List.eq_nil_of_length_eq_zero e)
    have hs : el.isEmpty = false := by cases el <;> simp_all
    simp only [XV.sv, XC.sc, hs, List.isEmpty_nil, cond_true, cond_false, if_neg this]
    rw [if_pos ⟨hb, h1, h2⟩]
    rfl
theorem SOp.appA {s bytes b : Nat} {x y : LX} {v : XC} {x0 : PC} {ex el : List PC} (hx : xev e x = some (.c (.acc b s (x0 :: ex)))) (hb : h.get b = some (.els s (x0 :: ex))) (hy : xev e y = some (.c v)) (hel : ElsX h s v el) (h0 : el ≠ []) (hc : ((x0 :: ex).length + el.length) * bytes ≤ 140737488355328) :
    SOp P n (.app s bytes x y) e h (.c (.acc h.next s (x0 :: ex ++ el))) ((h.put b none).newO (.els s (x0 :: ex ++ el))) :=
  step_app hx hy hel fun h1 h2 => by
    have h3 : ¬ el.length = 0 := fun e => h0 (List.eq_nil_of_length_eq_zero e)
    have h4 : (flatE s (x0 :: ex)).length = (x0 :: ex).length * s := flatE_len s _
    have h5 : ¬ (roomB none ((x0 :: ex).length + el.length) 0 s (flatE s (x0 :: ex)).length = true) := by
      simp only [roomB, h4, Nat.ble_eq, Nat.add_mul, Nat.zero_add, Nat.not_le]
      have : 0 < el.length * s := Nat.mul_pos (by omega) h2
      omega
    have hi : (x0 :: ex ++ el).isEmpty = false := rfl
    simp only [XV.sv, XC.sc, hi, List.isEmpty_cons, cond_false, if_neg h3, get_els hb]
    rw [if_pos ⟨hc, h1, h2, trivial⟩, if_neg h5, if_pos ⟨by omega, .inr trivial⟩]
    simp only [Option.isSome_none, Bool.false_eq_true, if_false, List.drop_zero]
    rw [List.take_of_length_le (by omega), ← flatE_app, List.length_append]
    rfl
/-! Structs and slices that are written out. -/
def XV.pc : XV → Option PC
  | .c (.p x) => match x.one with
    | true => some x
    | false => none
  | .agg l => match pcs l with
    | some r => some (.agg r)
    | none => none
  | _ => none
where pcs : List XC → Option (List PC)
  | [] => some []
  | .p x :: l => match pcs l with
    | some r => some (x :: r)
    | none => none
  | _ :: _ => none
theorem pcs_eq : ∀ {l : List XC} {r : List PC}, XV.pc.pcs l = some r → l.map XC.sc = r.map PC.sc
  | [], r, h => by simp only [XV.pc.pcs, Option.some.injEq] at h; subst h; rfl
  | .p x :: l, r, h => by
    simp only [XV.pc.pcs] at h
    split at h
    · rename_i q hq
      simp only [Option.some.injEq] at h
      subst h
      simp only [List.map_cons, pcs_eq hq, XC.sc]
    · cases h
  | .ptr _ _ :: _, r, h => by simp [XV.pc.pcs] at h
  | .sl _ _ _ _ _ :: _, r, h => by simp [XV.pc.pcs] at h
  | .mp _ :: _, r, h => by simp [XV.pc.pcs] at h
  | .cl _ _ _ :: _, r, h => by simp [XV.pc.pcs] at h
  | .ifc _ _ :: _, r, h => by simp [XV.pc.pcs] at h
  | .acc _ _ _ :: _, r, h => by simp [XV.pc.pcs] at h
def okEl (s : Nat) (p : PC) : Bool := p.cells.all PC.one && Nat.beq p.cells.length s
theorem pc_cells {v : XV} {p : PC} {s : Nat} (h : v.pc = some p) (ho : okEl s p = true) : ∃ cs, v.cells = some cs ∧ cs.length = s ∧ cs.map XC.sc = fit s p.flat := by
  simp only [okEl, Bool.and_eq_true] at ho
  have hl := Nat.eq_of_beq_eq_true ho.2
  have hf : fit s p.flat = p.cells.map PC.sc := by rw [PC.flat_cells ho.1]; exact fit_eq (by simpa using hl)
  cases v with
  | c x =>
    cases x <;> simp only [XV.pc] at h <;> first | (cases h; done) | skip
    split at h <;> first | (cases h; done) | skip
    simp only [Option.some.injEq] at h
    subst h
    rename_i x _ h1
    have hone : x.cells = [x] := by
      cases x with
      | agg l => cases h1
      | _ => rfl
    exact ⟨[.p x], rfl, by rw [← hl, hone]; rfl, by rw [hf, hone]; rfl⟩
  | agg l =>
    simp only [XV.pc] at h
    split at h
    · rename_i r hr
      simp only [Option.some.injEq] at h
      subst h
      refine ⟨l, rfl, ?_, ?_⟩
      · have := congrArg List.length (pcs_eq hr)
        simp only [List.length_map] at this
        rw [this]; exact hl
      · rw [hf]; exact pcs_eq hr
    · cases h
  | tup l => cases h
def bldSX (e : Env) (s : Nat) : Nat → List (Nat × LX) → Option (List PC)
  | _, [] => some []
  | k, (i, x) :: r => match Nat.beq i k, xev e x with
    | true, some v => match v.pc with
      | some p => match okEl s p, bldSX e s (k + 1) r with
        | true, some l => some (p :: l)
        | _, _ => none
      | none => none
    | _, _ => none
theorem bldSX_parts {s : Nat} {z : List SC} (hz : z.length = s) : ∀ {l : List (Nat × Operand)} {ps : List (Nat × LX)} {k : Nat} {el : List PC}, lowPb l = some ps → bldSX e s k ps = some el → ∀ (A : List SC), A.length = k * s →
    ∃ vs, evps (toSF n e) l = some vs ∧ partsIn (fun i => some (i * s, s)) (A ++ rep z el.length) vs = some (A ++ flatE s el)
  | [], ps, k, el, h, hb, A, hA => by
    simp only [lowPb, Option.some.injEq] at h; subst h
    simp only [bldSX, Option.some.injEq] at hb; subst hb
    exact ⟨[], rfl, by simp [partsIn, rep, flatE]⟩
  | (i, o) :: l, ps, k, el, h, hb, A, hA => by
    simp only [lowPb] at h
    split at h
    · rename_i x r h1 h2
      simp only [Option.some.injEq] at h
      subst h
      simp only [bldSX] at hb
      split at hb
      · rename_i v hk hv
        have hk := Nat.eq_of_beq_eq_true hk
        subst hk
        split at hb
        · rename_i p hp
          split at hb
          · rename_i el' ho hr
            simp only [Option.some.injEq] at hb
            subst hb
            obtain ⟨cs, c1, c2, c3⟩ := pc_cells hp ho
            obtain ⟨vs, g1, g2⟩ := bldSX_parts hz h2 hr (A ++ fit s p.flat) (by rw [List.length_append, hA, fit_len, Nat.add_mul]; omega)
            refine ⟨(i, v.sv) :: vs, by simp only [evps, xev_ev h1 hv, g1], ?_⟩
            simp only [partsIn, XV.cells_sv c1, List.length_map, c2]
            have hle : i * s + s ≤ (A ++ rep z (p :: el').length).length := by simp [hA, rep, hz]
            rw [if_pos ⟨trivial, hle⟩]
            have : setRange (A ++ rep z (p :: el').length) (i * s) (cs.map XC.sc) = A ++ fit s p.flat ++ rep z el'.length := by
              simp only [setRange, List.length_cons, rep, c3, fit_len]
              rw [List.take_append_of_le_length (by omega), List.take_of_length_le (by omega), List.drop_append, List.drop_eq_nil_of_le (by omega), List.nil_append, hA, show i * s + s - i * s = s by omega, ← hz]; simp
            rw [this, g2]
            simp only [flatE, List.append_assoc]
          · cases hb
        · cases hb
      · cases hb
    · cases h
theorem SOp.bldS {s m : Nat} {z : List XC} {ps : List (Nat × LX)} {el : List PC} (hp : bldSX e s 0 ps = some el) (hm : el.length = m) : SOp P n (.bldS s m z ps) e h (.c (.sl h.next 0 m s (some m))) (h.newO (.els s el)) := ⟨fun q call hw => by
  generalize ho : q.op = op' at hw
  cases hw with
  | bldS h1 h2 h3 h4 h5 h6 h7 =>
    obtain ⟨vs, g1, g2⟩ := bldSX_parts (n := n) (e := e) (z := z.map XC.sc) (by simpa using h5) h7 hp [] (by simp)
    simp only [List.nil_append] at g2
    subst hm
    simp only [Sim.step, ho, g1, sBuildSlice, h1, h2, zeroX_sc h3, List.length_map]
    rw [if_pos ⟨h4, h5, h6⟩, g2]
    rfl⟩
def bldX (e : Env) : List XC → List (Nat × Nat × LX) → Option (List XC)
  | z, [] => some z
  | z, (off, s, x) :: r => match xev e x with
    | some v => match v.cells with
      | some cs => match Nat.beq cs.length s, setN z off cs with
        | true, some z' => bldX e z' r
        | _, _ => none
      | none => none
    | none => none
theorem mapM_get {α β : Type} {g : α → Option β} : ∀ {l : List α} {r : List β}, l.mapM g = some r → ∀ (i : Nat) (a : α), l[i]? = some a → ∃ b, g a = some b ∧ r[i]? = some b
  | [], r, h, i, a, ha => by simp at ha
  | x :: l, r, h, i, a, ha => by
    rw [List.mapM_cons] at h
    simp only [Option.bind_eq_bind, Option.bind_eq_some_iff, Option.pure_def, Option.some.injEq] at h
    obtain ⟨b, h1, q, h2, rfl⟩ := h
    cases i with
    | zero => simp at ha; subst ha; exact ⟨b, h1, by simp⟩
    | succ i => simpa using mapM_get h2 i a (by simpa using ha)
theorem bldX_parts {place : Nat → Option (Nat × Nat)} (hlow : List (Nat × Operand) → Option (List (Nat × Nat × LX))) (hnil : hlow [] = some [])
    (hcons : ∀ i o l ps, hlow ((i, o) :: l) = some ps → ∃ off s x r, ps = (off, s, x) :: r ∧ lowX o = some x ∧ hlow l = some r ∧ place i = some (off, s)) :
    ∀ {l : List (Nat × Operand)} {ps : List (Nat × Nat × LX)} {z r : List XC}, hlow l = some ps → bldX e z ps = some r → ∃ vs, evps (toSF n e) l = some vs ∧ partsIn place (z.map XC.sc) vs = some (r.map XC.sc)
  | [], ps, z, r, h, hb => by
    rw [hnil] at h
    simp only [Option.some.injEq] at h; subst h
    simp only [bldX, Option.some.injEq] at hb; subst hb
    exact ⟨[], rfl, rfl⟩
  | (i, o) :: l, ps, z, r, h, hb => by
    obtain ⟨off, s, x, q, rfl, h1, h2, h3⟩ := hcons i o l ps h
    simp only [bldX] at hb
    split at hb
    · rename_i v hv
      split at hb
      · rename_i cs hc
        split at hb
        · rename_i z' hs hz
          have hs := Nat.eq_of_beq_eq_true hs
          obtain ⟨g1, g2⟩ := map_setN XC.sc hz
          obtain ⟨vs, f1, f2⟩ := bldX_parts hlow hnil hcons h2 hb
          refine ⟨(i, v.sv) :: vs, by simp only [evps, xev_ev h1 hv, f1], ?_⟩
          simp only [partsIn, h3, XV.cells_sv hc]
          rw [if_pos ⟨by simpa using hs, by simpa [hs] using g1⟩, g2, f2]
        · cases hb
      · cases hb
    · cases hb
theorem SOp.bld {z r : List XC} {ps : List (Nat × Nat × LX)} (hp : bldX e z ps = some r) : SOp P n (.bld z ps) e h (.agg r) h := ⟨fun q call hw => by
  generalize ho : q.op = op' at hw
  cases hw with
  | @bld t ps0 fs z' ps' h1 h2 h3 h4 =>
    obtain ⟨places, hpl⟩ := Option.isSome_iff_exists.1 h4
    obtain ⟨vs, g1, g2⟩ := bldX_parts (n := n) (place := (places.toArray[·]?)) (lowPs P fs) rfl (fun i o l ps h => by
      simp only [lowPs] at h
      split at h
      · rename_i f x r hf hx hr
        split at h
        · rename_i s hs
          split at h
          · rename_i off s' e1 e2
            simp only [Option.some.injEq] at h
            subst h
            refine ⟨off, s', x, r, rfl, hx, hr, ?_⟩
            obtain ⟨b, b1, b2⟩ := mapM_get hpl i f (by simpa using hf)
            rw [lit_eq e1, lit_eq e2]
            unfold szOf at hs
            split at hs
            · rename_i info hi
              simp only [Option.some.injEq] at hs
              simp only [hi, Option.map_some, Option.some.injEq] at b1
              subst b1 hs
              simpa using b2
            · cases hs
          · cases h
        · cases h
      · cases h) h3 hp
    simp only [Sim.step, ho, g1, sBuild, h1, zeroX_sc h2, hpl, g2, Option.map_some, XV.sv]
  | @bldA t ps0 m e0 z' ps' s h1 h2 h3 h4 =>
    obtain ⟨vs, g1, g2⟩ := bldX_parts (n := n) (place := fun i => some (i * s, s)) (lowPa s) rfl (fun i o l ps h => by
      simp only [lowPa] at h
      split at h
      · rename_i x r hx hr
        simp only [Option.some.injEq] at h
        subst h
        exact ⟨_, _, x, r, rfl, hx, hr, rfl⟩
      · cases h) h4 hp
    simp only [Sim.step, ho, g1, sBuild, h1, zeroX_sc h2, h3, g2, Option.map_some, XV.sv]⟩
end ops
end Go.Proofs.Ytjlfojgacnphmaa.Sym

namespace Go.Proofs.Ytjlfojgacnphmaa.Sym
open Go Go.RowKit Go.Proofs.Ytjlfojgacnphmaa.Sim
set_option linter.unusedSimpArgs false
set_option linter.unusedVariables false
def LC.loops : LC → List LC
  | .seq a b => a.loops ++ b.loops
  | .cond _ a b => a.loops ++ b.loops
  | .block _ a => a.loops
  | .loop a => a :: a.loops
  | _ => []
def LC.lp (i : Nat) (c : LC) : LC := c.loops.getD i .skip
def accV (b s : Nat) (l : List PC) : XV := .c (.acc b s l)
def accO (s : Nat) : List PC → Option XO
  | [] => none
  | x :: l => some (.els s (x :: l))
def minI (a b : Int) : Int := if b < a then b else a
def maxI (a b : Int) : Int := if a < b then b else a
def easyB : BinOp → XC → Bool
  | .quo, _ => false
  | .rem, _ => false
  | .shl, _ => false
  | .shr, _ => false
  | .add, .p (.str _) => false
  | _, _ => true
def stepX (k : LK) (e : Env) (h : HS) : Option (XV × HS) :=
  match k with
  | .mv x => match xev e x with
    | some v => some (v, h)
    | none => none
  | .pick c a b => match xev e c with
    | some (.c (.p (.bool true))) => match xev e a with
      | some v => some (v, h)
      | none => none
    | some (.c (.p (.bool false))) => match xev e b with
      | some v => some (v, h)
      | none => none
    | _ => none
  | .new z => some (.c (.ptr h.next 0), h.new z)
  | .box x => match xev e x with
    | some v => match v.cells with
      | some l => some (.c (.ptr h.next 0), h.new l)
      | none => none
    | none => none
  | .bld z ps => match bldX e z ps with
    | some r => some (.agg r, h)
    | none => none
  | .bldS s n _ ps => match bldSX e s 0 ps with
    | some el => match Nat.beq el.length n with
      | true => some (.c (.sl h.next 0 n s (some n)), h.newO (.els s el))
      | false => none
    | none => none
  | .ld1 x => match xev e x with
    | some (.c (.ptr b o)) => match h.get b with
      | some (.row l _) => match getN l o 1 with
        | some [y] => some (.c y, h)
        | _ => none
      | _ => none
    | _ => none
  | .ldn m x => match xev e x with
    | some (.c (.ptr b o)) => match h.get b with
      | some (.row l _) => match getN l o m with
        | some r => some (.agg r, h)
        | none => none
      | _ => none
    | _ => none
  | .st s x y => match xev e x, xev e y with
    | some (.c (.ptr b o)), some v => match h.get b, v.cells with
      | some (.row l true), some cs => match Nat.beq cs.length s, setN l o cs with
        | true, some l' => some (.tup [], h.put b (some (.row l' true)))
        | _, _ => none
      | _, _ => none
    | _, _ => none
  | .nilck x => match xev e x with
    | some (.c (.ptr b o)) => some (.c (.ptr b o), h)
    | some (.c (.p (.tp l o))) => some (.c (.p (.tp l o)), h)
    | some (.c (.p (.te s el i o))) => some (.c (.p (.te s el i o)), h)
    | _ => none
  | .bin k op x y => match xev e x, xev e y with
    | some (.c u), some (.c v) => match easyB op u with
      | true => match binX k op u v with
        | some r => some (.c (.p r), h)
        | none => none
      | false => none
    | _, _ => none
  | .un op x => match xev e x with
    | some (.c u) => match unX op u with
      | some r => some (.c (.p r), h)
      | none => none
    | _ => none
  | .cvI k x => match xev e x with
    | some (.c (.p (.int _ m))) => some (.c (.p (.int k (k.wrap m))), h)
    | _ => none
  | .cvId x => match xev e x with
    | some (.c (.p (.str l))) => some (.c (.p (.str l)), h)
    | _ => none
  | .fa off x => match xev e x with
    | some (.c (.ptr b o)) => some (.c (.ptr b (o + off)), h)
    | some (.c (.p (.tp l o))) => some (.c (.p (.tp l (o + off))), h)
    | some (.c (.p (.te s el i o))) => some (.c (.p (.te s el i (o + off))), h)
    | _ => none
  | .fld1 off x => match xev e x with
    | some (.agg l) => match getN l off 1 with
      | some [y] => some (.c y, h)
      | _ => none
    | _ => none
  | .fldn off m x => match xev e x with
    | some (.agg l) => match getN l off m with
      | some r => some (.agg r, h)
      | none => none
    | _ => none
  | .ext x i => match xev e x with
    | some (.tup l) => match l[i]? with
      | some v => some (v, h)
      | none => none
    | _ => none
  | .len .sl x => match xev e x with
    | some (.c (.p (.tz _ _ el _))) => some (.c (.p (.int .i64 el.length)), h)
    | some (.c (.sl _ _ m _ _)) => some (.c (.p (.int .i64 m)), h)
    | some (.c (.acc _ _ el)) => some (.c (.p (.int .i64 el.length)), h)
    | _ => none
  | .lenStr x => match xev e x with
    | some (.c (.p (.str l))) => some (.c (.p (.int .i64 l.length)), h)
    | _ => none
  | .min x y => match xev e x, xev e y with
    | some (.c (.p (.int i a))), some (.c (.p (.int _ b))) => some (.c (.p (.int i (minI a b))), h)
    | _, _ => none
  | .max x y => match xev e x, xev e y with
    | some (.c (.p (.int i a))), some (.c (.p (.int _ b))) => some (.c (.p (.int i (maxI a b))), h)
    | _, _ => none
  | _ => none
inductive Fr where
  | seq (b : LC)
  | block (id : Nat)
  | loop (c : LC)
inductive Fo where
  | ops (l : List LOp)
  | code (c : LC)
  | out (x : Ex)
def pushS (d : Option Nat) (v : XV) (e : Env) : Env :=
  match d with
  | some d => (d, v) :: e
  | none => e
inductive St where
  | st (f : Fo) (K : List Fr) (e : Env) (h : HS)
  | no
def go : Nat → Fo → List Fr → Env → HS → St
  | 0, f, K, e, h => .st (f) K e h
  | m + 1, f, K, e, h => match f with
    | .ops [] => go m (.out .normal) K e h
    | .ops (⟨none, some d, k⟩ :: l) => match stepX k e h with
      | some (v, h') => go m (.ops l) K ((d, v) :: e) h'
      | none => .st (.ops (⟨none, some d, k⟩ :: l)) K e h
    | .ops (⟨none, none, k⟩ :: l) => match stepX k e h with
      | some (_, h') => go m (.ops l) K e h'
      | none => .st (.ops (⟨none, none, k⟩ :: l)) K e h
    | .ops (⟨some (s, w), d, k⟩ :: l) => match look e s, w with
      | some (.c (.p (.bool true))), true => match stepX k e h with
        | some (v, h') => go m (.ops l) K (pushS d v e) h'
        | none => .st (.ops (⟨some (s, w), d, k⟩ :: l)) K e h
      | some (.c (.p (.bool false))), false => match stepX k e h with
        | some (v, h') => go m (.ops l) K (pushS d v e) h'
        | none => .st (.ops (⟨some (s, w), d, k⟩ :: l)) K e h
      | some (.c (.p (.bool true))), false => go m (.ops l) K (pushS d (.tup []) e) h
      | some (.c (.p (.bool false))), true => go m (.ops l) K (pushS d (.tup []) e) h
      | some (.tup _), _ => go m (.ops l) K (pushS d (.tup []) e) h
      | _, _ => .st (.ops (⟨some (s, w), d, k⟩ :: l)) K e h
    | .code (.seq a b) => go m (.code a) (.seq b :: K) e h
    | .code (.reg _ l) => go m (.ops l) K e h
    | .code .skip => go m (.out .normal) K e h
    | .code (.block id a) => go m (.code a) (.block id :: K) e h
    | .code (.cond x a b) => match xev e x with
      | some (.c (.p (.bool true))) => go m (.code a) K e h
      | some (.c (.p (.bool false))) => go m (.code b) K e h
      | _ => .st (.code (.cond x a b)) K e h
    | .out .normal => match K with
      | .seq b :: K => go m (.code b) K e h
      | .block _ :: K => go m (.out .normal) K e h
      | K => .st (.out .normal) K e h
    | .out .ret => match K with
      | _ :: K => go m (.out .ret) K e h
      | [] => .st (.out .ret) [] e h
    | .out (.exit j) => match K with
      | .block id :: K => match Nat.beq j id with
        | true => go m (.out .normal) K e h
        | false => go m (.out (.exit j)) K e h
      | _ :: K => go m (.out (.exit j)) K e h
      | [] => .st (.out (.exit j)) [] e h
    | f => .st (f) K e h
section
variable {P : Program} {base n k : Nat} {e : Env} {h : HS} {Q : QX} {K : List Fr}
def GOK (e : Env) : Option (Nat × Bool) → Prop
  | none => True
  | some (s, w) => look e s = some (.c (.p (.bool w)))
theorem GOK.wanted {g : Option (Nat × Bool)} (hg : GOK e g) (ops : Array Oper) (o : Oper) (ho : lowG ops o.guard = some g) : wantedS ops (toSF n e) o = some true := by
  cases g with
  | none =>
    unfold lowG at ho
    split at ho
    · rename_i h1; unfold wantedS; rw [h1]
    · repeat' split at ho
      all_goals simp at ho
  | some p =>
    obtain ⟨s, w⟩ := p
    rw [wanted_of ho hg]; simp [XV.sv, XC.sc, PC.sc]
theorem R.op {g : Option (Nat × Bool)} {d : Option Nat} {lk : LK} {l : List LOp} {v : XV} {h' : HS} (hg : GOK e g) (ho : SOp P n lk e h v h') (hx : XR P base n k l (push d v e) h' Q) : XR P base n k (⟨g, d, lk⟩ :: l) e h Q :=
  XR.step (fun _ _ _ => none) (noCall P base) (fun ops o h1 => hg.wanted ops o h1) (fun o hl => ho.run o _ hl) hx
theorem stepX_ok {lk : LK} {v : XV} {h' : HS} (hs : stepX lk e h = some (v, h')) : SOp P n lk e h v h' := by
  unfold stepX at hs
  repeat' split at hs
  all_goals first
    | cases hs; done
    | skip
  all_goals simp only [Option.some.injEq, Prod.mk.injEq] at hs
  all_goals obtain ⟨hs1, hs2⟩ := hs
  all_goals subst hs1 hs2
  all_goals first
    | exact .mv (by assumption)
    | exact .pick_t (by assumption) (by assumption)
    | exact .pick_f (by assumption) (by assumption)
    | exact .new
    | exact .box (by assumption) (by assumption)
    | exact .bld (by assumption)
    | exact .bldS (by assumption) (Nat.eq_of_beq_eq_true (by assumption))
    | exact .ld1 (by assumption) (by assumption) (by assumption)
    | exact .ldn (by assumption) (by assumption) (by assumption)
    | exact .st (by assumption) (by assumption) (by assumption) (Nat.eq_of_beq_eq_true (by assumption)) (by assumption) (by assumption)
    | exact .nilck (by assumption)
    | exact .nilckp (by assumption)
    | exact .nilcke (by assumption)
    | exact .bin (by assumption) (by assumption) (by assumption)
    | exact .un (by assumption) (by assumption)
    | exact .cvI (by assumption)
    | exact .cvId (by assumption)
    | exact .fa (by assumption)
    | exact .fap (by assumption)
    | exact .fae (by assumption)
    | exact .fld1 (by assumption) (by assumption)
    | exact .fldn (by assumption) (by assumption)
    | exact .ext (by assumption) (by assumption)
    | exact .len (by assumption)
    | exact .lenO (by assumption)
    | exact .lenA (by assumption)
    | exact .lenStr (by assumption)
    | exact .min (by assumption) (by assumption)
    | exact .max (by assumption) (by assumption)
def stackQ (P : Program) (base n k : Nat) : List Fr → QX → QX
  | [], Q => Q
  | .seq b :: K, Q => seqQ P base n k b (stackQ P base n k K Q)
  | .block id :: K, Q => blockQ id (stackQ P base n k K Q)
  | .loop c :: K, Q => loopQ P base n k c (stackQ P base n k K Q)
structure M (P : Program) (base n k : Nat) (f : Fo) (K : List Fr) (e : Env) (h : HS) (Q : QX) : Prop where
  run : match f with
    | .ops l => XR P base n k l e h (stackQ P base n k K Q)
    | .code c => X P base n k c e h (stackQ P base n k K Q)
    | .out x => stackQ P base n k K Q x e h
theorem M.code {c : LC} (hx : M P base n k (.code c) K e h Q) : X P base n k c e h (stackQ P base n k K Q) := hx.run
theorem M.start {c : LC} (hx : M P base n k (.code c) [] e h Q) : X P base n k c e h Q := hx.run
theorem M.round {c : LC} (hx : M P base n k (.code c) [.loop c] e h Q) : XH P base n k c e h Q := XH.round hx.run
theorem M.q {x : Ex} (hx : M P base n k (.out x) K e h Q) : stackQ P base n k K Q x e h := hx.run
theorem M.loop {c : LC} (hx : XH P base n k c e h (stackQ P base n k K Q)) : M P base n k (.code (.loop c)) K e h Q := ⟨X.loop hx⟩
theorem M.again {c : LC} (hx : XH P base n k c e h (stackQ P base n k K Q)) : M P base n k (.out .normal) (.loop c :: K) e h Q := ⟨hx⟩
theorem M.done {x : Ex} (hx : Q x e h) : M P base n k (.out x) [] e h Q := ⟨hx⟩
theorem M.ret (hx : M P base n k (.out .ret) K e h Q) : M P base n k (.code .ret) K e h Q := ⟨X.ret hx.run⟩
theorem M.exit {id : Nat} (hx : M P base n k (.out (.exit id)) K e h Q) : M P base n k (.code (.exit id)) K e h Q := ⟨X.exit hx.run⟩
theorem M.op {g : Option (Nat × Bool)} {d : Option Nat} {lk : LK} {l : List LOp} {v : XV} {h' : HS} (hg : GOK e g) (ho : SOp P n lk e h v h') (hx : M P base n k (.ops l) K (push d v e) h' Q) : M P base n k (.ops (⟨g, d, lk⟩ :: l)) K e h Q := ⟨R.op hg ho hx.run⟩
theorem M.condB {x : LX} {a b : LC} {t : Bool} (hx : xev e x = some (.c (.p (.bs t)))) (ht : t = true → M P base n k (.code a) K e h Q) (hf : t = false → M P base n k (.code b) K e h Q) : M P base n k (.code (.cond x a b)) K e h Q := ⟨X.cond hx (fun h => (ht h).run) (fun h => (hf h).run)⟩
theorem M.cond {x : LX} {a b : LC} {p : Prop} [Decidable p] (hx : xev e x = some (.c (.p (.bs (decide p))))) (ht : p → M P base n k (.code a) K e h Q) (hf : ¬ p → M P base n k (.code b) K e h Q) : M P base n k (.code (.cond x a b)) K e h Q := ⟨X.cond_d hx (fun h => (ht h).run) (fun h => (hf h).run)⟩
theorem M.condN {x : LX} {a b : LC} {p : Prop} [Decidable p] (hx : xev e x = some (.c (.p (.bs (!decide p))))) (ht : ¬ p → M P base n k (.code a) K e h Q) (hf : p → M P base n k (.code b) K e h Q) : M P base n k (.code (.cond x a b)) K e h Q := ⟨X.cond_n hx (fun h => (ht h).run) (fun h => (hf h).run)⟩
theorem M.ren {f : Fo} {e' : Env} {h' : HS} (ρ : List (Nat × Nat)) (hx : M P base n k f K e' h' Q) (hf : match f with | .out _ => False | _ => True) (hρ : rhoOK ρ k h'.next = true) (he : EnvOK (look ρ) e e') (hh : HeapOK (look ρ) h h'.l) : M P base n k f K e h Q := by
  cases f with
  | ops l => exact ⟨XR.ren ρ hx.run hρ he hh⟩
  | code c => exact ⟨X.ren ρ hx.run hρ he hh⟩
  | out x => exact hf.elim
theorem M.freeze {i b s m : Nat} {el : List PC} {c : Option Nat} {q : LC} (hi : look e i = some (.c (.sl b 0 m s c))) (hb : h.get b = some (.els s el)) (hm : m = el.length) (hx : M P base n k (.code q) K ((i, .c (.p (.tz false s el c))) :: e) (h.put b none) Q) : M P base n k (.code q) K e h Q := ⟨X.freeze hi hb hm hx.run⟩
theorem M.freezeN {i b s m : Nat} {el : List PC} {c : Option Nat} {q : LC} (hi : look e i = some (.c (.sl b 0 m s c))) (hb : h.get b = some (.els s el)) (hm : m = el.length) (hx : M P base n k (.code q) K ((i, .c (.p (.tz false s el none))) :: e) (h.put b none) Q) : M P base n k (.code q) K e h Q := ⟨X.freezeN hi hb hm hx.run⟩
theorem M.freezeR {b0 o b s m : Nat} {el : List PC} {c : Option Nat} {r r' : List XC} {q : LC} (h0 : h.get b0 = some (.row r true)) (hne : Nat.beq b b0 = false) (hi : getN r o 1 = some [.sl b 0 m s c]) (hr' : setN r o [.p (.tz false s el c)] = some r') (hb : h.get b = some (.els s el)) (hm : m = el.length)
    (hx : M P base n k (.code q) K e ((h.put b none).put b0 (some (.row r' true))) Q) : M P base n k (.code q) K e h Q := ⟨X.freezeR h0 hne hi hr' hb hm hx.run⟩
theorem go_ok : ∀ (m : Nat) {f f' : Fo} {K K' : List Fr} {e e' : Env} {h h' : HS}, go m f K e h = .st f' K' e' h' → M P base n k f' K' e' h' Q → M P base n k f K e h Q
  | 0, f, f', K, K', e, e', h, h', hr, hx => by
    simp only [go, St.st.injEq] at hr
    obtain ⟨rfl, rfl, rfl, rfl⟩ := hr
    exact hx
  | m + 1, f, f', K, K', e, e', h, h', hr, hx => by
    have stop : St.st f K e h = .st f' K' e' h' → M P base n k f K e h Q := fun hr => by
      simp only [St.st.injEq] at hr
      obtain ⟨rfl, rfl, rfl, rfl⟩ := hr
      exact hx
    unfold go at hr
    split at hr
    · exact ⟨XR.nil (go_ok m hr hx).run⟩
    · split at hr
      · rename_i hs
        exact .op trivial (stepX_ok hs) (go_ok m hr hx)
      · exact stop hr
    · split at hr
      · rename_i hs
        exact .op trivial (stepX_ok hs) (go_ok m hr hx)
      · exact stop hr
    · split at hr
      · split at hr
        · rename_i hl _ _ _ hs
          exact .op hl (stepX_ok hs) (go_ok m hr hx)
        · exact stop hr
      · split at hr
        · rename_i hl _ _ _ hs
          exact .op hl (stepX_ok hs) (go_ok m hr hx)
        · exact stop hr
      · rename_i hl
        exact ⟨XR.opN hl rfl (go_ok m hr hx).run⟩
      · rename_i hl
        exact ⟨XR.opN hl rfl (go_ok m hr hx).run⟩
      · rename_i hl
        exact ⟨XR.opU hl (go_ok m hr hx).run⟩
      · exact stop hr
    · exact ⟨X.seq (go_ok m hr hx).run⟩
    · exact ⟨X.reg (go_ok m hr hx).run⟩
    · exact ⟨X.skip (go_ok m hr hx).run⟩
    · exact ⟨X.block (go_ok m hr hx).run⟩
    · split at hr
      · rename_i hl; exact ⟨X.cond_t hl (go_ok m hr hx).run⟩
      · rename_i hl; exact ⟨X.cond_f hl (go_ok m hr hx).run⟩
      · exact stop hr
    · split at hr
      · exact ⟨(go_ok m hr hx).run⟩
      · exact ⟨(go_ok m hr hx).run⟩
      · exact stop hr
    · split at hr
      · rename_i fr K1
        have := (go_ok m hr hx).run
        cases fr <;> exact ⟨this⟩
      · exact stop hr
    · split at hr
      · rename_i id K1
        split at hr
        · rename_i hj
          have hj := Nat.eq_of_beq_eq_true hj
          subst hj
          exact ⟨blockQ.hit (go_ok m hr hx).run⟩
        · rename_i hj
          exact ⟨blockQ.miss hj (go_ok m hr hx).run⟩
      · rename_i fr K1 hne
        have := (go_ok m hr hx).run
        cases fr with
        | seq b => exact ⟨this⟩
        | block id => exact absurd rfl (hne id)
        | loop c => exact ⟨this⟩
      · exact stop hr
    · exact stop hr
theorem M.go {f f' : Fo} {K' : List Fr} {e' : Env} {h' : HS} (hr : go 1000 f K e h = .st f' K' e' h') (hx : M P base n k f' K' e' h' Q) : M P base n k f K e h Q := go_ok 1000 hr hx
theorem XR.forget {l : List LOp} {h' : HS} (hs : ∀ b o, h'.get b = some o → h.get b = some o) (hn : h'.next = h.next) (hx : XR P base n k l e h' Q) : XR P base n k l e h Q := ⟨fun ops lo hl φ a w ht hr R hR => by
  obtain ⟨g1, g2⟩ := hr.forget (h' := h'.sh) (Nat.le_of_eq hn.symm) (fun b q hb => by
    rw [HS.get_sh] at hb ⊢
    cases ho : h'.get b with
    | none => simp [ho] at hb
    | some o => rw [hs b o ho]; rw [ho] at hb; exact hb)
  exact hx.run ops lo hl φ a w ht g1 R fun ex a' w' hp => hR _ _ _ (hp.of (Mo.of g2))⟩
theorem M.forget {l : List LOp} {h' : HS} (hs : ∀ b o, h'.get b = some o → h.get b = some o) (hn : h'.next = h.next) (hx : M P base n k (.ops l) K e h' Q) : M P base n k (.ops l) K e h Q := ⟨XR.forget hs hn hx.run⟩
theorem get_cons {p : Nat × Option XO} {l : List (Nat × Option XO)} {m b : Nat} : HS.get ⟨p :: l, m⟩ b = bif Nat.beq p.1 b then p.2 else HS.get ⟨l, m⟩ b := by
  simp only [HS.get, look_cons]
  cases Nat.beq p.1 b
  · rfl
  · simp only [cond_true]
    cases p.2 <;> rfl
theorem M.acc {g : Option (Nat × Bool)} {d : Option Nat} {s bytes b : Nat} {x y : LX} {v : XC} {ex el : List PC} {l : List LOp} (hg : GOK e g) (hx : xev e x = some (accV b s ex)) (hb : look h.l b = some (accO s ex)) (hy : xev e y = some (.c v)) (hel : ElsX h s v el) (h0 : el ≠ []) (hc : (ex.length + el.length) * bytes ≤ 140737488355328)
    (hm : M P base n k (.ops l) K (push d (accV h.next s (ex ++ el)) e) ⟨(h.next, accO s (ex ++ el)) :: (b, none) :: h.l, h.next + 1⟩ Q) : M P base n k (.ops (⟨g, d, .app s bytes x y⟩ :: l)) K e h Q := by
  cases ex with
  | nil =>
    have ho : accO s ([] ++ el) = some (.els s el) := by cases el <;> first | exact absurd rfl h0 | rfl
    rw [ho] at hm
    refine M.op hg (SOp.appA0 hx hy hel h0 (by simpa using hc)) (M.forget (h' := ⟨(h.next, some (.els s el)) :: (b, none) :: h.l, h.next + 1⟩) (fun c o hco => ?_) rfl hm)
    rw [get_cons] at hco
    show HS.get ⟨(h.next, some (.els s el)) :: h.l, h.next + 1⟩ c = some o
    rw [get_cons]
    cases hcb : Nat.beq (h.next, some (XO.els s el)).1 c
    · rw [hcb, cond_false, get_cons] at hco
      cases hbc : Nat.beq (b, (none : Option XO)).1 c
      · rw [hbc] at hco; exact hco
      · rw [hbc] at hco; cases hco
    · rw [hcb] at hco; exact hco
  | cons x0 ex =>
    have hb' : h.get b = some (.els s (x0 :: ex)) := by simp only [HS.get, hb, accO]
    exact M.op hg (SOp.appA hx hb' hy hel h0 hc) hm
theorem put_TR {i : Nat} {v v' : XV} (hi : look e i = some v) (hw : Wk v v') {φ : Ph} {a : Act} (ht : TR φ (toSF n e) a) : TR φ (toSF n ((i, v') :: e)) a := ⟨ht.n, fun j u hu => by
  rw [get_toSF, look_cons] at hu
  by_cases hj : Nat.beq i j = true
  · simp only [hj, cond_true, Option.map_some, Option.some.injEq] at hu
    have := Nat.eq_of_beq_eq_true hj
    subst this hu
    obtain ⟨g1, g2⟩ := ht.at_ i v.sv (by rw [get_toSF, hi]; rfl)
    exact ⟨g1, hw φ _ g2⟩
  · rw [Bool.eq_false_iff.2 hj, cond_false] at hu
    exact ht.at_ j u (by rw [get_toSF]; exact hu)⟩
theorem M.wk {i : Nat} {v v' : XV} {q : LC} (hi : look e i = some v) (hw : Wk v v') (hx : M P base n k (.code q) K ((i, v') :: e) h Q) : M P base n k (.code q) K e h Q := ⟨⟨fun code hl φ a w ht hr => hx.run.run code hl φ a w (put_TR hi hw ht) hr⟩⟩
theorem M.wkO {i : Nat} {v v' : XV} {l : List LOp} (hi : look e i = some v) (hw : Wk v v') (hx : M P base n k (.ops l) K ((i, v') :: e) h Q) : M P base n k (.ops l) K e h Q := ⟨⟨fun ops lo hl φ a w ht hr => hx.run.run ops lo hl φ a w (put_TR hi hw ht) hr⟩⟩
theorem M.forgetC {c : LC} {h' : HS} (hs : ∀ b o, h'.get b = some o → h.get b = some o) (hn : h'.next = h.next) (hx : M P base n k (.code c) K e h' Q) : M P base n k (.code c) K e h Q := ⟨⟨fun code hl φ a w ht hr => by
  obtain ⟨g1, g2⟩ := hr.forget (h' := h'.sh) (Nat.le_of_eq hn.symm) (fun b q hb => by
    rw [HS.get_sh] at hb ⊢
    cases ho : h'.get b with
    | none => simp [ho] at hb
    | some o => rw [hs b o ho]; rw [ho] at hb; exact hb)
  exact wp_mono (hx.run.run code hl φ a w ht g1) fun ex a' w' hp => hp.of (Mo.of g2)⟩⟩
theorem M.envC {e' : Env} {c : LC} (he : ∀ j v, look e' j = some v → look e j = some v) (hx : M P base n k (.code c) K e' h Q) : M P base n k (.code c) K e h Q := ⟨⟨fun code hl φ a w ht hr => hx.run.run code hl φ a w ⟨ht.n, fun j u hu => by
  rw [get_toSF] at hu
  cases hj : look e' j with
  | none => simp [hj] at hu
  | some v => exact ht.at_ j u (by rw [get_toSF, he j v hj]; rw [hj] at hu; exact hu)⟩ hr⟩⟩
theorem M.accF {i b s : Nat} {el : List PC} {c : LC} (hi : look e i = some (accV b s el)) (hb : look h.l b = some (accO s el)) (hx : M P base n k (.code c) K ((i, .c (.p (.tz true s el none))) :: e) (h.put b none) Q) : M P base n k (.code c) K e h Q := by
  cases el with
  | nil =>
    refine M.forgetC (h' := h.put b none) (fun d o hd => ?_) rfl (M.wk hi (v' := .c (.p (.tz true s [] none))) (Wk.of rfl) hx)
    have h1 : HS.get ⟨(b, none) :: h.l, h.next⟩ d = some o := hd
    rw [get_cons] at h1
    cases hbd : Nat.beq (b, (none : Option XO)).1 d
    · rw [hbd] at h1; exact h1
    · rw [hbd] at h1; cases h1
  | cons x l =>
    refine M.wk hi (v' := .c (.sl b 0 (x :: l).length s none)) (Wk.of rfl) (M.freezeN (i := i) (b := b) (s := s) (m := (x :: l).length) (el := x :: l) (c := none) (by rw [look_cons]; simp) (by simp only [HS.get, hb, accO]) rfl (M.wk (i := i) (v := .c (.p (.tz false s (x :: l) none))) (v' := .c (.p (.tz true s (x :: l) none))) (by rw [look_cons]; simp) (Wk.some (by simp)) (M.envC (fun j v hj => ?_) hx)))
    rw [look_cons] at hj ⊢
    cases hb : Nat.beq i j
    · rw [hb] at hj
      rw [look_cons, look_cons]
      simp only [hb, cond_false]
      exact hj
    · rw [hb] at hj; exact hj
theorem accV_ren {g : Nat → Option Nat} {b b' s : Nat} {el : List PC} (h : g b = some b') : (accV b s el).ren g = some (accV b' s el) := by simp only [accV, XV.ren, XC.ren, h]
theorem HeapOK.acc {g : Nat → Option Nat} {h : HS} {b b' s : Nat} {el : List PC} {r : List (Nat × Option XO)} (hg : g b = some b') (hl : look h.l b' = some (accO s el)) (hr : HeapOK g h r) : HeapOK g h ((b, accO s el) :: r) := by
  cases el with
  | nil => exact hr
  | cons x l => exact ⟨⟨b', _, _, hg, rfl, by simp only [HS.get, hl, accO], WkO.rfl⟩, hr⟩
theorem M.use {g : Option (Nat × Bool)} {d : Option Nat} {f : FuncId} {as : List LX} {l : List LOp} {vs args : List XV} {r r2 : XV} {hs hs' : HS} (hg : GOK e g) (C : CallS P base f args hs r hs') (ρ : List (Nat × Nat)) (ha : xevs e as = some vs) (hv : XV.rens (look ρ) args = some vs) (hρ : rhoIn ρ hs h.next = true) (hh : HeapOK (look ρ) h hs.l)
    {l2 : List (Nat × Option XO)} (hr2 : r.ren (gOf ρ hs.next h.next) = some r2) (hl2 : frameL (gOf ρ hs.next h.next) hs'.l = some l2) (hx : M P base n k (.ops l) K (push d r2 e) ⟨appL l2 (appL (drops ρ) h.l), h.next + (hs'.next - hs.next)⟩ Q) :
    M P base n k (.ops (⟨g, d, .call f as⟩ :: l)) K e h Q :=
  ⟨XR.step (oneCall f (vs.map XV.sv) h.sh r2.sv _) (oneCall_ok (C.use ρ hρ hv hh hr2 hl2)) (fun ops o h1 => hg.wanted ops o h1) (fun o hl => step_call ha (by simp [oneCall]) o hl) hx.run⟩
theorem M.use0 {g : Option (Nat × Bool)} {d : Option Nat} {f : FuncId} {as : List LX} {l : List LOp} {vs args : List XV} {r : XV} (hg : GOK e g) (C : CallS P base f args ⟨[], 0⟩ r ⟨[], 0⟩) (ha : xevs e as = some vs) (hv : XV.rens (look []) args = some vs) (hr : r.ren (gOf [] 0 h.next) = some r)
    (hx : M P base n k (.ops l) K (push d r e) h Q) : M P base n k (.ops (⟨g, d, .call f as⟩ :: l)) K e h Q :=
  M.use hg C [] ha hv rfl trivial hr rfl hx
theorem XR.dec {s : Nat} {b : Bool} {l : List LOp} (hg : look e s = some (.c (.p (.bs b)))) (ht : b = true → XR P base n k l ((s, .c (.p (.bool true))) :: e) h Q) (hf : b = false → XR P base n k l ((s, .c (.p (.bool false))) :: e) h Q) : XR P base n k l e h Q := by
  have key : ∀ t, b = t → XR P base n k l ((s, .c (.p (.bool t))) :: e) h Q → XR P base n k l e h Q := fun t hb hx => ⟨fun ops lo hl φ a w ht hr R hR => by
    subst hb
    refine hx.run ops lo hl φ a w ⟨ht.n, fun i v hv => ?_⟩ hr R hR
    rw [get_toSF, look_cons] at hv
    by_cases hi : Nat.beq s i = true
    · rw [hi] at hv
      simp only [cond_true, Option.map_some, Option.some.injEq] at hv
      have := Nat.eq_of_beq_eq_true hi
      subst this hv
      have := ht.at_ s (XV.sv (.c (.p (.bs b)))) (by rw [get_toSF, hg]; rfl)
      exact this
    · rw [Bool.eq_false_iff.2 hi] at hv
      exact ht.at_ i v (by rw [get_toSF]; exact hv)⟩
  cases b with
  | true => exact key _ rfl (ht rfl)
  | false => exact key _ rfl (hf rfl)
theorem M.decB {s : Nat} {b g : Bool} {d : Option Nat} {lk : LK} {l : List LOp} (hg : look e s = some (.c (.p (.bs b)))) (ht : b = true → M P base n k (.ops (⟨some (s, g), d, lk⟩ :: l)) K ((s, .c (.p (.bool true))) :: e) h Q) (hf : b = false → M P base n k (.ops (⟨some (s, g), d, lk⟩ :: l)) K ((s, .c (.p (.bool false))) :: e) h Q) : M P base n k (.ops (⟨some (s, g), d, lk⟩ :: l)) K e h Q :=
  ⟨XR.dec hg (fun h => (ht h).run) (fun h => (hf h).run)⟩
theorem M.dec {s : Nat} {p : Prop} [Decidable p] {g : Bool} {d : Option Nat} {lk : LK} {l : List LOp} (hg : look e s = some (.c (.p (.bs (decide p))))) (ht : p → M P base n k (.ops (⟨some (s, g), d, lk⟩ :: l)) K ((s, .c (.p (.bool true))) :: e) h Q) (hf : ¬ p → M P base n k (.ops (⟨some (s, g), d, lk⟩ :: l)) K ((s, .c (.p (.bool false))) :: e) h Q) : M P base n k (.ops (⟨some (s, g), d, lk⟩ :: l)) K e h Q :=
  M.decB hg (fun h => ht (of_decide_eq_true h)) (fun h => hf (of_decide_eq_false h))
theorem M.decN {s : Nat} {p : Prop} [Decidable p] {g : Bool} {d : Option Nat} {lk : LK} {l : List LOp} (hg : look e s = some (.c (.p (.bs (!decide p))))) (ht : ¬ p → M P base n k (.ops (⟨some (s, g), d, lk⟩ :: l)) K ((s, .c (.p (.bool true))) :: e) h Q) (hf : p → M P base n k (.ops (⟨some (s, g), d, lk⟩ :: l)) K ((s, .c (.p (.bool false))) :: e) h Q) : M P base n k (.ops (⟨some (s, g), d, lk⟩ :: l)) K e h Q :=
  M.decB hg (fun h => ht (by simpa using h)) (fun h => hf (by simpa using h))
def outQ (k : Nat) (e' : Env) (h' : HS) : QX := fun x e h => x = .normal ∧ ∃ ρ, rhoOK ρ k h'.next = true ∧ EnvOK (look ρ) e e' ∧ HeapOK (look ρ) h h'.l
theorem M.mid {l : List LOp} (e' : Env) (h' : HS) (hx : M P base n k (.ops l) [] e h (outQ k e' h')) (hq : M P base n k (.out .normal) K e' h' Q) : M P base n k (.ops l) K e h Q := ⟨⟨fun ops lo hl φ a w ht hr R hR =>
  hx.run.run ops lo hl φ a w ht hr R fun ex a' w' ⟨x, e2, h2, φ', ⟨p0, ρ, p1, p3, p4⟩, p2, p5, p6, p7, p8⟩ => hR _ _ _ (by
    subst p0
    obtain ⟨g1, g2, g3⟩ := ren_state (k := k) p1 p3 p4 p5 p7
    exact ⟨.normal, e', h', _, hq.run, p2, g1, p6, g2, p8.trans g3⟩)⟩⟩
theorem M.end {e' : Env} {h' : HS} (ρ : List (Nat × Nat)) (hρ : rhoOK ρ k h'.next = true) (he : EnvOK (look ρ) e e') (hh : HeapOK (look ρ) h h'.l) : M P base n k (.out .normal) [] e h (outQ k e' h') := ⟨rfl, ρ, hρ, he, hh⟩
end
end Go.Proofs.Ytjlfojgacnphmaa.Sym

namespace Go.Proofs.Ytjlfojgacnphmaa.Sim
open Go Go.RowKit
set_option linter.unusedSimpArgs false
set_option linter.unusedVariables false
variable {P : Program}

def noMem : SH := ⟨.e, 0⟩
theorem HR.none (w : World) : HR w.heap.size ⟨fun _ => Option.none, fun _ => Option.none⟩ noMem w :=
  ⟨(fun b L h => by cases h), Nat.le_refl _, (fun b q h => by cases h), (fun m o h => by cases h), (fun b b' q L L' h => by obtain ⟨q0, h1, _⟩ := h; cases h1)⟩
end Go.Proofs.Ytjlfojgacnphmaa.Sim

namespace Go.Proofs.Ytjlfojgacnphmaa.Sym
open Go Go.RowKit Go.Proofs.Ytjlfojgacnphmaa.Sim
set_option linter.unusedSimpArgs false
set_option linter.unusedVariables false
structure Rec where
  f : FuncId
  args : List SV
  h : SH
  r : SV
  h' : SH
open Classical in
noncomputable def orc : List Rec → FuncId → List SV → SH → Option (SV × SH)
  | [], _, _, _ => none
  | c :: l, f, args, h => if f = c.f ∧ args = c.args ∧ h = c.h then some (c.r, c.h') else orc l f args h
def Fnl (cs : List Rec) : Prop := ∀ c ∈ cs, orc cs c.f c.args c.h = some (c.r, c.h')
theorem Fnl.nodup : ∀ {cs : List Rec}, nodupB (cs.map (·.f)) = true → Fnl cs
  | [], _, c, hc => by simp at hc
  | c0 :: l, h, c, hc => by
    simp only [List.map_cons, nodupB, Bool.and_eq_true, Bool.not_eq_true', List.any_eq_false] at h
    rcases List.mem_cons.1 hc with rfl | hc
    · simp [orc]
    · have h1 := h.1 c.f (List.mem_map.2 ⟨c, hc, rfl⟩)
      simp only [orc]
      rw [if_neg (fun e => by rw [e.1] at h1; simp at h1)]
      exact Fnl.nodup h.2 c hc
theorem Fnl.two {c d : Rec} (h : (d.f = c.f ∧ d.args = c.args ∧ d.h = c.h) → (d.r = c.r ∧ d.h' = c.h')) : Fnl [c, d] := by
  intro x hx
  rcases List.mem_cons.1 hx with rfl | hx
  · simp [orc]
  · rcases List.mem_cons.1 hx with rfl | hx
    · simp only [orc]
      split
      · rename_i e; obtain ⟨h1, h2⟩ := h e; rw [h1, h2]
      · simp
    · cases hx
section
variable {P : Program} {base n k : Nat} {e : Env} {h : HS} {Q : QX} {K : List Fr} {id : Nat} {cs : List Rec}
theorem orc_ok : ∀ {cs : List Rec}, (∀ c ∈ cs, Call P base c.f c.args c.h c.r c.h') → CallOK P base (orc cs)
  | [], _, f, args, h, v, h', hs => by cases hs
  | c :: l, hc, f, args, h, v, h', hs => by
    simp only [orc] at hs
    split at hs
    · rename_i he
      obtain ⟨rfl, rfl, rfl⟩ := he
      simp only [Option.some.injEq, Prod.mk.injEq] at hs
      obtain ⟨rfl, rfl⟩ := hs
      have := hc c (List.mem_cons_self ..)
      exact ⟨this.fn, this.run⟩
    · exact orc_ok (fun c hx => hc c (List.mem_cons_of_mem _ hx)) f args h v h' hs
def Pre (P : Program) (n : Nat) (l0 : List LOp) (e0 : Env) (h0 : HS) (l : List LOp) (e : Env) (h : HS) (cs : List Rec) : Prop :=
  ∀ ops lo0, lowerL P n ops lo0 = some l0 → ∃ lo, lowerL P n ops lo = some l ∧ ∀ call : FuncId → List SV → SH → Option (SV × SH), (∀ c ∈ cs, call c.f c.args c.h = some (c.r, c.h')) → stepsS P call ops lo0 (toSF n e0) h0.sh = stepsS P call ops lo (toSF n e) h.sh
structure MD (P : Program) (base n k : Nat) (l : List LOp) (K : List Fr) (e : Env) (h : HS) (cs : List Rec) (Q : QX) : Prop where
  run : ∀ id l0 e0 h0, Pre P n l0 e0 h0 l e h cs → (∀ c ∈ cs, Call P base c.f c.args c.h c.r c.h') → M P base n k (.code (.regD id l0)) K e0 h0 Q
theorem M.regD {l : List LOp} (hx : MD P base n k l K e h [] Q) : M P base n k (.code (.regD id l)) K e h Q :=
  hx.run id l e h (fun ops lo hl => ⟨lo, hl, fun _ _ => rfl⟩) (fun c hc => by cases hc)
theorem MD.nil (hmix : P.follows .mixedOrders = true) (hf : Fnl cs) (hx : M P base n k (.out .normal) K e h Q) : MD P base n k [] K e h cs Q := ⟨fun id l0 e0 h0 hp hc => ⟨⟨fun code hl φ a w ht hr => by
  obtain ⟨ops, rfl, hl1, ho, hfl⟩ := lowerC_regD hl
  obtain ⟨lo, hlo, hs⟩ := hp ops ops.toList hl1
  obtain rfl := lowerL_nil hlo
  have h1 := hs (orc cs) hf
  simp only [stepsS] at h1
  have h2 : stepsD P true (orc cs) ops (toSF n e0) h0.sh = some (.normal, toSF n e, h.sh) := by
    simp only [stepsD, ho, if_true, hfl, h1]
  refine wp_mono (reg_ok hmix (orc cs) (orc_ok hc) id ops true _ _ _ _ _ h2 φ a w ht hr) fun ex a' w' hp => ?_
  obtain ⟨φ', rfl, p2, p3, p4, p5⟩ := hp
  exact ⟨.normal, e, h, φ', hx.run, rfl, p2, p3, p4, .of p5⟩⟩⟩⟩
theorem Pre.step {l0 : List LOp} {e0 : Env} {h0 : HS} {g : Option (Nat × Bool)} {d : Option Nat} {lk : LK} {l : List LOp} {v : XV} {h' : HS} {cs' : List Rec} (hsub : ∀ c ∈ cs, c ∈ cs') (hp : Pre P n l0 e0 h0 (⟨g, d, lk⟩ :: l) e h cs) (hg : GOK e g)
    (ho : ∀ (call : FuncId → List SV → SH → Option (SV × SH)) (o : Oper), (∀ c ∈ cs', call c.f c.args c.h = some (c.r, c.h')) → Lw P o.op lk → Sim.step P call (toSF n e) h.sh o = some (v.sv, h'.sh)) : Pre P n l0 e0 h0 l (push d v e) h' cs' := fun ops lo0 hl => by
  obtain ⟨lo, hlo, hs⟩ := hp ops lo0 hl
  obtain ⟨o, r, rfl, h1, h2⟩ := lowerL_cons hlo
  obtain ⟨h3, h4, h5, h6⟩ := lowerOp_eq h1
  refine ⟨r, h2, fun call hcall => ?_⟩
  rw [hs call fun c hc => hcall c (hsub c hc)]
  simp only [stepsS, hg.wanted ops o h4, ho call o hcall h5]
  rw [push_sf h3, h6]
theorem MD.op {g : Option (Nat × Bool)} {d : Option Nat} {lk : LK} {l : List LOp} {v : XV} {h' : HS} (hg : GOK e g) (ho : SOp P n lk e h v h') (hx : MD P base n k l K (push d v e) h' cs Q) : MD P base n k (⟨g, d, lk⟩ :: l) K e h cs Q := ⟨fun id l0 e0 h0 hp hc =>
  hx.run id l0 e0 h0 (hp.step (fun c hc => hc) hg fun call o _ hl => ho.run o call hl) hc⟩
theorem MD.out {s : Nat} {g : Bool} {d : Option Nat} {lk : LK} {l : List LOp} (hw : ∀ ops o, lowG ops o.guard = some (some (s, g)) → wantedS ops (toSF n e) o = some false) (hx : MD P base n k l K (push d (.tup []) e) h cs Q) : MD P base n k (⟨some (s, g), d, lk⟩ :: l) K e h cs Q := ⟨fun id l0 e0 h0 hp hc =>
  hx.run id l0 e0 h0 (fun ops lo0 hl => by
    obtain ⟨lo, hlo, hs⟩ := hp ops lo0 hl
    obtain ⟨o, r, rfl, h1, h2⟩ := lowerL_cons hlo
    obtain ⟨h3, h4, h5, h6⟩ := lowerOp_eq h1
    refine ⟨r, h2, fun call hcall => ?_⟩
    rw [hs call hcall]
    simp only [stepsS, hw ops o h4]
    rw [show (SV.tup []) = (XV.tup []).sv by simp [XV.sv, XV.svs], push_sf h3, h6]) hc⟩
theorem MD.use {g : Option (Nat × Bool)} {d : Option Nat} {f : FuncId} {as : List LX} {l : List LOp} {vs args : List XV} {r r2 : XV} {hs hs' : HS} (hg : GOK e g) (C : CallS P base f args hs r hs') (ρ : List (Nat × Nat)) (ha : xevs e as = some vs) (hv : XV.rens (look ρ) args = some vs) (hρ : rhoIn ρ hs h.next = true) (hh : HeapOK (look ρ) h hs.l)
    {l2 : List (Nat × Option XO)} (hr2 : r.ren (gOf ρ hs.next h.next) = some r2) (hl2 : frameL (gOf ρ hs.next h.next) hs'.l = some l2)
    (hx : MD P base n k l K (push d r2 e) ⟨appL l2 (appL (drops ρ) h.l), h.next + (hs'.next - hs.next)⟩ (⟨f, vs.map XV.sv, h.sh, r2.sv, HS.sh ⟨appL l2 (appL (drops ρ) h.l), h.next + (hs'.next - hs.next)⟩⟩ :: cs) Q) :
    MD P base n k (⟨g, d, .call f as⟩ :: l) K e h cs Q := ⟨fun id l0 e0 h0 hp hc =>
  hx.run id l0 e0 h0 (hp.step (fun c hc => List.mem_cons_of_mem _ hc) hg fun call o hcall hl => step_call ha (hcall _ (List.mem_cons_self ..)) o hl) (fun c hx => by
    rcases List.mem_cons.1 hx with rfl | hx
    · exact C.use ρ hρ hv hh hr2 hl2
    · exact hc c hx)⟩
theorem MD.use0 {g : Option (Nat × Bool)} {d : Option Nat} {f : FuncId} {as : List LX} {l : List LOp} {vs args : List XV} {r : XV} (hg : GOK e g) (C : CallS P base f args ⟨[], 0⟩ r ⟨[], 0⟩) (ha : xevs e as = some vs) (hv : XV.rens (look []) args = some vs) (hr : r.ren (gOf [] 0 h.next) = some r)
    (hx : MD P base n k l K (push d r e) h (⟨f, vs.map XV.sv, h.sh, r.sv, h.sh⟩ :: cs) Q) : MD P base n k (⟨g, d, .call f as⟩ :: l) K e h cs Q :=
  MD.use hg C [] ha hv rfl trivial hr rfl hx
def goD : Nat → List LOp → Env → HS → St
  | 0, l, e, h => .st (.ops l) [] e h
  | _ + 1, [], e, h => .st (.ops []) [] e h
  | m + 1, ⟨none, some d, k⟩ :: l, e, h => match stepX k e h with
    | some (v, h') => goD m l ((d, v) :: e) h'
    | none => .st (.ops (⟨none, some d, k⟩ :: l)) [] e h
  | m + 1, ⟨none, none, k⟩ :: l, e, h => match stepX k e h with
    | some (_, h') => goD m l e h'
    | none => .st (.ops (⟨none, none, k⟩ :: l)) [] e h
  | m + 1, ⟨some (s, w), d, k⟩ :: l, e, h => match look e s, w with
    | some (.c (.p (.bool true))), true => match stepX k e h with
      | some (v, h') => goD m l (pushS d v e) h'
      | none => .st (.ops (⟨some (s, w), d, k⟩ :: l)) [] e h
    | some (.c (.p (.bool false))), false => match stepX k e h with
      | some (v, h') => goD m l (pushS d v e) h'
      | none => .st (.ops (⟨some (s, w), d, k⟩ :: l)) [] e h
    | some (.c (.p (.bool true))), false => goD m l (pushS d (.tup []) e) h
    | some (.c (.p (.bool false))), true => goD m l (pushS d (.tup []) e) h
    | some (.tup _), _ => goD m l (pushS d (.tup []) e) h
    | _, _ => .st (.ops (⟨some (s, w), d, k⟩ :: l)) [] e h
theorem goD_ok : ∀ (m : Nat) {l l' : List LOp} {e e' : Env} {h h' : HS}, goD m l e h = .st (.ops l') [] e' h' → MD P base n k l' K e' h' cs Q → MD P base n k l K e h cs Q
  | 0, l, l', e, e', h, h', hr, hx => by
    simp only [goD, St.st.injEq, Fo.ops.injEq] at hr
    obtain ⟨rfl, -, rfl, rfl⟩ := hr
    exact hx
  | m + 1, l, l', e, e', h, h', hr, hx => by
    have stop : St.st (.ops l) [] e h = .st (.ops l') [] e' h' → MD P base n k l K e h cs Q := fun hr => by
      simp only [St.st.injEq, Fo.ops.injEq] at hr
      obtain ⟨rfl, -, rfl, rfl⟩ := hr
      exact hx
    unfold goD at hr
    split at hr
    · rename_i heq; cases heq
    · exact stop hr
    · rename_i heq
      cases heq
      split at hr
      · rename_i hs
        exact .op trivial (stepX_ok hs) (goD_ok _ hr hx)
      · exact stop hr
    · rename_i heq
      cases heq
      split at hr
      · rename_i hs
        exact .op trivial (stepX_ok hs) (goD_ok _ hr hx)
      · exact stop hr
    · rename_i heq
      cases heq
      split at hr
      · split at hr
        · rename_i hl _ _ _ hs
          exact .op hl (stepX_ok hs) (goD_ok _ hr hx)
        · exact stop hr
      · split at hr
        · rename_i hl _ _ _ hs
          exact .op hl (stepX_ok hs) (goD_ok _ hr hx)
        · exact stop hr
      · rename_i hl
        exact .out (fun ops o hg' => by rw [wanted_of hg' hl]; rfl) (goD_ok _ hr hx)
      · rename_i hl
        exact .out (fun ops o hg' => by rw [wanted_of hg' hl]; rfl) (goD_ok _ hr hx)
      · rename_i hl
        exact .out (fun ops o hg' => by rw [wanted_of hg' hl]; simp [XV.sv]) (goD_ok _ hr hx)
      · exact stop hr
theorem MD.go {l l' : List LOp} {e' : Env} {h' : HS} (hr : goD 1000 l e h = .st (.ops l') [] e' h') (hx : MD P base n k l' K e' h' cs Q) : MD P base n k l K e h cs Q := goD_ok 1000 hr hx
theorem CallS.closed {m : Nat} {f : FuncId} (hmix : P.follows .mixedOrders = true) (hng : ∀ (f : FuncId) (fn : Func), P.funcs[f]? = some fn → (fn.name == "runtime.NumGoroutine") = false) (hc : isTrue (callF P m f [] noMem) = true) : CallS P base f [] ⟨[], 0⟩ (.c (.p (.bool true))) ⟨[], 0⟩ := by
  cases hq : callF P m f [] noMem with
  | none => rw [hq] at hc; cases hc
  | some r =>
    obtain ⟨v, h'⟩ := r
    rw [hq] at hc
    have hv : v = .c (.bool true) := by
      unfold Sim.isTrue at hc
      split at hc
      · rename_i e; cases e; rfl
      · cases hc
    subst hv
    have := calls_sound (base := base) (n := m) hmix hng f [] noMem _ h' hq
    refine ⟨this.1, fun φ args' w ha hr => ?_⟩
    cases args' with
    | cons _ _ => exact ha.elim
    | nil =>
      refine Calls.mono (this.2 φ [] w trivial hr) fun en w' hp => ?_
      obtain ⟨v', φ', rfl, h1, h2, h3⟩ := hp
      have hno : ∀ b q, (HS.sh ⟨[], 0⟩).get b = some q → False := fun b q hb => by rw [HS.get_sh] at hb; cases hb
      refine ⟨v', ⟨fun _ => none, φ'.fm⟩, rfl, h1, ⟨(fun b L hb => by cases hb), h2.lo, (fun b q hb => (hno b q hb).elim), (fun m o hm => ⟨(h2.froz m o hm).1, fun b L ⟨q, hb, _⟩ => (hno b q hb).elim⟩), (fun b b' q L L' ⟨q1, hb, _⟩ => (hno b q1 hb).elim)⟩, ⟨fun b L hb => absurd hb (Nat.not_lt_zero _), fun m o hm => h3.le.fm m o hm, h3.os, h3.tape, h3.output, h3.size, fun q hq hn => h3.keep q hq fun b L ⟨q1, hb, _⟩ => (hno b q1 hb).elim, fun b L ⟨q, hb, _⟩ => (hno b q hb).elim, fun b q L hb => (hno b q hb).elim, fun m o hm => ?_⟩⟩
      rcases h3.fm m o hm with h4 | h4 | ⟨b, L, ⟨q, hb, _⟩, _⟩
      · exact .inl h4
      · exact .inr (.inl h4)
      · exact (hno b q hb).elim
/-! Regions in which something that reads stands in no order with what changes memory. -/
structure TX where
  k : LK
  e : Env
  h : HS
  v : XV
  w : Bool
def TX.tr (n : Nat) (x : TX) : Tr := ⟨toSF n x.e, x.h.sh, x.v.sv, x.w⟩
def hAt : List TX → HS → Nat → HS
  | [], h, _ => h
  | x :: _, _, 0 => x.h
  | _ :: l, h, k + 1 => hAt l h k
def at? : List TX → Nat → Option TX
  | [], _ => none
  | x :: _, 0 => some x
  | _ :: l, k + 1 => at? l k
theorem at?_eq : ∀ (l : List TX) (i : Nat), at? l i = l[i]?
  | [], i => by simp [at?]
  | x :: l, 0 => rfl
  | x :: l, i + 1 => by simp [at?, at?_eq l i]
theorem hAt_eq {n : Nat} : ∀ (l : List TX) (h : HS) (k : Nat), heapAt (l.map (TX.tr n)) h.sh k = (hAt l h k).sh
  | [], h, k => by simp [heapAt, hAt]
  | x :: l, h, 0 => rfl
  | x :: l, h, k + 1 => by
    have := hAt_eq (n := n) l h k
    simpa [heapAt, hAt] using this
def StK (P : Program) (n : Nat) (l : List TX) (h : HS) (x : TX) : List Nat → Prop
  | [] => True
  | k :: r => SOp P n x.k x.e (hAt l h k) x.v (hAt l h k) ∧ StK P n l h x r
def StX (P : Program) (n : Nat) (l : List TX) (h : HS) : List (Nat × List Nat) → Prop
  | [] => True
  | (i, ks) :: r => (match at? l i with
    | some x => bif x.w then StK P n l h x ks else True
    | none => True) ∧ StX P n l h r
theorem StK.get {l : List TX} {h : HS} {x : TX} : ∀ {ks : List Nat}, StK P n l h x ks → ∀ k ∈ ks, SOp P n x.k x.e (hAt l h k) x.v (hAt l h k)
  | [], _, k, hk => by cases hk
  | k0 :: r, hs, k, hk => by
    rcases List.mem_cons.1 hk with rfl | hk
    · exact hs.1
    · exact StK.get hs.2 k hk
theorem StX.get {l : List TX} {h : HS} : ∀ {fl : List (Nat × List Nat)}, StX P n l h fl → ∀ i ks, (i, ks) ∈ fl → ∀ x, l[i]? = some x → x.w = true → ∀ k ∈ ks, SOp P n x.k x.e (hAt l h k) x.v (hAt l h k)
  | [], _, i, ks, hm, _, _, _, _, _ => by cases hm
  | (i0, ks0) :: r, hs, i, ks, hm, x, hx, hw, k, hk => by
    rcases List.mem_cons.1 hm with e | hm
    · obtain ⟨rfl, rfl⟩ := Prod.mk.inj e
      have h1 := hs.1
      rw [at?_eq, hx] at h1
      simp only [hw, cond_true] at h1
      exact h1.get k hk
    · exact StX.get hs.2 i ks hm x hx hw k hk
def PreF (P : Program) (n : Nat) (l0 : List LOp) (e0 : Env) (h0 : HS) (l : List LOp) (e : Env) (h : HS) (cs : List Rec) (tr : List TX) : Prop :=
  ∀ ops lo0, lowerL P n ops lo0 = some l0 → ∃ los lo, lo0 = los ++ lo ∧ lowerL P n ops lo = some l ∧ los.length = tr.length ∧ (∀ (i : Nat) (o : Oper) (x : TX), los[i]? = some o → tr[i]? = some x → x.w = true → Lw P o.op x.k) ∧
    ∀ call : FuncId → List SV → SH → Option (SV × SH), (∀ c ∈ cs, call c.f c.args c.h = some (c.r, c.h')) → traceS P call ops lo0 (toSF n e0) h0.sh = match traceS P call ops lo (toSF n e) h.sh with
      | some (r, t', h') => some (tr.map (TX.tr n) ++ r, t', h')
      | none => none
structure MG (P : Program) (base n k : Nat) (fl : List (Nat × List Nat)) (l : List LOp) (K : List Fr) (e : Env) (h : HS) (cs : List Rec) (tr : List TX) (Q : QX) : Prop where
  run : ∀ id l0 e0 h0, PreF P n l0 e0 h0 l e h cs tr → (∀ c ∈ cs, Call P base c.f c.args c.h c.r c.h') → M P base n k (.code (.regF id l0 fl)) K e0 h0 Q
variable {fl : List (Nat × List Nat)} {tr : List TX}
theorem M.regF0 {l : List LOp} (hx : MG P base n k fl l K e h [] [] Q) : M P base n k (.code (.regF id l fl)) K e h Q :=
  hx.run id l e h (fun ops lo hl => ⟨[], lo, rfl, hl, rfl, fun i o x h => by simp at h, fun call _ => by
    simp only [List.map_nil, List.nil_append]
    split
    · rename_i h; exact h
    · rename_i h; exact h⟩) (fun c hc => by cases hc)
theorem steady_ok (hmix : P.follows .mixedOrders = true) {call : FuncId → List SV → SH → Option (SV × SH)} (hc : CallOK P base call) {id : Nat} {ops : Array Oper} (hord : inOrder P ops (masks ops.toList []) ops.toList 0 [] = true) {l : List Tr} {t t1 : SF} {h h1 : SH} (htr : traceS P call ops ops.toList t h = some (l, t1, h1))
    (hsd : ∀ i ks, (i, ks) ∈ floats P ops → ∀ o, ops[i]? = some o → ∀ x, l[i]? = some x → x.w = true → ∀ k ∈ ks, ∃ h2, Sim.step P (fun _ _ _ => none) x.t (heapAt l h1 k) o = some (x.v, h2)) {φ : Ph} {a : Act} {w : World} (ht : TR φ t a) (hr : HR base φ h w) : (Code.region id ops true).wp P (Post base φ h w a.defers .normal t1 h1) a w := by
  have hO := ord_of hord
  obtain ⟨T, H, V, W, e1, e2, e3, e4, e5, e6⟩ := trace_text ops ops.toList _ _ _ _ _ htr
  simp only [Array.length_toList] at e3 e4 e5
  have e6' : ∀ i o, ops[i]? = some o → _ := fun i o ho => e6 i o (by simpa using ho)
  have x : Text P call ops T H V W := ⟨fun i o ho => (e6' i o ho).1, fun i o ho => (e6' i o ho).2.1, fun i o ho => (e6' i o ho).2.2.1, fun i o ho => (e6' i o ho).2.2.2.1⟩
  have hst : Steady P ops T H V W := fun i ks hm o ho hw k hk => by
    have hl := (e6' i o ho).2.2.2.2
    obtain ⟨h2, hs⟩ := hsd i ks hm o ho _ hl hw k hk
    have hat : heapAt l h1 k = H k := by
      unfold heapAt
      have hkn := floats_le (i, ks) hm k hk
      by_cases hkl : k < ops.size
      · rw [(e6' k _ (Array.getElem?_eq_getElem hkl)).2.2.2.2]
      · rw [List.getElem?_eq_none (by omega)]
        have : k = ops.size := by omega
        rw [this, e4]
    rw [hat] at hs
    exact ⟨h2, hs⟩
  refine wp_region_any hmix ?_
  have hf : ∀ i, (Array.replicate ops.size false).getD i false = false := fun i => by
    rw [Array.getD_eq_getD_getElem?, Array.getElem?_replicate]
    split <;> rfl
  have hw1 : ({ w with drawn := w.drawn + 1 } : World).heap = w.heap := rfl
  refine any_sound hc x hO hst ops.size _ a _ φ 0 (by simp) (by simp) (fun j q hq hj => absurd ((hf j).symm.trans hj) (by simp)) (Nat.zero_le _) (fun e q hq hqc => by rw [hf]; simp) (by rw [e2]; exact hr.same hw1) ?_ fun a2 w2 φ2 g1 g2 g3 g4 => ?_
  · have hcur : ∀ m, cur ops (T 0) V (fun i => (Array.replicate ops.size false).getD i false) m = T 0 := by
      intro m
      induction m with
      | zero => rfl
      | succ m ih => simp only [cur]; rw [if_neg (by rw [hf]; simp), ih]
    rw [hcur, e1]
    exact ht
  · rw [e2, e4] at g4
    refine ⟨φ2, rfl, by rw [← e3]; exact g1, g2, by rw [← e4]; exact g3, ?_⟩
    exact (Mv.same (w := w) (w' := { w with drawn := w.drawn + 1 }) rfl rfl rfl rfl).trans g4
theorem MG.nil (hmix : P.follows .mixedOrders = true) (hf : Fnl cs) (hs : StX P n tr h fl) (hx : M P base n k (.out .normal) K e h Q) : MG P base n k fl [] K e h cs tr Q := ⟨fun id l0 e0 h0 hp hc => ⟨⟨fun code hl φ a w ht hr => by
  obtain ⟨ops, rfl, hl1, ho, hfl⟩ := lowerC_regF hl
  obtain ⟨los, lo, e1, hlo, e2, e3, e4⟩ := hp ops ops.toList hl1
  obtain rfl := lowerL_nil hlo
  have h1 := e4 (orc cs) hf
  simp only [traceS, List.append_nil] at h1
  refine wp_mono (steady_ok hmix (orc_ok hc) ho h1 (fun i ks hm o hoo x hx hw k hk => ?_) ht hr) fun ex a' w' hp => ?_
  · rw [hfl] at hm
    rw [List.getElem?_map, Option.map_eq_some_iff] at hx
    obtain ⟨y, hy, rfl⟩ := hx
    have h2 := hs.get i ks hm y hy hw k hk
    rw [List.append_nil] at e1
    have h3 : los[i]? = some o := by rw [← e1]; simpa using hoo
    rw [hAt_eq]
    exact ⟨_, h2.run o _ (e3 i o y h3 hy hw)⟩
  · obtain ⟨φ', rfl, p2, p3, p4, p5⟩ := hp
    exact ⟨.normal, e, h, φ', hx.run, rfl, p2, p3, p4, .of p5⟩⟩⟩⟩
theorem PreF.step {l0 : List LOp} {e0 : Env} {h0 : HS} {g : Option (Nat × Bool)} {d : Option Nat} {lk : LK} {l : List LOp} {v : XV} {h' : HS} {cs' : List Rec} (hsub : ∀ c ∈ cs, c ∈ cs') (hp : PreF P n l0 e0 h0 (⟨g, d, lk⟩ :: l) e h cs tr) (hg : GOK e g)
    (ho : ∀ (call : FuncId → List SV → SH → Option (SV × SH)) (o : Oper), (∀ c ∈ cs', call c.f c.args c.h = some (c.r, c.h')) → Lw P o.op lk → Sim.step P call (toSF n e) h.sh o = some (v.sv, h'.sh)) : PreF P n l0 e0 h0 l (push d v e) h' cs' (tr ++ [⟨lk, e, h, v, true⟩]) := fun ops lo0 hl => by
  obtain ⟨los, lo, rfl, hlo, e2, e3, e4⟩ := hp ops lo0 hl
  obtain ⟨o, r, rfl, h1, h2⟩ := lowerL_cons hlo
  obtain ⟨h3, h4, h5, h6⟩ := lowerOp_eq h1
  refine ⟨los ++ [o], r, by simp, h2, by simp [e2], fun i q x hq hx hw => ?_, fun call hcall => ?_⟩
  · by_cases hi : i < tr.length
    · rw [List.getElem?_append_left (by omega)] at hq
      rw [List.getElem?_append_left hi] at hx
      exact e3 i q x hq hx hw
    · have hil : i = tr.length := by
        have := (List.getElem?_eq_some_iff.1 hx).1
        simp at this; omega
      subst hil
      rw [← e2, List.getElem?_append_right (Nat.le_refl _)] at hq
      rw [List.getElem?_append_right (Nat.le_refl _)] at hx
      simp at hq hx
      subst hq hx
      exact h5
  · rw [e4 call fun c hc => hcall c (hsub c hc)]
    simp only [traceS, hg.wanted ops o h4, ho call o hcall h5]
    rw [push_sf h3, h6]
    cases traceS P call ops r (toSF n (push d v e)) h'.sh with
    | none => rfl
    | some q => obtain ⟨q1, q2, q3⟩ := q; simp [TX.tr]
theorem MG.op {g : Option (Nat × Bool)} {d : Option Nat} {lk : LK} {l : List LOp} {v : XV} {h' : HS} (hg : GOK e g) (ho : SOp P n lk e h v h') (hx : MG P base n k fl l K (push d v e) h' cs (tr ++ [⟨lk, e, h, v, true⟩]) Q) : MG P base n k fl (⟨g, d, lk⟩ :: l) K e h cs tr Q := ⟨fun id l0 e0 h0 hp hc =>
  hx.run id l0 e0 h0 (hp.step (fun c hc => hc) hg fun call o _ hl => ho.run o call hl) hc⟩
theorem MG.out {s : Nat} {g : Bool} {d : Option Nat} {lk : LK} {l : List LOp} (hw : ∀ ops o, lowG ops o.guard = some (some (s, g)) → wantedS ops (toSF n e) o = some false) (hx : MG P base n k fl l K (push d (.tup []) e) h cs (tr ++ [⟨lk, e, h, .tup [], false⟩]) Q) : MG P base n k fl (⟨some (s, g), d, lk⟩ :: l) K e h cs tr Q := ⟨fun id l0 e0 h0 hp hc =>
  hx.run id l0 e0 h0 (fun ops lo0 hl => by
    obtain ⟨los, lo, rfl, hlo, e2, e3, e4⟩ := hp ops lo0 hl
    obtain ⟨o, r, rfl, h1, h2⟩ := lowerL_cons hlo
    obtain ⟨h3, h4, h5, h6⟩ := lowerOp_eq h1
    refine ⟨los ++ [o], r, by simp, h2, by simp [e2], fun i q x hq hx hw' => ?_, fun call hcall => ?_⟩
    · by_cases hi : i < tr.length
      · rw [List.getElem?_append_left (by omega)] at hq
        rw [List.getElem?_append_left hi] at hx
        exact e3 i q x hq hx hw'
      · have hil : i = tr.length := by
          have := (List.getElem?_eq_some_iff.1 hx).1
          simp at this; omega
        subst hil
        rw [List.getElem?_append_right (Nat.le_refl _)] at hx
        simp at hx
        subst hx
        cases hw'
    · rw [e4 call hcall]
      simp only [traceS, hw ops o h4]
      have e5 : (toSF n e).put o.dst (.tup []) = toSF n (push d (.tup []) e) := by
        rw [show (SV.tup []) = (XV.tup []).sv by simp [XV.sv, XV.svs], push_sf h3, h6]
      rw [e5]
      cases traceS P call ops r (toSF n (push d (.tup []) e)) h.sh with
      | none => rfl
      | some q => obtain ⟨q1, q2, q3⟩ := q; simp [TX.tr, XV.sv, XV.svs]) hc⟩
theorem MG.use {g : Option (Nat × Bool)} {d : Option Nat} {f : FuncId} {as : List LX} {l : List LOp} {vs args : List XV} {r r2 : XV} {hs hs' : HS} (hg : GOK e g) (C : CallS P base f args hs r hs') (ρ : List (Nat × Nat)) (ha : xevs e as = some vs) (hv : XV.rens (look ρ) args = some vs) (hρ : rhoIn ρ hs h.next = true) (hh : HeapOK (look ρ) h hs.l)
    {l2 : List (Nat × Option XO)} (hr2 : r.ren (gOf ρ hs.next h.next) = some r2) (hl2 : frameL (gOf ρ hs.next h.next) hs'.l = some l2)
    (hx : MG P base n k fl l K (push d r2 e) ⟨appL l2 (appL (drops ρ) h.l), h.next + (hs'.next - hs.next)⟩ (⟨f, vs.map XV.sv, h.sh, r2.sv, HS.sh ⟨appL l2 (appL (drops ρ) h.l), h.next + (hs'.next - hs.next)⟩⟩ :: cs) (tr ++ [⟨.call f as, e, h, r2, true⟩]) Q) :
    MG P base n k fl (⟨g, d, .call f as⟩ :: l) K e h cs tr Q := ⟨fun id l0 e0 h0 hp hc =>
  hx.run id l0 e0 h0 (hp.step (fun c hc => List.mem_cons_of_mem _ hc) hg fun call o hcall hl => step_call ha (hcall _ (List.mem_cons_self ..)) o hl) (fun c hx => by
    rcases List.mem_cons.1 hx with rfl | hx
    · exact C.use ρ hρ hv hh hr2 hl2
    · exact hc c hx)⟩
theorem MG.use0 {g : Option (Nat × Bool)} {d : Option Nat} {f : FuncId} {as : List LX} {l : List LOp} {vs args : List XV} {r : XV} (hg : GOK e g) (C : CallS P base f args ⟨[], 0⟩ r ⟨[], 0⟩) (ha : xevs e as = some vs) (hv : XV.rens (look []) args = some vs) (hr : r.ren (gOf [] 0 h.next) = some r)
    (hx : MG P base n k fl l K (push d r e) h (⟨f, vs.map XV.sv, h.sh, r.sv, h.sh⟩ :: cs) (tr ++ [⟨.call f as, e, h, r, true⟩]) Q) : MG P base n k fl (⟨g, d, .call f as⟩ :: l) K e h cs tr Q :=
  MG.use hg C [] ha hv rfl trivial hr rfl hx
def revA : List TX → List TX → List TX
  | [], r => r
  | x :: l, r => revA l (x :: r)
theorem revA_eq : ∀ (l r : List TX), revA l r = l.reverse ++ r
  | [], r => rfl
  | x :: l, r => by rw [revA, revA_eq l]; simp
structure MF (P : Program) (base n k : Nat) (fl : List (Nat × List Nat)) (l : List LOp) (K : List Fr) (e : Env) (h : HS) (cs : List Rec) (tr : List TX) (Q : QX) : Prop where
  run : MG P base n k fl l K e h cs tr.reverse Q
theorem M.regF {l : List LOp} (hx : MF P base n k fl l K e h [] [] Q) : M P base n k (.code (.regF id l fl)) K e h Q := M.regF0 hx.run
theorem MF.nil {tr2 : List TX} (hmix : P.follows .mixedOrders = true) (hf : Fnl cs) (hrev : revA tr [] = tr2) (hs : StX P n tr2 h fl) (hx : M P base n k (.out .normal) K e h Q) : MF P base n k fl [] K e h cs tr Q := ⟨MG.nil hmix hf (by rw [revA_eq, List.append_nil] at hrev; rw [hrev]; exact hs) hx⟩
theorem MF.op {g : Option (Nat × Bool)} {d : Option Nat} {lk : LK} {l : List LOp} {v : XV} {h' : HS} (hg : GOK e g) (ho : SOp P n lk e h v h') (hx : MF P base n k fl l K (push d v e) h' cs (⟨lk, e, h, v, true⟩ :: tr) Q) : MF P base n k fl (⟨g, d, lk⟩ :: l) K e h cs tr Q := ⟨MG.op hg ho (by have := hx.run; rwa [List.reverse_cons] at this)⟩
theorem MF.out {s : Nat} {g : Bool} {d : Option Nat} {lk : LK} {l : List LOp} (hw : ∀ ops o, lowG ops o.guard = some (some (s, g)) → wantedS ops (toSF n e) o = some false) (hx : MF P base n k fl l K (push d (.tup []) e) h cs (⟨lk, e, h, .tup [], false⟩ :: tr) Q) : MF P base n k fl (⟨some (s, g), d, lk⟩ :: l) K e h cs tr Q := ⟨MG.out hw (by have := hx.run; rwa [List.reverse_cons] at this)⟩
theorem MF.use {g : Option (Nat × Bool)} {d : Option Nat} {f : FuncId} {as : List LX} {l : List LOp} {vs args : List XV} {r r2 : XV} {hs hs' : HS} (hg : GOK e g) (C : CallS P base f args hs r hs') (ρ : List (Nat × Nat)) (ha : xevs e as = some vs) (hv : XV.rens (look ρ) args = some vs) (hρ : rhoIn ρ hs h.next = true) (hh : HeapOK (look ρ) h hs.l)
    {l2 : List (Nat × Option XO)} (hr2 : r.ren (gOf ρ hs.next h.next) = some r2) (hl2 : frameL (gOf ρ hs.next h.next) hs'.l = some l2)
    (hx : MF P base n k fl l K (push d r2 e) ⟨appL l2 (appL (drops ρ) h.l), h.next + (hs'.next - hs.next)⟩ (⟨f, vs.map XV.sv, h.sh, r2.sv, HS.sh ⟨appL l2 (appL (drops ρ) h.l), h.next + (hs'.next - hs.next)⟩⟩ :: cs) (⟨.call f as, e, h, r2, true⟩ :: tr) Q) :
    MF P base n k fl (⟨g, d, .call f as⟩ :: l) K e h cs tr Q := ⟨MG.use hg C ρ ha hv hρ hh hr2 hl2 (by have := hx.run; rwa [List.reverse_cons] at this)⟩
theorem MF.use0 {g : Option (Nat × Bool)} {d : Option Nat} {f : FuncId} {as : List LX} {l : List LOp} {vs args : List XV} {r : XV} (hg : GOK e g) (C : CallS P base f args ⟨[], 0⟩ r ⟨[], 0⟩) (ha : xevs e as = some vs) (hv : XV.rens (look []) args = some vs) (hr : r.ren (gOf [] 0 h.next) = some r)
    (hx : MF P base n k fl l K (push d r e) h (⟨f, vs.map XV.sv, h.sh, r.sv, h.sh⟩ :: cs) (⟨.call f as, e, h, r, true⟩ :: tr) Q) : MF P base n k fl (⟨g, d, .call f as⟩ :: l) K e h cs tr Q :=
  ⟨MG.use0 hg C ha hv hr (by have := hx.run; rwa [List.reverse_cons] at this)⟩
inductive StF where
  | st (l : List LOp) (e : Env) (h : HS) (tr : List TX)
  | no
def goF : Nat → List LOp → Env → HS → List TX → StF
  | 0, l, e, h, tr => .st l e h tr
  | _ + 1, [], e, h, tr => .st [] e h tr
  | m + 1, ⟨none, d, k⟩ :: l, e, h, tr => match stepX k e h with
    | some (v, h') => goF m l (pushS d v e) h' (⟨k, e, h, v, true⟩ :: tr)
    | none => .st (⟨none, d, k⟩ :: l) e h tr
  | m + 1, ⟨some (s, w), d, k⟩ :: l, e, h, tr => match look e s, w with
    | some (.c (.p (.bool true))), true => match stepX k e h with
      | some (v, h') => goF m l (pushS d v e) h' (⟨k, e, h, v, true⟩ :: tr)
      | none => .st (⟨some (s, w), d, k⟩ :: l) e h tr
    | some (.c (.p (.bool false))), false => match stepX k e h with
      | some (v, h') => goF m l (pushS d v e) h' (⟨k, e, h, v, true⟩ :: tr)
      | none => .st (⟨some (s, w), d, k⟩ :: l) e h tr
    | some (.c (.p (.bool true))), false => goF m l (pushS d (.tup []) e) h (⟨k, e, h, .tup [], false⟩ :: tr)
    | some (.c (.p (.bool false))), true => goF m l (pushS d (.tup []) e) h (⟨k, e, h, .tup [], false⟩ :: tr)
    | some (.tup _), _ => goF m l (pushS d (.tup []) e) h (⟨k, e, h, .tup [], false⟩ :: tr)
    | _, _ => .st (⟨some (s, w), d, k⟩ :: l) e h tr
theorem goF_ok : ∀ (m : Nat) {l l' : List LOp} {e e' : Env} {h h' : HS} {tr tr' : List TX}, goF m l e h tr = .st l' e' h' tr' → MF P base n k fl l' K e' h' cs tr' Q → MF P base n k fl l K e h cs tr Q
  | 0, l, l', e, e', h, h', tr, tr', hr, hx => by
    simp only [goF, StF.st.injEq] at hr
    obtain ⟨rfl, rfl, rfl, rfl⟩ := hr
    exact hx
  | m + 1, l, l', e, e', h, h', tr, tr', hr, hx => by
    have stop : StF.st l e h tr = .st l' e' h' tr' → MF P base n k fl l K e h cs tr Q := fun hr => by
      simp only [StF.st.injEq] at hr
      obtain ⟨rfl, rfl, rfl, rfl⟩ := hr
      exact hx
    unfold goF at hr
    split at hr
    · rename_i heq; cases heq
    · exact stop hr
    · rename_i heq
      cases heq
      split at hr
      · rename_i hs
        exact .op trivial (stepX_ok hs) (goF_ok _ hr hx)
      · exact stop hr
    · rename_i heq
      cases heq
      split at hr
      · split at hr
        · rename_i hl _ _ _ hs
          exact .op hl (stepX_ok hs) (goF_ok _ hr hx)
        · exact stop hr
      · split at hr
        · rename_i hl _ _ _ hs
          exact .op hl (stepX_ok hs) (goF_ok _ hr hx)
        · exact stop hr
      · rename_i hl
        exact .out (fun ops o hg' => by rw [wanted_of hg' hl]; rfl) (goF_ok _ hr hx)
      · rename_i hl
        exact .out (fun ops o hg' => by rw [wanted_of hg' hl]; rfl) (goF_ok _ hr hx)
      · rename_i hl
        exact .out (fun ops o hg' => by rw [wanted_of hg' hl]; simp [XV.sv]) (goF_ok _ hr hx)
      · exact stop hr
theorem MF.go {l l' : List LOp} {e' : Env} {h' : HS} {tr' : List TX} (hr : goF 1000 l e h tr = .st l' e' h' tr') (hx : MF P base n k fl l' K e' h' cs tr' Q) : MF P base n k fl l K e h cs tr Q := goF_ok 1000 hr hx
end
end Go.Proofs.Ytjlfojgacnphmaa.Sym

namespace Go.Proofs.Ytjlfojgacnphmaa.Sym
open Go Go.RowKit Go.Proofs.Ytjlfojgacnphmaa.Sim
set_option linter.unusedSimpArgs false
set_option linter.unusedVariables false
section
variable {P : Program} {base n k : Nat} {e : Env} {h : HS} {Q : QX} {K : List Fr}
theorem wkH_HR {b0 : Nat} {o o' : XO} (h0 : h.get b0 = some o) (ho : o.so.own = true) (hw : WkO o o') {φ : Ph} {w : World} (hr : HR base φ h.sh w) : HR base φ (h.put b0 (some o')).sh w ∧ Mo k φ φ h.sh w (h.put b0 (some o')).sh w := by
  have hg : h.sh.get b0 = some o.so := by rw [HS.get_sh, h0]; rfl
  obtain ⟨L, g1, g2⟩ := hr.live b0 _ hg
  obtain ⟨f1, f2⟩ := hr.change ⟨_, hg, ho, g1⟩ o'.so rfl (fun _ _ => rfl) (hw.2 _ _ _ _ g2) rfl rfl rfl
  exact ⟨f1, .of f2⟩
theorem M.goN (m : Nat) {f f' : Fo} {K' : List Fr} {e' : Env} {h' : HS} (hr : Sym.go m f K e h = .st f' K' e' h') (hx : M P base n k f' K' e' h' Q) : M P base n k f K e h Q := go_ok m hr hx
theorem MD.goN (m : Nat) {cs : List Rec} {l l' : List LOp} {e' : Env} {h' : HS} (hr : goD m l e h = .st (.ops l') [] e' h') (hx : MD P base n k l' K e' h' cs Q) : MD P base n k l K e h cs Q := goD_ok m hr hx
theorem MF.goN (m : Nat) {fl : List (Nat × List Nat)} {cs : List Rec} {tr tr' : List TX} {l l' : List LOp} {e' : Env} {h' : HS} (hr : goF m l e h tr = .st l' e' h' tr') (hx : MF P base n k fl l' K e' h' cs tr' Q) : MF P base n k fl l K e h cs tr Q := goF_ok m hr hx
theorem M.wkH {b0 : Nat} {o o' : XO} {c : LC} (h0 : h.get b0 = some o) (ho : o.so.own = true) (hw : WkO o o') (hx : M P base n k (.code c) K e (h.put b0 (some o')) Q) : M P base n k (.code c) K e h Q := ⟨⟨fun code hl φ a w ht hr => by
  obtain ⟨f1, f2⟩ := wkH_HR (k := k) h0 ho hw hr
  exact wp_mono (hx.run.run code hl φ a w ht f1) fun ex a' w' hp => hp.of f2⟩⟩
theorem WkL.refl : ∀ l : List XC, WkL l l
  | [] => trivial
  | _ :: l => ⟨Wk.rfl, WkL.refl l⟩
theorem WkL.set : ∀ {l r : List XC} {o : Nat} {x y : XC}, getN l o 1 = some [x] → setN l o [y] = some r → Wk (.c x) (.c y) → WkL l r
  | [], r, o, x, y, h, _, _ => by cases o <;> simp [getN, dropS, takeS] at h
  | z :: l, r, 0, x, y, h, hs, hw => by
    have : z = x := by simpa [getN, dropS, takeS] using h
    subst this
    cases l with
    | nil => simp [setN, putS] at hs; subst hs; exact ⟨hw, trivial⟩
    | cons a l => simp [setN, putS] at hs; subst hs; exact ⟨hw, WkL.refl _⟩
  | z :: l, r, o + 1, x, y, h, hs, hw => by
    simp only [setN] at hs
    split at hs
    · rename_i q hq
      simp only [Option.some.injEq] at hs
      subst hs
      exact ⟨Wk.rfl, WkL.set (o := o) (by simpa [getN, dropS] using h) hq hw⟩
    · cases hs
theorem setN_other : ∀ {r : List XC} {o : Nat} {a b : XC} {q : List XC}, setN r o [a] = some q → ∃ q', setN r o [b] = some q'
  | [], o, a, b, q, h => by cases o <;> simp [setN, putS] at h
  | y :: r, 0, a, b, q, h => by cases r <;> exact ⟨_, rfl⟩
  | y :: r, o + 1, a, b, q, h => by
    simp only [setN] at h ⊢
    split at h
    · rename_i q0 hq0
      obtain ⟨q', hq'⟩ := setN_other (b := b) hq0
      exact ⟨y :: q', by rw [hq']⟩
    · cases h
theorem getN_setN : ∀ {r : List XC} {o : Nat} {a : XC} {q : List XC}, setN r o [a] = some q → getN q o 1 = some [a]
  | [], o, a, q, h => by cases o <;> simp [setN, putS] at h
  | y :: r, 0, a, q, h => by cases r <;> (simp [setN, putS] at h; subst h; rfl)
  | y :: r, o + 1, a, q, h => by
    simp only [setN] at h
    split at h
    · rename_i q0 hq0
      simp only [Option.some.injEq] at h
      subst h
      simpa [getN, dropS] using getN_setN hq0
    · cases h
theorem setN_setN : ∀ {r : List XC} {o : Nat} {a b : XC} {q q' : List XC}, setN r o [a] = some q → setN r o [b] = some q' → setN q o [b] = some q'
  | [], o, a, b, q, q', h, _ => by cases o <;> simp [setN, putS] at h
  | y :: r, 0, a, b, q, q', h, h' => by cases r <;> (simp [setN, putS] at h h'; subst h h'; rfl)
  | y :: r, o + 1, a, b, q, q', h, h' => by
    simp only [setN] at h h'
    split at h
    · rename_i q0 hq0
      split at h'
      · rename_i q1 hq1
        simp only [Option.some.injEq] at h h'
        subst h h'
        simp only [setN, setN_setN hq0 hq1]
      · cases h'
    · cases h
theorem M.accFR {b0 o b s : Nat} {el : List PC} {r r' : List XC} {q : LC} (h0 : h.get b0 = some (.row r true)) (hne : Nat.beq b b0 = false) (hi : getN r o 1 = some [.acc b s el]) (hr' : setN r o [.p (.tz true s el none)] = some r') (hb : look h.l b = some (accO s el))
    (hx : M P base n k (.code q) K e ((h.put b none).put b0 (some (.row r' true))) Q) : M P base n k (.code q) K e h Q := by
  have hne' : Nat.beq b0 b = false := by rw [Bool.eq_false_iff]; intro e; have := Nat.eq_of_beq_eq_true e; subst this; simp at hne
  cases el with
  | nil =>
    refine M.forgetC (h' := h.put b none) (fun d o hd => ?_) rfl (M.wkH (b0 := b0) (o := .row r true) (o' := .row r' true) ?_ rfl (WkO.row (WkL.set hi hr' (Wk.of rfl))) hx)
    · have h1 : HS.get ⟨(b, none) :: h.l, h.next⟩ d = some o := hd
      rw [get_cons] at h1
      cases hbd : Nat.beq (b, (none : Option XO)).1 d
      · rw [hbd] at h1; exact h1
      · rw [hbd] at h1; cases h1
    · show HS.get ⟨(b, none) :: h.l, h.next⟩ b0 = _
      rw [get_cons, hne, cond_false]
      exact h0
  | cons x l =>
    obtain ⟨r0, hr0⟩ := setN_other (b := XC.sl b 0 (x :: l).length s none) hr'
    obtain ⟨r1, hr1⟩ := setN_other (b := XC.p (.tz false s (x :: l) none)) hr'
    have hb' : h.get b = some (.els s (x :: l)) := by simp only [HS.get, hb, accO]
    refine M.wkH h0 rfl (WkO.row (WkL.set hi hr0 (Wk.of rfl))) (M.freezeR (b0 := b0) (r := r0) (el := x :: l) ?_ hne (getN_setN hr0) (setN_setN hr0 hr1) ?_ rfl (M.wkH (b0 := b0) (o := .row r1 true) (o' := .row r' true) ?_ rfl (WkO.row (WkL.set (getN_setN hr1) (setN_setN hr1 hr') (Wk.some (by simp)))) ?_))
    · show HS.get ⟨(b0, some (.row r0 true)) :: h.l, h.next⟩ b0 = _
      rw [get_cons]; simp
    · show HS.get ⟨(b0, some (.row r0 true)) :: h.l, h.next⟩ b = _
      rw [get_cons, hne', cond_false]; exact hb'
    · show HS.get ⟨(b0, some (.row r1 true)) :: (b, none) :: (b0, some (.row r0 true)) :: h.l, h.next⟩ b0 = _
      rw [get_cons]; simp
    · refine M.forgetC (h' := (h.put b none).put b0 (some (.row r' true))) (fun d o hd => ?_) rfl hx
      have h1 : HS.get ⟨(b0, some (.row r' true)) :: (b, none) :: h.l, h.next⟩ d = some o := hd
      show HS.get ⟨(b0, some (.row r' true)) :: (b0, some (.row r1 true)) :: (b, none) :: (b0, some (.row r0 true)) :: h.l, h.next⟩ d = some o
      rw [get_cons] at h1 ⊢
      cases hbd : Nat.beq b0 d
      · rw [hbd] at h1
        simp only [cond_false] at h1 ⊢
        rw [get_cons, hbd, cond_false]
        rw [get_cons] at h1 ⊢
        cases hbe : Nat.beq b d
        · rw [hbe] at h1
          simp only [cond_false] at h1 ⊢
          rw [get_cons, hbd, cond_false]
          exact h1
        · rw [hbe] at h1; exact h1
      · rw [hbd] at h1
        exact h1
end
theorem Wk.acc0 {b s s' : Nat} {c : Option Nat} : Wk (.c (.p (.tz true s [] c))) (accV b s' []) := Wk.of (Eq.refl _)
theorem Wk.b1 {t t' : Bool} (h : t' = t) : Wk (.c (.p (.bool t))) (.c (.p (.bs t'))) := Wk.of (by rw [h]; rfl)
theorem Wk.b2 {t t' : Bool} (h : t' = t) : Wk (.c (.p (.bs t))) (.c (.p (.bs t'))) := Wk.of (by rw [h])
theorem Wk.agg {l r : List XC} (h : WkL l r) : Wk (.agg l) (.agg r) := fun φ x hx => by
  obtain ⟨h1, h2⟩ := h.get
  simp only [XV.sv, VR, VR1] at hx ⊢
  obtain ⟨cs, e, ha⟩ := hx
  refine ⟨cs, e, All2.mk (by have := ha.length; simp only [List.length_map] at this ⊢; omega) fun i a b hi hb => ?_⟩
  rw [List.getElem?_map, Option.map_eq_some_iff] at hi
  obtain ⟨y, hy, rfl⟩ := hi
  obtain ⟨x, hx, hw⟩ := h2 i y hy
  obtain ⟨u, hu, hr⟩ := ha.get (i := i) (a := x.sc) (by rw [List.getElem?_map, hx]; rfl)
  rw [hb] at hu; cases hu
  exact hw φ b hr
theorem VR_flat {φ : Ph} {a : XV} {v : Value} (h : a.flat = true) : VR φ a.sv v ↔ VR1 φ a.sv v := by
  cases a with
  | c x => simp only [XV.sv, VR]
  | agg l => simp only [XV.sv, VR]
  | tup l => cases h
theorem Wk.t2 {a b a' b' : XV} (h1 : Wk a a') (h2 : Wk b b') (f1 : a.flat = true := by rfl) (f2 : b.flat = true := by rfl) (f3 : a'.flat = true := by rfl) (f4 : b'.flat = true := by rfl) : Wk (.tup [a, b]) (.tup [a', b']) := fun φ x hx => by
  simp only [XV.sv, XV.svs, VR] at hx ⊢
  obtain ⟨vs, e, h⟩ := hx
  refine ⟨vs, e, ?_⟩
  match hv : vs.toList, h with
  | [u, v], h => exact ⟨(VR_flat f3).1 (h1 φ u ((VR_flat f1).2 h.1)), (VR_flat f4).1 (h2 φ v ((VR_flat f2).2 h.2.1)), trivial⟩
theorem wr64 {n : Int} (h : -9223372036854775808 ≤ n) (h' : n ≤ 9223372036854775807) : IntKind.i64.wrap n = n := by
  have hs : IntKind.i64.signed = true := rfl
  have hb : IntKind.i64.bits = 64 := rfl
  unfold IntKind.wrap
  simp only [hs, hb, Bool.true_and, decide_eq_true_eq]
  split <;> omega
def byP (l : List Nat) : List PC := l.map fun (b : Nat) => .int .u8 b
def inP (l : List Int) : List PC := l.map fun i => .int .i64 i
theorem at_app {α β : Type} (f : α → β) (pre rest : List α) (b : α) : ((pre ++ b :: rest).map f)[((pre.length : Int)).toNat]? = some (f b) := by simp
theorem minI_eq (a b : Int) : minI a b = min a b := by unfold minI; omega
end Go.Proofs.Ytjlfojgacnphmaa.Sym

namespace Go.Proofs.Ytjlfojgacnphmaa.Sym
open Go Go.RowKit Sim
variable {P : Program}
def startP (w : World) : Ph := ⟨fun _ => none, fun m => w.heap[m]?⟩
theorem HR.start (w : World) : HR w.heap.size (startP w) noMem w :=
  ⟨(fun b L h => by cases h), Nat.le_refl _, (fun b q h => by cases h), (fun m o h => ⟨h, fun b L ⟨q, h1, _⟩ => by cases h1⟩), (fun b b' q L L' h => by obtain ⟨q0, h1, _⟩ := h; cases h1)⟩
theorem CallS.law {f : FuncId} {args : List XV} {w : World} (C : CallS P w.heap.size f args ⟨[], 0⟩ (.c (.p (.bool true))) ⟨[], 0⟩) {args' : List Value} (ha : All2 (VR (startP w)) (args.map XV.sv) args') :
    Calls P f args'.toArray w fun e w' => e = .returned (.bool true) ∧ Below w.heap.size w w' := by
  refine Calls.mono (C.run (startP w) args' w ha (HR.start w)) fun e w' he => ?_
  obtain ⟨v', φ', rfl, h1, -, h3⟩ := he
  have : v' = .bool true := h1
  subst this
  exact ⟨rfl, h3.os, h3.tape, h3.output, h3.size, fun k hk => h3.keep k hk fun b L ⟨q, _, _, hL⟩ => by cases hL⟩
theorem M.freezeO {base n k : Nat} {e : Env} {h : HS} {Q : QX} {K : List Fr} {i b s m : Nat} {el : List PC} {c : Option Nat} {q : List LOp} (hi : look e i = some (.c (.sl b 0 m s c))) (hb : h.get b = some (.els s el)) (hm : m = el.length) (hx : M P base n k (.ops q) K ((i, .c (.p (.tz false s el c))) :: e) (h.put b none) Q) : M P base n k (.ops q) K e h Q := ⟨XR.freeze hi hb hm hx.run⟩
def FnlP (c : Rec) : List Rec → Prop
  | [] => True
  | d :: l => ((d.f == c.f) = false ∨ (d.r = c.r ∧ d.h' = c.h')) ∧ FnlP c l
def FnlQ : List Rec → Prop
  | [] => True
  | c :: l => FnlP c l ∧ FnlQ l
theorem FnlP.get {c d : Rec} : ∀ {l : List Rec}, FnlP c l → d ∈ l → (d.f == c.f) = false ∨ (d.r = c.r ∧ d.h' = c.h')
  | [], _, h => by cases h
  | x :: l, hp, h => by
    rcases List.mem_cons.1 h with rfl | h
    · exact hp.1
    · exact FnlP.get hp.2 h
theorem Fnl.rest : ∀ {cs : List Rec}, FnlQ cs → Fnl cs
  | [], _, c, hc => by cases hc
  | c0 :: l, h, c, hc => by
    rcases List.mem_cons.1 hc with rfl | hc
    · simp [orc]
    · simp only [orc]
      split
      · rename_i e
        rcases FnlP.get h.1 hc with h1 | ⟨h1, h2⟩
        · rw [e.1] at h1; simp at h1
        · rw [h1, h2]
      · exact Fnl.rest h.2 c hc
end Go.Proofs.Ytjlfojgacnphmaa.Sym

namespace Go.Proofs.Ytjlfojgacnphmaa.Sym
open Go Go.RowKit Go.Proofs.Ytjlfojgacnphmaa.Sim
set_option linter.unusedSimpArgs false
set_option linter.unusedVariables false
section
variable {P : Program} {base n k : Nat} {e : Env} {h : HS} {Q : QX} {K : List Fr}
theorem M.forgetNC {c : LC} {h' : HS} (hs : ∀ b o, h'.get b = some o → h.get b = some o) (hn : h.next ≤ h'.next) (hx : M P base n k (.code c) K e h' Q) : M P base n k (.code c) K e h Q := ⟨⟨fun code hl φ a w ht hr => by
  obtain ⟨g1, g2⟩ := hr.forget (h' := h'.sh) hn (fun b q hb => by
    rw [HS.get_sh] at hb ⊢
    cases ho : h'.get b with
    | none => simp [ho] at hb
    | some o => rw [hs b o ho]; rw [ho] at hb; exact hb)
  exact wp_mono (hx.run.run code hl φ a w ht g1) fun ex a' w' hp => hp.of (Mo.of g2)⟩⟩
def replS : Env → Nat → XV → Option Env
  | [], _, _ => none
  | (i, x) :: r, s, v => match Nat.beq i s with
    | true => some ((i, v) :: r)
    | false => match replS r s v with
      | some r' => some ((i, x) :: r')
      | none => none
theorem replS_T : ∀ {e e1 : Env} {s : Nat} {v v' : XV}, replS e s v' = some e1 → look e s = some v → v'.sv = v.sv → toT e1 = toT e
  | [], _, _, _, _, h, _, _ => by simp [replS] at h
  | (i, x) :: r, e1, s, v, v', h, hl, hv => by
    simp only [replS] at h
    rw [look_cons] at hl
    split at h
    · rename_i hi
      simp only [hi, cond_true, Option.some.injEq] at hl h
      subst hl h
      simp only [toT, hv]
    · rename_i hi
      split at h
      · rename_i r' hr
        simp only [hi, cond_false, Option.some.injEq] at hl h
        subst h
        simp only [toT, replS_T hr hl hv]
      · cases h
theorem replS_SF {e e1 : Env} {s : Nat} {v v' : XV} (h : replS e s v' = some e1) (hl : look e s = some v) (hv : v'.sv = v.sv) : toSF n e1 = toSF n e := by unfold toSF; rw [replS_T h hl hv]
variable {cs : List Rec} {fl : List (Nat × List Nat)} {tr : List TX} {l : List LOp} {g : Bool} {d : Option Nat} {lk : LK} {s : Nat} {e1 e2 : Env}
theorem MD.same (h1 : toSF n e1 = toSF n e) (hx : MD P base n k l K e1 h cs Q) : MD P base n k l K e h cs Q := ⟨fun id l0 e0 h0 hp hc => hx.run id l0 e0 h0 (by unfold Pre at hp ⊢; rw [h1]; exact hp) hc⟩
theorem MF.same (h1 : toSF n e1 = toSF n e) (hx : MF P base n k fl l K e1 h cs tr Q) : MF P base n k fl l K e h cs tr Q := ⟨⟨fun id l0 e0 h0 hp hc => hx.run.run id l0 e0 h0 (by unfold PreF at hp ⊢; rw [h1]; exact hp) hc⟩⟩
theorem MD.decB {b : Bool} (hg : look e s = some (.c (.p (.bs b)))) (h1 : replS e s (.c (.p (.bool true))) = some e1) (h2 : replS e s (.c (.p (.bool false))) = some e2) (ht : b = true → MD P base n k (⟨some (s, g), d, lk⟩ :: l) K e1 h cs Q) (hf : b = false → MD P base n k (⟨some (s, g), d, lk⟩ :: l) K e2 h cs Q) : MD P base n k (⟨some (s, g), d, lk⟩ :: l) K e h cs Q := by
  cases b with
  | true => exact MD.same (replS_SF h1 hg rfl) (ht rfl)
  | false => exact MD.same (replS_SF h2 hg rfl) (hf rfl)
theorem MD.dec {p : Prop} [Decidable p] (hg : look e s = some (.c (.p (.bs (decide p))))) (h1 : replS e s (.c (.p (.bool true))) = some e1) (h2 : replS e s (.c (.p (.bool false))) = some e2) (ht : p → MD P base n k (⟨some (s, g), d, lk⟩ :: l) K e1 h cs Q) (hf : ¬ p → MD P base n k (⟨some (s, g), d, lk⟩ :: l) K e2 h cs Q) : MD P base n k (⟨some (s, g), d, lk⟩ :: l) K e h cs Q :=
  MD.decB hg h1 h2 (fun h => ht (by simpa using h)) (fun h => hf (by simpa using h))
theorem MD.decN {p : Prop} [Decidable p] (hg : look e s = some (.c (.p (.bs (!decide p))))) (h1 : replS e s (.c (.p (.bool true))) = some e1) (h2 : replS e s (.c (.p (.bool false))) = some e2) (ht : ¬ p → MD P base n k (⟨some (s, g), d, lk⟩ :: l) K e1 h cs Q) (hf : p → MD P base n k (⟨some (s, g), d, lk⟩ :: l) K e2 h cs Q) : MD P base n k (⟨some (s, g), d, lk⟩ :: l) K e h cs Q :=
  MD.decB hg h1 h2 (fun h => ht (by simpa using h)) (fun h => hf (by simpa using h))
theorem MF.decB {b : Bool} (hg : look e s = some (.c (.p (.bs b)))) (h1 : replS e s (.c (.p (.bool true))) = some e1) (h2 : replS e s (.c (.p (.bool false))) = some e2) (ht : b = true → MF P base n k fl (⟨some (s, g), d, lk⟩ :: l) K e1 h cs tr Q) (hf : b = false → MF P base n k fl (⟨some (s, g), d, lk⟩ :: l) K e2 h cs tr Q) : MF P base n k fl (⟨some (s, g), d, lk⟩ :: l) K e h cs tr Q := by
  cases b with
  | true => exact MF.same (replS_SF h1 hg rfl) (ht rfl)
  | false => exact MF.same (replS_SF h2 hg rfl) (hf rfl)
theorem MF.dec {p : Prop} [Decidable p] (hg : look e s = some (.c (.p (.bs (decide p))))) (h1 : replS e s (.c (.p (.bool true))) = some e1) (h2 : replS e s (.c (.p (.bool false))) = some e2) (ht : p → MF P base n k fl (⟨some (s, g), d, lk⟩ :: l) K e1 h cs tr Q) (hf : ¬ p → MF P base n k fl (⟨some (s, g), d, lk⟩ :: l) K e2 h cs tr Q) : MF P base n k fl (⟨some (s, g), d, lk⟩ :: l) K e h cs tr Q :=
  MF.decB hg h1 h2 (fun h => ht (by simpa using h)) (fun h => hf (by simpa using h))
theorem MF.decN {p : Prop} [Decidable p] (hg : look e s = some (.c (.p (.bs (!decide p))))) (h1 : replS e s (.c (.p (.bool true))) = some e1) (h2 : replS e s (.c (.p (.bool false))) = some e2) (ht : ¬ p → MF P base n k fl (⟨some (s, g), d, lk⟩ :: l) K e1 h cs tr Q) (hf : p → MF P base n k fl (⟨some (s, g), d, lk⟩ :: l) K e2 h cs tr Q) : MF P base n k fl (⟨some (s, g), d, lk⟩ :: l) K e h cs tr Q :=
  MF.decB hg h1 h2 (fun h => ht (by simpa using h)) (fun h => hf (by simpa using h))
def Sh (base n k : Nat) (e : Env) (h : HS) (e' : Env) (h' : HS) : Prop := ∀ φ a w, TR φ (toSF n e) a → HR base φ h.sh w → ∃ φ', TR φ' (toSF n e') a ∧ HR base φ' h'.sh w ∧ Mo k φ φ' h.sh w h'.sh w
theorem Sh.refl {base n k : Nat} {e : Env} {h : HS} : Sh base n k e h e h := fun φ a w ht hr => ⟨φ, ht, hr, Mo.refl _ _ _ _⟩
theorem Sh.trans {base n k : Nat} {e e1 e2 : Env} {h h1 h2 : HS} (s : Sh base n k e h e1 h1) (t : Sh base n k e1 h1 e2 h2) : Sh base n k e h e2 h2 := fun φ a w ht hr => by
  obtain ⟨φ1, a1, a2, a3⟩ := s φ a w ht hr
  obtain ⟨φ2, b1, b2, b3⟩ := t φ1 a w a1 a2
  exact ⟨φ2, b1, b2, a3.trans b3⟩
theorem Sh.ren {base n k : Nat} {e e' : Env} {h h' : HS} (ρ : List (Nat × Nat)) (hρ : rhoOK ρ k h'.next = true) (he : EnvOK (look ρ) e e') (hh : HeapOK (look ρ) h h'.l) : Sh base n k e h e' h' := fun φ a w ht hr => by
  obtain ⟨g1, g2, g3⟩ := ren_state (k := k) hρ he hh ht hr
  exact ⟨_, g1, g2, g3⟩
theorem Sh.wk {base n k : Nat} {e e' : Env} {h h' : HS} {i : Nat} {v v' : XV} (hi : look e i = some v) (hw : Wk v v') (t : Sh base n k ((i, v') :: e) h e' h') : Sh base n k e h e' h' := Sh.trans (fun φ a w ht hr => ⟨φ, put_TR hi hw ht, hr, Mo.refl _ _ _ _⟩) t
theorem Sh.freeze {base n k : Nat} {e e' : Env} {h h' : HS} {i b s m : Nat} {el : List PC} {c : Option Nat} (hi : look e i = some (.c (.sl b 0 m s c))) (hb : h.get b = some (.els s el)) (hm : m = el.length) (t : Sh base n k ((i, .c (.p (.tz false s el c))) :: e) (h.put b none) e' h') : Sh base n k e h e' h' :=
  Sh.trans (fun φ a w ht hr => freeze_slot hi hb hm ht hr) t
theorem Sh.once {base n k i : Nat} {e : Env} {h : HS} {x y : XV} : Sh base n k ((i, x) :: (i, y) :: e) h ((i, x) :: e) h := fun φ a w ht hr => ⟨φ, ⟨ht.n, fun j u hu => ht.at_ j u (by
  rw [get_toSF] at hu ⊢
  simp only [look_cons] at hu ⊢
  cases hj : Nat.beq i j <;> simp_all)⟩, hr, Mo.refl _ _ _ _⟩
theorem Sh.freezeN {base n k : Nat} {e e' : Env} {h h' : HS} {i b s m : Nat} {el : List PC} {c : Option Nat} (hi : look e i = some (.c (.sl b 0 m s c))) (hb : h.get b = some (.els s el)) (hm : m = el.length) (t : Sh base n k ((i, .c (.p (.tz false s el none))) :: e) (h.put b none) e' h') : Sh base n k e h e' h' :=
  Sh.freeze hi hb hm (Sh.wk (i := i) (v := .c (.p (.tz false s el c))) (v' := .c (.p (.tz false s el none))) (by simp [look_cons]) Wk.uncap (Sh.trans Sh.once t))
theorem Sh.freezeR {base n k : Nat} {e e' : Env} {h h' : HS} {b0 o b s m : Nat} {el : List PC} {c : Option Nat} {r r' : List XC} (h0 : h.get b0 = some (.row r true)) (hne : Nat.beq b b0 = false) (hi : getN r o 1 = some [.sl b 0 m s c]) (hr' : setN r o [.p (.tz false s el c)] = some r') (hb : h.get b = some (.els s el)) (hm : m = el.length)
    (t : Sh base n k e ((h.put b none).put b0 (some (.row r' true))) e' h') : Sh base n k e h e' h' :=
  Sh.trans (fun φ a w ht hr => freeze_row h0 hne hi hr' hb hm ht hr) t
theorem Sh.forget {base n k : Nat} {e e' : Env} {h h1 h' : HS} (hs : ∀ b o, h1.get b = some o → h.get b = some o) (hn : h.next ≤ h1.next) (t : Sh base n k e h1 e' h') : Sh base n k e h e' h' := Sh.trans (fun φ a w ht hr => by
  obtain ⟨g1, g2⟩ := hr.forget (h' := h1.sh) hn (fun b q hb => by
    rw [HS.get_sh] at hb ⊢
    cases ho : h1.get b with
    | none => simp [ho] at hb
    | some o => rw [hs b o ho]; rw [ho] at hb; exact hb)
  exact ⟨φ, ht, g1, Mo.of g2⟩) t
def shQ (base n k : Nat) (e' : Env) (h' : HS) : QX := fun x e h => x = .normal ∧ Sh base n k e h e' h'
theorem M.midV {c : LC} (e' : Env) (h' : HS) (hx : M P base n k (.code c) [] e h (shQ base n k e' h')) (hq : M P base n k (.out .normal) K e' h' Q) : M P base n k (.code c) K e h Q := ⟨⟨fun code hl φ a w ht hr =>
  wp_mono (hx.run.run code hl φ a w ht hr) fun ex a' w' ⟨x, e2, h2, φ', ⟨p0, p1⟩, p2, p5, p6, p7, p8⟩ => by
    subst p0
    obtain ⟨ψ, g1, g2, g3⟩ := p1 φ' a' w' p5 p7
    exact ⟨.normal, e', h', ψ, hq.run, p2, g1, p6, g2, p8.trans g3⟩⟩⟩
theorem M.shO {l : List LOp} {e' : Env} {h' : HS} (s : Sh base n k e h e' h') (hx : M P base n k (.ops l) K e' h' Q) : M P base n k (.ops l) K e h Q := ⟨⟨fun ops lo hl φ a w ht hr R hR => by
  obtain ⟨ψ, g1, g2, g3⟩ := s φ a w ht hr
  exact hx.run.run ops lo hl ψ a w g1 g2 R fun ex a' w' hp => hR _ _ _ (hp.of g3)⟩⟩
end
end Go.Proofs.Ytjlfojgacnphmaa.Sym

namespace Go.Proofs.Ytjlfojgacnphmaa.Sym
open Go Go.RowKit Go.Proofs.Ytjlfojgacnphmaa.Sim
set_option linter.unusedSimpArgs false
set_option linter.unusedVariables false
structure KD (α : Type) [DecidableEq α] where
  kk : KK
  kf : α → PC
  eq : ∀ a b : α, keyEq (kf a).sc (kf b).sc = some (decide (a = b))
  kind : ∀ (P : Program) (kt : TypeId) (a : α), kkOf P kt = some kk → keyKind P kt (kf a).sc = true
def KD.i64 : KD Int := ⟨.int, fun n => .int .i64 n, fun a b => by simp [PC.sc, keyEq], fun P kt a h => by
  unfold kkOf at h
  unfold keyKind
  split at h <;> simp_all [PC.sc]⟩
theorem eqL_dec (a b : List Nat) : eqL a b = decide (a = b) := by
  cases h : eqL a b with
  | true => rw [eqL_iff] at h; simpa using of_decide_eq_true (by simpa using h)
  | false =>
    symm; rw [decide_eq_false_iff_not]
    intro e; subst e
    have : eqL a a = true := by rw [eqL_iff]; simp
    rw [this] at h; cases h
def KD.str : KD (List Nat) := ⟨.str, fun l => .str l, fun a b => by simp [PC.sc, keyEq, eqL_dec], fun P kt a h => by
  unfold kkOf at h
  unfold keyKind
  split at h <;> simp_all [PC.sc]⟩
section
variable {α : Type} [DecidableEq α]
def mK (D : KD α) (l : List (Nat × α × XV)) : List (Nat × XC × XV) := l.map fun e => (e.1, .p (D.kf e.2.1), e.2.2)
def findK (a : α) : List (Nat × α × XV) → Option XV
  | [] => none
  | e :: l => if a = e.2.1 then some e.2.2 else findK a l
def setK (a : α) (v : XV) : List (Nat × α × XV) → Option (List (Nat × α × XV))
  | [] => none
  | e :: l => if a = e.2.1 then some ((e.1, a, v) :: l) else match setK a v l with
    | some r => some (e :: r)
    | none => none
def delK (a : α) : List (Nat × α × XV) → List (Nat × α × XV)
  | [] => []
  | e :: l => if a = e.2.1 then l else e :: delK a l
theorem findS_mK (D : KD α) (a : α) : ∀ (l : List (Nat × α × XV)) (i : Nat), ∃ j, findS (D.kf a).sc ((mK D l).map fun e => (e.1, e.2.1.sc, e.2.2.sv)) i = some ((findK a l).map fun v => (j, v.sv))
  | [], i => ⟨i, rfl⟩
  | e :: l, i => by
    obtain ⟨j, hj⟩ := findS_mK D a l (i + 1)
    by_cases h : a = e.2.1
    · exact ⟨i, by simp [mK, findS, XC.sc, D.eq, findK, h]⟩
    · exact ⟨j, by simpa [mK, findS, XC.sc, D.eq, findK, h] using hj⟩
theorem setS_mK (D : KD α) (a : α) (v : XV) : ∀ (l : List (Nat × α × XV)) (i : Nat), (setK a v l = none ∧ findS (D.kf a).sc ((mK D l).map fun e => (e.1, e.2.1.sc, e.2.2.sv)) i = some none) ∨ ∃ r j u, setK a v l = some r ∧ findS (D.kf a).sc ((mK D l).map fun e => (e.1, e.2.1.sc, e.2.2.sv)) i = some (some (i + j, u)) ∧ setAt (D.kf a).sc v.sv ((mK D l).map fun e => (e.1, e.2.1.sc, e.2.2.sv)) j = (mK D r).map fun e => (e.1, e.2.1.sc, e.2.2.sv)
  | [], i => .inl ⟨rfl, rfl⟩
  | e :: l, i => by
    by_cases h : a = e.2.1
    · exact .inr ⟨(e.1, a, v) :: l, 0, e.2.2.sv, by simp only [setK, if_pos h], by simp [mK, findS, XC.sc, D.eq, h], by simp [mK, setAt, XC.sc]⟩
    · rcases setS_mK D a v l (i + 1) with ⟨h1, h2⟩ | ⟨r, j, u, h1, h2, h3⟩
      · exact .inl ⟨by simp only [setK, if_neg h, h1], by simpa [mK, findS, XC.sc, D.eq, h] using h2⟩
      · refine .inr ⟨e :: r, j + 1, u, by simp only [setK, if_neg h, h1], ?_, ?_⟩
        · have : i + (j + 1) = i + 1 + j := by omega
          rw [this]
          simpa [mK, findS, XC.sc, D.eq, h] using h2
        · simpa [mK, setAt, XC.sc] using h3
theorem delS_mK (D : KD α) (a : α) : ∀ (l : List (Nat × α × XV)) (i : Nat), (findK a l = none ∧ delK a l = l ∧ findS (D.kf a).sc ((mK D l).map fun e => (e.1, e.2.1.sc, e.2.2.sv)) i = some none) ∨ ∃ j u, findS (D.kf a).sc ((mK D l).map fun e => (e.1, e.2.1.sc, e.2.2.sv)) i = some (some (i + j, u)) ∧ eraseAt ((mK D l).map fun e => (e.1, e.2.1.sc, e.2.2.sv)) j = (mK D (delK a l)).map fun e => (e.1, e.2.1.sc, e.2.2.sv)
  | [], i => .inl ⟨rfl, rfl, rfl⟩
  | e :: l, i => by
    by_cases h : a = e.2.1
    · exact .inr ⟨0, e.2.2.sv, by simp [mK, findS, XC.sc, D.eq, h], by simp [mK, eraseAt, delK, if_pos h]⟩
    · rcases delS_mK D a l (i + 1) with ⟨h1, h2, h3⟩ | ⟨j, u, h2, h3⟩
      · exact .inl ⟨by simp only [findK, if_neg h, h1], by simp only [delK, if_neg h, h2], by simpa [mK, findS, XC.sc, D.eq, h] using h3⟩
      · refine .inr ⟨j + 1, u, ?_, ?_⟩
        · have : i + (j + 1) = i + 1 + j := by omega
          rw [this]
          simpa [mK, findS, XC.sc, D.eq, h] using h2
        · simpa [mK, eraseAt, delK, if_neg h] using h3
def lookV (ok : Bool) (v : XV) (f : Bool) : XV := match ok with
  | true => .tup [v, .c (.p (.bs f))]
  | false => v
def updK (a : α) (v : XV) (c : Nat) (l : List (Nat × α × XV)) : List (Nat × α × XV) := match setK a v l with
  | some r => r
  | none => l ++ [(c, a, v)]
def updC (a : α) (v : XV) (c : Nat) (l : List (Nat × α × XV)) : Nat := match setK a v l with
  | some _ => c
  | none => c + 1
variable {P : Program} {base n k : Nat} {e : Env} {h : HS} {Q : QX} {K : List Fr}
theorem lookV_sv (ok : Bool) (v : XV) (f : Bool) : (lookV ok v f).sv = lookRes ok v.sv f := by
  cases ok <;> simp [lookV, lookRes, XV.sv, XV.svs, XC.sc, PC.sc]
theorem SOp.look (D : KD α) {z : XV} {ok : Bool} {x key : LX} {b c : Nat} {ES : List (Nat × α × XV)} {a : α} (hx : xev e x = some (.c (.mp b))) (hk : xev e key = some (.c (.p (D.kf a)))) (hb : h.get b = some (.map (mK D ES) c)) :
    SOp P n (.look D.kk z ok x key) e h (lookV ok ((findK a ES).getD z) (findK a ES).isSome) h := ⟨fun q call hw => by
  generalize ho : q.op = op' at hw
  generalize hkk : D.kk = kk' at hw
  cases hw with
  | look h1 h2 h3 h4 h5 =>
    subst hkk
    obtain ⟨j, hj⟩ := findS_mK D a ES 0
    simp only [Sim.step, ho, xev_ev h1 hx, xev_ev h2 hk, XV.sv, XC.sc, sLookup, h3, D.kind P _ a h4, if_true, entriesOf, get_map hb, hj]
    cases hf : findK a ES with
    | some v => simp [lookV_sv]
    | none => simp [lookV_sv, zeroVX_sv h5]⟩
theorem SOp.mkM : SOp P n .mkM e h (.c (.mp h.next)) (h.newO (.map [] 0)) := ⟨fun q call hw => by
  generalize ho : q.op = op' at hw
  cases hw with
  | mkM h1 => simp only [Sim.step, ho, h1]; rfl⟩
theorem isFlat_sv {v : XV} (h : v.flat = true) : isFlat v.sv = true := by cases v <;> simp_all [XV.flat, XV.sv, isFlat]
theorem SOp.upd (D : KD α) {x key y : LX} {b c : Nat} {ES : List (Nat × α × XV)} {a : α} {v : XV} (hx : xev e x = some (.c (.mp b))) (hk : xev e key = some (.c (.p (D.kf a)))) (hy : xev e y = some v) (hv : v.flat = true) (hb : h.get b = some (.map (mK D ES) c)) :
    SOp P n (.upd D.kk x key y) e h (.tup []) (h.put b (some (.map (mK D (updK a v c ES)) (updC a v c ES)))) := ⟨fun q call hw => by
  generalize ho : q.op = op' at hw
  generalize hkk : D.kk = kk' at hw
  have main : ∀ {t kt et : TypeId}, P.underlying t = some (.map kt et) → kkOf P kt = some D.kk → (sUpdate P t h.sh (XV.sv (.c (.mp b))) (XV.sv (.c (.p (D.kf a)))) v.sv).map (SV.tup [], ·) = some ((XV.tup []).sv, (h.put b (some (.map (mK D (updK a v c ES)) (updC a v c ES)))).sh) := fun {t kt et} h1 h2 => by
    simp only [XV.sv, XC.sc, sUpdate, h1, D.kind P _ a h2, isFlat_sv hv, and_self, if_true, get_map hb]
    rcases setS_mK D a v ES 0 with ⟨g1, g2⟩ | ⟨r, j, u, g1, g2, g3⟩
    · simp only [g2, updK, updC, g1, Option.map_some]
      have : ((mK D (ES ++ [(c, a, v)])).map fun e => (e.1, e.2.1.sc, e.2.2.sv)) = ((mK D ES).map fun e => (e.1, e.2.1.sc, e.2.2.sv)) ++ [(c, (D.kf a).sc, v.sv)] := by simp [mK, XC.sc]
      rw [← this]
      rfl
    · simp only [g2, updK, updC, g1, Nat.zero_add, g3, Option.map_some]
      rfl
  cases hw with
  | upd h1 h2 h3 h4 h5 =>
    subst hkk
    simp only [Sim.step, ho, xev_ev h1 hx, xev_ev h2 hk, xev_ev h3 hy]
    exact main h4 h5
  | ins h1 h2 h3 h4 h5 =>
    subst hkk
    simp only [Sim.step, ho, xev_ev h1 hx, xev_ev h2 hk, xev_ev h3 hy]
    exact main h4 h5⟩
theorem SOp.del (D : KD α) {x key : LX} {b c : Nat} {ES : List (Nat × α × XV)} {a : α} (hx : xev e x = some (.c (.mp b))) (hk : xev e key = some (.c (.p (D.kf a)))) (hb : h.get b = some (.map (mK D ES) c)) (hf : (findK a ES).isSome = true) :
    SOp P n (.del D.kk x key) e h (.tup []) (h.put b (some (.map (mK D (delK a ES)) c))) := ⟨fun q call hw => by
  generalize ho : q.op = op' at hw
  generalize hkk : D.kk = kk' at hw
  cases hw with
  | del h1 h2 h3 h4 h5 h6 =>
    subst hkk
    rcases delS_mK D a ES 0 with ⟨g0, g1, g2⟩ | ⟨j, u, g2, g3⟩
    · rw [g0] at hf; cases hf
    · simp only [Sim.step, ho, sBuiltin, h3, evs, xev_ev h1 hx, xev_ev h2 hk, h4, sDelete, XV.sv, XC.sc, h5, D.kind P _ a h6, if_true, get_map hb, g2, Nat.zero_add, g3, Option.map_some]
      rfl⟩
theorem SOp.lenM {x : LX} {b c : Nat} {es : List (Nat × XC × XV)} (hx : xev e x = some (.c (.mp b))) (hb : h.get b = some (.map es c)) : SOp P n (.len .mp x) e h (.c (.p (.int .i64 es.length))) h := ⟨fun q call hw => by
  generalize ho : q.op = op' at hw
  generalize hq : NK.mp = nk at hw
  cases hw with
  | len h1 h2 h3 h4 h5 =>
    rcases h5 with ⟨e', rfl⟩ | ⟨k', e', rfl⟩
    · simp [nkOf] at hq
    · simp only [Sim.step, ho, sBuiltin, h2, evs, xev_ev h1 hx, h3, h4, XV.sv, XC.sc, sLen, get_map hb, List.length_map, Option.map_some]
      rfl⟩
/-! Stores into elements. -/
theorem SOp.iaOn {s b m' j : Nat} {x i : LX} {c : Option Nat} {k : IntKind} (hx : xev e x = some (.c (.sl b 0 m' s c))) (hi : xev e i = some (.c (.p (.int k (j : Nat))))) (h1 : j < m') : SOp P n (.ia s x i) e h (.c (.ptr b (j * s + 0))) h := by
  have := SOp.iaO (P := P) (n := n) (h := h) hx hi (by omega) (by omega)
  rwa [show 0 + ((j : Nat) : Int).toNat * s = j * s + 0 by simp] at this
theorem CallS.reck {m : Nat} {f : FuncId} {args : List XV} {r : PC} {h' : SH} (hmix : P.follows .mixedOrders = true) (hng : ∀ (f : FuncId) (fn : Func), P.funcs[f]? = some fn → (fn.name == "runtime.NumGoroutine") = false) (hq : callF P m f (args.map XV.sv) noMem = some (.c r.sc, h')) : CallS P base f args ⟨[], 0⟩ (.c (.p r)) ⟨[], 0⟩ := by
  have := calls_sound (base := base) (n := m) hmix hng f _ noMem _ h' hq
  refine ⟨this.1, fun φ args' w ha hr => ?_⟩
  refine Calls.mono (this.2 φ args' w ha hr) fun en w' hp => ?_
  obtain ⟨v', φ', rfl, h1, h2, h3⟩ := hp
  have hno : ∀ b q, (HS.sh ⟨[], 0⟩).get b = some q → False := fun b q hb => by rw [HS.get_sh] at hb; cases hb
  refine ⟨v', ⟨fun _ => none, φ'.fm⟩, rfl, (by show CR _ (XC.sc (.p r)) v'; rw [show XC.sc (.p r) = r.sc by simp only [XC.sc]]; exact CR.pu (φ := φ') (ψ := ⟨fun _ => none, φ'.fm⟩) (fun m o hm => hm) (pu_sc r) h1), ⟨(fun b L hb => by cases hb), h2.lo, (fun b q hb => (hno b q hb).elim), (fun m o hm => ⟨(h2.froz m o hm).1, fun b L ⟨q, hb, _⟩ => (hno b q hb).elim⟩), (fun b b' q L L' ⟨q1, hb, _⟩ => (hno b q1 hb).elim)⟩, ⟨fun b L hb => absurd hb (Nat.not_lt_zero _), fun m o hm => h3.le.fm m o hm, h3.os, h3.tape, h3.output, h3.size, fun q hq hn => h3.keep q hq fun b L ⟨q1, hb, _⟩ => (hno b q1 hb).elim, fun b L ⟨q, hb, _⟩ => (hno b q hb).elim, fun b q L hb => (hno b q hb).elim, fun m o hm => ?_⟩⟩
  rcases h3.fm m o hm with h4 | h4 | ⟨b, L, ⟨q, hb, _⟩, _⟩
  · exact .inl h4
  · exact .inr (.inl h4)
  · exact (hno b q hb).elim
theorem renE_mK {g : Nat → Option Nat} (D : KD α) : ∀ {ES : List (Nat × α × XV)}, (∀ e ∈ ES, e.2.2.ren g = some e.2.2) → renE g (mK D ES) = some (mK D ES)
  | [], _ => rfl
  | e :: l, h => by
    have h1 := h e (by simp)
    have h2 := renE_mK D (ES := l) fun x hx => h x (by simp [hx])
    simp only [mK, List.map_cons] at h2 ⊢
    simp only [renE, XC.ren, h1, h2]
theorem HeapOK.mp {g : Nat → Option Nat} {b b' c : Nat} {D : KD α} {ES : List (Nat × α × XV)} {r : List (Nat × Option XO)} (hv : ∀ e ∈ ES, e.2.2.ren g = some e.2.2) (hg : g b = some b') (hl : h.get b' = some (.map (mK D ES) c)) (hr : HeapOK g h r) : HeapOK g h ((b, some (.map (mK D ES) c)) :: r) :=
  ⟨⟨b', _, _, hg, by simp only [XO.ren, renE_mK D hv], hl, WkO.rfl⟩, hr⟩
theorem orc_pairs {cs : List Rec} (hp : ∀ c ∈ cs, ∀ d ∈ cs, c.f = d.f → c.args = d.args → c.h = d.h → c.r = d.r ∧ c.h' = d.h') : ∀ (l : List Rec), (∀ x ∈ l, x ∈ cs) → ∀ c ∈ l, orc l c.f c.args c.h = some (c.r, c.h')
  | [], _, c, hc => by cases hc
  | d :: l, hl, c, hc => by
    simp only [orc]
    split
    · rename_i h
      obtain ⟨h1, h2, h3⟩ := h
      obtain ⟨g1, g2⟩ := hp c (hl c hc) d (hl d (by simp)) h1 h2 h3
      rw [g1, g2]
    · rename_i h
      rcases List.mem_cons.1 hc with rfl | hc
      · exact absurd ⟨rfl, rfl, rfl⟩ h
      · exact orc_pairs hp l (fun x hx => hl x (by simp [hx])) c hc
theorem Fnl.pairs {cs : List Rec} (hp : ∀ c ∈ cs, ∀ d ∈ cs, c.f = d.f → c.args = d.args → c.h = d.h → c.r = d.r ∧ c.h' = d.h') : Fnl cs := orc_pairs hp cs fun _ h => h
theorem Sh.wkH {e' : Env} {h' : HS} {b0 : Nat} {o o' : XO} (h0 : h.get b0 = some o) (ho : o.so.own = true) (hw : WkO o o') (t : Sh base n k e (h.put b0 (some o')) e' h') : Sh base n k e h e' h' := Sh.trans (fun φ a w ht hr => by
  obtain ⟨g1, g2⟩ := wkH_HR (k := k) h0 ho hw hr
  exact ⟨φ, ht, g1, g2⟩) t
theorem MG.rep {fl : List (Nat × List Nat)} {cs : List Rec} {tr : List TX} {g : Option (Nat × Bool)} {d : Option Nat} {f : FuncId} {as : List LX} {l : List LOp} {vs : List XV} {r2 : XV} {h' : HS} (hg : GOK e g) (ha : xevs e as = some vs) (hc : (⟨f, vs.map XV.sv, h.sh, r2.sv, h'.sh⟩ : Rec) ∈ cs)
    (hx : MG P base n k fl l K (push d r2 e) h' cs (tr ++ [⟨.call f as, e, h, r2, true⟩]) Q) : MG P base n k fl (⟨g, d, .call f as⟩ :: l) K e h cs tr Q := ⟨fun id l0 e0 h0 hp hcs =>
  hx.run id l0 e0 h0 (hp.step (fun c hc => hc) hg fun call o hcall hl => step_call ha (hcall _ hc) o hl) hcs⟩
theorem MF.rep {fl : List (Nat × List Nat)} {cs : List Rec} {tr : List TX} {g : Option (Nat × Bool)} {d : Option Nat} {f : FuncId} {as : List LX} {l : List LOp} {vs : List XV} {r2 : XV} {h' : HS} (hg : GOK e g) (ha : xevs e as = some vs) (hc : (⟨f, vs.map XV.sv, h.sh, r2.sv, h'.sh⟩ : Rec) ∈ cs)
    (hx : MF P base n k fl l K (push d r2 e) h' cs (⟨.call f as, e, h, r2, true⟩ :: tr) Q) : MF P base n k fl (⟨g, d, .call f as⟩ :: l) K e h cs tr Q := ⟨MG.rep hg ha hc (by simpa using hx.run)⟩
end
end Go.Proofs.Ytjlfojgacnphmaa.Sym

namespace Go.Proofs.Ytjlfojgacnphmaa.Sym
open Go Go.RowKit Go.Proofs.Ytjlfojgacnphmaa.Sim
set_option linter.unusedSimpArgs false
set_option linter.unusedVariables false
section
variable {P : Program} {base n k : Nat} {e : Env} {h : HS} {Q : QX} {K : List Fr} {id : Nat} {cs : List Rec} {fl : List (Nat × List Nat)} {tr : List TX}
def isNewK : LK → Bool
  | .new _ => true
  | .box _ => true
  | .bldS .. => true
  | _ => false
theorem isNew_of {o : Oper} {lk : LK} (h : Lw P o.op lk) : isNew o = isNewK lk := by
  unfold isNew
  generalize o.op = p at h
  cases h <;> rfl
theorem steady3_if {ops : Array Oper} {T : Nat → SF} {H : Nat → SH} {V : Nat → SV} {W : Nat → Bool} (hs : ∀ i ks, (i, ks) ∈ reads3 P ops → ∀ o, ops[i]? = some o → W i = true → ∀ k ∈ ks, ∃ h2, Sim.step P (fun _ _ _ => none) (T i) (H k) o = some (V i, h2)) : Steady3 P ops T H V W := by
  intro i o ho hc hw c hcan h1 h2
  have hm := masks_sound ops.toList ops.toList [] [] rfl rfl (fun j i hb => by simp at hb)
  have hi := idxs_mem (P := P) 1 ops.toList ops.toList 0 [] rfl rfl i o (Nat.zero_le _) (by simpa using ho) hc
  refine hs i _ (List.mem_map.2 ⟨i, hi, rfl⟩) o ho hw c (List.mem_filter.2 ⟨?_, ?_⟩)
  · rcases hcan with rfl | ⟨e, q, g1, g2, rfl⟩
    · simp
    · exact List.mem_cons_of_mem _ (List.mem_map.2 ⟨e, effs_mem (P := P) ops.toList ops.toList 0 [] rfl rfl e q (Nat.zero_le _) (by simpa using g1) g2, rfl⟩)
  · unfold needAt
    simp only [Bool.and_eq_true, List.all_eq_true]
    constructor
    · intro e he
      obtain ⟨q, g1, g2⟩ := effs_at (P := P) ops.toList ops.toList 0 [] rfl rfl e he
      by_cases hec : e < c
      · cases hb : Nat.testBit ((masks ops.toList []).getD e 0) i with
        | false => simp
        | true => exact absurd (hm e i hb) (h1 e q (by simpa using g1) g2 hec)
      · rw [nblt, decide_eq_false hec]; rfl
    · intro e he
      obtain ⟨q, g1, g2⟩ := effs_at (P := P) ops.toList ops.toList 0 [] rfl rfl e he
      by_cases hec : c ≤ e
      · cases hb : Nat.testBit ((masks ops.toList []).getD i 0) e with
        | false => simp
        | true => exact absurd (hm i e hb) (h2 e q (by simpa using g1) g2 hec)
      · rw [nble, decide_eq_false hec]; rfl
theorem steadyN_ok (hmix : P.follows .mixedOrders = true) {call : FuncId → List SV → SH → Option (SV × SH)} (hc : CallOK P base call) {id : Nat} {ops : Array Oper} (hord : inOrder3 P ops (masks ops.toList []) ops.toList 0 [] = true) {l : List Tr} {t t1 : SF} {h h1 : SH} (htr : traceN P call ops ops.toList h.next t ⟨h.m, h.next + ops.size⟩ = some (l, t1, h1))
    (hsd : ∀ i ks, (i, ks) ∈ reads3 P ops → ∀ o, ops[i]? = some o → ∀ x, l[i]? = some x → x.w = true → ∀ k ∈ ks, ∃ h2, Sim.step P (fun _ _ _ => none) x.t (heapAt l h1 k) o = some (x.v, h2)) {φ : Ph} {a : Act} {w : World} (ht : TR φ t a) (hr : HR base φ h w) : (Code.region id ops true).wp P (Post base φ h w a.defers .normal t1 h1) a w := by
  have hO := ord3_of hord
  obtain ⟨T, H, V, W, e1, e2, e3, e4, e5, e6⟩ := trace_textN ops ops.toList _ _ _ _ _ _ htr
  simp only [Array.length_toList] at e3 e4 e5
  have e6' : ∀ i o, ops[i]? = some o → _ := fun i o ho => e6 i o (by simpa using ho)
  have x : TextN P call ops h.next T H V W := ⟨fun i o ho => (e6' i o ho).1, fun i o ho => (e6' i o ho).2.1, fun i o ho => (e6' i o ho).2.2.1, fun i o ho => (e6' i o ho).2.2.2.1⟩
  have hst : Steady3 P ops T H V W := steady3_if fun i ks hm o ho hw k hk => by
    have hl := (e6' i o ho).2.2.2.2
    obtain ⟨h2, hs⟩ := hsd i ks hm o ho _ hl hw k hk
    have hat : heapAt l h1 k = H k := by
      unfold heapAt
      have hkn := reads3_le (i, ks) hm k hk
      by_cases hkl : k < ops.size
      · rw [(e6' k _ (Array.getElem?_eq_getElem hkl)).2.2.2.2]
      · rw [List.getElem?_eq_none (by omega)]
        have : k = ops.size := by omega
        rw [this, e4]
    rw [hat] at hs
    exact ⟨h2, hs⟩
  refine wp_region_any hmix ?_
  have hf : ∀ i, (Array.replicate ops.size false).getD i false = false := fun i => by
    rw [Array.getD_eq_getD_getElem?, Array.getElem?_replicate]
    split <;> rfl
  have hw1 : ({ w with drawn := w.drawn + 1 } : World).heap = w.heap := rfl
  have r1 := hr.same hw1
  obtain ⟨r2, m2⟩ := r1.forget (h' := ⟨h.m, h.next + ops.size⟩) (Nat.le_add_right _ _) (fun b q hb => hb)
  have hfr : ∀ n, h.next ≤ n → φ n = none := fun n hn => by
    cases hq : φ n with
    | none => rfl
    | some L => have := hr.dom n L hq; omega
  refine any3_sound (φ0 := φ) (h0 := h) (w0 := w) hc x hO hst (Nat.le_refl _) ops.size _ a _ φ 0 (by simp) (by simp) (fun j q hq hj => absurd ((hf j).symm.trans hj) (by simp)) (Nat.zero_le _) (.inl rfl) (fun e q hq hqc => by rw [hf]; simp) ?_ (fun j o g1 g2 g3 g4 => hfr _ (by omega)) ?_ fun a2 w2 φ2 g1 g2 g3 g4 => ?_
  · refine ⟨by rw [e2]; exact r2, ?_, by rw [e2]; exact Nat.le_refl _, fun j o q g1 g2 g3 g4 => ?_, fun j j' o o' L L' a1 a2 a3 a4 => ?_⟩
    · rw [e2]
      exact (Mv.same (w := w) (w' := { w with drawn := w.drawn + 1 }) rfl rfl rfl rfl).trans m2
    · rw [hf] at g4; cases g4
    · rw [hf] at a4; cases a4
  · have hcur : ∀ m, cur ops (T 0) V (fun i => (Array.replicate ops.size false).getD i false) m = T 0 := by
      intro m
      induction m with
      | zero => rfl
      | succ m ih => simp only [cur]; rw [if_neg (by rw [hf]; simp), ih]
    rw [hcur, e1]
    exact ht
  · exact ⟨φ2, rfl, by rw [← e3]; exact g1, g2, by rw [← e4]; exact g3, by rw [← e4]; exact g4⟩
def PreN (P : Program) (n : Nat) (l0 : List LOp) (nb0 : Nat) (e0 : Env) (h0 : HS) (l : List LOp) (nb : Nat) (e : Env) (h : HS) (cs : List Rec) (tr : List TX) : Prop :=
  ∀ ops lo0, lowerL P n ops lo0 = some l0 → ∃ los lo, lo0 = los ++ lo ∧ lowerL P n ops lo = some l ∧ los.length = tr.length ∧ (∀ (i : Nat) (o : Oper) (x : TX), los[i]? = some o → tr[i]? = some x → x.w = true → Lw P o.op x.k) ∧
    ∀ call : FuncId → List SV → SH → Option (SV × SH), (∀ c ∈ cs, call c.f c.args c.h = some (c.r, c.h')) → traceN P call ops lo0 nb0 (toSF n e0) h0.sh = match traceN P call ops lo nb (toSF n e) h.sh with
      | some (r, t', h') => some (tr.map (TX.tr n) ++ r, t', h')
      | none => none
structure MN (P : Program) (base n k : Nat) (fl : List (Nat × List Nat)) (s : Nat) (l : List LOp) (nb : Nat) (K : List Fr) (e : Env) (h : HS) (cs : List Rec) (tr : List TX) (Q : QX) : Prop where
  run : ∀ id l0 e0 (h0 : HS), PreN P n l0 h0.next e0 ⟨h0.l, h0.next + s⟩ l nb e h cs tr.reverse → (∀ c ∈ cs, Call P base c.f c.args c.h c.r c.h') → M P base n k (.code (.regG id l0 fl s)) K e0 h0 Q
variable {s nb : Nat}
theorem M.regG {l : List LOp} {nx : Nat} (hnx : h.next + s = nx) (hx : MN P base n k fl s l h.next K e ⟨h.l, nx⟩ [] [] Q) : M P base n k (.code (.regG id l fl s)) K e h Q := by
  subst hnx
  exact hx.run id l e h (fun ops lo hl => ⟨[], lo, rfl, hl, rfl, fun i o x h => by simp at h, fun call _ => by
    simp only [List.reverse_nil, List.map_nil, List.nil_append]
    split
    · rename_i h; exact h
    · rename_i h; exact h⟩) (fun c hc => by cases hc)
theorem MN.nil {tr2 : List TX} (hmix : P.follows .mixedOrders = true) (hf : Fnl cs) (hrev : revA tr [] = tr2) (hs : StX P n tr2 h fl) (hx : M P base n k (.out .normal) K e h Q) : MN P base n k fl s [] nb K e h cs tr Q := ⟨fun id l0 e0 h0 hp hc => ⟨⟨fun code hl φ a w ht hr => by
  rw [revA_eq, List.append_nil] at hrev
  rw [hrev] at hp
  obtain ⟨ops, rfl, hl1, ho, hfl, hsz⟩ := lowerC_regG hl
  obtain ⟨los, lo, e1, hlo, e2, e3, e4⟩ := hp ops ops.toList hl1
  obtain rfl := lowerL_nil hlo
  have h1 := e4 (orc cs) hf
  simp only [traceN, List.append_nil] at h1
  rw [← hsz] at h1
  refine wp_mono (steadyN_ok (h := h0.sh) hmix (orc_ok hc) ho h1 (fun i ks hm o hoo x hx hw k hk => ?_) ht hr) fun ex a' w' hp => ?_
  · rw [hfl] at hm
    rw [List.getElem?_map, Option.map_eq_some_iff] at hx
    obtain ⟨y, hy, rfl⟩ := hx
    have h2 := hs.get i ks hm y hy hw k hk
    rw [List.append_nil] at e1
    have h3 : los[i]? = some o := by rw [← e1]; simpa using hoo
    rw [hAt_eq]
    exact ⟨_, h2.run o _ (e3 i o y h3 hy hw)⟩
  · obtain ⟨φ', rfl, p2, p3, p4, p5⟩ := hp
    exact ⟨.normal, e, h, φ', hx.run, rfl, p2, p3, p4, .of p5⟩⟩⟩⟩
theorem PreN.step {l0 : List LOp} {nb0 : Nat} {e0 : Env} {h0 : HS} {g : Option (Nat × Bool)} {d : Option Nat} {lk : LK} {l : List LOp} {v : XV} {h' : HS} {cs' : List Rec} (hsub : ∀ c ∈ cs, c ∈ cs') (hp : PreN P n l0 nb0 e0 h0 (⟨g, d, lk⟩ :: l) nb e h cs tr) (hg : GOK e g)
    (ho : ∀ (call : FuncId → List SV → SH → Option (SV × SH)) (o : Oper), (∀ c ∈ cs', call c.f c.args c.h = some (c.r, c.h')) → Lw P o.op lk → stepN P call nb (toSF n e) h.sh o = some (v.sv, h'.sh)) : PreN P n l0 nb0 e0 h0 l (nb + 1) (push d v e) h' cs' (tr ++ [⟨lk, e, h, v, true⟩]) := fun ops lo0 hl => by
  obtain ⟨los, lo, rfl, hlo, e2, e3, e4⟩ := hp ops lo0 hl
  obtain ⟨o, r, rfl, h1, h2⟩ := lowerL_cons hlo
  obtain ⟨h3, h4, h5, h6⟩ := lowerOp_eq h1
  refine ⟨los ++ [o], r, by simp, h2, by simp [e2], fun i q x hq hx hw => ?_, fun call hcall => ?_⟩
  · by_cases hi : i < tr.length
    · rw [List.getElem?_append_left (by omega)] at hq
      rw [List.getElem?_append_left hi] at hx
      exact e3 i q x hq hx hw
    · have hil : i = tr.length := by
        have := (List.getElem?_eq_some_iff.1 hx).1
        simp at this; omega
      subst hil
      rw [← e2, List.getElem?_append_right (Nat.le_refl _)] at hq
      rw [List.getElem?_append_right (Nat.le_refl _)] at hx
      simp at hq hx
      subst hq hx
      exact h5
  · rw [e4 call fun c hc => hcall c (hsub c hc)]
    simp only [traceN, hg.wanted ops o h4, ho call o hcall h5]
    rw [push_sf h3, h6]
    cases traceN P call ops r (nb + 1) (toSF n (push d v e)) h'.sh with
    | none => rfl
    | some q => obtain ⟨q1, q2, q3⟩ := q; simp [TX.tr]
theorem PreN.rev {l0 : List LOp} {nb0 : Nat} {e0 : Env} {h0 : HS} {l : List LOp} {x : TX} (hp : PreN P n l0 nb0 e0 h0 l nb e h cs (tr.reverse ++ [x])) : PreN P n l0 nb0 e0 h0 l nb e h cs (x :: tr).reverse := by rw [List.reverse_cons]; exact hp
theorem MN.op {g : Option (Nat × Bool)} {d : Option Nat} {lk : LK} {l : List LOp} {v : XV} {h' : HS} (hk : isNewK lk = false) (hg : GOK e g) (ho : SOp P n lk e h v h') (hx : MN P base n k fl s l (nb + 1) K (push d v e) h' cs (⟨lk, e, h, v, true⟩ :: tr) Q) : MN P base n k fl s (⟨g, d, lk⟩ :: l) nb K e h cs tr Q := ⟨fun id l0 e0 h0 hp hc =>
  hx.run id l0 e0 h0 (PreN.rev (hp.step (fun c hc => hc) hg fun call o _ hl => by
    unfold stepN
    rw [isNew_of hl, hk]
    exact ho.run o call hl)) hc⟩
theorem MN.new {g : Option (Nat × Bool)} {d : Option Nat} {lk : LK} {l : List LOp} {v : XV} {h' : HS} (hk : isNewK lk = true) (hg : GOK e g) (ho : SOp P n lk e ⟨h.l, nb⟩ v h') (hx : MN P base n k fl s l (nb + 1) K (push d v e) ⟨h'.l, h.next⟩ cs (⟨lk, e, h, v, true⟩ :: tr) Q) : MN P base n k fl s (⟨g, d, lk⟩ :: l) nb K e h cs tr Q := ⟨fun id l0 e0 h0 hp hc =>
  hx.run id l0 e0 h0 (PreN.rev (hp.step (fun c hc => hc) hg fun call o _ hl => by
    unfold stepN
    rw [isNew_of hl, hk]
    have := ho.run o call hl
    have e1 : (⟨h.sh.m, nb⟩ : SH) = (⟨h.l, nb⟩ : HS).sh := rfl
    simp only [e1, this]
    rfl)) hc⟩
theorem MN.out {w : Nat} {g : Bool} {d : Option Nat} {lk : LK} {l : List LOp} (hw : ∀ ops o, lowG ops o.guard = some (some (w, g)) → wantedS ops (toSF n e) o = some false) (hx : MN P base n k fl s l (nb + 1) K (push d (.tup []) e) h cs (⟨lk, e, h, .tup [], false⟩ :: tr) Q) : MN P base n k fl s (⟨some (w, g), d, lk⟩ :: l) nb K e h cs tr Q := ⟨fun id l0 e0 h0 hp hc =>
  hx.run id l0 e0 h0 (fun ops lo0 hl => by
    rw [List.reverse_cons]
    obtain ⟨los, lo, rfl, hlo, e2, e3, e4⟩ := hp ops lo0 hl
    obtain ⟨o, r, rfl, h1, h2⟩ := lowerL_cons hlo
    obtain ⟨h3, h4, h5, h6⟩ := lowerOp_eq h1
    refine ⟨los ++ [o], r, by simp, h2, by simp at e2 ⊢; exact e2, fun i q x hq hx hw' => ?_, fun call hcall => ?_⟩
    · by_cases hi : i < tr.reverse.length
      · rw [List.getElem?_append_left (by omega)] at hq
        rw [List.getElem?_append_left hi] at hx
        exact e3 i q x hq hx hw'
      · have hil : i = tr.reverse.length := by
          have := (List.getElem?_eq_some_iff.1 hx).1
          simp at this hi ⊢; omega
        subst hil
        rw [List.getElem?_append_right (Nat.le_refl _)] at hx
        simp at hx
        subst hx
        cases hw'
    · rw [e4 call hcall]
      simp only [traceN, hw ops o h4]
      have e5 : (toSF n e).put o.dst (.tup []) = toSF n (push d (.tup []) e) := by
        rw [show (SV.tup []) = (XV.tup []).sv by simp [XV.sv, XV.svs], push_sf h3, h6]
      rw [e5]
      cases traceN P call ops r (nb + 1) (toSF n (push d (.tup []) e)) h.sh with
      | none => rfl
      | some q => obtain ⟨q1, q2, q3⟩ := q; simp [TX.tr, XV.sv, XV.svs]) hc⟩
theorem MN.use {g : Option (Nat × Bool)} {d : Option Nat} {f : FuncId} {as : List LX} {l : List LOp} {vs args : List XV} {r r2 : XV} {hs hs' : HS} (hg : GOK e g) (C : CallS P base f args hs r hs') (ρ : List (Nat × Nat)) (ha : xevs e as = some vs) (hv : XV.rens (look ρ) args = some vs) (hρ : rhoIn ρ hs h.next = true) (hh : HeapOK (look ρ) h hs.l)
    {l2 : List (Nat × Option XO)} (hr2 : r.ren (gOf ρ hs.next h.next) = some r2) (hl2 : frameL (gOf ρ hs.next h.next) hs'.l = some l2)
    (hx : MN P base n k fl s l (nb + 1) K (push d r2 e) ⟨appL l2 (appL (drops ρ) h.l), h.next + (hs'.next - hs.next)⟩ (⟨f, vs.map XV.sv, h.sh, r2.sv, HS.sh ⟨appL l2 (appL (drops ρ) h.l), h.next + (hs'.next - hs.next)⟩⟩ :: cs) (⟨.call f as, e, h, r2, true⟩ :: tr) Q) :
    MN P base n k fl s (⟨g, d, .call f as⟩ :: l) nb K e h cs tr Q := ⟨fun id l0 e0 h0 hp hc =>
  hx.run id l0 e0 h0 (PreN.rev (hp.step (fun c hc => List.mem_cons_of_mem _ hc) hg fun call o hcall hl => by
    unfold stepN
    rw [isNew_of hl]
    exact step_call ha (hcall _ (List.mem_cons_self ..)) o hl)) (fun c hx => by
    rcases List.mem_cons.1 hx with rfl | hx
    · exact C.use ρ hρ hv hh hr2 hl2
    · exact hc c hx)⟩
theorem MN.use0 {g : Option (Nat × Bool)} {d : Option Nat} {f : FuncId} {as : List LX} {l : List LOp} {vs args : List XV} {r : XV} (hg : GOK e g) (C : CallS P base f args ⟨[], 0⟩ r ⟨[], 0⟩) (ha : xevs e as = some vs) (hv : XV.rens (look []) args = some vs) (hr : r.ren (gOf [] 0 h.next) = some r)
    (hx : MN P base n k fl s l (nb + 1) K (push d r e) h (⟨f, vs.map XV.sv, h.sh, r.sv, h.sh⟩ :: cs) (⟨.call f as, e, h, r, true⟩ :: tr) Q) : MN P base n k fl s (⟨g, d, .call f as⟩ :: l) nb K e h cs tr Q :=
  MN.use hg C [] ha hv rfl trivial hr rfl hx
theorem MN.same {e1 : Env} {l : List LOp} (h1 : toSF n e1 = toSF n e) (hx : MN P base n k fl s l nb K e1 h cs tr Q) : MN P base n k fl s l nb K e h cs tr Q := ⟨fun id l0 e0 h0 hp hc => hx.run id l0 e0 h0 (by unfold PreN at hp ⊢; rw [h1]; exact hp) hc⟩
section
variable {e1 e2 : Env} {w : Nat} {g : Bool} {d : Option Nat} {lk : LK} {l : List LOp}
theorem MN.decB {b : Bool} (hg : look e w = some (.c (.p (.bs b)))) (h1 : replS e w (.c (.p (.bool true))) = some e1) (h2 : replS e w (.c (.p (.bool false))) = some e2) (ht : b = true → MN P base n k fl s (⟨some (w, g), d, lk⟩ :: l) nb K e1 h cs tr Q) (hf : b = false → MN P base n k fl s (⟨some (w, g), d, lk⟩ :: l) nb K e2 h cs tr Q) : MN P base n k fl s (⟨some (w, g), d, lk⟩ :: l) nb K e h cs tr Q := by
  cases b with
  | true => exact MN.same (replS_SF h1 hg rfl) (ht rfl)
  | false => exact MN.same (replS_SF h2 hg rfl) (hf rfl)
theorem MN.dec {p : Prop} [Decidable p] (hg : look e w = some (.c (.p (.bs (decide p))))) (h1 : replS e w (.c (.p (.bool true))) = some e1) (h2 : replS e w (.c (.p (.bool false))) = some e2) (ht : p → MN P base n k fl s (⟨some (w, g), d, lk⟩ :: l) nb K e1 h cs tr Q) (hf : ¬ p → MN P base n k fl s (⟨some (w, g), d, lk⟩ :: l) nb K e2 h cs tr Q) : MN P base n k fl s (⟨some (w, g), d, lk⟩ :: l) nb K e h cs tr Q :=
  MN.decB hg h1 h2 (fun h => ht (by simpa using h)) (fun h => hf (by simpa using h))
theorem MN.decN {p : Prop} [Decidable p] (hg : look e w = some (.c (.p (.bs (!decide p))))) (h1 : replS e w (.c (.p (.bool true))) = some e1) (h2 : replS e w (.c (.p (.bool false))) = some e2) (ht : ¬ p → MN P base n k fl s (⟨some (w, g), d, lk⟩ :: l) nb K e1 h cs tr Q) (hf : p → MN P base n k fl s (⟨some (w, g), d, lk⟩ :: l) nb K e2 h cs tr Q) : MN P base n k fl s (⟨some (w, g), d, lk⟩ :: l) nb K e h cs tr Q :=
  MN.decB hg h1 h2 (fun h => ht (by simpa using h)) (fun h => hf (by simpa using h))
end
inductive StN where
  | st (l : List LOp) (nb : Nat) (e : Env) (h : HS) (tr : List TX)
  | no
def stepXN (lk : LK) (nb : Nat) (e : Env) (h : HS) : Option (XV × HS) :=
  match isNewK lk with
  | true => match stepX lk e ⟨h.l, nb⟩ with
    | some (v, h') => some (v, ⟨h'.l, h.next⟩)
    | none => none
  | false => stepX lk e h
def goNw : Nat → List LOp → Nat → Env → HS → List TX → StN
  | 0, l, nb, e, h, tr => .st l nb e h tr
  | _ + 1, [], nb, e, h, tr => .st [] nb e h tr
  | m + 1, ⟨none, d, k⟩ :: l, nb, e, h, tr => match stepXN k nb e h with
    | some (v, h') => goNw m l (nb + 1) (pushS d v e) h' (⟨k, e, h, v, true⟩ :: tr)
    | none => .st (⟨none, d, k⟩ :: l) nb e h tr
  | m + 1, ⟨some (s, w), d, k⟩ :: l, nb, e, h, tr => match look e s, w with
    | some (.c (.p (.bool true))), true => match stepXN k nb e h with
      | some (v, h') => goNw m l (nb + 1) (pushS d v e) h' (⟨k, e, h, v, true⟩ :: tr)
      | none => .st (⟨some (s, w), d, k⟩ :: l) nb e h tr
    | some (.c (.p (.bool false))), false => match stepXN k nb e h with
      | some (v, h') => goNw m l (nb + 1) (pushS d v e) h' (⟨k, e, h, v, true⟩ :: tr)
      | none => .st (⟨some (s, w), d, k⟩ :: l) nb e h tr
    | some (.c (.p (.bool true))), false => goNw m l (nb + 1) (pushS d (.tup []) e) h (⟨k, e, h, .tup [], false⟩ :: tr)
    | some (.c (.p (.bool false))), true => goNw m l (nb + 1) (pushS d (.tup []) e) h (⟨k, e, h, .tup [], false⟩ :: tr)
    | some (.tup _), _ => goNw m l (nb + 1) (pushS d (.tup []) e) h (⟨k, e, h, .tup [], false⟩ :: tr)
    | _, _ => .st (⟨some (s, w), d, k⟩ :: l) nb e h tr
theorem MN.opX {g : Option (Nat × Bool)} {d : Option Nat} {lk : LK} {l : List LOp} {v : XV} {h' : HS} (hg : GOK e g) (hs : stepXN lk nb e h = some (v, h')) (hx : MN P base n k fl s l (nb + 1) K (push d v e) h' cs (⟨lk, e, h, v, true⟩ :: tr) Q) : MN P base n k fl s (⟨g, d, lk⟩ :: l) nb K e h cs tr Q := by
  unfold stepXN at hs
  split at hs
  · rename_i hk
    split at hs
    · rename_i v1 h1 he
      simp only [Option.some.injEq, Prod.mk.injEq] at hs
      obtain ⟨rfl, rfl⟩ := hs
      exact .new hk hg (stepX_ok he) hx
    · cases hs
  · rename_i hk
    exact .op hk hg (stepX_ok hs) hx
theorem goNw_ok : ∀ (m : Nat) {l l' : List LOp} {nb nb' : Nat} {e e' : Env} {h h' : HS} {tr tr' : List TX}, goNw m l nb e h tr = .st l' nb' e' h' tr' → MN P base n k fl s l' nb' K e' h' cs tr' Q → MN P base n k fl s l nb K e h cs tr Q
  | 0, l, l', nb, nb', e, e', h, h', tr, tr', hr, hx => by
    simp only [goNw, StN.st.injEq] at hr
    obtain ⟨rfl, rfl, rfl, rfl, rfl⟩ := hr
    exact hx
  | m + 1, l, l', nb, nb', e, e', h, h', tr, tr', hr, hx => by
    have stop : StN.st l nb e h tr = .st l' nb' e' h' tr' → MN P base n k fl s l nb K e h cs tr Q := fun hr => by
      simp only [StN.st.injEq] at hr
      obtain ⟨rfl, rfl, rfl, rfl, rfl⟩ := hr
      exact hx
    unfold goNw at hr
    split at hr
    · rename_i heq; cases heq
    · exact stop hr
    · rename_i heq
      cases heq
      split at hr
      · rename_i hs
        exact .opX trivial hs (goNw_ok _ hr hx)
      · exact stop hr
    · rename_i heq
      cases heq
      split at hr
      · split at hr
        · rename_i hl _ _ _ hs
          exact .opX hl hs (goNw_ok _ hr hx)
        · exact stop hr
      · split at hr
        · rename_i hl _ _ _ hs
          exact .opX hl hs (goNw_ok _ hr hx)
        · exact stop hr
      · rename_i hl
        exact .out (fun ops o hg' => by rw [wanted_of hg' hl]; rfl) (goNw_ok _ hr hx)
      · rename_i hl
        exact .out (fun ops o hg' => by rw [wanted_of hg' hl]; rfl) (goNw_ok _ hr hx)
      · rename_i hl
        exact .out (fun ops o hg' => by rw [wanted_of hg' hl]; simp [XV.sv]) (goNw_ok _ hr hx)
      · exact stop hr
theorem MN.go {l l' : List LOp} {nb' : Nat} {e' : Env} {h' : HS} {tr' : List TX} (hr : goNw 1000 l nb e h tr = .st l' nb' e' h' tr') (hx : MN P base n k fl s l' nb' K e' h' cs tr' Q) : MN P base n k fl s l nb K e h cs tr Q := goNw_ok 1000 hr hx
theorem MN.goN (m : Nat) {l l' : List LOp} {nb' : Nat} {e' : Env} {h' : HS} {tr' : List TX} (hr : goNw m l nb e h tr = .st l' nb' e' h' tr') (hx : MN P base n k fl s l' nb' K e' h' cs tr' Q) : MN P base n k fl s l nb K e h cs tr Q := goNw_ok m hr hx
/-! Calls of function values in drawn regions. -/
end
end Go.Proofs.Ytjlfojgacnphmaa.Sym

namespace Go.Proofs.Ytjlfojgacnphmaa.Sim
open Go Go.RowKit
set_option linter.unusedSimpArgs false
set_option linter.unusedVariables false
variable {P : Program}
theorem choose_run (n : Nat) (hn : 0 < n) (w : World) : ∃ (i : Nat) (w2 : World), i < n ∧ w2.heap = w.heap ∧ w2.os = w.os ∧ w2.tape = w.tape ∧ w2.output = w.output ∧ (choose (.mapNext n)).run P w = .ok i w2 := by
  by_cases hf : n ≤ 1
  · refine ⟨0, w, hn, rfl, rfl, rfl, rfl, ?_⟩
    show (if (Question.mapNext n).forced = true then _ else _) = _
    rw [if_pos (by simpa [Question.forced] using hf)]
    rfl
  · refine ⟨w.tape w.drawn (.mapNext n) % n, { w with drawn := w.drawn + 1 }, Nat.mod_lt _ hn, rfl, rfl, rfl, rfl, ?_⟩
    show (if (Question.mapNext n).forced = true then _ else _) = _
    rw [if_neg (by simpa [Question.forced] using hf)]
    rfl
theorem next_any {base : Nat} {φ : Ph} {h : SH} {w : World} (r : HR base φ h w) {rb b since last clock : Nat} {seen : List Nat} {es : List (Nat × SC × SV)} {a : Value} (hx : VR φ (.c (.ptr rb 0)) a) (hi : h.get rb = some (.iter (some b) since seen last)) (hb : h.get b = some (.map es clock))
    (hcond : ¬ (!seen.isEmpty && !es.isEmpty && es.all (fun e => Nat.ble last e.1)) = true) {l : List (Nat × SC × SV)} (g1 : es.filter (fun e => !(seen.any (Nat.beq e.1)) && Nat.blt e.1 since) = l) (g2 : es.filter (fun e => !(seen.any (Nat.beq e.1)) && !(Nat.blt e.1 since)) = []) (hne : l ≠ []) (ty : TypeId) :
    ∃ e ∈ l, Fits base φ h w (.tup [.c (.bool true), .c e.2.1, e.2.2]) (h.put rb (some (.iter (some b) since (seen ++ [e.1]) clock))) ((Instr.next a false ty).run P w) := by
  obtain ⟨LI, hLI, rfl⟩ := hx
  obtain ⟨k1, k2, m', k3, k4⟩ := ptr_at r hi hLI
  obtain ⟨L, hL, rfl⟩ := k4
  obtain ⟨hbase, vs, h1, h2⟩ := r.map hb hL
  have hcnd : (!(seen.toArray).isEmpty && !vs.isEmpty && vs.all (fun e => decide (e.born ≥ last))) = false := by
    have e1 : es.all (fun e => Nat.ble last e.1) = vs.toList.all (fun e => decide (e.born ≥ last)) := all2_all h2 (fun x e hxe => by
      rw [hxe.1]
      by_cases hle : last ≤ x.1
      · rw [Nat.ble_eq_true_of_le hle]; simp [hle]
      · have : Nat.ble last x.1 = false := by
          cases hq : Nat.ble last x.1 with
          | false => rfl
          | true => exact absurd (Nat.le_of_ble_eq_true hq) hle
        rw [this]; simp; omega)
    have e2 : es.isEmpty = vs.isEmpty := by
      have := h2.length
      cases es with
      | nil => simp at this; simp [Array.isEmpty, ← this]
      | cons _ _ => simp at this; simp [Array.isEmpty, ← this]
    rw [e1, e2] at hcond
    simpa using hcond
  have f1 := filter_all2 (p := fun e => !(seen.any (Nat.beq e.1)) && Nat.blt e.1 since) (q := fun e => !(seen.toArray.contains e.born) && decide (e.born < since)) h2 (fun x e hxe => by
    rw [hxe.1, any_beq, nblt, List.contains_toArray])
  have f2 := filter_all2 (p := fun e => !(seen.any (Nat.beq e.1)) && !(Nat.blt e.1 since)) (q := fun e => !(seen.toArray.contains e.born) && decide (e.born ≥ since)) h2 (fun x e hxe => by
    rw [hxe.1, any_beq, nblt, List.contains_toArray]
    by_cases hlt : x.1 < since
    · simp [hlt]
    · simp [hlt]; omega)
  have hold : ((vs.filter fun e => !(seen.toArray.contains e.born)).filter fun e => decide (e.born < since)) = (vs.toList.filter fun e => !(seen.toArray.contains e.born) && decide (e.born < since)).toArray := by
    apply Array.ext'; simp [List.filter_filter, Bool.and_comm]
  have hnew : ((vs.filter fun e => !(seen.toArray.contains e.born)).filter fun e => decide (e.born ≥ since)) = (vs.toList.filter fun e => !(seen.toArray.contains e.born) && decide (e.born ≥ since)).toArray := by
    apply Array.ext'; simp [List.filter_filter, Bool.and_comm]
  rw [g1] at f1
  rw [g2] at f2
  have n2 : vs.toList.filter (fun e => !(seen.toArray.contains e.born) && decide (e.born ≥ since)) = [] := by
    have := f2.length; simpa using this.symm
  rw [n2] at hnew
  obtain ⟨Y, hY⟩ : ∃ Y, Y = vs.toList.filter (fun e => !(seen.toArray.contains e.born) && decide (e.born < since)) := ⟨_, rfl⟩
  rw [← hY] at f1 hold
  have hlen := f1.length
  have hpos : 0 < Y.length := by
    rw [← hlen]
    exact List.length_pos_iff.2 hne
  have hcand : ((if (Y.toArray).isEmpty = true then #[(none : Option MapEntry)] else #[]) ++ (Y.toArray ++ (#[] : Array MapEntry)).map some) = (Y.map some).toArray := by
    rw [if_neg (by cases Y with
      | nil => simp at hpos
      | cons a l => simp)]
    apply Array.ext'; simp
  have hlt : LI.m < w.heap.size := (Array.getElem?_eq_some_iff.1 k3).1
  obtain ⟨i, w2, hin, e1, e2, e3, e4, hrun⟩ := choose_run (P := P) Y.length hpos w
  obtain ⟨e', hye⟩ : ∃ e', Y[i]? = some e' := ⟨_, List.getElem?_eq_getElem hin⟩
  obtain ⟨e, hle⟩ : ∃ e, l[i]? = some e := ⟨_, List.getElem?_eq_getElem (by omega)⟩
  obtain ⟨e'', hy2, r1, r2, r3⟩ := f1.get hle
  rw [hye] at hy2
  cases hy2
  refine ⟨e, List.mem_of_getElem? hle, ?_⟩
  have r' := r.same e1
  have k3' : w2.heap[LI.m]? = some (.mapIter (some L.m) since seen.toArray last) := by rw [e1]; exact k3
  obtain ⟨q1, q2⟩ := Fits.set (base := base) (o := .mapIter (some L.m) since (seen.toArray.push e'.born) clock) (q := .iter (some b) since (seen ++ [e.1]) clock) r' ⟨_, hi, rfl, hLI⟩ (by rw [e1]; exact hlt) (fun w' hw => ⟨k1, k2, _, by rw [hw, r1]; simp, L, hL, rfl⟩)
  refine ⟨.tuple #[.bool true, e'.key, e'.val], _, φ, ?_, ⟨_, rfl, rfl, r2, r3, trivial⟩, q1, (Mv.same e1 e2 e3 e4).trans q2⟩
  simp only [Instr.next, k2, Nat.zero_add, Sem.run_bind, run_get rfl k3, run_get rfl h1, Result.andThen_ok, hcnd, hold, hnew, Bool.false_eq_true, if_false]
  have hsz : ((Y.map some).toArray).size = Y.length := by simp
  have hat : ((Y.map some).toArray)[i]? = some (some e') := by simp [hye]
  rw [hcand, hsz, hrun]
  simp only [Result.andThen_ok, hat, Sem.run_bind, run_set _ rfl k3', Sem.run_pure]
end Go.Proofs.Ytjlfojgacnphmaa.Sim
namespace Go.Proofs.Ytjlfojgacnphmaa.Sym
open Go Go.RowKit Go.Proofs.Ytjlfojgacnphmaa.Sim
set_option linter.unusedSimpArgs false
set_option linter.unusedVariables false
section
variable {P : Program} {base n k : Nat} {e : Env} {h : HS} {Q : QX} {K : List Fr}
theorem SOp.rng {x : LX} {b clock : Nat} {es : List (Nat × XC × XV)} (hx : xev e x = some (.c (.mp b))) (hb : h.get b = some (.map es clock)) : SOp P n (.rng x) e h (.c (.ptr h.next 0)) (h.newO (.iter (some b) clock [] clock)) := ⟨fun q call hw => by
  generalize ho : q.op = op' at hw
  cases hw with
  | rng h1 h2 =>
    have hg : h.sh.get b = some (.map (es.map fun e => (e.1, e.2.1.sc, e.2.2.sv)) clock) := by rw [HS.get_sh, hb]; rfl
    simp only [Sim.step, ho, xev_ev h1 hx, XV.sv, XC.sc, sRange, h2, hg]
    rfl⟩
theorem SOp.nextN {x : LX} {rb b since last clock : Nat} {seen : List Nat} {es : List (Nat × XC × XV)} (hx : xev e x = some (.c (.ptr rb 0))) (hi : h.get rb = some (.iter (some b) since seen last)) (hb : h.get b = some (.map es clock))
    (hcond : (!seen.isEmpty && !es.isEmpty && es.all (fun e => Nat.ble last e.1)) = false) (g1 : es.filter (fun e => !(seen.any (Nat.beq e.1))) = []) : SOp P n (.next x) e h (.tup [.c (.p (.bool false))]) h := ⟨fun q call hw => by
  generalize ho : q.op = op' at hw
  cases hw with
  | next h1 =>
    have hg : h.sh.get b = some (.map (es.map fun e => (e.1, e.2.1.sc, e.2.2.sv)) clock) := by rw [HS.get_sh, hb]; rfl
    have hr : h.sh.get rb = some (.iter (some b) since seen last) := by rw [HS.get_sh, hi]; rfl
    have c1 : (!seen.isEmpty && !(es.map fun e => (e.1, e.2.1.sc, e.2.2.sv)).isEmpty && (es.map fun e => (e.1, e.2.1.sc, e.2.2.sv)).all (fun e => Nat.ble last e.1)) = false := by
      rw [List.isEmpty_map, List.all_map]; exact hcond
    have fl : ∀ p : Nat → Bool, ((es.map fun e => (e.1, e.2.1.sc, e.2.2.sv)).filter fun e => !(seen.any (Nat.beq e.1)) && p e.1) = [] := fun p => by
      rw [List.filter_eq_nil_iff] at g1 ⊢
      intro y hy
      obtain ⟨z, hz, rfl⟩ := List.mem_map.1 hy
      have := g1 z hz
      simp only [Bool.not_eq_true] at this ⊢
      rw [this]; rfl
    simp only [Sim.step, ho, xev_ev h1 hx, XV.sv, XC.sc, sNext, hr, hg, c1, fl (fun j => Nat.blt j since), fl (fun j => !(Nat.blt j since)), Bool.false_eq_true, if_false]
    rfl⟩
theorem M.next {g : Option (Nat × Bool)} {d : Option Nat} {x : LX} {l : List LOp} {rb b since last clock : Nat} {seen : List Nat} {es : List (Nat × XC × XV)} (hg : GOK e g) (hx : xev e x = some (.c (.ptr rb 0))) (hi : h.get rb = some (.iter (some b) since seen last)) (hb : h.get b = some (.map es clock))
    (hcond : (!seen.isEmpty && !es.isEmpty && es.all (fun e => Nat.ble last e.1)) = false) (g2 : ∀ q ∈ es, q.1 < since) (hne : es.filter (fun e => !(seen.any (Nat.beq e.1))) ≠ [])
    (hm : ∀ q ∈ es, q.1 ∉ seen → M P base n k (.ops l) K (push d (.tup [.c (.p (.bool true)), .c q.2.1, q.2.2]) e) (h.put rb (some (.iter (some b) since (seen ++ [q.1]) clock))) Q) : M P base n k (.ops (⟨g, d, .next x⟩ :: l)) K e h Q := ⟨⟨fun ops lo hl φ a w ht hr R hR => by
  obtain ⟨o, r, rfl, h1, h2⟩ := lowerL_cons hl
  obtain ⟨h3, h4, h5, h6⟩ := lowerOp_eq h1
  unfold wpList
  rw [if_pos (wanted_sound ht (hg.wanted ops o h4))]
  left
  generalize ho : o.op = op' at h5
  cases h5 with
  | next hlx =>
    rename_i it
    have hgm : h.sh.get b = some (.map (es.map fun e => (e.1, e.2.1.sc, e.2.2.sv)) clock) := by rw [HS.get_sh, hb]; rfl
    have hri : h.sh.get rb = some (.iter (some b) since seen last) := by rw [HS.get_sh, hi]; rfl
    have hv : VR φ (.c (.ptr rb 0)) (a.eval it) := by
      have := ev_sound ht (xev_ev hlx hx)
      simpa only [XV.sv, XC.sc] using this
    have c1 : ¬ (!seen.isEmpty && !(es.map fun e => (e.1, e.2.1.sc, e.2.2.sv)).isEmpty && (es.map fun e => (e.1, e.2.1.sc, e.2.2.sv)).all (fun e => Nat.ble last e.1)) = true := by
      rw [List.isEmpty_map, List.all_map]
      intro e1
      have e2 : (!seen.isEmpty && !es.isEmpty && es.all (fun e => Nat.ble last e.1)) = true := e1
      rw [hcond] at e2; cases e2
    have old : ∀ q ∈ es, Nat.blt q.1 since = true := fun q hq => by rw [Nat.blt_eq]; exact g2 q hq
    have f2 : (es.map fun e => (e.1, e.2.1.sc, e.2.2.sv)).filter (fun e => !(seen.any (Nat.beq e.1)) && !(Nat.blt e.1 since)) = [] := by
      rw [List.filter_eq_nil_iff]
      intro y hy
      obtain ⟨z, hz, rfl⟩ := List.mem_map.1 hy
      simp [old z hz]
    have hne2 : (es.map fun e => (e.1, e.2.1.sc, e.2.2.sv)).filter (fun e => !(seen.any (Nat.beq e.1)) && Nat.blt e.1 since) ≠ [] := by
      intro e1
      apply hne
      rw [List.filter_eq_nil_iff] at e1 ⊢
      intro z hz hc
      exact e1 _ (List.mem_map.2 ⟨z, hz, rfl⟩) (by simp only [old z hz, Bool.and_true]; exact hc)
    obtain ⟨y, hy, hfit⟩ := next_any (P := P) hr hv hri hgm c1 rfl f2 hne2 o.type
    obtain ⟨hy1, hy2⟩ := List.mem_filter.1 hy
    obtain ⟨z, hz, rfl⟩ := List.mem_map.1 hy1
    have hns : z.1 ∉ seen := by
      simp only [Bool.and_eq_true, Bool.not_eq_true'] at hy2
      intro hmem
      have := hy2.1
      rw [any_beq] at this
      simp [hmem] at this
    refine wp_fits (r := Instr.next (a.eval it) false o.type) (by simp [execOp, ho]) hfit fun v' w' φ' hv' hr' hmv => ?_
    have ht' := (ht.mono hmv.le).put hv' o.dst
    have esv : (SV.tup [.c (.bool true), .c z.2.1.sc, z.2.2.sv]) = (XV.tup [.c (.p (.bool true)), .c z.2.1, z.2.2]).sv := by simp [XV.sv, XV.svs, XC.sc, PC.sc]
    rw [esv, push_sf h3] at ht'
    rw [h6] at ht' ⊢
    refine (hm z hz hns).run.run ops r h2 φ' _ w' ht' hr' R fun ex a2 w2 hp => hR _ _ _ ?_
    rw [put_defers] at hp
    exact hp.of (Mo.of hmv)⟩⟩
theorem findBorn_mem : ∀ {es : List (Nat × XC × XV)} {q : Nat × XC × XV}, q ∈ es → (es.map fun e => e.1).Nodup → findBorn q.1 (es.map fun e => (e.1, e.2.1.sc, e.2.2.sv)) = some (q.1, q.2.1.sc, q.2.2.sv)
  | [], q, h, _ => by cases h
  | y :: es, q, h, hn => by
    simp only [List.map_cons, List.nodup_cons] at hn
    simp only [List.map_cons, findBorn]
    rcases List.mem_cons.1 h with rfl | h
    · rw [if_pos (by simp [Nat.beq_eq_true_eq])]
    · have hne : y.1 ≠ q.1 := fun e => hn.1 (by rw [e]; exact List.mem_map.2 ⟨q, h, rfl⟩)
      rw [if_neg (by intro e; exact hne (Nat.eq_of_beq_eq_true e))]
      exact findBorn_mem h hn.2
theorem SOp.entry {x : LX} {rb b since clock : Nat} {seen : List Nat} {es : List (Nat × XC × XV)} {q : Nat × XC × XV} (hx : xev e x = some (.c (.ptr rb 0))) (hi : h.get rb = some (.iter (some b) since (seen ++ [q.1]) clock)) (hb : h.get b = some (.map es clock)) (hq : q ∈ es) (hn : (es.map fun e => e.1).Nodup) : SOp P n (.entry x) e h (.tup [.c q.2.1, q.2.2]) h := ⟨fun o call hw => by
  generalize ho : o.op = op' at hw
  cases hw with
  | entry h1 =>
    have hg : h.sh.get b = some (.map (es.map fun e => (e.1, e.2.1.sc, e.2.2.sv)) clock) := by rw [HS.get_sh, hb]; rfl
    have hr : h.sh.get rb = some (.iter (some b) since (seen ++ [q.1]) clock) := by rw [HS.get_sh, hi]; rfl
    simp only [Sim.step, ho, xev_ev h1 hx, XV.sv, XC.sc, sEntry, hr, hg, lastOf_eq, List.getLast?_append, List.getLast?_singleton, Option.some_or, if_true, findBorn_mem hq hn, Option.map_some]
    simp [XV.svs, XV.sv]⟩
end
end Go.Proofs.Ytjlfojgacnphmaa.Sym

namespace Go.Proofs.Ytjlfojgacnphmaa.Sym
open Go Go.RowKit Go.Proofs.Ytjlfojgacnphmaa.Sim
set_option linter.unusedSimpArgs false
set_option linter.unusedVariables false
section
variable {P : Program} {base n k : Nat} {e : Env} {h : HS} {Q : QX} {K : List Fr}
theorem SOp.slO {s : Nat} {x : LX} {lo hi : Option LX} {b o m l r : Nat} (hx : xev e x = some (.c (.sl b o m s none))) (hl : BndX e lo 0 l) (hr : BndX e hi m r) (h1 : l ≤ r) (h2 : r ≤ m) (hs : 0 < s) :
    SOp P n (.sl s x lo hi none) e h (.c (.sl b (o + l * s) (r - l) s none)) h := ⟨fun o call hw => by
  generalize ho : o.op = op' at hw
  generalize hm0 : (none : Option LX) = mx0 at hw
  cases hw with
  | sl g1 g2 g3 g4 g5 g6 =>
    rename_i t o' lo' hi' mx' e'
    subst hm0
    have h3 := BndX.bnd (n := n) g4 hl
    have h4 := BndX.bnd (n := n) g5 hr
    have h5 : bndM (toSF n e) mx' = some none := BndM.bnd (n := n) (e := e) g6 rfl
    simp only [Sim.step, ho, xev_ev g1 hx, XV.sv, XC.sc, sSlice, g2, g3, h3, h4, h5]
    rw [if_pos ⟨h1, trivial, hs, fun hh => by simp at hh⟩, if_pos (.inl h2)]
    rfl⟩
theorem setRange_flat (s : Nat) (el new : List PC) (i : Nat) (hi : i + new.length ≤ el.length) : setRange (flatE s el) (i * s) (flatE s new) = flatE s (el.take i ++ new ++ el.drop (i + new.length)) := by
  have h1 : (flatE s new).length = new.length * s := flatE_len s new
  simp only [setRange, h1, ← Nat.add_mul, flatE_take, flatE_drop, flatE_app]
theorem rep_flat (s : Nat) (z : PC) (hz : z.flat.length = s) (m : Nat) : rep z.flat m = flatE s (List.replicate m z) := by
  induction m with
  | zero => rfl
  | succ m ih => simp only [rep, List.replicate_succ, flatE, fit_eq hz, ih]
theorem SOp.clr {s : Nat} {x : LX} {z : PC} {zs : List XC} {b o m : Nat} {c : Option Nat} {ex : List PC} (hx : xev e x = some (.c (.sl b (o * s) m s c))) (hb : h.get b = some (.els s ex)) (hm : o + m ≤ ex.length) (h0 : m ≠ 0) (hz : zs.map XC.sc = z.flat) (hz2 : z.flat.length = s) (hs : 0 < s) :
    SOp P n (.clr zs x) e h (.tup []) (h.put b (some (.els s (ex.take o ++ List.replicate m z ++ ex.drop (o + m))))) := ⟨fun q call hw => by
  generalize ho : q.op = op' at hw
  cases hw with
  | clr h1 h2 h3 h4 h5 =>
    have h6 := zeroX_sc h5
    have h7 : (flatE s ex).length = ex.length * s := flatE_len s ex
    have h8 := setRange_flat s ex (List.replicate m z) o (by simpa using hm)
    simp only [List.length_replicate] at h8
    have h9 : (flatE s (List.replicate m z)).length = m * s := by rw [flatE_len, List.length_replicate]
    have h10 : o * s + m * s ≤ ex.length * s := by rw [← Nat.add_mul]; exact Nat.mul_le_mul_right _ hm
    simp only [Sim.step, ho, h2, evs, xev_ev h1 hx, sBuiltin, h3, h4, sClear, XV.sv, XC.sc, if_neg h0, h6, hz]
    rw [if_pos ⟨hz2, hs⟩, rep_flat s z hz2]
    simp only [SH.write, get_els hb, h9, h7, if_pos h10, h8, Option.map_some]
    rfl⟩
theorem SOp.ifc {t : TypeId} {x : LX} {y : XC} (hx : xev e x = some (.c y)) : SOp P n (.ifc t x) e h (.c (.ifc t y)) h := ⟨fun q call hw => by
  generalize ho : q.op = op' at hw
  cases hw with
  | ifc h1 h2 h3 =>
    simp only [Sim.step, ho, xev_ev h1 hx, h2, XV.sv, XC.sc]⟩
theorem SOp.asrt {t : TypeId} {x : LX} {y : XC} (hx : xev e x = some (.c (.ifc t y))) : SOp P n (.asrt t x) e h (.c y) h := ⟨fun q call hw => by
  generalize ho : q.op = op' at hw
  cases hw with
  | asrt h1 h2 h3 =>
    simp only [Sim.step, ho, xev_ev h1 hx, h2, XV.sv, XC.sc, if_true, lookRes]⟩
theorem SOp.cln {t : TypeId} {x : LX} {b c : Nat} {es : List (Nat × XC × XV)} (hx : xev e x = some (.c (.ifc t (.mp b)))) (hb : h.get b = some (.map es c)) : SOp P n (.cln x) e h (.c (.ifc t (.mp h.next))) (h.newO (.map es c)) := ⟨fun q call hw => by
  generalize ho : q.op = op' at hw
  cases hw with
  | cln h1 h2 h3 =>
    unfold isCln at h3
    split at h3
    · rename_i fn hfn
      split at h3
      · cases h3
      · rename_i hbody
        simp only [Sim.step, ho, h2, evs, xev_ev h1 hx, sExtern, hfn, hbody, if_pos h3, XV.sv, XC.sc, get_map hb]
        rfl
    · cases h3⟩
theorem SOp.eq2 {x y : LX} {a b c d : Int} (hx : xev e x = some (.agg [.p (.int .i64 a), .p (.int .i64 b)])) (hy : xev e y = some (.agg [.p (.int .i64 c), .p (.int .i64 d)])) : SOp P n (.eq2 x y) e h (.c (.p (.bs (decide (a = c) && decide (b = d))))) h := ⟨fun q call hw => by
  generalize ho : q.op = op' at hw
  cases hw with
  | eq2 h1 h2 h3 =>
    unfold isPair at h3
    split at h3
    · rename_i e0 hu
      split at h3
      · rename_i g1 g2 g3
        simp only [Bool.and_eq_true, Nat.beq_eq] at h3
        obtain ⟨⟨k1, k2⟩, k3⟩ := h3
        have hk : ∀ m : Int, keyKind P e0 (.int .i64 m) = true := fun m => by simp [keyKind, g1]
        simp only [Sim.step, ho, xev_ev h1 hx, xev_ev h2 hy, XV.sv, sBinAgg, hu, k1, k2, Bool.and_self, if_true, k3, show List.range 2 = [0, 1] from rfl, eqElems, sPart, g2, g3, List.map_cons, List.map_nil, XC.sc, PC.sc, Nat.zero_mul, Nat.one_mul, List.getElem?_cons_zero, List.getElem?_cons_succ, hk, keyEq, Option.map_some, Bool.and_true]
      · cases h3
    · cases h3⟩
theorem onesOf_svs : ∀ {l : List XC}, onesOf ((l.map XV.c).map XV.sv) = some (l.map XC.sc)
  | [] => rfl
  | x :: l => by simp only [List.map_cons, XV.sv, onesOf, onesOf_svs (l := l)]
theorem SOp.mkF {f : FuncId} {a b : List LX} {xa xb : List XC} (ha : xevs e a = some (xa.map XV.c)) (hb : xevs e b = some (xb.map XV.c)) : SOp P n (.mkF f a b) e h (.c (.cl f xa xb)) h := ⟨fun q call hw => by
  generalize ho : q.op = op' at hw
  cases hw with
  | mkF h1 h2 =>
    simp only [Sim.step, ho, xevs_evs h1 ha, xevs_evs h2 hb, onesOf_svs, XV.sv, XC.sc, scs_map]⟩
end
end Go.Proofs.Ytjlfojgacnphmaa.Sym

namespace Go.Proofs.Ytjlfojgacnphmaa.Sym
open Go Go.RowKit Go.Proofs.Ytjlfojgacnphmaa.Sim
set_option linter.unusedSimpArgs false
set_option linter.unusedVariables false
section
variable {α : Type} [DecidableEq α]
def pK (D : KD α) (l : List (Nat × α × PC)) : List (Nat × PC × PC) := l.map fun e => (e.1, D.kf e.2.1, e.2.2)
def pv (l : List (Nat × α × PC)) : List (Nat × α × XV) := l.map fun e => (e.1, e.2.1, .c (.p e.2.2))
theorem up_pK (D : KD α) (l : List (Nat × α × PC)) : upE (pK D l) = mK D (pv l) := by
  simp only [upE, pK, mK, pv, List.map_map]; rfl
theorem WkO.pmap (D : KD α) {l : List (Nat × α × PC)} {c : Nat} : WkO (.pm (pK D l) c) (.map (mK D (pv l)) c) := WkO.of (by rw [pm_so, up_pK])
theorem WkO.mapp (D : KD α) {l : List (Nat × α × PC)} {c : Nat} : WkO (.map (mK D (pv l)) c) (.pm (pK D l) c) := WkO.of (by rw [pm_so, up_pK])
def findP (a : α) : List (Nat × α × PC) → Option PC
  | [] => none
  | e :: l => if a = e.2.1 then some e.2.2 else findP a l
def setP (a : α) (v : PC) : List (Nat × α × PC) → Option (List (Nat × α × PC))
  | [] => none
  | e :: l => if a = e.2.1 then some ((e.1, a, v) :: l) else match setP a v l with
    | some r => some (e :: r)
    | none => none
def delP (a : α) : List (Nat × α × PC) → List (Nat × α × PC)
  | [] => []
  | e :: l => if a = e.2.1 then l else e :: delP a l
def updP (a : α) (v : PC) (c : Nat) (l : List (Nat × α × PC)) : List (Nat × α × PC) := match setP a v l with
  | some r => r
  | none => l ++ [(c, a, v)]
def updPC (a : α) (v : PC) (c : Nat) (l : List (Nat × α × PC)) : Nat := match setP a v l with
  | some _ => c
  | none => c + 1
theorem findK_pv (a : α) : ∀ l : List (Nat × α × PC), findK a (pv l) = (findP a l).map fun v => .c (.p v)
  | [] => rfl
  | e :: l => by
    have := findK_pv a l
    simp only [pv, List.map_cons] at this ⊢
    simp only [findK, findP]
    split
    · rfl
    · exact this
theorem setK_pv (a : α) (v : PC) : ∀ l : List (Nat × α × PC), setK a (.c (.p v)) (pv l) = (setP a v l).map pv
  | [] => rfl
  | e :: l => by
    have := setK_pv a v l
    simp only [pv, List.map_cons] at this ⊢
    simp only [setK, setP]
    split
    · rfl
    · rw [this]
      cases setP a v l <;> rfl
theorem updK_pv (a : α) (v : PC) (c : Nat) (l : List (Nat × α × PC)) : updK a (.c (.p v)) c (pv l) = pv (updP a v c l) := by
  simp only [updK, updP, setK_pv]
  cases setP a v l with
  | none => simp [pv]
  | some r => rfl
theorem updC_pv (a : α) (v : PC) (c : Nat) (l : List (Nat × α × PC)) : updC a (.c (.p v)) c (pv l) = updPC a v c l := by
  simp only [updC, updPC, setK_pv]
  cases setP a v l <;> rfl
theorem setK_val (a : α) (v v' : XV) : ∀ l : List (Nat × α × XV), (setK a v l = none ∧ setK a v' l = none) ∨ ∃ l1 l2 b, setK a v l = some (l1 ++ (b, a, v) :: l2) ∧ setK a v' l = some (l1 ++ (b, a, v') :: l2)
  | [] => .inl ⟨rfl, rfl⟩
  | e :: l => by
    simp only [setK]
    split
    · exact .inr ⟨[], l, e.1, rfl, rfl⟩
    · rcases setK_val a v v' l with ⟨h1, h2⟩ | ⟨l1, l2, b, h1, h2⟩
      · exact .inl ⟨by rw [h1], by rw [h2]⟩
      · exact .inr ⟨e :: l1, l2, b, by rw [h1]; rfl, by rw [h2]; rfl⟩
theorem updK_val (a : α) (v v' : XV) (c : Nat) (l : List (Nat × α × XV)) : updC a v c l = updC a v' c l ∧ ∃ l1 l2 b, updK a v c l = l1 ++ (b, a, v) :: l2 ∧ updK a v' c l = l1 ++ (b, a, v') :: l2 := by
  simp only [updK, updC]
  rcases setK_val a v v' l with ⟨h1, h2⟩ | ⟨l1, l2, b, h1, h2⟩
  · rw [h1, h2]; exact ⟨rfl, l, [], c, rfl, rfl⟩
  · rw [h1, h2]; exact ⟨rfl, l1, l2, b, rfl, rfl⟩
end
section
variable {P : Program} {base n k : Nat} {e : Env} {h : HS} {Q : QX} {K : List Fr}
theorem freeze_map {b0 b s m clk : Nat} {el : List PC} {c : Option Nat} {es1 es2 : List (Nat × XC × XV)} {bn : Nat} {ky : XC} (h0 : h.get b0 = some (.map (es1 ++ (bn, ky, .c (.sl b 0 m s c)) :: es2) clk)) (hne : Nat.beq b b0 = false) (hb : h.get b = some (.els s el)) (hm : m = el.length) {φ : Ph} {a : Act} {w : World} (ht : TR φ (toSF n e) a) (hr : HR base φ h.sh w) :
    ∃ ψ, TR ψ (toSF n e) a ∧ HR base ψ ((h.put b none).put b0 (some (.map (es1 ++ (bn, ky, .c (.p (.tz false s el c))) :: es2) clk))).sh w ∧ Mo k φ ψ h.sh w ((h.put b none).put b0 (some (.map (es1 ++ (bn, ky, .c (.p (.tz false s el c))) :: es2) clk))).sh w := by
  have hb' := get_els hb
  obtain ⟨L, hL, _⟩ := hr.live b _ hb'
  obtain ⟨ψ, hψ⟩ : ∃ ψ : Ph, ψ = ⟨φ.f, fun m => if m = L.m then w.heap[m]? else φ.fm m⟩ := ⟨_, rfl⟩
  obtain ⟨h1, h2, h3⟩ := HR.ice hr hb' hL ψ hψ
  have hbb : b0 ≠ b := fun e => by subst e; simp at hne
  have h0' : (h.sh.put b none).get b0 = some (XO.map (es1 ++ (bn, ky, .c (.sl b 0 m s c)) :: es2) clk).so := by rw [SH.get_put, if_neg hbb]; exact get_map h0
  obtain ⟨L0, g1, g2⟩ := h2.live b0 _ h0'
  obtain ⟨e1, vs, e2, e3⟩ := g2
  have hL0 : φ b0 = some L0 := by
    have g3 : ψ.f b0 = some L0 := g1
    rw [hψ] at g3
    exact g3
  obtain ⟨f1, f2, f3, vs', f4, f5⟩ := hr.live b0 _ (get_map h0)
  rw [hL0] at f2; cases f2
  have hvs : vs' = vs := by
    have h6 := f4.symm.trans e2
    cases h6; rfl
  subst hvs
  have hq : Live base ψ w L0 (XO.map (es1 ++ (bn, ky, .c (.p (.tz false s el c))) :: es2) clk).so := by
    refine ⟨e1, vs', e2, All2.mk ?_ fun i x y hx hy => ?_⟩
    · have := e3.length
      simpa using this
    · by_cases hi : i = es1.length
      · subst hi
        have hx' : x = (bn, ky.sc, (XV.c (.p (.tz false s el c))).sv) := by
          rw [List.getElem?_map, List.getElem?_append_right (Nat.le_refl _), Nat.sub_self] at hx
          simpa using hx.symm
        have hold : ((es1 ++ (bn, ky, XV.c (.sl b 0 m s c)) :: es2).map fun e => (e.1, e.2.1.sc, e.2.2.sv))[es1.length]? = some (bn, ky.sc, (XV.c (.sl b 0 m s c)).sv) := by
          rw [List.getElem?_map, List.getElem?_append_right (Nat.le_refl _), Nat.sub_self]; rfl
        obtain ⟨y1, z1, z2⟩ := f5.get hold
        obtain ⟨y2, z3, z4⟩ := e3.get hold
        rw [hy] at z1 z3
        cases z1; cases z3
        subst hx'
        refine ⟨z4.1, z4.2.1, ?_⟩
        have := z2.2.2
        simp only [XV.sv, XC.sc, VR1] at this ⊢
        exact CR.freeze hr hb' hL this hm ψ hψ h1
      · have hx2 : ((es1 ++ (bn, ky, XV.c (.sl b 0 m s c)) :: es2).map fun e => (e.1, e.2.1.sc, e.2.2.sv))[i]? = some x := by
          rw [← hx, List.getElem?_map, List.getElem?_map]
          congr 1
          by_cases hlt : i < es1.length
          · rw [List.getElem?_append_left hlt, List.getElem?_append_left hlt]
          · rw [List.getElem?_append_right (by omega), List.getElem?_append_right (by omega)]
            have : i - es1.length = (i - es1.length - 1) + 1 := by omega
            rw [this, List.getElem?_cons_succ, List.getElem?_cons_succ]
        obtain ⟨y2, z3, z4⟩ := e3.get hx2
        rw [hy] at z3
        cases z3
        exact z4
  obtain ⟨f1, f2⟩ := h2.change ⟨_, h0', rfl, g1⟩ (XO.map (es1 ++ (bn, ky, .c (.p (.tz false s el c))) :: es2) clk).so rfl (fun _ _ => rfl) hq rfl rfl rfl
  exact ⟨_, ht.mono h1, f1, .of (h3.trans f2)⟩
theorem M.freezeM {b0 b s m clk : Nat} {el : List PC} {c : Option Nat} {es1 es2 : List (Nat × XC × XV)} {bn : Nat} {ky : XC} {q : LC} (h0 : h.get b0 = some (.map (es1 ++ (bn, ky, .c (.sl b 0 m s c)) :: es2) clk)) (hne : Nat.beq b b0 = false) (hb : h.get b = some (.els s el)) (hm : m = el.length)
    (hx : M P base n k (.code q) K e ((h.put b none).put b0 (some (.map (es1 ++ (bn, ky, .c (.p (.tz false s el c))) :: es2) clk))) Q) : M P base n k (.code q) K e h Q := ⟨⟨fun code hl φ a w ht hr => by
  obtain ⟨ψ, g1, g2, g3⟩ := freeze_map (k := k) h0 hne hb hm ht hr
  have hd := g1
  exact wp_mono (hx.run.run code hl ψ a w g1 g2) fun ex a' w' hp => hp.of g3⟩⟩
theorem M.freezeU {α : Type} [DecidableEq α] (D : KD α) {b0 b s m : Nat} {el : List PC} {c : Option Nat} {ES : List (Nat × α × PC)} {ky : α} {c0 : Nat} {q : LC} (h0 : h.get b0 = some (.map (mK D (updK ky (.c (.sl b 0 m s c)) c0 (pv ES))) (updC ky (.c (.sl b 0 m s c)) c0 (pv ES)))) (hne : Nat.beq b b0 = false) (hb : h.get b = some (.els s el)) (hm : m = el.length)
    (hx : M P base n k (.code q) K e ((h.put b none).put b0 (some (.map (mK D (pv (updP ky (.tz false s el c) c0 ES))) (updPC ky (.tz false s el c) c0 ES)))) Q) : M P base n k (.code q) K e h Q := by
  obtain ⟨g0, l1, l2, bn, g1, g2⟩ := updK_val ky (.c (.sl b 0 m s c)) (.c (.p (.tz false s el c))) c0 (pv ES)
  have e1 : mK D (updK ky (.c (.sl b 0 m s c)) c0 (pv ES)) = mK D l1 ++ (bn, .p (D.kf ky), .c (.sl b 0 m s c)) :: mK D l2 := by rw [g1]; simp [mK]
  have e2 : mK D (pv (updP ky (.tz false s el c) c0 ES)) = mK D l1 ++ (bn, .p (D.kf ky), .c (.p (.tz false s el c))) :: mK D l2 := by rw [← updK_pv, g2]; simp [mK]
  rw [e1] at h0
  rw [e2, ← updC_pv, ← g0] at hx
  exact M.freezeM h0 hne hb hm hx
theorem Sh.freezeU {α : Type} [DecidableEq α] (D : KD α) {e' : Env} {h' : HS} {b0 b s m : Nat} {el : List PC} {c : Option Nat} {ES : List (Nat × α × PC)} {ky : α} {c0 : Nat} (h0 : h.get b0 = some (.map (mK D (updK ky (.c (.sl b 0 m s c)) c0 (pv ES))) (updC ky (.c (.sl b 0 m s c)) c0 (pv ES)))) (hne : Nat.beq b b0 = false) (hb : h.get b = some (.els s el)) (hm : m = el.length)
    (t : Sh base n k e ((h.put b none).put b0 (some (.map (mK D (pv (updP ky (.tz false s el c) c0 ES))) (updPC ky (.tz false s el c) c0 ES)))) e' h') : Sh base n k e h e' h' := by
  obtain ⟨g0, l1, l2, bn, g1, g2⟩ := updK_val ky (.c (.sl b 0 m s c)) (.c (.p (.tz false s el c))) c0 (pv ES)
  have e1 : mK D (updK ky (.c (.sl b 0 m s c)) c0 (pv ES)) = mK D l1 ++ (bn, .p (D.kf ky), .c (.sl b 0 m s c)) :: mK D l2 := by rw [g1]; simp [mK]
  have e2 : mK D (pv (updP ky (.tz false s el c) c0 ES)) = mK D l1 ++ (bn, .p (D.kf ky), .c (.p (.tz false s el c))) :: mK D l2 := by rw [← updK_pv, g2]; simp [mK]
  rw [e1] at h0
  rw [e2, ← updC_pv, ← g0] at t
  exact Sh.trans (fun φ a w ht hr => freeze_map h0 hne hb hm ht hr) t
end
end Go.Proofs.Ytjlfojgacnphmaa.Sym
