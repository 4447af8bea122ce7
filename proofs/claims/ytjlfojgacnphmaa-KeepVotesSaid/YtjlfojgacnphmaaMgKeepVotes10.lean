/- Texts of this claim, several in one: SymW, SymZ, Arg. -/
import Derived.Test.YtjlfojgacnphmaaMgKeepVotes9
namespace Go.Proofs.Ytjlfojgacnphmaa.Sym
open Go Go.RowKit Go.Proofs.Ytjlfojgacnphmaa.Sim
set_option linter.unusedSimpArgs false
set_option linter.unusedVariables false
structure Fam where
  S : Type
  mem : S → HS
  m : Nat
  hole : Nat → Bool
def Fam.gi (F : Fam) : Nat → Option Nat := fun b => bif Nat.blt b F.m && !F.hole b then some b else none
def Fam.go (F : Fam) (κ : Nat) : Nat → Option Nat := fun b => bif Nat.blt b κ || !(Nat.blt b F.m) then some b else none
def Clo (g : Nat → Option Nat) : List (Nat × Option XO) → Prop
  | [] => True
  | (b, some o) :: r => (g b = some b ∧ o.ren g = some o) ∧ Clo g r
  | (_, none) :: r => Clo g r
structure Fam.OK (F : Fam) : Prop where
  nx : ∀ s, (F.mem s).next = F.m
  clo : ∀ s, Clo F.gi (F.mem s).l
  nd : ∀ s, nodupB ((F.mem s).l.map (·.1)) = true
def Out (F : Fam) (κ : Nat) : List (Nat × Option XO) → Prop
  | [] => True
  | (b, some o) :: r => ((F.hole b || !(Nat.blt b F.m)) = true ∧ o.ren (F.go κ) = some o) ∧ Out F κ r
  | (b, none) :: r => (F.hole b || !(Nat.blt b F.m)) = true ∧ Out F κ r
theorem Clo.get {g : Nat → Option Nat} : ∀ {l : List (Nat × Option XO)} {b : Nat} {o : XO}, Clo g l → look l b = some (some o) → g b = some b ∧ o.ren g = some o
  | [], b, o, _, h => by simp [look] at h
  | (c, x) :: r, b, o, hc, h => by
    simp only [look_cons] at h
    by_cases hb : Nat.beq c b = true
    · rw [hb] at h
      simp only [cond_true, Option.some.injEq] at h
      have := Nat.eq_of_beq_eq_true hb
      subst h; subst this
      exact hc.1
    · rw [Bool.eq_false_iff.2 hb] at h
      cases x with
      | none => exact Clo.get (l := r) hc h
      | some x => exact Clo.get (l := r) hc.2 h
theorem Out.get {F : Fam} {κ : Nat} : ∀ {l : List (Nat × Option XO)} {b : Nat} {x : Option XO}, Out F κ l → look l b = some x → (F.hole b || !(Nat.blt b F.m)) = true ∧ ∀ o, x = some o → o.ren (F.go κ) = some o
  | [], b, o, _, h => by simp [look] at h
  | (c, x) :: r, b, o, hc, h => by
    simp only [look_cons] at h
    by_cases hb : Nat.beq c b = true
    · rw [hb] at h
      simp only [cond_true, Option.some.injEq] at h
      have := Nat.eq_of_beq_eq_true hb
      subst h; subst this
      cases x with
      | none => exact ⟨hc.1, fun o h => by cases h⟩
      | some x => exact ⟨hc.1.1, fun o h => by cases h; exact hc.1.2⟩
    · rw [Bool.eq_false_iff.2 hb] at h
      cases x with
      | none => exact Out.get (l := r) hc.2 h
      | some x => exact Out.get (l := r) hc.2 h
theorem Fam.gi_some {F : Fam} {b c : Nat} (h : F.gi b = some c) : c = b ∧ b < F.m ∧ F.hole b = false := by
  unfold Fam.gi at h
  cases h1 : Nat.blt b F.m && !F.hole b with
  | false => simp [h1] at h
  | true =>
    simp only [h1, cond_true, Option.some.injEq] at h
    simp only [Bool.and_eq_true, Nat.blt_eq, Bool.not_eq_true'] at h1
    exact ⟨h.symm, h1.1, h1.2⟩
theorem Fam.go_some {F : Fam} {κ b c : Nat} (h : F.go κ b = some c) : c = b ∧ (b < κ ∨ F.m ≤ b) := by
  unfold Fam.go at h
  cases h1 : Nat.blt b κ || !(Nat.blt b F.m) with
  | false => simp [h1] at h
  | true =>
    simp only [h1, cond_true, Option.some.injEq] at h
    simp only [Bool.or_eq_true, Nat.blt_eq, Bool.not_eq_true', Bool.eq_false_iff, ne_eq, Nat.blt_eq, Nat.not_lt] at h1
    exact ⟨h.symm, h1⟩
section
variable {P : Program} {base n k : Nat} {e : Env} {Q : QX} {K : List Fr}
structure CallR (P : Program) (base : Nat) (F : Fam) (κ : Nat) (f : FuncId) (args : List XV) (s : F.S) (Φ : XV → F.S → Prop) : Prop where
  fn : ∃ fn, P.funcs[f]? = some fn ∧ fn.body.isSome = true ∧ (fn.name == "runtime.NumGoroutine") = false
  run : ∀ φ (args' : List Value) w, All2 (VR φ) (args.map XV.sv) args' → HR base φ (F.mem s).sh w → Calls P f args'.toArray w fun e w' => ∃ v' φ' r s', Φ r s' ∧ e = .returned v' ∧ VR φ' r.sv v' ∧ HR base φ' (F.mem s').sh w' ∧ Mo κ φ φ' (F.mem s).sh w (F.mem s').sh w'
theorem CallR.mono {F : Fam} {κ : Nat} {f : FuncId} {args : List XV} {s : F.S} {Φ Ψ : XV → F.S → Prop} (C : CallR P base F κ f args s Φ) (h : ∀ r s', Φ r s' → Ψ r s') : CallR P base F κ f args s Ψ :=
  ⟨C.fn, fun φ args' w ha hr => Calls.mono (C.run φ args' w ha hr) fun e w' ⟨v', φ', r, s', h1, h2⟩ => ⟨v', φ', r, s', h _ _ h1, h2⟩⟩
theorem args_al {g : Nat → Option Nat} {φ ψ : Ph} (hal : Al g φ ψ) : ∀ {x y : List XV} {r : List Value}, XV.rens g x = some y → All2 (VR ψ) (y.map XV.sv) r → All2 (VR φ) (x.map XV.sv) r := by
  intro x
  induction x with
  | nil => intro y r hy h; simp only [XV.rens, Option.some.injEq] at hy; subst hy; cases r <;> first | exact h | trivial
  | cons u x ih =>
    intro y r hy h
    simp only [XV.rens] at hy
    split at hy
    · rename_i u' x' h1 h2
      simp only [Option.some.injEq] at hy
      subst hy
      cases r with
      | nil => exact h.elim
      | cons v r => exact ⟨(VR.al hal h1).2 h.1, ih h2 h.2⟩
    · cases hy
theorem CallR.leaf {F : Fam} {κ : Nat} {f : FuncId} {args0 args : List XV} {h0 h0' : HS} {r0 r2 r3 : XV} {s : F.S} {Φ : XV → F.S → Prop} (C : CallS P base f args0 h0 r0 h0') (ρ : List (Nat × Nat)) (hρ : rhoIn ρ h0 (F.mem s).next = true) (ha : XV.rens (look ρ) args0 = some args) (hh : HeapOK (look ρ) (F.mem s) h0.l)
    (hr2 : r0.ren (gOf ρ h0.next (F.mem s).next) = some r2) {l2 : List (Nat × Option XO)} (hl2 : frameL (gOf ρ h0.next (F.mem s).next) h0'.l = some l2) (r : XV) (s' : F.S) (ρ' : List (Nat × Nat)) (hρ' : rhoOK ρ' κ (F.mem s').next = true) (hr : r.ren (look ρ') = some r3) (hw : Wk r2 r3)
    (hh' : HeapOK (look ρ') ⟨appL l2 (appL (drops ρ) (F.mem s).l), (F.mem s).next + (h0'.next - h0.next)⟩ (F.mem s').l) (hΦ : Φ r s') : CallR P base F κ f args s Φ := by
  have D := C.use ρ hρ ha hh hr2 hl2
  refine ⟨D.fn, fun φ args' w hv hr' => Calls.mono (D.run φ args' w hv hr') fun en w' hp => ?_⟩
  obtain ⟨v', φ', rfl, h1, h2, h3⟩ := hp
  obtain ⟨-, s2, s3⟩ := ren_state (n := 0) (k := κ) (e := []) (e' := []) (a := ⟨#[], []⟩) hρ' trivial hh' ⟨rfl, fun i v hi => by simp [get_toSF, look] at hi⟩ h2
  exact ⟨v', _, r, s', hΦ, rfl, (VR.al (pull_al (look ρ') φ') hr).2 (hw φ' v' h1), s2, (Mo.of h3).trans s3⟩
def finR (F : Fam) (κ : Nat) (rs : List LR) (Φ : XV → F.S → Prop) : QX := fun x e h => (x = .normal ∨ x = .ret) ∧ ∃ ρ r r2 r3 s', Φ r s' ∧ retX rs e h = some r2 ∧ rhoOK ρ κ (F.mem s').next = true ∧ r.ren (look ρ) = some r3 ∧ Wk r2 r3 ∧ HeapOK (look ρ) h (F.mem s').l
theorem finR.ret {F : Fam} {κ : Nat} {rs : List LR} {Φ : XV → F.S → Prop} {e : Env} {h : HS} {r2 r3 : XV} (ok : F.OK) (r : XV) (s' : F.S) (ρ : List (Nat × Nat)) (hr : retX rs e h = some r2) (hρ : rhoOK ρ κ F.m = true) (hn : r.ren (look ρ) = some r3) (hw : Wk r2 r3) (hh : HeapOK (look ρ) h (F.mem s').l) (hΦ : Φ r s') : finR F κ rs Φ .ret e h :=
  ⟨.inr rfl, ρ, r, r2, r3, s', hΦ, hr, by rw [ok.nx s']; exact hρ, hn, hw, hh⟩
theorem finR.normal {F : Fam} {κ : Nat} {rs : List LR} {Φ : XV → F.S → Prop} {e : Env} {h : HS} {r2 r3 : XV} (ok : F.OK) (r : XV) (s' : F.S) (ρ : List (Nat × Nat)) (hr : retX rs e h = some r2) (hρ : rhoOK ρ κ F.m = true) (hn : r.ren (look ρ) = some r3) (hw : Wk r2 r3) (hh : HeapOK (look ρ) h (F.mem s').l) (hΦ : Φ r s') : finR F κ rs Φ .normal e h :=
  ⟨.inl rfl, ρ, r, r2, r3, s', hΦ, hr, by rw [ok.nx s']; exact hρ, hn, hw, hh⟩
theorem CallR.of {F : Fam} {κ : Nat} (ok : F.OK) {f : FuncId} {args : List XV} {s : F.S} {Φ : XV → F.S → Prop} {L : LF} (hng : ∀ (f : FuncId) (fn : Func), P.funcs[f]? = some fn → (fn.name == "runtime.NumGoroutine") = false) (hl : lowerF P f = some L) (hn : Nat.ble args.length L.n = true)
    (hx : X P base L.n κ L.c (argE 0 args) ⟨(F.mem s).l, F.m⟩ (finR F κ L.rs Φ)) : CallR P base F κ f args s Φ := by
  have hx : X P base L.n κ L.c (argE 0 args) (F.mem s) (finR F κ L.rs Φ) := by rw [← ok.nx s] at hx; exact hx
  unfold lowerF at hl
  split at hl
  · rename_i fn hf
    split at hl
    · rename_i b hb
      split at hl
      · rename_i c rs h1 h2
        simp only [Option.some.injEq] at hl
        subst hl
        refine ⟨⟨fn, hf, by rw [hb]; rfl, hng f fn hf⟩, fun φ args' w ha hr => ?_⟩
        refine calls_of_wp hf hb (wp_mono (hx.run b h1 φ _ w (arg_TR ha (Nat.le_of_ble_eq_true hn)) hr) fun ex a' w' hp => ?_)
        obtain ⟨x, e', h2', φ', ⟨p0, ρ, r, r2, r3, s', p1', p1, q1, q2, q3, q4⟩, rfl, p3, p4, p5, p6⟩ := hp
        obtain ⟨l, g1, g2⟩ := retX_ev (n := fn.ntmps) h2 p1
        have hend : ending P fn.results.toList (some (x, toSF fn.ntmps e', h2'.sh)) = some (r2.sv, h2'.sh) := by
          rcases p0 with rfl | rfl <;> simp only [ending, g1, g2, Option.map_some]
        obtain ⟨e0, t0, f1, f2, f3⟩ := ending_sound (base := base) (φ := φ) (h := (F.mem s).sh) (w := w) hend
        simp only [Option.some.injEq, Prod.mk.injEq] at f1
        obtain ⟨rfl, rfl, _⟩ := f1
        obtain ⟨v', r1, r2'⟩ := f3 φ' a' w' p3 p5
        obtain ⟨-, s2, s3⟩ := ren_state (k := κ) (e := e') (e' := []) q1 trivial q4 p3 p5
        have s4 : VR (pull (look ρ) φ') r.sv v' := (VR.al (pull_al (look ρ) φ') q2).2 (q3 φ' v' r2')
        rcases f2 with rfl | rfl
        · exact ⟨p4, v', r1, v', _, r, s', p1', rfl, s4, s2, p6.trans s3⟩
        · exact ⟨p4, v', r1, v', _, r, s', p1', rfl, s4, s2, p6.trans s3⟩
      · cases hl
    · cases hl
  · cases hl
theorem CallR.big {F : Fam} {κ : Nat} (ok : F.OK) {f : FuncId} {args : List XV} {s : F.S} {Φ : XV → F.S → Prop} (C : CallR P base F κ f args s Φ) {X : List (Nat × Option XO)} {N : Nat} (hX : Out F κ X) (hN : F.m ≤ N) (hκ : κ ≤ F.m) (hk : k ≤ κ) (hv : XV.rens F.gi args = some args) (hΦ : ∀ r s', Φ r s' → r.ren F.gi = some r)
    {φ : Ph} {args' : List Value} {w : World} (ha : All2 (VR φ) (args.map XV.sv) args') (hr : HR base φ (HS.sh ⟨appL X (F.mem s).l, N⟩) w) :
    Calls P f args'.toArray w fun e w' => ∃ v' ψ r s', Φ r s' ∧ e = .returned v' ∧ VR ψ r.sv v' ∧ HR base ψ (HS.sh ⟨appL X (F.mem s').l, N⟩) w' ∧ Mo k φ ψ (HS.sh ⟨appL X (F.mem s).l, N⟩) w (HS.sh ⟨appL X (F.mem s').l, N⟩) w' ∧ Le (pull (F.go κ) φ) ψ := by
  have hgi : ∀ b, b < F.m → F.hole b = false → F.gi b = some b := fun b h1 h2 => by
    unfold Fam.gi
    rw [show Nat.blt b F.m = true by simpa using h1, h2]; rfl
  have hgo : ∀ b, (b < κ ∨ F.m ≤ b) → (F.go κ) b = some b := fun b h1 => by
    unfold Fam.go
    rcases h1 with h1 | h1
    · rw [show Nat.blt b κ = true by simpa using h1]; rfl
    · rw [show Nat.blt b F.m = false by rw [Bool.eq_false_iff]; simpa using h1]; simp
  have hout : ∀ b, (F.hole b || !(Nat.blt b F.m)) = true → F.hole b = true ∨ F.m ≤ b := fun b h => by
    simp only [Bool.or_eq_true, Bool.not_eq_true', Bool.eq_false_iff, ne_eq, Nat.blt_eq, Nat.not_lt] at h
    exact h
  -- what stands in a greater memory
  have hbig : ∀ (t : F.S) b q, (HS.sh ⟨appL X (F.mem t).l, N⟩).get b = some q → (∃ o : XO, q = o.so ∧ (F.hole b = true ∨ F.m ≤ b) ∧ o.ren (F.go κ) = some o ∧ ∀ t', (HS.sh ⟨appL X (F.mem t').l, N⟩).get b = some q) ∨ ((F.mem t).sh.get b = some q ∧ ∃ o : XO, q = o.so ∧ b < F.m ∧ F.hole b = false ∧ o.ren F.gi = some o) := fun t b q hq => by
    rw [HS.get_sh] at hq
    cases ho : HS.get ⟨appL X (F.mem t).l, N⟩ b with
    | none => simp [ho] at hq
    | some o =>
      simp only [ho, Option.map_some, Option.some.injEq] at hq
      subst hq
      have h1 := HS.get_look ho
      simp only [look_app] at h1
      cases h2 : look X b with
      | some x =>
        simp only [h2, Option.some.injEq] at h1
        subst h1
        obtain ⟨g1, g2⟩ := hX.get h2
        exact .inl ⟨o, rfl, hout b g1, g2 o rfl, fun t' => by rw [HS.get_sh]; simp only [HS.get, look_app, h2]; rfl⟩
      | none =>
        simp only [h2] at h1
        obtain ⟨g1, g2⟩ := (ok.clo t).get h1
        obtain ⟨-, g3, g4⟩ := Fam.gi_some g1
        exact .inr ⟨by rw [HS.get_sh]; simp only [HS.get, h1]; rfl, o, rfl, g3, g4, g2⟩
  have hsml : ∀ (t : F.S) b q, (F.mem t).sh.get b = some q → ∃ o : XO, q = o.so ∧ b < F.m ∧ F.hole b = false ∧ o.ren F.gi = some o ∧ (HS.sh ⟨appL X (F.mem t).l, N⟩).get b = some q := fun t b q hq => by
    rw [HS.get_sh] at hq
    cases ho : (F.mem t).get b with
    | none => simp [ho] at hq
    | some o =>
      simp only [ho, Option.map_some, Option.some.injEq] at hq
      subst hq
      have h1 := HS.get_look ho
      obtain ⟨g1, g2⟩ := (ok.clo t).get h1
      obtain ⟨-, g3, g4⟩ := Fam.gi_some g1
      refine ⟨o, rfl, g3, g4, g2, ?_⟩
      have h2 : look X b = none := by
        cases h2 : look X b with
        | none => rfl
        | some x =>
          rcases hout b (hX.get h2).1 with g | g
          · rw [g] at g4; cases g4
          · omega
      rw [HS.get_sh]
      simp only [HS.get, look_app, h2, h1]; rfl
  have hal := pull_al F.gi φ
  have hpull : ∀ b L, pull F.gi φ b = some L → b < F.m ∧ F.hole b = false ∧ φ b = some L := fun b L hb => by
    have hb' : (match F.gi b with | some b' => φ b' | none => none) = some L := hb
    cases hg : F.gi b with
    | none => simp [hg] at hb'
    | some b' =>
      obtain ⟨rfl, g1, g2⟩ := Fam.gi_some hg
      rw [hg] at hb'; exact ⟨g1, g2, hb'⟩
  have hpull2 : ∀ b, b < F.m → F.hole b = false → pull F.gi φ b = φ b := fun b h1 h2 => hal.f b b (hgi b h1 h2)
  have hown : ∀ b L, Owns (pull F.gi φ) (F.mem s).sh b L → Owns φ (HS.sh ⟨appL X (F.mem s).l, N⟩) b L := fun b L ⟨q, hq, ho, hL⟩ => by
    obtain ⟨o, -, g1, g2, -, g3⟩ := hsml s b q hq
    exact ⟨q, g3, ho, (hpull b L hL).2.2⟩
  have hrs : HR base (pull F.gi φ) (F.mem s).sh w := by
    refine ⟨fun b L hb => ?_, hr.lo, fun b q hb => ?_, fun m o hm => ⟨(hr.froz m o hm).1, fun b L hb => (hr.froz m o hm).2 b L (hown b L hb)⟩, fun b b1 q L L1 hb hb1 hL1 hne => ?_⟩
    · show b < (F.mem s).next
      rw [ok.nx s]; exact (hpull b L hb).1
    · obtain ⟨o, rfl, g1, g2, g3, g4⟩ := hsml s b q hb
      obtain ⟨L, g5, g6⟩ := hr.live b o.so g4
      exact ⟨L, by rw [hpull2 b g1 g2]; exact g5, (Live.al hal g3).2 g6⟩
    · obtain ⟨o, rfl, g1, g2, g3, g4⟩ := hsml s b1 q hb1
      exact hr.inj b b1 _ L L1 (hown b L hb) g4 (hpull b1 L1 hL1).2.2 hne
  refine Calls.mono (C.run (pull F.gi φ) args' w (args_al hal hv ha) hrs) fun en w' hp => ?_
  obtain ⟨v', φ', r, s', hphi, rfl, hv', hr', hm⟩ := hp
  obtain ⟨ψ, hψ⟩ : ∃ ψ : Ph, ψ = ⟨fun b => if b < F.m ∧ F.hole b = false then φ' b else φ b, φ'.fm⟩ := ⟨_, rfl⟩
  have ψin : ∀ b, b < F.m → F.hole b = false → ψ b = φ' b := fun b h1 h2 => by rw [hψ]; exact if_pos ⟨h1, h2⟩
  have ψout : ∀ b, (F.hole b = true ∨ F.m ≤ b) → ψ b = φ b := fun b h1 => by
    rw [hψ]
    exact if_neg fun h => h1.elim (fun h1 => by rw [h1] at h; cases h.2) (fun h1 => by omega)
  have ψfm : ψ.fm = φ'.fm := by rw [hψ]
  have ψkk : ∀ b L, b < κ → φ b = some L → ψ b = some L := fun b L hb hL => by
    cases hh : F.hole b with
    | true => rw [ψout b (.inl hh)]; exact hL
    | false =>
      have := Nat.lt_of_lt_of_le hb hκ
      rw [ψin b this hh]
      exact hm.le b L hb (by rw [hpull2 b this hh]; exact hL)
  have hali : Al F.gi φ' ψ := ⟨fun b b' hb => by
    obtain ⟨rfl, g1, g2⟩ := Fam.gi_some hb
    exact (ψin _ g1 g2).symm, ψfm.symm⟩
  have halo := pull_al (F.go κ) φ
  have hle : Le (pull (F.go κ) φ) ψ := ⟨fun b L hb => by
    have hb' : (match (F.go κ) b with | some b' => φ b' | none => none) = some L := hb
    cases hg : (F.go κ) b with
    | none => simp [hg] at hb'
    | some b' =>
      obtain ⟨rfl, g1⟩ := Fam.go_some hg
      rw [hg] at hb'
      rcases g1 with g1 | g1
      · exact ψkk _ L g1 hb'
      · rw [ψout _ (.inr g1)]; exact hb', fun m o ho => by rw [ψfm]; exact hm.lfm m o ho⟩
  -- owned blocks
  have hin : ∀ b q, (F.hole b = true ∨ F.m ≤ b) → (HS.sh ⟨appL X (F.mem s).l, N⟩).get b = some q → ∀ L, φ b = some L → ∀ c M, Owns (pull F.gi φ) (F.mem s).sh c M → M.m ≠ L.m := fun b q hb hq L hL c M hc => by
    obtain ⟨q0, h1, h2, h3⟩ := hc
    obtain ⟨o, -, g1, g2, -⟩ := hsml s c q0 h1
    exact hr.inj c b q M L (hown c M ⟨q0, h1, h2, h3⟩) hq hL (fun e => hb.elim (fun hb => by rw [← e, g2] at hb; cases hb) (fun hb => by omega))
  have hown2 : ∀ b L, Owns ψ (HS.sh ⟨appL X (F.mem s').l, N⟩) b L → Owns φ' (F.mem s').sh b L ∨ (Owns φ (HS.sh ⟨appL X (F.mem s).l, N⟩) b L ∧ (F.hole b = true ∨ F.m ≤ b)) := fun b L ⟨q, hq, ho, hL⟩ => by
    rcases hbig s' b q hq with ⟨o, rfl, g1, g2, g3⟩ | ⟨g0, o, rfl, g1, g2, g3⟩
    · exact .inr ⟨⟨_, g3 s, ho, by rw [← ψout b g1]; exact hL⟩, g1⟩
    · exact .inl ⟨_, g0, ho, by rw [← ψin b g1 g2]; exact hL⟩
  have hHR : HR base ψ (HS.sh ⟨appL X (F.mem s').l, N⟩) w' := by
    refine ⟨fun b L hb => ?_, hr'.lo, fun b q hq => ?_, fun m o hmo => ?_, fun b b' q L L' hb hb' hL' hne => ?_⟩
    · show b < N
      by_cases h1 : b < F.m
      · omega
      · rw [ψout b (.inr (by omega))] at hb
        exact hr.dom b L hb
    · rcases hbig s' b q hq with ⟨o, rfl, g1, g2, g3⟩ | ⟨g0, o, rfl, g1, g2, g3⟩
      · obtain ⟨L, k1, k2⟩ := hr.live b _ (g3 s)
        exact ⟨L, by rw [ψout b g1]; exact k1, ((Live.al halo g2).2 k2).mono hle (hm.keep _ k2.lt fun c M hc => hin b _ g1 (g3 s) L k1 c M hc)⟩
      · obtain ⟨L, k1, k2⟩ := hr'.live b _ g0
        exact ⟨L, by rw [ψin b g1 g2]; exact k1, (Live.al hali g3).1 k2⟩
    · rw [ψfm] at hmo
      refine ⟨(hr'.froz m o hmo).1, fun b L hb => ?_⟩
      rcases hown2 b L hb with h1 | ⟨h1, h2⟩
      · exact (hr'.froz m o hmo).2 b L h1
      · obtain ⟨q, k3, k4, k5⟩ := h1
        obtain ⟨M, g1, g2⟩ := hr.live b q k3
        rw [k5] at g1; cases g1
        rcases hm.fm m o hmo with j1 | j1 | ⟨c, M, j1, j2⟩
        · exact (hr.froz m o j1).2 b L ⟨q, k3, k4, k5⟩
        · have := g2.lt; omega
        · rw [← j2]; exact fun e => hin b q h2 k3 L k5 c M j1 e.symm
    · rcases hown2 b L hb with h1 | ⟨h1, h2⟩
      · rcases hbig s' b' q hb' with ⟨o, rfl, g1, g2, g3⟩ | ⟨g0, o, rfl, g1, g2, g3⟩
        · rw [ψout b' g1] at hL'
          obtain ⟨M, j1, j2⟩ := hr.live b' _ (g3 s)
          rw [hL'] at j1; cases j1
          rcases hm.own b L h1 with j1 | ⟨b0, L0, j1, j3⟩
          · have := j2.lt; omega
          · rw [← j3]; exact hin b' _ g1 (g3 s) L' hL' b0 L0 j1
        · rw [ψin b' g1 g2] at hL'
          exact hr'.inj b b' _ L L' h1 g0 hL' hne
      · obtain ⟨q0, k3, k4, k5⟩ := h1
        obtain ⟨M, g1, g2⟩ := hr.live b q0 k3
        rw [k5] at g1; cases g1
        rcases hbig s' b' q hb' with ⟨o, rfl, f1, f2, f3⟩ | ⟨f0, o, rfl, f1, f2, f3⟩
        · rw [ψout b' f1] at hL'
          exact hr.inj b b' _ L L' ⟨q0, k3, k4, k5⟩ (f3 s) hL' hne
        · rw [ψin b' f1 f2] at hL'
          rcases hm.has b' _ L' f0 hL' with j1 | ⟨b0, q1, L0, j1, j2, j3⟩
          · have := g2.lt; omega
          · rw [← j3]
            obtain ⟨o1, rfl, i1, i2, i3, i4⟩ := hsml s b0 q1 j1
            exact hr.inj b b0 _ L L0 ⟨q0, k3, k4, k5⟩ i4 (hpull b0 L0 j2).2.2 (fun e => h2.elim (fun h2 => by rw [e, i2] at h2; cases h2) (fun h2 => by omega))
  refine ⟨v', ψ, r, s', hphi, rfl, (VR.al hali (hΦ r s' hphi)).1 hv', hHR, ⟨fun b L hb hL => ψkk b L (by omega) hL, fun m o hmo => by rw [ψfm]; exact hm.lfm m o hmo, hm.os, hm.tape, hm.output, hm.size, fun q hq hn => hm.keep q hq fun b L hb => hn b L (hown b L hb), fun b L hb => ?_, fun b q L hb hL => ?_, fun m o hmo => ?_⟩, hle⟩
  · rcases hown2 b L hb with h1 | ⟨h1, h2⟩
    · rcases hm.own b L h1 with j1 | ⟨b0, L0, j1, j3⟩
      · exact .inl j1
      · exact .inr ⟨b0, L0, hown b0 L0 j1, j3⟩
    · exact .inr ⟨b, L, h1, rfl⟩
  · rcases hbig s' b q hb with ⟨o, rfl, g1, g2, g3⟩ | ⟨g0, o, rfl, g1, g2, g3⟩
    · rw [ψout b g1] at hL
      exact .inr ⟨b, _, L, g3 s, hL, rfl⟩
    · rw [ψin b g1 g2] at hL
      rcases hm.has b _ L g0 hL with j1 | ⟨b0, q1, L0, j1, j2, j3⟩
      · exact .inl j1
      · obtain ⟨o1, rfl, i1, i2, i3, i4⟩ := hsml s b0 q1 j1
        exact .inr ⟨b0, _, L0, i4, (hpull b0 L0 j2).2.2, j3⟩
  · rw [ψfm] at hmo
    rcases hm.fm m o hmo with j1 | j1 | ⟨c, M, j1, j2⟩
    · exact .inl j1
    · exact .inr (.inl j1)
    · exact .inr (.inr ⟨c, M, hown c M j1, j2⟩)
theorem XR.useR {F : Fam} {κ : Nat} (ok : F.OK) {g : Option (Nat × Bool)} {d : Option Nat} {f : FuncId} {as : List LX} {l : List LOp} {vs : List XV} {s : F.S} {Φ : XV → F.S → Prop} {X : List (Nat × Option XO)} {N : Nat} {e' : Env} (hg : GOK e g) (C : CallR P base F κ f vs s Φ) (ha : xevs e as = some vs)
    (hX : Out F κ X) (hN : F.m ≤ N) (hκ : κ ≤ F.m) (hk : k ≤ κ) (hv : XV.rens F.gi vs = some vs) (hΦ : ∀ r s', Φ r s' → r.ren F.gi = some r) (he : EnvOK (F.go κ) e e') (hx : ∀ r s', Φ r s' → XR P base n k l (push d r e') ⟨appL X (F.mem s').l, N⟩ Q) :
    XR P base n k (⟨g, d, .call f as⟩ :: l) e ⟨appL X (F.mem s).l, N⟩ Q := ⟨fun ops lo hl φ a w ht hr R hR => by
  obtain ⟨o, r, rfl, h1, h2⟩ := lowerL_cons hl
  obtain ⟨h3, h4, h5, h6⟩ := lowerOp_eq h1
  unfold wpList
  rw [if_pos (wanted_sound ht (hg.wanted ops o h4))]
  left
  generalize hop : o.op = op at h5
  cases h5 with
  | @call _ as' _ ts k1 k2 =>
    have hargs := evs_sound ht (xevs_evs (n := n) k1 ha)
    have harr : as'.map a.eval = (as'.toList.map a.eval).toArray := by apply Array.ext'; simp
    obtain ⟨fn, q1, q2, q3⟩ := C.fn
    unfold Oper.wp
    have hrun : (execOp a.eval o).run P w = .ok (.enter f (as'.toList.map a.eval).toArray) w := by
      have hname : ¬ fn.name = "runtime.NumGoroutine" := by simpa using q3
      have hbn : ¬ fn.body = none := fun e => by rw [e] at q2; cases q2
      simp [execOp, hop, resolve, Act.eval, Deferred.ofValue, invoke, callFunc, q1, hname, hbn, harr]
    rw [hrun]
    refine Calls.mono (C.big ok hX hN hκ hk hv hΦ hargs hr) fun en w' hp => ?_
    obtain ⟨v', ψ, r1, s', hphi, rfl, hv', hHR, hmo, hle⟩ := hp
    have halo := pull_al (F.go κ) φ
    have hte : TR (pull (F.go κ) φ) (toSF n e') a := ⟨ht.n, fun i v hv => by
      rw [get_toSF] at hv
      cases hl : look e' i with
      | none => simp [hl] at hv
      | some v1 =>
        simp only [hl, Option.map_some, Option.some.injEq] at hv
        subst hv
        obtain ⟨v2, v3, g1, g2, g3⟩ := he.get hl
        obtain ⟨g4, g5⟩ := ht.at_ i v2.sv (by rw [get_toSF, g2]; rfl)
        exact ⟨g4, (VR.al halo g1).2 (g3 φ _ g5)⟩⟩
    have ht' := (hte.mono hle).put hv' o.dst
    rw [push_sf h3] at ht'
    rw [h6] at ht' ⊢
    refine (hx r1 s' hphi).run ops r h2 ψ _ w' ht' hHR R fun ex a2 w2 hp => hR _ _ _ ?_
    rw [put_defers] at hp
    exact hp.of hmo⟩
theorem M.useR {F : Fam} {κ : Nat} (ok : F.OK) {g : Option (Nat × Bool)} {d : Option Nat} {f : FuncId} {as : List LX} {l : List LOp} {vs : List XV} {s : F.S} {Φ : XV → F.S → Prop} (X : List (Nat × Option XO)) {N : Nat} (e' : Env) (hg : GOK e g) (C : CallR P base F κ f vs s Φ) (ha : xevs e as = some vs)
    (hX : Out F κ X) (hN : Nat.ble F.m N = true) (hκ : Nat.ble κ F.m = true) (hk : Nat.ble k κ = true) (hv : XV.rens F.gi vs = some vs) (hΦ : ∀ r s', Φ r s' → r.ren F.gi = some r) (he : EnvOK (F.go κ) e e') (hx : ∀ r s', Φ r s' → M P base n k (.ops l) K (push d r e') ⟨appL X (F.mem s').l, N⟩ Q) :
    M P base n k (.ops (⟨g, d, .call f as⟩ :: l)) K e ⟨appL X (F.mem s).l, N⟩ Q :=
  ⟨XR.useR ok hg C ha hX (Nat.le_of_ble_eq_true hN) (Nat.le_of_ble_eq_true hκ) (Nat.le_of_ble_eq_true hk) hv hΦ he fun r s' h => (hx r s' h).run⟩
end
mutual
theorem XC.ren_mono {g g' : Nat → Option Nat} (h : ∀ b c, g b = some c → g' b = some c) : ∀ {x y : XC}, x.ren g = some y → x.ren g' = some y
  | .p _, y, e => e
  | .ptr b o, y, e => by
    simp only [XC.ren] at e ⊢
    split at e
    · rename_i c hc; rw [h _ _ hc]; exact e
    · cases e
  | .sl b o n s c, y, e => by
    simp only [XC.ren] at e ⊢
    split at e
    · rename_i c hc; rw [h _ _ hc]; exact e
    · cases e
  | .mp b, y, e => by
    simp only [XC.ren] at e ⊢
    split at e
    · rename_i c hc; rw [h _ _ hc]; exact e
    · cases e
  | .cl f x z, y, e => by
    simp only [XC.ren] at e ⊢
    split at e
    · rename_i a b ha hb; rw [XC.rens_mono h ha, XC.rens_mono h hb]; exact e
    · cases e
  | .ifc t x, y, e => by
    simp only [XC.ren] at e ⊢
    split at e
    · rename_i a ha; rw [XC.ren_mono h ha]; exact e
    · cases e
  | .acc b s el, y, e => by
    simp only [XC.ren] at e ⊢
    split at e
    · rename_i c hc; rw [h _ _ hc]; exact e
    · cases e
theorem XC.rens_mono {g g' : Nat → Option Nat} (h : ∀ b c, g b = some c → g' b = some c) : ∀ {x y : List XC}, XC.rens g x = some y → XC.rens g' x = some y
  | [], y, e => e
  | x :: l, y, e => by
    simp only [XC.rens] at e ⊢
    split at e
    · rename_i a b ha hb; rw [XC.ren_mono h ha, XC.rens_mono h hb]; exact e
    · cases e
end
mutual
theorem XV.ren_mono {g g' : Nat → Option Nat} (h : ∀ b c, g b = some c → g' b = some c) : ∀ {x y : XV}, x.ren g = some y → x.ren g' = some y
  | .c x, y, e => by
    simp only [XV.ren] at e ⊢
    split at e
    · rename_i a ha; rw [XC.ren_mono h ha]; exact e
    · cases e
  | .agg l, y, e => by
    simp only [XV.ren] at e ⊢
    split at e
    · rename_i a ha; rw [XC.rens_mono h ha]; exact e
    · cases e
  | .tup l, y, e => by
    simp only [XV.ren] at e ⊢
    split at e
    · rename_i a ha; rw [XV.rens_mono h ha]; exact e
    · cases e
theorem XV.rens_mono {g g' : Nat → Option Nat} (h : ∀ b c, g b = some c → g' b = some c) : ∀ {x y : List XV}, XV.rens g x = some y → XV.rens g' x = some y
  | [], y, e => e
  | x :: l, y, e => by
    simp only [XV.rens] at e ⊢
    split at e
    · rename_i a b ha hb; rw [XV.ren_mono h ha, XV.rens_mono h hb]; exact e
    · cases e
end
theorem renE_mono {g g' : Nat → Option Nat} (h : ∀ b c, g b = some c → g' b = some c) : ∀ {x y : List (Nat × XC × XV)}, renE g x = some y → renE g' x = some y
  | [], y, e => e
  | x :: l, y, e => by
    simp only [renE] at e ⊢
    split at e
    · rename_i a b c ha hb hc; rw [XC.ren_mono h ha, XV.ren_mono h hb, renE_mono h hc]; exact e
    · cases e
theorem XO.ren_mono {g g' : Nat → Option Nat} (h : ∀ b c, g b = some c → g' b = some c) : ∀ {x y : XO}, x.ren g = some y → x.ren g' = some y
  | .pm _ _, y, e => e
  | .row l own, y, e => by
    simp only [XO.ren] at e ⊢
    split at e
    · rename_i a ha; rw [XC.rens_mono h ha]; exact e
    · cases e
  | .els _ _, y, e => e
  | .map es c, y, e => by
    simp only [XO.ren] at e ⊢
    split at e
    · rename_i a ha; rw [renE_mono h ha]; exact e
    · cases e
  | .iter none a b c, y, e => e
  | .iter (some m) a b c, y, e => by
    simp only [XO.ren] at e ⊢
    split at e
    · rename_i a ha; rw [h _ _ ha]; exact e
    · cases e
inductive Tl (F : Fam) (s : F.S) : List (Nat × Option XO) → Prop where
  | here : Tl F s (F.mem s).l
  | cons {p : Nat × Option XO} {l : List (Nat × Option XO)} (h : (F.hole p.1 || !(Nat.blt p.1 F.m)) = true) (t : Tl F s l) : Tl F s (p :: l)
theorem Tl.look {F : Fam} (ok : F.OK) {s : F.S} : ∀ {l : List (Nat × Option XO)}, Tl F s l → ∀ b, b < F.m → F.hole b = false → look l b = Sym.look (F.mem s).l b
  | _, .here, b, _, _ => rfl
  | p :: l, .cons h t, b, h1, h2 => by
    rw [look_cons, show Nat.beq p.1 b = false from ?_, cond_false, t.look ok b h1 h2]
    rw [Bool.eq_false_iff]
    intro e
    have := Nat.eq_of_beq_eq_true e
    subst this
    rw [h2, show Nat.blt p.1 F.m = true by simpa using h1] at h
    cases h
theorem look_of_mem {α : Type} : ∀ {l : List (Nat × α)} {b : Nat} {x : α}, nodupB (l.map (·.1)) = true → (b, x) ∈ l → look l b = some x
  | p :: l, b, x, hn, hm => by
    simp only [List.map_cons, nodupB, Bool.and_eq_true, Bool.not_eq_true', List.any_eq_false] at hn
    rw [look_cons]
    rcases List.mem_cons.1 hm with rfl | h1
    · rw [show Nat.beq b b = true by simp]; rfl
    · rw [show Nat.beq p.1 b = false from ?_, cond_false, look_of_mem hn.2 h1]
      have := hn.1 b (List.mem_map.2 ⟨_, h1, rfl⟩)
      exact Bool.eq_false_iff.2 this
theorem HeapOK.of_mem {g : Nat → Option Nat} {h : HS} : ∀ {l : List (Nat × Option XO)}, (∀ b o, (b, some o) ∈ l → ∃ b' o2 o3, g b = some b' ∧ o.ren g = some o3 ∧ h.get b' = some o2 ∧ WkO o2 o3) → HeapOK g h l
  | [], _ => trivial
  | (b, some o) :: r, hx => ⟨hx b o (List.mem_cons_self ..), HeapOK.of_mem fun b o hm => hx b o (List.mem_cons_of_mem _ hm)⟩
  | (b, none) :: r, hx => HeapOK.of_mem (l := r) fun b o hm => hx b o (List.mem_cons_of_mem _ hm)
def fid (F : Fam) (g : Nat → Option Nat) : Bool := (List.range F.m).all fun b => F.hole b || (match g b with
  | some c => Nat.beq c b
  | none => false)
theorem HeapOK.fam {F : Fam} (ok : F.OK) {g : Nat → Option Nat} {h : HS} {s : F.S} (ht : Tl F s h.l) (hg : fid F g = true) : HeapOK g h (F.mem s).l := by
  have hmono : ∀ b c, F.gi b = some c → g b = some c := fun b c hb => by
    obtain ⟨rfl, h1, h2⟩ := Fam.gi_some hb
    have := List.all_eq_true.1 hg c (List.mem_range.2 h1)
    rw [h2, Bool.false_or] at this
    split at this
    · rename_i d hd; rw [hd, Nat.eq_of_beq_eq_true this]
    · cases this
  refine HeapOK.of_mem fun b o hm => ?_
  have h1 := look_of_mem (ok.nd s) hm
  obtain ⟨g1, g2⟩ := (ok.clo s).get h1
  obtain ⟨-, g3, g4⟩ := Fam.gi_some g1
  refine ⟨b, o, o, hmono b b g1, XO.ren_mono hmono g2, ?_, WkO.rfl⟩
  unfold HS.get
  rw [ht.look ok b g3 g4, h1]
end Go.Proofs.Ytjlfojgacnphmaa.Sym

namespace Go.Proofs.Ytjlfojgacnphmaa.Sym
open Go Go.RowKit Go.Proofs.Ytjlfojgacnphmaa.Sim
set_option linter.unusedSimpArgs false
set_option linter.unusedVariables false
section
variable {g1 g2 g3 : Nat → Option Nat}
mutual
theorem XC.ren_meet (h : ∀ b c d, g1 b = some c → g2 b = some d → g3 b = some d) : ∀ {x y z : XC}, x.ren g1 = some y → x.ren g2 = some z → x.ren g3 = some z
  | .p _, y, z, e1, e2 => e2
  | .ptr b o, y, z, e1, e2 => by
    simp only [XC.ren] at e1 e2 ⊢
    split at e1
    · rename_i c hc
      split at e2
      · rename_i d hd; rw [h _ _ _ hc hd]; exact e2
      · cases e2
    · cases e1
  | .sl b o n s c, y, z, e1, e2 => by
    simp only [XC.ren] at e1 e2 ⊢
    split at e1
    · rename_i c hc
      split at e2
      · rename_i d hd; rw [h _ _ _ hc hd]; exact e2
      · cases e2
    · cases e1
  | .mp b, y, z, e1, e2 => by
    simp only [XC.ren] at e1 e2 ⊢
    split at e1
    · rename_i c hc
      split at e2
      · rename_i d hd; rw [h _ _ _ hc hd]; exact e2
      · cases e2
    · cases e1
  | .cl f x u, y, z, e1, e2 => by
    simp only [XC.ren] at e1 e2 ⊢
    split at e1
    · rename_i a b ha hb
      split at e2
      · rename_i a' b' ha' hb'; rw [XC.rens_meet h ha ha', XC.rens_meet h hb hb']; exact e2
      · cases e2
    · cases e1
  | .ifc t x, y, z, e1, e2 => by
    simp only [XC.ren] at e1 e2 ⊢
    split at e1
    · rename_i a ha
      split at e2
      · rename_i a' ha'; rw [XC.ren_meet h ha ha']; exact e2
      · cases e2
    · cases e1
  | .acc b s el, y, z, e1, e2 => by
    simp only [XC.ren] at e1 e2 ⊢
    split at e1
    · rename_i c hc
      split at e2
      · rename_i d hd; rw [h _ _ _ hc hd]; exact e2
      · cases e2
    · cases e1
theorem XC.rens_meet (h : ∀ b c d, g1 b = some c → g2 b = some d → g3 b = some d) : ∀ {x y z : List XC}, XC.rens g1 x = some y → XC.rens g2 x = some z → XC.rens g3 x = some z
  | [], y, z, e1, e2 => e2
  | x :: l, y, z, e1, e2 => by
    simp only [XC.rens] at e1 e2 ⊢
    split at e1
    · rename_i a b ha hb
      split at e2
      · rename_i a' b' ha' hb'; rw [XC.ren_meet h ha ha', XC.rens_meet h hb hb']; exact e2
      · cases e2
    · cases e1
end
mutual
theorem XV.ren_meet (h : ∀ b c d, g1 b = some c → g2 b = some d → g3 b = some d) : ∀ {x y z : XV}, x.ren g1 = some y → x.ren g2 = some z → x.ren g3 = some z
  | .c x, y, z, e1, e2 => by
    simp only [XV.ren] at e1 e2 ⊢
    split at e1
    · rename_i a ha
      split at e2
      · rename_i a' ha'; rw [XC.ren_meet h ha ha']; exact e2
      · cases e2
    · cases e1
  | .agg l, y, z, e1, e2 => by
    simp only [XV.ren] at e1 e2 ⊢
    split at e1
    · rename_i a ha
      split at e2
      · rename_i a' ha'; rw [XC.rens_meet h ha ha']; exact e2
      · cases e2
    · cases e1
  | .tup l, y, z, e1, e2 => by
    simp only [XV.ren] at e1 e2 ⊢
    split at e1
    · rename_i a ha
      split at e2
      · rename_i a' ha'; rw [XV.rens_meet h ha ha']; exact e2
      · cases e2
    · cases e1
theorem XV.rens_meet (h : ∀ b c d, g1 b = some c → g2 b = some d → g3 b = some d) : ∀ {x y z : List XV}, XV.rens g1 x = some y → XV.rens g2 x = some z → XV.rens g3 x = some z
  | [], y, z, e1, e2 => e2
  | x :: l, y, z, e1, e2 => by
    simp only [XV.rens] at e1 e2 ⊢
    split at e1
    · rename_i a b ha hb
      split at e2
      · rename_i a' b' ha' hb'; rw [XV.ren_meet h ha ha', XV.rens_meet h hb hb']; exact e2
      · cases e2
    · cases e1
end
theorem renE_meet (h : ∀ b c d, g1 b = some c → g2 b = some d → g3 b = some d) : ∀ {x y z : List (Nat × XC × XV)}, renE g1 x = some y → renE g2 x = some z → renE g3 x = some z
  | [], y, z, e1, e2 => e2
  | x :: l, y, z, e1, e2 => by
    simp only [renE] at e1 e2 ⊢
    split at e1
    · rename_i a b c ha hb hc
      split at e2
      · rename_i a' b' c' ha' hb' hc'; rw [XC.ren_meet h ha ha', XV.ren_meet h hb hb', renE_meet h hc hc']; exact e2
      · cases e2
    · cases e1
theorem XO.ren_meet {x y z : XO} (e1 : x.ren g1 = some y) (e2 : x.ren g2 = some z) (h : ∀ b c d, g1 b = some c → g2 b = some d → g3 b = some d) : x.ren g3 = some z := by
  cases x with
  | pm _ _ => exact e2
  | els _ _ => exact e2
  | row l own =>
    simp only [XO.ren] at e1 e2 ⊢
    split at e1
    · rename_i a ha
      split at e2
      · rename_i a' ha'; rw [XC.rens_meet h ha ha']; exact e2
      · cases e2
    · cases e1
  | map es c =>
    simp only [XO.ren] at e1 e2 ⊢
    split at e1
    · rename_i a ha
      split at e2
      · rename_i a' ha'; rw [renE_meet h ha ha']; exact e2
      · cases e2
    · cases e1
  | iter m a b c =>
    cases m with
    | none => exact e2
    | some m =>
      simp only [XO.ren] at e1 e2 ⊢
      split at e1
      · rename_i a ha
        split at e2
        · rename_i a' ha'; rw [h _ _ _ ha ha']; exact e2
        · cases e2
      · cases e1
end
section
variable {g : Nat → Option Nat}
mutual
theorem XC.ren_tot (h : ∀ b, ∃ c, g b = some c) : ∀ x : XC, ∃ y, x.ren g = some y
  | .p x => ⟨_, rfl⟩
  | .ptr b o => by obtain ⟨c, hc⟩ := h b; (simp only [XC.ren, hc]; exact ⟨_, rfl⟩)
  | .sl b o n s c => by obtain ⟨c, hc⟩ := h b; (simp only [XC.ren, hc]; exact ⟨_, rfl⟩)
  | .mp b => by obtain ⟨c, hc⟩ := h b; (simp only [XC.ren, hc]; exact ⟨_, rfl⟩)
  | .cl f x u => by
    obtain ⟨a, ha⟩ := XC.rens_tot h x
    obtain ⟨b, hb⟩ := XC.rens_tot h u
    (simp only [XC.ren, ha, hb]; exact ⟨_, rfl⟩)
  | .ifc t x => by obtain ⟨a, ha⟩ := XC.ren_tot h x; (simp only [XC.ren, ha]; exact ⟨_, rfl⟩)
  | .acc b s el => by obtain ⟨c, hc⟩ := h b; (simp only [XC.ren, hc]; exact ⟨_, rfl⟩)
theorem XC.rens_tot (h : ∀ b, ∃ c, g b = some c) : ∀ x : List XC, ∃ y, XC.rens g x = some y
  | [] => ⟨_, rfl⟩
  | x :: l => by
    obtain ⟨a, ha⟩ := XC.ren_tot h x
    obtain ⟨b, hb⟩ := XC.rens_tot h l
    (simp only [XC.rens, ha, hb]; exact ⟨_, rfl⟩)
end
mutual
theorem XV.ren_tot (h : ∀ b, ∃ c, g b = some c) : ∀ x : XV, ∃ y, x.ren g = some y
  | .c x => by obtain ⟨a, ha⟩ := XC.ren_tot h x; (simp only [XV.ren, ha]; exact ⟨_, rfl⟩)
  | .agg l => by obtain ⟨a, ha⟩ := XC.rens_tot h l; (simp only [XV.ren, ha]; exact ⟨_, rfl⟩)
  | .tup l => by obtain ⟨a, ha⟩ := XV.rens_tot h l; (simp only [XV.ren, ha]; exact ⟨_, rfl⟩)
theorem XV.rens_tot (h : ∀ b, ∃ c, g b = some c) : ∀ x : List XV, ∃ y, XV.rens g x = some y
  | [] => ⟨_, rfl⟩
  | x :: l => by
    obtain ⟨a, ha⟩ := XV.ren_tot h x
    obtain ⟨b, hb⟩ := XV.rens_tot h l
    (simp only [XV.rens, ha, hb]; exact ⟨_, rfl⟩)
end
theorem renE_tot (h : ∀ b, ∃ c, g b = some c) : ∀ x : List (Nat × XC × XV), ∃ y, renE g x = some y
  | [] => ⟨_, rfl⟩
  | x :: l => by
    obtain ⟨a, ha⟩ := XC.ren_tot h x.2.1
    obtain ⟨b, hb⟩ := XV.ren_tot h x.2.2
    obtain ⟨c, hc⟩ := renE_tot h l
    (simp only [renE, ha, hb, hc]; exact ⟨_, rfl⟩)
theorem XO.ren_tot (h : ∀ b, ∃ c, g b = some c) (x : XO) : ∃ y, x.ren g = some y := by
  cases x with
  | pm _ _ => exact ⟨_, rfl⟩
  | els _ _ => exact ⟨_, rfl⟩
  | row l own => obtain ⟨a, ha⟩ := XC.rens_tot h l; (simp only [XO.ren, ha]; exact ⟨_, rfl⟩)
  | map es c => obtain ⟨a, ha⟩ := renE_tot h es; (simp only [XO.ren, ha]; exact ⟨_, rfl⟩)
  | iter m a b c =>
    cases m with
    | none => exact ⟨_, rfl⟩
    | some m => obtain ⟨d, hd⟩ := h m; (simp only [XO.ren, hd]; exact ⟨_, rfl⟩)
theorem frameL_tot (h : ∀ b, ∃ c, g b = some c) : ∀ l : List (Nat × Option XO), ∃ l2, frameL g l = some l2
  | [] => ⟨_, rfl⟩
  | (b, some o) :: r => by
    obtain ⟨b', hb⟩ := h b
    obtain ⟨o', ho⟩ := XO.ren_tot h o
    obtain ⟨r', hr⟩ := frameL_tot h r
    (simp only [frameL, hb, ho, hr]; exact ⟨_, rfl⟩)
  | (b, none) :: r => by
    obtain ⟨b', hb⟩ := h b
    obtain ⟨r', hr⟩ := frameL_tot h r
    (simp only [frameL, hb, hr]; exact ⟨_, rfl⟩)
end
section
variable {P : Program} {base n k : Nat} {e : Env} {Q : QX} {K : List Fr}
def Fam.gs (F : Fam) (κ : Nat) : Nat → Option Nat := fun b => bif Nat.blt b κ && !F.hole b then some b else none
def sN (κ N : Nat) : Nat → Nat := fun b => bif Nat.blt b κ then b else N + (b - κ)
def sO (κ N : Nat) : Nat → Option Nat := fun b => some (sN κ N b)
abbrev CallD (P : Program) (base : Nat) (F : Fam) (κ : Nat) (f : FuncId) (args : List XV) (s : F.S) (r : XV) (s' : F.S) := CallR P base F κ f args s (fun r2 s2 => r2 = r ∧ s2 = s')
theorem sO_tot (κ N : Nat) (l : List (Nat × Option XO)) : ∃ l2, frameL (sO κ N) l = some l2 := frameL_tot (fun b => ⟨_, rfl⟩) l
theorem sN_lt {κ N b : Nat} (h : b < κ) : sN κ N b = b := by
  unfold sN; rw [show Nat.blt b κ = true by simpa using h]; rfl
theorem sN_ge {κ N b : Nat} (h : ¬ b < κ) : sN κ N b = N + (b - κ) := by
  unfold sN; rw [show Nat.blt b κ = false by rw [Bool.eq_false_iff]; simpa using h]; rfl
theorem sN_inj {κ N a b : Nat} (hκ : κ ≤ N) (h : sN κ N a = sN κ N b) : a = b := by
  by_cases ha : a < κ <;> by_cases hb : b < κ
  · rwa [sN_lt ha, sN_lt hb] at h
  · rw [sN_lt ha, sN_ge hb] at h; omega
  · rw [sN_ge ha, sN_lt hb] at h; omega
  · rw [sN_ge ha, sN_ge hb] at h; omega
theorem frameL_at {g : Nat → Option Nat} (hg : ∀ a b c, g a = some c → g b = some c → a = b) : ∀ {l l2 : List (Nat × Option XO)}, frameL g l = some l2 → ∀ {b j : Nat} {o : XO}, g b = some j → look l b = some (some o) → ∃ o2, look l2 j = some (some o2) ∧ o.ren g = some o2
  | [], l2, h, b, j, o, hb, ho => by simp [look] at ho
  | (c, some x) :: r, l2, h, b, j, o, hb, ho => by
    simp only [frameL] at h
    split at h
    · rename_i c' x' r' h1 h2 h3
      simp only [Option.some.injEq] at h
      subst h
      simp only [look_cons] at ho ⊢
      by_cases hc : Nat.beq c b = true
      · have := Nat.eq_of_beq_eq_true hc
        subst this
        rw [hb] at h1; cases h1
        rw [hc] at ho
        simp only [cond_true, Option.some.injEq] at ho
        subst ho
        exact ⟨x', by simp, h2⟩
      · rw [Bool.eq_false_iff.2 hc] at ho
        have : Nat.beq c' j = false := by
          rw [Bool.eq_false_iff]
          intro e
          have := Nat.eq_of_beq_eq_true e
          subst this
          have := hg _ _ _ h1 hb
          subst this
          simp at hc
        rw [this]
        exact frameL_at hg h3 hb ho
    · cases h
  | (c, none) :: r, l2, h, b, j, o, hb, ho => by
    simp only [look_cons] at ho
    by_cases hc : Nat.beq c b = true
    · rw [hc] at ho; simp at ho
    · rw [Bool.eq_false_iff.2 hc] at ho
      simp only [frameL] at h
      split at h
      · rename_i c' r' h1 h3
        simp only [Option.some.injEq] at h
        subst h
        simp only [look_cons]
        have : Nat.beq c' j = false := by
          rw [Bool.eq_false_iff]
          intro e
          have := Nat.eq_of_beq_eq_true e
          subst this
          have := hg _ _ _ h1 hb
          subst this
          simp at hc
        rw [this]
        exact frameL_at hg h3 hb ho
      · rename_i r' h1 h3
        simp only [Option.some.injEq] at h
        subst h
        exact frameL_at hg h3 hb ho
      · cases h
theorem CallR.call {F : Fam} {κ : Nat} (ok : F.OK) {f : FuncId} {args : List XV} {s s0 : F.S} {r0 : XV} (C : CallD P base F κ f args s r0 s0) {X : List (Nat × Option XO)} {N : Nat} (hX : Out F κ X) (hN : F.m ≤ N) (hκ : κ ≤ F.m) (hv : XV.rens F.gi args = some args) (hr0 : r0.ren (F.gs κ) = some r0)
    (hrow : ∀ b, b < κ → F.hole b = false → ∃ o, (F.mem s).get b = some o) {l2 : List (Nat × Option XO)} (hl2 : frameL (sO κ N) (F.mem s0).l = some l2) :
    Call P base f (args.map XV.sv) (HS.sh ⟨appL X (F.mem s).l, N⟩) r0.sv (HS.sh ⟨appL X l2, N + (F.m - κ)⟩) := by
  refine ⟨C.fn, fun φ args' w ha hr => ?_⟩
  have hgi : ∀ b, b < F.m → F.hole b = false → F.gi b = some b := fun b h1 h2 => by
    unfold Fam.gi
    rw [show Nat.blt b F.m = true by simpa using h1, h2]; rfl
  have hout : ∀ b, (F.hole b || !(Nat.blt b F.m)) = true → F.hole b = true ∨ F.m ≤ b := fun b h => by
    simp only [Bool.or_eq_true, Bool.not_eq_true', Bool.eq_false_iff, ne_eq, Nat.blt_eq, Nat.not_lt] at h
    exact h
  have hsml : ∀ (t : F.S) b q, (F.mem t).sh.get b = some q → ∃ o : XO, q = o.so ∧ (F.mem t).get b = some o ∧ b < F.m ∧ F.hole b = false ∧ o.ren F.gi = some o := fun t b q hq => by
    rw [HS.get_sh] at hq
    cases ho : (F.mem t).get b with
    | none => simp [ho] at hq
    | some o =>
      simp only [ho, Option.map_some, Option.some.injEq] at hq
      subst hq
      obtain ⟨g1, g2⟩ := (ok.clo t).get (HS.get_look ho)
      obtain ⟨-, g3, g4⟩ := Fam.gi_some g1
      exact ⟨o, rfl, rfl, g3, g4, g2⟩
  have hXn : ∀ b, b < F.m → F.hole b = false → look X b = none := fun b h1 h2 => by
    cases h3 : look X b with
    | none => rfl
    | some x =>
      rcases hout b (hX.get h3).1 with g | g
      · rw [g] at h2; cases h2
      · omega
  have hbig : ∀ b q, (F.mem s).sh.get b = some q → (HS.sh ⟨appL X (F.mem s).l, N⟩).get b = some q := fun b q hq => by
    obtain ⟨o, rfl, g0, g1, g2, -⟩ := hsml s b q hq
    rw [HS.get_sh]
    simp only [HS.get, look_app, hXn b g1 g2, HS.get_look g0]; rfl
  have hal := pull_al F.gi φ
  have hpull : ∀ b L, pull F.gi φ b = some L → b < F.m ∧ F.hole b = false ∧ φ b = some L := fun b L hb => by
    have hb' : (match F.gi b with | some b' => φ b' | none => none) = some L := hb
    cases hg : F.gi b with
    | none => simp [hg] at hb'
    | some b' =>
      obtain ⟨rfl, g1, g2⟩ := Fam.gi_some hg
      rw [hg] at hb'; exact ⟨g1, g2, hb'⟩
  have hpull2 : ∀ b, b < F.m → F.hole b = false → pull F.gi φ b = φ b := fun b h1 h2 => hal.f b b (hgi b h1 h2)
  have hown : ∀ b L, Owns (pull F.gi φ) (F.mem s).sh b L → Owns φ (HS.sh ⟨appL X (F.mem s).l, N⟩) b L := fun b L ⟨q, hq, ho, hL⟩ => ⟨q, hbig b q hq, ho, (hpull b L hL).2.2⟩
  have hrs : HR base (pull F.gi φ) (F.mem s).sh w := by
    refine ⟨fun b L hb => ?_, hr.lo, fun b q hb => ?_, fun m o hm => ⟨(hr.froz m o hm).1, fun b L hb => (hr.froz m o hm).2 b L (hown b L hb)⟩, fun b b1 q L L1 hb hb1 hL1 hne => hr.inj b b1 _ L L1 (hown b L hb) (hbig b1 q hb1) (hpull b1 L1 hL1).2.2 hne⟩
    · show b < (F.mem s).next
      rw [ok.nx s]; exact (hpull b L hb).1
    · obtain ⟨o, rfl, -, g1, g2, g3⟩ := hsml s b q hb
      obtain ⟨L, g5, g6⟩ := hr.live b o.so (hbig b _ hb)
      exact ⟨L, by rw [hpull2 b g1 g2]; exact g5, (Live.al hal g3).2 g6⟩
  refine Calls.mono (C.run (pull F.gi φ) args' w (args_al hal hv ha) hrs) fun en w' hp => ?_
  obtain ⟨v', φ', r, s', ⟨hphi, hphi2⟩, rfl, hv', hr', hm⟩ := hp
  subst hphi hphi2
  have hdom' : ∀ b L, φ' b = some L → b < F.m := fun b L hb => by
    have := hr'.dom b L hb
    have h2 : (F.mem s').sh.next = F.m := ok.nx s'
    omega
  obtain ⟨ψ, hψ⟩ : ∃ ψ : Ph, ψ = ⟨fun j => if j < N then φ j else φ' (j - N + κ), φ'.fm⟩ := ⟨_, rfl⟩
  have ψlt : ∀ j, j < N → ψ j = φ j := fun j hj => by rw [hψ]; exact if_pos hj
  have ψge : ∀ j, ¬ j < N → ψ j = φ' (j - N + κ) := fun j hj => by rw [hψ]; exact if_neg hj
  have ψfm : ψ.fm = φ'.fm := by rw [hψ]
  have hle : Le φ ψ := ⟨fun b L hb => by rw [ψlt b (hr.dom b L hb)]; exact hb, fun m o ho => by rw [ψfm]; exact hm.lfm m o ho⟩
  -- names inside that lie behind the call
  have hin : ∀ b, b < F.m → F.hole b = false → φ' b = ψ (sN κ N b) := fun b h1 h2 => by
    by_cases hb : b < κ
    · obtain ⟨o, ho⟩ := hrow b hb h2
      obtain ⟨L, g1, -⟩ := hrs.live b o.so (by rw [HS.get_sh, ho]; rfl)
      rw [hm.le b L hb g1, sN_lt hb, ψlt b (by omega), ← hpull2 b h1 h2, g1]
    · rw [sN_ge hb, ψge _ (by omega)]
      congr 1; omega
  have hali : Al (fun b => bif Nat.blt b F.m && !F.hole b then some (sN κ N b) else none) φ' ψ := ⟨fun b b' hb => by
    cases h1 : Nat.blt b F.m && !F.hole b with
    | false => simp [h1] at hb
    | true =>
      simp only [h1, cond_true, Option.some.injEq] at hb
      subst hb
      simp only [Bool.and_eq_true, Nat.blt_eq, Bool.not_eq_true'] at h1
      exact hin b h1.1 h1.2, ψfm.symm⟩
  have hsj : ∀ a b c, sO κ N a = some c → sO κ N b = some c → a = b := fun a b c h1 h2 => by
    unfold sO at h1 h2
    cases h1
    exact sN_inj (by omega) (Option.some.inj h2).symm
  -- an object inside, renamed
  have hren : ∀ {o o2 : XO}, o.ren F.gi = some o → o.ren (sO κ N) = some o2 → o.ren (fun b => bif Nat.blt b F.m && !F.hole b then some (sN κ N b) else none) = some o2 := fun {o o2} h1 h2 => XO.ren_meet h1 h2 (fun b c d h3 h4 => by
    obtain ⟨rfl, g1, g2⟩ := Fam.gi_some h3
    unfold sO at h4
    rw [show Nat.blt c F.m = true by simpa using g1, g2]
    exact h4)
  -- what stands in the new memory
  have hnew : ∀ j q, (HS.sh ⟨appL X l2, N + (F.m - κ)⟩).get j = some q → ((F.hole j = true ∨ F.m ≤ j) ∧ j < N ∧ (HS.sh ⟨appL X (F.mem s).l, N⟩).get j = some q) ∨ (∃ (b : Nat) (o o2 : XO), sN κ N b = j ∧ b < F.m ∧ F.hole b = false ∧ (F.mem s').sh.get b = some o.so ∧ o.ren (fun b => bif Nat.blt b F.m && !F.hole b then some (sN κ N b) else none) = some o2 ∧ q = o2.so) := fun j q hq => by
    rw [HS.get_sh] at hq
    cases ho : HS.get ⟨appL X l2, N + (F.m - κ)⟩ j with
    | none => simp [ho] at hq
    | some o =>
      simp only [ho, Option.map_some, Option.some.injEq] at hq
      subst hq
      have h1 := HS.get_look ho
      simp only [look_app] at h1
      cases h2 : look X j with
      | some x =>
        simp only [h2, Option.some.injEq] at h1
        subst h1
        have hq2 : (HS.sh ⟨appL X (F.mem s).l, N⟩).get j = some o.so := by rw [HS.get_sh]; simp only [HS.get, look_app, h2]; rfl
        exact .inl ⟨hout j (hX.get h2).1, hr.old hq2, hq2⟩
      | none =>
        simp only [h2] at h1
        obtain ⟨b, y, k1, k2, k3⟩ := frameL_get hsj hl2 h1
        obtain ⟨o0, rfl, k4⟩ := k3 o rfl
        unfold sO at k1
        have hg : (F.mem s').get b = some o0 := by simp only [HS.get, k2]
        obtain ⟨o3, e1, e2, g1, g2, g3⟩ := hsml s' b o0.so (by rw [HS.get_sh, hg]; rfl)
        rw [hg] at e2; cases e2
        exact .inr ⟨b, o0, o, Option.some.inj k1, g1, g2, by rw [HS.get_sh, hg]; rfl, hren g3 k4, rfl⟩
  have apart : ∀ c M j q L, Owns (pull F.gi φ) (F.mem s).sh c M → (F.hole j = true ∨ F.m ≤ j) → (HS.sh ⟨appL X (F.mem s).l, N⟩).get j = some q → φ j = some L → M.m ≠ L.m := fun c M j q L hc hj hq hL => by
    obtain ⟨q0, h1, h2, h3⟩ := hc
    obtain ⟨o, -, -, g1, g2, -⟩ := hsml s c q0 h1
    exact hr.inj c j q M L (hown c M ⟨q0, h1, h2, h3⟩) hq hL (fun e => hj.elim (fun hj => by rw [← e, g2] at hj; cases hj) (fun hj => by omega))
  have hown2 : ∀ j L, Owns ψ (HS.sh ⟨appL X l2, N + (F.m - κ)⟩) j L → (∃ b, sN κ N b = j ∧ Owns φ' (F.mem s').sh b L) ∨ (Owns φ (HS.sh ⟨appL X (F.mem s).l, N⟩) j L ∧ (F.hole j = true ∨ F.m ≤ j)) := fun j L ⟨q, hq, ho, hL⟩ => by
    rcases hnew j q hq with ⟨g1, g2, g3⟩ | ⟨b, o, o2, k1, k2, k3, k4, k5, rfl⟩
    · exact .inr ⟨⟨q, g3, ho, by rw [← ψlt j g2]; exact hL⟩, g1⟩
    · exact .inl ⟨b, k1, o.so, k4, by rw [ren_own k5] at ho; exact ho, by rw [hin b k2 k3, k1]; exact hL⟩
  have hHR : HR base ψ (HS.sh ⟨appL X l2, N + (F.m - κ)⟩) w' := by
    refine ⟨fun j L hj => ?_, hr'.lo, fun j q hq => ?_, fun m o hmo => ?_, fun j j' q L L' hj hj' hL' hne => ?_⟩
    · show j < N + (F.m - κ)
      by_cases hjl : j < N
      · omega
      · rw [ψge j hjl] at hj
        have := hdom' _ _ hj
        omega
    · rcases hnew j q hq with ⟨g1, g2, g3⟩ | ⟨b, o, o2, k1, k2, k3, k4, k5, rfl⟩
      · obtain ⟨L, e1, e2⟩ := hr.live j q g3
        exact ⟨L, hle.f _ _ e1, e2.mono hle (hm.keep _ e2.lt fun c M hc => apart c M j q L hc g1 g3 e1)⟩
      · obtain ⟨L, e1, e2⟩ := hr'.live b _ k4
        exact ⟨L, by rw [← k1, ← hin b k2 k3]; exact e1, (Live.al hali k5).1 e2⟩
    · rw [ψfm] at hmo
      refine ⟨(hr'.froz m o hmo).1, fun j L hj => ?_⟩
      rcases hown2 j L hj with ⟨b, k1, k2⟩ | ⟨k1, k2⟩
      · exact (hr'.froz m o hmo).2 b L k2
      · obtain ⟨q, k3, k4, k5⟩ := k1
        obtain ⟨M, g1, g2⟩ := hr.live j q k3
        rw [k5] at g1; cases g1
        rcases hm.fm m o hmo with h1 | h1 | ⟨c, M, h1, h2⟩
        · exact (hr.froz m o h1).2 j L ⟨q, k3, k4, k5⟩
        · have := g2.lt; omega
        · rw [← h2]; exact fun e => apart c M j q L h1 k2 k3 k5 e.symm
    · rcases hown2 j L hj with ⟨b, k1, k2⟩ | ⟨k1, k2⟩
      · rcases hnew j' q hj' with ⟨g1, g2, g3⟩ | ⟨b', o, o2, f1, f2, f3, f4, f5, rfl⟩
        · rw [ψlt j' g2] at hL'
          obtain ⟨M, e1, e2⟩ := hr.live j' q g3
          rw [hL'] at e1; cases e1
          rcases hm.own b L k2 with h1 | ⟨b0, L0, h1, h2⟩
          · have := e2.lt; omega
          · rw [← h2]; exact apart b0 L0 j' q L' h1 g1 g3 hL'
        · rw [← f1, ← hin b' f2 f3] at hL'
          exact hr'.inj b b' _ L L' k2 f4 hL' (fun e => hne (by rw [← k1, ← f1, e]))
      · obtain ⟨q0, k3, k4, k5⟩ := k1
        obtain ⟨M, g1, g2⟩ := hr.live j q0 k3
        rw [k5] at g1; cases g1
        rcases hnew j' q hj' with ⟨e1, e2, e3⟩ | ⟨b', o, o2, f1, f2, f3, f4, f5, rfl⟩
        · rw [ψlt j' e2] at hL'
          exact hr.inj j j' q L L' ⟨q0, k3, k4, k5⟩ e3 hL' hne
        · rw [← f1, ← hin b' f2 f3] at hL'
          rcases hm.has b' _ L' f4 hL' with h1 | ⟨b0, q1, L0, h1, h2, h3⟩
          · have := g2.lt; omega
          · rw [← h3]
            obtain ⟨o1, rfl, -, i1, i2, -⟩ := hsml s b0 q1 h1
            exact hr.inj j b0 _ L L0 ⟨q0, k3, k4, k5⟩ (hbig b0 _ h1) (hpull b0 L0 h2).2.2 (fun e => k2.elim (fun k2 => by rw [e, i2] at k2; cases k2) (fun k2 => by omega))
  have hgs : Al (F.gs κ) φ' ψ := ⟨fun b b' hb => by
    unfold Fam.gs at hb
    cases h1 : Nat.blt b κ && !F.hole b with
    | false => simp [h1] at hb
    | true =>
      simp only [h1, cond_true, Option.some.injEq] at hb
      subst hb
      simp only [Bool.and_eq_true, Nat.blt_eq, Bool.not_eq_true'] at h1
      rw [hin b (by omega) h1.2, sN_lt h1.1], ψfm.symm⟩
  refine ⟨v', ψ, rfl, (VR.al hgs hr0).1 hv', hHR, hle, hm.os, hm.tape, hm.output, hm.size, fun q hq hn => hm.keep q hq fun b L hb => hn b L (hown b L hb), fun j L hj => ?_, fun j q L hj hL => ?_, fun m o hmo => ?_, ?_, fun j L hj => ?_⟩
  · rcases hown2 j L hj with ⟨b, k1, k2⟩ | ⟨k1, k2⟩
    · rcases hm.own b L k2 with h1 | ⟨b0, L0, h1, h2⟩
      · exact .inl h1
      · exact .inr ⟨b0, L0, hown b0 L0 h1, h2⟩
    · exact .inr ⟨j, L, k1, rfl⟩
  · rcases hnew j q hj with ⟨e1, e2, e3⟩ | ⟨b', o, o2, f1, f2, f3, f4, f5, rfl⟩
    · rw [ψlt j e2] at hL
      exact .inr ⟨j, q, L, e3, hL, rfl⟩
    · rw [← f1, ← hin b' f2 f3] at hL
      rcases hm.has b' _ L f4 hL with h1 | ⟨b0, q1, L0, h1, h2, h3⟩
      · exact .inl h1
      · exact .inr ⟨b0, q1, L0, hbig b0 q1 h1, (hpull b0 L0 h2).2.2, h3⟩
  · rw [ψfm] at hmo
    rcases hm.fm m o hmo with h1 | h1 | ⟨b, M, h1, h2⟩
    · exact .inl h1
    · exact .inr (.inl h1)
    · exact .inr (.inr ⟨b, M, hown b M h1, h2⟩)
  · show N ≤ N + (F.m - κ)
    omega
  · by_cases hjl : j < N
    · rw [ψlt j hjl] at hj; exact .inl hj
    · exact .inr (show N ≤ j by omega)
section
variable {h h' : HS} {cs : List Rec} {fl : List (Nat × List Nat)} {tr : List TX}
theorem MD.useCall {g : Option (Nat × Bool)} {d : Option Nat} {f : FuncId} {as : List LX} {l : List LOp} {vs : List XV} {r : XV} (hg : GOK e g) (C : Call P base f (vs.map XV.sv) h.sh r.sv h'.sh) (ha : xevs e as = some vs) (hx : MD P base n k l K (push d r e) h' (⟨f, vs.map XV.sv, h.sh, r.sv, h'.sh⟩ :: cs) Q) : MD P base n k (⟨g, d, .call f as⟩ :: l) K e h cs Q := ⟨fun id l0 e0 h0 hp hc =>
  hx.run id l0 e0 h0 (hp.step (fun c hc => List.mem_cons_of_mem _ hc) hg fun call o hcall hl => step_call ha (hcall _ (List.mem_cons_self ..)) o hl) (fun c hx => by
    rcases List.mem_cons.1 hx with rfl | hx
    · exact C
    · exact hc c hx)⟩
theorem MG.useCall {g : Option (Nat × Bool)} {d : Option Nat} {f : FuncId} {as : List LX} {l : List LOp} {vs : List XV} {r : XV} (hg : GOK e g) (C : Call P base f (vs.map XV.sv) h.sh r.sv h'.sh) (ha : xevs e as = some vs) (hx : MG P base n k fl l K (push d r e) h' (⟨f, vs.map XV.sv, h.sh, r.sv, h'.sh⟩ :: cs) (tr ++ [⟨.call f as, e, h, r, true⟩]) Q) : MG P base n k fl (⟨g, d, .call f as⟩ :: l) K e h cs tr Q := ⟨fun id l0 e0 h0 hp hc =>
  hx.run id l0 e0 h0 (hp.step (fun c hc => List.mem_cons_of_mem _ hc) hg fun call o hcall hl => step_call ha (hcall _ (List.mem_cons_self ..)) o hl) (fun c hx => by
    rcases List.mem_cons.1 hx with rfl | hx
    · exact C
    · exact hc c hx)⟩
theorem MF.useCall {g : Option (Nat × Bool)} {d : Option Nat} {f : FuncId} {as : List LX} {l : List LOp} {vs : List XV} {r : XV} (hg : GOK e g) (C : Call P base f (vs.map XV.sv) h.sh r.sv h'.sh) (ha : xevs e as = some vs) (hx : MF P base n k fl l K (push d r e) h' (⟨f, vs.map XV.sv, h.sh, r.sv, h'.sh⟩ :: cs) (⟨.call f as, e, h, r, true⟩ :: tr) Q) : MF P base n k fl (⟨g, d, .call f as⟩ :: l) K e h cs tr Q :=
  ⟨MG.useCall hg C ha (by have := hx.run; rwa [List.reverse_cons] at this)⟩
end
inductive TlS (F : Fam) (κ N : Nat) (l2 : List (Nat × Option XO)) : List (Nat × Option XO) → Prop where
  | here : TlS F κ N l2 l2
  | cons {p : Nat × Option XO} {l : List (Nat × Option XO)} (h : ((F.hole p.1 || !(Nat.blt p.1 F.m)) && (Nat.blt p.1 N || Nat.ble (N + (F.m - κ)) p.1)) = true) (t : TlS F κ N l2 l) : TlS F κ N l2 (p :: l)
theorem TlS.look {F : Fam} {κ N : Nat} {l2 : List (Nat × Option XO)} (hκ : κ ≤ F.m) : ∀ {l : List (Nat × Option XO)}, TlS F κ N l2 l → ∀ b, b < F.m → F.hole b = false → look l (sN κ N b) = Sym.look l2 (sN κ N b)
  | _, .here, b, _, _ => rfl
  | p :: l, .cons h t, b, h1, h2 => by
    rw [look_cons, show Nat.beq p.1 (sN κ N b) = false from ?_, cond_false, t.look hκ b h1 h2]
    rw [Bool.eq_false_iff]
    intro e
    have e := Nat.eq_of_beq_eq_true e
    simp only [Bool.and_eq_true, Bool.or_eq_true, Bool.not_eq_true', Bool.eq_false_iff, ne_eq, Nat.blt_eq, Nat.not_lt, Nat.ble_eq] at h
    obtain ⟨ha, hb⟩ := h
    by_cases hbk : b < κ
    · rw [sN_lt hbk] at e
      rcases ha with ha | ha
      · rw [e, h2] at ha; cases ha
      · omega
    · rw [sN_ge hbk] at e
      omega
def fidS (F : Fam) (κ N : Nat) (g : Nat → Option Nat) : Bool := (List.range F.m).all fun b => F.hole b || (match g b with
  | some c => Nat.beq c (sN κ N b)
  | none => false)
theorem HeapOK.famS {F : Fam} (ok : F.OK) {κ N : Nat} (hκ : Nat.ble κ F.m = true) (hN : Nat.ble F.m N = true) {g : Nat → Option Nat} {h : HS} {s : F.S} {l2 : List (Nat × Option XO)} (hl2 : frameL (sO κ N) (F.mem s).l = some l2) (ht : TlS F κ N l2 h.l) (hg : fidS F κ N g = true) : HeapOK g h (F.mem s).l := by
  have hκ := Nat.le_of_ble_eq_true hκ
  have hN := Nat.le_of_ble_eq_true hN
  have hsj : ∀ a b c, sO κ N a = some c → sO κ N b = some c → a = b := fun a b c h1 h2 => by
    unfold sO at h1 h2
    cases h1
    exact sN_inj (by omega) (Option.some.inj h2).symm
  have hgs : ∀ b, b < F.m → F.hole b = false → g b = some (sN κ N b) := fun b h1 h2 => by
    have := List.all_eq_true.1 hg b (List.mem_range.2 h1)
    rw [h2, Bool.false_or] at this
    split at this
    · rename_i d hd; rw [hd, Nat.eq_of_beq_eq_true this]
    · cases this
  refine HeapOK.of_mem fun b o hm => ?_
  have h1 := look_of_mem (ok.nd s) hm
  obtain ⟨g1, g2⟩ := (ok.clo s).get h1
  obtain ⟨-, g3, g4⟩ := Fam.gi_some g1
  obtain ⟨o2, e1, e2⟩ := frameL_at hsj hl2 (b := b) (j := sN κ N b) rfl h1
  refine ⟨sN κ N b, o2, o2, hgs b g3 g4, XO.ren_meet g2 e2 (fun a c d h3 h4 => ?_), ?_, WkO.rfl⟩
  · obtain ⟨rfl, k1, k2⟩ := Fam.gi_some h3
    unfold sO at h4
    cases h4
    exact hgs c k1 k2
  · unfold HS.get
    rw [ht.look hκ b g3 g4, e1]
end
end Go.Proofs.Ytjlfojgacnphmaa.Sym

namespace Go.Proofs.Ytjlfojgacnphmaa
open Go.RowKit Sim Go Sym
set_option linter.unusedVariables false
set_option linter.unusedSimpArgs false
theorem start_cell {w : World} {a : Addr} {u : Value} (h : w.cell? a = some u) : (startP w).cell a = some u := by
  unfold World.cell? at h
  unfold Ph.cell startP
  simp only
  cases hq : w.heap[a.block]? with
  | none => rw [hq] at h; simp at h
  | some o =>
    rw [hq] at h
    cases o <;> simp_all
theorem Rd.tz {w : World} {N : Nat → Prop} {v : Value} {n s : Nat} {cs : List Value} {el : List PC} (h : Rd w N v n s cs) (hn : el.length = n) (hc : ∀ (j : Nat) (x : SC), (flatE s el)[j]? = some x → ∃ u, cs[j]? = some u ∧ CR (startP w) x u) : ∃ z, VR (startP w) (XV.sv (.c (.p (.tz z s el none)))) v := by
  obtain ⟨h1, h2, h3, h4⟩ := h
  rcases h4 with ⟨rfl, h5⟩ | ⟨a, cap, rfl, h5, h6, h7, h8⟩
  · have : el = [] := List.eq_nil_of_length_eq_zero (by omega)
    subst this
    exact ⟨true, rfl⟩
  · refine ⟨false, ?_⟩
    show CR (startP w) (.fz el.length s (flatE s el) none) _
    simp only [CR]
    refine ⟨flatE_len s el, a, cap, by rw [hn], by omega, h6, (fun c' h => by cases h), CRs.mk fun j x hx => ?_⟩
    obtain ⟨u, g1, g2⟩ := hc j x hx
    rw [Nat.zero_add]
    exact ⟨u, start_cell (h8 j u g1), g2⟩
theorem flatE_ints (xs : List Int) : flatE 1 (inP xs) = xs.map (SC.int .i64) := by
  induction xs with
  | nil => rfl
  | cons x l ih => rw [inP, List.map_cons, flatE, ← inP, ih]; rfl
theorem RdI.tz {w : World} {N : Nat → Prop} {v : Value} {xs : List Int} (h : RdI .i64 w N v xs) : ∃ z, VR (startP w) (XV.sv (.c (.p (.tz z 1 (inP xs) none)))) v := by
  refine Rd.tz h.1 (by simp [inP]) fun j x hx => ?_
  rw [flatE_ints, List.getElem?_map] at hx
  cases hq : xs[j]? with
  | none => simp [hq] at hx
  | some y =>
    simp only [hq, Option.map_some, Option.some.injEq] at hx
    subst hx
    exact ⟨.int .i64 y, by simp [ints, hq], by simp only [CR]⟩
end Go.Proofs.Ytjlfojgacnphmaa
