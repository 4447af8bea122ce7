/- Functions over values with names. No program in sight. -/
import Derived.Test.YtgaaffanoegbhaaSymC
namespace Go.Proofs.Ytgaaffanoegbhaa.Sym
open Go Go.RowKit Go.Proofs.Ytgaaffanoegbhaa.Sim
set_option linter.unusedSimpArgs false
set_option linter.unusedVariables false
theorem ren_own {g : Nat → Option Nat} {x y : XO} (h : x.ren g = some y) : y.so.own = x.so.own := by
  cases x with
  | iter m a b c => cases m <;> simp only [XO.ren] at h <;> first | (simp only [Option.some.injEq] at h; subst h; rfl) | (split at h <;> first | (simp only [Option.some.injEq] at h; subst h; rfl) | (cases h; done))
  | _ => simp only [XO.ren] at h; first | (simp only [Option.some.injEq] at h; subst h; rfl) | (split at h <;> first | (simp only [Option.some.injEq] at h; subst h; rfl) | (cases h; done))
/-- Whatever is the one is the other. -/
def Wk (v v' : XV) : Prop := ∀ φ x, VR φ v.sv x → VR φ v'.sv x
theorem Wk.rfl {v : XV} : Wk v v := fun _ _ h => h
theorem Wk.of {v v' : XV} (h : v'.sv = v.sv) : Wk v v' := fun _ _ hv => by rw [h]; exact hv
theorem Wk.uncap {z : Bool} {s : Nat} {el : List PC} {c : Option Nat} : Wk (.c (.p (.tz z s el c))) (.c (.p (.tz z s el none))) := fun φ x hv => by
  simp only [XV.sv, XC.sc, PC.sc] at hv ⊢
  cases h : z && el.isEmpty
  · rw [h] at hv
    obtain ⟨h0, a, cap, h1, h2, h3, h4, h5⟩ := hv
    exact ⟨h0, a, cap, h1, h2, h3, (fun c' hc => by cases hc), h5⟩
  · rw [h] at hv; exact hv
/-- nil or not makes no difference for what is not empty. -/
theorem Wk.some {z z' : Bool} {s : Nat} {el : List PC} {c : Option Nat} (h : el ≠ []) : Wk (.c (.p (.tz z s el c))) (.c (.p (.tz z' s el c))) := Wk.of (by
  have : el.isEmpty = false := by cases el <;> simp_all
  simp only [XV.sv, XC.sc, PC.sc, this, Bool.and_false, cond_false])
/-- nil, of whatever size. -/
theorem Wk.nil {s s' : Nat} {c c' : Option Nat} : Wk (.c (.p (.tz true s [] c))) (.c (.p (.tz true s' [] c'))) := Wk.of (by simp [XV.sv, XC.sc, PC.sc])
theorem Wk.trans {u v w : XV} (h : Wk u v) (k : Wk v w) : Wk u w := fun φ x hx => k φ x (h φ x hx)
def WkO (o o' : XO) : Prop := o.so.own = o'.so.own ∧ ∀ base φ w L, Live base φ w L o.so → Live base φ w L o'.so
theorem WkO.rfl {o : XO} : WkO o o := ⟨Eq.refl _, fun _ _ _ _ h => h⟩
theorem WkO.of {o o' : XO} (h : o'.so = o.so) : WkO o o' := ⟨by rw [h], fun _ _ _ _ hv => by rw [h]; exact hv⟩
/-- Cell by cell. -/
def WkL : List XC → List XC → Prop
  | [], [] => True
  | x :: l, y :: r => Wk (.c x) (.c y) ∧ WkL l r
  | _, _ => False
theorem WkL.get : ∀ {l r : List XC}, WkL l r → l.length = r.length ∧ ∀ (i : Nat) (y : XC), r[i]? = some y → ∃ x, l[i]? = some x ∧ Wk (.c x) (.c y)
  | [], [], _ => ⟨Eq.refl _, fun i y h => by simp at h⟩
  | x :: l, y :: r, h => by
    obtain ⟨h1, h2⟩ := h.2.get
    refine ⟨by simp [h1], fun i z hz => ?_⟩
    cases i with
    | zero => simp at hz; subst hz; exact ⟨x, by simp, h.1⟩
    | succ i => simpa using h2 i z (by simpa using hz)
  | [], _ :: _, h => h.elim
  | _ :: _, [], h => h.elim
theorem WkO.row {l r : List XC} {own : Bool} (h : WkL l r) : WkO (.row l own) (.row r own) := by
  obtain ⟨h1, h2⟩ := h.get
  refine ⟨Eq.refl _, fun base φ w L ⟨e1, cs, E, fr, e2, e3, e4⟩ => ⟨by rw [e1]; simp [h1], cs, E, fr, e2, fun i x hx => ?_, fun hh => by obtain ⟨q1, q2, q3, q4⟩ := e4 hh; exact ⟨q1, q2, by simp only [List.length_map] at q3 ⊢; omega, q4⟩⟩⟩
  rw [List.getElem?_map, Option.map_eq_some_iff] at hx
  obtain ⟨y, hy, rfl⟩ := hx
  obtain ⟨x, hx, hw⟩ := h2 i y hy
  obtain ⟨v, v1, v2⟩ := e3 i x.sc (by rw [List.getElem?_map, hx]; rfl)
  exact ⟨v, v1, hw φ v v2⟩
/-- Each slot of the one stands, with its names changed, in the other. -/
def EnvOK (g : Nat → Option Nat) (e : Env) : Env → Prop
  | [] => True
  | p :: r => (∃ v2 v3, p.2.ren g = some v3 ∧ look e p.1 = some v2 ∧ Wk v2 v3) ∧ EnvOK g e r
def HeapOK (g : Nat → Option Nat) (h : HS) : List (Nat × Option XO) → Prop
  | [] => True
  | (b, some o) :: r => (∃ b' o2 o3, g b = some b' ∧ o.ren g = some o3 ∧ h.get b' = some o2 ∧ WkO o2 o3) ∧ HeapOK g h r
  | (_, none) :: r => HeapOK g h r
def nodupB : List Nat → Bool
  | [] => true
  | x :: l => !(l.any (Nat.beq x)) && nodupB l
def keeps (ρ : List (Nat × Nat)) : Nat → Bool
  | 0 => true
  | k + 1 => (match look ρ k with
    | some b => Nat.beq b k
    | none => false) && keeps ρ k
def rhoOK (ρ : List (Nat × Nat)) (k next : Nat) : Bool := ρ.all (fun p => Nat.blt p.1 next) && nodupB (ρ.map (·.2)) && keeps ρ k
theorem look_mem {α : Type} : ∀ {l : List (Nat × α)} {i : Nat} {x : α}, look l i = some x → (i, x) ∈ l
  | [], i, x, h => by simp [look] at h
  | p :: r, i, x, h => by
    simp only [look_cons] at h
    by_cases hb : Nat.beq p.1 i = true
    · rw [hb] at h
      simp only [cond_true, Option.some.injEq] at h
      have := Nat.eq_of_beq_eq_true hb
      subst h; subst this
      exact List.mem_cons_self ..
    · rw [Bool.eq_false_iff.2 hb] at h
      exact List.mem_cons_of_mem _ (look_mem h)
theorem EnvOK.get {g : Nat → Option Nat} {e : Env} : ∀ {l : Env} {i : Nat} {v : XV}, EnvOK g e l → look l i = some v → ∃ v2 v3, v.ren g = some v3 ∧ look e i = some v2 ∧ Wk v2 v3
  | [], i, v, _, h => by simp [look] at h
  | p :: r, i, v, hk, h => by
    simp only [look_cons] at h
    by_cases hb : Nat.beq p.1 i = true
    · rw [hb] at h
      simp only [cond_true, Option.some.injEq] at h
      have := Nat.eq_of_beq_eq_true hb
      subst h; subst this
      exact hk.1
    · rw [Bool.eq_false_iff.2 hb] at h
      exact hk.2.get h
theorem HeapOK.get {g : Nat → Option Nat} {h : HS} : ∀ {l : List (Nat × Option XO)} {b : Nat} {o : XO}, HeapOK g h l → look l b = some (some o) → ∃ b' o2 o3, g b = some b' ∧ o.ren g = some o3 ∧ h.get b' = some o2 ∧ WkO o2 o3
  | [], i, v, _, h => by simp [look] at h
  | (b, x) :: r, i, v, hk, h => by
    simp only [look_cons] at h
    by_cases hb : Nat.beq b i = true
    · rw [hb] at h
      simp only [cond_true, Option.some.injEq] at h
      have := Nat.eq_of_beq_eq_true hb
      subst h; subst this
      exact hk.1
    · rw [Bool.eq_false_iff.2 hb] at h
      cases x with
      | none => exact HeapOK.get (l := r) hk h
      | some x => exact HeapOK.get (l := r) hk.2 h
theorem HS.get_look {h : HS} {b : Nat} {o : XO} (hb : h.get b = some o) : look h.l b = some (some o) := by
  unfold HS.get at hb
  split at hb
  · rename_i o' ho; simp only [Option.some.injEq] at hb; subst hb; exact ho
  · cases hb
theorem nodupB_inj : ∀ {ρ : List (Nat × Nat)} {a b c : Nat}, nodupB (ρ.map (·.2)) = true → look ρ a = some c → look ρ b = some c → a = b
  | [], a, b, c, _, h, _ => by simp [look] at h
  | p :: r, a, b, c, hn, ha, hb => by
    simp only [List.map_cons, nodupB, Bool.and_eq_true, Bool.not_eq_true', List.any_eq_false] at hn
    have key : ∀ i, Nat.beq p.1 i = false → look (p :: r) i = some c → p.2 ≠ c := fun i hi hl e => by
      simp only [look_cons, hi, cond_false] at hl
      have := hn.1 c (List.mem_map.2 ⟨_, look_mem hl, rfl⟩)
      rw [e] at this
      simp at this
    simp only [look_cons] at ha hb
    cases h1 : Nat.beq p.1 a <;> cases h2 : Nat.beq p.1 b
    · rw [h1] at ha; rw [h2] at hb
      exact nodupB_inj hn.2 ha hb
    · rw [h2] at hb
      simp only [cond_true, Option.some.injEq] at hb
      exact absurd hb (key a h1 (by simp only [look_cons]; exact ha))
    · rw [h1] at ha
      simp only [cond_true, Option.some.injEq] at ha
      exact absurd ha (key b h2 (by simp only [look_cons]; exact hb))
    · exact (Nat.eq_of_beq_eq_true h1).symm.trans (Nat.eq_of_beq_eq_true h2)
theorem keeps_get {ρ : List (Nat × Nat)} : ∀ {k b : Nat}, keeps ρ k = true → b < k → look ρ b = some b
  | 0, b, _, h => by omega
  | k + 1, b, hk, hb => by
    simp only [keeps, Bool.and_eq_true] at hk
    by_cases e : b = k
    · subst e
      have h1 := hk.1
      split at h1
      · rename_i c hc; rw [hc, Nat.eq_of_beq_eq_true h1]
      · cases h1
    · exact keeps_get hk.2 (by omega)
/-- The ways of the smaller state. -/
def pull (g : Nat → Option Nat) (φ : Ph) : Ph := ⟨fun b => match g b with
  | some b' => φ b'
  | none => none, φ.fm⟩
theorem pull_al (g : Nat → Option Nat) (φ : Ph) : Al g (pull g φ) φ := ⟨fun b b' h => by show (match g b with | some b' => φ b' | none => none) = _; rw [h], rfl⟩
theorem ren_state {base n k : Nat} {e e' : Env} {h h' : HS} {ρ : List (Nat × Nat)} (hρ : rhoOK ρ k h'.next = true) (he : EnvOK (look ρ) e e') (hh : HeapOK (look ρ) h h'.l) {φ : Ph} {a : Act} {w : World} (ht : TR φ (toSF n e) a) (hr : HR base φ h.sh w) :
    TR (pull (look ρ) φ) (toSF n e') a ∧ HR base (pull (look ρ) φ) h'.sh w ∧ Mo k φ (pull (look ρ) φ) h.sh w h'.sh w := by
  simp only [rhoOK, Bool.and_eq_true] at hρ
  obtain ⟨⟨h1, h2⟩, h3⟩ := hρ
  have hal := pull_al (look ρ) φ
  have hdom : ∀ b L, pull (look ρ) φ b = some L → ∃ b', look ρ b = some b' ∧ φ b' = some L := fun b L hb => by
    have hb' : (match look ρ b with | some b' => φ b' | none => none) = some L := hb
    cases hg : look ρ b with
    | none => simp [hg] at hb'
    | some b' => rw [hg] at hb'; exact ⟨b', rfl, hb'⟩
  have hget : ∀ b q, h'.sh.get b = some q → ∃ b' o o2 o3, h'.get b = some o ∧ q = o.so ∧ look ρ b = some b' ∧ o.ren (look ρ) = some o3 ∧ h.get b' = some o2 ∧ WkO o2 o3 := fun b q hq => by
    rw [HS.get_sh] at hq
    cases ho : h'.get b with
    | none => simp [ho] at hq
    | some o =>
      simp only [ho, Option.map_some, Option.some.injEq] at hq
      obtain ⟨b', o2, o3, g1, g2, g3, g4⟩ := hh.get (HS.get_look ho)
      exact ⟨b', o, o2, o3, rfl, hq.symm, g1, g2, g3, g4⟩
  have hown : ∀ b L, Owns (pull (look ρ) φ) h'.sh b L → ∃ b', look ρ b = some b' ∧ Owns φ h.sh b' L := fun b L ⟨q, hq, ho, hL⟩ => by
    obtain ⟨b', o, o2, o3, g0, rfl, g1, g2, g3, g4⟩ := hget b q hq
    obtain ⟨b'', g5, g6⟩ := hdom b L hL
    rw [g1] at g5; cases g5
    exact ⟨b', g1, o2.so, by rw [HS.get_sh, g3]; rfl, by rw [g4.1, ren_own g2]; exact ho, g6⟩
  refine ⟨⟨ht.n, fun i v hv => ?_⟩, ⟨fun b L hb => ?_, hr.lo, fun b q hb => ?_, fun m o hm => ?_, ?_⟩, ?_⟩
  · rw [get_toSF] at hv
    cases hl : look e' i with
    | none => simp [hl] at hv
    | some v1 =>
      simp only [hl, Option.map_some, Option.some.injEq] at hv
      subst hv
      obtain ⟨v2, v3, g1, g2, g3⟩ := he.get hl
      obtain ⟨g4, g5⟩ := ht.at_ i v2.sv (by rw [get_toSF, g2]; rfl)
      exact ⟨g4, (VR.al hal g1).2 (g3 φ _ g5)⟩
  · obtain ⟨b', g1, g2⟩ := hdom b L hb
    have := List.all_eq_true.1 h1 _ (look_mem g1)
    show b < h'.next
    simpa using this
  · obtain ⟨b', o, o2, o3, g0, rfl, g1, g2, g3, g4⟩ := hget b q hb
    obtain ⟨L, g5, g6⟩ := hr.live b' o2.so (by rw [HS.get_sh, g3]; rfl)
    refine ⟨L, ?_, (Live.al hal g2).2 (g4.2 _ _ _ _ g6)⟩
    rw [hal.f b b' g1]; exact g5
  · refine ⟨(hr.froz m o hm).1, fun b L hb => ?_⟩
    obtain ⟨b', g1, g2⟩ := hown b L hb
    exact (hr.froz m o hm).2 b' L g2
  · intro b b1 q L L1 hb hb1 hL1 hne
    obtain ⟨c, g1, g2⟩ := hown b L hb
    obtain ⟨c1, o, o2, o3, f0, rfl, f1, f2, f3, f4⟩ := hget b1 q hb1
    obtain ⟨c', f5, f6⟩ := hdom b1 L1 hL1
    rw [f1] at f5; cases f5
    exact hr.inj c c1 o2.so L L1 g2 (by rw [HS.get_sh, f3]; rfl) f6 (fun e => hne (nodupB_inj h2 (e ▸ g1) f1))
  · refine ⟨fun b L hb hL => ?_, fun m o hm => hm, rfl, rfl, rfl, Nat.le_refl _, fun _ _ _ => rfl, fun b L hb => ?_, fun b q L hb hL => ?_, fun m o hm => .inl hm⟩
    · rw [hal.f b b (keeps_get h3 hb)]; exact hL
    · obtain ⟨b', g1, g2⟩ := hown b L hb
      exact .inr ⟨b', L, g2, rfl⟩
    · obtain ⟨c1, o, o2, o3, f0, rfl, f1, f2, f3, f4⟩ := hget b q hb
      obtain ⟨c', f5, f6⟩ := hdom b L hL
      rw [f1] at f5; cases f5
      exact .inr ⟨c1, o2.so, L, by rw [HS.get_sh, f3]; rfl, f6, rfl⟩
section
variable {P : Program} {base n k : Nat} {e e' : Env} {h h' : HS} {Q : QX}
/-- Names are changed; slots and memory are forgotten. -/
theorem X.ren {c : LC} (ρ : List (Nat × Nat)) (hx : X P base n k c e' h' Q) (hρ : rhoOK ρ k h'.next = true) (he : EnvOK (look ρ) e e') (hh : HeapOK (look ρ) h h'.l) : X P base n k c e h Q := ⟨fun code hl φ a w ht hr => by
  obtain ⟨g1, g2, g3⟩ := ren_state hρ he hh ht hr
  exact wp_mono (hx.run code hl _ a w g1 g2) fun ex a' w' hp => hp.of g3⟩
theorem XH.ren {c : LC} (ρ : List (Nat × Nat)) (hx : XH P base n k c e' h' Q) (hρ : rhoOK ρ k h'.next = true) (he : EnvOK (look ρ) e e') (hh : HeapOK (look ρ) h h'.l) : XH P base n k c e h Q := ⟨fun code hl φ a w ht hr => by
  obtain ⟨g1, g2, g3⟩ := ren_state hρ he hh ht hr
  exact wpHead_mono (hx.run code hl _ a w g1 g2) fun ex a' w' hp => hp.of g3⟩
theorem XR.ren {l : List LOp} (ρ : List (Nat × Nat)) (hx : XR P base n k l e' h' Q) (hρ : rhoOK ρ k h'.next = true) (he : EnvOK (look ρ) e e') (hh : HeapOK (look ρ) h h'.l) : XR P base n k l e h Q := ⟨fun ops lo hl φ a w ht hr R hR => by
  obtain ⟨g1, g2, g3⟩ := ren_state hρ he hh ht hr
  exact hx.run ops lo hl _ a w g1 g2 R fun ex a' w' hp => hR _ _ _ (hp.of g3)⟩
/-! Slices are frozen. -/
theorem HR.ice {φ : Ph} {h : SH} {w : World} (hr : HR base φ h w) {b : Nat} {q : List SC} {L : Sim.Loc} (hb : h.get b = some (.row q true)) (hL : φ b = some L) (ψ : Ph) (hψ : ψ = ⟨φ.f, fun m => if m = L.m then w.heap[m]? else φ.fm m⟩) :
    Le φ ψ ∧ HR base ψ (h.put b none) w ∧ Mv φ h w ψ (h.put b none) w := by
  have hown : Owns φ h b L := ⟨_, hb, rfl, hL⟩
  have hle : Le φ ψ := by
    subst hψ
    refine ⟨fun b L hb => hb, fun m o hm => ?_⟩
    have := (hr.froz m o hm).2 b L hown
    show (if m = L.m then _ else _) = _
    rw [if_neg (fun e => this e.symm)]
    exact hm
  have hget : ∀ c q', (h.put b none).get c = some q' → c ≠ b ∧ h.get c = some q' := fun c q' hc => by
    rw [SH.get_put] at hc
    by_cases e : c = b
    · rw [if_pos e] at hc; cases hc
    · rw [if_neg e] at hc; exact ⟨e, hc⟩
  have ho : ∀ c M, Owns ψ (h.put b none) c M → c ≠ b ∧ Owns φ h c M := fun c M ⟨q', hc, ho, hM⟩ => by
    obtain ⟨e, hc⟩ := hget c q' hc
    subst hψ
    exact ⟨e, q', hc, ho, hM⟩
  have hf : ψ.f = φ.f := by rw [hψ]
  refine ⟨hle, ⟨fun c M hc => ?_, hr.lo, fun c q' hc => ?_, fun m o hm => ?_, fun c c' q' M M' h1 h2 h3 h4 => ?_⟩, ⟨hle, rfl, rfl, rfl, Nat.le_refl _, fun _ _ _ => rfl, fun c M hc => ?_, fun c q' M hc hM => ?_, fun m o hm => ?_, Nat.le_refl _, fun c M hc => ?_⟩⟩
  · have : φ c = some M := by have h1 : ψ.f c = some M := hc; rwa [hf] at h1
    exact hr.dom c M this
  · obtain ⟨_, hc⟩ := hget c q' hc
    obtain ⟨M, h1, h2⟩ := hr.live c q' hc
    exact ⟨M, hle.f _ _ h1, h2.mono hle rfl⟩
  · subst hψ
    have hm' : (if m = L.m then w.heap[m]? else φ.fm m) = some o := hm
    by_cases e : m = L.m
    · rw [if_pos e] at hm'
      refine ⟨hm', fun c M hc => ?_⟩
      obtain ⟨g1, q2, g2, g3, g4⟩ := ho c M hc
      rw [e]
      exact hr.inj c b _ M L ⟨q2, g2, g3, g4⟩ hb hL g1
    · rw [if_neg e] at hm'
      exact ⟨(hr.froz m o hm').1, fun c M hc => (hr.froz m o hm').2 c M (ho c M hc).2⟩
  · obtain ⟨e3, h2⟩ := hget c' q' h2
    have : φ c' = some M' := by have h1 : ψ.f c' = some M' := h3; rwa [hf] at h1
    exact hr.inj c c' q' M M' (ho c M h1).2 h2 this h4
  · exact .inr ⟨c, M, (ho c M hc).2, rfl⟩
  · have : φ c = some M := by have h1 : ψ.f c = some M := hM; rwa [hf] at h1
    exact .inr ⟨c, q', M, (hget c q' hc).2, this, rfl⟩
  · subst hψ
    have hm' : (if m = L.m then w.heap[m]? else φ.fm m) = some o := hm
    by_cases e : m = L.m
    · exact .inr (.inr ⟨b, L, hown, e.symm⟩)
    · rw [if_neg e] at hm'; exact .inl hm'
  · have h1 : ψ.f c = some M := hc
    rw [hf] at h1
    exact .inl h1
/-- What a slice of one's own is when its block is frozen. -/
theorem CR.freeze {φ : Ph} {h : SH} {w : World} (hr : HR base φ h w) {b s m : Nat} {el : List PC} {c : Option Nat} {L : Sim.Loc} (hb : h.get b = some (.row (flatE s el) true)) (hL : φ b = some L) {v : Value} (hv : CR φ (.sl b 0 m s c) v) (hm : m = el.length) (ψ : Ph) (hψ : ψ = ⟨φ.f, fun m => if m = L.m then w.heap[m]? else φ.fm m⟩) (hle : Le φ ψ) :
    CR ψ (XC.p (.tz false s el c)).sc v := by
  obtain ⟨L', a, cap, h1, rfl, h3, h4, h5, h6, h7⟩ := hv
  rw [hL] at h1; cases h1
  obtain ⟨M, g1, g2, cs, E, fr, g3, g4, g5⟩ := hr.live b _ hb
  rw [hL] at g1; cases g1
  subst hm
  refine ⟨flatE_len s el, a, cap, rfl, h4, h5, ?_, CRs.mk fun j x hx => ?_⟩
  · intro c' hc'
    subst hc'
    exact h7
  · have hj : j < el.length * s := by
      rw [← flatE_len]
      exact (List.getElem?_eq_some_iff.1 hx).1
    have hc : 0 < cap := by
      rcases Nat.eq_zero_or_pos cap with h0 | h0
      · have : el.length = 0 := by omega
        rw [this] at hj; omega
      · exact h0
    have ha := h3 hc
    subst ha
    obtain ⟨u, f1, f2⟩ := g4 j x hx
    refine ⟨u, ?_, f2.mono hle⟩
    have hadd : (⟨L.m, L.m0 + 0, none⟩ : Addr).add (0 + j) = ⟨L.m, L.m0 + j, none⟩ := by
      unfold Addr.add
      split <;> simp_all
    rw [hadd]
    unfold Ph.cell
    have : ψ.fm L.m = some (.cells cs E fr) := by rw [hψ]; show (if L.m = L.m then _ else _) = _; rw [if_pos rfl]; exact g3
    simp only [this, Option.isSome_none, Bool.false_eq_true, if_false]
    exact f1
theorem freeze_slot {i b s m : Nat} {el : List PC} {c : Option Nat} (hi : look e i = some (.c (.sl b 0 m s c))) (hb : h.get b = some (.els s el)) (hm : m = el.length) {φ : Ph} {a : Act} {w : World} (ht : TR φ (toSF n e) a) (hr : HR base φ h.sh w) :
    ∃ ψ, TR ψ (toSF n ((i, .c (.p (.tz false s el c))) :: e)) a ∧ HR base ψ (h.put b none).sh w ∧ Mo k φ ψ h.sh w (h.put b none).sh w := by
  have hb' := get_els hb
  obtain ⟨L, hL, _⟩ := hr.live b _ hb'
  obtain ⟨h1, h2, h3⟩ := HR.ice hr hb' hL _ rfl
  refine ⟨_, ⟨ht.n, fun j v hv => ?_⟩, h2, .of h3⟩
  rw [get_toSF] at hv
  simp only [look_cons] at hv
  by_cases hj : Nat.beq i j = true
  · have := Nat.eq_of_beq_eq_true hj
    subst this
    rw [hj] at hv
    simp only [cond_true, Option.map_some, Option.some.injEq] at hv
    subst hv
    obtain ⟨g1, g2⟩ := ht.at_ i (XV.sv (.c (.sl b 0 m s c))) (by rw [get_toSF, hi]; rfl)
    exact ⟨g1, CR.freeze hr hb' hL g2 hm _ rfl h1⟩
  · rw [Bool.eq_false_iff.2 hj] at hv
    obtain ⟨g1, g2⟩ := (ht.mono h1).at_ j v (by rw [get_toSF]; exact hv)
    exact ⟨g1, g2⟩
theorem X.freeze {i b s m : Nat} {el : List PC} {c : Option Nat} {q : LC} (hi : look e i = some (.c (.sl b 0 m s c))) (hb : h.get b = some (.els s el)) (hm : m = el.length) (hx : X P base n k q ((i, .c (.p (.tz false s el c))) :: e) (h.put b none) Q) : X P base n k q e h Q := ⟨fun code hl φ a w ht hr => by
  obtain ⟨ψ, g1, g2, g3⟩ := freeze_slot (k := k) hi hb hm ht hr
  exact wp_mono (hx.run code hl _ a w g1 g2) fun ex a' w' hp => hp.of g3⟩
theorem XR.freeze {i b s m : Nat} {el : List PC} {c : Option Nat} {q : List LOp} (hi : look e i = some (.c (.sl b 0 m s c))) (hb : h.get b = some (.els s el)) (hm : m = el.length) (hx : XR P base n k q ((i, .c (.p (.tz false s el c))) :: e) (h.put b none) Q) : XR P base n k q e h Q := ⟨fun ops lo hl φ a w ht hr R hR => by
  obtain ⟨ψ, g1, g2, g3⟩ := freeze_slot (k := k) hi hb hm ht hr
  exact hx.run ops lo hl _ a w g1 g2 R fun ex a' w' hp => hR _ _ _ (hp.of g3)⟩
/-- .. its capacity forgotten. -/
theorem X.freezeN {i b s m : Nat} {el : List PC} {c : Option Nat} {q : LC} (hi : look e i = some (.c (.sl b 0 m s c))) (hb : h.get b = some (.els s el)) (hm : m = el.length) (hx : X P base n k q ((i, .c (.p (.tz false s el none))) :: e) (h.put b none) Q) : X P base n k q e h Q := ⟨fun code hl φ a w ht hr => by
  obtain ⟨ψ, g1, g2, g3⟩ := freeze_slot (k := k) hi hb hm ht hr
  refine wp_mono (hx.run code hl _ a w ⟨g1.n, fun j v hv => ?_⟩ g2) fun ex a' w' hp => hp.of g3
  rw [get_toSF, look_cons] at hv
  by_cases hj : Nat.beq i j = true
  · have h1 := g1.at_ j (XV.sv (.c (.p (.tz false s el c)))) (by rw [get_toSF, look_cons]; simp only [hj]; rfl)
    simp only [hj, cond_true, Option.map_some, Option.some.injEq] at hv
    subst hv
    exact ⟨h1.1, Wk.uncap ψ _ h1.2⟩
  · rw [Bool.eq_false_iff.2 hj, cond_false] at hv
    exact g1.at_ j v (by rw [get_toSF, look_cons]; simp only [Bool.eq_false_iff.2 hj, cond_false]; exact hv)⟩
/-- A cell of a row of one's own that holds the slice. -/
theorem freeze_row {b0 o b s m : Nat} {el : List PC} {c : Option Nat} {r r' : List XC} (h0 : h.get b0 = some (.row r true)) (hne : Nat.beq b b0 = false) (hi : getN r o 1 = some [.sl b 0 m s c]) (hr' : setN r o [.p (.tz false s el c)] = some r') (hb : h.get b = some (.els s el)) (hm : m = el.length) {φ : Ph} {a : Act} {w : World} (ht : TR φ (toSF n e) a) (hr : HR base φ h.sh w) :
    ∃ ψ, TR ψ (toSF n e) a ∧ HR base ψ ((h.put b none).put b0 (some (.row r' true))).sh w ∧ Mo k φ ψ h.sh w ((h.put b none).put b0 (some (.row r' true))).sh w := by
  have hb' := get_els hb
  obtain ⟨L, hL, _⟩ := hr.live b _ hb'
  obtain ⟨ψ, hψ⟩ : ∃ ψ : Ph, ψ = ⟨φ.f, fun m => if m = L.m then w.heap[m]? else φ.fm m⟩ := ⟨_, rfl⟩
  obtain ⟨h1, h2, h3⟩ := HR.ice hr hb' hL ψ hψ
  have hbb : b0 ≠ b := fun e => by subst e; simp at hne
  have h0' : (h.sh.put b none).get b0 = some (.row (r.map XC.sc) true) := by rw [SH.get_put, if_neg hbb]; exact get_row h0
  obtain ⟨L0, g1, g2⟩ := h2.live b0 _ h0'
  obtain ⟨e1, cs, E, fr, e2, e3, e4⟩ := g2
  obtain ⟨s1, s2⟩ := getN_eq hi
  obtain ⟨s3, s4⟩ := setN_eq hr'
  have hlen : r'.length = r.length := by rw [s4]; simp at s3 ⊢; omega
  have hL0 : φ b0 = some L0 := by
    have g3 : ψ.f b0 = some L0 := g1
    rw [hψ] at g3
    exact g3
  have hq : Live base ψ w L0 (.row (r'.map XC.sc) true) := by
    refine ⟨by rw [e1]; simp [hlen], cs, E, fr, e2, fun i x hx => ?_, fun hh => by obtain ⟨q1, q2, q3, q4⟩ := e4 hh; exact ⟨q1, q2, by simp only [List.length_map] at q3 ⊢; omega, q4⟩⟩
    by_cases hio : i = o
    · subst hio
      have hx' : x = (XC.p (.tz false s el c)).sc := by
        rw [List.getElem?_map, s4] at hx
        rw [List.append_assoc, List.getElem?_append_right (by simp; omega)] at hx
        simp [List.length_take, Nat.min_eq_left (show i ≤ r.length by simp at s3; omega)] at hx
        exact hx.symm
      have hor : (r.map XC.sc)[i]? = some (SC.sl b 0 m s c) := by
        have := congrArg (·[0]?) s2
        simp only [List.getElem?_take, List.getElem?_drop] at this
        rw [List.getElem?_map]
        simp at this
        rw [← this]; rfl
      obtain ⟨f1, f2, f3, cs', E', fr', f6, f7⟩ := hr.live b0 _ (get_row h0)
      rw [hL0] at f2; cases f2
      have : w.heap[L0.m]? = some (.cells cs E fr) := e2
      rw [f6] at this
      cases this
      obtain ⟨v, v1, v2⟩ := f7.1 i _ hor
      exact ⟨v, v1, by rw [hx']; exact CR.freeze hr hb' hL v2 hm ψ hψ h1⟩
    · refine e3 i x ?_
      rw [List.getElem?_map] at hx ⊢
      rw [← hx, s4]
      congr 1
      simp only [List.length_singleton] at s3
      by_cases hlt : i < o
      · rw [List.append_assoc, List.getElem?_append_left (by simp; omega), List.getElem?_take, if_pos hlt]
      · rw [List.getElem?_append_right (by simp; omega), List.getElem?_drop]
        congr 1
        simp
        omega
  obtain ⟨f1, f2⟩ := h2.change ⟨_, h0', rfl, g1⟩ (.row (r'.map XC.sc) true) rfl (fun _ _ => rfl) hq rfl rfl rfl
  exact ⟨_, ht.mono h1, f1, .of (h3.trans f2)⟩
theorem X.freezeR {b0 o b s m : Nat} {el : List PC} {c : Option Nat} {r r' : List XC} {q : LC} (h0 : h.get b0 = some (.row r true)) (hne : Nat.beq b b0 = false) (hi : getN r o 1 = some [.sl b 0 m s c]) (hr' : setN r o [.p (.tz false s el c)] = some r') (hb : h.get b = some (.els s el)) (hm : m = el.length)
    (hx : X P base n k q e ((h.put b none).put b0 (some (.row r' true))) Q) : X P base n k q e h Q := ⟨fun code hl φ a w ht hr => by
  obtain ⟨ψ, g1, g2, g3⟩ := freeze_row (k := k) h0 hne hi hr' hb hm ht hr
  exact wp_mono (hx.run code hl _ a w g1 g2) fun ex a' w' hp => hp.of g3⟩
end
end Go.Proofs.Ytgaaffanoegbhaa.Sym
