/- Names are changed, memory is forgotten, slices are frozen. No program in sight. -/
import Derived.Test.YtgaaffanoegbhaaSymX
namespace Go.Proofs.Ytgaaffanoegbhaa.Sym
open Go Go.RowKit Go.Proofs.Ytgaaffanoegbhaa.Sim
set_option linter.unusedSimpArgs false
set_option linter.unusedVariables false

mutual
/-- No address of one's own. -/
def puC : SC → Bool
  | .bool _ => true
  | .int _ _ => true
  | .str _ => true
  | .nilp => true
  | .nils => true
  | .em => true
  | .mp none => true
  | .fz _ _ l _ => puL l
  | .fp l _ => puL l
  | _ => false
def puL : List SC → Bool
  | [] => true
  | x :: l => puC x && puL l
end
theorem puL_all : ∀ l : List SC, puL l = l.all puC
  | [] => by simp [puL]
  | x :: l => by simp [puL, puL_all l]
mutual
theorem CR.pu {φ ψ : Ph} (h : ∀ m o, φ.fm m = some o → ψ.fm m = some o) : ∀ {x : SC} {v : Value}, puC x = true → CR φ x v → CR ψ x v
  | .bool _, _, _, r => by simpa only [CR] using r
  | .int _ _, _, _, r => by simpa only [CR] using r
  | .str _, _, _, r => by simpa only [CR] using r
  | .nilp, _, _, r => by simpa only [CR] using r
  | .ptr _ _, _, hp, _ => by simp [puC] at hp
  | .nils, _, _, r => by simpa only [CR] using r
  | .em, _, _, r => by simpa only [CR] using r
  | .sl _ _ _ _ _, _, hp, _ => by simp [puC] at hp
  | .mp none, _, _, r => by simpa only [CR] using r
  | .mp (some _), _, hp, _ => by simp [puC] at hp
  | .fz _ _ _ _, _, hp, r => by simp only [puC] at hp; simp only [CR] at r ⊢; obtain ⟨h0, a, cap, h1, h2, h3, h4, h5⟩ := r; exact ⟨h0, a, cap, h1, h2, h3, h4, CRs.pu h hp h5⟩
  | .fp _ _, _, hp, r => by simp only [puC] at hp; simp only [CR] at r ⊢; obtain ⟨a, h1, h2⟩ := r; exact ⟨a, h1, CRs.pu h hp h2⟩
  | .cl _ _ _, _, hp, _ => by simp [puC] at hp
  | .ifc _ _, _, hp, _ => by simp [puC] at hp
theorem CRs.pu {φ ψ : Ph} (h : ∀ m o, φ.fm m = some o → ψ.fm m = some o) {a : Addr} : ∀ {l : List SC} {i : Nat}, puL l = true → CRs φ a i l → CRs ψ a i l
  | [], _, _, _ => by simp [CRs]
  | x :: l, i, hp, r => by
    simp only [puL, Bool.and_eq_true] at hp
    simp only [CRs] at r ⊢
    obtain ⟨⟨u, h1, h2⟩, h3⟩ := r
    refine ⟨⟨u, ?_, CR.pu h hp.1 h2⟩, CRs.pu h hp.2 h3⟩
    unfold Ph.cell at h1 ⊢
    cases hm : φ.fm (a.add i).block with
    | none => simp [hm] at h1
    | some o => rw [h _ _ hm]; rw [hm] at h1; exact h1
end
theorem puL_fit (s : Nat) {l : List SC} (h : puL l = true) : puL (fit s l) = true := by
  rw [puL_all] at h ⊢
  simp only [List.all_eq_true] at h ⊢
  intro x hx
  have := List.mem_of_mem_take hx
  simp only [List.mem_append, List.mem_replicate] at this
  rcases this with h1 | ⟨_, rfl⟩
  · exact h x h1
  · rfl
theorem puL_app {a b : List SC} : puL (a ++ b) = (puL a && puL b) := by rw [puL_all, puL_all, puL_all, List.all_append]
mutual
theorem pu_flat : ∀ x : PC, puL x.flat = true
  | .bool _ => rfl
  | .bs _ => rfl
  | .int _ _ => rfl
  | .str _ => rfl
  | .nilp => rfl
  | .nomap => rfl
  | .agg l => by simp only [PC.flat]; exact pu_flats l
  | .tz z s el c => by
    simp only [PC.flat]
    cases z && el.isEmpty <;> simp [puL, puC, pu_flatE s el]
  | .tp l o => by simp [PC.flat, puL, puC, pu_flats l]
  | .te s el i o => by simp [PC.flat, puL, puC, pu_flatE s el]
theorem pu_flats : ∀ l : List PC, puL (flats l) = true
  | [] => rfl
  | x :: l => by simp only [flats, puL_app, pu_flat x, pu_flats l, Bool.and_self]
theorem pu_flatE (s : Nat) : ∀ l : List PC, puL (flatE s l) = true
  | [] => rfl
  | x :: l => by simp only [flatE, puL_app, puL_fit s (pu_flat x), pu_flatE s l, Bool.and_self]
end
theorem pu_sc (x : PC) : puC x.sc = true := by
  by_cases h : x.one = true
  · have := pu_flat x
    rw [PC.flat_one h] at this
    simpa [puL] using this
  · cases x <;> simp_all [PC.one, PC.sc, puC]

mutual
/-- Each name changed by g. -/
def XC.ren (g : Nat → Option Nat) : XC → Option XC
  | .p x => some (.p x)
  | .ptr b o => match g b with
    | some b => some (.ptr b o)
    | none => none
  | .sl b o n s c => match g b with
    | some b => some (.sl b o n s c)
    | none => none
  | .mp b => match g b with
    | some b => some (.mp b)
    | none => none
  | .cl f x y => match XC.rens g x, XC.rens g y with
    | some x, some y => some (.cl f x y)
    | _, _ => none
  | .ifc t x => match x.ren g with
    | some x => some (.ifc t x)
    | none => none
  | .acc b s el => match g b with
    | some b => some (.acc b s el)
    | none => none
def XC.rens (g : Nat → Option Nat) : List XC → Option (List XC)
  | [] => some []
  | x :: l => match x.ren g, XC.rens g l with
    | some x, some l => some (x :: l)
    | _, _ => none
end
mutual
def XV.ren (g : Nat → Option Nat) : XV → Option XV
  | .c x => match x.ren g with
    | some x => some (.c x)
    | none => none
  | .agg l => match XC.rens g l with
    | some l => some (.agg l)
    | none => none
  | .tup l => match XV.rens g l with
    | some l => some (.tup l)
    | none => none
def XV.rens (g : Nat → Option Nat) : List XV → Option (List XV)
  | [] => some []
  | x :: l => match x.ren g, XV.rens g l with
    | some x, some l => some (x :: l)
    | _, _ => none
end
def renE (g : Nat → Option Nat) : List (Nat × XC × XV) → Option (List (Nat × XC × XV))
  | [] => some []
  | x :: l => match x.2.1.ren g, x.2.2.ren g, renE g l with
    | some k, some v, some l => some ((x.1, k, v) :: l)
    | _, _, _ => none
def XO.ren (g : Nat → Option Nat) : XO → Option XO
  | .row l own => match XC.rens g l with
    | some l => some (.row l own)
    | none => none
  | .els s el => some (.els s el)
  | .map es c => match renE g es with
    | some es => some (.map es c)
    | none => none
  | .iter none a b c => some (.iter none a b c)
  | .iter (some m) a b c => match g m with
    | some m => some (.iter (some m) a b c)
    | none => none
/-- Two ways of lying go together by g. -/
structure Al (g : Nat → Option Nat) (φ ψ : Ph) : Prop where
  f : ∀ b b', g b = some b' → φ b = ψ b'
  fm : φ.fm = ψ.fm
section ren
variable {g : Nat → Option Nat} {φ ψ : Ph}
mutual
theorem CR.al (h : Al g φ ψ) : ∀ {x y : XC} {v : Value}, x.ren g = some y → (CR φ x.sc v ↔ CR ψ y.sc v)
  | .p x, y, v, hy => by
    simp only [XC.ren, Option.some.injEq] at hy
    subst hy
    exact ⟨CR.pu (fun m o hm => by rw [← h.fm]; exact hm) (pu_sc x), CR.pu (fun m o hm => by rw [h.fm]; exact hm) (pu_sc x)⟩
  | .ptr b o, y, v, hy => by
    simp only [XC.ren] at hy
    split at hy
    · rename_i b' hb
      simp only [Option.some.injEq] at hy
      subst hy
      simp only [XC.sc, CR, h.f b b' hb]
    · cases hy
  | .sl b o n s c, y, v, hy => by
    simp only [XC.ren] at hy
    split at hy
    · rename_i b' hb
      simp only [Option.some.injEq] at hy
      subst hy
      simp only [XC.sc, CR, h.f b b' hb]
    · cases hy
  | .mp b, y, v, hy => by
    simp only [XC.ren] at hy
    split at hy
    · rename_i b' hb
      simp only [Option.some.injEq] at hy
      subst hy
      simp only [XC.sc, CR, h.f b b' hb]
    · cases hy
  | .cl f a b, y, v, hy => by
    simp only [XC.ren] at hy
    split at hy
    · rename_i a' b' h1 h2
      simp only [Option.some.injEq] at hy
      subst hy
      simp only [XC.sc, CR, fun r => CRl.al h h1 (r := r), fun r => CRl.al h h2 (r := r)]
    · cases hy
  | .ifc t x, y, v, hy => by
    simp only [XC.ren] at hy
    split at hy
    · rename_i x' h1
      simp only [Option.some.injEq] at hy
      subst hy
      simp only [XC.sc, CR, fun u => CR.al h h1 (v := u)]
    · cases hy
  | .acc b s el, y, v, hy => by
    simp only [XC.ren] at hy
    split at hy
    · rename_i b' hb
      simp only [Option.some.injEq] at hy
      subst hy
      simp only [XC.sc]
      cases el.isEmpty
      · simp only [cond_false, CR, h.f b b' hb]
      · simp only [cond_true, CR]
    · cases hy
theorem CRl.al (h : Al g φ ψ) : ∀ {x y : List XC} {r : List Value}, XC.rens g x = some y → (CRl φ (XC.scs x) r ↔ CRl ψ (XC.scs y) r)
  | [], y, r, hy => by
    simp only [XC.rens, Option.some.injEq] at hy
    subst hy
    simp only [XC.scs, CRl]
  | x :: l, y, r, hy => by
    simp only [XC.rens] at hy
    split at hy
    · rename_i x' l' h1 h2
      simp only [Option.some.injEq] at hy
      subst hy
      simp only [XC.scs, CRl, fun u => CR.al h h1 (v := u), fun r => CRl.al h h2 (r := r)]
    · cases hy
end
theorem All2.al (h : Al g φ ψ) : ∀ {x y : List XC} {r : List Value}, XC.rens g x = some y → (All2 (CR φ) (x.map XC.sc) r ↔ All2 (CR ψ) (y.map XC.sc) r)
  | [], y, r, hy => by
    simp only [XC.rens, Option.some.injEq] at hy
    subst hy
    cases r <;> simp [All2]
  | x :: l, y, r, hy => by
    simp only [XC.rens] at hy
    split at hy
    · rename_i x' l' h1 h2
      simp only [Option.some.injEq] at hy
      subst hy
      cases r with
      | nil => simp [All2]
      | cons u r => simp only [List.map_cons, All2, CR.al h h1 (v := u), All2.al h h2 (r := r)]
    · cases hy
theorem rens_get : ∀ {x y : List XC}, XC.rens g x = some y → ∀ i : Nat, (∀ a, x[i]? = some a → ∃ b, y[i]? = some b ∧ a.ren g = some b) ∧ (∀ b, y[i]? = some b → ∃ a, x[i]? = some a ∧ a.ren g = some b)
  | [], y, hy, i => by
    simp only [XC.rens, Option.some.injEq] at hy
    subst hy
    simp
  | x :: l, y, hy, i => by
    simp only [XC.rens] at hy
    split at hy
    · rename_i x' l' h1 h2
      simp only [Option.some.injEq] at hy
      subst hy
      cases i with
      | zero => simp [h1]
      | succ i => simpa using rens_get h2 i
    · cases hy
theorem rens_len : ∀ {x y : List XC}, XC.rens g x = some y → y.length = x.length
  | [], y, hy => by
    simp only [XC.rens, Option.some.injEq] at hy
    subst hy; rfl
  | x :: l, y, hy => by
    simp only [XC.rens] at hy
    split at hy
    · rename_i x' l' h1 h2
      simp only [Option.some.injEq] at hy
      subst hy
      simp [rens_len h2]
    · cases hy
theorem VR1.al (h : Al g φ ψ) {x y : XV} {v : Value} (hy : x.ren g = some y) : VR1 φ x.sv v ↔ VR1 ψ y.sv v := by
  cases x with
  | c x =>
    simp only [XV.ren] at hy
    split at hy
    · rename_i x' h1
      simp only [Option.some.injEq] at hy
      subst hy
      simp only [XV.sv, VR1, CR.al h h1 (v := v)]
    · cases hy
  | agg l =>
    simp only [XV.ren] at hy
    split at hy
    · rename_i l' h1
      simp only [Option.some.injEq] at hy
      subst hy
      simp only [XV.sv, VR1, fun r => All2.al h h1 (r := r)]
    · cases hy
  | tup l =>
    simp only [XV.ren] at hy
    split at hy
    · simp only [Option.some.injEq] at hy
      subst hy
      simp only [XV.sv, VR1]
    · cases hy
theorem VR1s.al (h : Al g φ ψ) : ∀ {x y : List XV} {r : List Value}, XV.rens g x = some y → (All2 (VR1 φ) (XV.svs x) r ↔ All2 (VR1 ψ) (XV.svs y) r)
  | [], y, r, hy => by
    simp only [XV.rens, Option.some.injEq] at hy
    subst hy
    cases r <;> simp [XV.svs, All2]
  | x :: l, y, r, hy => by
    simp only [XV.rens] at hy
    split at hy
    · rename_i x' l' h1 h2
      simp only [Option.some.injEq] at hy
      subst hy
      cases r with
      | nil => simp [XV.svs, All2]
      | cons u r => simp only [XV.svs, All2, VR1.al h h1 (v := u), VR1s.al h h2 (r := r)]
    · cases hy
theorem VR.al (h : Al g φ ψ) {x y : XV} {v : Value} (hy : x.ren g = some y) : VR φ x.sv v ↔ VR ψ y.sv v := by
  cases x with
  | c x =>
    have := VR1.al (v := v) h hy
    simp only [XV.ren] at hy
    split at hy
    · simp only [Option.some.injEq] at hy
      subst hy
      simpa only [XV.sv, VR] using this
    · cases hy
  | agg l =>
    have := VR1.al (v := v) h hy
    simp only [XV.ren] at hy
    split at hy
    · simp only [Option.some.injEq] at hy
      subst hy
      simpa only [XV.sv, VR] using this
    · cases hy
  | tup l =>
    simp only [XV.ren] at hy
    split at hy
    · rename_i l' h1
      simp only [Option.some.injEq] at hy
      subst hy
      simp only [XV.sv, VR, fun r => VR1s.al h h1 (r := r)]
    · cases hy
theorem renE_al (h : Al g φ ψ) : ∀ {x y : List (Nat × XC × XV)} {r : List MapEntry}, renE g x = some y → (All2 (ER φ) (x.map fun e => (e.1, e.2.1.sc, e.2.2.sv)) r ↔ All2 (ER ψ) (y.map fun e => (e.1, e.2.1.sc, e.2.2.sv)) r)
  | [], y, r, hy => by
    simp only [renE, Option.some.injEq] at hy
    subst hy
    cases r <;> simp [All2]
  | x :: l, y, r, hy => by
    simp only [renE] at hy
    split at hy
    · rename_i k' v' l' h1 h2 h3
      simp only [Option.some.injEq] at hy
      subst hy
      cases r with
      | nil => simp [All2]
      | cons u r => simp only [List.map_cons, All2, ER, CR.al h h1, VR1.al h h2, renE_al h h3 (r := r)]
    · cases hy
theorem Live.al (h : Al g φ ψ) {base : Nat} {w : World} {L : Sim.Loc} {x y : XO} (hy : x.ren g = some y) : Live base φ w L x.so ↔ Live base ψ w L y.so := by
  cases x with
  | row l own =>
    simp only [XO.ren] at hy
    split at hy
    · rename_i l' h1
      simp only [Option.some.injEq] at hy
      subst hy
      have hl := rens_len h1
      simp only [XO.so, Live, List.length_map, hl]
      refine and_congr_right fun _ => exists_congr fun cs => exists_congr fun E => exists_congr fun fr => and_congr_right fun _ => and_congr_left fun _ => ?_
      constructor
      · intro hh i x hx
        rw [List.getElem?_map, Option.map_eq_some_iff] at hx
        obtain ⟨b, hb, rfl⟩ := hx
        obtain ⟨a, ha, hab⟩ := (rens_get h1 i).2 b hb
        obtain ⟨v, hv1, hv2⟩ := hh i a.sc (by rw [List.getElem?_map, ha]; rfl)
        exact ⟨v, hv1, (CR.al h hab).1 hv2⟩
      · intro hh i x hx
        rw [List.getElem?_map, Option.map_eq_some_iff] at hx
        obtain ⟨a, ha, rfl⟩ := hx
        obtain ⟨b, hb, hab⟩ := (rens_get h1 i).1 a ha
        obtain ⟨v, hv1, hv2⟩ := hh i b.sc (by rw [List.getElem?_map, hb]; rfl)
        exact ⟨v, hv1, (CR.al h hab).2 hv2⟩
    · cases hy
  | els s el =>
    simp only [XO.ren, Option.some.injEq] at hy
    subst hy
    have hp := pu_flatE s el
    rw [puL_all, List.all_eq_true] at hp
    simp only [XO.so, Live]
    refine and_congr_right fun _ => exists_congr fun cs => exists_congr fun E => exists_congr fun fr => and_congr_right fun _ => and_congr_left fun _ => ?_
    constructor
    · intro hh i x hx
      obtain ⟨v, hv1, hv2⟩ := hh i x hx
      exact ⟨v, hv1, CR.pu (fun m o hm => by rw [← h.fm]; exact hm) (hp x (List.mem_of_getElem? hx)) hv2⟩
    · intro hh i x hx
      obtain ⟨v, hv1, hv2⟩ := hh i x hx
      exact ⟨v, hv1, CR.pu (fun m o hm => by rw [h.fm]; exact hm) (hp x (List.mem_of_getElem? hx)) hv2⟩
  | map es c =>
    simp only [XO.ren] at hy
    split at hy
    · rename_i l' h1
      simp only [Option.some.injEq] at hy
      subst hy
      simp only [XO.so, Live, fun r => renE_al h h1 (r := r)]
    · cases hy
  | iter m a b c =>
    cases m with
    | none =>
      simp only [XO.ren, Option.some.injEq] at hy
      subst hy
      simp only [XO.so, Live, MR]
    | some m =>
      simp only [XO.ren] at hy
      split at hy
      · rename_i m' h1
        simp only [Option.some.injEq] at hy
        subst hy
        simp only [XO.so, Live, MR, h.f m m' h1]
      · cases hy
end ren
end Go.Proofs.Ytgaaffanoegbhaa.Sym
