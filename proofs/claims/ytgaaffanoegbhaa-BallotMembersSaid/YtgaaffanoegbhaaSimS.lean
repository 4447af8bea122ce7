/- The plain machine beside the model's: operation by operation (fifth part: slices, appends, conversions). No program in sight. -/
import Derived.Test.YtgaaffanoegbhaaSimR
import Derived.Laws.IdiomStrings
namespace Go.Proofs.Ytgaaffanoegbhaa.Sim
open Go Go.RowKit
set_option linter.unusedSimpArgs false
set_option linter.unusedVariables false
variable {P : Program}

theorem bnd_sound {φ : Ph} {t : SF} {a : Act} (ht : TR φ t a) {x : Option Operand} {d k : Nat} (h : bnd t x d = some k) : (x = none ∧ k = d) ∨ ∃ o kd n, x = some o ∧ a.eval o = .int kd n ∧ 0 ≤ n ∧ k = n.toNat := by
  unfold bnd at h
  split at h
  · simp only [Option.some.injEq] at h; exact .inl ⟨rfl, h.symm⟩
  · rename_i o
    split at h
    · rename_i kd n hv
      split at h
      · rename_i h0
        simp only [Option.some.injEq] at h
        exact .inr ⟨o, kd, n, rfl, ev_sound ht hv, h0, h.symm⟩
      · cases h
    · cases h
theorem bndM_sound {φ : Ph} {t : SF} {a : Act} (ht : TR φ t a) {x : Option Operand} {k : Option Nat} (h : bndM t x = some k) : (x = none ∧ k = none) ∨ ∃ o kd n, x = some o ∧ a.eval o = .int kd n ∧ 0 ≤ n ∧ k = some n.toNat := by
  unfold bndM at h
  split at h
  · simp only [Option.some.injEq] at h; exact .inl ⟨rfl, h.symm⟩
  · rename_i o
    split at h
    · rename_i kd n hv
      split at h
      · rename_i h0
        simp only [Option.some.injEq] at h
        exact .inr ⟨o, kd, n, rfl, ev_sound ht hv, h0, h.symm⟩
      · cases h
    · cases h
theorem sb_run {kd : IntKind} {n : Int} {k y : Nat} (h0 : 0 ≤ n) (hk : k = n.toNat) (hy : k ≤ y) (code : BoundsCode) (w : World) : (Instr.sliceBound (.int kd n) y code).run P w = .ok k w := by
  have h1 : n ≤ (y : Int) := by omega
  simp [Instr.sliceBound, asIntOf, h0, h1, hk]
/-- The bounds in the model. -/
theorem bounds_run {a : Act} (isS : Bool) {len cap l r m : Nat} {lo hi mx : Option Operand}
    (hl : (lo = none ∧ l = 0) ∨ ∃ o kd n, lo = some o ∧ a.eval o = .int kd n ∧ 0 ≤ n ∧ l = n.toNat)
    (hr : (hi = none ∧ r = len) ∨ ∃ o kd n, hi = some o ∧ a.eval o = .int kd n ∧ 0 ≤ n ∧ r = n.toNat)
    (hm : (mx = none ∧ m = cap) ∨ (∃ o kd n, mx = some o ∧ a.eval o = .int kd n ∧ 0 ≤ n ∧ m = n.toNat) ∧ hi ≠ none)
    (h1 : l ≤ r) (h2 : r ≤ m) (h3 : m ≤ cap) (w : World) : (Instr.sliceBounds isS len cap (lo.map a.eval) (hi.map a.eval) (mx.map a.eval)).run P w = .ok (l, r, m) w := by
  rcases hl with ⟨rfl, q1⟩ | ⟨o1, k1, n1, rfl, e1, p1, q1⟩ <;> rcases hr with ⟨rfl, q2⟩ | ⟨o2, k2, n2, rfl, e2, p2, q2⟩ <;> rcases hm with ⟨rfl, q3⟩ | ⟨⟨o3, k3, n3, rfl, e3, p3, q3⟩, hne⟩
  · simp [Instr.sliceBounds, q1, q2, q3]
  · exact absurd rfl hne
  · have b2 := fun code => sb_run (P := P) (kd := k2) (y := cap) p2 q2 (by omega) code w
    simp [Instr.sliceBounds, e2, b2, q1, q3]
  · have b2 := fun code => sb_run (P := P) (kd := k2) p2 q2 h2 code w
    have b3 := fun code => sb_run (P := P) (kd := k3) p3 q3 h3 code w
    simp [Instr.sliceBounds, e2, e3, b2, b3, q1]
  · have b1 := fun code => sb_run (P := P) (kd := k1) (y := len) p1 q1 (by omega) code w
    simp [Instr.sliceBounds, e1, b1, q2, q3]
  · exact absurd rfl hne
  · have b1 := fun code => sb_run (P := P) (kd := k1) p1 q1 h1 code w
    have b2 := fun code => sb_run (P := P) (kd := k2) (y := cap) p2 q2 (by omega) code w
    simp [Instr.sliceBounds, e1, e2, b1, b2, q3]
  · have b1 := fun code => sb_run (P := P) (kd := k1) p1 q1 h1 code w
    have b2 := fun code => sb_run (P := P) (kd := k2) p2 q2 h2 code w
    have b3 := fun code => sb_run (P := P) (kd := k3) p3 q3 h3 code w
    simp [Instr.sliceBounds, e1, e2, e3, b1, b2, b3]
theorem reach_of {base : Nat} {φ : Ph} {h : SH} {w : World} (r : HR base φ h w) {b k : Nat} {L : Loc} (hL : φ b = some L) (h1 : reach h b k = true) : k ≤ L.len := by
  unfold reach at h1
  split at h1
  · rename_i cs own hb
    obtain ⟨L', ws, E, fr, k1, k2, k3, _⟩ := r.row hb
    rw [hL] at k1
    cases k1
    rw [k3]
    exact Nat.le_of_ble_eq_true h1
  · cases h1
/-- A slice of a slice. -/
theorem slice_rel {φ : Ph} {L : Loc} {b o s l r m cap : Nat} {a : Addr} (hL : φ b = some L) (hat : 0 < cap → a = ⟨L.m, L.m0 + o, none⟩) (hcm : cap ≤ maxLen) (hsz : L.m0 + o + cap * s ≤ L.sz) (h1 : l ≤ r) (h2 : r ≤ m) (h3 : m ≤ cap) {c : Option Nat}
    (hc : match c with | some c => c = m - l | none => L.len ≤ o + l * s + (m - l) * s) :
    CR φ (.sl b (o + l * s) (r - l) s c) (.slice (if m = l then some a else (some a).map (·.add (l * s))) (r - l) (m - l)) := by
  have hmul : (m - l) * s + l * s = m * s := by rw [← Nat.add_mul]; congr 1; omega
  have hms : m * s ≤ cap * s := Nat.mul_le_mul_right _ h3
  refine ⟨L, if m = l then a else a.add (l * s), m - l, hL, ?_, ?_, by omega, by omega, by omega, ?_⟩
  · split <;> rfl
  · intro hp
    rw [if_neg (by omega)]
    have := hat (by omega)
    subst this
    rw [Addr.add_lit, Nat.add_assoc]
  · cases c with
    | some c => exact hc
    | none => exact hc
theorem slice_sound {base : Nat} {φ : Ph} {h : SH} {w : World} (r0 : HR base φ h w) {t : SF} {a : Act} (ht : TR φ t a) {ty : TypeId} {x y : SV} {v : Value} {lo hi mx : Option Operand} (hx : VR φ x v) (hs : sSlice P t h ty x lo hi mx = some y) :
    ∃ v', (Instr.sliceAt ty v (lo.map a.eval) (hi.map a.eval) (mx.map a.eval)).run P w = .ok v' w ∧ VR φ y v' := by
  unfold sSlice at hs
  split at hs
  · rename_i l hu
    obtain ⟨s, rfl, hsl⟩ := hx
    split at hs
    · rename_i i j hlo hhi hmx
      obtain ⟨rfl, -⟩ | ⟨_, _, _, _, _, _, h9⟩ := bndM_sound ht hmx
      case inr => cases h9
      split at hs
      · rename_i hc
        simp only [Option.some.injEq] at hs
        subst hs hsl
        have hz : s.size = s.data.toList.length := rfl
        simp only [List.length_map] at hc hhi
        have hb := bounds_run (P := P) (a := a) (mx := none) false (len := s.size) (cap := s.size) (bnd_sound ht hlo) (bnd_sound ht hhi) (.inl ⟨rfl, rfl⟩) hc.1 (by omega) (Nat.le_refl _) w
        refine ⟨.string (s.extract i j), by simp only [Option.map_none] at hb ⊢; simp [Instr.sliceAt, Instr.slice, run_underlying hu, hb], _, rfl, ?_⟩
        simp [ByteArray.data_extract, Array.toList_extract, List.extract_eq_take_drop, List.drop_take, List.map_take, List.map_drop]
      · cases hs
    · cases hs
  · rename_i e b o n s' c hu
    obtain ⟨L, ad, cap, hL, rfl, hat, hn, hcm, hsz, hcc⟩ := hx
    split at hs
    · rename_i s l r m hsz' hlo hhi hmx
      split at hs
      · rename_i hlr
        obtain ⟨h1, rfl, hs0, hmh⟩ := hlr
        have hl := bnd_sound ht hlo
        have hr := bnd_sound ht hhi
        have hm := bndM_sound ht hmx
        have fin : ∀ (M : Nat) (c' : Option Nat), ((mx = none ∧ M = cap) ∨ (∃ o kd n, mx = some o ∧ a.eval o = .int kd n ∧ 0 ≤ n ∧ M = n.toNat) ∧ hi ≠ none) → r ≤ M → M ≤ cap → (match c' with | some c => c = M - l | none => L.len ≤ o + l * s + (M - l) * s) →
            ∃ v', (Instr.sliceAt ty (.slice (some ad) n cap) (lo.map a.eval) (hi.map a.eval) (mx.map a.eval)).run P w = .ok v' w ∧ CR φ (.sl b (o + l * s) (r - l) s c') v' := by
          intro M c' hM h2 h3 hc'
          have hb := bounds_run (P := P) true hl hr hM h1 h2 h3 w
          exact ⟨_, by simp [Instr.sliceAt, Instr.slice, run_underlying hu, hb, run_sizeOf hsz'], slice_rel hL hat hcm hsz h1 h2 h3 hc'⟩
        have hne : ∀ M, m = some M → hi ≠ none := fun M hM e => by subst hM e; simp at hmh
        split at hs
        · rename_i c
          simp only at hcc
          subst hcc
          split at hs
          · rename_i hrc
            simp only [Option.some.injEq] at hs
            subst hs
            rcases hm with ⟨h4, _⟩ | ⟨_, _, _, _, _, _, h4⟩
            · exact fin c (some (c - l)) (.inl ⟨h4, rfl⟩) hrc (Nat.le_refl _) rfl
            · cases h4
          · cases hs
        · rename_i c M
          simp only at hcc
          subst hcc
          split at hs
          · rename_i hrc
            simp only [Option.some.injEq] at hs
            subst hs
            rcases hm with ⟨_, h4⟩ | ⟨o', kd, nn, h4, h5, h6, h7⟩
            · cases h4
            · simp only [Option.some.injEq] at h7
              exact fin M (some (M - l)) (.inr ⟨⟨o', kd, nn, h4, h5, h6, h7⟩, hne M rfl⟩) hrc.1 hrc.2 rfl
          · cases hs
        · split at hs
          · rename_i hrc
            simp only [Option.some.injEq] at hs
            subst hs
            simp only at hcc
            rcases hm with ⟨h4, _⟩ | ⟨_, _, _, _, _, _, h4⟩
            · have hrcap : r ≤ cap := by
                rcases hrc with h5 | h5
                · omega
                · have h6 := reach_of r0 hL h5
                  have h7 : r * s ≤ cap * s := by omega
                  exact Nat.le_of_mul_le_mul_right h7 hs0
              refine fin cap none (.inl ⟨h4, rfl⟩) hrcap (Nat.le_refl _) ?_
              have hmul : (cap - l) * s + l * s = cap * s := by rw [← Nat.add_mul]; congr 1; omega
              simp only
              omega
            · cases h4
          · cases hs
        · rename_i M
          split at hs
          · rename_i hrc
            simp only [Option.some.injEq] at hs
            subst hs
            simp only at hcc
            rcases hm with ⟨_, h4⟩ | ⟨o', kd, nn, h4, h5, h6, h7⟩
            · cases h4
            · simp only [Option.some.injEq] at h7
              have hMcap : M ≤ cap := by
                rcases hrc.2 with h8 | h8
                · omega
                · have h9 := reach_of r0 hL h8
                  have h10 : M * s ≤ cap * s := by omega
                  exact Nat.le_of_mul_le_mul_right h10 hs0
              exact fin M (some (M - l)) (.inr ⟨⟨o', kd, nn, h4, h5, h6, h7⟩, hne M rfl⟩) hrc.1 hMcap rfl
          · cases hs
      · cases hs
    · cases hs
  · rename_i e n s' q c hu
    obtain ⟨hql, ad, cap, rfl, hn, hcm, hcc, hcr⟩ := hx
    split at hs
    · rename_i s l r m hsz' hlo hhi hmx
      split at hs
      · rename_i hlr
        obtain ⟨h1, h1n, rfl, hmh⟩ := hlr
        have hl := bnd_sound ht hlo
        have hr := bnd_sound ht hhi
        have hm := bndM_sound ht hmx
        have hmul : (r - l) * s + l * s = r * s := by rw [← Nat.add_mul]; congr 1; omega
        have hrn : r * s ≤ n * s := Nat.mul_le_mul_right _ h1n
        have fin : ∀ (M : Nat) (c' : Option Nat), ((mx = none ∧ M = cap) ∨ (∃ o kd n, mx = some o ∧ a.eval o = .int kd n ∧ 0 ≤ n ∧ M = n.toNat) ∧ hi ≠ none) → r ≤ M → M ≤ cap → (∀ c'', c' = some c'' → c'' = M - l) →
            ∃ v', (Instr.sliceAt ty (.slice (some ad) n cap) (lo.map a.eval) (hi.map a.eval) (mx.map a.eval)).run P w = .ok v' w ∧ CR φ (.fz (r - l) s ((q.drop (l * s)).take ((r - l) * s)) c') v' := by
          intro M c' hM h2 h3 hc'
          have hb := bounds_run (P := P) true hl hr hM h1 h2 h3 w
          refine ⟨.slice (if M = l then some ad else (some ad).map (·.add (l * s))) (r - l) (M - l), by simp [Instr.sliceAt, Instr.slice, run_underlying hu, hb, run_sizeOf hsz'], ?_⟩
          refine ⟨by simp; omega, if M = l then ad else ad.add (l * s), M - l, by split <;> rfl, by omega, by omega, hc', CRs.mk fun j x hx => ?_⟩
          have hj : j < (r - l) * s := by
            rcases Nat.lt_or_ge j ((r - l) * s) with h | h
            · exact h
            · rw [List.getElem?_eq_none (by simp; omega)] at hx; cases hx
          rw [List.getElem?_take, if_pos hj, List.getElem?_drop] at hx
          obtain ⟨u, g1, g2⟩ := hcr.get hx
          have hne : ¬ M = l := fun e => by
            have : r - l = 0 := by omega
            rw [this] at hj
            simp at hj
          rw [if_neg hne, Addr.add_plus]
          exact ⟨u, by rwa [Nat.zero_add] at g1 ⊢, g2⟩
        split at hs
        · simp only [Option.some.injEq] at hs
          subst hs
          rcases hm with ⟨h4, _⟩ | ⟨_, _, _, _, _, _, h4⟩
          · refine fin cap (c.map (· - l)) (.inl ⟨h4, rfl⟩) (by omega) (Nat.le_refl _) fun c'' he => ?_
            cases c with
            | none => cases he
            | some c0 =>
              simp only [Option.map_some, Option.some.injEq] at he
              rw [← he, hcc c0 rfl]
          · cases h4
        · rename_i M
          split at hs
          · rename_i hrc
            simp only [Option.some.injEq] at hs
            subst hs
            rcases hm with ⟨_, h4⟩ | ⟨o', kd, nn, h4, h5, h6, h7⟩
            · cases h4
            · simp only [Option.some.injEq] at h7
              exact fin M (some (M - l)) (.inr ⟨⟨o', kd, nn, h4, h5, h6, h7⟩, fun e => by rw [e] at hmh; simp at hmh⟩) hrc.1 (by omega) fun c'' he => by cases he; rfl
          · cases hs
      · cases hs
    · cases hs
  · rename_i e hu
    simp only [VR, VR1, CR] at hx
    subst hx
    split at hs
    · rename_i sz hsz hlo hhi hmx
      obtain ⟨rfl, -⟩ | ⟨_, _, _, _, _, _, h9⟩ := bndM_sound ht hmx
      case inr => cases h9
      simp only [Option.some.injEq] at hs
      subst hs
      have hb := bounds_run (P := P) (a := a) (mx := none) true (len := 0) (cap := 0) (bnd_sound ht hlo) (bnd_sound ht hhi) (.inl ⟨rfl, rfl⟩) (Nat.le_refl _) (Nat.le_refl _) (Nat.le_refl _) w
      simp only [Option.map_none] at hb
      exact ⟨.slice none 0 0, by simp [Instr.sliceAt, Instr.slice, run_underlying hu, hb, run_sizeOf hsz], rfl⟩
    · rename_i sz hsz hlo hhi hmx
      obtain ⟨-, h9⟩ | ⟨o', kd, nn, h4, h5, h6, h7⟩ := bndM_sound ht hmx
      case inl => cases h9
      split at hs
      · rename_i hih
        simp only [Option.some.injEq] at hs h7
        subst hs
        have hb := bounds_run (P := P) (a := a) true (len := 0) (cap := 0) (m := 0) (bnd_sound ht hlo) (bnd_sound ht hhi) (.inr ⟨⟨o', kd, nn, h4, h5, h6, h7⟩, fun e => by rw [e] at hih; cases hih⟩) (Nat.le_refl _) (Nat.le_refl _) (Nat.le_refl _) w
        exact ⟨.slice none 0 0, by simp [Instr.sliceAt, Instr.slice, run_underlying hu, hb, run_sizeOf hsz], rfl⟩
      · cases hs
    · cases hs
  · rename_i e hu
    obtain ⟨ad, c, rfl, hc⟩ := hx
    split at hs
    · rename_i sz hsz hlo hhi hmx
      obtain ⟨rfl, -⟩ | ⟨_, _, _, _, _, _, h9⟩ := bndM_sound ht hmx
      case inr => cases h9
      simp only [Option.some.injEq] at hs
      subst hs
      have hb := bounds_run (P := P) (a := a) (mx := none) true (len := 0) (cap := c) (bnd_sound ht hlo) (bnd_sound ht hhi) (.inl ⟨rfl, rfl⟩) (Nat.le_refl _) (Nat.zero_le _) (Nat.le_refl _) w
      simp only [Option.map_none] at hb
      have e0 : ∀ x : Addr, x.add 0 = x := fun x => rfl
      exact ⟨.slice (some ad) 0 c, by simp [Instr.sliceAt, Instr.slice, run_underlying hu, hb, run_sizeOf hsz, e0], ad, c, rfl, hc⟩
    · cases hs
  · cases hs
end Go.Proofs.Ytgaaffanoegbhaa.Sim
