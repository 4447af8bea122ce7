/- Texts of this claim, several in one: SimS, SimU, SimV. -/
import Derived.Test.YtjlfojgacnphmaaMgKeepVotes3
import Derived.Laws.IdiomStrings
namespace Go.Proofs.Ytjlfojgacnphmaa.Sim
open Go Go.RowKit
set_option linter.unusedSimpArgs false
set_option linter.unusedVariables false
variable {P : Program}

theorem bnd_sound {φ : Ph} {t : SF} {a : Act} (ht : TR φ t a) {x : Option Operand} {d k : Nat} (h : bnd t x d = some k) : (x = none ∧ k = d) ∨ ∃ o kd n, x = some o ∧ a.eval o = .int kd n ∧ 0 ≤ n ∧ k = n.toNat := by
  unfold bnd at h
  split at h
  · simp only [Option.some.injEq] at h; exact .inl ⟨rfl, h.symm⟩
  · rename_i o
    split at h
    · rename_i kd n hv
      split at h
      · rename_i h0
        simp only [Option.some.injEq] at h
        exact .inr ⟨o, kd, n, rfl, ev_sound ht hv, h0, h.symm⟩
      · cases h
    · cases h
theorem bndM_sound {φ : Ph} {t : SF} {a : Act} (ht : TR φ t a) {x : Option Operand} {k : Option Nat} (h : bndM t x = some k) : (x = none ∧ k = none) ∨ ∃ o kd n, x = some o ∧ a.eval o = .int kd n ∧ 0 ≤ n ∧ k = some n.toNat := by
  unfold bndM at h
  split at h
  · simp only [Option.some.injEq] at h; exact .inl ⟨rfl, h.symm⟩
  · rename_i o
    split at h
    · rename_i kd n hv
      split at h
      · rename_i h0
        simp only [Option.some.injEq] at h
        exact .inr ⟨o, kd, n, rfl, ev_sound ht hv, h0, h.symm⟩
      · cases h
    · cases h
theorem sb_run {kd : IntKind} {n : Int} {k y : Nat} (h0 : 0 ≤ n) (hk : k = n.toNat) (hy : k ≤ y) (code : BoundsCode) (w : World) : (Instr.sliceBound (.int kd n) y code).run P w = .ok k w := by
  have h1 : n ≤ (y : Int) := by omega
  simp [Instr.sliceBound, asIntOf, h0, h1, hk]
theorem bounds_run {a : Act} (isS : Bool) {len cap l r m : Nat} {lo hi mx : Option Operand}
    (hl : (lo = none ∧ l = 0) ∨ ∃ o kd n, lo = some o ∧ a.eval o = .int kd n ∧ 0 ≤ n ∧ l = n.toNat)
    (hr : (hi = none ∧ r = len) ∨ ∃ o kd n, hi = some o ∧ a.eval o = .int kd n ∧ 0 ≤ n ∧ r = n.toNat)
    (hm : (mx = none ∧ m = cap) ∨ (∃ o kd n, mx = some o ∧ a.eval o = .int kd n ∧ 0 ≤ n ∧ m = n.toNat) ∧ hi ≠ none)
    (h1 : l ≤ r) (h2 : r ≤ m) (h3 : m ≤ cap) (w : World) : (Instr.sliceBounds isS len cap (lo.map a.eval) (hi.map a.eval) (mx.map a.eval)).run P w = .ok (l, r, m) w := by
  rcases hl with ⟨rfl, q1⟩ | ⟨o1, k1, n1, rfl, e1, p1, q1⟩ <;> rcases hr with ⟨rfl, q2⟩ | ⟨o2, k2, n2, rfl, e2, p2, q2⟩ <;> rcases hm with ⟨rfl, q3⟩ | ⟨⟨o3, k3, n3, rfl, e3, p3, q3⟩, hne⟩
  · simp [Instr.sliceBounds, q1, q2, q3]
  · exact absurd rfl hne
  · have b2 := fun code => sb_run (P := P) (kd := k2) (y := cap) p2 q2 (by omega) code w
    simp [Instr.sliceBounds, e2, b2, q1, q3]
  · have b2 := fun code => sb_run (P := P) (kd := k2) p2 q2 h2 code w
    have b3 := fun code => sb_run (P := P) (kd := k3) p3 q3 h3 code w
    simp [Instr.sliceBounds, e2, e3, b2, b3, q1]
  · have b1 := fun code => sb_run (P := P) (kd := k1) (y := len) p1 q1 (by omega) code w
    simp [Instr.sliceBounds, e1, b1, q2, q3]
  · exact absurd rfl hne
  · have b1 := fun code => sb_run (P := P) (kd := k1) p1 q1 h1 code w
    have b2 := fun code => sb_run (P := P) (kd := k2) (y := cap) p2 q2 (by omega) code w
    simp [Instr.sliceBounds, e1, e2, b1, b2, q3]
  · have b1 := fun code => sb_run (P := P) (kd := k1) p1 q1 h1 code w
    have b2 := fun code => sb_run (P := P) (kd := k2) p2 q2 h2 code w
    have b3 := fun code => sb_run (P := P) (kd := k3) p3 q3 h3 code w
    simp [Instr.sliceBounds, e1, e2, e3, b1, b2, b3]
theorem reach_of {base : Nat} {φ : Ph} {h : SH} {w : World} (r : HR base φ h w) {b k : Nat} {L : Loc} (hL : φ b = some L) (h1 : reach h b k = true) : k ≤ L.len := by
  unfold reach at h1
  split at h1
  · rename_i cs own hb
    obtain ⟨L', ws, E, fr, k1, k2, k3, _⟩ := r.row hb
    rw [hL] at k1
    cases k1
    rw [k3]
    exact Nat.le_of_ble_eq_true h1
  · cases h1
theorem slice_rel {φ : Ph} {L : Loc} {b o s l r m cap : Nat} {a : Addr} (hL : φ b = some L) (hat : 0 < cap → a = ⟨L.m, L.m0 + o, none⟩) (hcm : cap ≤ maxLen) (hsz : L.m0 + o + cap * s ≤ L.sz) (h1 : l ≤ r) (h2 : r ≤ m) (h3 : m ≤ cap) {c : Option Nat}
    (hc : match c with | some c => c = m - l | none => L.len ≤ o + l * s + (m - l) * s) :
    CR φ (.sl b (o + l * s) (r - l) s c) (.slice (if m = l then some a else (some a).map (·.add (l * s))) (r - l) (m - l)) := by
  have hmul : (m - l) * s + l * s = m * s := by rw [← Nat.add_mul]; congr 1; omega
  have hms : m * s ≤ cap * s := Nat.mul_le_mul_right _ h3
  refine ⟨L, if m = l then a else a.add (l * s), m - l, hL, ?_, ?_, by omega, by omega, by omega, ?_⟩
  · split <;> rfl
  · intro hp
    rw [if_neg (by omega)]
    have := hat (by omega)
    subst this
    rw [Addr.add_lit, Nat.add_assoc]
  · cases c with
    | some c => exact hc
    | none => exact hc
theorem slice_sound {base : Nat} {φ : Ph} {h : SH} {w : World} (r0 : HR base φ h w) {t : SF} {a : Act} (ht : TR φ t a) {ty : TypeId} {x y : SV} {v : Value} {lo hi mx : Option Operand} (hx : VR φ x v) (hs : sSlice P t h ty x lo hi mx = some y) :
    ∃ v', (Instr.sliceAt ty v (lo.map a.eval) (hi.map a.eval) (mx.map a.eval)).run P w = .ok v' w ∧ VR φ y v' := by
  unfold sSlice at hs
  split at hs
  · rename_i l hu
    obtain ⟨s, rfl, hsl⟩ := hx
    split at hs
    · rename_i i j hlo hhi hmx
      obtain ⟨rfl, -⟩ | ⟨_, _, _, _, _, _, h9⟩ := bndM_sound ht hmx
      case inr => cases h9
      split at hs
      · rename_i hc
        simp only [Option.some.injEq] at hs
        subst hs hsl
        have hz : s.size = s.data.toList.length := rfl
        simp only [List.length_map] at hc hhi
        have hb := bounds_run (P := P) (a := a) (mx := none) false (len := s.size) (cap := s.size) (bnd_sound ht hlo) (bnd_sound ht hhi) (.inl ⟨rfl, rfl⟩) hc.1 (by omega) (Nat.le_refl _) w
        refine ⟨.string (s.extract i j), by simp only [Option.map_none] at hb ⊢; simp [Instr.sliceAt, Instr.slice, run_underlying hu, hb], _, rfl, ?_⟩
        simp [ByteArray.data_extract, Array.toList_extract, List.extract_eq_take_drop, List.drop_take, List.map_take, List.map_drop]
      · cases hs
    · cases hs
  · rename_i e b o n s' c hu
    obtain ⟨L, ad, cap, hL, rfl, hat, hn, hcm, hsz, hcc⟩ := hx
    split at hs
    · rename_i s l r m hsz' hlo hhi hmx
      split at hs
      · rename_i hlr
        obtain ⟨h1, rfl, hs0, hmh⟩ := hlr
        have hl := bnd_sound ht hlo
        have hr := bnd_sound ht hhi
        have hm := bndM_sound ht hmx
        have fin : ∀ (M : Nat) (c' : Option Nat), ((mx = none ∧ M = cap) ∨ (∃ o kd n, mx = some o ∧ a.eval o = .int kd n ∧ 0 ≤ n ∧ M = n.toNat) ∧ hi ≠ none) → r ≤ M → M ≤ cap → (match c' with | some c => c = M - l | none => L.len ≤ o + l * s + (M - l) * s) →
            ∃ v', (Instr.sliceAt ty (.slice (some ad) n cap) (lo.map a.eval) (hi.map a.eval) (mx.map a.eval)).run P w = .ok v' w ∧ CR φ (.sl b (o + l * s) (r - l) s c') v' := by
          intro M c' hM h2 h3 hc'
          have hb := bounds_run (P := P) true hl hr hM h1 h2 h3 w
          exact ⟨_, by simp [Instr.sliceAt, Instr.slice, run_underlying hu, hb, run_sizeOf hsz'], slice_rel hL hat hcm hsz h1 h2 h3 hc'⟩
        have hne : ∀ M, m = some M → hi ≠ none := fun M hM e => by subst hM e; simp at hmh
        split at hs
        · rename_i c
          simp only at hcc
          subst hcc
          split at hs
          · rename_i hrc
            simp only [Option.some.injEq] at hs
            subst hs
            rcases hm with ⟨h4, _⟩ | ⟨_, _, _, _, _, _, h4⟩
            · exact fin c (some (c - l)) (.inl ⟨h4, rfl⟩) hrc (Nat.le_refl _) rfl
            · cases h4
          · cases hs
        · rename_i c M
          simp only at hcc
          subst hcc
          split at hs
          · rename_i hrc
            simp only [Option.some.injEq] at hs
            subst hs
            rcases hm with ⟨_, h4⟩ | ⟨o', kd, nn, h4, h5, h6, h7⟩
            · cases h4
            · simp only [Option.some.injEq] at h7
              exact fin M (some (M - l)) (.inr ⟨⟨o', kd, nn, h4, h5, h6, h7⟩, hne M rfl⟩) hrc.1 hrc.2 rfl
          · cases hs
        · split at hs
          · rename_i hrc
            simp only [Option.some.injEq] at hs
            subst hs
            simp only at hcc
            rcases hm with ⟨h4, _⟩ | ⟨_, _, _, _, _, _, h4⟩
            · have hrcap : r ≤ cap := by
                rcases hrc with h5 | h5
                · omega
                · have h6 := reach_of r0 hL h5
                  have h7 : r * s ≤ cap * s := by omega
                  exact Nat.le_of_mul_le_mul_right h7 hs0
              refine fin cap none (.inl ⟨h4, rfl⟩) hrcap (Nat.le_refl _) ?_
              have hmul : (cap - l) * s + l * s = cap * s := by rw [← Nat.add_mul]; congr 1; omega
              simp only
              omega
            · cases h4
          · cases hs
        · rename_i M
          split at hs
          · rename_i hrc
            simp only [Option.some.injEq] at hs
            subst hs
            simp only at hcc
            rcases hm with ⟨_, h4⟩ | ⟨o', kd, nn, h4, h5, h6, h7⟩
            · cases h4
            · simp only [Option.some.injEq] at h7
              have hMcap : M ≤ cap := by
                rcases hrc.2 with h8 | h8
                · omega
                · have h9 := reach_of r0 hL h8
                  have h10 : M * s ≤ cap * s := by omega
                  exact Nat.le_of_mul_le_mul_right h10 hs0
              exact fin M (some (M - l)) (.inr ⟨⟨o', kd, nn, h4, h5, h6, h7⟩, hne M rfl⟩) hrc.1 hMcap rfl
          · cases hs
      · cases hs
    · cases hs
  · rename_i e n s' q c hu
    obtain ⟨hql, ad, cap, rfl, hn, hcm, hcc, hcr⟩ := hx
    split at hs
    · rename_i s l r m hsz' hlo hhi hmx
      split at hs
      · rename_i hlr
        obtain ⟨h1, h1n, rfl, hmh⟩ := hlr
        have hl := bnd_sound ht hlo
        have hr := bnd_sound ht hhi
        have hm := bndM_sound ht hmx
        have hmul : (r - l) * s + l * s = r * s := by rw [← Nat.add_mul]; congr 1; omega
        have hrn : r * s ≤ n * s := Nat.mul_le_mul_right _ h1n
        have fin : ∀ (M : Nat) (c' : Option Nat), ((mx = none ∧ M = cap) ∨ (∃ o kd n, mx = some o ∧ a.eval o = .int kd n ∧ 0 ≤ n ∧ M = n.toNat) ∧ hi ≠ none) → r ≤ M → M ≤ cap → (∀ c'', c' = some c'' → c'' = M - l) →
            ∃ v', (Instr.sliceAt ty (.slice (some ad) n cap) (lo.map a.eval) (hi.map a.eval) (mx.map a.eval)).run P w = .ok v' w ∧ CR φ (.fz (r - l) s ((q.drop (l * s)).take ((r - l) * s)) c') v' := by
          intro M c' hM h2 h3 hc'
          have hb := bounds_run (P := P) true hl hr hM h1 h2 h3 w
          refine ⟨.slice (if M = l then some ad else (some ad).map (·.add (l * s))) (r - l) (M - l), by simp [Instr.sliceAt, Instr.slice, run_underlying hu, hb, run_sizeOf hsz'], ?_⟩
          refine ⟨by simp; omega, if M = l then ad else ad.add (l * s), M - l, by split <;> rfl, by omega, by omega, hc', CRs.mk fun j x hx => ?_⟩
          have hj : j < (r - l) * s := by
            rcases Nat.lt_or_ge j ((r - l) * s) with h | h
            · exact h
            · rw [List.getElem?_eq_none (by simp; omega)] at hx; cases hx
          rw [List.getElem?_take, if_pos hj, List.getElem?_drop] at hx
          obtain ⟨u, g1, g2⟩ := hcr.get hx
          have hne : ¬ M = l := fun e => by
            have : r - l = 0 := by omega
            rw [this] at hj
            simp at hj
          rw [if_neg hne, Addr.add_plus]
          exact ⟨u, by rwa [Nat.zero_add] at g1 ⊢, g2⟩
        split at hs
        · simp only [Option.some.injEq] at hs
          subst hs
          rcases hm with ⟨h4, _⟩ | ⟨_, _, _, _, _, _, h4⟩
          · refine fin cap (c.map (· - l)) (.inl ⟨h4, rfl⟩) (by omega) (Nat.le_refl _) fun c'' he => ?_
            cases c with
            | none => cases he
            | some c0 =>
              simp only [Option.map_some, Option.some.injEq] at he
              rw [← he, hcc c0 rfl]
          · cases h4
        · rename_i M
          split at hs
          · rename_i hrc
            simp only [Option.some.injEq] at hs
            subst hs
            rcases hm with ⟨_, h4⟩ | ⟨o', kd, nn, h4, h5, h6, h7⟩
            · cases h4
            · simp only [Option.some.injEq] at h7
              exact fin M (some (M - l)) (.inr ⟨⟨o', kd, nn, h4, h5, h6, h7⟩, fun e => by rw [e] at hmh; simp at hmh⟩) hrc.1 (by omega) fun c'' he => by cases he; rfl
          · cases hs
      · cases hs
    · cases hs
  · rename_i e hu
    simp only [VR, VR1, CR] at hx
    subst hx
    split at hs
    · rename_i sz hsz hlo hhi hmx
      obtain ⟨rfl, -⟩ | ⟨_, _, _, _, _, _, h9⟩ := bndM_sound ht hmx
      case inr => cases h9
      simp only [Option.some.injEq] at hs
      subst hs
      have hb := bounds_run (P := P) (a := a) (mx := none) true (len := 0) (cap := 0) (bnd_sound ht hlo) (bnd_sound ht hhi) (.inl ⟨rfl, rfl⟩) (Nat.le_refl _) (Nat.le_refl _) (Nat.le_refl _) w
      simp only [Option.map_none] at hb
      exact ⟨.slice none 0 0, by simp [Instr.sliceAt, Instr.slice, run_underlying hu, hb, run_sizeOf hsz], rfl⟩
    · rename_i sz hsz hlo hhi hmx
      obtain ⟨-, h9⟩ | ⟨o', kd, nn, h4, h5, h6, h7⟩ := bndM_sound ht hmx
      case inl => cases h9
      split at hs
      · rename_i hih
        simp only [Option.some.injEq] at hs h7
        subst hs
        have hb := bounds_run (P := P) (a := a) true (len := 0) (cap := 0) (m := 0) (bnd_sound ht hlo) (bnd_sound ht hhi) (.inr ⟨⟨o', kd, nn, h4, h5, h6, h7⟩, fun e => by rw [e] at hih; cases hih⟩) (Nat.le_refl _) (Nat.le_refl _) (Nat.le_refl _) w
        exact ⟨.slice none 0 0, by simp [Instr.sliceAt, Instr.slice, run_underlying hu, hb, run_sizeOf hsz], rfl⟩
      · cases hs
    · cases hs
  · rename_i e hu
    obtain ⟨ad, c, rfl, hc⟩ := hx
    split at hs
    · rename_i sz hsz hlo hhi hmx
      obtain ⟨rfl, -⟩ | ⟨_, _, _, _, _, _, h9⟩ := bndM_sound ht hmx
      case inr => cases h9
      simp only [Option.some.injEq] at hs
      subst hs
      have hb := bounds_run (P := P) (a := a) (mx := none) true (len := 0) (cap := c) (bnd_sound ht hlo) (bnd_sound ht hhi) (.inl ⟨rfl, rfl⟩) (Nat.le_refl _) (Nat.zero_le _) (Nat.le_refl _) w
      simp only [Option.map_none] at hb
      have e0 : ∀ x : Addr, x.add 0 = x := fun x => rfl
      exact ⟨.slice (some ad) 0 c, by simp [Instr.sliceAt, Instr.slice, run_underlying hu, hb, run_sizeOf hsz, e0], ad, c, rfl, hc⟩
    · cases hs
  · cases hs
end Go.Proofs.Ytjlfojgacnphmaa.Sim

namespace Go.Proofs.Ytjlfojgacnphmaa.Sim
open Go Go.RowKit
set_option linter.unusedSimpArgs false
set_option linter.unusedVariables false
variable {P : Program}

theorem HR.cell {base : Nat} {φ : Ph} {h : SH} {w : World} (r : HR base φ h w) {a : Addr} {u : Value} (hu : φ.cell a = some u) : w.cell? a = some u := by
  unfold Ph.cell at hu
  cases hm : φ.fm a.block with
  | none => simp [hm] at hu
  | some o =>
    rw [hm] at hu
    simp only [World.cell?, (r.froz _ _ hm).1]
    cases o <;> simp_all
theorem CRs.all2 {φ : Ph} {a : Addr} : ∀ {l : List SC} {i : Nat}, CRs φ a i l → ∃ vs : List Value, vs.length = l.length ∧ All2 (CR φ) l vs ∧ ∀ j v, vs[j]? = some v → φ.cell (a.add (i + j)) = some v
  | [], i, _ => ⟨[], rfl, trivial, fun j v h => by simp at h⟩
  | x :: l, i, h => by
    simp only [CRs] at h
    obtain ⟨⟨u, h1, h2⟩, h3⟩ := h
    obtain ⟨vs, g1, g2, g3⟩ := CRs.all2 h3
    refine ⟨u :: vs, by simp [g1], ⟨h2, g2⟩, fun j v hv => ?_⟩
    cases j with
    | zero => simp at hv; subst hv; exact h1
    | succ j =>
      have := g3 j v (by simpa using hv)
      rwa [show i + 1 + j = i + (j + 1) by omega] at this
theorem loadL_sound {base : Nat} {φ : Ph} {h : SH} {w : World} (r : HR base φ h w) {t : TypeId} {l : List SC} {o : Nat} {v : SV} {a : Value} (ha : CR φ (.fp l o) a) (hl : sLoadL P t l o = some v) :
    Fits base φ h w v h ((Instr.loadAt t a).run P w) := by
  simp only [CR] at ha
  obtain ⟨ad, rfl, hc⟩ := ha
  obtain ⟨vs, g1, g2, g3⟩ := hc.all2
  have g4 : ∀ j v, vs[j]? = some v → w.cell? (ad.add j) = some v := fun j v hv => r.cell (by have := g3 j v hv; rwa [Nat.zero_add] at this)
  unfold sLoadL at hl
  split at hl
  · rename_i n hag hn
    split at hl
    · rename_i hle
      simp only [Option.some.injEq] at hl
      subst hl
      have hlen : ((vs.drop o).take n).length = n := by rw [List.length_take, List.length_drop]; omega
      have hq := run_loadCells_list (P := P) w (ad.add o) ((vs.drop o).take n) (fun j v hv => by
        rw [Addr.add_plus]
        rw [List.getElem?_take] at hv
        split at hv
        · rw [List.getElem?_drop] at hv; exact g4 _ _ hv
        · cases hv)
      rw [hlen] at hq
      exact Fits.pure r (v' := .agg ((vs.drop o).take n).toArray) (by simp [Instr.loadAt, Instr.sureAddr, loadVar, run_isAg hag, run_sizeOf hn, hq]) ⟨_, rfl, (g2.drop o).take n⟩
    · cases hl
  · rename_i n hag hn
    split at hl
    · rename_i x hx
      simp only [Option.some.injEq] at hl
      subst hl
      obtain ⟨u, h1, h2⟩ := g2.get hx
      exact Fits.pure r (v' := u) (by simp [Instr.loadAt, Instr.sureAddr, loadVar, run_isAg hag, g4 _ _ h1]) h2
    · cases hl
  · cases hl
theorem elems_sound {base : Nat} {φ : Ph} {h : SH} {w : World} (r : HR base φ h w) {s k : Nat} {y : SV} {v : Value} {new : List SC} (hv : VR φ y v) (he : elems h s y = some (k, new)) :
    ∃ vs : List Value, vs.length = k * s ∧ All2 (CR φ) new vs ∧ (Builtin.lenOf v).run P w = .ok k w ∧ (Builtin.firstCells s k v).run P w = .ok vs.toArray w := by
  unfold elems at he
  split at he
  · simp only [Option.some.injEq, Prod.mk.injEq] at he
    obtain ⟨rfl, rfl⟩ := he
    simp only [VR, VR1, CR] at hv
    subst hv
    exact ⟨[], by simp, trivial, rfl, by simp [Builtin.firstCells]⟩
  · simp only [Option.some.injEq, Prod.mk.injEq] at he
    obtain ⟨rfl, rfl⟩ := he
    obtain ⟨a, c, rfl, hc⟩ := hv
    exact ⟨[], by simp, trivial, rfl, by simp [Builtin.firstCells, loadCells, loadCellsFrom]⟩
  · rename_i b o n s' c
    split at he
    · rename_i hs
      subst hs
      cases hr : h.read b o (n * s) with
      | none => simp [hr] at he
      | some l =>
        simp only [hr, Option.map_some, Option.some.injEq, Prod.mk.injEq] at he
        obtain ⟨rfl, rfl⟩ := he
        obtain ⟨L, a, cap, hL, rfl, hat, hn, hcm, -⟩ := hv
        obtain ⟨vs, h1, h2, h3⟩ := read_all2 r hr hL
        refine ⟨vs, h1, h2, rfl, ?_⟩
        by_cases h0 : n * s = 0
        · have : vs = [] := List.eq_nil_of_length_eq_zero (by omega)
          subst this
          simp [Builtin.firstCells, h0, loadCells, loadCellsFrom]
        · have hp : 0 < n := Nat.pos_of_ne_zero fun e => h0 (by simp [e])
          have := hat (by omega)
          subst this
          exact run_firstCells_some (P := P) w s n _ n cap vs h1 h3
    · cases he
  · rename_i n s' l c
    split at he
    · rename_i hs
      subst hs
      simp only [Option.some.injEq, Prod.mk.injEq] at he
      obtain ⟨rfl, rfl⟩ := he
      simp only [VR, VR1, CR] at hv
      obtain ⟨hl, a, cap, rfl, hn, hcm, -, hcs⟩ := hv
      obtain ⟨vs, g1, g2, g3⟩ := hcs.all2
      exact ⟨vs, by omega, g2, rfl, run_firstCells_some (P := P) w s n a n cap vs (by omega) (fun j v hj => r.cell (by have := g3 j v hj; rwa [Nat.zero_add] at this))⟩
    · cases he
  · rename_i l
    split at he
    · rename_i hs
      subst hs
      simp only [Option.some.injEq, Prod.mk.injEq] at he
      obtain ⟨rfl, rfl⟩ := he
      obtain ⟨sb, rfl, hl⟩ := hv
      subst hl
      have hsz : sb.size = sb.data.toList.length := rfl
      refine ⟨sb.data.toList.map fun b => Value.int .u8 b.toNat, by simp, ?_, by simp [Builtin.lenOf], ?_⟩
      · rw [List.map_map]
        have : ∀ l : List UInt8, All2 (CR φ) (l.map ((fun (b : Nat) => SC.int .u8 (b : Int)) ∘ UInt8.toNat)) (l.map fun b => Value.int .u8 (b.toNat : Int)) := by
          intro l
          induction l with
          | nil => trivial
          | cons b l ih => exact ⟨rfl, ih⟩
        exact this _
      · have hx : (sb.extract 0 (List.map UInt8.toNat sb.data.toList).length).data = sb.data := by
          rw [List.length_map, ← hsz, ByteArray.data_extract]
          have : sb.size = sb.data.size := rfl
          rw [this, Array.extract_size]
        simp only [Builtin.firstCells, hx, Sem.run_pure]
        congr 1
        apply Array.ext'
        simp
    · cases he
  · cases he
theorem append_room {t u e : TypeId} {i : TypeInfo} {du : TypeDesc} (ht : P.underlying t = some (.slice e)) (hi : P.info? e = some i) (hu : P.underlying u = some du) (hd : ∀ k, du ≠ .int k) (ty : TypeId) (w : World) {b : Option Addr} {n c k : Nat} {v : Value} {vs : List Value}
    (h1 : (Builtin.lenOf v).run P w = .ok k w) (h2 : (Builtin.firstCells i.size k v).run P w = .ok vs.toArray w) (hroom : n + k ≤ c) :
    (Builtin.append_ #[t, u] ty #[.slice b n c, v]).run P w = ((match b with | some a => storeCells (a.add (n * i.size)) vs | none => pure ()) >>= fun _ => pure (.slice b (n + k) c) : Sem Value).run P w := by
  have hz : (match du with | .int _ => true | _ => false) = false := by
    cases du <;> first | rfl | exact absurd rfl (hd _)
  simp [Builtin.append_, run_underlying ht, run_underlying hu, sizeOf, typeInfo, hi, hz, h1, h2, hroom]
  cases b <;> simp
theorem append_grow {t u e : TypeId} {i : TypeInfo} {z : Value} {du : TypeDesc} (ht : P.underlying t = some (.slice e)) (hi : P.info? e = some i) (hzr : i.zero = some z) (hu : P.underlying u = some du) (hd : ∀ k, du ≠ .int k) (ty : TypeId) (w : World) {b : Option Addr} {n c k : Nat} {v : Value} {vs os : List Value}
    (h1 : (Builtin.lenOf v).run P w = .ok k w) (h2 : (Builtin.firstCells i.size k v).run P w.drew = .ok vs.toArray w.drew) (h3 : (Builtin.firstCells i.size n (.slice b n c)).run P w.drew = .ok os.toArray w.drew)
    (hg : c < n + k) (h63 : (((n + k : Nat) : Int)) ≤ 9223372036854775807) (hfit : Builtin.nextslicecap (n + k) c * i.bytes ≤ 281474976710656) :
    (Builtin.append_ #[t, u] ty #[.slice b n c, v]).run P w = .ok (.slice (some ⟨w.heap.size, 0, none⟩) (n + k) (grownCap w (n + k) c e))
      { w with heap := w.heap.push (.cells (os.toArray ++ vs.toArray ++ Builtin.zeroCells z.cells (grownCap w (n + k) c e - (n + k))) e (0, 0)), drawn := w.drawn + 1 } := by
  have hz : (match du with | .int _ => true | _ => false) = false := by
    cases du <;> first | rfl | exact absurd rfl (hd _)
  have hn : ¬ (n + k ≤ c) := by omega
  have h63' : ¬ (9223372036854775807 < ((n : Int) + (k : Int))) := by omega
  have h48' : ¬ (281474976710656 < Builtin.nextslicecap (n + k) c * i.bytes) := by omega
  simp [Builtin.append_, run_underlying ht, run_underlying hu, sizeOf, typeInfo, zeroValue, hi, hzr, hz, h1, hn, h63', h48', Question.forced, newRow, grownCap]
  rw [h3]
  simp only [Result.andThen_ok, h2]
  have hA : ∀ zc : Array Value, os.toArray ++ (vs.toArray ++ zc) = (os ++ vs).toArray ++ zc := fun zc => by apply Array.ext'; simp
  rw [hA]
  rfl
theorem mul_le_of {n c s : Nat} (h : n ≤ c) : n * s ≤ c * s := Nat.mul_le_mul_right _ h
theorem grow_rel {base : Nat} {φ : Ph} {h : SH} {w : World} (r : HR base φ h w) (e : TypeId) {s n c : Nat} {q : List SC} {os : List Value} {z : Array Value} (hq : All2 (CR φ) q os) (ho : os.length = n * s) (hs : 0 < s) (hz : z.size = s) (hc : n ≤ c) (hm : c ≤ maxLen) (d : Nat) (C : Array Value)
    (hC : C = os.toArray ++ Builtin.zeroCells z (c - n)) :
    ∃ φ', VR φ' (.c (.sl h.next 0 n s none)) (.slice (some ⟨w.heap.size, 0, none⟩) n c) ∧ HR base φ' (h.new q) { w with heap := w.heap.push (.cells C e (0, 0)), drawn := d } ∧ Mv φ h w φ' (h.new q) { w with heap := w.heap.push (.cells C e (0, 0)), drawn := d } := by
  subst hC
  have hl := hq.length
  have hsz : (os.toArray ++ Builtin.zeroCells z (c - n)).size = c * s := by
    rw [Array.size_append, List.size_toArray, size_zeroCells, ho, hz, ← Nat.add_mul]
    congr 1; omega
  obtain ⟨φ', h1, h2, h3⟩ := push_fits r e (q := q) (cs := os.toArray ++ Builtin.zeroCells z (c - n)) (fun i x hx => by
    obtain ⟨v, a, b⟩ := hq.get hx
    have hi : i < os.length := (List.getElem?_eq_some_iff.1 a).1
    refine ⟨v, ?_, b⟩
    rw [Array.getElem?_append_left (by simpa using hi)]
    simpa using a) (0, 0) (.inl rfl) d
  have := mul_le_of (s := s) hc
  refine ⟨φ', ⟨_, _, c, h3, rfl, fun _ => rfl, hc, hm, by simp only [hsz]; omega, by simp only; omega⟩, h1, h2⟩
theorem append_fits {base : Nat} {φ : Ph} {h h' : SH} {w : World} (r : HR base φ h w) {t u : TypeId} {du : TypeDesc} {x y v : SV} {a b : Value} (hu : P.underlying u = some du) (hd : ∀ k, du ≠ .int k) (hx : VR φ x a) (hy : VR φ y b)
    (hs : sAppend P t h x y = some (v, h')) (ty : TypeId) : Fits base φ h w v h' ((Builtin.append_ #[t, u] ty #[a, b]).run P w) := by
  unfold sAppend at hs
  split at hs
  · rename_i e he
    have ht := elem_of he
    split at hs
    · rename_i i z hi hz
      obtain ⟨i', zv, hi', hzr, hz⟩ := zero_of hz
      rw [hi] at hi'
      cases hi'
      split at hs
      · cases hs
      · rename_i hzl
        simp only [ne_eq, Decidable.not_not] at hzl
        have hzs : zv.cells.size = i.size := by have := (hz φ).length; simp at this; omega
        split at hs
        · rename_i k new he
          obtain ⟨vs, k1, k2, k3, k4⟩ := elems_sound (P := P) r hy he
          obtain ⟨vs', k1', k2', k3', k4'⟩ := elems_sound (P := P) (r.same (w' := w.drew) rfl) hy he
          split at hs
          · -- nil
            simp only [VR, VR1, CR] at hx
            subst hx
            split at hs
            · rename_i h0
              subst h0
              simp only [Option.some.injEq, Prod.mk.injEq] at hs
              obtain ⟨rfl, rfl⟩ := hs
              exact Fits.pure r (v' := .slice none 0 0) (by rw [append_room ht hi hu hd ty w k3 k4 (Nat.le_refl _)]; simp) rfl
            · rename_i h0
              split at hs
              · rename_i hc
                obtain ⟨c1, c2, c3⟩ := hc
                simp only [Option.some.injEq, Prod.mk.injEq] at hs
                obtain ⟨rfl, rfl⟩ := hs
                have hk : k ≤ 140737488355328 := Nat.le_trans (Nat.le_mul_of_pos_right _ c2) c1
                have hr := append_grow (P := P) (os := []) (b := none) (n := 0) (c := 0) ht hi hzr hu hd ty w k3 k4' (by simp [Builtin.firstCells]) (by omega) (by omega) (growslice_fits (by omega) (by simpa using c1))
                simp only [Nat.zero_add] at hr
                obtain ⟨φ', g1, g2, g3⟩ := grow_rel r e (c := grownCap w k 0 e) k2' k1' c3 hzs (grownCap_ge _ _ _ _) (grownCap_le_maxLen _ _ _ _ (by simp only [maxLen]; omega)) (w.drawn + 1) _ rfl
                refine ⟨_, _, φ', hr, g1, ?_, ?_⟩
                · simpa using g2
                · simpa using g3
              · cases hs
          · -- em
            obtain ⟨ad, c, rfl, hc⟩ := hx
            split at hs
            · rename_i h0
              subst h0
              simp only [Option.some.injEq, Prod.mk.injEq] at hs
              obtain ⟨rfl, rfl⟩ := hs
              have hv0 : vs = [] := List.eq_nil_of_length_eq_zero (by simpa using k1)
              subst hv0
              exact Fits.pure r (v' := .slice (some ad) 0 c) (by rw [append_room ht hi hu hd ty w k3 k4 (Nat.zero_le _)]; simp [storeCells]) ⟨ad, c, rfl, hc⟩
            · cases hs
          · -- a frozen one, of known capacity
            rename_i n s l c
            have hx0 := hx
            simp only [VR, VR1, CR] at hx
            obtain ⟨hl, ad, cap, rfl, hn, hcm, hcc, hcs⟩ := hx
            split at hs
            · rename_i h0
              subst h0
              simp only [Option.some.injEq, Prod.mk.injEq] at hs
              obtain ⟨rfl, rfl⟩ := hs
              have hv0 : vs = [] := List.eq_nil_of_length_eq_zero (by simpa using k1)
              subst hv0
              exact Fits.pure r (v' := .slice (some ad) n cap) (by rw [append_room ht hi hu hd ty w k3 k4 (by omega)]; simp [storeCells]) hx0
            · rename_i h0
              split at hs
              · rename_i hc
                obtain ⟨c1, c2, c3, c4, c5⟩ := hc
                subst c4
                have c6 : c = cap := hcc _ rfl
                subst c6
                simp only [Option.some.injEq, Prod.mk.injEq] at hs
                obtain ⟨rfl, rfl⟩ := hs
                have hk : n + k ≤ 140737488355328 := Nat.le_trans (Nat.le_mul_of_pos_right _ c2) c1
                obtain ⟨os, o1, o2, o3⟩ := hcs.all2
                have o4 : (Builtin.firstCells i.size n (.slice (some ad) n c)).run P w.drew = .ok os.toArray w.drew := run_firstCells_some (P := P) w.drew i.size n ad n c os (by omega) (fun j v hj => by
                  rw [World.cell?_of_block (w := w) (by rfl)]
                  exact r.cell (by have := o3 j v hj; rwa [Nat.zero_add] at this))
                have hr := append_grow (P := P) (os := os) (b := some ad) (n := n) (c := c) ht hi hzr hu hd ty w k3 k4' o4 (by omega) (by omega) (growslice_fits (by omega) c1)
                obtain ⟨φ', g1, g2, g3⟩ := grow_rel r e (n := n + k) (c := grownCap w (n + k) c e) (o2.app k2') (by rw [List.length_append, o1, k1', hl, Nat.add_mul]) c3 hzs (grownCap_ge _ _ _ _) (grownCap_le_maxLen _ _ _ _ (by simp only [maxLen]; omega)) (w.drawn + 1) _ rfl
                refine ⟨_, _, φ', hr, g1, ?_, ?_⟩
                · simpa using g2
                · simpa using g3
              · cases hs
          · -- a frozen one
            rename_i n s l
            have hx0 := hx
            simp only [VR, VR1, CR] at hx
            obtain ⟨hl, ad, cap, rfl, hn, hcm, hcc, hcs⟩ := hx
            split at hs
            · rename_i h0
              subst h0
              simp only [Option.some.injEq, Prod.mk.injEq] at hs
              obtain ⟨rfl, rfl⟩ := hs
              have hv0 : vs = [] := List.eq_nil_of_length_eq_zero (by simpa using k1)
              subst hv0
              exact Fits.pure r (v' := .slice (some ad) n cap) (by rw [append_room ht hi hu hd ty w k3 k4 (by omega)]; simp [storeCells]) hx0
            · cases hs
          · rename_i bb o n s c
            obtain ⟨L, ad, cap, hL, rfl, hat, hn, hcm, hsz, hcc⟩ := hx
            split at hs
            · rename_i h0
              subst h0
              simp only [Option.some.injEq, Prod.mk.injEq] at hs
              obtain ⟨rfl, rfl⟩ := hs
              have hv0 : vs = [] := List.eq_nil_of_length_eq_zero (by simpa using k1)
              subst hv0
              exact Fits.pure r (v' := .slice (some ad) n cap) (by rw [append_room ht hi hu hd ty w k3 k4 (by omega)]; simp [storeCells]) ⟨L, ad, cap, hL, rfl, hat, hn, hcm, hsz, hcc⟩
            · rename_i h0
              split at hs
              · rename_i hc
                obtain ⟨c1, c2, c3, rfl⟩ := hc
                have hk : n + k ≤ 140737488355328 := Nat.le_trans (Nat.le_mul_of_pos_right _ c2) c1
                split at hs
                · rename_i cs own hb
                  obtain ⟨L', ws, E, fr, j1, j2, j3, j4, j5⟩ := r.row hb
                  rw [hL] at j1
                  cases j1
                  split at hs
                  · -- there is room
                    rename_i hroom
                    have hle : n + k ≤ cap := by
                      cases c with
                      | some c => simp only [roomB] at hroom hcc; subst hcc; exact Nat.le_of_ble_eq_true hroom
                      | none =>
                        simp only [roomB] at hroom hcc
                        have := Nat.le_of_ble_eq_true hroom
                        exact Nat.le_of_mul_le_mul_right (show (n + k) * i.size ≤ cap * i.size by omega) c3
                    have := hat (by omega)
                    subst this
                    cases hw : h.write bb (o + n * i.size) new with
                    | none => simp [hw] at hs
                    | some h2 =>
                      simp only [hw, Option.map_some, Option.some.injEq, Prod.mk.injEq] at hs
                      obtain ⟨rfl, rfl⟩ := hs
                      obtain ⟨w', g1, g2, g3⟩ := write_fits (P := P) r hw hL k2
                      refine ⟨.slice (some ⟨L.m, L.m0 + o, none⟩) (n + k) cap, w', φ, ?_, ⟨L, _, cap, hL, rfl, fun _ => rfl, hle, hcm, hsz, hcc⟩, g2, g3⟩
                      rw [append_room ht hi hu hd ty w k3 k4 hle]
                      simp [Addr.add_lit, Nat.add_assoc, g1]
                  · rename_i hnr
                    split at hs
                    · rename_i hown
                      simp only [Option.some.injEq, Prod.mk.injEq] at hs
                      obtain ⟨rfl, rfl⟩ := hs
                      -- the old elements
                      have hold : ∃ os : List Value, os.length = n * i.size ∧ All2 (CR φ) ((cs.drop o).take (n * i.size)) os ∧ ∀ W : World, W.heap = w.heap → (Builtin.firstCells i.size n (.slice (some ad) n cap)).run P W = .ok os.toArray W := by
                        have hr : h.read bb o (n * i.size) = some ((cs.drop o).take (n * i.size)) := by simp [SH.read, hb, hown.1]
                        obtain ⟨os, q1, q2, q3⟩ := read_all2 r hr hL
                        refine ⟨os, q1, q2, fun W hW => ?_⟩
                        by_cases h00 : n = 0
                        · subst h00
                          have : os = [] := List.eq_nil_of_length_eq_zero (by simpa using q1)
                          subst this
                          simp [Builtin.firstCells, loadCells, loadCellsFrom]
                        · have := hat (by omega)
                          subst this
                          exact run_firstCells_some (P := P) W i.size n _ n cap os q1 (fun j v hj => by rw [World.cell?_of_block (w := w) (by rw [hW])]; exact q3 j v hj)
                      obtain ⟨os, o1, o2, o3⟩ := hold
                      by_cases hroom : n + k ≤ cap
                      · -- in place, though nobody knew
                        have hcn : c = none := by
                          cases c with
                          | none => rfl
                          | some c =>
                            simp only [roomB] at hcc hnr
                            subst hcc
                            exact absurd (Nat.ble_eq_true_of_le hroom) hnr
                        subst hcn
                        simp only [Option.isSome_none, Bool.false_eq_true, false_or, if_false] at hown hcc ⊢
                        obtain ⟨hfit, rfl⟩ := hown
                        have := hat (by omega)
                        subst this
                        obtain ⟨e1, e2, e3, e4⟩ := j5 rfl
                        have hmul : (n + k) * i.size = n * i.size + k * i.size := Nat.add_mul _ _ _
                        have hmc := mul_le_of (s := i.size) hroom
                        have hst := run_storeFree (P := P) L.m (L.m0 + o + n * i.size) E fr vs 0 ws w j2 e4 (by rw [k1]; omega) (fun v hv => by
                          obtain ⟨j, hj, rfl⟩ := List.mem_iff_getElem.1 hv
                          have hx : new[j]? = some (new[j]'(by rw [k2.length]; exact hj)) := List.getElem?_eq_getElem _
                          obtain ⟨v', a', b'⟩ := k2.get hx
                          rw [List.getElem?_eq_getElem hj] at a'
                          cases a'
                          exact b'.one)
                        have hheap := setRow_heap w L.m ws (ws.toList.take (L.m0 + o + n * i.size + 0) ++ vs ++ ws.toList.drop (L.m0 + o + n * i.size + 0 + vs.length)).toArray E fr j2
                        have hnl := k2.length
                        have hol := o2.length
                        obtain ⟨g1, g2, g3⟩ := r.rename (w' := w.setRow L.m (ws.toList.take (L.m0 + o + n * i.size + 0) ++ vs ++ ws.toList.drop (L.m0 + o + n * i.size + 0 + vs.length)).toArray) ⟨_, hb, rfl, hL⟩ ((cs.drop o).take (n * i.size) ++ new) ⟨L.m, L.m0 + o, L.sz, (n + k) * i.size⟩ rfl
                          ⟨by simp only [List.length_append]; rw [hol, hnl, k1, o1, hmul], _, E, fr, hheap, fun j x hx => by
                            simp only [Nat.add_zero, List.getElem?_toArray]
                            rw [seg_get _ _ _ _ (by simp; omega)]
                            by_cases q1 : j < n * i.size
                            · rw [List.getElem?_append_left (by rw [hol, o1]; exact q1)] at hx
                              rw [if_pos (by omega)]
                              rw [List.getElem?_take, if_pos q1, List.getElem?_drop] at hx
                              obtain ⟨v, a', b'⟩ := j4 _ _ hx
                              exact ⟨v, by simp; rw [← Nat.add_assoc] at a'; exact a', b'⟩
                            · rw [List.getElem?_append_right (by rw [hol, o1]; omega), hol, o1] at hx
                              obtain ⟨v, a', b'⟩ := k2.get hx
                              have := (List.getElem?_eq_some_iff.1 a').1
                              rw [if_neg (by omega), if_pos (by omega)]
                              exact ⟨v, by rw [← a']; congr 1; omega, b'⟩, fun _ => ⟨e1, by simp; omega, by simp only [List.length_append]; rw [hol, hnl, k1, o1]; simp; omega, by
                            rcases e4 with e4 | e4
                            · exact .inl e4
                            · exact .inr (by simp; omega)⟩⟩
                          (setRow_size _ _ _) (fun k hk => setRow_other w L.m k _ hk) rfl rfl rfl
                        refine ⟨.slice (some ⟨L.m, L.m0 + o, none⟩) (n + k) cap, _, _, ?_, ⟨_, _, cap, g3, rfl, fun _ => by simp, hroom, hcm, by simp only; omega, by simp only; omega⟩, g1, g2⟩
                        rw [append_room ht hi hu hd ty w k3 k4 hroom]
                        simp only [Addr.add_lit]
                        rw [Sem.run_bind, hst]
                        rfl
                      · have hr := append_grow (P := P) (os := os) (b := some ad) (n := n) (c := cap) ht hi hzr hu hd ty w k3 k4' (o3 _ rfl) (by omega) (by omega) (growslice_fits (by omega) c1)
                        have hol := o2.length
                        have hroot : ∃ h1 : SH, h1 = (if c.isSome = true then h else h.put bb none) ∧ h1.next = h.next ∧ HR base φ h1 w ∧ Mv φ h w φ h1 w := by
                          by_cases hcs : c.isSome = true
                          · exact ⟨h, by rw [if_pos hcs], rfl, r, Mv.refl _ _ _⟩
                          · refine ⟨h.put bb none, by rw [if_neg hcs], rfl, ?_⟩
                            exact r.forget (Nat.le_refl _) (fun b q hq => by
                              rw [SH.get_put] at hq
                              split at hq
                              · cases hq
                              · exact hq)
                        obtain ⟨h1, hh, hnx, r1, m1⟩ := hroot
                        rw [← hh, ← hnx]
                        obtain ⟨φ', g1, g2, g3⟩ := grow_rel r1 e (n := n + k) (c := grownCap w (n + k) cap e) (o2.app k2') (by rw [List.length_append, o1, k1', Nat.add_mul]) c3 hzs (grownCap_ge _ _ _ _) (grownCap_le_maxLen _ _ _ _ (by simp only [maxLen]; omega)) (w.drawn + 1) _ rfl
                        refine ⟨_, _, φ', hr, g1, ?_, m1.trans ?_⟩
                        · simpa using g2
                        · simpa using g3
                    · cases hs
                · cases hs
              · cases hs
          · cases hs
        · cases hs
    · cases hs
  · cases hs
end Go.Proofs.Ytjlfojgacnphmaa.Sim

namespace Go.Proofs.Ytjlfojgacnphmaa.Sim
open Go Go.RowKit
set_option linter.unusedSimpArgs false
set_option linter.unusedVariables false
variable {P : Program}

theorem make_fits {base : Nat} {φ : Ph} {h h' : SH} {w : World} (r : HR base φ h w) {ty : TypeId} {l c v : SV} {a b : Value} (hl : VR φ l a) (hc : VR φ c b) (hs : sMake P ty h l c = some (v, h')) : Fits base φ h w v h' ((Instr.makeSlice ty a b).run P w) := by
  unfold sMake at hs
  split at hs
  · rename_i e he
    have ht := elem_of he
    split at hs
    · rename_i i z k1 l k2 c hi hz
      obtain ⟨i', zv, hi', hzr, hz⟩ := zero_of hz
      rw [hi] at hi'
      cases hi'
      simp only [VR, VR1, CR] at hl hc
      subst hl hc
      split at hs
      · rename_i hcnd
        obtain ⟨c1, c2, c3, c4, c5, c6⟩ := hcnd
        simp only [Option.some.injEq, Prod.mk.injEq] at hs
        obtain ⟨rfl, rfl⟩ := hs
        obtain ⟨l, rfl⟩ := Int.eq_ofNat_of_zero_le c1
        obtain ⟨c, rfl⟩ := Int.eq_ofNat_of_zero_le (Int.le_trans c1 c2)
        have c3' : c * i.bytes ≤ 140737488355328 := by
          have := c3
          rw [← Int.natCast_mul] at this
          omega
        have hcb : c ≤ 140737488355328 := Nat.le_trans (Nat.le_mul_of_pos_right _ c4) c3'
        have hlc : l ≤ c := by omega
        have hzs : zv.cells.size = i.size := by
          have := (hz φ).length
          simp only [Array.length_toList] at this
          omega
        have hr := run_make (P := P) w ty e i zv ht hi hzr k1 k2 l c c1 c2 (by rw [Int.mul_comm]; omega) (by omega)
        simp only [Int.toNat_natCast] at hr ⊢
        have hC : All2 (CR φ) (rep z c) (madeCells zv.cells (c * i.size)).toList := rep_sound (hz φ) c (c * i.size) (by rw [c5]) (by omega)
        obtain ⟨φ', k1, k2, k3⟩ := push_fits r e (all2_get hC) (0, 0) (.inl rfl) w.drawn
        refine ⟨_, _, φ', hr, ⟨_, _, c, k3, rfl, fun _ => rfl, hlc, by simp only [maxLen]; omega, ?_, rfl⟩, k1, k2⟩
        simp [size_madeCells]
      · cases hs
    · cases hs
  · cases hs
theorem u8_back : ∀ {cs : List SC} {l : List Nat} {φ : Ph} {vs : List Value}, bytesOf' cs = some l → All2 (CR φ) cs vs → ∃ ns : List Int, vs = ns.map (Value.int .u8) ∧ ns.map (fun n => (UInt8.ofNat n.toNat).toNat) = l
  | [], l, φ, [], h, _ => by simp [bytesOf'] at h; subst h; exact ⟨[], rfl, rfl⟩
  | x :: cs, l, φ, v :: vs, h, hv => by
    unfold bytesOf' at h
    obtain ⟨h1, h2⟩ := hv
    split at h
    · rename_i b r hb hr
      simp only [Option.some.injEq] at h
      subst h
      obtain ⟨ns, q1, q2⟩ := u8_back hr h2
      unfold byteOf' at hb
      split at hb
      · rename_i n
        split at hb
        · rename_i hc
          simp only [Option.some.injEq] at hb
          subst hb
          simp only [CR] at h1
          refine ⟨n :: ns, by rw [h1, q1]; rfl, ?_⟩
          simp only [List.map_cons, q2]
          congr 1
          rw [UInt8.toNat_ofNat']
          omega
        · cases hb
      · cases hb
    · cases h
theorem HR.freeze {base : Nat} {φ : Ph} {h : SH} {w : World} (r : HR base φ h w) {b : Nat} {L : Loc} {q : List SC} (hb : h.get b = some (.row q true)) (hL : φ b = some L) {cs : Array Value} {E : TypeId} {fr : Nat × Nat} (hw : w.heap[L.m]? = some (.cells cs E fr)) :
    HR base φ h (w.freeze { block := L.m, off := cs.size } 1) ∧ Mv φ h w φ h (w.freeze { block := L.m, off := cs.size } 1) := by
  have hlt : L.m < w.heap.size := (Array.getElem?_eq_some_iff.1 hw).1
  have hv : w.heap[L.m] = .cells cs E fr := (Array.getElem?_eq_some_iff.1 hw).2
  obtain ⟨L', ws, E', fr', j1, j2, j3, j4, j5⟩ := r.row hb
  rw [hL] at j1
  cases j1
  rw [hw] at j2
  cases j2
  obtain ⟨k1, k2, k3, k4⟩ := j5 rfl
  have hat : (w.freeze { block := L.m, off := cs.size } 1).heap[L.m]? = some (.cells cs E (if fr.1 == fr.2 then (cs.size, cs.size + 1) else (min fr.1 cs.size, max fr.2 (cs.size + 1)))) := by
    unfold World.freeze
    rw [if_neg (by omega)]
    simp only
    rw [Array.getElem?_eq_getElem (by simpa using hlt), Array.getElem_modify]
    simp [hv]
  have hold : ∀ k, k ≠ L.m → (w.freeze { block := L.m, off := cs.size } 1).heap[k]? = w.heap[k]? := by
    intro k hk
    unfold World.freeze
    rw [if_neg (by omega)]
    simp only
    by_cases h1 : k < w.heap.size
    · rw [Array.getElem?_eq_getElem (by simpa using h1), Array.getElem_modify, if_neg (fun e => hk e.symm), Array.getElem?_eq_getElem h1]
    · rw [Array.getElem?_eq_none (by simpa using h1), Array.getElem?_eq_none (by simpa using h1)]
  have hsz : (w.freeze { block := L.m, off := cs.size } 1).heap.size = w.heap.size := by
    unfold World.freeze
    rw [if_neg (by omega)]
    simp
  have hos : (w.freeze { block := L.m, off := cs.size } 1).os = w.os ∧ (w.freeze { block := L.m, off := cs.size } 1).tape = w.tape ∧ (w.freeze { block := L.m, off := cs.size } 1).output = w.output := by
    unfold World.freeze
    rw [if_neg (by omega)]
    exact ⟨rfl, rfl, rfl⟩
  have hlive : Live base φ (w.freeze { block := L.m, off := cs.size } 1) L (.row q true) := by
    refine ⟨j3, cs, E, _, hat, j4, fun _ => ⟨k1, k2, k3, ?_⟩⟩
    by_cases hf : fr.1 = fr.2
    · simp [hf]
    · rcases k4 with k4 | k4
      · exact absurd k4 hf
      · right
        rw [if_neg (by simpa using hf)]
        simp only
        omega
  obtain ⟨g1, g2⟩ := r.change ⟨_, hb, rfl, hL⟩ (.row q true) hsz hold hlive hos.1 hos.2.1 hos.2.2
  have hgo : ∀ j, (h.put b (some (.row q true))).get j = h.get j := fun j => by
    rw [SH.get_put]
    split
    · rename_i e; rw [e, hb]
    · rfl
  have how : ∀ c M, Owns φ h c M ↔ Owns φ (h.put b (some (.row q true))) c M := fun c M => by simp only [Owns, hgo]
  refine ⟨⟨g1.dom, g1.lo, fun c o hc => g1.live c o (by rw [hgo]; exact hc), fun m o hm => ⟨(g1.froz m o hm).1, fun c M hc => (g1.froz m o hm).2 c M ((how _ _).1 hc)⟩, fun c c' o M M' h1 h2 h3 h4 => g1.inj c c' o M M' ((how _ _).1 h1) (by rw [hgo]; exact h2) h3 h4⟩,
    ⟨g2.le, g2.os, g2.tape, g2.output, g2.size, g2.keep, fun c M hc => g2.own c M ((how _ _).1 hc), fun c q M hc hM => g2.has c q M (by rw [hgo]; exact hc) hM, g2.fm, g2.nx, g2.nw⟩⟩
theorem convert_fits {base : Nat} {φ : Ph} {h h' : SH} {w : World} (r : HR base φ h w) {src dst : TypeId} {x v : SV} {a : Value} (hx : VR φ x a) (hs : sConvert P src dst h x = some (v, h')) : Fits base φ h w v h' ((convert src dst a).run P w) := by
  unfold sConvert at hs
  split at hs
  · rename_i k0 k k1 n h1 h2
    simp only [VR, VR1, CR] at hx
    subst hx
    simp only [Option.some.injEq, Prod.mk.injEq] at hs
    obtain ⟨rfl, rfl⟩ := hs
    exact Fits.pure r (v' := .int k (k.wrap n)) (by simp [convert, run_underlying h1, run_underlying h2, Conv.intToInt]) rfl
  · rename_i l h1 h2
    obtain ⟨s, rfl, hl⟩ := hx
    simp only [Option.some.injEq, Prod.mk.injEq] at hs
    obtain ⟨rfl, rfl⟩ := hs
    exact Fits.pure r (v' := .string s) (by simp [convert, run_underlying h1, run_underlying h2]) ⟨s, rfl, hl⟩
  · rename_i e l h1 h2
    obtain ⟨s, rfl, hl⟩ := hx
    subst hl
    split at hs
    · rename_i he
      split at hs
      · rename_i hle
        simp only [Option.some.injEq, Prod.mk.injEq] at hs
        obtain ⟨rfl, rfl⟩ := hs
        have hr := run_bytes_of_string (P := P) w src dst e s h1 h2 he
        have hsz : s.size = s.data.toList.length := rfl
        have hge := grownCap_ge w s.size 0 e
        simp only [List.length_map] at hle
        have hm := grownCap_le_maxLen w s.size 0 e (by simp only [maxLen]; omega)
        have hbs : (bytesRow s (grownCap w s.size 0 e)).size = grownCap w s.size 0 e := by
          simp only [bytesRow, Array.size_append, Array.size_map, Array.size_replicate]
          have : s.data.size = s.size := rfl
          omega
        obtain ⟨φ', k1, k2, k3⟩ := push_fits r e (q := (s.data.toList.map UInt8.toNat).map fun (b : Nat) => SC.int .u8 (b : Int)) (cs := bytesRow s (grownCap w s.size 0 e)) (fun i x hx => by
          rw [List.getElem?_map, List.getElem?_map] at hx
          cases hq : s.data.toList[i]? with
          | none => simp [hq] at hx
          | some c =>
            simp only [hq, Option.map_some, Option.some.injEq] at hx
            subst hx
            have hi := (List.getElem?_eq_some_iff.1 hq).1
            have h9 := bytesRow_at s (grownCap w s.size 0 e) i (by simpa using hi)
            refine ⟨_, h9, ?_⟩
            have := (List.getElem?_eq_some_iff.1 hq).2
            simp only [Array.getElem_toList] at this
            rw [this]; rfl) ((bytesRow s (grownCap w s.size 0 e)).size, (bytesRow s (grownCap w s.size 0 e)).size + 1) (.inr (Nat.le_refl _)) (w.drawn + 1)
        refine ⟨_, _, φ', hr, ⟨_, _, grownCap w s.size 0 e, k3, ?_, fun _ => rfl, ?_, hm, ?_, ?_⟩, k1, k2⟩
        · rw [show (List.map UInt8.toNat s.data.toList).length = s.size by rw [List.length_map]; rfl]
        · simp only [List.length_map]; omega
        · simp only [hbs]; omega
        · simp only [List.length_map]; omega
      · cases hs
    · cases hs
  · rename_i e0 e b o n s c h1 h2
    obtain ⟨L, ad, cap, hL, rfl, hat, hn, hcm, hsz, hcc⟩ := hx
    split at hs
    · rename_i q he hb
      split at hs
      · rename_i hcnd
        obtain ⟨rfl, hp⟩ := hcnd
        rw [h1] at h2
        cases h2
        simp only [Option.some.injEq, Prod.mk.injEq] at hs
        obtain ⟨rfl, rfl⟩ := hs
        obtain ⟨L', ws, E, fr, j1, j2, j3, j4, j5⟩ := r.row hb
        rw [hL] at j1
        cases j1
        have := hat (by omega)
        subst this
        obtain ⟨g1, g2⟩ := r.freeze hb hL j2
        refine ⟨.slice (some ⟨L.m, L.m0 + o, none⟩) n cap, _, φ, ?_, ⟨L, _, cap, hL, rfl, fun _ => rfl, hn, hcm, hsz, hcc⟩, g1, g2⟩
        have hshape : w.shape? L.m = some (E, ws.size) := by simp [World.shape?, j2]
        simp [convert, run_underlying h1, run_underlying he, markStringish, hshape]
      · cases hs
    · cases hs
  · rename_i x0 e h1 h2
    split at hs
    · rename_i he
      split at hs
      · simp only [VR, VR1, CR] at hx
        subst hx
        simp only [Option.some.injEq, Prod.mk.injEq] at hs
        obtain ⟨rfl, rfl⟩ := hs
        exact Fits.pure r (v' := .string .empty) (run_convert_bytes_nil w src e h1 he 0 0 dst h2) ⟨.empty, rfl, rfl⟩
      · obtain ⟨ad, c, rfl, hc⟩ := hx
        simp only [Option.some.injEq, Prod.mk.injEq] at hs
        obtain ⟨rfl, rfl⟩ := hs
        refine Fits.pure r (v' := .string .empty) ?_ ⟨.empty, rfl, rfl⟩
        rw [run_convert_bytes_string w src dst e _ 0 c h1 he h2, run_bytesToString w ad 0 c [] (by simp [loadCells, loadCellsFrom])]
        rfl
      · rename_i b o n s c
        obtain ⟨L, ad, cap, hL, rfl, hat, hn, hcm, hsz, hcc⟩ := hx
        split at hs
        · cases hs
        · rename_i hs1
          simp only [ne_eq, Decidable.not_not] at hs1
          subst hs1
          split at hs
          · rename_i cs hr
            split at hs
            · rename_i l hl
              simp only [Option.some.injEq, Prod.mk.injEq] at hs
              obtain ⟨rfl, rfl⟩ := hs
              obtain ⟨vs, q1, q2, q3⟩ := read_all2 r hr hL
              obtain ⟨ns, g1, g2⟩ := u8_back hl q2
              have hload : (loadCells ad n).run P w = .ok (ns.map (Value.int .u8)).toArray w := by
                by_cases h0 : n = 0
                · subst h0
                  have : vs = [] := List.eq_nil_of_length_eq_zero q1
                  subst this
                  rw [← g1]
                  simp [loadCells, loadCellsFrom]
                · have := hat (by omega)
                  subst this
                  have := run_loadCells_list (P := P) w _ vs q3
                  rw [q1] at this
                  rw [← g1]
                  exact this
              refine Fits.pure r (v' := .string _) (by rw [run_convert_bytes_string w src dst e _ n cap h1 he h2, run_bytesToString w ad n cap ns hload]) ⟨_, rfl, ?_⟩
              rw [foldl_push_bytes]
              simp [ByteArray.empty, ByteArray.emptyWithCapacity, List.map_map]
              rw [← g2]
              rfl
            · cases hs
          · cases hs
      · rename_i n s q c
        simp only [VR, VR1, CR] at hx
        obtain ⟨hq, ad, cap, rfl, hn, hcm, hcc, hcs⟩ := hx
        split at hs
        · cases hs
        · rename_i hs1
          simp only [ne_eq, Decidable.not_not] at hs1
          subst hs1
          split at hs
          · rename_i l hl
            simp only [Option.some.injEq, Prod.mk.injEq] at hs
            obtain ⟨rfl, rfl⟩ := hs
            obtain ⟨vs, q1, q2, q3⟩ := hcs.all2
            obtain ⟨ns, g1, g2⟩ := u8_back hl q2
            have hload : (loadCells ad n).run P w = .ok (ns.map (Value.int .u8)).toArray w := by
              have := run_loadCells_list (P := P) w ad vs (fun j v hj => r.cell (by have := q3 j v hj; rwa [Nat.zero_add] at this))
              rw [show vs.length = n by omega] at this
              rw [← g1]
              exact this
            refine Fits.pure r (v' := .string _) (by rw [run_convert_bytes_string w src dst e _ n cap h1 he h2, run_bytesToString w ad n cap ns hload]) ⟨_, rfl, ?_⟩
            rw [foldl_push_bytes]
            simp [ByteArray.empty, ByteArray.emptyWithCapacity, List.map_map]
            rw [← g2]
            rfl
          · cases hs
      · cases hs
    · cases hs
  · cases hs
theorem len_sound {base : Nat} {φ : Ph} {h : SH} {w : World} (r : HR base φ h w) {x : SV} {a : Value} {n : Nat} {t : TypeId} {d : TypeDesc} (hd : P.underlying t = some d) (hx : VR φ x a) (hs : sLen d h x = some n) (ts : Array TypeId) (ht : ts[0]? = some t) (ty : TypeId) :
    (Builtin.len_ ts ty #[a]).run P w = .ok (.int .i64 n) w := by
  unfold sLen at hs
  split at hs
  · simp only [Option.some.injEq] at hs
    subst hs
    simp only [VR, VR1, CR] at hx
    subst hx
    simp [Builtin.len_, ht, run_underlying hd, goInt]
  · simp only [Option.some.injEq] at hs
    subst hs
    obtain ⟨ad, c, rfl, _⟩ := hx
    simp [Builtin.len_, ht, run_underlying hd, goInt]
  · simp only [Option.some.injEq] at hs
    subst hs
    obtain ⟨L, ad, cap, _, rfl, _⟩ := hx
    simp [Builtin.len_, ht, run_underlying hd, goInt]
  · simp only [Option.some.injEq] at hs
    subst hs
    simp only [VR, VR1, CR] at hx
    obtain ⟨_, ad, cap, rfl, _⟩ := hx
    simp [Builtin.len_, ht, run_underlying hd, goInt]
  · simp only [Option.some.injEq] at hs
    subst hs
    obtain ⟨s, rfl, hl⟩ := hx
    subst hl
    simp only [List.length_map]
    simp [Builtin.len_, ht, run_underlying hd, goInt]
  · simp only [Option.some.injEq] at hs
    subst hs
    simp only [VR, VR1, CR] at hx
    subst hx
    simp [Builtin.len_, ht, run_underlying hd, goInt]
  · rename_i b
    obtain ⟨L, hL, rfl⟩ := hx
    split at hs
    · rename_i es clock hb
      simp only [Option.some.injEq] at hs
      subst hs
      obtain ⟨L', h1, h2, vs, h3, h4⟩ := r.live b _ hb
      rw [hL] at h1
      cases h1
      have := h4.length
      simp only [Array.length_toList] at this
      rw [this]
      have hg : (getObj L.m).run P w = .ok (.map vs clock) w := by simp [getObj, Sem.run, h3]
      simp [Builtin.len_, ht, run_underlying hd, goInt, hg]
    · cases hs
  · cases hs
theorem clear_fits {base : Nat} {φ : Ph} {h h' : SH} {w : World} (r : HR base φ h w) {t e : TypeId} {b o n s : Nat} {c : Option Nat} {z : List SC} {a : Value} (he : elemOf' P t = some e) (hz : zeroOf P e = some z) (hzl : z.length = s) (hs0 : 0 < s) (hx : CR φ (.sl b o n s c) a) (hw : h.write b o (rep z n) = some h') (hn : 0 < n) (ts : Array TypeId) (ht : ts[0]? = some t) (ty : TypeId) :
    ∃ w', (Builtin.clear_ ts ty #[a]).run P w = .ok (.tuple #[]) w' ∧ HR base φ h' w' ∧ Mv φ h w φ h' w' := by
  obtain ⟨L, ad, cap, hL, rfl, hat, hnc, -⟩ := hx
  have := hat (by omega)
  subst this
  obtain ⟨i, zv, hi, hzr, hz⟩ := zero_of hz
  have hsz : zv.cells.size = z.length := by
    have := (hz φ).length
    simp only [Array.length_toList] at this
    omega
  have hv : All2 (CR φ) (rep z n) (Builtin.zeroCells zv.cells n).toList := by
    unfold Builtin.zeroCells
    exact rep_sound (hz φ) n (n * zv.cells.size) (by rw [hsz]) (by omega)
  obtain ⟨w', g1, g2, g3⟩ := write_fits (P := P) r hw hL hv
  refine ⟨w', ?_, g2, g3⟩
  have hn0 : n ≠ 0 := by omega
  obtain ⟨n, rfl⟩ : ∃ k, n = k + 1 := ⟨n - 1, by omega⟩
  simp [Builtin.clear_, ht, run_underlying (elem_of he), run_zero hi hzr, g1]
end Go.Proofs.Ytjlfojgacnphmaa.Sim
