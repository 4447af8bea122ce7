/- What is read is what would have been written: numbers, texts, flags. No program in sight. -/
import Derived.Test.YteegdhfekemhmaaNumP
namespace Go.Proofs.Yteegdhfekemhmaa
open Go.RowKit
set_option linter.unusedSimpArgs false
set_option linter.unusedVariables false

theorem rdU_inv : ∀ (xs : List Int) (i u : Nat) {v : Nat} {r : List Int}, Bytes xs → u < 128 ^ i → rdU i u xs = some (v, r) →
    ∃ m, v = u + m * 128 ^ i ∧ xs = uvar m ++ r ∧ (0 < i → 0 < m) ∧ v < 18446744073709551616 := by
  intro xs
  induction xs with
  | nil => intro i u v r _ _ h; simp [rdU] at h
  | cons x rest ih =>
    intro i u v r hB hu h
    have hx := hB x (by simp)
    have hB' : Bytes rest := fun y hy => hB y (by simp [hy])
    rw [rdU] at h
    by_cases h10 : 10 ≤ i
    · rw [if_pos h10] at h; cases h
    · rw [if_neg h10] at h
      by_cases h127 : 127 < x
      · rw [if_pos h127] at h
        have hlt : u + x.toNat % 128 * 128 ^ i < 128 ^ (i + 1) := add_lt hu (by omega)
        obtain ⟨m, h1, h2, h3, h4⟩ := ih (i + 1) _ hB' hlt h
        have hm := h3 (by omega)
        refine ⟨x.toNat % 128 + 128 * m, ?_, ?_, fun _ => by omega, h4⟩
        · rw [h1, Nat.pow_succ, Nat.add_mul, Nat.mul_comm (128 ^ i) 128, ← Nat.mul_assoc m 128, Nat.mul_comm m 128, Nat.add_assoc]
        · rw [uvar_big (by omega), show (x.toNat % 128 + 128 * m) % 128 + 128 = x.toNat by omega, show (x.toNat % 128 + 128 * m) / 128 = m by omega, h2]
          simp
          omega
      · rw [if_neg h127] at h
        by_cases hb : (0 < i ∧ x = 0) ∨ (i = 9 ∧ 1 < x)
        · rw [if_pos hb] at h; cases h
        · rw [if_neg hb] at h
          simp only [Option.some.injEq, Prod.mk.injEq] at h
          obtain ⟨h1, h2⟩ := h
          refine ⟨x.toNat, h1.symm, ?_, fun hi => ?_, ?_⟩
          · rw [uvar_small (by omega), ← h2]
            simp
            omega
          · have : x ≠ 0 := fun e => hb (.inl ⟨hi, e⟩)
            omega
          · rw [← h1]
            by_cases h9 : i = 9
            · subst h9
              have : ¬ 1 < x := fun e => hb (.inr ⟨rfl, e⟩)
              have h2 : x.toNat * 128 ^ 9 ≤ 1 * 128 ^ 9 := Nat.mul_le_mul_right _ (by omega)
              omega
            · have h8 : i ≤ 8 := by omega
              have h3 := add_lt (x := x.toNat) hu (by omega)
              have h4 := pow_le9 (i := i + 1) (by omega)
              omega
theorem unzz_range {v : Nat} (h : v < 18446744073709551616) : InI64 (unzz v) := by
  unfold InI64 unzz; split <;> omega
theorem rnum_inv {xs r : List Int} {n : Int} (hB : Bytes xs) (h : rnum xs = some (n, r)) : xs = numB n ++ r ∧ InI64 n ∧ Bytes r := by
  unfold rnum at h
  cases hq : rdU 0 0 xs with
  | none => rw [hq] at h; simp at h
  | some p =>
    obtain ⟨v, r'⟩ := p
    rw [hq] at h
    simp only [Option.map_some, Option.some.injEq, Prod.mk.injEq] at h
    obtain ⟨rfl, rfl⟩ := h
    obtain ⟨m, h1, h2, _, h4⟩ := rdU_inv xs 0 0 hB (by simp) hq
    have : m = v := by simp at h1; omega
    subst this
    refine ⟨by rw [numB, zz_unzz]; exact h2, unzz_range h4, fun y hy => hB y (by rw [h2]; simp [hy])⟩
theorem rtext_inv {xs t r : List Int} (hB : Bytes xs) (h : rtext xs = some (t, r)) : xs = textB t ++ r ∧ Bytes t ∧ Bytes r := by
  unfold rtext at h
  cases hq : rnum xs with
  | none => rw [hq] at h; simp at h
  | some p =>
    obtain ⟨n, r'⟩ := p
    rw [hq] at h
    simp only at h
    split at h
    · rename_i hn
      simp only [Option.some.injEq, Prod.mk.injEq] at h
      obtain ⟨rfl, rfl⟩ := h
      obtain ⟨h1, _, h3⟩ := rnum_inv hB hq
      refine ⟨?_, h3.take _, h3.drop _⟩
      have hl : ((r'.take n.toNat).length : Int) = n := by simp; omega
      rw [textB, hl, List.append_assoc, List.take_append_drop]
      exact h1
    · cases h
theorem rflag_inv {xs r : List Int} {f : Bool} (hB : Bytes xs) (h : rflag xs = some (f, r)) : xs = flagB f ++ r ∧ Bytes r := by
  cases xs with
  | nil => simp [rflag] at h
  | cons x l =>
    have hx := hB x (by simp)
    unfold rflag at h
    simp only at h
    split at h
    · simp only [Option.some.injEq, Prod.mk.injEq] at h
      obtain ⟨rfl, rfl⟩ := h
      refine ⟨?_, fun y hy => hB y (by simp [hy])⟩
      unfold flagB
      by_cases h1 : x = 1
      · simp [h1]
      · have : x = 0 := by omega
        simp [this]
    · cases h
theorem numB_inj {a b : Int} {r s : List Int} (ha : InI64 a) (hb : InI64 b) (h : numB a ++ r = numB b ++ s) : a = b ∧ r = s := by
  have h1 := rnum_numB ha.1 ha.2 r
  rw [h, rnum_numB hb.1 hb.2 s] at h1
  simp at h1
  exact ⟨h1.1.symm, h1.2.symm⟩
theorem textB_inj {a b r s : List Int} (ha : a.length ≤ 140737488355328) (hb : b.length ≤ 140737488355328) (h : textB a ++ r = textB b ++ s) : a = b ∧ r = s := by
  unfold textB at h
  rw [List.append_assoc, List.append_assoc] at h
  obtain ⟨h1, h2⟩ := numB_inj (by unfold InI64; omega) (by unfold InI64; omega) h
  exact List.append_inj h2 (by omega)
theorem flagB_inj {a b : Bool} {r s : List Int} (h : flagB a ++ r = flagB b ++ s) : a = b ∧ r = s := by
  unfold flagB at h
  cases a <;> cases b <;> simp at h <;> simp [h]
end Go.Proofs.Yteegdhfekemhmaa
