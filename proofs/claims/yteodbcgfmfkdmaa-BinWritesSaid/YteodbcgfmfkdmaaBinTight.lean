/- Numbers with more bytes than they need; bytes that are cut short. -/
import Derived.Test.YteodbcgfmfkdmaaBinL0
import Derived.Deep.AppendLies
namespace Go.Proofs.Yteodbcgfmfkdmaa
open Go.RowKit

/-- All but the last byte go on. -/
def Goes (l : List Int) : Prop := (∀ j, j + 1 < l.length → 127 < l.getD j 0) ∧ 1 ≤ l.length ∧ 0 ≤ l.getD (l.length - 1) 0 ∧ l.getD (l.length - 1) 0 ≤ 127
theorem uvar_goes (k : Nat) : ∀ u : Nat, u < k → Goes (uvar u) := by
  induction k with
  | zero => intro u h; omega
  | succ k ih =>
    intro u hu
    by_cases h : 127 < u
    · obtain ⟨h1, h2, h3, h4⟩ := ih (u / 128) (by omega)
      rw [uvar_big h]
      refine ⟨fun j hj => ?_, by simp, ?_, ?_⟩
      · cases j with
        | zero => simp; omega
        | succ j =>
          have := h1 j (by simpa using hj)
          simpa [List.getD] using this
      · have e : (((u % 128 + 128 : Nat) : Int) :: uvar (u / 128)).length - 1 = (uvar (u / 128)).length - 1 + 1 := by simp; omega
        rw [e]; simpa [List.getD] using h3
      · have e : (((u % 128 + 128 : Nat) : Int) :: uvar (u / 128)).length - 1 = (uvar (u / 128)).length - 1 + 1 := by simp; omega
        rw [e]; simpa [List.getD] using h4
    · rw [uvar_small (by omega)]
      exact ⟨fun j hj => by simp at hj, by simp, by simp, by simp; omega⟩
theorem numB_goes (n : Int) : Goes (numB n) := uvar_goes _ _ (Nat.lt_succ_self _)
/-- One byte more than it needs. -/
def pad1 (l : List Int) : List Int := l.set (l.length - 1) (l.getD (l.length - 1) 0 + 128) ++ [0]
theorem pad1_len (l : List Int) : (pad1 l).length = l.length + 1 := by simp [pad1]
theorem pad1_goes {l : List Int} (h : Goes l) : Goes (pad1 l) ∧ (pad1 l).getD ((pad1 l).length - 1) 0 = 0 := by
  obtain ⟨h1, h2, h3, h4⟩ := h
  have hlast : (pad1 l).getD ((pad1 l).length - 1) 0 = 0 := by
    rw [pad1_len]
    simp [pad1, List.getD]
  refine ⟨⟨fun j hj => ?_, by rw [pad1_len]; omega, by rw [hlast]; omega, by rw [hlast]; omega⟩, hlast⟩
  rw [pad1_len] at hj
  have hj' : j < l.length := by omega
  simp only [pad1, List.getD, List.getElem?_append, List.length_set, hj', if_true, List.getElem?_set]
  by_cases he : l.length - 1 = j
  · subst he
    simp only [List.getD] at h3
    simp only [if_true, show l.length - 1 < l.length by omega, Option.getD_some]
    omega
  · have := h1 j (by omega)
    simp only [List.getD] at this
    simp [he]
    simpa using this
theorem pad1_bytes {l : List Int} (h : Goes l) (hB : Bytes l) : Bytes (pad1 l) := by
  obtain ⟨h1, h2, h3, h4⟩ := h
  refine Bytes.app ?_ (Bytes.one (by omega) (by omega))
  intro x hx
  rcases List.mem_or_eq_of_mem_set hx with hx | rfl
  · exact hB x hx
  · omega
theorem goes_none {l : List Int} (h : Goes l) (h2 : 2 ≤ l.length) (h0 : l.getD (l.length - 1) 0 = 0) : rdU 0 0 l = none := by
  obtain ⟨h1, _, h3, h4⟩ := h
  by_cases hp : l.length - 1 ≤ 9
  · exact (rdU_at hp (by omega) (fun j hj => h1 j (by omega)) h3 (by omega)).1 (.inr ⟨by omega, h0⟩)
  · exact rdU_none (p := 10) (by omega) (by omega) (fun j hj => h1 j (by omega)) (.inl rfl)
/-- What was written is read. -/
theorem rdU_uvar (k : Nat) : ∀ (u i m : Nat) (r : List Int), u < k → i ≤ 9 → u * 128 ^ i < 18446744073709551616 → (0 < i → 0 < u) → rdU i m (uvar u ++ r) = some (m + u * 128 ^ i, r) := by
  induction k with
  | zero => intro u i m r h; omega
  | succ k ih =>
    intro u i m r hu hi h64 hpos
    have hp := Nat.two_pow_pos 1
    have hpp : 0 < 128 ^ i := Nat.pow_pos (by omega)
    by_cases h : 127 < u
    · have hi8 : i + 1 ≤ 9 := by
        rcases Nat.lt_or_ge i 9 with h9 | h9
        · omega
        · obtain rfl : i = 9 := by omega
          have : 128 * 128 ^ 9 ≤ u * 128 ^ 9 := Nat.mul_le_mul_right _ (by omega)
          omega
      rw [uvar_big h]
      simp only [List.cons_append, rdU]
      rw [if_neg (by omega), if_pos (by omega)]
      have h1 : u / 128 * 128 ^ (i + 1) ≤ u * 128 ^ i := by
        rw [Nat.pow_succ, Nat.mul_comm (128 ^ i) 128, ← Nat.mul_assoc]
        exact Nat.mul_le_mul_right _ (Nat.div_mul_le_self u 128)
      rw [ih (u / 128) (i + 1) _ r (by omega) hi8 (by omega) (fun _ => by omega)]
      have h2 : ((u % 128 + 128 : Nat) : Int).toNat % 128 = u % 128 := by omega
      rw [h2]
      have h3 : u / 128 * 128 ^ (i + 1) + u % 128 * 128 ^ i = u * 128 ^ i := by
        rw [Nat.pow_succ, Nat.mul_comm (128 ^ i) 128, ← Nat.mul_assoc, ← Nat.add_mul]
        congr 1
        omega
      congr 2
      omega
    · rw [uvar_small (by omega)]
      simp only [List.cons_append, List.nil_append, rdU]
      have h9 : i = 9 → u ≤ 1 := by
        rintro rfl
        rcases Nat.lt_or_ge u 2 with h | h
        · omega
        · have : 2 * 128 ^ 9 ≤ u * 128 ^ 9 := Nat.mul_le_mul_right _ h
          omega
      rw [if_neg (by omega), if_neg (by omega), if_neg]
      · simp
      · rintro (⟨h1, h2⟩ | ⟨h1, h2⟩)
        · have := hpos h1; omega
        · have := h9 h1; omega
theorem rnum_numB {n : Int} (h0 : -9223372036854775808 ≤ n) (h1 : n < 9223372036854775808) (r : List Int) : rnum (numB n ++ r) = some (n, r) := by
  rw [rnum, numB, rdU_uvar _ (zz n) 0 0 r (Nat.lt_succ_self _) (by omega) (by have := zz_lt h0 h1; simpa using this) (by omega)]
  simp [unzz_zz]
end Go.Proofs.Yteodbcgfmfkdmaa
