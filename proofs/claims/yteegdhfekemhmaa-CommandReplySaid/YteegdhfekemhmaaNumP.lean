/- Numbers, texts and flags: what was written is read. No program in sight. (The like of parts of BinTight and BinWrites, for programs without layer 1's statements.) -/
import Derived.Test.YteegdhfekemhmaaBinM2
namespace Go.Proofs.Yteegdhfekemhmaa
open Go.RowKit
set_option linter.unusedSimpArgs false
set_option linter.unusedVariables false
def InI64 (n : Int) : Prop := -9223372036854775808 ≤ n ∧ n < 9223372036854775808
/-- What was written is read. -/
theorem rdU_uvar (k : Nat) : ∀ (u i m : Nat) (r : List Int), u < k → i ≤ 9 → u * 128 ^ i < 18446744073709551616 → (0 < i → 0 < u) → rdU i m (uvar u ++ r) = some (m + u * 128 ^ i, r) := by
  induction k with
  | zero => intro u i m r h; omega
  | succ k ih =>
    intro u i m r hu hi h64 hpos
    have hp := Nat.two_pow_pos 1
    have hpp : 0 < 128 ^ i := Nat.pow_pos (by omega)
    by_cases h : 127 < u
    · have hi8 : i + 1 ≤ 9 := by
        rcases Nat.lt_or_ge i 9 with h9 | h9
        · omega
        · obtain rfl : i = 9 := by omega
          have : 128 * 128 ^ 9 ≤ u * 128 ^ 9 := Nat.mul_le_mul_right _ (by omega)
          omega
      rw [uvar_big h]
      simp only [List.cons_append, rdU]
      rw [if_neg (by omega), if_pos (by omega)]
      have h1 : u / 128 * 128 ^ (i + 1) ≤ u * 128 ^ i := by
        rw [Nat.pow_succ, Nat.mul_comm (128 ^ i) 128, ← Nat.mul_assoc]
        exact Nat.mul_le_mul_right _ (Nat.div_mul_le_self u 128)
      rw [ih (u / 128) (i + 1) _ r (by omega) hi8 (by omega) (fun _ => by omega)]
      have h2 : ((u % 128 + 128 : Nat) : Int).toNat % 128 = u % 128 := by omega
      rw [h2]
      have h3 : u / 128 * 128 ^ (i + 1) + u % 128 * 128 ^ i = u * 128 ^ i := by
        rw [Nat.pow_succ, Nat.mul_comm (128 ^ i) 128, ← Nat.mul_assoc, ← Nat.add_mul]
        congr 1
        omega
      congr 2
      omega
    · rw [uvar_small (by omega)]
      simp only [List.cons_append, List.nil_append, rdU]
      have h9 : i = 9 → u ≤ 1 := by
        rintro rfl
        rcases Nat.lt_or_ge u 2 with h | h
        · omega
        · have : 2 * 128 ^ 9 ≤ u * 128 ^ 9 := Nat.mul_le_mul_right _ h
          omega
      rw [if_neg (by omega), if_neg (by omega), if_neg]
      · simp
      · rintro (⟨h1, h2⟩ | ⟨h1, h2⟩)
        · have := hpos h1; omega
        · have := h9 h1; omega
theorem rnum_numB {n : Int} (h0 : -9223372036854775808 ≤ n) (h1 : n < 9223372036854775808) (r : List Int) : rnum (numB n ++ r) = some (n, r) := by
  rw [rnum, numB, rdU_uvar _ (zz n) 0 0 r (Nat.lt_succ_self _) (by omega) (by have := zz_lt h0 h1; simpa using this) (by omega)]
  simp [unzz_zz]
theorem rd_num {n : Int} (h : InI64 n) (r : List Int) : rN (numB n ++ r) = n ∧ rRest (numB n ++ r) = r ∧ rBad (numB n ++ r) false = false := by
  have := rnum_numB h.1 h.2 r
  simp [rN, rRest, rBad, this]
theorem rd_text {b : List Int} (h : b.length ≤ 140737488355328) (r : List Int) : rT (textB b ++ r) = b ∧ rTRest (textB b ++ r) = r ∧ rTBad (textB b ++ r) false = false := by
  have h1 := rnum_numB (n := b.length) (by omega) (by omega) (b ++ r)
  have h2 : rtext (textB b ++ r) = some (b, r) := by
    unfold rtext textB
    rw [List.append_assoc, h1]
    simp
    omega
  simp [rT, rTRest, rTBad, h2]
theorem rd_flag (f : Bool) (r : List Int) : rF (flagB f ++ r) = f ∧ rFRest (flagB f ++ r) = r ∧ rFBad (flagB f ++ r) false = false := by
  cases f <;> exact ⟨rfl, rfl, rfl⟩
theorem wf64' {n : Int} (h : (Lit.int .i64 n).wf = true) : InI64 n := by
  unfold InI64
  simp [Lit.wf, IntKind.min, IntKind.max, IntKind.signed, IntKind.bits] at h
  omega
end Go.Proofs.Yteegdhfekemhmaa
