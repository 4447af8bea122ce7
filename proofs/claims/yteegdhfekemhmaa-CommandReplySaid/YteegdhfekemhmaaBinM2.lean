/- The document's way to read a number, plain: it reads what package bin reads. -/
import Derived.Test.YteegdhfekemhmaaBinM
namespace Go.Proofs.Yteegdhfekemhmaa
open Go.RowKit

/-- Sevens, the lowest first, as a number. -/
def val : List Int → Nat
  | [] => 0
  | x :: r => x.toNat % 128 + 128 * val r
theorem val_snoc (l : List Int) (x : Int) : val (l ++ [x]) = val l + x.toNat % 128 * 128 ^ l.length := by
  induction l with
  | nil => simp [val]
  | cons y l ih =>
    simp only [List.cons_append, val, ih, List.length_cons, Nat.pow_succ, Nat.mul_add]
    have : 128 * (x.toNat % 128 * 128 ^ l.length) = x.toNat % 128 * (128 ^ l.length * 128) := by
      rw [← Nat.mul_assoc, Nat.mul_comm 128, Nat.mul_assoc, Nat.mul_comm 128]
    omega
theorem val_lt (l : List Int) : val l < 128 ^ l.length := by
  induction l with
  | nil => simp [val]
  | cons x l ih => simp only [val, List.length_cons, Nat.pow_succ]; omega
theorem val_take_succ {xs : List Int} {i : Nat} (h : i < xs.length) : val (xs.take (i + 1)) = val (xs.take i) + (xs.getD i 0).toNat % 128 * 128 ^ i := by
  rw [List.take_succ_eq_append_getElem h, val_snoc]
  simp [List.getD, h, Nat.min_eq_left (Nat.le_of_lt h)]
theorem rdU_reach {xs : List Int} {p : Nat} (hp : p ≤ 10) (hl : p ≤ xs.length) (hb : ∀ j, j < p → 127 < xs.getD j 0) : ∀ i, i ≤ p → rdU 0 0 xs = rdU i (val (xs.take i)) (xs.drop i) := by
  intro i
  induction i with
  | zero => intro _; simp [val]
  | succ i ih =>
    intro hi
    rw [ih (by omega), rdU_more (by omega) (by omega) (hb i (by omega)), val_take_succ (by omega)]
theorem rdU_none {xs : List Int} {p : Nat} (hp : p ≤ 10) (hl : p ≤ xs.length) (hb : ∀ j, j < p → 127 < xs.getD j 0) (he : p = 10 ∨ p = xs.length) : rdU 0 0 xs = none := by
  rw [rdU_reach hp hl hb p (Nat.le_refl _)]
  rcases he with rfl | rfl
  · exact rdU_10 _ _ _ (Nat.le_refl _)
  · rw [List.drop_length]; rfl
/-- The bytes from i on, up to k. -/
def mid (xs : List Int) (i k : Nat) : List Int := (xs.take k).drop i
theorem mid_all (xs : List Int) (k : Nat) : mid xs 0 k = xs.take k := by simp [mid]
theorem mid_end (xs : List Int) (k : Nat) (_ : k ≤ xs.length) : mid xs k k = [] := by simp [mid]
theorem mid_cons {xs : List Int} {i k : Nat} (hi : i < k) (hk : k ≤ xs.length) : mid xs i k = xs.getD i 0 :: mid xs (i + 1) k := by
  unfold mid
  rw [List.drop_eq_getElem_cons (by simp; omega)]
  simp [List.getD, show i < xs.length by omega]
theorem mid_len {xs : List Int} {i k : Nat} (hk : k ≤ xs.length) : (mid xs i k).length = k - i := by simp [mid, Nat.min_eq_left hk]
theorem val_mid {xs : List Int} {i k : Nat} (hi : i < k) (hk : k ≤ xs.length) : val (mid xs i k) = val (mid xs (i + 1) k) * 128 + (xs.getD i 0).toNat % 128 := by
  rw [mid_cons hi hk, val]; omega
theorem val_mid_le {xs : List Int} {k : Nat} (hk : k ≤ xs.length) : ∀ d i, i + d ≤ k → val (mid xs (i + d) k) ≤ val (mid xs i k) := by
  intro d
  induction d with
  | zero => intro i _; exact Nat.le_refl _
  | succ d ih =>
    intro i h
    have h1 := ih (i + 1) (by omega)
    have h2 := val_mid (i := i) (k := k) (by omega) hk
    rw [show i + 1 + d = i + (d + 1) by omega] at h1
    omega
/-- What the document's way asks of the last byte. -/
theorem val_ok {xs : List Int} {p : Nat} (hp : p ≤ 9) (hl : p < xs.length) (hx0 : 0 ≤ xs.getD p 0) (hx : ¬ 127 < xs.getD p 0) : val (mid xs 1 (p + 1)) < 144115188075855872 ↔ ¬ (p = 9 ∧ 1 < xs.getD p 0) := by
  rcases Nat.eq_zero_or_pos p with rfl | h0
  · have : mid xs 1 (0 + 1) = [] := mid_end xs 1 (by omega)
    rw [this]; simp [val]
  · have hm : mid xs 1 (p + 1) = mid xs 1 p ++ [xs.getD p 0] := by
      unfold mid
      rw [List.take_succ_eq_append_getElem hl, List.drop_append_of_le_length (by simp; omega)]
      simp [List.getD, hl]
    rw [hm, val_snoc, mid_len (by omega)]
    have hv := val_lt (mid xs 1 p)
    rw [mid_len (by omega)] at hv
    have hmod : (xs.getD p 0).toNat % 128 = (xs.getD p 0).toNat := by omega
    rw [hmod]
    by_cases h9 : p = 9
    · subst h9
      simp only [Nat.reduceSub, Nat.reducePow] at hv ⊢
      constructor
      · intro h ⟨_, h2⟩; omega
      · intro h
        have : ¬ 1 < xs.getD 9 0 := fun h2 => h ⟨trivial, h2⟩
        omega
    · have hpow : 128 ^ (p - 1) ≤ 128 ^ 7 := Nat.pow_le_pow_right (by omega) (by omega)
      have h1 : (xs.getD p 0).toNat * 128 ^ (p - 1) ≤ 127 * 128 ^ (p - 1) := Nat.mul_le_mul_right _ (by omega)
      constructor
      · intro _ ⟨h2, _⟩; exact h9 h2
      · intro _; simp only [Nat.reducePow] at hpow; omega
theorem rdU_at {xs : List Int} {p : Nat} (hp : p ≤ 9) (hl : p < xs.length) (hb : ∀ j, j < p → 127 < xs.getD j 0) (hx0 : 0 ≤ xs.getD p 0) (hx : ¬ 127 < xs.getD p 0) :
    ((¬ val (mid xs 1 (p + 1)) < 144115188075855872 ∨ (0 < p ∧ xs.getD p 0 = 0)) → rdU 0 0 xs = none) ∧
    (val (mid xs 1 (p + 1)) < 144115188075855872 → ¬ (0 < p ∧ xs.getD p 0 = 0) → rdU 0 0 xs = some (val (xs.take (p + 1)), xs.drop (p + 1))) := by
  have hr := rdU_reach (by omega) (by omega) hb p (Nat.le_refl _)
  have hok := val_ok hp hl hx0 hx
  constructor
  · intro h
    rw [hr]
    refine rdU_bad hl hx ?_
    rcases h with h | h
    · right
      by_cases h2 : p = 9 ∧ 1 < xs.getD p 0
      · exact h2
      · exact absurd (hok.2 h2) h
    · exact .inl h
  · intro h1 h2
    rw [hr, rdU_end hl hp hx ?_, val_take_succ hl]
    · have : (xs.getD p 0).toNat % 128 = (xs.getD p 0).toNat := by omega
      rw [this]
    · rintro (h | h)
      · exact h2 h
      · exact hok.1 h1 h
end Go.Proofs.Yteegdhfekemhmaa
