/- Numbers as bytes, plain: what package bin writes and reads. No program in sight. -/
import Derived.Test.YteegdhfekemhmaaOwn
namespace Go.Proofs.Yteegdhfekemhmaa
open Go.RowKit

/-- A natural number in sevens, the lowest first. -/
def uvar (u : Nat) : List Int := if u > 127 then ((u % 128 + 128 : Nat) : Int) :: uvar (u / 128) else [(u : Int)]
termination_by u
decreasing_by omega
theorem uvar_big {u : Nat} (h : 127 < u) : uvar u = ((u % 128 + 128 : Nat) : Int) :: uvar (u / 128) := by
  rw [uvar]; simp [h]
theorem uvar_small {u : Nat} (h : u ≤ 127) : uvar u = [(u : Int)] := by
  rw [uvar]; simp [Nat.not_lt.2 h]
theorem uvar_pos (u : Nat) : 1 ≤ (uvar u).length := by
  by_cases h : 127 < u
  · rw [uvar_big h]; simp
  · rw [uvar_small (by omega)]; simp
theorem uvar_len (k : Nat) : ∀ u : Nat, u < 128 ^ k → (uvar u).length ≤ k ∨ k = 0 := by
  induction k with
  | zero => intro u _; exact .inr rfl
  | succ k ih =>
    intro u hu
    left
    by_cases h : 127 < u
    · rw [uvar_big h]
      have h1 : u / 128 < 128 ^ k := by rw [Nat.div_lt_iff_lt_mul (by omega)]; rwa [Nat.pow_succ] at hu
      rcases ih _ h1 with h2 | h2
      · simp; omega
      · subst h2; simp at h1; omega
    · rw [uvar_small (by omega)]; simp
theorem uvar_len64 {u : Nat} (h : u < 18446744073709551616) : (uvar u).length ≤ 10 := by
  rcases uvar_len 10 u (by omega) with h1 | h1
  · exact h1
  · omega
theorem uvar_bytes (k : Nat) : ∀ u : Nat, u < k → Bytes (uvar u) := by
  induction k with
  | zero => intro u h; omega
  | succ k ih =>
    intro u hu
    by_cases h : 127 < u
    · rw [uvar_big h]
      intro x hx
      rcases List.mem_cons.1 hx with rfl | hx
      · omega
      · exact ih (u / 128) (by omega) x hx
    · rw [uvar_small (by omega)]
      exact Bytes.one (by omega) (by omega)
/-- A number in [-2^63, 2^63) folded into the naturals. -/
def zz (n : Int) : Nat := if 0 ≤ n then (2 * n).toNat else (-2 * n - 1).toNat
theorem zz_lt {n : Int} (h0 : -9223372036854775808 ≤ n) (h1 : n < 9223372036854775808) : zz n < 18446744073709551616 := by
  unfold zz; split <;> omega
def unzz (u : Nat) : Int := if u % 2 = 0 then (u / 2 : Nat) else -1 - (u / 2 : Nat)
theorem unzz_zz (n : Int) : unzz (zz n) = n := by
  unfold unzz zz; split <;> split <;> omega
theorem zz_unzz (u : Nat) : zz (unzz u) = u := by
  unfold unzz zz; split <;> split <;> omega
def numB (n : Int) : List Int := uvar (zz n)
theorem numB_bytes (n : Int) : Bytes (numB n) := uvar_bytes _ _ (Nat.lt_succ_self _)
theorem numB_pos (n : Int) : 1 ≤ (numB n).length := uvar_pos _
theorem numB_len {n : Int} (h0 : -9223372036854775808 ≤ n) (h1 : n < 9223372036854775808) : (numB n).length ≤ 10 := uvar_len64 (zz_lt h0 h1)
def textB (xs : List Int) : List Int := numB xs.length ++ xs
def flagB (f : Bool) : List Int := [if f then 1 else 0]
theorem textB_bytes {xs : List Int} (h : Bytes xs) : Bytes (textB xs) := (numB_bytes _).app h
theorem flagB_bytes (f : Bool) : Bytes (flagB f) := Bytes.one (by split <;> omega) (by split <;> omega)
theorem textB_len {xs : List Int} (h : xs.length ≤ 140737488355328) : (textB xs).length ≤ xs.length + 10 := by
  have := numB_len (n := xs.length) (by omega) (by omega)
  simp [textB]; omega
/-! ### Reading -/
/-- i: which byte; u: what was read so far. -/
def rdU : Nat → Nat → List Int → Option (Nat × List Int)
  | _, _, [] => none
  | i, u, x :: rest => if 10 ≤ i then none else if 127 < x then rdU (i + 1) (u + x.toNat % 128 * 128 ^ i) rest
    else if (0 < i ∧ x = 0) ∨ (i = 9 ∧ 1 < x) then none else some (u + x.toNat * 128 ^ i, rest)
def rnum (xs : List Int) : Option (Int × List Int) := (rdU 0 0 xs).map fun p => (unzz p.1, p.2)
def rN (xs : List Int) : Int := match rnum xs with | some (n, _) => n | none => 0
def rRest (xs : List Int) : List Int := match rnum xs with | some (_, r) => r | none => []
def rBad (xs : List Int) (bad : Bool) : Bool := match rnum xs with | some _ => bad | none => true
theorem rdU_10 (i u : Nat) (xs : List Int) (h : 10 ≤ i) : rdU i u xs = none := by
  cases xs with
  | nil => rfl
  | cons x r => simp [rdU, h]
theorem drop_cons {xs : List Int} {i : Nat} (h : i < xs.length) : xs.drop i = xs.getD i 0 :: xs.drop (i + 1) := by
  rw [List.drop_eq_getElem_cons h]; simp [List.getD, h]
theorem rdU_more {xs : List Int} {i u : Nat} (h : i < xs.length) (h9 : i ≤ 9) (hx : 127 < xs.getD i 0) : rdU i u (xs.drop i) = rdU (i + 1) (u + (xs.getD i 0).toNat % 128 * 128 ^ i) (xs.drop (i + 1)) := by
  rw [drop_cons h, rdU, if_neg (by omega), if_pos hx]
theorem rdU_bad {xs : List Int} {i u : Nat} (h : i < xs.length) (hx : ¬ 127 < xs.getD i 0) (hb : (0 < i ∧ xs.getD i 0 = 0) ∨ (i = 9 ∧ 1 < xs.getD i 0)) : rdU i u (xs.drop i) = none := by
  rw [drop_cons h, rdU, if_neg hx, if_pos hb]; simp
theorem rdU_end {xs : List Int} {i u : Nat} (h : i < xs.length) (h9 : i ≤ 9) (hx : ¬ 127 < xs.getD i 0) (hb : ¬ ((0 < i ∧ xs.getD i 0 = 0) ∨ (i = 9 ∧ 1 < xs.getD i 0))) :
    rdU i u (xs.drop i) = some (u + (xs.getD i 0).toNat * 128 ^ i, xs.drop (i + 1)) := by
  rw [drop_cons h, rdU, if_neg (by omega), if_neg hx, if_neg hb]
/-- What a round adds. -/
theorem add_lt {u i x : Nat} (hu : u < 128 ^ i) (hx : x < 128) : u + x * 128 ^ i < 128 ^ (i + 1) := by
  have h1 : x * 128 ^ i ≤ 127 * 128 ^ i := Nat.mul_le_mul_right _ (by omega)
  have h2 : 128 ^ (i + 1) = 128 * 128 ^ i := by rw [Nat.pow_succ]; omega
  omega
theorem rnum_of {xs : List Int} {r : Option (Nat × List Int)} (h : rdU 0 0 xs = r) : rnum xs = r.map fun p => (unzz p.1, p.2) := by rw [rnum, h]
theorem rN_some {xs rest : List Int} {u : Nat} (h : rdU 0 0 xs = some (u, rest)) : rN xs = unzz u ∧ rRest xs = rest ∧ ∀ b, rBad xs b = b := by
  simp [rN, rRest, rBad, rnum, h]
theorem rN_none {xs : List Int} (h : rdU 0 0 xs = none) : rN xs = 0 ∧ rRest xs = [] ∧ ∀ b, rBad xs b = true := by
  simp [rN, rRest, rBad, rnum, h]
theorem pow_two_seven (i : Nat) : (2 : Int) ^ (7 * i) = ((128 ^ i : Nat) : Int) := by
  rw [Int.pow_mul]; norm_cast
theorem or_step {i m : Nat} {x : Int} (hm : m < 128 ^ i) (h0 : 0 ≤ x) (h1 : x ≤ 255) (h : x.toNat % 128 * 128 ^ i < 18446744073709551616) (hm2 : m < 18446744073709551616) :
    bits .or .u64 (m : Int) (IntKind.u64.wrap (IntKind.u64.wrap (bits .and .u8 x 127) * 2 ^ (7 * i))) = ((m + x.toNat % 128 * 128 ^ i : Nat) : Int) := by
  obtain ⟨y, rfl⟩ := Int.eq_ofNat_of_zero_le h0
  rw [show (127 : Int) = ((127 : Nat) : Int) from rfl, u8_and_nat _ _ (by omega) (by omega), nat_mask7, pow_two_seven]
  simp only [IntKind.wrap_u64, Int.toNat_natCast] at h ⊢
  have e1 : ((y % 128 : Nat) : Int) % 18446744073709551616 * ((128 ^ i : Nat) : Int) = ((y % 128 * 128 ^ i : Nat) : Int) := by
    rw [Int.emod_eq_of_lt (by omega) (by omega)]; simp
  rw [e1, Int.emod_eq_of_lt (by omega) (by omega), bits_or_u64_nat _ _ hm2 h, Nat.or_comm, nat_join (7 * i) _ _ (by rw [Nat.pow_mul]; simp) (by rw [Nat.pow_mul]; exact hm), Nat.add_comm]
theorem pow_le9 {i : Nat} (h : i ≤ 9) : 128 ^ i ≤ 9223372036854775808 := by
  have := Nat.pow_le_pow_right (n := 128) (by omega) h
  omega
theorem pow_le8 {i : Nat} (h : i ≤ 8) : 128 ^ i ≤ 72057594037927936 := by
  have := Nat.pow_le_pow_right (n := 128) (by omega) h
  omega
theorem bits_u64_range (op : BinOp) (x y : Int) : ∃ u : Nat, bits op .u64 x y = (u : Int) ∧ u < 18446744073709551616 := by
  have h : ∃ z, bits op .u64 x y = IntKind.u64.wrap z := by
    unfold bits
    exact ⟨_, rfl⟩
  obtain ⟨z, hz⟩ := h
  rw [hz, IntKind.wrap_u64]
  exact ⟨(z % 18446744073709551616).toNat, by omega, by omega⟩
theorem ofInt_neg1 : (BitVec.ofInt 64 (-1)).toNat = 2 ^ 64 - 1 := by decide
theorem xor_ones (a : Nat) (h : a < 2 ^ 64) : a ^^^ (2 ^ 64 - 1) = 2 ^ 64 - (a + 1) := by
  apply Nat.eq_of_testBit_eq
  intro i
  rw [Nat.testBit_xor, Nat.testBit_two_pow_sub_one, Nat.testBit_two_pow_sub_succ h]
  by_cases hi : i < 64
  · simp [hi]
  · have : a.testBit i = false := Nat.testBit_lt_two_pow (Nat.lt_of_lt_of_le h (Nat.pow_le_pow_right (by omega) (by omega)))
    simp [hi, this]
theorem bits_unzz {u : Nat} (h : u < 18446744073709551616) : bits .xor .i64 ((u : Int) / 2) (wrap64 (-wrap64 (bits .and .u64 (u : Int) 1))) = unzz u := by
  have e1 : bits .and .u64 (u : Int) 1 = ((u % 2 : Nat) : Int) := by
    rw [show (1 : Int) = ((1 : Nat) : Int) from rfl, bits_and_u64_nat _ _ h (by omega), nat_mask1]
  have e2 : (u : Int) / 2 = ((u / 2 : Nat) : Int) := by omega
  have e3 : IntKind.i64.bits = 64 := rfl
  have e4 : (BitVec.ofInt 64 ((u / 2 : Nat) : Int)).toNat = u / 2 := ofInt_u64 _ (by omega)
  rw [e1, e2]
  unfold unzz
  by_cases h2 : u % 2 = 0
  · rw [if_pos h2, h2]
    have e5 : wrap64 (-wrap64 ((0 : Nat) : Int)) = 0 := by unfold wrap64; omega
    rw [e5]
    show IntKind.i64.wrap (((BitVec.ofInt 64 ((u / 2 : Nat) : Int)) ^^^ (BitVec.ofInt 64 0)).toNat : Int) = _
    rw [BitVec.toNat_xor, e4]
    have e6 : (BitVec.ofInt 64 0).toNat = 0 := by decide
    rw [e6, Nat.xor_zero, IntKind.wrap_i64]
    omega
  · rw [if_neg h2, show u % 2 = 1 by omega]
    have e5 : wrap64 (-wrap64 ((1 : Nat) : Int)) = -1 := by unfold wrap64; omega
    rw [e5]
    show IntKind.i64.wrap (((BitVec.ofInt 64 ((u / 2 : Nat) : Int)) ^^^ (BitVec.ofInt 64 (-1))).toNat : Int) = _
    rw [BitVec.toNat_xor, e4, ofInt_neg1]
    rw [xor_ones _ (by omega), IntKind.wrap_i64]
    omega
/-- A text: its length, its bytes. -/
def rtext (xs : List Int) : Option (List Int × List Int) :=
  match rnum xs with
  | some (n, r) => if 0 ≤ n ∧ n ≤ r.length then some (r.take n.toNat, r.drop n.toNat) else none
  | none => none
def rT (xs : List Int) : List Int := match rtext xs with | some (t, _) => t | none => []
def rTRest (xs : List Int) : List Int := match rtext xs with | some (_, r) => r | none => []
def rTBad (xs : List Int) (bad : Bool) : Bool := match rtext xs with | some _ => bad | none => true
def rflag (xs : List Int) : Option (Bool × List Int) := match xs with | x :: r => if x ≤ 1 then some (decide (x = 1), r) else none | [] => none
def rF (xs : List Int) : Bool := match rflag xs with | some (f, _) => f | none => false
def rFRest (xs : List Int) : List Int := match rflag xs with | some (_, r) => r | none => []
def rFBad (xs : List Int) (bad : Bool) : Bool := match rflag xs with | some _ => bad | none => true
theorem rdU_len : ∀ (xs : List Int) (i u : Nat) {v : Nat} {r : List Int}, rdU i u xs = some (v, r) → r.length < xs.length := by
  intro xs
  induction xs with
  | nil => intro i u v r h; simp [rdU] at h
  | cons x xs ih =>
    intro i u v r h
    rw [rdU] at h
    split at h
    · cases h
    · split at h
      · have := ih _ _ h; simp; omega
      · split at h
        · cases h
        · simp at h; rw [← h.2]; simp
theorem rRest_len (xs : List Int) : (rRest xs).length ≤ xs.length := by
  unfold rRest rnum
  cases h : rdU 0 0 xs with
  | none => simp
  | some p => obtain ⟨v, r⟩ := p; have := rdU_len xs 0 0 h; simp; omega
theorem rBad_true {xs : List Int} {bad : Bool} (h : rBad xs bad = true) (hb : bad = false) : rnum xs = none := by
  unfold rBad at h; split at h
  · rw [hb] at h; cases h
  · assumption
theorem rT_none {xs : List Int} (h : rtext xs = none) : rT xs = [] ∧ rTRest xs = [] ∧ ∀ b, rTBad xs b = true := by simp [rT, rTRest, rTBad, h]
theorem rT_some {xs t r : List Int} (h : rtext xs = some (t, r)) : rT xs = t ∧ rTRest xs = r ∧ ∀ b, rTBad xs b = b := by simp [rT, rTRest, rTBad, h]
theorem rF_none {xs : List Int} (h : rflag xs = none) : rF xs = false ∧ rFRest xs = [] ∧ ∀ b, rFBad xs b = true := by simp [rF, rFRest, rFBad, h]
theorem rF_some {xs r : List Int} {f : Bool} (h : rflag xs = some (f, r)) : rF xs = f ∧ rFRest xs = r ∧ ∀ b, rFBad xs b = b := by simp [rF, rFRest, rFBad, h]
end Go.Proofs.Yteegdhfekemhmaa
