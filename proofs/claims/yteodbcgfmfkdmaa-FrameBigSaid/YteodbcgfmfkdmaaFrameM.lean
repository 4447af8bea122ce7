/- Sums and seals, plain. No program in sight. -/
import Derived.Test.YteodbcgfmfkdmaaOwn
namespace Go.Proofs.Yteodbcgfmfkdmaa
open Go.RowKit

def two32 : Nat := 4294967296
/-- One bit. -/
def step1 (x : Nat) : Nat := if x % 2 = 1 then (x / 2) ^^^ 3988292384 else x / 2
def step8 (x : Nat) : Nat := step1 (step1 (step1 (step1 (step1 (step1 (step1 (step1 x)))))))
def stepN : Nat → Nat → Nat
  | 0, x => x
  | k + 1, x => stepN k (step1 x)
theorem step8_eq (x : Nat) : stepN 8 x = step8 x := rfl
theorem stepN_succ (k x : Nat) : stepN (k + 1) x = step1 (stepN k x) := by
  induction k generalizing x with
  | zero => rfl
  | succ k ih => rw [stepN, ih]; rfl
def crcB (x : Nat) (c : Int) : Nat := step8 (x ^^^ c.toNat)
def crc (x : Nat) (xs : List Int) : Nat := xs.foldl crcB x
theorem crc_append (x : Nat) (a b : List Int) : crc x (a ++ b) = crc (crc x a) b := by simp [crc]
theorem crc_snoc (x : Nat) (a : List Int) (c : Int) : crc x (a ++ [c]) = crcB (crc x a) c := by simp [crc]
theorem step1_lt {x : Nat} (h : x < 4294967296) : step1 x < 4294967296 := by
  unfold step1
  split
  · exact Nat.xor_lt_two_pow (n := 32) (by omega) (by omega)
  · omega
theorem stepN_lt (k : Nat) {x : Nat} (h : x < 4294967296) : stepN k x < 4294967296 := by
  induction k generalizing x with
  | zero => exact h
  | succ k ih => exact ih (step1_lt h)
theorem crcB_lt {x : Nat} {c : Int} (h : x < 4294967296) (h0 : 0 ≤ c) (h1 : c ≤ 255) : crcB x c < 4294967296 := by
  have : x ^^^ c.toNat < 2 ^ 32 := Nat.xor_lt_two_pow (by omega) (by omega)
  exact stepN_lt 8 this
theorem crc_lt {x : Nat} {xs : List Int} (h : x < 4294967296) (hB : Bytes xs) : crc x xs < 4294967296 := by
  induction xs generalizing x with
  | nil => exact h
  | cons c xs ih =>
    have hc := hB c (by simp)
    exact ih (crcB_lt h hc.1 hc.2) (fun y hy => hB y (by simp [hy]))
/-- A bit lost nothing. -/
theorem step1_inj {x y : Nat} (hx : x < 4294967296) (hy : y < 4294967296) (h : step1 x = step1 y) : x = y := by
  have key : ∀ z, z < 4294967296 → (z % 2 = 1 → (step1 z).testBit 31 = true) ∧ (z % 2 = 0 → (step1 z).testBit 31 = false) := by
    intro z hz
    have hb : (z / 2).testBit 31 = false := Nat.testBit_lt_two_pow (by omega)
    constructor
    · intro ho
      rw [step1, if_pos ho, Nat.testBit_xor, hb]
      decide
    · intro ho
      rw [step1, if_neg (by omega)]
      exact hb
  have kx := key x hx
  have ky := key y hy
  rw [h] at kx
  have hpar : x % 2 = y % 2 := by
    rcases Nat.mod_two_eq_zero_or_one x with h1 | h1 <;> rcases Nat.mod_two_eq_zero_or_one y with h2 | h2
    · omega
    · exact absurd ((kx.2 h1).symm.trans (ky.1 h2)) (by decide)
    · exact absurd ((ky.2 h2).symm.trans (kx.1 h1)) (by decide)
    · omega
  have hhalf : x / 2 = y / 2 := by
    unfold step1 at h
    by_cases h1 : x % 2 = 1
    · rw [if_pos h1, if_pos (by omega)] at h
      have := congrArg (· ^^^ 3988292384) h
      simpa [Nat.xor_assoc] using this
    · rw [if_neg h1, if_neg (by omega)] at h
      exact h
  omega
theorem stepN_inj (k : Nat) {x y : Nat} (hx : x < 4294967296) (hy : y < 4294967296) (h : stepN k x = stepN k y) : x = y := by
  induction k generalizing x y with
  | zero => exact h
  | succ k ih => exact step1_inj hx hy (ih (step1_lt hx) (step1_lt hy) h)
theorem xor_cancel {a b c : Nat} (h : a ^^^ c = b ^^^ c) : a = b := by
  have := congrArg (· ^^^ c) h
  simpa [Nat.xor_assoc] using this
theorem crcB_inj {x y : Nat} {c : Int} (hx : x < 4294967296) (hy : y < 4294967296) (h0 : 0 ≤ c) (h1 : c ≤ 255) (h : crcB x c = crcB y c) : x = y := by
  refine xor_cancel (stepN_inj 8 (Nat.xor_lt_two_pow (n := 32) (by omega) (by omega)) (Nat.xor_lt_two_pow (n := 32) (by omega) (by omega)) h)
theorem crcB_inj2 {x : Nat} {c d : Int} (hx : x < 4294967296) (h0 : 0 ≤ c) (h1 : c ≤ 255) (h2 : 0 ≤ d) (h3 : d ≤ 255) (h : crcB x c = crcB x d) : c = d := by
  have h4 : x ^^^ c.toNat = x ^^^ d.toNat := stepN_inj 8 (Nat.xor_lt_two_pow (n := 32) (by omega) (by omega)) (Nat.xor_lt_two_pow (n := 32) (by omega) (by omega)) h
  rw [Nat.xor_comm x, Nat.xor_comm x] at h4
  have := xor_cancel h4
  omega
theorem crc_inj {xs : List Int} (hB : Bytes xs) : ∀ {x y : Nat}, x < 4294967296 → y < 4294967296 → crc x xs = crc y xs → x = y := by
  induction xs with
  | nil => intro x y _ _ h; exact h
  | cons c xs ih =>
    intro x y hx hy h
    have hc := hB c (by simp)
    exact crcB_inj hx hy hc.1 hc.2 (ih (fun z hz => hB z (by simp [hz])) (crcB_lt hx hc.1 hc.2) (crcB_lt hy hc.1 hc.2) h)
/-- One byte changed: another sum. -/
theorem crc_set {xs : List Int} (hB : Bytes xs) {x i : Nat} {d : Int} (hx : x < 4294967296) (hi : i < xs.length) (h0 : 0 ≤ d) (h1 : d ≤ 255) (hne : d ≠ xs.getD i 0) : crc x (xs.set i d) ≠ crc x xs := by
  intro h
  have e1 : xs = xs.take i ++ xs.getD i 0 :: xs.drop (i + 1) := by
    have : xs.getD i 0 = xs[i] := by simp [List.getD, hi]
    rw [this]; simp
  have e2 : xs.set i d = xs.take i ++ d :: xs.drop (i + 1) := by rw [List.set_eq_take_append_cons_drop, if_pos hi]
  have hat := hB.at i
  have hBd := hB.drop (i + 1)
  have hBt := hB.take i
  rw [e2] at h
  conv at h => rhs; rw [e1]
  rw [crc_append, crc_append] at h
  have hlt := crc_lt hx hBt
  have h3 := crc_inj hBd (crcB_lt hlt h0 h1) (crcB_lt hlt hat.1 hat.2) h
  exact hne (crcB_inj2 hlt h0 h1 hat.1 hat.2 h3)
/-- The sum of bytes. -/
def sumB (xs : List Int) : Nat := 4294967295 - crc 4294967295 xs
theorem sumB_lt (xs : List Int) : sumB xs < 4294967296 := by unfold sumB; omega
def four (n : Nat) : List Int := [((n % 256 : Nat) : Int), ((n / 256 % 256 : Nat) : Int), ((n / 65536 % 256 : Nat) : Int), ((n / 16777216 % 256 : Nat) : Int)]
theorem four_bytes (n : Nat) : Bytes (four n) := by
  intro x hx
  simp [four] at hx
  omega
def getB (xs : List Int) : Nat := (xs.getD 0 0).toNat + (xs.getD 1 0).toNat * 256 + (xs.getD 2 0).toNat * 65536 + (xs.getD 3 0).toNat * 16777216
theorem getB_four {n : Nat} (h : n < 4294967296) (r : List Int) : getB (four n ++ r) = n := by simp [getB, four]; omega
theorem four_getB {xs : List Int} (hB : Bytes xs) (h : 4 ≤ xs.length) : four (getB xs) = xs.take 4 := by
  match xs, h with
  | a :: b :: c :: d :: r, _ =>
    have h1 := hB a (by simp)
    have h2 := hB b (by simp)
    have h3 := hB c (by simp)
    have h4 := hB d (by simp)
    simp [four, getB]
    omega
theorem getB_lt {xs : List Int} (hB : Bytes xs) : getB xs < 4294967296 := by
  have h0 := hB.at 0
  have h1 := hB.at 1
  have h2 := hB.at 2
  have h3 := hB.at 3
  unfold getB
  omega
/-- A seal. -/
def sealB (xs : List Int) : List Int := if xs.length ≤ 65536 then four xs.length ++ four (sumB (four xs.length ++ xs)) ++ xs else []
/-- The seal at the beginning. -/
def firstB (xs : List Int) : Option (List Int) :=
  if xs.length < 8 then none
  else if 65536 < getB xs ∨ xs.length - 8 < getB xs then none
  else if getB (xs.drop 4) = sumB (xs.take 4 ++ (xs.drop 8).take (getB xs)) then some ((xs.drop 8).take (getB xs)) else none
def openB (xs : List Int) : Option (List Int) := match firstB xs with | some x => if xs.length = 8 + x.length then some x else none | none => none
theorem firstB_len {xs x : List Int} (h : firstB xs = some x) : 8 + x.length ≤ xs.length ∧ x.length = getB xs ∧ x.length ≤ 65536 := by
  unfold firstB at h
  split at h
  · cases h
  · split at h
    · cases h
    · split at h
      · simp at h; subst h; simp; omega
      · cases h
def scanB (fuel : Nat) (xs : List Int) : List (List Int) × Nat :=
  match fuel with
  | 0 => ([], 0)
  | fuel + 1 => match firstB xs with
    | none => ([], 0)
    | some x => let r := scanB fuel (xs.drop (8 + x.length)); (x :: r.1, 8 + x.length + r.2)
end Go.Proofs.Yteodbcgfmfkdmaa
