/- Replies as bytes, plain. No program in sight. -/
import Derived.Test.YteegdhfekemhmaaSnapP
import Derived.Test.YteegdhfekemhmaaStr
namespace Go.Proofs.Yteegdhfekemhmaa
open Go.RowKit
set_option linter.unusedSimpArgs false
set_option linter.unusedVariables false

/-- Behind j texts. -/
def tR : Nat → List Int → List Int
  | 0, xs => xs
  | j + 1, xs => rTRest (tR j xs)
def tB : Nat → List Int → Bool → Bool
  | 0, _, b => b
  | j + 1, xs, b => rTBad (tR j xs) (tB j xs b)
def tL : Nat → List Int → List ByteArray
  | 0, _ => []
  | j + 1, xs => tL j xs ++ [strOfNums (rT (tR j xs))]
theorem tL_len (j : Nat) (xs : List Int) : (tL j xs).length = j := by
  induction j with
  | zero => rfl
  | succ j ih => simp [tL, ih]
def rowsB (l : List ByteArray) : List Int := l.flatMap fun s => textB (sNums s)
theorem rowsB_snoc (l : List ByteArray) (s : ByteArray) : rowsB (l ++ [s]) = rowsB l ++ textB (sNums s) := by simp [rowsB]
theorem rowsB_cons (l : List ByteArray) (s : ByteArray) : rowsB (s :: l) = textB (sNums s) ++ rowsB l := by simp [rowsB]
theorem rowsB_bytes (l : List ByteArray) : Bytes (rowsB l) := by
  intro x hx
  obtain ⟨s, _, hx⟩ := List.mem_flatMap.1 hx
  exact textB_bytes (sNums_bytes s) x hx
theorem rowsB_len (l : List ByteArray) (m : Nat) (hm : m ≤ 1000000) (h : ∀ s ∈ l, s.size ≤ m) : (rowsB l).length ≤ (m + 10) * l.length := by
  induction l with
  | nil => simp [rowsB]
  | cons s l ih =>
    have h1 := ih fun x hx => h x (by simp [hx])
    have h2 := h s (by simp)
    have h3 := textB_len (xs := sNums s) (by rw [sNums_len]; omega)
    rw [sNums_len] at h3
    rw [rowsB_cons, List.length_append, List.length_cons, Nat.mul_add]
    omega
theorem rows_read (l : List ByteArray) (h : ∀ s ∈ l, s.size ≤ 1000000) (r : List Int) : ∀ j, j ≤ l.length → tL j (rowsB l ++ r) = l.take j ∧ tR j (rowsB l ++ r) = rowsB (l.drop j) ++ r ∧ tB j (rowsB l ++ r) false = false := by
  intro j
  induction j with
  | zero => intro _; exact ⟨rfl, rfl, rfl⟩
  | succ j ih =>
    intro hj
    obtain ⟨h1, h2, h3⟩ := ih (by omega)
    have hd : l.drop j = l[j] :: l.drop (j + 1) := List.drop_eq_getElem_cons (by omega)
    have e := rd_text (b := sNums l[j]) (by rw [sNums_len]; have := h l[j] (List.getElem_mem _); omega) (rowsB (l.drop (j + 1)) ++ r)
    rw [tL, tR, tB, h1, h2, h3, hd, rowsB_cons, List.append_assoc]
    refine ⟨?_, e.2.1, e.2.2⟩
    rw [e.1, strOfNums_sNums, List.take_succ_eq_append_getElem (by omega)]
theorem rows_inv : ∀ (j : Nat) (xs : List Int) (b : Bool), Bytes xs → tB j xs b = false → b = false ∧ xs = rowsB (tL j xs) ++ tR j xs ∧ Bytes (tR j xs) := by
  intro j
  induction j with
  | zero => intro xs b hB h; exact ⟨h, by simp [tL, tR, rowsB], hB⟩
  | succ j ih =>
    intro xs b hB h
    rw [tB] at h
    obtain ⟨h1, h2⟩ := rtext_false h
    obtain ⟨i1, i2, i3⟩ := ih xs b hB h1
    obtain ⟨k1, k2, k3⟩ := rtext_inv i3 h2
    refine ⟨i1, ?_, k3⟩
    rw [tL, tR, rowsB_snoc, sNums_strOfNums k2, List.append_assoc, ← k1]
    exact i2

structure RepD where
  e : Int
  c : Bool
  r : List ByteArray
def RepD.ok (p : RepD) : Prop := 0 ≤ p.e ∧ p.e ≤ 14 ∧ p.r.length ≤ 1000 ∧ ∀ s ∈ p.r, s.size ≤ 1000000
def repB (p : RepD) : List Int := numB p.e ++ flagB p.c ++ numB p.r.length ++ rowsB p.r
theorem repB_bytes (p : RepD) : Bytes (repB p) := (((numB_bytes _).app (flagB_bytes _)).app (numB_bytes _)).app (rowsB_bytes _)
def px1 (xs : List Int) := rRest xs
def px2 (xs : List Int) := rFRest (px1 xs)
def px3 (xs : List Int) := rRest (px2 xs)
def pn (xs : List Int) : Int := rN xs
def pk (xs : List Int) : Int := rN (px2 xs)
def pb2 (xs : List Int) := rFBad (px1 xs) (rBad xs false)
def pb3 (xs : List Int) := rBad (px2 xs) (pb2 xs)
def px4 (xs : List Int) := tR (pk xs).toNat (px3 xs)
def pb4 (xs : List Int) := tB (pk xs).toNat (px3 xs) (pb3 xs)
/-- Do the numbers fit? -/
def PIn (xs : List Int) : Prop := 0 ≤ pn xs ∧ pn xs ≤ 14 ∧ 0 ≤ pk xs ∧ pk xs ≤ 1000
instance (xs : List Int) : Decidable (PIn xs) := by unfold PIn; infer_instance
def pD (xs : List Int) : RepD := ⟨pn xs, rF (px1 xs), tL (pk xs).toNat (px3 xs)⟩
def POK (xs : List Int) : Prop := PIn xs ∧ pb4 xs = false ∧ px4 xs = []
theorem rep_read {p : RepD} (h : p.ok) : POK (repB p) ∧ pD (repB p) = p := by
  obtain ⟨h1, h2, h3, h4⟩ := h
  have e0 : repB p = numB p.e ++ (flagB p.c ++ (numB p.r.length ++ (rowsB p.r ++ []))) := by simp [repB]
  have e1 := rd_num (n := p.e) (by unfold InI64; omega) (flagB p.c ++ (numB p.r.length ++ (rowsB p.r ++ [])))
  have e2 := rd_flag p.c (numB p.r.length ++ (rowsB p.r ++ []))
  have e3 := rd_num (n := p.r.length) (by unfold InI64; omega) (rowsB p.r ++ [])
  obtain ⟨r1, r2, r3⟩ := rows_read p.r h4 [] p.r.length (Nat.le_refl _)
  have x1 : px1 (repB p) = flagB p.c ++ (numB p.r.length ++ (rowsB p.r ++ [])) := by rw [px1, e0, e1.2.1]
  have x2 : px2 (repB p) = numB p.r.length ++ (rowsB p.r ++ []) := by rw [px2, x1, e2.2.1]
  have x3 : px3 (repB p) = rowsB p.r ++ [] := by rw [px3, x2, e3.2.1]
  have n1 : pn (repB p) = p.e := by rw [pn, e0, e1.1]
  have k1 : pk (repB p) = p.r.length := by rw [pk, x2, e3.1]
  have b2 : pb2 (repB p) = false := by rw [pb2, x1, e0, e1.2.2, e2.2.2]
  have b3 : pb3 (repB p) = false := by rw [pb3, x2, b2, e3.2.2]
  refine ⟨⟨⟨by omega, by omega, by omega, by omega⟩, ?_, ?_⟩, ?_⟩
  · rw [pb4, k1, Int.toNat_natCast, x3, b3, r3]
  · rw [px4, k1, Int.toNat_natCast, x3, r2]; simp [rowsB]
  · rw [pD, n1, x1, e2.1, k1, Int.toNat_natCast, x3, r1, List.take_length]
theorem rep_inv {xs : List Int} (hB : Bytes xs) (h : POK xs) : xs = repB (pD xs) ∧ 0 ≤ (pD xs).e ∧ (pD xs).e ≤ 14 ∧ (pD xs).r.length ≤ 1000 := by
  obtain ⟨⟨g1, g2, g3, g4⟩, h1, h2⟩ := h
  have hbb : ∀ ys : List Int, Bytes ys → Bytes (rRest ys) := by
    intro ys hy
    unfold rRest
    cases hq : rnum ys with
    | none => exact Bytes.nil
    | some p => exact (rnum_inv hy hq).2.2
  have hbf : ∀ ys : List Int, Bytes ys → Bytes (rFRest ys) := by
    intro ys hy
    unfold rFRest
    cases hq : rflag ys with
    | none => exact Bytes.nil
    | some p => exact (rflag_inv hy hq).2
  have B1 : Bytes (px1 xs) := hbb _ hB
  have B2 : Bytes (px2 xs) := hbf _ B1
  have B3 : Bytes (px3 xs) := hbb _ B2
  unfold pb4 at h1
  obtain ⟨i1, i2, i3⟩ := rows_inv _ _ _ B3 h1
  unfold pb3 at i1
  obtain ⟨j1, j2⟩ := rnum_false i1
  unfold pb2 at j1
  obtain ⟨k1, k2⟩ := rflag_false j1
  obtain ⟨l1, l2⟩ := rnum_false k1
  obtain ⟨m1, _, _⟩ := rnum_inv hB l2
  obtain ⟨n1, _⟩ := rflag_inv (xs := px1 xs) B1 k2
  obtain ⟨o1, _, _⟩ := rnum_inv (xs := px2 xs) B2 j2
  have hl : (tL (pk xs).toNat (px3 xs)).length = (pk xs).toNat := tL_len _ _
  refine ⟨?_, g1, g2, by show (tL _ _).length ≤ _; omega⟩
  have e3 : px3 xs = rowsB (tL (pk xs).toNat (px3 xs)) := by
    have h2' : tR (pk xs).toNat (px3 xs) = [] := h2
    rw [h2', List.append_nil] at i2
    exact i2
  rw [repB, pD]
  simp only
  rw [hl, show (((pk xs).toNat : Nat) : Int) = rN (px2 xs) by rw [Int.toNat_of_nonneg g3]; rfl, ← e3, List.append_assoc, show numB (rN (px2 xs)) ++ px3 xs = px2 xs from o1.symm, List.append_assoc, show flagB (rF (px1 xs)) ++ px2 xs = px1 xs from n1.symm]
  exact m1
end Go.Proofs.Yteegdhfekemhmaa
