/- Snapshots as bytes, plain: members, counts, what is read is what was written. No program in sight. -/
import Derived.Test.YteegdhfekemhmaaNumQ
namespace Go.Proofs.Yteegdhfekemhmaa
open Go.RowKit
set_option linter.unusedSimpArgs false
set_option linter.unusedVariables false

theorem rnum_false {xs : List Int} {b : Bool} (h : rBad xs b = false) : b = false ∧ rnum xs = some (rN xs, rRest xs) := by
  unfold rBad at h
  cases hq : rnum xs with
  | none => rw [hq] at h; cases h
  | some p => rw [hq] at h; exact ⟨h, by simp [rN, rRest, hq]⟩
theorem rtext_false {xs : List Int} {b : Bool} (h : rTBad xs b = false) : b = false ∧ rtext xs = some (rT xs, rTRest xs) := by
  unfold rTBad at h
  cases hq : rtext xs with
  | none => rw [hq] at h; cases h
  | some p => rw [hq] at h; exact ⟨h, by simp [rT, rTRest, hq]⟩
theorem rflag_false {xs : List Int} {b : Bool} (h : rFBad xs b = false) : b = false ∧ rflag xs = some (rF xs, rFRest xs) := by
  unfold rFBad at h
  cases hq : rflag xs with
  | none => rw [hq] at h; cases h
  | some p => rw [hq] at h; exact ⟨h, by simp [rF, rFRest, hq]⟩

/-- A count, and what is behind it. -/
def COK (xs : List Int) : Prop := 0 ≤ rN xs ∧ rN xs ≤ (rRest xs).length
instance (xs : List Int) : Decidable (COK xs) := by unfold COK; infer_instance
def cN (xs : List Int) : Nat := if COK xs then (rN xs).toNat else 0
def cRest (xs : List Int) : List Int := if COK xs then rRest xs else []
def cBad (xs : List Int) (b : Bool) : Bool := if COK xs then rBad xs b else true
theorem c_yes {xs : List Int} (h : COK xs) : ((cN xs : Nat) : Int) = rN xs ∧ cRest xs = rRest xs ∧ ∀ b, cBad xs b = rBad xs b := by
  have := h.1
  simp [cN, cRest, cBad, h]; omega
theorem c_no {xs : List Int} (h : ¬ COK xs) : cN xs = 0 ∧ cRest xs = [] ∧ ∀ b, cBad xs b = true := by simp [cN, cRest, cBad, h]
theorem cN_le (xs : List Int) : cN xs ≤ xs.length := by
  unfold cN
  have := rRest_len xs
  split
  · rename_i h; have := h.2; omega
  · omega
theorem cRest_len (xs : List Int) : (cRest xs).length ≤ xs.length := by
  unfold cRest; split
  · exact rRest_len xs
  · simp
/-- Behind j numbers. -/
def nR : Nat → List Int → List Int
  | 0, xs => xs
  | j + 1, xs => rRest (nR j xs)
def nB : Nat → List Int → Bool → Bool
  | 0, _, b => b
  | j + 1, xs, b => rBad (nR j xs) (nB j xs b)
def nL : Nat → List Int → List Int
  | 0, _ => []
  | j + 1, xs => nL j xs ++ [rN (nR j xs)]
theorem nL_len (j : Nat) (xs : List Int) : (nL j xs).length = j := by
  induction j with
  | zero => rfl
  | succ j ih => simp [nL, ih]
theorem nR_len (j : Nat) (xs : List Int) : (nR j xs).length ≤ xs.length := by
  induction j with
  | zero => exact Nat.le_refl _
  | succ j ih => exact Nat.le_trans (rRest_len _) ih
def numsB (l : List Int) : List Int := l.flatMap numB
theorem numsB_snoc (l : List Int) (n : Int) : numsB (l ++ [n]) = numsB l ++ numB n := by simp [numsB]
theorem numsB_cons (l : List Int) (n : Int) : numsB (n :: l) = numB n ++ numsB l := by simp [numsB]
theorem numsB_bytes (l : List Int) : Bytes (numsB l) := by
  intro x hx
  obtain ⟨n, _, hx⟩ := List.mem_flatMap.1 hx
  exact numB_bytes n x hx
theorem numsB_len (l : List Int) (h : ∀ n ∈ l, InI64 n) : l.length ≤ (numsB l).length ∧ (numsB l).length ≤ 10 * l.length := by
  induction l with
  | nil => simp [numsB]
  | cons n l ih =>
    have h1 := ih fun x hx => h x (by simp [hx])
    have h2 := numB_len (h n (by simp)).1 (h n (by simp)).2
    have h3 := numB_pos n
    rw [numsB_cons]
    simp; omega
def confB (l : List Int) : List Int := numB l.length ++ numsB l
theorem confB_bytes (l : List Int) : Bytes (confB l) := (numB_bytes _).app (numsB_bytes _)
/-- Numbers written are read. -/
theorem nums_read (l : List Int) (h : ∀ n ∈ l, InI64 n) (r : List Int) : ∀ j, j ≤ l.length → nL j (numsB l ++ r) = l.take j ∧ nR j (numsB l ++ r) = numsB (l.drop j) ++ r ∧ nB j (numsB l ++ r) false = false := by
  intro j
  induction j with
  | zero => intro _; exact ⟨rfl, rfl, rfl⟩
  | succ j ih =>
    intro hj
    obtain ⟨h1, h2, h3⟩ := ih (by omega)
    have hd : l.drop j = l[j] :: l.drop (j + 1) := List.drop_eq_getElem_cons (by omega)
    have e := rd_num (h l[j] (List.getElem_mem _)) (numsB (l.drop (j + 1)) ++ r)
    rw [nL, nR, nB, h1, h2, h3, hd, numsB_cons, List.append_assoc]
    refine ⟨?_, e.2.1, e.2.2⟩
    rw [e.1, List.take_succ_eq_append_getElem (by omega)]
theorem conf_read (l : List Int) (h : ∀ n ∈ l, InI64 n) (hl : l.length ≤ 1000000) (r : List Int) : cN (confB l ++ r) = l.length ∧ cRest (confB l ++ r) = numsB l ++ r ∧ cBad (confB l ++ r) false = false ∧
    nL l.length (numsB l ++ r) = l ∧ nR l.length (numsB l ++ r) = r ∧ nB l.length (numsB l ++ r) false = false := by
  have e := rd_num (n := l.length) (by unfold InI64; omega) (numsB l ++ r)
  rw [← List.append_assoc] at e
  have hn := (numsB_len l h).1
  have hc : COK (confB l ++ r) := by
    unfold COK confB
    rw [e.1, e.2.1]
    simp; omega
  obtain ⟨h1, h2, h3⟩ := c_yes hc
  obtain ⟨k1, k2, k3⟩ := nums_read l h r l.length (Nat.le_refl _)
  unfold confB at *
  rw [e.1] at h1
  refine ⟨by omega, by rw [h2, e.2.1], by rw [h3, e.2.2], by rw [k1]; simp, by rw [k2]; simp [numsB], k3⟩
/-- Numbers read are what would have been written. -/
theorem nums_inv : ∀ (j : Nat) (xs : List Int) (b : Bool), Bytes xs → nB j xs b = false → b = false ∧ xs = numsB (nL j xs) ++ nR j xs ∧ Bytes (nR j xs) ∧ ∀ n ∈ nL j xs, InI64 n := by
  intro j
  induction j with
  | zero => intro xs b hB h; exact ⟨h, by simp [nL, nR, numsB], hB, by simp [nL]⟩
  | succ j ih =>
    intro xs b hB h
    rw [nB] at h
    obtain ⟨h1, h2⟩ := rnum_false h
    obtain ⟨i1, i2, i3, i4⟩ := ih xs b hB h1
    obtain ⟨k1, k2, k3⟩ := rnum_inv i3 h2
    refine ⟨i1, ?_, k3, ?_⟩
    · rw [nL, nR, numsB_snoc, List.append_assoc, ← k1]
      exact i2
    · intro n hn
      rw [nL] at hn
      rcases List.mem_append.1 hn with hn | hn
      · exact i4 n hn
      · simp at hn; subst hn; exact k2
theorem conf_inv {xs : List Int} {b : Bool} (hB : Bytes xs) (h : nB (cN xs) (cRest xs) (cBad xs b) = false) : b = false ∧ xs = confB (nL (cN xs) (cRest xs)) ++ nR (cN xs) (cRest xs) ∧ Bytes (nR (cN xs) (cRest xs)) ∧ ∀ n ∈ nL (cN xs) (cRest xs), InI64 n := by
  by_cases hc : COK xs
  · obtain ⟨h1, h2, h3⟩ := c_yes hc
    rw [h3, h2] at h
    rw [h2]
    have hb : rBad xs b = false := by
      cases hq : rBad xs b with
      | false => rfl
      | true =>
        exfalso
        rw [hq] at h
        have : ∀ j ys, nB j ys true = true := by
          intro j ys
          induction j with
          | zero => rfl
          | succ j ih => rw [nB, ih]; unfold rBad; split <;> rfl
        rw [this] at h; cases h
    obtain ⟨i1, i2⟩ := rnum_false hb
    obtain ⟨k1, k2, k3⟩ := rnum_inv hB i2
    rw [hb] at h
    obtain ⟨_, j2, j3, j4⟩ := nums_inv _ _ _ k3 h
    refine ⟨i1, ?_, j3, j4⟩
    rw [confB, nL_len, h1, List.append_assoc, ← j2]
    exact k1
  · obtain ⟨h1, h2, h3⟩ := c_no hc
    rw [h1, h2, h3] at h
    cases h

structure SnapD where
  i : Int
  t : Int
  c : List Int
  d : List Int
def SnapD.ok (s : SnapD) : Prop := InI64 s.i ∧ InI64 s.t ∧ (∀ n ∈ s.c, InI64 n) ∧ s.c.length ≤ 1000000 ∧ s.d.length ≤ 1000000 ∧ Bytes s.d
def snapB (s : SnapD) : List Int := numB s.i ++ numB s.t ++ confB s.c ++ textB s.d
theorem snapB_bytes {s : SnapD} (h : s.ok) : Bytes (snapB s) := (((numB_bytes _).app (numB_bytes _)).app (confB_bytes _)).app (textB_bytes h.2.2.2.2.2)
def sx1 (xs : List Int) := rRest xs
def sx2 (xs : List Int) := rRest (sx1 xs)
def sx3 (xs : List Int) := cRest (sx2 xs)
def sx4 (xs : List Int) := nR (cN (sx2 xs)) (sx3 xs)
def sx5 (xs : List Int) := rTRest (sx4 xs)
def sb2 (xs : List Int) := rBad (sx1 xs) (rBad xs false)
def sb3 (xs : List Int) := cBad (sx2 xs) (sb2 xs)
def sb4 (xs : List Int) := nB (cN (sx2 xs)) (sx3 xs) (sb3 xs)
def sb5 (xs : List Int) := rTBad (sx4 xs) (sb4 xs)
def sD (xs : List Int) : SnapD := ⟨rN xs, rN (sx1 xs), nL (cN (sx2 xs)) (sx3 xs), rT (sx4 xs)⟩
def SOK (xs : List Int) : Prop := sb5 xs = false ∧ sx5 xs = []
instance (xs : List Int) : Decidable (SOK xs) := by unfold SOK; infer_instance
theorem snap_read {s : SnapD} (h : s.ok) : SOK (snapB s) ∧ sD (snapB s) = s := by
  obtain ⟨h1, h2, h3, h4, h5, h6⟩ := h
  have e0 : snapB s = numB s.i ++ (numB s.t ++ (confB s.c ++ (textB s.d ++ []))) := by simp [snapB]
  have e1 := rd_num h1 (numB s.t ++ (confB s.c ++ (textB s.d ++ [])))
  have e2 := rd_num h2 (confB s.c ++ (textB s.d ++ []))
  obtain ⟨c1, c2, c3, c4, c5, c6⟩ := conf_read s.c h3 h4 (textB s.d ++ [])
  have e5 := rd_text (b := s.d) (by omega) []
  have x1 : sx1 (snapB s) = numB s.t ++ (confB s.c ++ (textB s.d ++ [])) := by rw [sx1, e0, e1.2.1]
  have x2 : sx2 (snapB s) = confB s.c ++ (textB s.d ++ []) := by rw [sx2, x1, e2.2.1]
  have x3 : sx3 (snapB s) = numsB s.c ++ (textB s.d ++ []) := by rw [sx3, x2, c2]
  have x4 : sx4 (snapB s) = textB s.d ++ [] := by rw [sx4, x2, c1, x3, c5]
  have b2 : sb2 (snapB s) = false := by rw [sb2, x1, e0, e1.2.2, e2.2.2]
  have b3 : sb3 (snapB s) = false := by rw [sb3, x2, b2, c3]
  have b4 : sb4 (snapB s) = false := by rw [sb4, x2, c1, x3, b3, c6]
  refine ⟨⟨by rw [sb5, x4, b4, e5.2.2], by rw [sx5, x4, e5.2.1]⟩, ?_⟩
  rw [sD, x1, x2, c1, x3, c4, x4, e5.1, e2.1, e0, e1.1]
theorem snap_inv {xs : List Int} (hB : Bytes xs) (h : SOK xs) : xs = snapB (sD xs) ∧ InI64 (sD xs).i ∧ InI64 (sD xs).t ∧ (∀ n ∈ (sD xs).c, InI64 n) ∧ Bytes (sD xs).d := by
  obtain ⟨h1, h2⟩ := h
  unfold sb5 at h1
  obtain ⟨i1, i2⟩ := rtext_false h1
  unfold sb4 sx3 sb3 at i1
  have i2' : rtext (sx4 xs) = some (rT (sx4 xs), []) := by rw [i2]; show some (_, sx5 xs) = _; rw [h2]
  by_cases hz : Bytes (sx2 xs)
  · obtain ⟨j1, j2, j3, j4⟩ := conf_inv hz i1
    unfold sb2 at j1
    obtain ⟨k1, k2⟩ := rnum_false j1
    obtain ⟨l1, l2⟩ := rnum_false k1
    obtain ⟨m1, m2, m3⟩ := rnum_inv hB l2
    obtain ⟨n1, n2, n3⟩ := rnum_inv (xs := sx1 xs) m3 k2
    obtain ⟨o1, o2, _⟩ := rtext_inv (xs := sx4 xs) j3 i2'
    refine ⟨?_, m2, n2, j4, o2⟩
    have e4 : sx4 xs = textB (rT (sx4 xs)) := by rw [List.append_nil] at o1; exact o1
    have e2 : sx2 xs = confB (nL (cN (sx2 xs)) (sx3 xs)) ++ sx4 xs := j2
    rw [snapB, sD]
    simp only
    rw [List.append_assoc, ← e4, List.append_assoc, ← e2]
    rw [show numB (rN (sx1 xs)) ++ sx2 xs = sx1 xs from n1.symm]
    exact m1
  · exfalso
    apply hz
    have hbb : ∀ ys : List Int, Bytes ys → Bytes (rRest ys) := by
      intro ys hy
      unfold rRest
      cases hq : rnum ys with
      | none => exact Bytes.nil
      | some p => exact (rnum_inv hy hq).2.2
    exact hbb _ (hbb _ hB)
theorem snapB_inj {s t : SnapD} (hs : s.ok) (ht : t.ok) (h : snapB s = snapB t) : s = t := by
  rw [← (snap_read hs).2, h, (snap_read ht).2]
end Go.Proofs.Yteegdhfekemhmaa
