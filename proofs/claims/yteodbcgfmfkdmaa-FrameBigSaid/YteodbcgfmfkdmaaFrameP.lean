/- Seals, plain: what is sealed is opened; a byte changed; cut short. No program in sight. -/
import Derived.Test.YteodbcgfmfkdmaaFrameG
namespace Go.Proofs.Yteodbcgfmfkdmaa
open Go.RowKit

theorem seal_eq {xs : List Int} (h : xs.length ≤ 65536) : sealB xs = four xs.length ++ four (sumB (four xs.length ++ xs)) ++ xs := by rw [sealB, if_pos h]
theorem seal_len {xs : List Int} (h : xs.length ≤ 65536) : (sealB xs).length = 8 + xs.length := by rw [seal_eq h]; simp [four]; omega
theorem seal_bytes {xs : List Int} (hB : Bytes xs) : Bytes (sealB xs) := by
  unfold sealB
  split
  · exact ((four_bytes _).app (four_bytes _)).app hB
  · exact Bytes.nil
theorem take4 (n : Nat) (r : List Int) : (four n ++ r).take 4 = four n := List.take_left' rfl
theorem drop4 (n : Nat) (r : List Int) : (four n ++ r).drop 4 = r := List.drop_left' rfl
theorem drop8 (n m : Nat) (r : List Int) : (four n ++ four m ++ r).drop 8 = r := List.drop_left' rfl
theorem first_seal {xs : List Int} (h : xs.length ≤ 65536) (r : List Int) : firstB (sealB xs ++ r) = some xs := by
  have hlen := seal_len h
  have e1 : getB (sealB xs ++ r) = xs.length := by rw [seal_eq h, List.append_assoc, List.append_assoc, getB_four (by omega)]
  have e2 : getB ((sealB xs ++ r).drop 4) = sumB (four xs.length ++ xs) := by rw [seal_eq h, List.append_assoc, List.append_assoc, drop4, getB_four (sumB_lt _)]
  have e3 : (sealB xs ++ r).take 4 = four xs.length := by rw [seal_eq h, List.append_assoc, List.append_assoc, take4]
  have e4 : ((sealB xs ++ r).drop 8).take xs.length = xs := by rw [seal_eq h, List.append_assoc, drop8, List.take_left' rfl]
  have e5 : (sealB xs ++ r).length = 8 + xs.length + r.length := by simp [hlen]
  unfold firstB
  rw [e1, e2, e3, e4, if_neg (by omega), if_neg (by omega), if_pos rfl]
theorem open_seal {xs : List Int} (h : xs.length ≤ 65536) : openB (sealB xs) = some xs := by
  have := first_seal h []
  rw [List.append_nil] at this
  unfold openB
  rw [this]
  simp [seal_len h]
theorem four_inj {a b : Nat} (ha : a < 4294967296) (hb : b < 4294967296) (h : four a = four b) : a = b := by
  have a1 := getB_four ha []
  have a2 := getB_four hb []
  rw [List.append_nil] at a1 a2
  rw [← a1, ← a2, h]
theorem sumB_inj {xs ys : List Int} (hx : Bytes xs) (hy : Bytes ys) (h : sumB xs = sumB ys) : crc 4294967295 xs = crc 4294967295 ys := by
  have h1 := crc_lt (x := 4294967295) (by omega) hx
  have h2 := crc_lt (x := 4294967295) (by omega) hy
  unfold sumB at h
  omega
theorem set_ne {l : List Int} {k : Nat} {d : Int} (hk : k < l.length) (hne : d ≠ l.getD k 0) : l.set k d ≠ l := by
  intro h
  apply hne
  rw [← h]
  simp [List.getD, hk]
theorem set_app_left {l r : List Int} {k : Nat} {d : Int} (h : k < l.length) : (l ++ r).set k d = l.set k d ++ r := by rw [List.set_append, if_pos h]
theorem set_app_right {l r : List Int} {k : Nat} {d : Int} (h : l.length ≤ k) : (l ++ r).set k d = l ++ r.set (k - l.length) d := by rw [List.set_append, if_neg (by omega)]
theorem getD_app_left {l r : List Int} {k : Nat} (h : k < l.length) : (l ++ r).getD k 0 = l.getD k 0 := by simp [List.getD, List.getElem?_append_left h]
theorem getD_app_right {l r : List Int} {k : Nat} (h : l.length ≤ k) : (l ++ r).getD k 0 = r.getD (k - l.length) 0 := by simp [List.getD, List.getElem?_append_right h]
/-- Of a seal with one byte changed no seal as long is opened. -/
theorem flip_no {xs : List Int} (hB : Bytes xs) (hl : xs.length ≤ 65536) {k : Nat} {d : Int} (hk : k < 8 + xs.length) (h0 : 0 ≤ d) (h1 : d ≤ 255) (hne : d ≠ (sealB xs).getD k 0) {ys : List Int} (hf : firstB ((sealB xs).set k d) = some ys) : ys.length ≠ xs.length := by
  intro hyl
  have hBs : Bytes ((sealB xs).set k d) := by
    intro y hy
    rcases List.mem_or_eq_of_mem_set hy with h | h
    · exact seal_bytes hB y h
    · omega
  have hlen : ((sealB xs).set k d).length = 8 + xs.length := by rw [List.length_set, seal_len hl]
  obtain ⟨_, hg, _⟩ := firstB_len hf
  have h4 := four_getB hBs (by omega)
  have h8 := four_getB (hBs.drop 4) (by simp; rw [seal_len hl]; omega)
  unfold firstB at hf
  rw [if_neg (by omega), ← hg, hyl, if_neg (by omega)] at hf
  rw [← hg, hyl] at h4
  split at hf
  case isFalse => cases hf
  case isTrue hs =>
  have hs4 := congrArg four hs
  rw [h8] at hs4
  injection hf with hf
  rw [hf, ← h4] at hs hs4
  subst hf
  rw [seal_eq hl, List.append_assoc] at hne h4 hs4 hs hyl hg
  generalize hsm : sumB (four xs.length ++ xs) = s at *
  have hslt : s < 4294967296 := by rw [← hsm]; exact sumB_lt _
  by_cases k4 : k < 4
  · rw [set_app_left k4, List.take_left' (by simp [four])] at h4
    rw [getD_app_left k4] at hne
    exact set_ne (l := four xs.length) k4 hne h4.symm
  · rw [getD_app_right (show (four xs.length).length ≤ k from by show 4 ≤ k; omega)] at hne
    rw [set_app_right (show (four xs.length).length ≤ k from by show 4 ≤ k; omega)] at hs4 hs
    rw [show (four xs.length).length = 4 from rfl] at hne hs4 hs
    rw [drop4] at hs4
    by_cases k8 : k - 4 < 4
    · rw [set_app_left (show k - 4 < (four s).length from k8), List.take_left' (by simp [four])] at hs4
      rw [getD_app_left (show k - 4 < (four s).length from k8)] at hne
      rw [← List.append_assoc, List.drop_left' (by simp [four]), List.take_length, hsm] at hs4
      exact set_ne (l := four s) k8 hne hs4
    · rw [getD_app_right (show (four s).length ≤ k - 4 from by show 4 ≤ k - 4; omega)] at hne
      rw [set_app_right (show (four s).length ≤ k - 4 from by show 4 ≤ k - 4; omega)] at hs4
      rw [show (four s).length = 4 from rfl] at hne hs4
      rw [take4, ← List.append_assoc, drop8, List.take_of_length_le (by simp)] at hs4
      have h5 := four_inj hslt (sumB_lt _) hs4
      rw [← hsm] at h5
      have hBx : Bytes (xs.set (k - 4 - 4) d) := by
        intro y hy
        rcases List.mem_or_eq_of_mem_set hy with h | h
        · exact hB y h
        · omega
      have h6 := sumB_inj ((four_bytes _).app hB) ((four_bytes _).app hBx) h5
      rw [crc_append, crc_append] at h6
      exact crc_set hB (crc_lt (x := 4294967295) (by omega) (four_bytes _)) (by omega) h0 h1 hne h6.symm
theorem flip_open {xs : List Int} (hB : Bytes xs) (hl : xs.length ≤ 65536) {k : Nat} {d : Int} (hk : k < 8 + xs.length) (h0 : 0 ≤ d) (h1 : d ≤ 255) (hne : d ≠ (sealB xs).getD k 0) : openB ((sealB xs).set k d) = none := by
  unfold openB
  cases hf : firstB ((sealB xs).set k d) with
  | none => rfl
  | some ys =>
    have := flip_no hB hl hk h0 h1 hne hf
    simp only [List.length_set, seal_len hl]
    rw [if_neg (by omega)]
/-- A seal that was cut short. -/
theorem cut_first {xs : List Int} (hl : xs.length ≤ 65536) {c : Nat} (hc : c < 8 + xs.length) : firstB ((sealB xs).take c) = none := by
  have hlen := seal_len hl
  unfold firstB
  by_cases h8 : c < 8
  · rw [if_pos (by simp; omega)]
  · have hg : getB ((sealB xs).take c) = xs.length := by
      rw [seal_eq hl, List.append_assoc, List.take_append, List.take_of_length_le (by simp [four]; omega), getB_four (by omega)]
    rw [if_neg (by simp; omega), hg, if_pos (by simp; omega)]
theorem cut_open {xs : List Int} (hl : xs.length ≤ 65536) {c : Nat} (hc : c < 8 + xs.length) : openB ((sealB xs).take c) = none := by unfold openB; rw [cut_first hl hc]
theorem cut_scan {xs ys : List Int} (hx : xs.length ≤ 65536) (hl : ys.length ≤ 65536) {c : Nat} (hc : c < 8 + ys.length) : scan (sealB xs ++ (sealB ys).take c) = ([xs], 8 + xs.length) := by
  have h1 := first_seal hx ((sealB ys).take c)
  have h2 : (sealB xs ++ (sealB ys).take c).drop (8 + xs.length) = (sealB ys).take c := List.drop_left' (seal_len hx)
  rw [scan_some h1, h2, scan_none (cut_first hl hc)]
  rfl
theorem sum_check : sumB [49, 50, 51, 52, 53, 54, 55, 56, 57] = 3421780262 := by decide +kernel
end Go.Proofs.Yteodbcgfmfkdmaa
