/- Bytes that are not too many. -/
import Derived.Test.YteegdhfekemhmaaBinW
namespace Go.Proofs.Yteegdhfekemhmaa
open Go.RowKit
set_option linter.unusedSimpArgs false
set_option linter.unusedVariables false

theorem RdL.front {w : World} {N : Nat → Prop} {A : Option Addr} {n cap : Nat} {xs : List Int} (h : RdL w N (.slice A n cap) xs) {i : Nat} (hi : i ≤ xs.length) : RdL w N (.slice A i cap) (xs.take i) := by
  have hlen := h.len
  have hl : (xs.take i).length = i := by simp; omega
  refine ⟨?_, h.2.take i⟩
  rw [hl]
  refine ⟨by omega, by simp; omega, by omega, ?_⟩
  rcases h.1.2.2.2 with ⟨h0, hx⟩ | ⟨a, cap1, he, h1, h2, h3, h4⟩
  · simp at h0
    obtain ⟨rfl, rfl, rfl⟩ := h0
    obtain rfl : i = 0 := by omega
    exact .inl ⟨rfl, rfl⟩
  · simp at he
    obtain ⟨rfl, rfl, rfl⟩ := he
    refine .inr ⟨a, _, rfl, by omega, h2, fun hp => h3 (by omega), fun j u hu => h4 j u ?_⟩
    have hj : j < i := by
      rcases Nat.lt_or_ge j i with h | h
      · exact h
      · rw [List.getElem?_eq_none (by simp; omega)] at hu; cases hu
    rw [← hu]
    simp [u8s, hj]
set_option maxHeartbeats 400000 in
theorem short_calls (w : World) (N : Nat → Prop) (v : Value) (xs : List Int) (n : Nat) (hv : RdL w N v xs) (hn : n ≤ 140737488355328) :
    Calls Try.prog 26 #[v, .int .i64 n] w (RetV w fun v' => RdL w N v' (xs.take n)) := by
  obtain ⟨A, cap, rfl, h1, h2⟩ := hv.slice
  have hl := hv.len
  simp only [maxLen] at h2
  by_cases hc : n < xs.length
  · have hf := hv.front (Nat.le_of_lt hc)
    go_enter Try.func26, Try.ntmps26
    go_wp2
    go_ret
    exact RetV.mk rfl hf
  · have Hf : Hid (RdL w N (.slice A xs.length cap) (xs.take n)) := by
      show RdL _ _ _ _
      rw [List.take_of_length_le (by omega)]; exact hv
    go_enter Try.func26, Try.ntmps26
    go_wp2
    go_ret
    exact RetV.mk rfl Hf.out
end Go.Proofs.Yteegdhfekemhmaa
