/- The statements of layer 1: one number there and back; what is short. -/
import Derived.Test.YteodbcgfmfkdmaaRefT
namespace Go.Proofs.Yteodbcgfmfkdmaa
open Go.RowKit

theorem numB_m3 : numB (-3) = [5] := by
  rw [numB, show zz (-3) = 5 from rfl, uvar_small (by omega)]; rfl
theorem begun_bytes : [] ++ numB (-3) ++ textB [97, 98] ++ flagB true = [5, 4, 97, 98, 1] := by
  rw [numB_m3, textB, show numB (([97, 98] : List Int).length : Int) = [4] by rw [numB, show zz (([97, 98] : List Int).length : Int) = 4 from rfl, uvar_small (by omega)]; rfl]
  rfl
/-- A row of bytes that was just made. -/
theorem RdB.lit (w : World) (e : TypeId) (xs : List Int) (hm : xs.length ≤ 140737488355328) (hB : Bytes xs) (N : Nat → Prop) (hN : N w.heap.size) (fr : Nat × Nat) : RdB (w.alloc (.cells (u8s xs).toArray e fr)) N (.slice (some ⟨w.heap.size, 0, none⟩) xs.length xs.length) xs := by
  refine RdB.mk hm (Nat.le_refl _) (by omega) (fun _ => hN) (fun j hj => ?_) hB
  rw [cell_of_row _ _ _ _ _ _ (heap_alloc_new w _)]
  simpa using u8s_get xs j hj

set_option maxHeartbeats 400000 in
set_option maxRecDepth 100000 in
theorem begun1_calls (w : World) :
    Calls Try.prog 22 #[] w fun e w' => e = .returned (.bool true) ∧ Below w.heap.size w w' := by
  have hx0 : Ext [1] w (fun _ => 0) (w.alloc (.cells #[.slice none 0 0] 40)) (newcol w (fun _ => 0) 1) := Ext.newc ((Below.refl _ _).alloc (Nat.le_refl _) _) 1
  have hW0 := Wr.new w (fun _ => 0) 1
  go_enter Try.func22, Try.ntmps22
  go_wp2_with fail
  refine (num_calls _ _ 1 _ _ _ hW0 (by simp) (by omega) (by omega)).mono ?_
  rintro e w1 ⟨rfl, col1, hW1, hx1⟩
  have kc := fun (w : World) (C : Array Value) (n c : Nat) => Lib.run_convert_bytes_const (P := Try.prog) w 22 5 C n c Try.underlying22 Try.underlying5
  go_wp2_with fail
  clear kc
  have hl := RdB.lit w1 5 [97, 98] (by simp) (by intro x hx; simp at hx; omega) (Out (newcol w1 col1 0) [1]) (by show newcol w1 col1 0 w1.heap.size ∉ [1]; rw [newcol_new (Nat.le_refl _)]; decide) (2, 3)
  have hxa : Ext [1] w1 col1 (w1.alloc (.cells (u8s [97, 98]).toArray 5 (2, 3))) (newcol w1 col1 0) := Ext.newc ((Below.refl _ _).alloc (Nat.le_refl _) _) 0
  have hxa0 : Ext [] w1 col1 (w1.alloc (.cells (u8s [97, 98]).toArray 5 (2, 3))) (newcol w1 col1 0) := Ext.newc ((Below.refl _ _).alloc (Nat.le_refl _) _) 0
  refine (wtext_calls _ _ 1 _ _ _ [97, 98] (hW1.ext hxa0 (by simp)) hl.1 (by have := numB_len (n := -3) (by omega) (by omega); simp; omega)).mono ?_
  rintro e w2 ⟨rfl, col2, hW2, hx2⟩
  go_wp2_with fail
  refine (wflag_calls _ _ 1 _ _ _ hW2 (by have := numB_len (n := -3) (by omega) (by omega); have := textB_len (xs := [97, 98]) (by simp); simp at this; simp; omega)).mono ?_
  rintro e w3 ⟨rfl, col3, hW3, hx3⟩
  rw [begun_bytes] at hW3
  go_wp2_with fail
  refine (wbytes_calls _ _ 1 _ _ hW3 (by simp)).mono ?_
  rintro e w4 ⟨v4, rfl, hn4⟩
  go_wp2_with fail
  refine (read_calls w4 _ v4 _ (newcol w3 col3 0) 2 hn4.rd.1).mono ?_
  rintro e w5 ⟨b5, col5, rfl, hR5, hx5⟩
  have hx35 := (Ext.newc (S := [1]) (col := col3) hn4.2.2.2 0).trans (hx5.mono (T := [1]) (by simp))
  have hv5 := (hn4.rd.newc col3 0).ext hx5 (by simp)
  have hcv : ∀ W, (∀ b, b < w5.heap.size → col5 b = 0 → W.heap[b]? = w5.heap[b]?) → (convert 22 9 v4).run Try.prog W = .ok (.string ⟨#[5, 4, 97, 98, 1]⟩) W := fun W hW =>
    (RdB.conv (hv5.keeps fun b hb hl => ⟨hW b hl hb, hb⟩) Try.underlying22 Try.underlying5 Try.underlying9).trans rfl
  have hc5 := hcv w5 fun _ _ _ => rfl
  clear hcv
  go_wp2_with fail
  refine (rnum_calls w5 col5 2 b5 _ _ (by omega) hR5).mono ?_
  rintro e w6 ⟨rfl, hR6, hx6⟩
  rw [show rRest [5, 4, 97, 98, 1] = [4, 97, 98, 1] from rfl, show rBad [5, 4, 97, 98, 1] false = false from rfl] at hR6
  rw [show rN [5, 4, 97, 98, 1] = -3 from rfl]
  go_wp2_with fail
  refine (rtext_calls w6 col5 2 b5 _ _ (by omega) hR6).mono ?_
  rintro e w7 ⟨v7, col7, rfl, ⟨hv7, hR7⟩, hx7⟩
  rw [show rTRest [4, 97, 98, 1] = [1] from rfl, show rTBad [4, 97, 98, 1] false = false from rfl] at hR7
  rw [show rT [4, 97, 98, 1] = [97, 98] from rfl] at hv7
  have hc7 : (convert 22 9 v7).run Try.prog w7 = .ok (.string ⟨#[97, 98]⟩) w7 := (RdB.conv hv7 Try.underlying22 Try.underlying5 Try.underlying9).trans rfl
  go_wp2_with fail
  refine (rflag_calls w7 col7 2 b5 _ _ (by omega) hR7).mono ?_
  rintro e w8 ⟨rfl, hR8, hx8⟩
  rw [show rFRest [1] = [] from rfl, show rFBad [1] false = false from rfl] at hR8
  rw [show rF [1] = true from rfl]
  go_wp2_with fail
  refine (rok_calls w8 col7 2 b5 _ _ hR8.1).mono ?_
  rintro e _ ⟨rfl, rfl⟩
  go_wp2_with fail
  refine (rleft_calls w8 col7 2 b5 _ _ hR8.1).mono ?_
  rintro e _ ⟨rfl, rfl⟩
  go_wp2_with fail
  refine (rnum_calls w8 col7 2 b5 _ _ (by omega) hR8).mono ?_
  rintro e w9 ⟨rfl, hR9, hx9⟩
  rw [show rBad [] false = true from rfl] at hR9
  rw [show rN [] = 0 from rfl]
  go_wp2_with fail
  refine (rok_calls w9 col7 2 b5 _ _ hR9.1).mono ?_
  rintro e _ ⟨rfl, rfl⟩
  go_wp2_with fail
  go_ret
  refine ⟨rfl, ?_⟩
  have s12 : ∀ x ∈ [1], x ∈ [1, 2] := by simp
  have t12 : ∀ x ∈ [2], x ∈ [1, 2] := by simp
  have hall : Ext [1, 2] w (fun _ => 0) w9 col7 := (((((((((hx0.trans hx1).trans hxa).trans hx2).trans hx3).trans hx35).mono s12).trans (hx6.mono t12)).trans (hx7.mono t12)).trans (hx8.mono t12)).trans (hx9.mono t12)
  exact hall.below0 (by simp)

theorem RdL.front {w : World} {N : Nat → Prop} {A : Option Addr} {n cap : Nat} {xs : List Int} (h : RdL w N (.slice A n cap) xs) {i : Nat} (hi : i ≤ xs.length) : RdL w N (.slice A i cap) (xs.take i) := by
  have hlen := h.len
  have hl : (xs.take i).length = i := by simp; omega
  refine ⟨?_, h.2.take i⟩
  rw [hl]
  refine ⟨by omega, by simp; omega, by omega, ?_⟩
  rcases h.1.2.2.2 with ⟨h0, hx⟩ | ⟨a, cap1, he, h1, h2, h3, h4⟩
  · simp at h0
    obtain ⟨rfl, rfl, rfl⟩ := h0
    obtain rfl : i = 0 := by omega
    exact .inl ⟨rfl, rfl⟩
  · simp at he
    obtain ⟨rfl, rfl, rfl⟩ := he
    refine .inr ⟨a, _, rfl, by omega, h2, fun hp => h3 (by omega), fun j u hu => h4 j u ?_⟩
    have hj : j < i := by
      rcases Nat.lt_or_ge j i with h | h
      · exact h
      · rw [List.getElem?_eq_none (by simp; omega)] at hu; cases hu
    rw [← hu]
    simp [u8s, List.getElem?_take, hj]
set_option maxHeartbeats 400000 in
theorem short_calls (w : World) (N : Nat → Prop) (v : Value) (xs : List Int) (n : Nat) (hv : RdL w N v xs) (hn : n ≤ 140737488355328) :
    Calls Try.prog 14 #[v, .int .i64 n] w (RetV w fun v' => RdL w N v' (xs.take n)) := by
  obtain ⟨A, cap, rfl, h1, h2⟩ := hv.slice
  have hl := hv.len
  simp only [maxLen] at h2
  by_cases hc : n < xs.length
  · have hf := hv.front (Nat.le_of_lt hc)
    go_enter Try.func14, Try.ntmps14
    go_wp2
    go_ret
    exact RetV.mk rfl hf
  · have Hf : Hid (RdL w N (.slice A xs.length cap) (xs.take n)) := by
      show RdL _ _ _ _
      rw [List.take_of_length_le (by omega)]; exact hv
    go_enter Try.func14, Try.ntmps14
    go_wp2
    go_ret
    exact RetV.mk rfl Hf.out
end Go.Proofs.Yteodbcgfmfkdmaa
