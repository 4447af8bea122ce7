/- The statement FrameSeal of layer 2. -/
import Derived.Test.YteodbcgfmfkdmaaFrameL
import Derived.Test.YteodbcgfmfkdmaaFrameS
namespace Go.Proofs.Yteodbcgfmfkdmaa
open Go.RowKit

theorem rseal_new (w : World) (N : Nat → Prop) (v : Value) (xs : List Int) (hv : RdL w N v xs) (hs : xs.length ≤ 65536) :
    Calls Try.prog 19 #[v] w fun e w' => ∃ v', e = .returned v' ∧ NewB 5 w w' v' (sealB xs) := by
  rw [seal_eq hs]; exact rseal_calls w N v xs hv hs

set_option maxHeartbeats 20000000 in
set_option maxRecDepth 100000 in
theorem frameseal_calls (w : World) (v : Value) (xs : List Int) (hv : RdL w (fun _ => True) v xs) :
    Calls Try.prog 3 #[v] w fun e w' => e = .returned (.bool true) ∧ Below w.heap.size w w' := by
  go_enter Try.func3, Try.ntmps3
  go_wp2_with fail
  refine (begun2_calls _).mono ?_
  rintro e w1 ⟨rfl, hb1⟩
  have hv1 := hv.below hb1
  go_wp2_with fail
  refine (short_calls w1 _ _ xs 300 hv1 (by omega)).mono ?_
  rintro e _ ⟨y, rfl, hy, rfl⟩
  have hyl : (xs.take 300).length ≤ 65536 := by simp; omega
  generalize xs.take 300 = ys at hy hyl
  obtain ⟨S, hS, hslen, hso⟩ : ∃ S, sealB ys = S ∧ S.length = 8 + ys.length ∧ openB S = some ys := ⟨_, rfl, seal_len hyl, open_seal hyl⟩
  have HS := Lib.hid hS
  have Ho := Lib.hid hso
  clear hS hso hslen
  go_wp2_with fail
  refine (seal_new _ _ _ ys hy hyl).mono ?_
  rintro e w2 ⟨v2, rfl, hn2⟩
  rw [HS.out] at hn2
  have hF := open_calls w2 _ v2 _ hn2.rd.1
  rw [Ho.out] at hF
  have hy2 := hy.below hn2.2.2.2
  have hb2 := below_then' hb1 hb1.size hn2.2.2.2
  have hr2 := hn2.rd
  obtain ⟨A1, cap1, rfl⟩ := own_slice' hn2.1
  go_wp2_with fail
  refine hF.mono ?_
  rintro e w3 ⟨v3, rfl, hn3⟩
  rw [Option.isSome_some]
  rw [Option.getD_some] at hn3
  have hb3 := below_then' hb2 hb2.size hn3.2.2.2
  have hy3 := hy2.below hn3.2.2.2
  have hr3 := hr2.below hn3.2.2.2
  have hx3 := hn3.rd
  obtain ⟨A3, cap3, rfl⟩ := own_slice' hn3.1
  clear hF hn3 hn2 hb2 hy2 hr2 hy hv1 hb1 hv
  obtain ⟨sS, hsS⟩ : ∃ s, strOfNums S = s := ⟨_, rfl⟩
  obtain ⟨sY, hsY⟩ : ∃ s, strOfNums ys = s := ⟨_, rfl⟩
  have HsS := Lib.hid hsS
  have HsY := Lib.hid hsY
  clear hsS hsY
  go_wp2_with fail
  have Hyd : Hid (RdL w3.drew (fun _ => True) y ys) := hy3.any
  have Hrd : Hid (RdB w3.drew (fun _ => True) (.slice A1 S.length cap1) S) := hr3.any
  have Hxd : Hid (RdB w3.drew (fun _ => True) (.slice A3 ys.length cap3) ys) := hx3.any
  have hk1 := (RdL.conv (P := Try.prog) Hyd.out Try.underlying22 Try.underlying5 Try.underlying9)
  have hk2 := (RdB.conv (P := Try.prog) Hrd.out Try.underlying22 Try.underlying5 Try.underlying9)
  have hk3 := (RdB.conv (P := Try.prog) Hxd.out Try.underlying22 Try.underlying5 Try.underlying9)
  rw [HsY.out] at hk1 hk3
  rw [HsS.out] at hk2
  clear hy3 hr3 hx3
  refine wp_region_noPanic ?_
  refine wp_region_held_drew (S := fun W => (convert 22 9 y).run Try.prog W = .ok (.string sY) W ∧ (convert 22 9 (.slice A1 S.length cap1)).run Try.prog W = .ok (.string sS) W ∧ (convert 22 9 (.slice A3 ys.length cap3)).run Try.prog W = .ok (.string sY) W) (by kernel_rfl) ⟨hk1, hk2, hk3⟩ (fun hH => ?_)
  refine' takeH 0 rfl (by kernel_rfl) (by kernel_rfl) (by kernel_rfl) (fun _ _ _ h => h) (by rfl) (by assumption) ?gya0 ?gra0
  case gya0 => intro W hSW; go_simp; try with_reducible rfl
  try simp only [Act.put, List.setIfInBounds_toArray, List.set_cons_zero, List.set_cons_succ]
  refine' takeH 2 rfl (by kernel_rfl) (by kernel_rfl) (by kernel_rfl) (fun _ _ _ h => h) (by rfl) (by assumption) ?gya2 ?gra2
  case gya2 => intro W hSW; go_simp; try with_reducible rfl
  try simp only [Act.put, List.setIfInBounds_toArray, List.set_cons_zero, List.set_cons_succ]
  refine wpAnyH_ready (rs := [1]) (by kernel_rfl) (by simp) ?_
  refine AllReadyH.cons rfl (fun K hK => ?_) AllReadyH.nil
  go_simp
  refine (sum_calls _ _ _ _ Hyd.out).mono ?_
  rintro e _ ⟨rfl, rfl⟩
  dsimp only
  refine hK.out _ _ hH (fun hH5 => ?_)
  clear hK K hH
  try simp only [Act.put, List.setIfInBounds_toArray, List.set_cons_zero, List.set_cons_succ]
  refine wpAnyH_ready (rs := [3]) (by kernel_rfl) (by simp) ?_
  refine AllReadyH.cons rfl (fun K hK => ?_) AllReadyH.nil
  go_simp
  refine (rsum_calls _ _ _ _ Hyd.out).mono ?_
  rintro e _ ⟨rfl, rfl⟩
  dsimp only
  refine hK.out _ _ hH5 (fun hH => ?_)
  clear hK K hH5
  try simp only [Act.put, List.setIfInBounds_toArray, List.set_cons_zero, List.set_cons_succ]
  refine' takeH 4 rfl (by kernel_rfl) (by kernel_rfl) (by kernel_rfl) (fun _ _ _ h => h) (by rfl) (by assumption) ?gyb4 ?grb4
  case gyb4 => intro W hSW; go_simp; try with_reducible rfl
  try simp only [Act.put, List.setIfInBounds_toArray, List.set_cons_zero, List.set_cons_succ]
  refine' takeH 5 rfl (by kernel_rfl) (by kernel_rfl) (by kernel_rfl) (fun _ _ _ h => h) (by rfl) (by assumption) ?gyb5 ?grb5
  case gyb5 => intro W hSW; go_simp; try with_reducible rfl
  try simp only [Act.put, List.setIfInBounds_toArray, List.set_cons_zero, List.set_cons_succ]
  refine' takeH 6 rfl (by kernel_rfl) (by kernel_rfl) (by kernel_rfl) (fun _ _ _ h => h) (by rfl) (by assumption) ?gyb6 ?grb6
  case gyb6 => intro W hSW; go_simp; try with_reducible rfl
  try simp only [Act.put, List.setIfInBounds_toArray, List.set_cons_zero, List.set_cons_succ]
  refine' takeH 7 rfl (by kernel_rfl) (by kernel_rfl) (by kernel_rfl) (fun _ _ _ h => h) (by rfl) (by assumption) ?gyb7 ?grb7
  case gyb7 => intro W hSW; obtain ⟨hk1, hk2, hk3⟩ := hSW; go_simp; try with_reducible rfl
  try simp only [Act.put, List.setIfInBounds_toArray, List.set_cons_zero, List.set_cons_succ]
  refine' takeH 8 rfl (by kernel_rfl) (by kernel_rfl) (by kernel_rfl) (fun _ _ _ h => h) (by rfl) (by assumption) ?gyb8 ?grb8
  case gyb8 => intro W hSW; go_simp; try with_reducible rfl
  try simp only [Act.put, List.setIfInBounds_toArray, List.set_cons_zero, List.set_cons_succ]
  refine wpAnyH_ready (rs := [9]) (by kernel_rfl) (by simp) ?_
  refine AllReadyH.cons rfl (fun K hK => ?_) AllReadyH.nil
  go_simp
  refine (rseal_new _ _ _ ys Hyd.out hyl).mono ?_
  rintro e w5 ⟨v5, rfl, hn5⟩
  rw [HS.out] at hn5
  have Hyd5 := Lib.hid (Hyd.out.below hn5.2.2.2)
  have hc5 := (RdB.conv (P := Try.prog) hn5.rd Try.underlying22 Try.underlying5 Try.underlying9)
  rw [HsS.out] at hc5
  have hk15 := (RdL.conv (P := Try.prog) Hyd5.out Try.underlying22 Try.underlying5 Try.underlying9)
  rw [HsY.out] at hk15
  have hk25 := (RdB.conv (P := Try.prog) (Hrd.out.below hn5.2.2.2) Try.underlying22 Try.underlying5 Try.underlying9)
  rw [HsS.out] at hk25
  have hk35 := (RdB.conv (P := Try.prog) (Hxd.out.below hn5.2.2.2) Try.underlying22 Try.underlying5 Try.underlying9)
  rw [HsY.out] at hk35
  dsimp only
  refine hK.out _ _ ⟨hk15, hk25, hk35⟩ (fun hH5 => ?_)
  clear hK K hH
  try simp only [Act.put, List.setIfInBounds_toArray, List.set_cons_zero, List.set_cons_succ]
  refine wpAnyH_ready (rs := [10]) (by kernel_rfl) (by simp) ?_
  refine AllReadyH.cons rfl (fun K hK => ?_) AllReadyH.nil
  go_simp
  refine hK.out _ _ hH5 (fun hH6 => ?_)
  clear hK K hH5
  try simp only [Act.put, List.setIfInBounds_toArray, List.set_cons_zero, List.set_cons_succ]
  refine' takeH 11 rfl (by kernel_rfl) (by kernel_rfl) (by kernel_rfl) (fun _ _ _ h => h) (by rfl) (by assumption) ?gyb11 ?grb11
  case gyb11 => intro W hSW; go_simp; try with_reducible rfl
  try simp only [Act.put, List.setIfInBounds_toArray, List.set_cons_zero, List.set_cons_succ]
  refine' takeH 12 rfl (by kernel_rfl) (by kernel_rfl) (by kernel_rfl) (fun _ _ _ h => h) (by rfl) (by assumption) ?gyb12 ?grb12
  case gyb12 => intro W hSW; go_simp; try with_reducible rfl
  try simp only [Act.put, List.setIfInBounds_toArray, List.set_cons_zero, List.set_cons_succ]
  refine' takeH 13 rfl (by kernel_rfl) (by kernel_rfl) (by kernel_rfl) (fun _ _ _ h => h) (by rfl) (by assumption) ?gyb13 ?grb13
  case gyb13 => intro W hSW; go_simp; try with_reducible rfl
  try simp only [Act.put, List.setIfInBounds_toArray, List.set_cons_zero, List.set_cons_succ]
  refine' takeH 14 rfl (by kernel_rfl) (by kernel_rfl) (by kernel_rfl) (fun _ _ _ h => h) (by rfl) (by assumption) ?gyb14 ?grb14
  case gyb14 => intro W hSW; go_simp; try with_reducible rfl
  try simp only [Act.put, List.setIfInBounds_toArray, List.set_cons_zero, List.set_cons_succ]
  refine' takeH 15 rfl (by kernel_rfl) (by kernel_rfl) (by kernel_rfl) (fun _ _ _ h => h) (by rfl) (by assumption) ?gyb15 ?grb15
  case gyb15 => intro W hSW; go_simp; try with_reducible rfl
  try simp only [Act.put, List.setIfInBounds_toArray, List.set_cons_zero, List.set_cons_succ]
  refine' takeH 16 rfl (by kernel_rfl) (by kernel_rfl) (by kernel_rfl) (fun _ _ _ h => h) (by rfl) (by assumption) ?gyb16 ?grb16
  case gyb16 => intro W hSW; go_simp; try with_reducible rfl
  try simp only [Act.put, List.setIfInBounds_toArray, List.set_cons_zero, List.set_cons_succ]
  refine' takeH 17 rfl (by kernel_rfl) (by kernel_rfl) (by kernel_rfl) (fun _ _ _ h => h) (by rfl) (by assumption) ?gyb17 ?grb17
  case gyb17 => intro W hSW; go_simp; try with_reducible rfl
  try simp only [Act.put, List.setIfInBounds_toArray, List.set_cons_zero, List.set_cons_succ]
  refine' takeH 18 rfl (by kernel_rfl) (by kernel_rfl) (by kernel_rfl) (fun _ _ _ h => h) (by rfl) (by assumption) ?gyb18 ?grb18
  case gyb18 => intro W hSW; obtain ⟨hk1, hk2, hk3⟩ := hSW; go_simp; try with_reducible rfl
  try simp only [Act.put, List.setIfInBounds_toArray, List.set_cons_zero, List.set_cons_succ]
  refine' takeH 19 rfl (by kernel_rfl) (by kernel_rfl) (by kernel_rfl) (fun _ _ _ h => h) (by rfl) (by assumption) ?gyb19 ?grb19
  case gyb19 => intro W hSW; go_simp; try with_reducible rfl
  try simp only [Act.put, List.setIfInBounds_toArray, List.set_cons_zero, List.set_cons_succ]
  refine' takeH 20 rfl (by kernel_rfl) (by kernel_rfl) (by kernel_rfl) (fun _ _ _ h => h) (by rfl) (by assumption) ?gyb20 ?grb20
  case gyb20 => intro W hSW; obtain ⟨hk1, hk2, hk3⟩ := hSW; go_simp; try with_reducible rfl
  try simp only [Act.put, List.setIfInBounds_toArray, List.set_cons_zero, List.set_cons_succ]
  refine' takeH 21 rfl (by kernel_rfl) (by kernel_rfl) (by kernel_rfl) (fun _ _ _ h => h) (by rfl) (by assumption) ?gyb21 ?grb21
  case gyb21 => intro W hSW; go_simp; try with_reducible rfl
  try simp only [Act.put, List.setIfInBounds_toArray, List.set_cons_zero, List.set_cons_succ]
  refine' takeH 22 rfl (by kernel_rfl) (by kernel_rfl) (by kernel_rfl) (fun _ _ _ h => h) (by rfl) (by assumption) ?gyb22 ?grb22
  case gyb22 => intro W hSW; go_simp; try with_reducible rfl
  try simp only [Act.put, List.setIfInBounds_toArray, List.set_cons_zero, List.set_cons_succ]
  refine' takeH 23 rfl (by kernel_rfl) (by kernel_rfl) (by kernel_rfl) (fun _ _ _ h => h) (by rfl) (by assumption) ?gyb23 ?grb23
  case gyb23 => intro W hSW; go_simp; try with_reducible rfl
  try simp only [Act.put, List.setIfInBounds_toArray, List.set_cons_zero, List.set_cons_succ]
  refine wpAnyH_done (by kernel_rfl) ?_ _
  refine NoPanic.normal ?_
  go_wp2
  go_ret
  exact ⟨ret_bool (by simp), below_then' hb3 hb3.size (below_undrew (n := 1) hn5.2.2.2)⟩
end Go.Proofs.Yteodbcgfmfkdmaa
