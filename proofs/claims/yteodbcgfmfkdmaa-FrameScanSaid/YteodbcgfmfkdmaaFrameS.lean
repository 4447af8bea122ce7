/- The reference's seals, one behind the other. -/
import Derived.Test.YteodbcgfmfkdmaaFrameR
import Derived.Test.YteodbcgfmfkdmaaReg
import Derived.IntWalk
import Derived.Lib.SlicesS
import Derived.Deep.RegionHeld3
namespace Go.Proofs.Yteodbcgfmfkdmaa
open Go.RowKit

theorem RdB.sub {w : World} {N : Nat → Prop} {b o cap : Nat} {xs : List Int} (h : RdB w N (.slice (some ⟨b, o, none⟩) xs.length cap) xs) {i g : Nat} (hi : i + g ≤ xs.length) (o2 cap2 : Nat) (hc : cap2 ≤ 9223372036854775807)
    (hq : g = 0 ∨ (g ≤ cap2 ∧ (i < xs.length → o2 = o + i))) : RdL w N (.slice (some ⟨b, o2, none⟩) g cap2) ((xs.drop i).take g) := by
  rcases hq with rfl | ⟨q1, q3⟩
  · rw [List.take_zero]
    exact ⟨⟨by omega, by simp, by simp, .inr ⟨_, _, rfl, by simp, by simpa [maxLen] using hc, fun h => by simp at h, fun j u hu => by simp [u8s] at hu⟩⟩, Bytes.nil⟩
  · have q5 := h.cut (i := i) (by omega) b o2 (xs.length - i) (max cap2 (xs.length - i)) rfl (by omega) (by have := h.len; omega) (fun hp => ⟨rfl, q3 hp⟩)
    exact ((q5.front (i := g) (by simp; omega)).recap cap2 q1 hc).1

/-- The first seal, told by the seal that its bytes would have. -/
theorem first_iff {zs : List Int} (hB : Bytes zs) (hl : 8 + getB zs ≤ zs.length) (hg : getB zs ≤ 65536) :
    firstB zs = if four (getB zs) ++ four (sumB (four (getB zs) ++ (zs.drop 8).take (getB zs))) ++ (zs.drop 8).take (getB zs) = zs.take (8 + getB zs) then some ((zs.drop 8).take (getB zs)) else none := by
  have h4 := four_getB hB (by omega)
  have hd := four_getB (hB.drop 4) (by simp; omega)
  unfold firstB
  rw [if_neg (by omega), if_neg (by omega), h4]
  generalize getB zs = g at *
  have e : zs.take (8 + g) = zs.take 4 ++ (zs.drop 4).take 4 ++ (zs.drop 8).take g := by
    rw [show 8 + g = 4 + (4 + g) by omega, List.take_add, List.take_add (l := zs.drop 4), List.drop_drop, List.append_assoc]
  by_cases h : getB (zs.drop 4) = sumB (zs.take 4 ++ (zs.drop 8).take g)
  · rw [if_pos h, if_pos]
    rw [e, ← hd, h]
  · rw [if_neg h, if_neg]
    intro k
    rw [e] at k
    have k2 := List.append_cancel_right k
    have k3 := List.append_cancel_left k2
    apply h
    have k4 := congrArg getB k3
    rw [← hd] at k4
    have a1 := getB_four (sumB_lt (zs.take 4 ++ (zs.drop 8).take g)) []
    have a2 := getB_four (getB_lt (hB.drop 4)) []
    rw [List.append_nil] at a1 a2
    rw [a1, a2] at k4
    exact k4.symm

theorem below_undrew {w W : World} {n : Nat} (h : Below (w.drewN n).heap.size (w.drewN n) W) : Below w.heap.size w W := ⟨h.os, h.tape, h.output, h.size, h.block⟩
set_option maxHeartbeats 4000000 in
set_option maxRecDepth 100000 in
theorem rscan_calls (w : World) (N : Nat → Prop) (v : Value) (xs : List Int) (hv : RdB w N v xs) (hs : xs.length ≤ 1000000) :
    Calls Try.prog 21 #[v] w (ScanPost w (scan xs)) := by
  have Hs := Lib.hid (show scan xs = ([] ++ (scan (xs.drop 0)).1, 0 + (scan (xs.drop 0)).2) by simp)
  obtain ⟨_, ⟨rfl, rfl⟩ | ⟨b, o, cap, rfl, h1, h2, h3, h4⟩⟩ := hv.form
  · have Hn := Lib.hid (scan_none (xs := []) rfl)
    go_enter Try.func21, Try.ntmps21
    go_wp2_with fail
    refine wp_loop_rounds 1 ?_
    rw [rounds_succ]
    go_wp2
    go_ret2
    rw [Hn.out]
    exact ScanPost.mk rfl ((OwL.nil w (fun _ => 0)).rd (by simp)) (Below.refl _ _)
  · have hv0 : RdB w (In (fun _ => 0) 0) (.slice (some ⟨b, o, none⟩) xs.length cap) xs := hv.weaken fun _ _ _ => rfl
    have Hv0 := Lib.hid hv0
    have HB := Lib.hid hv.1.2
    clear hv hv0 h3 h4
    go_enter Try.func21, Try.ntmps21
    go_wp2_with fail
    go_loopw [4, 5] (fun l a wr => ∃ (j : Nat) (acc : List (List Int)) (col : Col), a = .int .i64 j ∧ j ≤ xs.length ∧ acc.length ≤ j ∧ OwL wr col l acc ∧ Ext [1] w (fun _ => 0) wr col ∧ Hid (scan xs = (acc ++ (scan (xs.drop j)).1, j + (scan (xs.drop j)).2))) (fun _ a _ => xs.length - (intOf a).toNat)
    case atStart => exact ⟨0, [], _, rfl, by omega, by simp, OwL.nil _ _, Ext.refl _ _ _, Hs⟩
    case round =>
      obtain ⟨j, acc, col, rfl, hj, haj, hO, hx, Hsc⟩ := hrel
      have Hvr := Lib.hid (Hv0.out.ext hx (by simp))
      by_cases h8 : j + 8 ≤ xs.length
      · obtain ⟨_, ⟨h0, _⟩ | ⟨b1, o1, cap1, he, _, _, _, hcell⟩⟩ := Hvr.out.form
        · cases h0
        simp at he
        obtain ⟨⟨rfl, rfl⟩, rfl⟩ := he
        have c0 := hcell j (by omega)
        have c1 := hcell (j + 1) (by omega)
        have c2 := hcell (j + 2) (by omega)
        have c3 := hcell (j + 3) (by omega)
        have r0 := HB.out.at j
        have r1 := HB.out.at (j + 1)
        have r2 := HB.out.at (j + 2)
        have r3 := HB.out.at (j + 3)
        have HG := Lib.hid (show ((xs.getD j 0).toNat : Int) + (xs.getD (j + 1) 0).toNat * 256 + (xs.getD (j + 2) 0).toNat * 65536 + (xs.getD (j + 3) 0).toNat * 16777216 = ((getB (xs.drop j) : Nat) : Int) by
          have e : getB (xs.drop j) = (xs.getD j 0).toNat + (xs.getD (j + 1) 0).toNat * 256 + (xs.getD (j + 2) 0).toNat * 65536 + (xs.getD (j + 3) 0).toNat * 16777216 := (by simp only [getB, getD_drop, Nat.add_zero]); rw [e]; omega)
        have hglt := getB_lt (HB.out.drop j)
        clear hcell
        generalize xs.getD j 0 = x0 at c0 r0 HG
        generalize xs.getD (j + 1) 0 = x1 at c1 r1 HG
        generalize xs.getD (j + 2) 0 = x2 at c2 r2 HG
        generalize xs.getD (j + 3) 0 = x3 at c3 r3 HG
        obtain ⟨y0, rfl⟩ := Int.eq_ofNat_of_zero_le r0.1
        obtain ⟨y1, rfl⟩ := Int.eq_ofNat_of_zero_le r1.1
        obtain ⟨y2, rfl⟩ := Int.eq_ofNat_of_zero_le r2.1
        obtain ⟨y3, rfl⟩ := Int.eq_ofNat_of_zero_le r3.1
        simp only [Int.toNat_natCast] at HG
        have HB2 := Lib.hid (first_iff (HB.out.drop j))
        have hdl : (xs.drop j).length = xs.length - j := List.length_drop
        have Hnone := Lib.hid (show (65536 < getB (xs.drop j) ∨ xs.length < j + 8 + getB (xs.drop j)) → firstB (xs.drop j) = none by
          intro h; unfold firstB; rw [if_neg (by omega), if_pos (by omega)])
        obtain ⟨g, hg⟩ : ∃ g, getB (xs.drop j) = g := ⟨_, rfl⟩
        rw [hg] at HG HB2 Hnone hglt
        clear hg
        go_wp2_with fail
        go_quiet (fail)
        rw [HG.out]
        by_cases hbad : 65536 < g ∨ xs.length < j + 8 + g
        · have Hend := Lib.hid (scan_end Hsc.out (Hnone.out hbad))
          clear c0 c1 c2 c3 r0 r1 r2 r3
          by_cases hbig : 65536 < g
          · have d1 : decide ((65536 : Int) < (g : Int)) = true := by simp; omega
            go_wp2_with fail
            go_quiet (fail)
            go_wp2
            go_ret2
            rw [Hend.out]
            exact ScanPost.mk rfl (hO.rd (by omega)) (((hx.drewN _).drewN _).below0 (by simp))
          · have d1 : decide ((65536 : Int) < (g : Int)) = false := by simp; omega
            have d2 : decide ((xs.length : Int) < (j : Int) + 8 + (g : Int)) = true := by simp; omega
            go_wp2_with fail
            go_quiet (fail)
            go_wp2
            go_ret2
            rw [Hend.out]
            exact ScanPost.mk rfl (hO.rd (by omega)) (((hx.drewN _).drewN _).below0 (by simp))
        · have d1 : decide ((65536 : Int) < (g : Int)) = false := by simp; omega
          have d2 : decide ((xs.length : Int) < (j : Int) + 8 + (g : Int)) = false := by simp; omega
          have hg1 : g ≤ 65536 := by omega
          have hg2 : j + 8 + g ≤ xs.length := by omega
          clear hbad
          go_wp2_with fail
          have hvd : RdB (wr.drewN (nq + 1)) (In col 0) _ xs := Hvr.out
          have Hvd := Lib.hid hvd
          clear hvd c0 c1 c2 c3 r0 r1 r2 r3
          have Hsl := Lib.hid (fun (W : World) (N : Nat → Prop) (h : RdB W N (.slice (some ⟨b, o, none⟩) xs.length cap) xs) (o2 c2 : Nat) k1 k2 => h.sub (i := j + 8) (g := g) (by omega) o2 c2 k1 k2)
          obtain ⟨sA, hsA⟩ : ∃ s, strOfNums (four ((xs.drop (j + 8)).take g).length ++ four (sumB (four ((xs.drop (j + 8)).take g).length ++ (xs.drop (j + 8)).take g)) ++ (xs.drop (j + 8)).take g) = s := ⟨_, rfl⟩
          obtain ⟨sB, hsB⟩ : ∃ s, strOfNums ((xs.drop j).take (8 + g)) = s := ⟨_, rfl⟩
          obtain ⟨bb, hbb⟩ : ∃ bb, (sA.toList == sB.toList) = bb := ⟨_, rfl⟩
          have Hfirst := Lib.hid (show firstB (xs.drop j) = if bb then some ((xs.drop (j + 8)).take g) else none by
            have h1 := HB2.out (by omega) hg1
            have hlg : ((xs.drop (j + 8)).take g).length = g := by simp; omega
            rw [List.drop_drop, ← hlg] at h1
            rw [hlg] at h1
            rw [h1]
            rw [hlg] at hsA
            have hiff : (bb = true) ↔ (four g ++ four (sumB (four g ++ (xs.drop (j + 8)).take g)) ++ (xs.drop (j + 8)).take g = (xs.drop j).take (8 + g)) := by
              rw [← hbb, Go.Lib.bytes_beq_iff, ← hsA, ← hsB]
              exact ⟨strOfNums_inj (((four_bytes _).app (four_bytes _)).app ((HB.out.drop _).take _)) ((HB.out.drop _).take _), fun h => by rw [h]⟩
            by_cases hb : bb = true
            · rw [if_pos (hiff.1 hb), if_pos hb]
            · rw [if_neg (fun h => hb (hiff.2 h)), if_neg hb])
          have HsA := Lib.hid hsA
          have HsB := Lib.hid hsB
          have Hbb := Lib.hid hbb
          clear hsA hsB hbb
          have Hlen := Lib.hid (show ((xs.drop (j + 8)).take g).length ≤ 65536 by simp; omega)
          have Hcx := Lib.hid (fun (W : World) (h : RdB W (In col 0) (.slice (some ⟨b, o, none⟩) xs.length cap) xs) (c2 : Nat) (k1 : 8 + g ≤ c2) (k2 : c2 ≤ 9223372036854775807) => (show (convert 22 9 (.slice (some ⟨b, o + j, none⟩) (j + 8 + g - j) c2)).run Try.prog W = .ok (.string sB) W from by
            rw [← HsB.out]
            rw [show j + 8 + g - j = 8 + g by omega]
            exact RdL.conv (h.sub (i := j) (g := 8 + g) (by omega) _ _ k2 (.inr ⟨k1, fun _ => rfl⟩)) Try.underlying22 Try.underlying5 Try.underlying9))
          by_cases hcap : cap = j + 8
          · have Hg0 := Lib.hid (show g = 0 by omega)
            have Hcy := Lib.hid (fun W h => Hcx.out W h 8 (by omega) (by omega))
            subst hcap
            have hcx := Hcy.out _ Hvd.out
            have w1 : IntKind.i64.wrap ((j : Int) + 8) = (j : Int) + 8 := IntWalk.i64_in _ (by omega)
            have w2 : IntKind.i64.wrap ((j : Int) + 8 + (g : Int)) = (j : Int) + 8 + (g : Int) := IntWalk.i64_in _ (by omega)
            have q1 : (0 : Int) ≤ (j : Int) + 8 := by omega
            have q2 : (0 : Int) ≤ (j : Int) + 8 + (g : Int) := by omega
            have q3 : (j : Int) + 8 + (g : Int) ≤ (j : Int) + 8 := by have := Hg0.out; omega
            have q4 : (j : Int) + 8 ≤ (j : Int) + 8 + (g : Int) := by omega
            have q5 : (j : Int) ≤ (j : Int) + 8 + (g : Int) := by omega
            have q6 : (0 : Int) ≤ (j : Int) := by omega
            have q7 : ((j : Int) + 8).toNat = j + 8 := by omega
            have q8 : ((j : Int) + 8 + (g : Int)).toNat = j + 8 + g := by omega
            refine wp_region_noPanic ?_
            refine wp_region_held_drew (S := fun W => (convert 22 9 (.slice (some ⟨b, o + j, none⟩) (j + 8 + g - j) (8))).run Try.prog W = .ok (.string sB) W) (by kernel_rfl) hcx (fun hH => ?_)
            refine' takeH 0 rfl (by kernel_rfl) (by kernel_rfl) (by kernel_rfl) (fun _ _ _ h => h) (by rfl) (by assumption) ?gya0 ?gra0
            case gya0 => intro W hSW; go_simp; try with_reducible rfl
            try simp only [Act.put, List.setIfInBounds_toArray, List.set_cons_zero, List.set_cons_succ]
            refine' takeH 1 rfl (by kernel_rfl) (by kernel_rfl) (by kernel_rfl) (fun _ _ _ h => h) (by rfl) (by assumption) ?gya1 ?gra1
            case gya1 => intro W hSW; go_simp; try with_reducible rfl
            try simp only [Act.put, List.setIfInBounds_toArray, List.set_cons_zero, List.set_cons_succ]
            refine' takeH 2 rfl (by kernel_rfl) (by kernel_rfl) (by kernel_rfl) (fun _ _ _ h => h) (by rfl) (by assumption) ?gya2 ?gra2
            case gya2 => intro W hSW; go_simp; try with_reducible rfl
            try simp only [Act.put, List.setIfInBounds_toArray, List.set_cons_zero, List.set_cons_succ]
            refine' takeH 3 rfl (by kernel_rfl) (by kernel_rfl) (by kernel_rfl) (fun _ _ _ h => h) (by rfl) (by assumption) ?gya3 ?gra3
            case gya3 => intro W hSW; go_simp; try with_reducible rfl
            try simp only [Act.put, List.setIfInBounds_toArray, List.set_cons_zero, List.set_cons_succ]
            refine' takeH 4 rfl (by kernel_rfl) (by kernel_rfl) (by kernel_rfl) (fun _ _ _ h => h) (by rfl) (by assumption) ?gya4 ?gra4
            case gya4 => intro W hSW; go_simp; try with_reducible rfl
            try simp only [Act.put, List.setIfInBounds_toArray, List.set_cons_zero, List.set_cons_succ]
            refine' takeH 5 rfl (by kernel_rfl) (by kernel_rfl) (by kernel_rfl) (fun _ _ _ h => h) (by rfl) (by assumption) ?gya5 ?gra5
            case gya5 => intro W hSW; go_simp; try with_reducible rfl
            try simp only [Act.put, List.setIfInBounds_toArray, List.set_cons_zero, List.set_cons_succ]
            refine' takeH 6 rfl (by kernel_rfl) (by kernel_rfl) (by kernel_rfl) (fun _ _ _ h => h) (by rfl) (by assumption) ?gya6 ?gra6
            case gya6 => intro W hSW; go_simp; try with_reducible rfl
            try simp only [Act.put, List.setIfInBounds_toArray, List.set_cons_zero, List.set_cons_succ]
            refine' takeH 7 rfl (by kernel_rfl) (by kernel_rfl) (by kernel_rfl) (fun _ _ _ h => h) (by rfl) (by assumption) ?gya7 ?gra7
            case gya7 => intro W hSW; go_simp; try with_reducible rfl
            try simp only [Act.put, List.setIfInBounds_toArray, List.set_cons_zero, List.set_cons_succ]
            refine' takeH 8 rfl (by kernel_rfl) (by kernel_rfl) (by kernel_rfl) (fun _ _ _ h => h) (by rfl) (by assumption) ?gya8 ?gra8
            case gya8 => intro W hSW; go_simp; try with_reducible rfl
            try simp only [Act.put, List.setIfInBounds_toArray, List.set_cons_zero, List.set_cons_succ]
            refine' takeH 9 rfl (by kernel_rfl) (by kernel_rfl) (by kernel_rfl) (fun _ _ _ h => h) (by rfl) (by assumption) ?gya9 ?gra9
            case gya9 => intro W hSW; go_simp; try with_reducible rfl
            try simp only [Act.put, List.setIfInBounds_toArray, List.set_cons_zero, List.set_cons_succ]
            refine' takeH 10 rfl (by kernel_rfl) (by kernel_rfl) (by kernel_rfl) (fun _ _ _ h => h) (by rfl) (by assumption) ?gya10 ?gra10
            case gya10 => intro W hSW; go_simp; try with_reducible rfl
            try simp only [Act.put, List.setIfInBounds_toArray, List.set_cons_zero, List.set_cons_succ]
            refine' takeH 11 rfl (by kernel_rfl) (by kernel_rfl) (by kernel_rfl) (fun _ _ _ h => h) (by rfl) (by assumption) ?gya11 ?gra11
            case gya11 => intro W hSW; go_simp; try with_reducible rfl
            try simp only [Act.put, List.setIfInBounds_toArray, List.set_cons_zero, List.set_cons_succ]
            refine' takeH 12 rfl (by kernel_rfl) (by kernel_rfl) (by kernel_rfl) (fun _ _ _ h => h) (by rfl) (by assumption) ?gya12 ?gra12
            case gya12 => intro W hSW; go_simp; try with_reducible rfl
            try simp only [Act.put, List.setIfInBounds_toArray, List.set_cons_zero, List.set_cons_succ]
            refine' takeH 13 rfl (by kernel_rfl) (by kernel_rfl) (by kernel_rfl) (fun _ _ _ h => h) (by rfl) (by assumption) ?gya13 ?gra13
            case gya13 => intro W hSW; go_simp; try with_reducible rfl
            try simp only [Act.put, List.setIfInBounds_toArray, List.set_cons_zero, List.set_cons_succ]
            refine' takeH 14 rfl (by kernel_rfl) (by kernel_rfl) (by kernel_rfl) (fun _ _ _ h => h) (by rfl) (by assumption) ?gya14 ?gra14
            case gya14 => intro W hSW; go_simp; try with_reducible rfl
            try simp only [Act.put, List.setIfInBounds_toArray, List.set_cons_zero, List.set_cons_succ]
            refine' takeH 15 rfl (by kernel_rfl) (by kernel_rfl) (by kernel_rfl) (fun _ _ _ h => h) (by rfl) (by assumption) ?gya15 ?gra15
            case gya15 => intro W hSW; go_simp; try with_reducible rfl
            try simp only [Act.put, List.setIfInBounds_toArray, List.set_cons_zero, List.set_cons_succ]
            refine' takeH 16 rfl (by kernel_rfl) (by kernel_rfl) (by kernel_rfl) (fun _ _ _ h => h) (by rfl) (by assumption) ?gya16 ?gra16
            case gya16 => intro W hSW; go_simp; try with_reducible rfl
            try simp only [Act.put, List.setIfInBounds_toArray, List.set_cons_zero, List.set_cons_succ]
            refine' takeH 17 rfl (by kernel_rfl) (by kernel_rfl) (by kernel_rfl) (fun _ _ _ h => h) (by rfl) (by assumption) ?gya17 ?gra17
            case gya17 => intro W hSW; go_simp; try with_reducible rfl
            try simp only [Act.put, List.setIfInBounds_toArray, List.set_cons_zero, List.set_cons_succ]
            refine' takeH 18 rfl (by kernel_rfl) (by kernel_rfl) (by kernel_rfl) (fun _ _ _ h => h) (by rfl) (by assumption) ?gya18 ?gra18
            case gya18 => intro W hSW; go_simp; try with_reducible rfl
            try simp only [Act.put, List.setIfInBounds_toArray, List.set_cons_zero, List.set_cons_succ]
            refine' takeH 19 rfl (by kernel_rfl) (by kernel_rfl) (by kernel_rfl) (fun _ _ _ h => h) (by rfl) (by assumption) ?gya19 ?gra19
            case gya19 => intro W hSW; go_simp; try with_reducible rfl
            try simp only [Act.put, List.setIfInBounds_toArray, List.set_cons_zero, List.set_cons_succ]
            refine' takeH 22 rfl (by kernel_rfl) (by kernel_rfl) (by kernel_rfl) (fun _ _ _ h => h) (by rfl) (by assumption) ?gya22 ?gra22
            case gya22 => intro W hSW; go_simp; try with_reducible rfl
            try simp only [Act.put, List.setIfInBounds_toArray, List.set_cons_zero, List.set_cons_succ]
            refine' takeH 23 rfl (by kernel_rfl) (by kernel_rfl) (by kernel_rfl) (fun _ _ _ h => h) (by rfl) (by assumption) ?gya23 ?gra23
            case gya23 => intro W hSW; go_simp; try with_reducible rfl
            try simp only [Act.put, List.setIfInBounds_toArray, List.set_cons_zero, List.set_cons_succ]
            refine' takeH 24 rfl (by kernel_rfl) (by kernel_rfl) (by kernel_rfl) (fun _ _ _ h => h) (by rfl) (by assumption) ?gya24 ?gra24
            case gya24 => intro W hSW; go_simp; try with_reducible rfl
            try simp only [Act.put, List.setIfInBounds_toArray, List.set_cons_zero, List.set_cons_succ]
            refine' takeH 25 rfl (by kernel_rfl) (by kernel_rfl) (by kernel_rfl) (fun _ _ _ h => h) (by rfl) (by assumption) ?gya25 ?gra25
            case gya25 => intro W hSW; go_simp; try with_reducible rfl
            try simp only [Act.put, List.setIfInBounds_toArray, List.set_cons_zero, List.set_cons_succ]
            refine' takeH 26 rfl (by kernel_rfl) (by kernel_rfl) (by kernel_rfl) (fun _ _ _ h => h) (by rfl) (by assumption) ?gya26 ?gra26
            case gya26 => intro W hSW; go_simp; try with_reducible rfl
            try simp only [Act.put, List.setIfInBounds_toArray, List.set_cons_zero, List.set_cons_succ]
            refine' takeH 27 rfl (by kernel_rfl) (by kernel_rfl) (by kernel_rfl) (fun _ _ _ h => h) (by rfl) (by assumption) ?gya27 ?gra27
            case gya27 => intro W hSW; go_simp; try with_reducible rfl
            try simp only [Act.put, List.setIfInBounds_toArray, List.set_cons_zero, List.set_cons_succ]
            refine' takeH 28 rfl (by kernel_rfl) (by kernel_rfl) (by kernel_rfl) (fun _ _ _ h => h) (by rfl) (by assumption) ?gya28 ?gra28
            case gya28 => intro W hSW; go_simp; try with_reducible rfl
            try simp only [Act.put, List.setIfInBounds_toArray, List.set_cons_zero, List.set_cons_succ]
            refine' takeH 29 rfl (by kernel_rfl) (by kernel_rfl) (by kernel_rfl) (fun _ _ _ h => h) (by rfl) (by assumption) ?gya29 ?gra29
            case gya29 => intro W hSW; (try dsimp only at hSW); go_simp; try with_reducible rfl
            try simp only [Act.put, List.setIfInBounds_toArray, List.set_cons_zero, List.set_cons_succ]
            refine wpAnyH_ready (rs := [20]) (by kernel_rfl) (by simp) ?_
            refine AllReadyH.cons rfl (fun K hK => ?_) AllReadyH.nil
            go_simp
            refine (rseal_calls _ _ _ _ (Hsl.out _ _ Hvd.out _ _ (Nat.zero_le _) (.inl Hg0.out)) Hlen.out).mono ?_
            rintro e w5 ⟨v5, rfl, hn5⟩
            have hc5 := RdB.conv (P := Try.prog) hn5.rd Try.underlying22 Try.underlying5 Try.underlying9
            rw [HsA.out] at hc5
            have hsz5 : wr.heap.size ≤ w5.heap.size := hn5.2.2.2.size
            have hcx5 := Hcy.out w5 (Hvd.out.below hn5.2.2.2)
            dsimp only
            refine hK.out _ _ hcx5 (fun hH5 => ?_)
            clear hK K hH
            try simp only [Act.put, List.setIfInBounds_toArray, List.set_cons_zero, List.set_cons_succ]
            refine wpAnyH_ready (rs := [21]) (by kernel_rfl) (by simp) ?_
            refine AllReadyH.cons rfl (fun K hK => ?_) AllReadyH.nil
            go_simp
            refine hK.out _ _ hH5 (fun hH6 => ?_)
            clear hK K
            try simp only [Act.put, List.setIfInBounds_toArray, List.set_cons_zero, List.set_cons_succ]
            refine' takeH 30 rfl (by kernel_rfl) (by kernel_rfl) (by kernel_rfl) (fun _ _ _ h => h) (by rfl) (by assumption) ?gya30 ?gra30
            case gya30 => intro W hSW; go_simp; try with_reducible rfl
            try simp only [Act.put, List.setIfInBounds_toArray, List.set_cons_zero, List.set_cons_succ]
            refine' takeH 31 rfl (by kernel_rfl) (by kernel_rfl) (by kernel_rfl) (fun _ _ _ h => h) (by rfl) (by assumption) ?gya31 ?gra31
            case gya31 => intro W hSW; go_simp; try with_reducible rfl
            try simp only [Act.put, List.setIfInBounds_toArray, List.set_cons_zero, List.set_cons_succ]
            refine wpAnyH_done (by kernel_rfl) ?_ _
            refine NoPanic.normal ?_
            all_goals
              rw [Hbb.out]
              clear w1 w2 q1 q2 q3 q4 q5 q6 q7 q8 hcx hcx5 hc5
              have hx5 : Ext [] wr col w5 (newcol wr col 0) := Ext.newc (below_undrew hn5.2.2.2) 0
              have hO5 := hO.ext hx5 (by simp) (by simp)
              have hxx := hx.trans (hx5.mono (by simp))
              cases bb
              · have Hend := Lib.hid (scan_end Hsc.out Hfirst.out)
                go_wp2
                go_ret2
                rw [Hend.out]
                exact ScanPost.mk rfl (hO5.rd (by omega)) (hxx.below0 (by simp))
              · have Hstep := Lib.hid (scan_step Hsc.out Hfirst.out)
                have hgl : ((xs.drop (j + 8)).take g).length = g := by simp; omega
                have Hgl := Lib.hid hgl
                clear hgl
                have hy5 := (Hvr.out.ext hx5 (by simp))
                obtain ⟨cs2, hOw2, hel2⟩ := hO5
                have hown2 := hOw2.1
                go_wp2_with (at_builtin; refine push1 rfl _ _ 31 22 rfl Try.underlying31 Try.infoBs rfl (by omega) 0 _ _ _ rfl hown2 (by omega) _ rfl rfl (by omega) ?_)
                intro A' cap' w7 hown' hgrow hat
                obtain ⟨hO7, hx7⟩ := OwL.app hOw2 hel2 (Hsl.out _ _ hy5 _ _ (Nat.zero_le _) (.inl Hg0.out)) hgrow hown' rfl hat
                go_wp2
                go_roundw
                case rel =>
                  rw [Hgl.out] at Hstep
                  exact ⟨j + (8 + g), _, _, by go_num, by omega, by simp; omega, hO7, hxx.trans hx7, Hstep⟩
                case measure => simp [intOf]; omega
          · have Hcy := Lib.hid (fun W h => Hcx.out W h (cap - j) (by omega) (by omega))
            have Hsy := Lib.hid (fun W N h => Hsl.out W N h (o + (j + 8)) (cap - (j + 8)) (by omega) (.inr ⟨by omega, fun _ => rfl⟩))
            have hcx := Hcy.out _ Hvd.out
            have w1 : IntKind.i64.wrap ((j : Int) + 8) = (j : Int) + 8 := IntWalk.i64_in _ (by omega)
            have w2 : IntKind.i64.wrap ((j : Int) + 8 + (g : Int)) = (j : Int) + 8 + (g : Int) := IntWalk.i64_in _ (by omega)
            have q1 : (0 : Int) ≤ (j : Int) + 8 := by omega
            have q2 : (0 : Int) ≤ (j : Int) + 8 + (g : Int) := by omega
            have q3 : (j : Int) + 8 + (g : Int) ≤ (cap : Int) := by omega
            have q4 : (j : Int) + 8 ≤ (j : Int) + 8 + (g : Int) := by omega
            have q5 : (j : Int) ≤ (j : Int) + 8 + (g : Int) := by omega
            have q6 : (0 : Int) ≤ (j : Int) := by omega
            have q7 : ((j : Int) + 8).toNat = j + 8 := by omega
            have q8 : ((j : Int) + 8 + (g : Int)).toNat = j + 8 + g := by omega
            refine wp_region_noPanic ?_
            refine wp_region_held_drew (S := fun W => (convert 22 9 (.slice (some ⟨b, o + j, none⟩) (j + 8 + g - j) (cap - j))).run Try.prog W = .ok (.string sB) W) (by kernel_rfl) hcx (fun hH => ?_)
            have hcj : ¬ cap = j := by omega
            refine' takeH 0 rfl (by kernel_rfl) (by kernel_rfl) (by kernel_rfl) (fun _ _ _ h => h) (by rfl) (by assumption) ?gyb0 ?grb0
            case gyb0 => intro W hSW; go_simp; try with_reducible rfl
            try simp only [Act.put, List.setIfInBounds_toArray, List.set_cons_zero, List.set_cons_succ]
            refine' takeH 1 rfl (by kernel_rfl) (by kernel_rfl) (by kernel_rfl) (fun _ _ _ h => h) (by rfl) (by assumption) ?gyb1 ?grb1
            case gyb1 => intro W hSW; go_simp; try with_reducible rfl
            try simp only [Act.put, List.setIfInBounds_toArray, List.set_cons_zero, List.set_cons_succ]
            refine' takeH 2 rfl (by kernel_rfl) (by kernel_rfl) (by kernel_rfl) (fun _ _ _ h => h) (by rfl) (by assumption) ?gyb2 ?grb2
            case gyb2 => intro W hSW; go_simp; try with_reducible rfl
            try simp only [Act.put, List.setIfInBounds_toArray, List.set_cons_zero, List.set_cons_succ]
            refine' takeH 3 rfl (by kernel_rfl) (by kernel_rfl) (by kernel_rfl) (fun _ _ _ h => h) (by rfl) (by assumption) ?gyb3 ?grb3
            case gyb3 => intro W hSW; go_simp; try with_reducible rfl
            try simp only [Act.put, List.setIfInBounds_toArray, List.set_cons_zero, List.set_cons_succ]
            refine' takeH 4 rfl (by kernel_rfl) (by kernel_rfl) (by kernel_rfl) (fun _ _ _ h => h) (by rfl) (by assumption) ?gyb4 ?grb4
            case gyb4 => intro W hSW; go_simp; try with_reducible rfl
            try simp only [Act.put, List.setIfInBounds_toArray, List.set_cons_zero, List.set_cons_succ]
            refine' takeH 5 rfl (by kernel_rfl) (by kernel_rfl) (by kernel_rfl) (fun _ _ _ h => h) (by rfl) (by assumption) ?gyb5 ?grb5
            case gyb5 => intro W hSW; go_simp; try with_reducible rfl
            try simp only [Act.put, List.setIfInBounds_toArray, List.set_cons_zero, List.set_cons_succ]
            refine' takeH 6 rfl (by kernel_rfl) (by kernel_rfl) (by kernel_rfl) (fun _ _ _ h => h) (by rfl) (by assumption) ?gyb6 ?grb6
            case gyb6 => intro W hSW; go_simp; try with_reducible rfl
            try simp only [Act.put, List.setIfInBounds_toArray, List.set_cons_zero, List.set_cons_succ]
            refine' takeH 7 rfl (by kernel_rfl) (by kernel_rfl) (by kernel_rfl) (fun _ _ _ h => h) (by rfl) (by assumption) ?gyb7 ?grb7
            case gyb7 => intro W hSW; go_simp; try with_reducible rfl
            try simp only [Act.put, List.setIfInBounds_toArray, List.set_cons_zero, List.set_cons_succ]
            refine' takeH 8 rfl (by kernel_rfl) (by kernel_rfl) (by kernel_rfl) (fun _ _ _ h => h) (by rfl) (by assumption) ?gyb8 ?grb8
            case gyb8 => intro W hSW; go_simp; try with_reducible rfl
            try simp only [Act.put, List.setIfInBounds_toArray, List.set_cons_zero, List.set_cons_succ]
            refine' takeH 9 rfl (by kernel_rfl) (by kernel_rfl) (by kernel_rfl) (fun _ _ _ h => h) (by rfl) (by assumption) ?gyb9 ?grb9
            case gyb9 => intro W hSW; go_simp; try with_reducible rfl
            try simp only [Act.put, List.setIfInBounds_toArray, List.set_cons_zero, List.set_cons_succ]
            refine' takeH 10 rfl (by kernel_rfl) (by kernel_rfl) (by kernel_rfl) (fun _ _ _ h => h) (by rfl) (by assumption) ?gyb10 ?grb10
            case gyb10 => intro W hSW; go_simp; try with_reducible rfl
            try simp only [Act.put, List.setIfInBounds_toArray, List.set_cons_zero, List.set_cons_succ]
            refine' takeH 11 rfl (by kernel_rfl) (by kernel_rfl) (by kernel_rfl) (fun _ _ _ h => h) (by rfl) (by assumption) ?gyb11 ?grb11
            case gyb11 => intro W hSW; go_simp; try with_reducible rfl
            try simp only [Act.put, List.setIfInBounds_toArray, List.set_cons_zero, List.set_cons_succ]
            refine' takeH 12 rfl (by kernel_rfl) (by kernel_rfl) (by kernel_rfl) (fun _ _ _ h => h) (by rfl) (by assumption) ?gyb12 ?grb12
            case gyb12 => intro W hSW; go_simp; try with_reducible rfl
            try simp only [Act.put, List.setIfInBounds_toArray, List.set_cons_zero, List.set_cons_succ]
            refine' takeH 13 rfl (by kernel_rfl) (by kernel_rfl) (by kernel_rfl) (fun _ _ _ h => h) (by rfl) (by assumption) ?gyb13 ?grb13
            case gyb13 => intro W hSW; go_simp; try with_reducible rfl
            try simp only [Act.put, List.setIfInBounds_toArray, List.set_cons_zero, List.set_cons_succ]
            refine' takeH 14 rfl (by kernel_rfl) (by kernel_rfl) (by kernel_rfl) (fun _ _ _ h => h) (by rfl) (by assumption) ?gyb14 ?grb14
            case gyb14 => intro W hSW; go_simp; try with_reducible rfl
            try simp only [Act.put, List.setIfInBounds_toArray, List.set_cons_zero, List.set_cons_succ]
            refine' takeH 15 rfl (by kernel_rfl) (by kernel_rfl) (by kernel_rfl) (fun _ _ _ h => h) (by rfl) (by assumption) ?gyb15 ?grb15
            case gyb15 => intro W hSW; go_simp; try with_reducible rfl
            try simp only [Act.put, List.setIfInBounds_toArray, List.set_cons_zero, List.set_cons_succ]
            refine' takeH 16 rfl (by kernel_rfl) (by kernel_rfl) (by kernel_rfl) (fun _ _ _ h => h) (by rfl) (by assumption) ?gyb16 ?grb16
            case gyb16 => intro W hSW; go_simp; try with_reducible rfl
            try simp only [Act.put, List.setIfInBounds_toArray, List.set_cons_zero, List.set_cons_succ]
            refine' takeH 17 rfl (by kernel_rfl) (by kernel_rfl) (by kernel_rfl) (fun _ _ _ h => h) (by rfl) (by assumption) ?gyb17 ?grb17
            case gyb17 => intro W hSW; go_simp; try with_reducible rfl
            try simp only [Act.put, List.setIfInBounds_toArray, List.set_cons_zero, List.set_cons_succ]
            refine' takeH 18 rfl (by kernel_rfl) (by kernel_rfl) (by kernel_rfl) (fun _ _ _ h => h) (by rfl) (by assumption) ?gyb18 ?grb18
            case gyb18 => intro W hSW; go_simp; try with_reducible rfl
            try simp only [Act.put, List.setIfInBounds_toArray, List.set_cons_zero, List.set_cons_succ]
            refine' takeH 19 rfl (by kernel_rfl) (by kernel_rfl) (by kernel_rfl) (fun _ _ _ h => h) (by rfl) (by assumption) ?gyb19 ?grb19
            case gyb19 => intro W hSW; go_simp; try with_reducible rfl
            try simp only [Act.put, List.setIfInBounds_toArray, List.set_cons_zero, List.set_cons_succ]
            refine' takeH 22 rfl (by kernel_rfl) (by kernel_rfl) (by kernel_rfl) (fun _ _ _ h => h) (by rfl) (by assumption) ?gyb22 ?grb22
            case gyb22 => intro W hSW; go_simp; try with_reducible rfl
            try simp only [Act.put, List.setIfInBounds_toArray, List.set_cons_zero, List.set_cons_succ]
            refine' takeH 23 rfl (by kernel_rfl) (by kernel_rfl) (by kernel_rfl) (fun _ _ _ h => h) (by rfl) (by assumption) ?gyb23 ?grb23
            case gyb23 => intro W hSW; go_simp; try with_reducible rfl
            try simp only [Act.put, List.setIfInBounds_toArray, List.set_cons_zero, List.set_cons_succ]
            refine' takeH 24 rfl (by kernel_rfl) (by kernel_rfl) (by kernel_rfl) (fun _ _ _ h => h) (by rfl) (by assumption) ?gyb24 ?grb24
            case gyb24 => intro W hSW; go_simp; try with_reducible rfl
            try simp only [Act.put, List.setIfInBounds_toArray, List.set_cons_zero, List.set_cons_succ]
            refine' takeH 25 rfl (by kernel_rfl) (by kernel_rfl) (by kernel_rfl) (fun _ _ _ h => h) (by rfl) (by assumption) ?gyb25 ?grb25
            case gyb25 => intro W hSW; go_simp; try with_reducible rfl
            try simp only [Act.put, List.setIfInBounds_toArray, List.set_cons_zero, List.set_cons_succ]
            refine' takeH 26 rfl (by kernel_rfl) (by kernel_rfl) (by kernel_rfl) (fun _ _ _ h => h) (by rfl) (by assumption) ?gyb26 ?grb26
            case gyb26 => intro W hSW; go_simp; try with_reducible rfl
            try simp only [Act.put, List.setIfInBounds_toArray, List.set_cons_zero, List.set_cons_succ]
            refine' takeH 27 rfl (by kernel_rfl) (by kernel_rfl) (by kernel_rfl) (fun _ _ _ h => h) (by rfl) (by assumption) ?gyb27 ?grb27
            case gyb27 => intro W hSW; go_simp; try with_reducible rfl
            try simp only [Act.put, List.setIfInBounds_toArray, List.set_cons_zero, List.set_cons_succ]
            refine' takeH 28 rfl (by kernel_rfl) (by kernel_rfl) (by kernel_rfl) (fun _ _ _ h => h) (by rfl) (by assumption) ?gyb28 ?grb28
            case gyb28 => intro W hSW; go_simp; try with_reducible rfl
            try simp only [Act.put, List.setIfInBounds_toArray, List.set_cons_zero, List.set_cons_succ]
            try simp only [if_neg hcj]
            refine' takeH 29 rfl (by kernel_rfl) (by kernel_rfl) (by kernel_rfl) (fun _ _ _ h => h) (by rfl) (by assumption) ?gyb29 ?grb29
            case gyb29 => intro W hSW; (try dsimp only at hSW); go_simp; try with_reducible rfl
            try simp only [Act.put, List.setIfInBounds_toArray, List.set_cons_zero, List.set_cons_succ]
            refine wpAnyH_ready (rs := [20]) (by kernel_rfl) (by simp) ?_
            refine AllReadyH.cons rfl (fun K hK => ?_) AllReadyH.nil
            go_simp
            refine (rseal_calls _ _ _ _ (Hsy.out _ _ Hvd.out) Hlen.out).mono ?_
            rintro e w5 ⟨v5, rfl, hn5⟩
            have hc5 := RdB.conv (P := Try.prog) hn5.rd Try.underlying22 Try.underlying5 Try.underlying9
            rw [HsA.out] at hc5
            have hsz5 : wr.heap.size ≤ w5.heap.size := hn5.2.2.2.size
            have hcx5 := Hcy.out w5 (Hvd.out.below hn5.2.2.2)
            dsimp only
            refine hK.out _ _ hcx5 (fun hH5 => ?_)
            clear hK K hH
            try simp only [Act.put, List.setIfInBounds_toArray, List.set_cons_zero, List.set_cons_succ]
            refine wpAnyH_ready (rs := [21]) (by kernel_rfl) (by simp) ?_
            refine AllReadyH.cons rfl (fun K hK => ?_) AllReadyH.nil
            go_simp
            refine hK.out _ _ hH5 (fun hH6 => ?_)
            clear hK K
            try simp only [Act.put, List.setIfInBounds_toArray, List.set_cons_zero, List.set_cons_succ]
            refine' takeH 30 rfl (by kernel_rfl) (by kernel_rfl) (by kernel_rfl) (fun _ _ _ h => h) (by rfl) (by assumption) ?gyb30 ?grb30
            case gyb30 => intro W hSW; go_simp; try with_reducible rfl
            try simp only [Act.put, List.setIfInBounds_toArray, List.set_cons_zero, List.set_cons_succ]
            refine' takeH 31 rfl (by kernel_rfl) (by kernel_rfl) (by kernel_rfl) (fun _ _ _ h => h) (by rfl) (by assumption) ?gyb31 ?grb31
            case gyb31 => intro W hSW; go_simp; try with_reducible rfl
            try simp only [Act.put, List.setIfInBounds_toArray, List.set_cons_zero, List.set_cons_succ]
            refine wpAnyH_done (by kernel_rfl) ?_ _
            refine NoPanic.normal ?_
            all_goals
              rw [Hbb.out]
              clear w1 w2 q1 q2 q3 q4 q5 q6 q7 q8 hcx hcx5 hc5
              have hx5 : Ext [] wr col w5 (newcol wr col 0) := Ext.newc (below_undrew hn5.2.2.2) 0
              have hO5 := hO.ext hx5 (by simp) (by simp)
              have hxx := hx.trans (hx5.mono (by simp))
              cases bb
              · have Hend := Lib.hid (scan_end Hsc.out Hfirst.out)
                go_wp2
                go_ret2
                rw [Hend.out]
                exact ScanPost.mk rfl (hO5.rd (by omega)) (hxx.below0 (by simp))
              · have Hstep := Lib.hid (scan_step Hsc.out Hfirst.out)
                have hgl : ((xs.drop (j + 8)).take g).length = g := by simp; omega
                have Hgl := Lib.hid hgl
                clear hgl
                have hy5 := (Hvr.out.ext hx5 (by simp))
                obtain ⟨cs2, hOw2, hel2⟩ := hO5
                have hown2 := hOw2.1
                go_wp2_with (at_builtin; refine push1 rfl _ _ 31 22 rfl Try.underlying31 Try.infoBs rfl (by omega) 0 _ _ _ rfl hown2 (by omega) _ rfl rfl (by omega) ?_)
                intro A' cap' w7 hown' hgrow hat
                obtain ⟨hO7, hx7⟩ := OwL.app hOw2 hel2 (Hsy.out _ _ hy5) hgrow hown' rfl hat
                go_wp2
                go_roundw
                case rel =>
                  rw [Hgl.out] at Hstep
                  exact ⟨j + (8 + g), _, _, by go_num, by omega, by simp; omega, hO7, hxx.trans hx7, Hstep⟩
                case measure => simp [intOf]; omega
      · have Hend := Lib.hid (scan_end Hsc.out (show firstB (xs.drop j) = none by unfold firstB; rw [if_pos (by simp; omega)]))
        go_wp2
        go_ret2
        rw [Hend.out]
        exact ScanPost.mk rfl (hO.rd (by omega)) (hx.below0 (by simp))
end Go.Proofs.Yteodbcgfmfkdmaa
