/- The statement CommandBounds of layer 17. -/
import Derived.Test.YteegdhfekemhmaaCmd3
import Derived.Test.YteegdhfekemhmaaMake
import Derived.Deep.RegionWith
import Derived.Deep.DeepCutAuto
import Derived.Deep.CutBlock
namespace Go.Proofs.Yteegdhfekemhmaa
open Go.RowKit

set_option maxHeartbeats 2000000 in
set_option maxRecDepth 100000 in
theorem commandbounds_calls (w : World) (k c q n : Int) (hk0 : (Lit.int .i64 k).wf = true) (hc0 : (Lit.int .i64 c).wf = true) (hq0 : (Lit.int .i64 q).wf = true) (hn0 : (Lit.int .i64 n).wf = true) :
    Calls Try.prog 4 #[.int .i64 k, .int .i64 c, .int .i64 q, .int .i64 n] w fun e w' => e = .returned (.bool true) ∧ Below w.heap.size w w' := by
  have hn := wf64' hn0
  unfold InI64 at hn
  clear hk0 hc0 hq0 hn0
  go_enter Try.func4, Try.ntmps4
  go_wp2_with fail
  refine (begun17_calls _).mono ?_
  rintro e w1 ⟨rfl, hb1⟩
  by_cases h1 : n < 0
  · go_wp2
    go_ret
    exact ⟨rfl, hb1⟩
  · by_cases h2 : 5000 < n
    · go_wp2
      go_ret
      exact ⟨rfl, hb1⟩
    · obtain ⟨m, rfl⟩ := Int.eq_ofNat_of_zero_le (show 0 ≤ n by omega)
      obtain ⟨v2, W2, hmk, hn2, A2, cap2, rfl⟩ := make_bytes w1 m m rfl (by omega)
      have hb2 := below_then' hb1 hb1.size hn2.2.2.2
      have hcv := RdB.conv (P := Try.prog) hn2.rd Try.underlying24 Try.underlying5 Try.underlying9
      have hs : (strOfNums (List.replicate m (0 : Int))).size = m := by rw [strOfNums_len, List.length_replicate]
      generalize strOfNums (List.replicate m (0 : Int)) = s at hcv hs
      have Hs := Lib.hid hs
      clear hs hn2
      go_wp2_with fail
      have Hm := Lib.hid (show MayC k c q s = (1 ≤ k ∧ k ≤ 4 ∧ 1 ≤ c ∧ c ≤ 8 ∧ 1 ≤ q ∧ q ≤ 1099511627776 ∧ s.size ≤ 4000) from rfl)
      by_cases hM : MayC k c q s
      · have hE := encode_yes W2 k c q s hM
        have Hd := Lib.hid (dec_cmdB hM)
        have hlen := cmdB_len hM
        generalize cmdB k c q s = B at hE Hd hlen
        refine hE.mono ?_
        rintro e w3 ⟨v3, rfl, hn3⟩
        have hr3 := hn3.rd
        have hb3 := below_then' hb2 hb2.size hn3.2.2.2
        obtain ⟨A3, cap3, rfl⟩ := own_slice' hn3.1
        clear hE hn3 hb2 hmk hcv
        go_upto_region 7 with fail
        go_cut [12] (fun x wx => x = .bool true ∧ wx = w3)
        case first =>
          rw [Hm.out, Hs.out] at hM
          obtain ⟨i1, i2, i3, i4, i5, i6, i7⟩ := hM
          go_wp2_with fail
          go_meet
          exact ⟨congrArg Value.bool (by simp; omega), rfl⟩
        case rest =>
        obtain ⟨rfl, rfl⟩ := hcut
        have hF := decode_calls wc _ _ B hr3.1
        rw [Hd.out] at hF
        unfold cmdV at hF
        go_wp2_with fail
        refine hF.mono ?_
        rintro e w4 ⟨rfl, hb4⟩
        have hb5 := below_then' hb3 hb3.size hb4
        have hb6 := hb5.alloc hb5.size (.cells #[.int .i64 k, .int .i64 c, .int .i64 q, .string s] 23)
        have hs := Hs.out
        go_wp2
        go_ret
        exact ⟨ret_bool (by simp), hb6⟩
      · have hE := encode_no W2 k c q s hM
        refine hE.mono ?_
        rintro e w3 ⟨rfl, hb3⟩
        have hb3' := below_then' hb2 hb2.size hb3
        clear hE hb3 hb2 hmk hcv
        go_upto_region 7 with fail
        go_cut [12] (fun x wx => x = .bool false ∧ wx = w3)
        case first =>
          rw [Hm.out, Hs.out] at hM
          go_wp2_with fail
          all_goals
            go_meet
            exact ⟨congrArg Value.bool (by first | rfl | (simp; omega)), rfl⟩
        case rest =>
        obtain ⟨rfl, rfl⟩ := hcut
        go_wp2
        go_ret
        exact ⟨ret_bool (by simp), hb3'⟩
end Go.Proofs.Yteegdhfekemhmaa
