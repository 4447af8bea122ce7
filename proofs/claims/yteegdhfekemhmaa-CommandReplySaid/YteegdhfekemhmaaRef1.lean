/- Walks of package delphiref1: numbers and texts. -/
import Derived.Test.YteegdhfekemhmaaBinT
namespace Go.Proofs.Yteegdhfekemhmaa
open Go.RowKit

theorem bits_or1 (k : Nat) (h : k < 9223372036854775808) : bits .or .u64 ((k : Int) * 2) 1 = ((2 * k + 1 : Nat) : Int) := by
  have e : ((k : Int) * 2) = ((2 * k : Nat) : Int) := by omega
  rw [e, show (1 : Int) = ((1 : Nat) : Int) from rfl, bits_or_u64_nat _ _ (by omega) (by omega), nat_join 1 _ _ (by omega) (by omega)]

set_option maxHeartbeats 400000 in
set_option maxRecDepth 100000 in
theorem num1_calls (w : World) (n : Int) (hn0 : -9223372036854775808 ≤ n) (hn1 : n < 9223372036854775808) :
    Calls Try.prog 24 #[.int .i64 n] w (RetN w fun v w' => w'.ownsRow w.heap.size 5 1 v (numB n).length (u8s (numB n))) := by
  have Hlt := Lib.hid (zz_lt hn0 hn1)
  have hlen := numB_len hn0 hn1
  obtain ⟨nb, hnb⟩ : ∃ nb, numB n = nb := ⟨_, rfl⟩
  have Hnb := Lib.hid hnb
  rw [hnb] at hlen ⊢
  clear hnb
  by_cases hn : 0 ≤ n
  all_goals
    first | (obtain ⟨k, hk⟩ := Int.eq_ofNat_of_zero_le hn; have Hk := Lib.hid hk; have Hz := Lib.hid (show zz n = 2 * k by unfold zz; rw [if_pos hn]; omega); clear hk) | (obtain ⟨k, hk⟩ : ∃ k : Nat, n = -1 - (k : Int) := ⟨(-1 - n).toNat, by omega⟩; have hor := bits_or1 k (by omega); have hcv : IntKind.u64.wrap (-1 - n) = (k : Int) := (by rw [IntKind.wrap_u64]; omega); have hkk : (k : Int) ≤ 9223372036854775807 := (by omega); have Hz := Lib.hid (show zz n = 2 * k + 1 by unfold zz; rw [if_neg hn]; omega); clear hk)
    go_enter Try.func24, Try.ntmps24
    go_wp2_with fail
    go_loopw [3, 4] (fun u v wr => ∃ (m : Nat) (pre : List Int), u = .int .u64 m ∧ m < 18446744073709551616 ∧ Hid (pre ++ uvar m = nb) ∧ wr.ownsRow w.heap.size 5 1 v pre.length (u8s pre) ∧ Below w.heap.size w wr) (fun u _ _ => (intOf u).toNat)
    case atStart =>
      refine ⟨zz n, [], ?_, Hlt.out, Hnb.out, World.ownsRow_nil _ _ _ _, Below.refl _ _⟩
      rw [Hz.out]
      first | rfl | (have := Hk.out; congr 1; omega)
    case round =>
      obtain ⟨m, pre, rfl, hm, hpre, hown, hbel⟩ := hrel
      have hpl : pre.length + 1 ≤ 10 := by
        have h1 := congrArg List.length hpre.out
        have h2 := uvar_pos m
        simp at h1; omega
      have hsz := hbel.size
      clear hlen hn hn0 hn1
      by_cases hbig : 128 ≤ m
      · go_wp2_with (at_builtin; refine push1 rfl _ _ 24 5 rfl Try.underlying24 Try.infoU8 rfl (by omega) w.heap.size _ _ _ rfl hown hsz _ rfl rfl (by omega) ?_)
        intro A' cap' w1 hown' hgrow hat
        go_wp2
        go_roundw
        case rel =>
          refine ⟨m / 128, pre ++ [((m % 128 + 128 : Nat) : Int)], by go_num, by omega, ?_, ?_, own_below1 hbel hown hgrow⟩
          · have := hpre.out
            rw [uvar_big (by omega)] at this
            show _ = _
            rw [← this]; simp
          · simpa [u8s_append, u8s] using hown'
        case measure => simp [intOf]; omega
      · have hsm : m ≤ 127 := by omega
        go_wp2_with (at_builtin; refine push1 rfl _ _ 24 5 rfl Try.underlying24 Try.infoU8 rfl (by omega) w.heap.size _ _ _ rfl hown hsz _ rfl rfl (by omega) ?_)
        intro A' cap' w1 hown' hgrow hat
        go_wp2
        go_ret
        refine RetN.mk rfl ?_ (own_below1 hbel hown hgrow)
        have := hpre.out
        rw [uvar_small hsm] at this
        rw [← this]
        simpa [u8s_append, u8s] using hown'

theorem num1_new (w : World) (n : Int) (hn0 : -9223372036854775808 ≤ n) (hn1 : n < 9223372036854775808) :
    Calls Try.prog 24 #[.int .i64 n] w fun e w' => ∃ v, e = .returned v ∧ NewB 5 w w' v (numB n) :=
  (num1_calls w n hn0 hn1).mono fun _ _ ⟨v, h1, h2, h3⟩ => ⟨v, h1, h2, by have := numB_len hn0 hn1; omega, numB_bytes n, h3⟩

set_option maxHeartbeats 400000 in
theorem text1_calls (w : World) (N : Nat → Prop) (v : Value) (xs : List Int) (hv : RdL w N v xs) (hl : xs.length ≤ 70368744177664) :
    Calls Try.prog 25 #[v] w fun e w' => ∃ v', e = .returned v' ∧ NewB 5 w w' v' (textB xs) := by
  obtain ⟨A, cap, rfl, hc1, hc2⟩ := hv.slice
  have hlen := numB_len (n := xs.length) (by omega) (by omega)
  go_enter Try.func25, Try.ntmps25
  go_wp2_with fail
  refine (num1_new w xs.length (by omega) (by omega)).mono ?_
  rintro e w1 ⟨v1, rfl, hn⟩
  have hv1 := hv.below hn.2.2.2
  have hsz := hn.2.2.2.size
  go_wp2_with (at_builtin; refine pushs rfl _ _ 24 5 rfl Try.underlying24 Try.infoU8 rfl (by omega) w.heap.size v1 _ _ rfl hn.1 hsz _ _ _ rfl hv1.1 (u8s_oneCell _) (by omega) ?_)
  intro A' cap' w2 hown' hgrow hat
  go_wp2
  go_ret
  refine ⟨_, rfl, ?_, ?_, textB_bytes hv.2, own_below hn.2.2.2 hn.1 hgrow⟩
  · simpa [u8s_append, textB] using hown'
  · have := textB_len hv.len; omega
end Go.Proofs.Yteegdhfekemhmaa
