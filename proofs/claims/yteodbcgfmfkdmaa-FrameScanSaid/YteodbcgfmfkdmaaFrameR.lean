/- Walks of package delphiref1: sums, seals. -/
import Derived.Test.YteodbcgfmfkdmaaFrameG
import Derived.Test.YteodbcgfmfkdmaaRef1
namespace Go.Proofs.Yteodbcgfmfkdmaa
open Go.RowKit

theorem ref_step_odd (u : Nat) (h : u < 4294967296) (ho : u % 2 = 1) : bits .xor .u32 ((u : Int) / 2) 3988292384 = ((step1 u : Nat) : Int) := by
  rw [show (u : Int) / 2 = ((u / 2 : Nat) : Int) by omega, show (3988292384 : Int) = ((3988292384 : Nat) : Int) from rfl, u32_xor_nat _ _ (by omega) (by omega), step1, if_pos ho]
theorem ref_step_even (u : Nat) (ho : ¬ u % 2 = 1) : (u : Int) / 2 = ((step1 u : Nat) : Int) := by
  rw [step1, if_neg ho]; omega

set_option maxHeartbeats 400000 in
theorem rsum_some (w : World) (b o cap : Nat) (xs : List Int) (hB : Bytes xs) (hl : xs.length ≤ 140737488355328)
    (hcell : ∀ j, j < xs.length → w.cell? ⟨b, o + j, none⟩ = some (.int .u8 (xs.getD j 0))) :
    Calls Try.prog 18 #[.slice (some ⟨b, o, none⟩) xs.length cap] w fun e w' => e = .returned (.int .u32 ((sumB xs : Nat) : Int)) ∧ w = w' := by
  have Hcell := Lib.hid hcell
  have HB := Lib.hid hB
  clear hcell hB
  have hsg : ¬ (IntKind.u32.signed = true) := by decide
  go_enter Try.func18, Try.ntmps18
  go_wp2_with fail
  go_loop [3, 4] (fun a i => ∃ j y : Nat, i = .int .i64 j ∧ a = .int .u32 y ∧ j ≤ xs.length ∧ y < 4294967296 ∧ Hid (y = crc 4294967295 (xs.take j))) (fun _ i => xs.length - (intOf i).toNat)
  case atStart => exact ⟨0, 4294967295, rfl, rfl, by omega, by omega, rfl⟩
  case round =>
    obtain ⟨j, y, rfl, rfl, hj, hy, Hy⟩ := hrel
    by_cases hjl : j < xs.length
    · have hc := Hcell.out j hjl
      have hr := HB.out.at j
      have Hst : Hid (crc 4294967295 (xs.take (j + 1)) = crcB (crc 4294967295 (xs.take j)) (xs.getD j 0)) := by
        show _ = _
        rw [List.take_succ_eq_append_getElem hjl, crc_snoc]
        simp [List.getD, hjl]
      generalize xs.getD j 0 = c at hc hr Hst
      have hbb := bits_byte y c hy hr.1 hr.2
      have hz : y ^^^ c.toNat < 4294967296 := Nat.xor_lt_two_pow (n := 32) (by omega) (by omega)
      obtain ⟨z, hze⟩ : ∃ z, y ^^^ c.toNat = z := ⟨_, rfl⟩
      rw [hze] at hbb hz
      have Hz := Lib.hid hze
      clear hze
      go_wp2_with fail
      clear hbb
      go_loop [3, 5] (fun a i => ∃ k u : Nat, i = .int .i64 k ∧ a = .int .u32 u ∧ k ≤ 8 ∧ u < 4294967296 ∧ Hid (u = stepN k z)) (fun _ i => 8 - (intOf i).toNat)
      case atStart => exact ⟨0, z, rfl, rfl, by omega, hz, rfl⟩
      case round =>
        obtain ⟨k, u, rfl, rfl, hk, hu, Hu⟩ := hrel
        by_cases hk8 : k < 8
        · have hsl := step1_lt hu
          by_cases ho : u % 2 = 1
          · have hbs := ref_step_odd u hu ho
            obtain ⟨s, hs⟩ : ∃ s, step1 u = s := ⟨_, rfl⟩
            rw [hs] at hbs hsl
            have Hs := Lib.hid hs
            clear hs
            have d1 : ((u : Int) % 2 == 1) = true := by simp; omega
            go_wp2
            go_round
            case rel => exact ⟨k + 1, s, by go_num, rfl, by omega, hsl, by show _ = _; rw [stepN_succ, ← Hu.out, Hs.out]⟩
            case measure => simp [intOf]; omega
          · have hbs := ref_step_even u ho
            obtain ⟨s, hs⟩ : ∃ s, step1 u = s := ⟨_, rfl⟩
            rw [hs] at hbs hsl
            have Hs := Lib.hid hs
            have Hbs := Lib.hid hbs
            clear hs hbs
            have d1 : ((u : Int) % 2 == 1) = false := by simp; omega
            go_wp2
            go_round
            case rel => exact ⟨k + 1, s, by go_num, by rw [Hbs.out], by omega, hsl, by show _ = _; rw [stepN_succ, ← Hu.out, Hs.out]⟩
            case measure => simp [intOf]; omega
        · obtain rfl : k = 8 := by omega
          go_wp2
          go_round
          case rel => exact ⟨j + 1, u, by go_num, rfl, by omega, hu, by show _ = _; rw [Hst.out, ← Hy.out, Hu.out, ← Hz.out]; rfl⟩
          case measure => simp [intOf]; omega
    · obtain rfl : j = xs.length := by omega
      have hnot := bits_not hy
      go_wp2
      go_ret
      have := Hy.out
      rw [List.take_length] at this
      refine ⟨ret_int ?_, rfl⟩
      rw [sumB, ← this]
set_option maxHeartbeats 400000 in
theorem rsum_nil (w : World) (A : Option Addr) (cap : Nat) :
    Calls Try.prog 18 #[.slice A 0 cap] w fun e w' => e = .returned (.int .u32 ((sumB [] : Nat) : Int)) ∧ w = w' := by
  have hsg : ¬ (IntKind.u32.signed = true) := by decide
  have hnot := bits_not (c := 4294967295) (by omega)
  go_enter Try.func18, Try.ntmps18
  go_wp2_with fail
  refine wp_loop_rounds 1 ?_
  rw [rounds_succ]
  go_wp2
  go_ret
  exact ⟨ret_int (by first | rfl | exact hnot), rfl⟩
theorem rsum_calls (w : World) (N : Nat → Prop) (v : Value) (xs : List Int) (hv : RdL w N v xs) :
    Calls Try.prog 18 #[v] w fun e w' => e = .returned (.int .u32 ((sumB xs : Nat) : Int)) ∧ w = w' := by
  obtain ⟨hl, ⟨rfl, rfl⟩ | ⟨a, cap, rfl, rfl, _⟩ | ⟨b, o, cap, rfl, _, _, _, _, _, hc⟩⟩ := hv.form
  · exact rsum_nil w none 0
  · exact rsum_nil w (some a) cap
  · exact rsum_some w b o cap xs hv.2 hl hc

set_option maxHeartbeats 400000 in
theorem four_calls (w : World) (m : Nat) (hm : m < 4294967296) :
    Calls Try.prog 41 #[.int .u32 m] w fun e w' => ∃ v', e = .returned v' ∧ NewB 5 w w' v' (four m) := by
  have Hf : Hid ([.int .u8 ((m : Int) % 256), .int .u8 ((m : Int) / 256 % 256), .int .u8 ((m : Int) / 65536 % 256), .int .u8 ((m : Int) / 16777216)] = u8s (four m)) := by
    show _ = _
    simp [u8s, four]
    omega
  have Ho := Lib.hid (World.ownsRow_lit (base := w.heap.size) (e := 5) (size := 1) w #[.int .u8 ((m : Int) % 256), .int .u8 ((m : Int) / 256 % 256), .int .u8 ((m : Int) / 65536 % 256), .int .u8 ((m : Int) / 16777216)] 4 (Nat.le_refl _) (by simp [maxLen]) rfl)
  go_enter Try.func41, Try.ntmps41
  go_wp2
  go_ret
  refine ⟨_, rfl, ?_, by simp [four], four_bytes _, (Below.refl _ _).alloc (Nat.le_refl _) _⟩
  rw [← Hf.out]
  exact Ho.out

set_option maxHeartbeats 1000000 in
set_option maxRecDepth 100000 in
theorem rseal_calls (w : World) (N : Nat → Prop) (v : Value) (xs : List Int) (hv : RdL w N v xs) (hs : xs.length ≤ 65536) :
    Calls Try.prog 19 #[v] w fun e w' => ∃ v', e = .returned v' ∧ NewB 5 w w' v' (four xs.length ++ four (sumB (four xs.length ++ xs)) ++ xs) := by
  obtain ⟨A, cap, rfl, h1, h2⟩ := hv.slice
  have Hw := Lib.hid (show (xs.length : Int) % 4294967296 = (xs.length : Int) by omega)
  have H4 : (four xs.length).length = 4 := rfl
  go_enter Try.func19, Try.ntmps19
  go_wp2_with fail
  refine (four_calls w xs.length (by omega)).mono ?_
  rintro e w1 ⟨v1, rfl, hn1⟩
  have hv1 := hv.below hn1.2.2.2
  have hr1 := hn1.rd
  obtain ⟨A1, cap1, rfl⟩ := own_slice' hn1.1
  have hnil := World.ownsRow_nil w1 w1.heap.size 5 1
  go_wp2_with (at_builtin; refine pushs rfl _ _ 22 5 rfl Try.underlying22 Try.infoU8 rfl (by omega) w1.heap.size _ _ _ rfl hnil (Nat.le_refl _) _ _ _ rfl hr1.1.1 (u8s_oneCell _) (by omega) ?_)
  intro A2 cap2 w2 hown2 hgrow2 hat2
  have hb2 : Below w1.heap.size w1 w2 := (Below.refl _ _).grown hgrow2 (Nat.le_refl _) (fun k hk => by simp [Value.ownBlock] at hk)
  have hv2 := hv1.below hb2
  go_wp2_with (at_builtin; refine pushs rfl _ _ 22 5 rfl Try.underlying22 Try.infoU8 rfl (by omega) w1.heap.size _ _ _ rfl hown2 hb2.size _ _ _ rfl hv2.1 (u8s_oneCell _) (by omega) ?_)
  intro A3 cap3 w3 hown3 hgrow3 hat3
  have hb3 : Below w1.heap.size w1 w3 := own_below hb2 hown2 hgrow3
  rw [← u8s_append] at hown3
  have hr3 : RdB w3 (fun _ => True) _ (four xs.length ++ xs) := RdB.of_owns hown3 (by omega) ((four_bytes _).app hv.2) _ fun _ _ _ => trivial
  go_wp2_with fail
  refine (rsum_calls w3 _ _ _ hr3.1).mono ?_
  rintro e _ ⟨rfl, rfl⟩
  have hslt := sumB_lt (four xs.length ++ xs)
  have Hsm := Lib.hid (rfl : sumB (four xs.length ++ xs) = sumB (four xs.length ++ xs))
  generalize hsm : sumB (four xs.length ++ xs) = s at hslt
  have Hsum := Lib.hid hsm
  clear hsm Hsm
  have H4s : (four s).length = 4 := rfl
  go_wp2_with fail
  refine (four_calls w3 s hslt).mono ?_
  rintro e w4 ⟨v4, rfl, hn4⟩
  have hb4 : Below w1.heap.size w1 w4 := hb3.trans (hn4.2.2.2.mono hb3.size)
  have hr4 := hn4.rd
  have hsz1 := hn1.2.2.2.size
  have hown1 := owns_keeps hn1.1 fun g hg => hb4.block g (hn1.1.lt g hg).2
  have hv4 := hv1.below hb4
  have hbw : Below w.heap.size w w4 := hn1.2.2.2.trans (hb4.mono hsz1)
  obtain ⟨A4, cap4, rfl⟩ := own_slice' hn4.1
  go_wp2_with (at_builtin; refine pushs rfl _ _ 22 5 rfl Try.underlying22 Try.infoU8 rfl (by omega) w.heap.size _ _ _ rfl hown1 hbw.size _ _ _ rfl hr4.1.1 (u8s_oneCell _) (by omega) ?_)
  intro A5 cap5 w5 hown5 hgrow5 hat5
  have hb5 := own_below hbw hown1 hgrow5
  have hv5 := hv.below hb5
  go_wp2_with (at_builtin; refine pushs rfl _ _ 22 5 rfl Try.underlying22 Try.infoU8 rfl (by omega) w.heap.size _ _ _ rfl hown5 hb5.size _ _ _ rfl hv5.1 (u8s_oneCell _) (by omega) ?_)
  intro A6 cap6 w6 hown6 hgrow6 hat6
  go_wp2
  go_ret
  refine ⟨_, rfl, ?_, by simp [four]; omega, ((four_bytes _).app (four_bytes _)).app hv.2, own_below hb5 hown5 hgrow6⟩
  rw [Hsum.out, show (four xs.length ++ four s ++ xs).length = 8 + xs.length by simp [four]; omega, u8s_append, u8s_append]
  exact hown6
end Go.Proofs.Yteodbcgfmfkdmaa
