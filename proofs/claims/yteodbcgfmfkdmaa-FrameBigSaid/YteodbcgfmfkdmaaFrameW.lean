/- Walks of package frame: sums, numbers. -/
import Derived.Test.YteodbcgfmfkdmaaBinW
import Derived.Test.YteodbcgfmfkdmaaFrameM
namespace Go.Proofs.Yteodbcgfmfkdmaa
open Go.RowKit

theorem bits_step (x : Nat) (h : x < 4294967296) : bits .xor .u32 ((x : Int) / 2) (bits .and .u32 3988292384 (-(bits .and .u32 (x : Int) 1) % 4294967296)) = ((step1 x : Nat) : Int) := by
  have e1 : bits .and .u32 (x : Int) 1 = ((x % 2 : Nat) : Int) := by
    rw [show (1 : Int) = ((1 : Nat) : Int) from rfl, u32_and_nat _ _ h (by omega), nat_mask1]
  rw [e1]
  have e2 : (x : Int) / 2 = ((x / 2 : Nat) : Int) := by omega
  rw [e2]
  unfold step1
  by_cases ho : x % 2 = 1
  · rw [if_pos ho, ho]
    have e3 : (-((1 : Nat) : Int)) % 4294967296 = ((4294967295 : Nat) : Int) := by decide
    rw [e3, show (3988292384 : Int) = ((3988292384 : Nat) : Int) from rfl, u32_and_nat _ _ (by omega) (by omega)]
    have e4 : (3988292384 : Nat) &&& 4294967295 = 3988292384 := by decide
    rw [e4, u32_xor_nat _ _ (by omega) (by omega)]
  · rw [if_neg ho, show x % 2 = 0 by omega]
    have e3 : (-((0 : Nat) : Int)) % 4294967296 = ((0 : Nat) : Int) := by decide
    rw [e3, show (3988292384 : Int) = ((3988292384 : Nat) : Int) from rfl, u32_and_nat _ _ (by omega) (by omega)]
    have e4 : (3988292384 : Nat) &&& 0 = 0 := by decide
    rw [e4, u32_xor_nat _ _ (by omega) (by omega), Nat.xor_zero]
theorem bits_byte (x : Nat) (c : Int) (h : x < 4294967296) (h0 : 0 ≤ c) (h1 : c ≤ 255) : bits .xor .u32 (x : Int) c = ((x ^^^ c.toNat : Nat) : Int) := by
  obtain ⟨y, rfl⟩ := Int.eq_ofNat_of_zero_le h0
  rw [u32_xor_nat _ _ h (by omega)]
  rfl

theorem xor_ones32 (a : Nat) (h : a < 2 ^ 32) : (2 ^ 32 - 1) ^^^ a = 2 ^ 32 - (a + 1) := by
  apply Nat.eq_of_testBit_eq
  intro i
  rw [Nat.testBit_xor, Nat.testBit_two_pow_sub_one, Nat.testBit_two_pow_sub_succ h]
  by_cases hi : i < 32
  · simp [hi]
  · have : a.testBit i = false := Nat.testBit_lt_two_pow (Nat.lt_of_lt_of_le h (Nat.pow_le_pow_right (by omega) (by omega)))
    simp [hi, this]
theorem bits_not {c : Nat} (h : c < 4294967296) : bits .xor .u32 IntKind.u32.max (c : Int) = ((4294967295 - c : Nat) : Int) := by
  have e : IntKind.u32.max = ((4294967295 : Nat) : Int) := by decide
  rw [e, u32_xor_nat _ _ (by omega) h]
  have := xor_ones32 c (by omega)
  simp only [Nat.reducePow, Nat.reduceSub] at this
  rw [this]
  omega
set_option maxHeartbeats 400000 in
theorem more_some (w : World) (x : Nat) (b o cap : Nat) (xs : List Int) (hx : x < 4294967296) (hB : Bytes xs) (hl : xs.length ≤ 140737488355328)
    (hcell : ∀ j, j < xs.length → w.cell? ⟨b, o + j, none⟩ = some (.int .u8 (xs.getD j 0))) :
    Calls Try.prog 39 #[.int .u32 x, .slice (some ⟨b, o, none⟩) xs.length cap] w fun e w' => e = .returned (.int .u32 ((crc x xs : Nat) : Int)) ∧ w = w' := by
  have Hcell := Lib.hid hcell
  have HB := Lib.hid hB
  clear hcell hB
  go_enter Try.func39, Try.ntmps39
  go_wp2_with fail
  go_loop [0, 9] (fun a i => ∃ j y : Nat, i = .int .i64 j ∧ a = .int .u32 y ∧ j ≤ xs.length ∧ y < 4294967296 ∧ Hid (y = crc x (xs.take j))) (fun _ i => xs.length - (intOf i).toNat)
  case atStart => exact ⟨0, x, rfl, rfl, by omega, hx, rfl⟩
  case round =>
    obtain ⟨j, y, rfl, rfl, hj, hy, Hy⟩ := hrel
    by_cases hjl : j < xs.length
    · have hc := Hcell.out j hjl
      have hr := HB.out.at j
      have Hst : Hid (crc x (xs.take (j + 1)) = crcB (crc x (xs.take j)) (xs.getD j 0)) := by
        show _ = _
        rw [List.take_succ_eq_append_getElem hjl, crc_snoc]
        simp [List.getD, hjl]
      generalize xs.getD j 0 = c at hc hr Hst
      have hbb := bits_byte y c hy hr.1 hr.2
      have hz : y ^^^ c.toNat < 4294967296 := Nat.xor_lt_two_pow (n := 32) (by omega) (by omega)
      obtain ⟨z, hze⟩ : ∃ z, y ^^^ c.toNat = z := ⟨_, rfl⟩
      rw [hze] at hbb hz
      have Hz := Lib.hid hze
      clear hze
      go_wp2_with fail
      clear hbb
      go_loop [0, 17] (fun a i => ∃ k u : Nat, i = .int .i64 k ∧ a = .int .u32 u ∧ k ≤ 8 ∧ u < 4294967296 ∧ Hid (u = stepN k z)) (fun _ i => 8 - (intOf i).toNat)
      case atStart => exact ⟨0, z, rfl, rfl, by omega, hz, rfl⟩
      case round =>
        obtain ⟨k, u, rfl, rfl, hk, hu, Hu⟩ := hrel
        by_cases hk8 : k < 8
        · have hbs := bits_step u hu
          have hsl := step1_lt hu
          obtain ⟨s, hs⟩ : ∃ s, step1 u = s := ⟨_, rfl⟩
          rw [hs] at hbs hsl
          have Hs := Lib.hid hs
          clear hs
          go_wp2
          go_round
          case rel => exact ⟨k + 1, s, by go_num, rfl, by omega, hsl, by show _ = _; rw [stepN_succ, ← Hu.out, Hs.out]⟩
          case measure => simp [intOf]; omega
        · obtain rfl : k = 8 := by omega
          go_wp2
          go_round
          case rel => exact ⟨j + 1, u, by go_num, rfl, by omega, hu, by show _ = _; rw [Hst.out, ← Hy.out, Hu.out, ← Hz.out]; rfl⟩
          case measure => simp [intOf]; omega
    · obtain rfl : j = xs.length := by omega
      go_wp2
      go_ret
      have := Hy.out
      rw [List.take_length] at this
      exact ⟨ret_int (by rw [this]), rfl⟩
set_option maxHeartbeats 400000 in
theorem more_nil (w : World) (x : Nat) (A : Option Addr) (cap : Nat) :
    Calls Try.prog 39 #[.int .u32 x, .slice A 0 cap] w fun e w' => e = .returned (.int .u32 (x : Int)) ∧ w = w' := by
  go_enter Try.func39, Try.ntmps39
  go_wp2_with fail
  refine wp_loop_rounds 1 ?_
  rw [rounds_succ]
  go_wp2
  go_ret
  exact ⟨rfl, rfl⟩
theorem more_calls (w : World) (N : Nat → Prop) (x : Int) (v : Value) (xs : List Int) (h0 : 0 ≤ x) (h1 : x < 4294967296) (hv : RdL w N v xs) :
    Calls Try.prog 39 #[.int .u32 x, v] w fun e w' => e = .returned (.int .u32 ((crc x.toNat xs : Nat) : Int)) ∧ w = w' := by
  obtain ⟨y, rfl⟩ := Int.eq_ofNat_of_zero_le h0
  obtain ⟨hl, ⟨rfl, rfl⟩ | ⟨a, cap, rfl, rfl, _⟩ | ⟨b, o, cap, rfl, _, _, _, _, _, hc⟩⟩ := hv.form
  · exact more_nil w y none 0
  · exact more_nil w y (some a) cap
  · exact more_some w y b o cap xs (by omega) hv.2 hl hc

/-- A row that was just made. -/
theorem Rd.lit (w : World) (e : TypeId) (cs : List Value) (hm : cs.length ≤ 140737488355328) (N : Nat → Prop) (hN : N w.heap.size) (fr : Nat × Nat) : Rd (w.alloc (.cells cs.toArray e fr)) N (.slice (some ⟨w.heap.size, 0, none⟩) cs.length cs.length) cs.length 1 cs := by
  refine ⟨by omega, by simp, hm, .inr ⟨⟨w.heap.size, 0, none⟩, _, rfl, Nat.le_refl _, by simp only [maxLen]; omega, fun _ => hN, fun j u hu => ?_⟩⟩
  rw [Addr.add_lit, Nat.zero_add, cell_of_row _ _ _ _ _ _ (heap_alloc_new w _)]
  simpa using hu

set_option maxHeartbeats 400000 in
theorem sum_calls (w : World) (N : Nat → Prop) (v : Value) (xs : List Int) (hv : RdL w N v xs) :
    Calls Try.prog 17 #[v] w fun e w' => e = .returned (.int .u32 ((sumB xs : Nat) : Int)) ∧ w = w' := by
  have Hs := Lib.hid (show sumB xs = 4294967295 - crc (4294967295 : Int).toNat xs from rfl)
  have hlt := crc_lt (x := (4294967295 : Int).toNat) (by decide) hv.2
  go_enter Try.func17, Try.ntmps17
  go_wp2_with fail
  refine (more_calls w N _ v xs (by omega) (by omega) hv).mono ?_
  rintro e _ ⟨rfl, rfl⟩
  generalize crc (4294967295 : Int).toNat xs = c at hlt Hs
  go_wp2
  go_ret
  refine ⟨ret_int ?_, rfl⟩
  rw [Hs.out]
  exact bits_not hlt

set_option maxHeartbeats 400000 in
theorem put_calls (w : World) (base : Nat) (v : Value) (xs : List Int) (m : Nat) (hm : m < 4294967296) (hown : w.ownsRow base 5 1 v xs.length (u8s xs)) (hb : base ≤ w.heap.size) (hl : xs.length ≤ 70368744177664) :
    Calls Try.prog 38 #[v, .int .u32 m] w fun e w' => ∃ v', e = .returned v' ∧ w'.ownsRow base 5 1 v' (xs ++ four m).length (u8s (xs ++ four m)) ∧ w.grownBy w' v.ownBlock ∧ (v'.ownBlock = v.ownBlock ∨ ∃ g, v'.ownBlock = some g ∧ w.heap.size ≤ g) := by
  have hlit := Rd.lit w 5 [.int .u8 ((m : Int) % 256), .int .u8 ((m : Int) / 256 % 256), .int .u8 ((m : Int) / 65536 % 256), .int .u8 ((m : Int) / 16777216)] (by simp) (fun _ => True) trivial (0, 0)
  have Hf : Hid ([.int .u8 ((m : Int) % 256), .int .u8 ((m : Int) / 256 % 256), .int .u8 ((m : Int) / 65536 % 256), .int .u8 ((m : Int) / 16777216)] = u8s (four m)) := by
    show _ = _
    simp [u8s, four]
    omega
  have howna := hown.alloc (.cells [.int .u8 ((m : Int) % 256), .int .u8 ((m : Int) / 256 % 256), .int .u8 ((m : Int) / 65536 % 256), .int .u8 ((m : Int) / 16777216)].toArray 5)
  go_enter Try.func38, Try.ntmps38
  go_wp2_with (at_builtin; refine pushs rfl _ _ 22 5 rfl Try.underlying22 Try.infoU8 rfl (by omega) base v _ _ rfl howna (by simp; omega) _ 4 _ rfl hlit (by simp [Value.oneCell']) (by omega) ?_)
  intro A' cap' w1 hown' hgrow hat
  go_wp2
  go_ret
  rw [Hf.out] at hown'
  refine ⟨_, rfl, by simpa [u8s_append, four] using hown', World.grownBy.trans (World.grownBy_alloc w _ _) hgrow, ?_⟩
  rcases hat with h | ⟨g, h, hg⟩
  · exact .inl h
  · exact .inr ⟨g, h, Nat.le_trans (Nat.le_of_lt (by simp)) hg⟩

theorem or_join (a b : Nat) (k : Nat) (ha : a < 2 ^ k) (hb : b < 256) (hk : k ≤ 24) : bits .or .u32 (a : Int) ((b * 2 ^ k : Nat) : Int) = ((a + b * 2 ^ k : Nat) : Int) := by
  have hp : 2 ^ k ≤ 2 ^ 24 := Nat.pow_le_pow_right (by omega) hk
  have h1 : b * 2 ^ k ≤ 255 * 2 ^ k := Nat.mul_le_mul_right _ (by omega)
  rw [u32_or_nat _ _ (by omega) (by omega), Nat.or_comm, nat_join k _ _ (by simp) ha, Nat.add_comm]
set_option maxHeartbeats 400000 in
theorem get_calls (w : World) (N : Nat → Prop) (v : Value) (xs : List Int) (hv : RdL w N v xs) (hl : 4 ≤ xs.length) :
    Calls Try.prog 45 #[v] w fun e w' => e = .returned (.int .u32 ((getB xs : Nat) : Int)) ∧ ∃ n, w' = w.drewN n := by
  obtain ⟨b, o, cap, rfl, h1, h2, _, _, hc⟩ := hv.1.pos (by omega)
  have hm := hv.len
  have c0 := hc 0 _ (u8s_get xs 0 (by omega))
  rw [Nat.add_zero] at c0
  have c1 := hc 1 _ (u8s_get xs 1 (by omega))
  have c2 := hc 2 _ (u8s_get xs 2 (by omega))
  have c3 := hc 3 _ (u8s_get xs 3 (by omega))
  have r0 := hv.2.at 0
  have r1 := hv.2.at 1
  have r2 := hv.2.at 2
  have r3 := hv.2.at 3
  have Hg := Lib.hid (show getB xs = (xs.getD 0 0).toNat + (xs.getD 1 0).toNat * 256 + (xs.getD 2 0).toNat * 65536 + (xs.getD 3 0).toNat * 16777216 from rfl)
  clear hc hv
  simp only [maxLen] at h2
  generalize xs.getD 0 0 = x0 at c0 r0 Hg
  generalize xs.getD 1 0 = x1 at c1 r1 Hg
  generalize xs.getD 2 0 = x2 at c2 r2 Hg
  generalize xs.getD 3 0 = x3 at c3 r3 Hg
  obtain ⟨y0, rfl⟩ := Int.eq_ofNat_of_zero_le r0.1
  obtain ⟨y1, rfl⟩ := Int.eq_ofNat_of_zero_le r1.1
  obtain ⟨y2, rfl⟩ := Int.eq_ofNat_of_zero_le r2.1
  obtain ⟨y3, rfl⟩ := Int.eq_ofNat_of_zero_le r3.1
  have d0 : (0 : Int) < (xs.length : Int) := by omega
  have d1 : (1 : Int) < (xs.length : Int) := by omega
  have d2 : (2 : Int) < (xs.length : Int) := by omega
  have d3 : (3 : Int) < (xs.length : Int) := by omega
  go_enter Try.func45, Try.ntmps45
  go_wp2_with fail
  go_quiet (fail)
  go_wp2
  go_ret
  refine ⟨ret_int ?_, nq, rfl⟩
  have e1 := or_join y0 y1 8 (by omega) (by omega) (by omega)
  have e2 := or_join (y0 + y1 * 2 ^ 8) y2 16 (by omega) (by omega) (by omega)
  have e3 := or_join (y0 + y1 * 2 ^ 8 + y2 * 2 ^ 16) y3 24 (by omega) (by omega) (by omega)
  rw [show ((y1 : Int) * 256) = ((y1 * 2 ^ 8 : Nat) : Int) by omega, show ((y2 : Int) * 65536) = ((y2 * 2 ^ 16 : Nat) : Int) by omega, show ((y3 : Int) * 16777216) = ((y3 * 2 ^ 24 : Nat) : Int) by omega, e1, e2, e3, Hg.out]
  simp

set_option maxHeartbeats 400000 in
theorem seal_calls (w : World) (N : Nat → Prop) (v : Value) (xs : List Int) (hv : RdL w N v xs) (hs : xs.length ≤ 65536) :
    Calls Try.prog 15 #[v] w fun e w' => ∃ v', e = .returned v' ∧ NewB 5 w w' v' (four xs.length ++ four (sumB (four xs.length ++ xs)) ++ xs) := by
  obtain ⟨A, cap, rfl, h1, h2⟩ := hv.slice
  have hl := hv.len
  have Hsum := Lib.hid (show sumB (four xs.length ++ xs) = 4294967295 - crc (crc 4294967295 (four xs.length)) xs by rw [sumB, crc_append])
  have hlt1 := crc_lt (x := 4294967295) (by omega) (four_bytes xs.length)
  have hlt2 := crc_lt hlt1 hv.2
  have hwr : (xs.length : Int) % 4294967296 = (xs.length : Int) := by omega
  have Hw := Lib.hid hwr
  clear hwr
  go_enter Try.func15, Try.ntmps15
  go_wp2_with fail
  refine (put_calls w w.heap.size _ [] xs.length (by omega) (World.ownsRow_nil _ _ _ _) (Nat.le_refl _) (by simp)).mono ?_
  rintro e w1 ⟨v1, rfl, hown1, hg1, hat1⟩
  have hb1 : Below w.heap.size w w1 := (Below.refl _ _).grown hg1 (Nat.le_refl _) (fun k hk => by simp [Value.ownBlock] at hk)
  simp only [List.nil_append] at hown1
  have hr1 : RdB w1 (fun _ => True) v1 (four xs.length) := RdB.of_owns hown1 (by simp [four]) (four_bytes _) _ fun _ _ _ => trivial
  have hv1 := hv.below hb1
  go_wp2_with fail
  refine (more_calls w1 _ _ v1 _ (by omega) (by omega) hr1.1).mono ?_
  rintro e _ ⟨rfl, rfl⟩
  rw [show (4294967295 : Int).toNat = 4294967295 from rfl]
  go_wp2_with fail
  refine (more_calls w1 _ _ _ xs (by omega) (by omega) hv1).mono ?_
  rintro e _ ⟨rfl, rfl⟩
  rw [Int.toNat_natCast]
  have hnot := bits_not hlt2
  have Hn := Lib.hid hlt2
  generalize crc (crc 4294967295 (four xs.length)) xs = c at hnot Hsum Hn
  have hcm : 4294967295 - c < 4294967296 := by omega
  generalize 4294967295 - c = sm at hnot Hsum hcm
  clear hlt1 hlt2
  go_wp2_with fail
  refine (put_calls w1 w.heap.size v1 _ sm hcm hown1 hb1.size (by simp [four])).mono ?_
  rintro e w2 ⟨v2, rfl, hown2, hg2, hat2⟩
  have hb2 := own_below hb1 hown1 hg2
  have hv2 := hv.below hb2
  have hl4 : (four xs.length ++ four sm).length = 8 := by simp [four]
  rw [hl4] at hown2
  go_wp2_with (at_builtin; refine pushs rfl _ _ 22 5 rfl Try.underlying22 Try.infoU8 rfl (by omega) w.heap.size v2 _ _ rfl hown2 hb2.size _ _ _ rfl hv2.1 (u8s_oneCell _) (by omega) ?_)
  intro A' cap' w3 hown3 hgrow3 hat3
  go_wp2
  go_ret
  rw [Hsum.out]
  refine ⟨_, rfl, ?_, by simp [four]; omega, ((four_bytes _).app (four_bytes _)).app hv.2, own_below hb2 hown2 hgrow3⟩
  rw [show (four xs.length ++ four sm ++ xs).length = 8 + xs.length by simp [four]; omega, u8s_append]
  exact hown3
end Go.Proofs.Yteodbcgfmfkdmaa
