/- The statements of layer 2: a byte changed. -/
import Derived.Test.YteodbcgfmfkdmaaFrameL
import Derived.Deep.AppendLies
import Derived.Lib.SlicesS
namespace Go.Proofs.Yteodbcgfmfkdmaa
open Go.RowKit

theorem wf64 {n : Int} (h : (Lit.int .i64 n).wf = true) : -9223372036854775808 ≤ n ∧ n < 9223372036854775808 := by
  simp [Lit.wf, IntKind.min, IntKind.max, IntKind.signed, IntKind.bits] at h
  omega
theorem u8_flip {a b : Int} (ha0 : 0 ≤ a) (ha1 : a ≤ 255) (hb0 : 0 ≤ b) (hb1 : b ≤ 255) (hb : b ≠ 0) : ∃ d, bits .xor .u8 a b = d ∧ 0 ≤ d ∧ d ≤ 255 ∧ d ≠ a := by
  refine ⟨_, rfl, ?_⟩
  rw [u8_xor a b ha0 (by omega) hb0 (by omega)]
  have h1 : a.toNat ^^^ b.toNat < 2 ^ 8 := Nat.xor_lt_two_pow (by omega) (by omega)
  refine ⟨by omega, by omega, fun h => ?_⟩
  have h2 : a.toNat ^^^ b.toNat = a.toNat := by omega
  have h3 : a.toNat ^^^ (a.toNat ^^^ b.toNat) = b.toNat := by rw [← Nat.xor_assoc, Nat.xor_self, Nat.zero_xor]
  rw [h2, Nat.xor_self] at h3
  omega
theorem flip_scan {xs : List Int} (hB : Bytes xs) (hl : xs.length ≤ 65536) {k : Nat} {d : Int} (hk : k < 8 + xs.length) (h0 : 0 ≤ d) (h1 : d ≤ 255) (hne : d ≠ (sealB xs).getD k 0) :
    (scan ((sealB xs).set k d)).1 = [] ∨ ∃ z r, (scan ((sealB xs).set k d)).1 = z :: r ∧ z ≠ xs := by
  cases hf : firstB ((sealB xs).set k d) with
  | none => exact .inl (by rw [scan_none hf])
  | some z =>
    refine .inr ⟨z, _, by rw [scan_some hf], fun h => ?_⟩
    exact flip_no hB hl hk h0 h1 hne hf (by rw [h])
theorem bytes_set {xs : List Int} (hB : Bytes xs) {k : Nat} {d : Int} (h0 : 0 ≤ d) (h1 : d ≤ 255) : Bytes (xs.set k d) := by
  intro y hy
  rcases List.mem_or_eq_of_mem_set hy with h | h
  · exact hB y h
  · omega
theorem u8s_set (xs : List Int) (k : Nat) (d : Int) : (u8s xs).set k (.int .u8 d) = u8s (xs.set k d) := by simp [u8s, List.map_set]

theorem conv_drewN {P : Program} {w : World} {N : Nat → Prop} {v : Value} {xs : List Int} (h : RdL w N v xs) (n : Nat) {s : ByteArray} (hs0 : strOfNums xs = s) {src dst e : TypeId} (hs : P.underlying src = some (.slice e)) (he : P.underlying e = some (.int .u8)) (hd : P.underlying dst = some .string) :
    (convert src dst v).run P (w.drewN n) = .ok (.string s) (w.drewN n) := by
  rw [← hs0]
  exact RdL.conv (show RdL (w.drewN n) N v xs from h) hs he hd
/-- What is behind the seal's making: the byte is changed, the rest is told. -/
def FlipRest (w : World) (ys S S' : List Int) (k : Nat) (d : Int) : Prop :=
  S.length = 8 + ys.length ∧ S'.length = S.length ∧ Bytes S' ∧ openB S' = none ∧ ((scan S').1 = [] ∨ ∃ z r, (scan S').1 = z :: r ∧ z ≠ ys)

set_option maxHeartbeats 2000000 in
set_option maxRecDepth 100000 in
theorem frameflip_calls (w : World) (v : Value) (xs : List Int) (at0 x : Int) (hv : RdL w (fun _ => True) v xs) (hat0 : (Lit.int .i64 at0).wf = true) (hx0 : (Lit.int .u8 x).wf = true) :
    Calls Try.prog 6 #[v, .int .i64 at0, .int .u8 x] w fun e w' => e = .returned (.bool true) ∧ Below w.heap.size w w' := by
  have hat := wf64 hat0
  have hx : 0 ≤ x ∧ x ≤ 255 := by simp [Lit.wf, IntKind.min, IntKind.max, IntKind.signed, IntKind.bits] at hx0; omega
  clear hat0 hx0
  obtain ⟨A, cap, rfl, hc1, hc2⟩ := hv.slice
  have hll := hv.len
  simp only [maxLen] at hc2
  go_enter Try.func6, Try.ntmps6
  go_wp2_with fail
  refine (begun2_calls _).mono ?_
  rintro e w1 ⟨rfl, hb1⟩
  have hv1 := hv.below hb1
  have hshort : (xs.take 200).length ≤ 65536 := by simp; omega
  have hT : ∀ c2, RdL w1 (fun _ => True) (.slice A xs.length c2) xs → xs.length ≤ 200 → RdL w1 (fun _ => True) (.slice A xs.length c2) (xs.take 200) := fun c2 h hl => by rw [List.take_of_length_le hl]; exact h
  by_cases hlong : 200 < xs.length
  all_goals
    first | (have hy := hv1.front (i := 200) (by omega)) | (have hy := hT _ hv1 (by omega))
    generalize hys : xs.take 200 = ys at hy hshort
    clear hT hys
    have hBy := hy.2
    have HBy := Lib.hid hBy
    clear hBy
    go_wp2_with fail
    refine (seal_new _ _ _ ys hy hshort).mono ?_
    rintro e w2 ⟨v2, rfl, hn2⟩
    have hb2 := below_then' hb1 hb1.size hn2.2.2.2
    by_cases hq : at0 < 0 ∨ x = 0
    · rcases hq with hq | rfl
      · have d1 : decide (at0 < 0) = true := by simpa using hq
        go_wp2
        go_ret
        exact ⟨rfl, hb2⟩
      · by_cases hq : at0 < 0
        · have d1 : decide (at0 < 0) = true := by simpa using hq
          go_wp2
          go_ret
          exact ⟨rfl, hb2⟩
        · have d1 : decide (at0 < 0) = false := by simpa using hq
          go_wp2
          go_ret
          exact ⟨rfl, hb2⟩
    · have d1 : decide (at0 < 0) = false := by simp; omega
      have d2 : (x == 0) = false := by simp; omega
      obtain ⟨a, rfl⟩ := Int.eq_ofNat_of_zero_le (show 0 ≤ at0 by omega)
      have hslen := seal_len hshort
      have hx00 : x ≠ 0 := by omega
      clear hq
      obtain ⟨S, hS⟩ : ∃ S, sealB ys = S := ⟨_, rfl⟩
      have hk : a % S.length < S.length := Nat.mod_lt _ (by rw [← hS, hslen]; omega)
      have hmod1 : (a : Int) % (S.length : Int) = ((a % S.length : Nat) : Int) := by omega
      have hmod2 : (a : Int).tmod (S.length : Int) = ((a % S.length : Nat) : Int) := by rw [Int.tmod_eq_emod_of_nonneg (by omega)]; omega
      generalize a % S.length = k at hk hmod1 hmod2
      have hBS : Bytes S := by rw [← hS]; exact seal_bytes HBy.out
      have hr := hBS.at k
      obtain ⟨dd, hdd, hd0, hd1, hdne⟩ := u8_flip hr.1 hr.2 hx.1 hx.2 hx00
      rw [← hS] at hdne
      have Hopen := Lib.hid (flip_open HBy.out hshort (by rw [← hslen, hS]; exact hk) hd0 hd1 hdne)
      have hscan := (flip_scan HBy.out hshort (by rw [← hslen, hS]; exact hk) hd0 hd1 hdne)
      rw [hS] at Hopen hscan hn2 hslen
      obtain ⟨g, cap2, rfl, hg1, hg2⟩ := hn2.1.form (by omega)
      have hcell := hn2.1.cellAt k (by omega)
      rw [u8s_get _ _ hk] at hcell
      have hfz := hn2.1.frozenAt k
      have hst := hn2.1.stored k (.int .u8 dd)
      rw [u8s_set] at hst
      have hw3 := hn2.2.2.2.grown hst.2 hn2.2.2.2.size (fun k hk => by simp at hk; omega)
      generalize S.getD k 0 = c at hcell hdd hr hdne
      have hSl : S.length ≤ 1000000 := by omega
      have hr3 : RdB _ (fun _ => True) _ (S.set k dd) := RdB.of_owns (by simpa using hst.1) (by omega) (bytes_set hBS hd0 hd1) _ fun _ _ _ => trivial
      have Hr3 := Lib.hid hr3
      have Hw3 := Lib.hid hw3
      clear hr3 hw3 hst hBS hslen
      go_wp2_with fail
      have hF := open_calls _ _ _ _ Hr3.out.1
      rw [Hopen.out] at hF
      refine hF.mono ?_
      rintro e w4 ⟨v4, rfl, hn4⟩
      rw [Option.isSome_none]
      rw [Option.getD_none] at hn4
      have hr4 := Hr3.out.below hn4.2.2.2
      have hb4 := below_then' Hw3.out Hw3.out.size hn4.2.2.2
      clear hF hdd hcell hfz hmod1 hmod2
      go_wp2_with fail
      refine (scan_calls w4 _ _ _ hr4 (by simpa using hSl)).mono ?_
      rintro e w5 ⟨v5, rfl, hL, hb5⟩
      have hb15 := below_then' hb4 hb4.size hb5
      have hy5 := hy.below hb15
      have hall := below_then' hb1 hb1.size hb15
      generalize scan (S.set k dd) = r at hL hscan
      obtain ⟨r1, r2⟩ := r
      simp only at hL hscan
      rcases hscan with rfl | ⟨z, rr, rfl, hz⟩
      · obtain ⟨A5, cap5, rfl, _, _⟩ := hL.slice
        go_wp2_with fail
        go_quiet (fail)
        go_wp2
        go_ret
        exact ⟨rfl, below_drewN' hall _⟩
      · obtain ⟨b5, o5, cap5, c5, rfl, hc5, hz5⟩ := hL.get (i := 0) (by simp)
        obtain ⟨m, hm, hm0⟩ : ∃ m, (z :: rr).length = m ∧ 0 < m := ⟨_, rfl, by simp⟩
        rw [hm]
        rw [show (z :: rr).getD 0 [] = z from rfl] at hz5
        rw [Nat.add_zero] at hc5
        obtain ⟨sZ, hsZ⟩ : ∃ s, strOfNums z = s := ⟨_, rfl⟩
        obtain ⟨sY, hsY⟩ : ∃ s, strOfNums ys = s := ⟨_, rfl⟩
        have hbe : (sZ.toList == sY.toList) = false := by
          rw [Go.Lib.bytes_beq_false_iff, ← hsZ, ← hsY]
          exact fun h => hz (strOfNums_inj hz5.2 HBy.out h)
        have hk1 := fun n => conv_drewN (P := Try.prog) hz5 n hsZ Try.underlying22 Try.underlying5 Try.underlying9
        have hk2 := fun n => conv_drewN (P := Try.prog) hy5 n hsY Try.underlying22 Try.underlying5 Try.underlying9
        have e1 : ((m : Int) == 0) = false := by simp; omega
        have e2 : (0 : Int) < (m : Int) := by omega
        clear hm hsZ hsY hz hz5 hy5 hy hL hr4 hn4
        go_wp2_with fail
        go_quiet (fail)
        go_wp2
        go_ret
        exact ⟨rfl, below_drewN' hall _⟩
end Go.Proofs.Yteodbcgfmfkdmaa
