/- Walks of package bin: the writer. -/
import Derived.Test.YteegdhfekemhmaaRows
import Derived.Test.YteegdhfekemhmaaBinM
namespace Go.Proofs.Yteegdhfekemhmaa
open Go.RowKit

theorem Try.infoU8 : (Try.prog.info? 5).map (fun i => (i.zero, i.size, i.bytes)) = some (some (.int .u8 0), 1, 1) := by kernel_rfl

theorem bits_zz (n : Int) (h0 : -9223372036854775808 ≤ n) (h1 : n < 9223372036854775808) :
    bits .xor .u64 (IntKind.u64.wrap (IntKind.u64.wrap n * 2)) (IntKind.u64.wrap (n / 9223372036854775808)) = (zz n : Int) := by
  simp only [IntKind.wrap_u64]
  rw [u64_xor _ _ (by omega) (by omega) (by omega) (by omega)]
  by_cases hn : 0 ≤ n
  · have e1 : (n % 18446744073709551616 * 2 % 18446744073709551616).toNat = (2 * n).toNat := by omega
    have e2 : (n / 9223372036854775808 % 18446744073709551616).toNat = 0 := by omega
    rw [e1, e2, Nat.xor_zero, zz, if_pos hn]
  · have e1 : (n % 18446744073709551616 * 2 % 18446744073709551616).toNat = (2 * n + 18446744073709551616).toNat := by omega
    have e2 : (n / 9223372036854775808 % 18446744073709551616).toNat = 2 ^ 64 - 1 := by omega
    rw [e1, e2, xor_ones _ (by omega), zz, if_neg hn]
    omega
theorem bits_or128 (m : Nat) : bits .or .u8 ((m : Int) % 256) 128 = ((m % 128 + 128 : Nat) : Int) := by
  have e : ((m : Int) % 256) = ((m % 256 : Nat) : Int) := by omega
  rw [e, show (128 : Int) = ((128 : Nat) : Int) from rfl, u8_or_nat _ _ (by omega) (by omega)]
  congr 1
  apply Nat.eq_of_testBit_eq
  intro i
  rw [Nat.testBit_or]
  have h1 : m % 128 + 128 = 2 ^ 7 * 1 + m % 128 := by omega
  rw [h1, show (256 : Nat) = 2 ^ 8 from rfl, Nat.testBit_mod_two_pow, Nat.testBit_two_pow_mul_add (a := 1) (b := m % 128) (i := 7) (by omega), show (128 : Nat) = 2 ^ 7 from rfl, Nat.testBit_mod_two_pow, Nat.testBit_two_pow]
  by_cases hi : i < 7
  · simp [hi, show i < 8 by omega, show ¬ 7 = i by omega]
  · by_cases h7 : i = 7
    · subst h7; simp
    · have : 0 < i - 7 := by omega
      simp [hi, show ¬ i < 8 by omega, show ¬ 7 = i by omega]
      exact Nat.testBit_lt_two_pow (Nat.lt_of_lt_of_le (show 1 < 2 ^ 1 by omega) (Nat.pow_le_pow_right (by omega) this))

/-- A writer at block b (colour c) that holds bs. -/
def Wr (w : World) (col : Col) (c b : Nat) (bs : List Int) : Prop :=
  ∃ v, w.heap[b]? = some (.cells [v].toArray 130 (0, 0)) ∧ col b = c ∧ w.ownsRow 0 5 1 v bs.length (u8s bs) ∧ (∀ g, v.ownBlock = some g → col g = c) ∧ Bytes bs

set_option maxHeartbeats 400000 in
theorem num_calls (w : World) (col : Col) (c b : Nat) (bs : List Int) (n : Int) (hW : Wr w col c b bs) (hl : bs.length ≤ 70368744177664) (hn0 : -9223372036854775808 ≤ n) (hn1 : n < 9223372036854775808) :
    Calls Try.prog 83 #[.pointer (some ⟨b, 0, none⟩), .int .i64 n] w fun e w' => e = .returned (.tuple #[]) ∧ ∃ col', Wr w' col' c b (bs ++ numB n) ∧ Ext [c] w col w' col' := by
  have hz := Lib.hid (bits_zz n hn0 hn1)
  have hlt := zz_lt hn0 hn1
  have hlen := numB_len hn0 hn1
  go_enter Try.func83, Try.ntmps83
  go_wp2_with fail
  rw [hz.out]
  go_loopw [4] (fun u wr => ∃ (m : Nat) (pre : List Int) (col' : Col), u = .int .u64 m ∧ m < 18446744073709551616 ∧ Hid (pre ++ uvar m = numB n) ∧ Wr wr col' c b (bs ++ pre) ∧ Ext [c] w col wr col') (fun u _ => (intOf u).toNat)
  case atStart => exact ⟨zz n, [], col, rfl, hlt, rfl, by simpa using hW, Ext.refl _ _ _⟩
  case round =>
    obtain ⟨m, pre, col1, rfl, hm, hpre, ⟨v1, hb1, hcb1, hown1, hcol1, hB1⟩, hx1⟩ := hrel
    obtain ⟨k0, e0⟩ := cell_row hb1 (j := 0) rfl
    have hne := owns_type_ne hown1 hb1 (by decide)
    have hpl : pre.length + 1 ≤ 10 := by
      have h1 := congrArg List.length hpre.out
      have h2 := uvar_pos m
      simp at h1; omega
    have hlen2 : (bs ++ pre).length + 1 ≤ 140737488355328 := by simp; omega
    clear hz hlen hW
    by_cases hbig : 127 < m
    · go_wp2_with (at_builtin; refine push1 rfl _ _ 24 5 rfl Try.underlying24 Try.infoU8 rfl (by omega) 0 v1 _ _ rfl hown1 (by omega) _ rfl rfl (by omega) ?_)
      intro A' cap' w1 hown' hgrow hat
      obtain ⟨q0, q1⟩ := cell_row (grown_block hgrow hb1 hne) (j := 0) rfl
      go_wp2
      obtain ⟨col2, r1, r2, r3, r4, r5⟩ := own_push (j := 0) hb1 hcb1 hne hcol1 hgrow hown' hat
      go_roundw
      case rel =>
        refine ⟨m / 128, pre ++ [((m % 128 + 128 : Nat) : Int)], col2, by go_num, by omega, ?_, ⟨_, r1, r2, ?_, r4, ?_⟩, hx1.trans r5⟩
        · have := hpre.out
          rw [uvar_big hbig] at this
          show _ = _
          rw [← this]; simp
        · rw [bits_or128] at r3
          simpa [u8s_append, u8s, Nat.add_assoc] using r3
        · rw [← List.append_assoc]
          exact hB1.app (Bytes.one (by omega) (by omega))
      case measure => simp [intOf]; omega
    · have hsm : m ≤ 127 := by omega
      go_wp2_with (at_builtin; refine push1 rfl _ _ 24 5 rfl Try.underlying24 Try.infoU8 rfl (by omega) 0 v1 _ _ rfl hown1 (by omega) _ rfl rfl (by omega) ?_)
      intro A' cap' w1 hown' hgrow hat
      obtain ⟨q0, q1⟩ := cell_row (grown_block hgrow hb1 hne) (j := 0) rfl
      go_wp2
      obtain ⟨col2, r1, r2, r3, r4, r5⟩ := own_push (j := 0) hb1 hcb1 hne hcol1 hgrow hown' hat
      go_end0
      refine ⟨rfl, col2, ⟨_, r1, r2, ?_, r4, ?_⟩, hx1.trans r5⟩
      · have := hpre.out
        rw [uvar_small hsm] at this
        rw [← this]
        simpa [u8s_append, u8s, Nat.add_assoc] using r3
      · exact (show Bytes bs from fun x hx => hB1 x (by simp [hx])).app (numB_bytes n)

theorem own_slice' {w : World} {base : Nat} {e : TypeId} {size n : Nat} {v : Value} {xs : List Value} (h : w.ownsRow base e size v n xs) : ∃ A cap, v = .slice A n cap := by
  obtain ⟨A, cap, h, _⟩ := owns_slice h
  exact ⟨A, cap, h⟩

set_option maxHeartbeats 400000 in
theorem wtext_calls (w : World) (col : Col) (c b : Nat) (bs : List Int) (v : Value) (xs : List Int) (hW : Wr w col c b bs) (hv : RdL w (Out col [c]) v xs) (hl : bs.length + xs.length ≤ 70368744177664) :
    Calls Try.prog 84 #[.pointer (some ⟨b, 0, none⟩), v] w fun e w' => e = .returned (.tuple #[]) ∧ ∃ col', Wr w' col' c b (bs ++ textB xs) ∧ Ext [c] w col w' col' := by
  obtain ⟨A, cap, rfl, hc1, hc2⟩ := hv.slice
  have hlen := numB_len (n := xs.length) (by omega) (by omega)
  go_enter Try.func84, Try.ntmps84
  go_wp2_with fail
  refine (num_calls w col c b bs xs.length hW (by omega) (by omega) (by omega)).mono ?_
  rintro e w1 ⟨rfl, col1, hW1, hx1⟩
  have hv1 := hv.out hx1
  have hbl : (bs ++ numB ↑xs.length).length + xs.length ≤ 140737488355328 := by simp; omega
  obtain ⟨v1, hb1, hcb1, hown1, hcol1, hB1⟩ := hW1
  obtain ⟨k0, e0⟩ := cell_row hb1 (j := 0) rfl
  have hne := owns_type_ne hown1 hb1 (by decide)
  go_wp2_with (at_builtin; refine pushs rfl _ _ 24 5 rfl Try.underlying24 Try.infoU8 rfl (by omega) 0 v1 _ _ rfl hown1 (by omega) _ _ _ rfl hv1.1 (u8s_oneCell _) (by omega) ?_)
  intro A' cap' w2 hown' hgrow hat
  obtain ⟨q0, q1⟩ := cell_row (grown_block0 hgrow hb1 hne) (j := 0) rfl
  go_wp2
  obtain ⟨col2, r1, r2, r3, r4, r5⟩ := own_push0 (j := 0) hb1 hcb1 hne hcol1 hgrow hown' hat
  go_end0
  refine ⟨rfl, col2, ⟨_, r1, r2, ?_, r4, ?_⟩, hx1.trans r5⟩
  · simpa [u8s_append, textB, Nat.add_assoc] using r3
  · rw [textB, ← List.append_assoc]
    exact hB1.app hv.2

set_option maxHeartbeats 400000 in
theorem wflag_calls (w : World) (col : Col) (c b : Nat) (bs : List Int) (f : Bool) (hW : Wr w col c b bs) (hl : bs.length ≤ 70368744177664) :
    Calls Try.prog 112 #[.pointer (some ⟨b, 0, none⟩), .bool f] w fun e w' => e = .returned (.tuple #[]) ∧ ∃ col', Wr w' col' c b (bs ++ flagB f) ∧ Ext [c] w col w' col' := by
  obtain ⟨v1, hb1, hcb1, hown1, hcol1, hB1⟩ := hW
  obtain ⟨k0, e0⟩ := cell_row hb1 (j := 0) rfl
  have hne := owns_type_ne hown1 hb1 (by decide)
  cases f
  all_goals
    go_enter Try.func112, Try.ntmps112
    go_wp2_with (at_builtin; refine push1 rfl _ _ 24 5 rfl Try.underlying24 Try.infoU8 rfl (by omega) 0 v1 _ _ rfl hown1 (by omega) _ rfl rfl (by omega) ?_)
    intro A' cap' w2 hown' hgrow hat
    obtain ⟨q0, q1⟩ := cell_row (grown_block hgrow hb1 hne) (j := 0) rfl
    go_wp2
    obtain ⟨col2, r1, r2, r3, r4, r5⟩ := own_push (j := 0) hb1 hcb1 hne hcol1 hgrow hown' hat
    go_end0
    refine ⟨rfl, col2, ⟨_, r1, r2, ?_, r4, hB1.app (flagB_bytes _)⟩, r5⟩
    simpa [u8s_append, u8s, flagB] using r3

set_option maxHeartbeats 400000 in
theorem clone_calls (w : World) (N : Nat → Prop) (v : Value) (xs : List Int) (hv : RdL w N v xs) :
    Calls Try.prog 96 #[v] w fun e w' => ∃ v', e = .returned v' ∧ NewB 5 w w' v' xs := by
  have hvl := hv.len
  have hm := hv.1.2.2.2
  rcases hm with ⟨rfl, h0⟩ | ⟨ad, cap, rfl, h1, h2, h3, h4⟩
  · have hnil : xs = [] := List.eq_nil_of_length_eq_zero h0
    subst hnil
    have hq := fun W => Lib.run_eql_slice_nil (P := Try.prog) W 24 5 none 0 0 0 0 Try.underlying24
    go_enter Try.func96, Try.ntmps96
    go_wp2
    go_ret
    exact ⟨_, rfl, World.ownsRow_nil _ _ _ _, by simp, Bytes.nil, Below.refl _ _⟩
  · have hq := fun W => Lib.run_eql_slice_nil (P := Try.prog) W 24 5 (some ad) xs.length cap 0 0 Try.underlying24
    have hown := World.ownsRow_lit (base := w.heap.size) (e := 5) (size := 1) w #[] 0 (Nat.le_refl _) (by simp [maxLen]) rfl
    have hv1 := hv.below ((Below.refl _ _).alloc (Nat.le_refl _) (.cells #[] 5))
    clear h4
    go_enter Try.func96, Try.ntmps96
    go_wp2_with (at_builtin; refine pushs rfl _ _ 24 5 rfl Try.underlying24 Try.infoU8 rfl (by omega) w.heap.size _ _ _ rfl hown (by simp) _ _ _ rfl hv1.1 (u8s_oneCell _) (by omega) ?_)
    intro A' cap' w2 hown' hgrow hat
    go_wp2
    go_ret
    refine ⟨_, rfl, by simpa using hown', hvl, hv.2, ((Below.refl _ _).alloc (Nat.le_refl _) _).grown hgrow (by simp) ?_⟩
    intro k hk
    cases hk
    exact Nat.le_refl _

set_option maxHeartbeats 400000 in
theorem wbytes_calls (w : World) (col : Col) (c b : Nat) (bs : List Int) (hW : Wr w col c b bs) (hl : bs.length ≤ 140737488355328) :
    Calls Try.prog 85 #[.pointer (some ⟨b, 0, none⟩)] w fun e w' => ∃ v', e = .returned v' ∧ NewB 5 w w' v' bs := by
  obtain ⟨v1, hb1, hcb1, hown1, hcol1, hB1⟩ := hW
  obtain ⟨k0, e0⟩ := cell_row hb1 (j := 0) rfl
  have hv : RdB w (fun _ => True) v1 bs := RdB.of_owns hown1 hl hB1 _ fun _ _ _ => trivial
  go_enter Try.func85, Try.ntmps85
  go_wp2_with (go_at_call 96; refine (clone_calls _ _ _ _ hv.1).mono ?_; rintro e w' ⟨v', rfl, hn⟩)
  go_ret
  exact ⟨_, rfl, hn⟩
theorem Wr.ext {S : List Nat} {w w' : World} {col col' : Col} {c b : Nat} {bs : List Int} (h : Wr w col c b bs) (hx : Ext S w col w' col') (hc : c ∉ S) : Wr w' col' c b bs := by
  obtain ⟨v, hb, hcb, hown, hcol, hB⟩ := h
  refine ⟨v, by rw [hx.block b (heap_lt hb) (by rw [hcb]; exact hc)]; exact hb, by rw [hx.col b (heap_lt hb)]; exact hcb, ?_, ?_, hB⟩
  · refine ⟨hown.1, ?_⟩
    rcases hown.2 with h | ⟨g, cap, cur, rfl, hbg, hg, r⟩
    · exact .inl h
    · refine .inr ⟨g, cap, cur, rfl, hbg, ?_, r⟩
      rw [hx.block g (heap_lt hg) (by rw [hcol g rfl]; exact hc)]
      exact hg
  · intro g hg
    rw [hx.col g (hown.lt g hg).2]
    exact hcol g hg
/-- A new writer: a block that was just made. -/
theorem Wr.new (w : World) (col : Col) (c : Nat) : Wr (w.alloc (.cells #[.slice none 0 0] 130)) (newcol w col c) c w.heap.size [] :=
  ⟨.slice none 0 0, heap_alloc_new _ _, newcol_new (Nat.le_refl _), World.ownsRow_nil _ _ _ _, by intro g hg; simp [Value.ownBlock] at hg, Bytes.nil⟩
end Go.Proofs.Yteegdhfekemhmaa
