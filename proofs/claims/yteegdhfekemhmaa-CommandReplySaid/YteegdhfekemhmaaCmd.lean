/- Package command: which commands may be; a command as bytes. -/
import Derived.Test.YteegdhfekemhmaaBinT
import Derived.Test.YteegdhfekemhmaaStr
namespace Go.Proofs.Yteegdhfekemhmaa
open Go.RowKit
set_option linter.unusedSimpArgs false
set_option linter.unusedVariables false

/-- Which commands may be. -/
def MayC (k c q : Int) (s : ByteArray) : Prop := 1 ≤ k ∧ k ≤ 4 ∧ 1 ≤ c ∧ c ≤ 8 ∧ 1 ≤ q ∧ q ≤ 1099511627776 ∧ s.size ≤ 4000
instance (k c q : Int) (s : ByteArray) : Decidable (MayC k c q s) := by unfold MayC; infer_instance
def cmdV (k c q : Int) (s : ByteArray) : Value := .agg #[.int .i64 k, .int .i64 c, .int .i64 q, .string s]

set_option maxHeartbeats 1000000 in
set_option maxRecDepth 100000 in
theorem may_calls (w : World) (k c q : Int) (s : ByteArray) :
    Calls Try.prog 82 #[cmdV k c q s] w fun e w' => e = .returned (.bool (decide (MayC k c q s))) ∧ Below w.heap.size w w' := by
  have hb := (Below.refl w.heap.size w).alloc (Nat.le_refl _) (.cells #[.int .i64 k, .int .i64 c, .int .i64 q, .string s] 23)
  have e1 : MayC k c q s = (1 ≤ k ∧ k ≤ 4 ∧ 1 ≤ c ∧ c ≤ 8 ∧ 1 ≤ q ∧ q ≤ 1099511627776 ∧ s.size ≤ 4000) := rfl
  have He := Lib.hid e1
  clear e1
  unfold cmdV
  go_enter Try.func82, Try.ntmps82
  go_wp2
  all_goals
    go_ret
    refine ⟨ret_bool ?_, hb⟩
    rw [eq_comm]
    first | (rw [decide_eq_true_iff, He.out]; omega) | (rw [decide_eq_false_iff_not, He.out]; omega) | (simp only [He.out]; rw [decide_eq_decide]; omega)

def cmdB (k c q : Int) (s : ByteArray) : List Int := numB k ++ numB c ++ numB q ++ textB (sNums s)
theorem cmdB_bytes (k c q : Int) (s : ByteArray) : Bytes (cmdB k c q s) := (((numB_bytes _).app (numB_bytes _)).app (numB_bytes _)).app (textB_bytes (sNums_bytes s))
theorem MayC.i64 {k c q : Int} {s : ByteArray} (h : MayC k c q s) : (-9223372036854775808 ≤ k ∧ k < 9223372036854775808) ∧ (-9223372036854775808 ≤ c ∧ c < 9223372036854775808) ∧ (-9223372036854775808 ≤ q ∧ q < 9223372036854775808) ∧ s.size ≤ 4000 := by
  unfold MayC at h; omega
theorem cmdB_len {k c q : Int} {s : ByteArray} (h : MayC k c q s) : (cmdB k c q s).length ≤ 4040 := by
  obtain ⟨h1, h2, h3, h4⟩ := h.i64
  have a1 := numB_len h1.1 h1.2
  have a2 := numB_len h2.1 h2.2
  have a3 := numB_len h3.1 h3.2
  have a4 := textB_len (xs := sNums s) (by rw [sNums_len]; omega)
  rw [sNums_len] at a4
  simp [cmdB]; omega

set_option maxHeartbeats 2000000 in
set_option maxRecDepth 100000 in
theorem encode_no (w : World) (k c q : Int) (s : ByteArray) (hm : ¬ MayC k c q s) :
    Calls Try.prog 22 #[cmdV k c q s] w fun e w' => e = .returned (.tuple #[.slice none 0 0, .int .i64 3]) ∧ Below w.heap.size w w' := by
  have hc := may_calls (w.alloc (.cells #[.int .i64 k, .int .i64 c, .int .i64 q, .string s] 23)) k c q s
  rw [show decide (MayC k c q s) = false by simpa using hm] at hc
  have hb := (Below.refl w.heap.size w).alloc (Nat.le_refl _) (.cells #[.int .i64 k, .int .i64 c, .int .i64 q, .string s] 23)
  unfold cmdV at hc ⊢
  clear hm
  go_enter Try.func22, Try.ntmps22
  go_wp2_with fail
  refine hc.mono ?_
  rintro e w1 ⟨rfl, hb1⟩
  go_wp2
  go_ret2
  exact ⟨rfl, below_then' hb hb.size hb1⟩

set_option maxHeartbeats 2000000 in
set_option maxRecDepth 100000 in
theorem encode_yes (w : World) (k c q : Int) (s : ByteArray) (hm : MayC k c q s) :
    Calls Try.prog 22 #[cmdV k c q s] w fun e w' => ∃ v', e = .returned (.tuple #[v', .int .i64 0]) ∧ NewB 5 w w' v' (cmdB k c q s) := by
  have hc := may_calls (w.alloc (.cells #[.int .i64 k, .int .i64 c, .int .i64 q, .string s] 23)) k c q s
  rw [show decide (MayC k c q s) = true by simpa using hm] at hc
  have hb := (Below.refl w.heap.size w).alloc (Nat.le_refl _) (.cells #[.int .i64 k, .int .i64 c, .int .i64 q, .string s] 23)
  have hbox := heap_alloc_new w (.cells #[.int .i64 k, .int .i64 c, .int .i64 q, .string s] 23)
  obtain ⟨hk, hcl, hq, hsz⟩ := hm.i64
  have hlen := cmdB_len hm
  have HB := Lib.hid (show cmdB k c q s = numB k ++ numB c ++ numB q ++ textB (sNums s) from rfl)
  have lk := numB_len hk.1 hk.2
  have lc := numB_len hcl.1 hcl.2
  have lq := numB_len hq.1 hq.2
  unfold cmdV at hc ⊢
  clear hm
  go_enter Try.func22, Try.ntmps22
  go_wp2_with fail
  refine hc.mono ?_
  rintro e w1 ⟨rfl, hb1⟩
  have hlt : w.heap.size < w1.heap.size := Nat.lt_of_lt_of_le (heap_lt hbox) hb1.size
  have hbox1 : w1.heap[w.heap.size]? = some (.cells [.int .i64 k, .int .i64 c, .int .i64 q, .string s].toArray 23 (0, 0)) := (hb1.block _ (heap_lt hbox)).trans hbox
  have hb1' := below_then' hb hb.size hb1
  have HC := Lib.hid (fun (W : World) (col' : Col) (hx : Ext [1] w1 (fun _ => 0) W col') => (show _ from (hx.block w.heap.size hlt (by decide)).trans hbox1))
  have HC2 := Lib.hid (fun (W : World) (col' : Col) (hx : Ext [1] w1 (fun _ => 0) W col') => (show W.cell? ⟨w.heap.size, 0, none⟩ = some (.int .i64 k) ∧ W.cell? ⟨w.heap.size, 1, none⟩ = some (.int .i64 c) ∧ W.cell? ⟨w.heap.size, 2, none⟩ = some (.int .i64 q) ∧ W.cell? ⟨w.heap.size, 3, none⟩ = some (.string s) from
    ⟨(cell_row (HC.out W col' hx) (j := 0) rfl).1, (cell_row (HC.out W col' hx) (j := 1) rfl).1, (cell_row (HC.out W col' hx) (j := 2) rfl).1, (cell_row (HC.out W col' hx) (j := 3) rfl).1⟩))
  have hx1 : Ext [1] w1 (fun _ => 0) (w1.alloc (.cells #[.slice none 0 0] 130)) (newcol w1 (fun _ => 0) 1) := (Ext.refl _ _ _).alloc _ 1
  have hW1 := Wr.new w1 (fun _ => 0) 1
  obtain ⟨k0, -, -, -⟩ := HC2.out _ _ hx1
  clear hb1 hb hbox hbox1 hc
  go_wp2_with fail
  refine (num_calls _ _ 1 _ _ k hW1 (by simp) hk.1 hk.2).mono ?_
  rintro e w2 ⟨rfl, col2, hW2, hx2⟩
  have hx2' := hx1.trans hx2
  obtain ⟨-, k1, -, -⟩ := HC2.out _ _ hx2'
  clear k0 hx2 hx1 hW1
  go_wp2_with fail
  refine (num_calls _ _ 1 _ _ c hW2 (by simp; omega) hcl.1 hcl.2).mono ?_
  rintro e w3 ⟨rfl, col3, hW3, hx3⟩
  have hx3' := hx2'.trans hx3
  obtain ⟨-, -, k2, -⟩ := HC2.out _ _ hx3'
  clear k1 hx3 hx2' hW2
  go_wp2_with fail
  refine (num_calls _ _ 1 _ _ q hW3 (by simp; omega) hq.1 hq.2).mono ?_
  rintro e w4 ⟨rfl, col4, hW4, hx4⟩
  have hx4' := hx3'.trans hx4
  obtain ⟨-, -, -, k3⟩ := HC2.out _ _ hx4'
  clear k2 hx4 hx3' hW3
  obtain ⟨A, cap, W5, hcv, hr, hb5⟩ := str_bytes (P := Try.prog) w4 s (by omega) Try.underlying9 Try.underlying24 Try.underlying5
  have hx5 : Ext [] w4 col4 W5 (newcol w4 col4 0) := Ext.newc hb5 0
  have hr5 := (hr.newc col4 0).to_out (S := [1]) (by decide)
  have hW5 := hW4.ext hx5 (by decide)
  have hx5' := hx4'.trans (hx5.mono (by decide))
  have hl5 := sNums_len s
  have Hl5 := Lib.hid hl5
  rw [← hl5] at hcv hr5
  have hsz5 : (sNums s).length ≤ 4000 := by omega
  generalize sNums s = xs at hcv hr5 HB hsz5
  clear hr hb5 hx5 hx4' hW4 hl5 Hl5
  go_wp2_with fail
  refine (wtext_calls _ _ 1 _ _ _ xs hW5 hr5.1 (by simp; omega)).mono ?_
  rintro e w6 ⟨rfl, col6, hW6, hx6⟩
  have hx6' := hx5'.trans hx6
  have e6 : [] ++ numB k ++ numB c ++ numB q ++ textB xs = cmdB k c q s := by rw [HB.out, List.nil_append]
  rw [e6] at hW6
  clear e6
  go_wp2_with fail
  refine (wbytes_calls _ _ 1 _ _ hW6 (by omega)).mono ?_
  rintro e w7 ⟨v7, rfl, hn7⟩
  obtain ⟨A7, cap7, rfl⟩ := own_slice' hn7.1
  have hfin := hn7.since (below_then' hb1' hb1'.size (hx6'.below0 (by decide)))
  go_wp2
  go_ret2
  exact ⟨_, rfl, hfin⟩
end Go.Proofs.Yteegdhfekemhmaa
