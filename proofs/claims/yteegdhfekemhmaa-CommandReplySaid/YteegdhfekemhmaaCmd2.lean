/- Package command: a command read. -/
import Derived.Test.YteegdhfekemhmaaCmd
namespace Go.Proofs.Yteegdhfekemhmaa
open Go.RowKit
set_option linter.unusedSimpArgs false
set_option linter.unusedVariables false

set_option maxHeartbeats 400000 in
theorem whole_calls (w : World) (col : Col) (c b : Nat) (xs : List Int) (bad : Bool) (hR : Rr w col c b xs bad) :
    Calls Try.prog 89 #[.pointer (some ⟨b, 0, none⟩)] w fun e w' => e = .returned (.bool (!bad && xs.isEmpty)) ∧ w = w' := by
  have h1 := rok_calls w col c b xs bad hR.1
  have h2 := rleft_calls w col c b xs bad hR.1
  cases bad with
  | true =>
    go_enter Try.func89, Try.ntmps89
    go_wp2_with fail
    refine h1.mono ?_
    rintro e _ ⟨rfl, rfl⟩
    go_wp2
    go_ret
    exact ⟨ret_bool (by simp), rfl⟩
  | false =>
    have he : ((xs.length : Int) == 0) = xs.isEmpty := by cases xs <;> simp; omega
    have He := Lib.hid he
    clear he
    go_enter Try.func89, Try.ntmps89
    go_wp2_with fail
    refine h1.mono ?_
    rintro e _ ⟨rfl, rfl⟩
    go_wp2_with fail
    refine h2.mono ?_
    rintro e _ ⟨rfl, rfl⟩
    go_wp2
    go_ret
    exact ⟨ret_bool (by rw [He.out]; simp), rfl⟩

def dk (xs : List Int) : Int := rN xs
def dc (xs : List Int) : Int := rN (rRest xs)
def dq (xs : List Int) : Int := rN (rRest (rRest xs))
def dt (xs : List Int) : List Int := rT (rRest (rRest (rRest xs)))
def dl (xs : List Int) : List Int := rTRest (rRest (rRest (rRest xs)))
def db (xs : List Int) : Bool := rTBad (rRest (rRest (rRest xs))) (rBad (rRest (rRest xs)) (rBad (rRest xs) (rBad xs false)))
/-- Are bytes a command? -/
def Dec (xs : List Int) : Prop := db xs = false ∧ dl xs = [] ∧ MayC (dk xs) (dc xs) (dq xs) (strOfNums (dt xs))
instance (xs : List Int) : Decidable (Dec xs) := by unfold Dec; infer_instance
def decR (xs : List Int) : Value := if Dec xs then .tuple #[cmdV (dk xs) (dc xs) (dq xs) (strOfNums (dt xs)), .int .i64 0] else .tuple #[cmdV 0 0 0 ⟨#[]⟩, .int .i64 3]

set_option maxHeartbeats 4000000 in
set_option maxRecDepth 100000 in
theorem decode_calls (w : World) (N : Nat → Prop) (v : Value) (xs : List Int) (hv : RdL w N v xs) :
    Calls Try.prog 27 #[v] w fun e w' => e = .returned (decR xs) ∧ Below w.heap.size w w' := by
  obtain ⟨A, cap, rfl, -, -⟩ := hv.slice
  have Hd := Lib.hid (show decR xs = if db xs = false ∧ dl xs = [] ∧ MayC (dk xs) (dc xs) (dq xs) (strOfNums (dt xs)) then .tuple #[cmdV (dk xs) (dc xs) (dq xs) (strOfNums (dt xs)), .int .i64 0] else .tuple #[cmdV 0 0 0 ⟨#[]⟩, .int .i64 3] from rfl)
  generalize decR xs = R at Hd
  obtain ⟨a1, r1, b1, h1a, h1r, h1b⟩ : ∃ a r b, rN xs = a ∧ rRest xs = r ∧ rBad xs false = b := ⟨_, _, _, rfl, rfl, rfl⟩
  obtain ⟨a2, r2, b2, h2a, h2r, h2b⟩ : ∃ a r b, rN r1 = a ∧ rRest r1 = r ∧ rBad r1 b1 = b := ⟨_, _, _, rfl, rfl, rfl⟩
  obtain ⟨a3, r3, b3, h3a, h3r, h3b⟩ : ∃ a r b, rN r2 = a ∧ rRest r2 = r ∧ rBad r2 b2 = b := ⟨_, _, _, rfl, rfl, rfl⟩
  obtain ⟨t, r4, b4, h4a, h4r, h4b⟩ : ∃ a r b, rT r3 = a ∧ rTRest r3 = r ∧ rTBad r3 b3 = b := ⟨_, _, _, rfl, rfl, rfl⟩
  unfold db dl dk dc dq dt at Hd
  rw [h1a, h1b, h1r, h2a, h2b, h2r, h3a, h3b, h3r, h4a, h4b, h4r] at Hd
  have H1 := Lib.hid (And.intro h1a (And.intro h1r h1b))
  have H2 := Lib.hid (And.intro h2a (And.intro h2r h2b))
  have H3 := Lib.hid (And.intro h3a (And.intro h3r h3b))
  have H4 := Lib.hid (And.intro h4a (And.intro h4r h4b))
  clear h1a h1r h1b h2a h2r h2b h3a h3r h3b h4a h4r h4b
  go_enter Try.func27, Try.ntmps27
  have hb0 := (Below.refl w.heap.size w).alloc (Nat.le_refl _) (.cells #[.int .i64 0, .int .i64 0, .int .i64 0, .string ⟨#[]⟩] 23)
  have hv0 := hv.below hb0
  clear hv
  go_wp2_with fail
  refine (read_calls _ _ _ xs (fun _ => 0) 1 hv0).mono ?_
  rintro e w1 ⟨b, col1, rfl, hR1, hx1⟩
  clear hv0
  go_wp2_with fail
  refine (rnum_calls _ _ 1 b _ _ (by omega) hR1).mono ?_
  rintro e w2 ⟨rfl, hR2, hx2⟩
  rw [H1.out.1]
  rw [H1.out.2.1, H1.out.2.2] at hR2
  have hx2' := (hx1.mono (T := [1]) (by simp)).trans hx2
  clear hx1 hx2 hR1
  go_wp2_with fail
  refine (rnum_calls _ _ 1 b _ _ (by omega) hR2).mono ?_
  rintro e w3 ⟨rfl, hR3, hx3⟩
  rw [H2.out.1]
  rw [H2.out.2.1, H2.out.2.2] at hR3
  have hx3' := hx2'.trans hx3
  clear hx2' hx3 hR2
  go_wp2_with fail
  refine (rnum_calls _ _ 1 b _ _ (by omega) hR3).mono ?_
  rintro e w4 ⟨rfl, hR4, hx4⟩
  rw [H3.out.1]
  rw [H3.out.2.1, H3.out.2.2] at hR4
  have hx4' := hx3'.trans hx4
  clear hx3' hx4 hR3
  go_wp2_with fail
  refine (rtext_calls _ _ 1 b _ _ (by omega) hR4).mono ?_
  rintro e w5 ⟨v5, col5, rfl, ⟨hv5, hR5⟩, hx5⟩
  rw [H4.out.1] at hv5
  rw [H4.out.2.1, H4.out.2.2] at hR5
  have hx5' := hx4'.trans hx5
  have hc5 := RdB.conv (P := Try.prog) hv5 Try.underlying24 Try.underlying5 Try.underlying9
  clear hx4' hx5 hR4 hv5
  generalize strOfNums t = sT at hc5 Hd
  have hx6 := hx5'.alloc (.cells #[.int .i64 a1, .int .i64 a2, .int .i64 a3, .string sT] 23) 0
  have hR6 := hR5.ext ((Ext.refl [] w5 col5).alloc (.cells #[.int .i64 a1, .int .i64 a2, .int .i64 a3, .string sT] 23) 0) (by simp) (by simp)
  have hbox := (hx6.block w.heap.size (heap_lt (heap_alloc_new w _)) (by decide)).trans (heap_alloc_new w (.cells [.int .i64 0, .int .i64 0, .int .i64 0, .string ⟨#[]⟩].toArray 23))
  have hb6 := below_then' hb0 hb0.size (hx6.below0 (by decide))
  clear H1 H2 H3 H4
  go_wp2_with fail
  refine (whole_calls _ _ 1 b _ _ hR6).mono ?_
  rintro e _ ⟨rfl, rfl⟩
  by_cases hw : b4 = false ∧ r4 = []
  · obtain ⟨rfl, rfl⟩ := hw
    rw [show (!false && ([] : List Int).isEmpty) = true from rfl]
    have hm := may_calls (w5.alloc (.cells #[.int .i64 a1, .int .i64 a2, .int .i64 a3, .string sT] 23)) a1 a2 a3 sT
    unfold cmdV at hm
    by_cases hM : MayC a1 a2 a3 sT
    · have HR := Lib.hid (Hd.out.trans (if_pos ⟨rfl, rfl, hM⟩))
      rw [show decide (MayC a1 a2 a3 sT) = true by simpa using hM] at hm
      clear Hd hM
      go_wp2_with fail
      refine hm.mono ?_
      rintro e w7 ⟨rfl, hb7⟩
      have hz7 := (hb7.block _ (heap_lt hbox)).trans hbox
      have ha7 := (hb7.block _ (heap_lt (heap_alloc_new w5 _))).trans (heap_alloc_new w5 (.cells [.int .i64 a1, .int .i64 a2, .int .i64 a3, .string sT].toArray 23))
      have hfin := below_then' hb6 hb6.size hb7
      obtain ⟨k0, e0⟩ := cell_row hz7 (j := 0) rfl
      obtain ⟨k1, e1⟩ := cell_row hz7 (j := 1) rfl
      obtain ⟨k2, e2⟩ := cell_row hz7 (j := 2) rfl
      obtain ⟨k3, e3⟩ := cell_row hz7 (j := 3) rfl
      obtain ⟨m0, -⟩ := cell_row ha7 (j := 0) rfl
      obtain ⟨m1, -⟩ := cell_row ha7 (j := 1) rfl
      obtain ⟨m2, -⟩ := cell_row ha7 (j := 2) rfl
      obtain ⟨m3, -⟩ := cell_row ha7 (j := 3) rfl
      have hz8 := setCell_row (setCell_row (setCell_row (setCell_row hz7 0 (.int .i64 a1)) 1 (.int .i64 a2)) 2 (.int .i64 a3)) 3 (.string sT)
      have hb8 := (((hfin.setCell (p := ⟨w.heap.size, 0, none⟩) (Nat.le_refl _) (.int .i64 a1)).setCell (p := ⟨w.heap.size, 1, none⟩) (Nat.le_refl _) (.int .i64 a2)).setCell (p := ⟨w.heap.size, 2, none⟩) (Nat.le_refl _) (.int .i64 a3)).setCell (p := ⟨w.heap.size, 3, none⟩) (Nat.le_refl _) (.string sT)
      obtain ⟨q0, -⟩ := cell_row hz8 (j := 0) (v := (.int .i64 a1)) rfl
      obtain ⟨q1, -⟩ := cell_row hz8 (j := 1) (v := (.int .i64 a2)) rfl
      obtain ⟨q2, -⟩ := cell_row hz8 (j := 2) (v := (.int .i64 a3)) rfl
      obtain ⟨q3, -⟩ := cell_row hz8 (j := 3) (v := (.string sT)) rfl
      clear hz8 hz7
      have Hb8 := Lib.hid hb8
      clear hb8 hfin
      go_wp2
      refine bodyPost_ret (v := .tuple #[.agg #[.int .i64 a1, .int .i64 a2, .int .i64 a3, .string sT], .int .i64 0]) (by simp [results, Try.results27, go_sem, q0, q1, q2, q3]) rfl ⟨?_, Hb8.out⟩
      rw [HR.out]; rfl
    · have HR := Lib.hid (Hd.out.trans (if_neg fun h => hM h.2.2))
      rw [show decide (MayC a1 a2 a3 sT) = false by simpa using hM] at hm
      clear Hd hM
      go_wp2_with fail
      refine hm.mono ?_
      rintro e w7 ⟨rfl, hb7⟩
      have hz7 := (hb7.block _ (heap_lt hbox)).trans hbox
      have hfin := below_then' hb6 hb6.size hb7
      obtain ⟨k0, e0⟩ := cell_row hz7 (j := 0) rfl
      obtain ⟨k1, e1⟩ := cell_row hz7 (j := 1) rfl
      obtain ⟨k2, e2⟩ := cell_row hz7 (j := 2) rfl
      obtain ⟨k3, e3⟩ := cell_row hz7 (j := 3) rfl
      have hz8 := setCell_row (setCell_row (setCell_row (setCell_row hz7 0 (.int .i64 0)) 1 (.int .i64 0)) 2 (.int .i64 0)) 3 (.string ⟨#[]⟩)
      have hb8 := (((hfin.setCell (p := ⟨w.heap.size, 0, none⟩) (Nat.le_refl _) (.int .i64 0)).setCell (p := ⟨w.heap.size, 1, none⟩) (Nat.le_refl _) (.int .i64 0)).setCell (p := ⟨w.heap.size, 2, none⟩) (Nat.le_refl _) (.int .i64 0)).setCell (p := ⟨w.heap.size, 3, none⟩) (Nat.le_refl _) (.string ⟨#[]⟩)
      obtain ⟨q0, -⟩ := cell_row hz8 (j := 0) (v := (.int .i64 0)) rfl
      obtain ⟨q1, -⟩ := cell_row hz8 (j := 1) (v := (.int .i64 0)) rfl
      obtain ⟨q2, -⟩ := cell_row hz8 (j := 2) (v := (.int .i64 0)) rfl
      obtain ⟨q3, -⟩ := cell_row hz8 (j := 3) (v := (.string ⟨#[]⟩)) rfl
      clear hz8 hz7
      have Hb8 := Lib.hid hb8
      clear hb8 hfin
      go_wp2
      refine bodyPost_ret (v := .tuple #[.agg #[.int .i64 0, .int .i64 0, .int .i64 0, .string ⟨#[]⟩], .int .i64 3]) (by simp [results, Try.results27, go_sem, q0, q1, q2, q3]) rfl ⟨?_, Hb8.out⟩
      rw [HR.out]; rfl
  · have HR := Lib.hid (Hd.out.trans (if_neg fun h => hw ⟨h.1, h.2.1⟩))
    rw [show (!b4 && r4.isEmpty) = false by cases b4 <;> cases r4 <;> simp_all]
    have hz7 := hbox
    have hfin := hb6
    obtain ⟨w7, hw7⟩ : ∃ w7, w5.alloc (.cells #[.int .i64 a1, .int .i64 a2, .int .i64 a3, .string sT] 23) = w7 := ⟨_, rfl⟩
    rw [hw7] at hz7 hfin ⊢
    clear Hd hw hbox hb6 hR6 hx6 hR5 hw7
    obtain ⟨k0, e0⟩ := cell_row hz7 (j := 0) rfl
    obtain ⟨k1, e1⟩ := cell_row hz7 (j := 1) rfl
    obtain ⟨k2, e2⟩ := cell_row hz7 (j := 2) rfl
    obtain ⟨k3, e3⟩ := cell_row hz7 (j := 3) rfl
    have hz8 := setCell_row (setCell_row (setCell_row (setCell_row hz7 0 (.int .i64 0)) 1 (.int .i64 0)) 2 (.int .i64 0)) 3 (.string ⟨#[]⟩)
    have hb8 := (((hfin.setCell (p := ⟨w.heap.size, 0, none⟩) (Nat.le_refl _) (.int .i64 0)).setCell (p := ⟨w.heap.size, 1, none⟩) (Nat.le_refl _) (.int .i64 0)).setCell (p := ⟨w.heap.size, 2, none⟩) (Nat.le_refl _) (.int .i64 0)).setCell (p := ⟨w.heap.size, 3, none⟩) (Nat.le_refl _) (.string ⟨#[]⟩)
    obtain ⟨q0, -⟩ := cell_row hz8 (j := 0) (v := (.int .i64 0)) rfl
    obtain ⟨q1, -⟩ := cell_row hz8 (j := 1) (v := (.int .i64 0)) rfl
    obtain ⟨q2, -⟩ := cell_row hz8 (j := 2) (v := (.int .i64 0)) rfl
    obtain ⟨q3, -⟩ := cell_row hz8 (j := 3) (v := (.string ⟨#[]⟩)) rfl
    clear hz8 hz7
    have Hb8 := Lib.hid hb8
    clear hb8 hfin
    go_wp2
    refine bodyPost_ret (v := .tuple #[.agg #[.int .i64 0, .int .i64 0, .int .i64 0, .string ⟨#[]⟩], .int .i64 3]) (by simp [results, Try.results27, go_sem, q0, q1, q2, q3]) rfl ⟨?_, Hb8.out⟩
    rw [HR.out]; rfl
end Go.Proofs.Yteegdhfekemhmaa
