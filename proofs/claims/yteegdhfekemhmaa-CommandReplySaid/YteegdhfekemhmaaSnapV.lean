/- Package command: snapshots written and read. The reference: the same snapshot? -/
import Derived.Test.YteegdhfekemhmaaSnapW
import Derived.Lib.SlicesS
namespace Go.Proofs.Yteegdhfekemhmaa
open Go.RowKit
set_option linter.unusedSimpArgs false
set_option linter.unusedVariables false

def snapV (i t : Int) (vc vd : Value) : Value := .agg #[.int .i64 i, .int .i64 t, vc, vd]
theorem RdI.to_out {k : IntKind} {S : List Nat} {w : World} {col : Col} {v : Value} {xs : List Int} {c : Nat} (h : RdI k w (In col c) v xs) (hc : c ∉ S) : RdI k w (Out col S) v xs :=
  h.weaken fun b hb _ => by have hb' : col b = c := hb; show col b ∉ S; rw [hb']; exact hc

theorem Ext.belowB {S : List Nat} {w w' : World} {col col' : Col} {B : Nat} (h : Ext S w col w' col') (hB : B ≤ w.heap.size) (hc : ∀ k, k < B → col k ∉ S) : Below B w w' :=
  ⟨h.os, h.tape, h.output, h.size, fun k hk => h.block k (Nat.lt_of_lt_of_le hk hB) (hc k hk)⟩
theorem Ext.setCell {S : List Nat} {w w' : World} {col col' : Col} (h : Ext S w col w' col') {p : Addr} (hp : col' p.block ∈ S) (u : Value) : Ext S w col (w'.setCell p u) col' := by
  have hk : ∀ k, k ≠ p.block → (w'.setCell p u).heap[k]? = w'.heap[k]? := fun k hk => heap_setCell_other _ _ _ _ hk
  have hs : (w'.setCell p u).heap.size = w'.heap.size := by
    have := (Below.refl 0 w').setCell (p := p) (Nat.zero_le _) u
    have h2 := this.size
    refine Nat.le_antisymm ?_ h2
    unfold World.setCell
    simp
  have hb := (Below.refl 0 w').setCell (p := p) (Nat.zero_le _) u
  refine ⟨hb.os.trans h.os, hb.tape.trans h.tape, hb.output.trans h.output, by rw [hs]; exact h.size, fun k hk' hc => ?_, h.col⟩
  rw [hk k, h.block k hk' hc]
  intro e
  subst e
  rw [h.col _ hk'] at hp
  exact hc hp

set_option maxHeartbeats 2000000 in
set_option maxRecDepth 100000 in
theorem snap_calls (w : World) (N1 N2 : Nat → Prop) (s : SnapD) (vc vd : Value) (hs : s.ok) (hc : RdI .i64 w N1 vc s.c) (hd : RdL w N2 vd s.d) :
    Calls Try.prog 43 #[snapV s.i s.t vc vd] w fun e w' => ∃ v', e = .returned v' ∧ NewB 5 w w' v' (snapB s) := by
  obtain ⟨i, t, l, d⟩ := s
  obtain ⟨hi, ht, hl, hlc, hld, hB⟩ := hs
  simp only at hi ht hl hlc hld hB hc hd
  have HB := Lib.hid (show snapB ⟨i, t, l, d⟩ = [] ++ numB i ++ numB t ++ confB l ++ textB d by simp [snapB])
  have li := numB_len hi.1 hi.2
  have lt := numB_len ht.1 ht.2
  have ln := numB_len (n := l.length) (by omega) (by omega)
  have lc : (confB l).length ≤ 10000010 := by
    have := (numsB_len l hl).2
    simp [confB]; omega
  have ld := textB_len (xs := d) (by omega)
  have hslen : (snapB ⟨i, t, l, d⟩).length ≤ 20000000 := by rw [HB.out]; simp; omega
  generalize snapB ⟨i, t, l, d⟩ = SB at HB hslen
  have hb := (Below.refl w.heap.size w).alloc (Nat.le_refl _) (.cells #[.int .i64 i, .int .i64 t, vc, vd] 51)
  have hbox := heap_alloc_new w (.cells [.int .i64 i, .int .i64 t, vc, vd].toArray 51)
  have hc1 := (hc.below hb).weaken (N' := In (fun _ => 0) 0) fun _ _ _ => rfl
  have hd1 := (hd.below hb).weaken (N' := In (fun _ => 0) 0) fun _ _ _ => rfl
  obtain ⟨w1, hw1⟩ : ∃ W, w.alloc (.cells #[.int .i64 i, .int .i64 t, vc, vd] 51) = W := ⟨_, rfl⟩
  have hw1' : w.alloc (.cells [.int .i64 i, .int .i64 t, vc, vd].toArray 51) = w1 := hw1
  rw [hw1'] at hbox
  rw [hw1] at hb hc1 hd1
  clear hw1'
  have hlt := heap_lt hbox
  have HC0 := Lib.hid (fun (W : World) (col' : Col) (hx : Ext [1] w1 (fun _ => 0) W col') => (show W.heap[w.heap.size]? = some (.cells [.int .i64 i, .int .i64 t, vc, vd].toArray 51 (0, 0)) from (hx.block w.heap.size hlt (by decide)).trans hbox))
  have HC := Lib.hid (fun (W : World) (col' : Col) (hx : Ext [1] w1 (fun _ => 0) W col') => (show W.cell? ⟨w.heap.size, 0, none⟩ = some (.int .i64 i) ∧ W.cell? ⟨w.heap.size, 1, none⟩ = some (.int .i64 t) ∧ W.cell? ⟨w.heap.size, 2, none⟩ = some vc ∧ W.cell? ⟨w.heap.size, 3, none⟩ = some vd from
    ⟨(cell_row (HC0.out W col' hx) (j := 0) rfl).1, (cell_row (HC0.out W col' hx) (j := 1) rfl).1, (cell_row (HC0.out W col' hx) (j := 2) rfl).1, (cell_row (HC0.out W col' hx) (j := 3) rfl).1⟩))
  have hx1 : Ext [1] w1 (fun _ => 0) (w1.alloc (.cells #[.slice none 0 0] 130)) (newcol w1 (fun _ => 0) 1) := (Ext.refl _ _ _).alloc _ 1
  have hW1 := Wr.new w1 (fun _ => 0) 1
  obtain ⟨k0, -, -, -⟩ := HC.out _ _ hx1
  clear hbox HC0 hlt hc hd
  unfold snapV
  go_enter Try.func43, Try.ntmps43
  go_wp2_with fail
  clear hw1
  refine (num_calls _ _ 1 _ _ i hW1 (by simp) hi.1 hi.2).mono ?_
  rintro e w2 ⟨rfl, col2, hW2, hx2⟩
  have hx2' := hx1.trans hx2
  obtain ⟨-, k1, -, -⟩ := HC.out _ _ hx2'
  clear k0 hx2 hx1 hW1
  go_wp2_with fail
  refine (num_calls _ _ 1 _ _ t hW2 (by simp; omega) ht.1 ht.2).mono ?_
  rintro e w3 ⟨rfl, col3, hW3, hx3⟩
  have hx3' := hx2'.trans hx3
  obtain ⟨-, -, k2, -⟩ := HC.out _ _ hx3'
  have hc3 := (hc1.ext hx3' (by decide)).to_out (S := [1]) (by decide)
  clear k1 hx3 hx2' hW2
  go_wp2_with fail
  refine (putconf_calls _ _ 1 _ _ vc l hW3 hc3 (by omega) (by simp; omega)).mono ?_
  rintro e w4 ⟨rfl, col4, hW4, hx4⟩
  have hx4' := hx3'.trans hx4
  obtain ⟨-, -, -, k3⟩ := HC.out _ _ hx4'
  have hd4 := (hd1.ext hx4' (by decide)).to_out (S := [1]) (by decide)
  clear k2 hx4 hx3' hW3 hc3
  go_wp2_with fail
  refine (wtext_calls _ _ 1 _ _ _ d hW4 hd4 (by simp; omega)).mono ?_
  rintro e w5 ⟨rfl, col5, hW5, hx5⟩
  have hx5' := hx4'.trans hx5
  rw [← HB.out] at hW5
  clear k3 hx5 hx4' hW4 hd4
  go_wp2_with fail
  refine (wbytes_calls _ _ 1 _ _ hW5 (by omega)).mono ?_
  rintro e w6 ⟨v6, rfl, hn6⟩
  obtain ⟨A6, cap6, rfl⟩ := own_slice' hn6.1
  have hfin := hn6.since (below_then' hb hb.size (hx5'.below0 (by decide)))
  go_wp2
  go_ret
  exact ⟨_, rfl, hfin⟩

/-- What 'ReadSnap' gives. -/
def SnapPost (w : World) (xs : List Int) (e : Ending) (w' : World) : Prop :=
  ∃ v i t vc vd er, e = .returned (.tuple #[v, .int .i64 er]) ∧ v = snapV i t vc vd ∧ Below w.heap.size w w' ∧
    ((SOK xs ∧ er = 0 ∧ i = (sD xs).i ∧ t = (sD xs).t ∧ RdI .i64 w' (fun _ => True) vc (sD xs).c ∧ RdL w' (fun _ => True) vd (sD xs).d) ∨
     (¬ SOK xs ∧ er = 3 ∧ i = 0 ∧ t = 0 ∧ vc = .slice none 0 0 ∧ vd = .slice none 0 0))

set_option maxHeartbeats 4000000 in
set_option maxRecDepth 100000 in
theorem readsnap_calls (w : World) (N : Nat → Prop) (v : Value) (xs : List Int) (hv : RdL w N v xs) (hl : xs.length ≤ 1000000) :
    Calls Try.prog 44 #[v] w (SnapPost w xs) := by
  obtain ⟨A, cap, rfl, -, -⟩ := hv.slice
  have HS := Lib.hid (show SOK xs ↔ (sb5 xs = false ∧ sx5 xs = []) from Iff.rfl)
  have HD := Lib.hid (show sD xs = ⟨rN xs, rN (sx1 xs), nL (cN (sx2 xs)) (sx3 xs), rT (sx4 xs)⟩ from rfl)
  have H1 := Lib.hid (show rRest xs = sx1 xs from rfl)
  have H2 := Lib.hid (And.intro (show rRest (sx1 xs) = sx2 xs from rfl) (show rBad (sx1 xs) (rBad xs false) = sb2 xs from rfl))
  have hl2 : (sx2 xs).length ≤ 1000000 := by
    have h1 := rRest_len xs
    have h2 := rRest_len (rRest xs)
    show (rRest (rRest xs)).length ≤ _
    omega
  have H3 := Lib.hid (And.intro (show nR (cN (sx2 xs)) (cRest (sx2 xs)) = sx4 xs from rfl) (And.intro (show nB (cN (sx2 xs)) (cRest (sx2 xs)) (cBad (sx2 xs) (sb2 xs)) = sb4 xs from rfl) (show nL (cN (sx2 xs)) (cRest (sx2 xs)) = nL (cN (sx2 xs)) (sx3 xs) from rfl)))
  have H4 := Lib.hid (And.intro (show rTRest (sx4 xs) = sx5 xs from rfl) (show rTBad (sx4 xs) (sb4 xs) = sb5 xs from rfl))
  have hb0 := (Below.refl w.heap.size w).alloc (Nat.le_refl _) (.cells #[.int .i64 0, .int .i64 0, .slice none 0 0, .slice none 0 0] 51)
  have hv0 := hv.below hb0
  clear hv
  go_enter Try.func44, Try.ntmps44
  go_wp2_with fail
  refine (read_calls _ _ _ xs (newcol w (fun _ => 0) 3) 1 hv0).mono ?_
  rintro e w1 ⟨b, col1, rfl, hR1, hx1⟩
  clear hv0
  go_wp2_with fail
  refine (rnum_calls _ _ 1 b _ _ (by omega) hR1).mono ?_
  rintro e w2 ⟨rfl, hR2, hx2⟩
  rw [H1.out] at hR2
  have hx2' := (hx1.mono (T := [1]) (by simp)).trans hx2
  clear hx1 hx2 hR1
  go_wp2_with fail
  refine (rnum_calls _ _ 1 b _ _ (by omega) hR2).mono ?_
  rintro e w3 ⟨rfl, hR3, hx3⟩
  rw [H2.out.1, H2.out.2] at hR3
  have hx3' := hx2'.trans hx3
  clear hx2' hx3 hR2
  go_wp2_with fail
  refine (getconf_calls _ _ 1 b _ _ (by omega) hR3 hl2).mono ?_
  rintro e w4 ⟨vc, col4, rfl, ⟨hvc, hR4⟩, hx4⟩
  rw [H3.out.1, H3.out.2.1] at hR4
  rw [H3.out.2.2] at hvc
  have hx4' := hx3'.trans hx4
  clear hx3' hx4 hR3
  go_wp2_with fail
  refine (rtext_calls _ _ 1 b _ _ (by omega) hR4).mono ?_
  rintro e w5 ⟨vd, col5, rfl, ⟨hvd, hR5⟩, hx5⟩
  rw [H4.out.1, H4.out.2] at hR5
  have hvc5 := hvc.ext hx5 (by decide)
  have hx5' := hx4'.trans hx5
  obtain ⟨Ac, capc, rfl, -, -⟩ := hvc.slice
  obtain ⟨Ad, capd, rfl, -, -⟩ := hvd.slice
  clear hx4' hx5 hR4 hvc H1 H2 H3 H4
  generalize rN xs = i at HD ⊢
  generalize rN (sx1 xs) = t at HD ⊢
  generalize nL (cN (sx2 xs)) (sx3 xs) = lc at HD hvc5 ⊢
  generalize rT (sx4 xs) = ld at HD hvd ⊢
  generalize sx5 xs = r5 at HS hR5
  generalize sb5 xs = b5 at HS hR5
  have hx6 := hx5'.alloc (.cells #[.int .i64 i, .int .i64 t, .slice Ac lc.length capc, .slice Ad ld.length capd] 51) 0
  have hx60 := (Ext.refl [] w5 col5).alloc (.cells #[.int .i64 i, .int .i64 t, .slice Ac lc.length capc, .slice Ad ld.length capd] 51) 0
  have hR6 := hR5.ext hx60 (by simp) (by simp)
  have hvc6 := hvc5.ext hx60 (by simp)
  have hvd6 := hvd.ext hx60 (by simp)
  have hbox := (hx6.block w.heap.size (heap_lt (heap_alloc_new w _)) (by rw [newcol_new (Nat.le_refl _)]; decide)).trans (heap_alloc_new w (.cells [.int .i64 0, .int .i64 0, .slice none 0 0, .slice none 0 0].toArray 51))
  have ha6 := heap_alloc_new w5 (.cells [.int .i64 i, .int .i64 t, .slice Ac lc.length capc, .slice Ad ld.length capd].toArray 51)
  have hb6 := hb0.trans (hx6.belowB (B := w.heap.size) hb0.size (fun k hk => by rw [newcol_old hk]; decide))
  have hcol3 : newcol w5 col5 0 w.heap.size = 3 := by rw [hx6.col _ (heap_lt (heap_alloc_new w _))]; exact newcol_new (Nat.le_refl _)
  obtain ⟨w6, hw6⟩ : ∃ W, w5.alloc (.cells #[.int .i64 i, .int .i64 t, .slice Ac lc.length capc, .slice Ad ld.length capd] 51) = W := ⟨_, rfl⟩
  have hw6' : w5.alloc (.cells [.int .i64 i, .int .i64 t, .slice Ac lc.length capc, .slice Ad ld.length capd].toArray 51) = w6 := hw6
  rw [hw6'] at ha6
  rw [hw6] at hR6 hvc6 hvd6 hbox hb6
  clear hw6' hx6 hx60 hx5' hR5 hvc5 hvd hb0
  obtain ⟨k0, e0⟩ := cell_row hbox (j := 0) rfl
  obtain ⟨k1, e1⟩ := cell_row hbox (j := 1) rfl
  obtain ⟨k2, e2⟩ := cell_row hbox (j := 2) rfl
  obtain ⟨k3, e3⟩ := cell_row hbox (j := 3) rfl
  obtain ⟨m0, -⟩ := cell_row ha6 (j := 0) rfl
  obtain ⟨m1, -⟩ := cell_row ha6 (j := 1) rfl
  obtain ⟨m2, -⟩ := cell_row ha6 (j := 2) rfl
  obtain ⟨m3, -⟩ := cell_row ha6 (j := 3) rfl
  have hwh := whole_calls w6 _ 1 b _ _ hR6
  go_wp2_with fail
  clear hw6
  refine hwh.mono ?_
  rintro e _ ⟨rfl, rfl⟩
  by_cases hw : b5 = false ∧ r5 = []
  · obtain ⟨rfl, rfl⟩ := hw
    rw [show (!false && ([] : List Int).isEmpty) = true from rfl]
    have HSok := Lib.hid (HS.out.2 ⟨rfl, rfl⟩)
    clear HS
    have hz8 := setCell_row (setCell_row (setCell_row (setCell_row hbox 0 (.int .i64 i)) 1 (.int .i64 t)) 2 (.slice Ac lc.length capc)) 3 (.slice Ad ld.length capd)
    have hb8 := (((hb6.setCell (p := ⟨w.heap.size, 0, none⟩) (Nat.le_refl _) (.int .i64 i)).setCell (p := ⟨w.heap.size, 1, none⟩) (Nat.le_refl _) (.int .i64 t)).setCell (p := ⟨w.heap.size, 2, none⟩) (Nat.le_refl _) (.slice Ac lc.length capc)).setCell (p := ⟨w.heap.size, 3, none⟩) (Nat.le_refl _) (.slice Ad ld.length capd)
    have hx8 := ((((Ext.refl [3] w6 (newcol w5 col5 0)).setCell (p := ⟨w.heap.size, 0, none⟩) (by simp [hcol3]) (.int .i64 i)).setCell (p := ⟨w.heap.size, 1, none⟩) (by simp [hcol3]) (.int .i64 t)).setCell (p := ⟨w.heap.size, 2, none⟩) (by simp [hcol3]) (.slice Ac lc.length capc)).setCell (p := ⟨w.heap.size, 3, none⟩) (by simp [hcol3]) (.slice Ad ld.length capd)
    obtain ⟨q0, -⟩ := cell_row hz8 (j := 0) (v := (.int .i64 i)) rfl
    obtain ⟨q1, -⟩ := cell_row hz8 (j := 1) (v := (.int .i64 t)) rfl
    obtain ⟨q2, -⟩ := cell_row hz8 (j := 2) (v := (.slice Ac lc.length capc)) rfl
    obtain ⟨q3, -⟩ := cell_row hz8 (j := 3) (v := (.slice Ad ld.length capd)) rfl
    have Hc8 := Lib.hid (hvc6.ext hx8 (by decide)).any
    have Hd8 := Lib.hid (hvd6.ext hx8 (by decide)).any
    clear hx8 hvc6 hvd6
    have Hb8 := Lib.hid hb8
    clear hz8 hb8 hb6 hbox ha6 hcol3 hR6 hwh
    go_wp2
    refine bodyPost_ret (v := .tuple #[.agg #[.int .i64 i, .int .i64 t, .slice Ac lc.length capc, .slice Ad ld.length capd], .int .i64 0]) (by simp [results, Try.results44, go_sem, q0, q1, q2, q3]) rfl ?_
    exact ⟨_, _, _, _, _, _, rfl, rfl, Hb8.out, .inl ⟨HSok.out, rfl, by rw [HD.out], by rw [HD.out], by rw [HD.out]; exact Hc8.out, by rw [HD.out]; exact Hd8.out.1⟩⟩
  · rw [show (!b5 && r5.isEmpty) = false by cases b5 <;> cases r5 <;> simp_all]
    have hz8 := setCell_row (setCell_row (setCell_row (setCell_row hbox 0 (.int .i64 0)) 1 (.int .i64 0)) 2 (.slice none 0 0)) 3 (.slice none 0 0)
    have hb8 := (((hb6.setCell (p := ⟨w.heap.size, 0, none⟩) (Nat.le_refl _) (.int .i64 0)).setCell (p := ⟨w.heap.size, 1, none⟩) (Nat.le_refl _) (.int .i64 0)).setCell (p := ⟨w.heap.size, 2, none⟩) (Nat.le_refl _) (.slice none 0 0)).setCell (p := ⟨w.heap.size, 3, none⟩) (Nat.le_refl _) (.slice none 0 0)
    obtain ⟨q0, -⟩ := cell_row hz8 (j := 0) (v := (.int .i64 0)) rfl
    obtain ⟨q1, -⟩ := cell_row hz8 (j := 1) (v := (.int .i64 0)) rfl
    obtain ⟨q2, -⟩ := cell_row hz8 (j := 2) (v := (.slice none 0 0)) rfl
    obtain ⟨q3, -⟩ := cell_row hz8 (j := 3) (v := (.slice none 0 0)) rfl
    have Hb8 := Lib.hid hb8
    clear hz8 hb8 hb6 hbox ha6 hcol3 hR6 hwh
    go_wp2
    refine bodyPost_ret (v := .tuple #[.agg #[.int .i64 0, .int .i64 0, .slice none 0 0, .slice none 0 0], .int .i64 3]) (by simp [results, Try.results44, go_sem, q0, q1, q2, q3]) rfl ?_
    exact ⟨_, _, _, _, _, _, rfl, rfl, Hb8.out, .inr ⟨fun h => hw (HS.out.1 h), rfl, rfl, rfl, rfl, rfl⟩⟩
end Go.Proofs.Yteegdhfekemhmaa
