/- The reference: the same snapshot? -/
import Derived.Test.YteegdhfekemhmaaSnapV
namespace Go.Proofs.Yteegdhfekemhmaa
open Go.RowKit
set_option linter.unusedSimpArgs false
set_option linter.unusedVariables false

theorem beq_of {xs ys : List Int} (hx : Bytes xs) (hy : Bytes ys) : ((strOfNums xs).toList == (strOfNums ys).toList) = decide (xs = ys) := by
  by_cases h : xs = ys
  · subst h; rw [decide_eq_true rfl, Go.Lib.bytes_beq_iff]
  · rw [decide_eq_false h, Go.Lib.bytes_beq_false_iff]
    exact fun e => h (strOfNums_inj hx hy e)
/-- Two snapshots are the same. -/
def SnapD.Eq (a b : SnapD) : Prop := a.i = b.i ∧ a.t = b.t ∧ a.c = b.c ∧ a.d = b.d
instance (a b : SnapD) : Decidable (a.Eq b) := by unfold SnapD.Eq; infer_instance

set_option maxHeartbeats 4000000 in
set_option maxRecDepth 100000 in
theorem eqsnap_calls (w : World) (N1 N2 N3 N4 : Nat → Prop) (a b : SnapD) (vc1 vd1 vc2 vd2 : Value) (hc1 : RdI .i64 w N1 vc1 a.c) (hd1 : RdL w N2 vd1 a.d) (hc2 : RdI .i64 w N3 vc2 b.c) (hd2 : RdL w N4 vd2 b.d) :
    Calls Try.prog 45 #[snapV a.i a.t vc1 vd1, snapV b.i b.t vc2 vd2] w fun e w' => e = .returned (.bool (decide (a.Eq b))) ∧ Below w.heap.size w w' := by
  obtain ⟨ai, at0, ac, ad⟩ := a
  obtain ⟨bi, bt, bc, bd⟩ := b
  simp only at hc1 hd1 hc2 hd2
  have HE := Lib.hid (show SnapD.Eq ⟨ai, at0, ac, ad⟩ ⟨bi, bt, bc, bd⟩ ↔ (ai = bi ∧ at0 = bt ∧ ac = bc ∧ ad = bd) from Iff.rfl)
  have hdec : ∀ r : Bool, (r = true ↔ (ai = bi ∧ at0 = bt ∧ ac = bc ∧ ad = bd)) → r = decide (SnapD.Eq ⟨ai, at0, ac, ad⟩ ⟨bi, bt, bc, bd⟩) := by
    intro r hr
    have : r = true ↔ SnapD.Eq ⟨ai, at0, ac, ad⟩ ⟨bi, bt, bc, bd⟩ := hr.trans HE.out.symm
    by_cases h : SnapD.Eq ⟨ai, at0, ac, ad⟩ ⟨bi, bt, bc, bd⟩
    · rw [decide_eq_true h]; exact this.2 h
    · rw [decide_eq_false h]
      cases r with
      | false => rfl
      | true => exact absurd (this.1 rfl) h
  have Hdec := Lib.hid hdec
  clear hdec HE
  generalize decide (SnapD.Eq ⟨ai, at0, ac, ad⟩ ⟨bi, bt, bc, bd⟩) = R at Hdec
  have hb1 := (Below.refl w.heap.size w).alloc (Nat.le_refl _) (.cells #[.int .i64 ai, .int .i64 at0, vc1, vd1] 51)
  have hb2 := hb1.alloc hb1.size (.cells #[.int .i64 bi, .int .i64 bt, vc2, vd2] 51)
  have ha := heap_alloc_new w (.cells [.int .i64 ai, .int .i64 at0, vc1, vd1].toArray 51)
  have hb := heap_alloc_new (w.alloc (.cells [.int .i64 ai, .int .i64 at0, vc1, vd1].toArray 51)) (.cells [.int .i64 bi, .int .i64 bt, vc2, vd2].toArray 51)
  have ha2 := (((Below.refl (w.alloc (.cells [.int .i64 ai, .int .i64 at0, vc1, vd1].toArray 51)).heap.size _).alloc (Nat.le_refl _) (.cells [.int .i64 bi, .int .i64 bt, vc2, vd2].toArray 51)).block _ (heap_lt ha)).trans ha
  have hsz : (w.alloc (.cells [.int .i64 ai, .int .i64 at0, vc1, vd1].toArray 51)).heap.size = w.heap.size + 1 := by show (w.heap.push _).size = _; simp
  rw [hsz] at hb
  have hc1' := hc1.below hb2
  have hd1' := hd1.below hb2
  have hc2' := hc2.below hb2
  have hd2' := hd2.below hb2
  obtain ⟨w2, hw2⟩ : ∃ W, (w.alloc (.cells #[.int .i64 ai, .int .i64 at0, vc1, vd1] 51)).alloc (.cells #[.int .i64 bi, .int .i64 bt, vc2, vd2] 51) = W := ⟨_, rfl⟩
  have hw2' : (w.alloc (.cells [.int .i64 ai, .int .i64 at0, vc1, vd1].toArray 51)).alloc (.cells [.int .i64 bi, .int .i64 bt, vc2, vd2].toArray 51) = w2 := hw2
  rw [hw2'] at hb ha2
  rw [hw2] at hb2 hc1' hd1' hc2' hd2'
  clear hw2' ha hsz hb1 hc1 hd1 hc2 hd2
  have HA := Lib.hid (fun (W : World) (hW : Below w2.heap.size w2 W) j (v : Value) (hj : [Value.int .i64 ai, .int .i64 at0, vc1, vd1][j]? = some v) => (show W.cell? ⟨w.heap.size, j, none⟩ = some v from (cell_row ((hW.block _ (heap_lt ha2)).trans ha2) hj).1))
  have HB := Lib.hid (fun (W : World) (hW : Below w2.heap.size w2 W) j (v : Value) (hj : [Value.int .i64 bi, .int .i64 bt, vc2, vd2][j]? = some v) => (show W.cell? ⟨w.heap.size + 1, j, none⟩ = some v from (cell_row ((hW.block _ (heap_lt hb)).trans hb) hj).1))
  have k0 : w2.cell? ⟨w.heap.size, 0, none⟩ = _ := HA.out w2 (Below.refl _ _) 0 _ rfl
  have k1 : w2.cell? ⟨w.heap.size, 1, none⟩ = _ := HA.out w2 (Below.refl _ _) 1 _ rfl
  have k2 : w2.cell? ⟨w.heap.size, 2, none⟩ = _ := HA.out w2 (Below.refl _ _) 2 _ rfl
  have m0 : w2.cell? ⟨w.heap.size + 1, 0, none⟩ = _ := HB.out w2 (Below.refl _ _) 0 _ rfl
  have m1 : w2.cell? ⟨w.heap.size + 1, 1, none⟩ = _ := HB.out w2 (Below.refl _ _) 1 _ rfl
  have m2 : w2.cell? ⟨w.heap.size + 1, 2, none⟩ = _ := HB.out w2 (Below.refl _ _) 2 _ rfl
  clear ha2 hb
  have hI := eqints_calls w2 _ _ vc1 vc2 ac bc hc1' hc2'
  unfold snapV
  go_enter Try.func45, Try.ntmps45
  by_cases h1 : ai = bi
  · subst h1
    by_cases h2 : at0 = bt
    · subst h2
      by_cases h3 : ac = bc
      · subst h3
        rw [decide_eq_true rfl] at hI
        go_wp2_with fail
        clear hw2
        refine hI.mono ?_
        rintro e w3 ⟨rfl, hb3⟩
        have k3 := HA.out w3 hb3 3 _ rfl
        have m3 := HB.out w3 hb3 3 _ rfl
        have hbe := beq_of hd1'.2 hd2'.2
        have q1 := RdL.conv (P := Try.prog) (hd1'.below hb3) Try.underlying24 Try.underlying5 Try.underlying9
        have q2 := RdL.conv (P := Try.prog) (hd2'.below hb3) Try.underlying24 Try.underlying5 Try.underlying9
        generalize strOfNums ad = s1 at q1 hbe
        generalize strOfNums bd = s2 at q2 hbe
        have Hbe := Lib.hid hbe
        clear hbe k0 k1 k2 m0 m1 m2
        go_wp2
        go_ret
        refine ⟨ret_bool (Hdec.out _ ?_), below_then' hb2 hb2.size hb3⟩
        rw [Hbe.out]
        simp
      · rw [decide_eq_false h3] at hI
        have H3 := Lib.hid h3
        clear h3
        go_wp2_with fail
        clear hw2
        refine hI.mono ?_
        rintro e w3 ⟨rfl, hb3⟩
        clear k0 k1 k2 m0 m1 m2
        go_wp2
        go_ret
        refine ⟨ret_bool (Hdec.out _ ?_), below_then' hb2 hb2.size hb3⟩
        have := H3.out
        simp [this]
    · have H2 := Lib.hid h2
      have d2 : (at0 == bt) = false := by simpa using h2
      clear h2 hI
      go_wp2
      go_ret
      refine ⟨ret_bool (Hdec.out _ ?_), hb2⟩
      have := H2.out
      simp [this]
  · have H1 := Lib.hid h1
    have d1 : (ai == bi) = false := by simpa using h1
    clear h1 hI
    go_wp2
    go_ret
    refine ⟨ret_bool (Hdec.out _ ?_), hb2⟩
    have := H1.out
    simp [this]
end Go.Proofs.Yteegdhfekemhmaa
