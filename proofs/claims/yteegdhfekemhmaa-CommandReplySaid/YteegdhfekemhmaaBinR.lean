/- Walks of package bin: the reader. -/
import Derived.Test.YteegdhfekemhmaaBinW
namespace Go.Proofs.Yteegdhfekemhmaa
open Go.RowKit

/-- A reader at block b (colour c): xs is left. -/
def Rr0 (w : World) (col : Col) (c b : Nat) (xs : List Int) (bad : Bool) : Prop :=
  ∃ v, w.heap[b]? = some (.cells [v, .bool bad].toArray 167 (0, 0)) ∧ col b = c ∧ RdB w (In col 0) v xs

set_option maxHeartbeats 400000 in
/-- bin.Read: a new reader; its bytes are new. -/
theorem read0_calls (w : World) (N : Nat → Prop) (v : Value) (xs : List Int) (col : Col) (c : Nat) (hv : RdL w N v xs) :
    Calls Try.prog 86 #[v] w fun e w' => ∃ b col', e = .returned (.pointer (some ⟨b, 0, none⟩)) ∧ Rr0 w' col' c b xs false ∧ Ext [] w col w' col' := by
  go_enter Try.func86, Try.ntmps86
  go_wp2_with (go_at_call 96; refine (clone_calls _ _ _ _ hv).mono ?_; rintro e w1 ⟨v', rfl, hn⟩; obtain ⟨A, cap, rfl, _⟩ := hn.rd.slice)
  go_ret
  have hsz := hn.2.2.2.size
  refine ⟨_, fun k => if k = w1.heap.size then c else newcol w col 0 k, rfl, ⟨_, heap_alloc_new _ _, by simp, ?_⟩, ?_⟩
  · refine hn.rd.keeps fun b hb hl => ⟨Below.heap_alloc _ _ _ hl, ?_⟩
    show (if b = w1.heap.size then c else newcol w col 0 b) = 0
    rw [if_neg (by omega), newcol_new hb]
  · refine Ext.of_below (hn.2.2.2.alloc hsz _) fun k hk => ?_
    show (if k = w1.heap.size then c else newcol w col 0 k) = col k
    rw [if_neg (by omega), newcol_old hk]

set_option maxHeartbeats 400000 in
theorem rfail_calls (w : World) (col : Col) (c b : Nat) (xs : List Int) (bad : Bool) (hR : Rr0 w col c b xs bad) :
    Calls Try.prog 121 #[.pointer (some ⟨b, 0, none⟩)] w fun e w' => e = .returned (.tuple #[]) ∧ Rr0 w' col c b [] true ∧ Ext [c] w col w' col := by
  obtain ⟨v, hb, hcb, hv⟩ := hR
  obtain ⟨k0, e0⟩ := cell_row hb (j := 0) rfl
  obtain ⟨k1, e1⟩ := cell_row hb (j := 1) rfl
  go_enter Try.func121, Try.ntmps121
  go_wp2
  go_end0
  have hx : Ext [c] w col ((w.setCell ⟨b, 0, none⟩ (.slice none 0 0)).setCell ⟨b, 1, none⟩ (.bool true)) col := by
    refine ⟨rfl, rfl, rfl, by simp, fun k hk hkc => ?_, fun _ _ => rfl⟩
    have hkb : k ≠ b := by rintro rfl; exact hkc (by simp [hcb])
    rw [heap_setCell_other _ _ _ _ (by simpa using hkb), heap_setCell_other _ _ _ _ (by simpa using hkb)]
  exact ⟨rfl, ⟨_, setCell_row (setCell_row hb 0 _) 1 _, hcb, RdB.nil _ _⟩, hx⟩

theorem Rr0.set {w : World} {col : Col} {c b : Nat} {v V : Value} {bad : Bool} {ys : List Int} (hb : w.heap[b]? = some (.cells [v, .bool bad].toArray 167 (0, 0))) (hcb : col b = c) (hc0 : c ≠ 0) (hV : RdB w (In col 0) V ys) :
    Rr0 (w.setCell ⟨b, 0, none⟩ V) col c b ys bad ∧ Ext [c] w col (w.setCell ⟨b, 0, none⟩ V) col := by
  have hk : ∀ k, k ≠ b → (w.setCell ⟨b, 0, none⟩ V).heap[k]? = w.heap[k]? := fun k hk => heap_setCell_other _ _ _ _ (by simpa using hk)
  refine ⟨⟨V, setCell_row hb 0 V, hcb, hV.keeps fun k h0 _ => ⟨hk k ?_, h0⟩⟩, ⟨rfl, rfl, rfl, by simp, fun k _ hkc => hk k ?_, fun _ _ => rfl⟩⟩
  · rintro rfl; exact hc0 (hcb.symm.trans h0)
  · rintro rfl; exact hkc (by simp [hcb])
theorem Rr0.ext {S : List Nat} {w w' : World} {col col' : Col} {c b : Nat} {xs : List Int} {bad : Bool} (h : Rr0 w col c b xs bad) (hx : Ext S w col w' col') (hc : c ∉ S) (h0 : 0 ∉ S) : Rr0 w' col' c b xs bad := by
  obtain ⟨v, hb, hcb, hv⟩ := h
  exact ⟨v, by rw [hx.block b (heap_lt hb) (by rw [hcb]; exact hc)]; exact hb, by rw [hx.col b (heap_lt hb)]; exact hcb, hv.ext hx h0⟩

set_option maxHeartbeats 400000 in
theorem rnum_some (w : World) (col : Col) (c b b' o cap : Nat) (xs : List Int) (bad : Bool) (hb : w.heap[b]? = some (.cells [.slice (some ⟨b', o, none⟩) xs.length cap, .bool bad].toArray 167 (0, 0))) (hcb : col b = c) (hc0 : c ≠ 0) (hv : RdB w (In col 0) (.slice (some ⟨b', o, none⟩) xs.length cap) xs)
    (h1 : xs.length ≤ cap) (h2 : cap ≤ 9223372036854775807) (hcell : ∀ j, j < xs.length → w.cell? ⟨b', o + j, none⟩ = some (.int .u8 (xs.getD j 0))) :
    Calls Try.prog 87 #[.pointer (some ⟨b, 0, none⟩)] w fun e w' => e = .returned (.int .i64 (rN xs)) ∧ Rr0 w' col c b (rRest xs) (rBad xs bad) ∧ Ext [c] w col w' col := by
  obtain ⟨k0, e0⟩ := cell_row hb (j := 0) rfl
  obtain ⟨k1, e1⟩ := cell_row hb (j := 1) rfl
  have hlen := hv.len
  by_cases h10 : 10 < xs.length
  all_goals
    go_enter Try.func87, Try.ntmps87
    go_wp2
    go_quiet (fail)
    go_wp2_with fail
    go_loop [3, 20] (fun u idx => ∃ i m : Nat, idx = .int .i64 i ∧ u = .int .u64 m ∧ i ≤ xs.length ∧ ((i ≤ 9 ∧ m < 128 ^ i ∧ Hid (rdU 0 0 xs = rdU i m (xs.drop i))) ∨ (i = 10 ∧ Hid (rdU 0 0 xs = none)))) (fun _ idx => 10 - (intOf idx).toNat)
    case atStart => exact ⟨0, 0, rfl, rfl, by omega, .inl ⟨by omega, by omega, rfl⟩⟩
    case round =>
      obtain ⟨i, m, rfl, rfl, hi, hacc⟩ := hrel
      have hR : Rr0 (w.drewN nq) col c b xs bad := ⟨_, hb, hcb, hv⟩
      by_cases hc : i < xs.length ∧ i < 10
      · obtain ⟨hc1, hc2⟩ := hc
        rcases hacc with ⟨h9, hm, hr⟩ | ⟨rfl, _⟩
        · have hx := hv.1.2.at i
          have hci := hcell i hc1
          clear hcell
          have hmore := Lib.hid (@rdU_more xs i m hc1 h9)
          have hbad := Lib.hid (@rdU_bad xs i m hc1)
          have hend := Lib.hid (@rdU_end xs i m hc1 h9)
          generalize xs.getD i 0 = x at hx hci hmore hbad hend
          obtain ⟨hx0, hx1⟩ := hx
          have hp9 := pow_le9 h9
          have hm64 : m < 18446744073709551616 := by omega
          have hrest : (xs.drop (i + 1)).length = xs.length - (i + 1) := List.length_drop
          by_cases hbig : 127 < x
          · obtain ⟨u, hor, hu⟩ := bits_u64_range .or (m : Int) (IntKind.u64.wrap (IntKind.u64.wrap (bits .and .u8 x 127) * 2 ^ (7 * i)))
            have hstep : i ≤ 8 → u = m + x.toNat % 128 * 128 ^ i := by
              intro h8
              have hp8 := pow_le8 h8
              have h2 : x.toNat % 128 * 128 ^ i ≤ 127 * 128 ^ i := Nat.mul_le_mul_right _ (by omega)
              have := or_step hm hx0 hx1 (by omega) hm64
              rw [hor] at this
              omega
            have Hstep := Lib.hid hstep
            clear hstep hp9
            go_wp2
            refine ⟨⟨i + 1, u, by go_num, rfl, by omega, ?_⟩, by simp [intOf]; omega⟩
            by_cases h8 : i ≤ 8
            · have := Hstep.out h8
              subst this
              exact .inl ⟨by omega, add_lt hm (by omega), hr.out.trans (hmore.out hbig)⟩
            · refine .inr ⟨by omega, hr.out.trans ((hmore.out hbig).trans (rdU_10 _ _ _ (by omega)))⟩
          · by_cases hrej : (0 < i ∧ x = 0) ∨ (i = 9 ∧ 1 < x)
            · have hnone0 := rN_none (hr.out.trans (hbad.out hbig hrej))
              have hnone := Lib.hid hnone0
              clear hnone0
              have hres : ∀ W, Rr0 W col c b [] true → Rr0 W col c b (rRest xs) (rBad xs bad) := by
                intro W h; rw [hnone.out.2.1, hnone.out.2.2]; exact h
              have Hres := Lib.hid hres
              clear hres hbad hend hmore hr
              rcases hrej with ⟨hi0, rfl⟩ | ⟨rfl, hx2⟩
              all_goals
                go_wp2_with (go_at_call 121; refine (rfail_calls _ col c b xs bad hR).mono ?_; rintro e w' ⟨rfl, hR2, hx2⟩)
                go_ret
                refine ⟨ret_int hnone.out.1.symm, Hres.out _ hR2, ?_⟩
                exact ((Ext.refl _ _ _).drewN nq).trans hx2
            · have hs := rN_some (hr.out.trans (hend.out hbig hrej))
              have hx128 : x.toNat % 128 = x.toNat := by omega
              have hlt : x.toNat % 128 * 128 ^ i < 18446744073709551616 := by
                by_cases h8 : i ≤ 8
                · have hp8 := pow_le8 h8
                  have h2 : x.toNat % 128 * 128 ^ i ≤ 127 * 128 ^ i := Nat.mul_le_mul_right _ (by omega)
                  omega
                · have : x.toNat % 128 ≤ 1 := by omega
                  have h2 : x.toNat % 128 * 128 ^ i ≤ 1 * 128 ^ i := Nat.mul_le_mul_right _ this
                  omega
              have hor := or_step hm hx0 hx1 hlt hm64
              rw [hx128] at hor hlt
              have hu : m + x.toNat * 128 ^ i < 18446744073709551616 := by
                have hb1 := (bits_u64_range .or (m : Int) (IntKind.u64.wrap (IntKind.u64.wrap (bits .and .u8 x 127) * 2 ^ (7 * i))))
                rw [hor] at hb1
                obtain ⟨u, h3, h4⟩ := hb1
                omega
              obtain ⟨u, hue⟩ : ∃ u, u = m + x.toNat * 128 ^ i := ⟨_, rfl⟩
              rw [← hue] at hor hu hs
              have Hs := Lib.hid hs
              clear hs hue hbad hend hmore hr hlt hx128 hp9
              have c1 : (0 : Int) ≤ (i : Int) + 1 := by omega
              have c2 : (i : Int) + 1 ≤ (xs.length : Int) := by omega
              have c3 : (i : Int) + 1 ≤ (cap : Int) := by omega
              have Hres : Hid (∀ W, Rr0 W col c b (xs.drop (i + 1)) bad → Rr0 W col c b (rRest xs) (rBad xs bad)) := by
                intro W h; rw [Hs.out.2.1, Hs.out.2.2]; exact h
              have Hcut := Lib.hid (fun (o2 n2 cap2 : Nat) h1 h2 h3 (h4 : i + 1 < xs.length → o2 = o + (i + 1)) => hv.cut (i := i + 1) hc1 b' o2 n2 cap2 h1 h2 h3 (fun h => ⟨rfl, h4 h⟩))
              have Hret := Lib.hid ((bits_unzz hu).trans Hs.out.1.symm)
              by_cases hi0 : 0 < i
              · have hxne : (x == 0) = false := by
                  rw [beq_eq_false_iff_ne]; intro h; exact hrej (.inl ⟨hi0, h⟩)
                by_cases hi9 : 9 ≤ i
                · have hx1' : ¬ 1 < x := fun h => hrej (.inr ⟨by omega, h⟩)
                  clear hrej
                  go_wp2
                  all_goals
                    go_ret
                    exact ⟨ret_int Hret.out, Hres.out _ (Rr0.set (w := w.drewN nq) hb hcb hc0 (Hcut.out _ _ _ (by omega) (by omega) (by omega) (by omega))).1, ((Ext.refl _ _ _).drewN nq).trans (Rr0.set (w := w.drewN nq) hb hcb hc0 (Hcut.out _ _ _ (by omega) (by omega) (by omega) (by omega))).2⟩
                · clear hrej
                  go_wp2
                  all_goals
                    go_ret
                    exact ⟨ret_int Hret.out, Hres.out _ (Rr0.set (w := w.drewN nq) hb hcb hc0 (Hcut.out _ _ _ (by omega) (by omega) (by omega) (by omega))).1, ((Ext.refl _ _ _).drewN nq).trans (Rr0.set (w := w.drewN nq) hb hcb hc0 (Hcut.out _ _ _ (by omega) (by omega) (by omega) (by omega))).2⟩
              · clear hrej
                go_wp2
                all_goals
                  go_ret
                  exact ⟨ret_int Hret.out, Hres.out _ (Rr0.set (w := w.drewN nq) hb hcb hc0 (Hcut.out _ _ _ (by omega) (by omega) (by omega) (by omega))).1, ((Ext.refl _ _ _).drewN nq).trans (Rr0.set (w := w.drewN nq) hb hcb hc0 (Hcut.out _ _ _ (by omega) (by omega) (by omega) (by omega))).2⟩
        · omega
      · have hnone : rdU 0 0 xs = none := by
          rcases hacc with ⟨h9, hm, hr⟩ | ⟨_, hr⟩
          · have hend : i = xs.length := by omega
            rw [hr.out, hend, List.drop_length]
            rfl
          · exact hr.out
        have Hn := Lib.hid (rN_none hnone)
        clear hnone hacc
        have hge : ¬ i < xs.length ∨ ¬ i < 10 := by omega
        clear hcell
        go_wp2_with (go_at_call 121; refine (rfail_calls _ col c b xs bad hR).mono ?_; rintro e w' ⟨rfl, hR2, hx2⟩)
        all_goals
          go_ret
          refine ⟨ret_int Hn.out.1.symm, ?_, ((Ext.refl _ _ _).drewN nq).trans hx2⟩
          rw [Hn.out.2.1, Hn.out.2.2]
          exact hR2

set_option maxHeartbeats 400000 in
theorem rnum_nil (w : World) (col : Col) (c b : Nat) (bad : Bool) (hb : w.heap[b]? = some (.cells [.slice none 0 0, .bool bad].toArray 167 (0, 0))) (hcb : col b = c) :
    Calls Try.prog 87 #[.pointer (some ⟨b, 0, none⟩)] w fun e w' => e = .returned (.int .i64 0) ∧ Rr0 w' col c b [] true ∧ Ext [c] w col w' col := by
  obtain ⟨k0, e0⟩ := cell_row hb (j := 0) rfl
  obtain ⟨k1, e1⟩ := cell_row hb (j := 1) rfl
  go_enter Try.func87, Try.ntmps87
  go_wp2
  go_quiet (fail)
  have hR : Rr0 (w.drewN nq) col c b [] bad := ⟨_, hb, hcb, RdB.nil _ _⟩
  go_wp2_with fail
  refine wp_loop_rounds 1 ?_
  rw [rounds_succ]
  go_wp2_with (go_at_call 121; refine (rfail_calls _ col c b [] bad hR).mono ?_; rintro e w' ⟨rfl, hR2, hx2⟩)
  go_ret
  exact ⟨rfl, hR2, ((Ext.refl _ _ _).drewN nq).trans hx2⟩

theorem rnum0_calls (w : World) (col : Col) (c b : Nat) (xs : List Int) (bad : Bool) (hc0 : c ≠ 0) (hR : Rr0 w col c b xs bad) :
    Calls Try.prog 87 #[.pointer (some ⟨b, 0, none⟩)] w fun e w' => e = .returned (.int .i64 (rN xs)) ∧ Rr0 w' col c b (rRest xs) (rBad xs bad) ∧ Ext [c] w col w' col := by
  obtain ⟨v, hb, hcb, hv⟩ := hR
  rcases hv.form with ⟨_, ⟨rfl, rfl⟩ | ⟨b', o, cap, rfl, h1, h2, h3, h4⟩⟩
  · exact rnum_nil w col c b bad hb hcb
  · exact rnum_some w col c b b' o cap xs bad hb hcb hc0 hv h1 h2 h4

set_option maxHeartbeats 400000 in
theorem rok_calls (w : World) (col : Col) (c b : Nat) (xs : List Int) (bad : Bool) (hR : Rr0 w col c b xs bad) :
    Calls Try.prog 122 #[.pointer (some ⟨b, 0, none⟩)] w fun e w' => e = .returned (.bool (!bad)) ∧ w = w' := by
  obtain ⟨v, hb, hcb, hv⟩ := hR
  obtain ⟨k1, e1⟩ := cell_row hb (j := 1) rfl
  go_enter Try.func122, Try.ntmps122
  go_wp2
  go_ret
  exact ⟨rfl, rfl⟩

set_option maxHeartbeats 400000 in
theorem rleft_calls (w : World) (col : Col) (c b : Nat) (xs : List Int) (bad : Bool) (hR : Rr0 w col c b xs bad) :
    Calls Try.prog 123 #[.pointer (some ⟨b, 0, none⟩)] w fun e w' => e = .returned (.int .i64 xs.length) ∧ w = w' := by
  obtain ⟨v, hb, hcb, hv⟩ := hR
  obtain ⟨k0, e0⟩ := cell_row hb (j := 0) rfl
  obtain ⟨A, cap, rfl, _⟩ := hv.slice
  go_enter Try.func123, Try.ntmps123
  go_wp2
  go_ret
  exact ⟨rfl, rfl⟩
end Go.Proofs.Yteegdhfekemhmaa
