/- The walk of delphilaw1.BinReads. -/
import Derived.Test.YteodbcgfmfkdmaaBinCut
import Derived.Deep.RegionWith
namespace Go.Proofs.Yteodbcgfmfkdmaa
open Go.RowKit

theorem rok_quiet (w : World) (n : Nat) (col : Col) (c b : Nat) (xs : List Int) (bad : Bool) (hR : Rr0 w col c b xs bad) :
    Calls Try.prog 33 #[.pointer (some ⟨b, 0, none⟩)] (w.drewN n) fun e w'' => e = .returned (.bool (!bad)) ∧ ∃ m, w'' = w.drewN m :=
  Calls.quiet_of_same ((rok_calls (w.drewN n) col c b xs bad hR).mono fun _ _ ⟨a, b⟩ => ⟨a, b.symm⟩)
theorem rleft_quiet (w : World) (n : Nat) (col : Col) (c b : Nat) (xs : List Int) (bad : Bool) (hR : Rr0 w col c b xs bad) :
    Calls Try.prog 34 #[.pointer (some ⟨b, 0, none⟩)] (w.drewN n) fun e w'' => e = .returned (.int .i64 xs.length) ∧ ∃ m, w'' = w.drewN m :=
  Calls.quiet_of_same ((rleft_calls (w.drewN n) col c b xs bad hR).mono fun _ _ ⟨a, b⟩ => ⟨a, b.symm⟩)

set_option maxHeartbeats 800000 in
set_option maxRecDepth 100000 in
theorem binreads_calls (w : World) (v : Value) (xs : List Int) (vk : Value) (ks : List Int) (hv : RdL w (fun _ => True) v xs) (hk : RdI .i64 w (fun _ => True) vk ks) :
    Calls Try.prog 9 #[v, vk] w fun e w' => e = .returned (.bool true) ∧ Below w.heap.size w w' := by
  have hk0 := hk.zero
  have hv0 := hv.zero
  obtain ⟨A, cap, rfl, hc1, hc2⟩ := hk.1.slice
  have hll := hk.1.2.2.1
  go_enter Try.func9, Try.ntmps9
  go_wp2_with fail
  refine (begun1_calls _).mono ?_
  rintro e w1 ⟨rfl, hb1⟩
  have hx1 : Ext [1, 2] w (fun _ => 0) w1 (fun _ => 0) := Ext.of_below hb1 fun _ _ => rfl
  have hv1 := hv0.ext (c := 0) hx1 (by decide)
  go_wp2_with fail
  refine (short_calls w1 _ v xs 100 hv1 (by omega)).mono ?_
  rintro e _ ⟨v2, rfl, hv2, rfl⟩
  generalize xs.take 100 = ys at hv2
  go_wp2_with fail
  refine (read_calls w1 _ v2 ys (fun _ => 0) 1 hv2).mono ?_
  rintro e w3 ⟨b3, col3, rfl, hR3, hx3⟩
  have hv3 := hv2.ext (c := 0) hx3 (by decide)
  have hx3' := hx1.trans (hx3.mono (by decide))
  have hl3 := hv3.len
  go_wp2_with (at_builtin; refine pushs rfl _ _ 22 5 rfl Try.underlying22 Try.infoU8 rfl (by omega) w3.heap.size (.slice none 0 0) 0 [] rfl (World.ownsRow_nil _ _ _ _) (by omega) _ _ _ rfl hv3.1 (u8s_oneCell _) (by omega) ?_)
  intro A' cap' w4 hown' hgrow hat
  have hb4 : Below w3.heap.size w3 w4 := (Below.refl _ _).grown hgrow (Nat.le_refl _) (fun k hk => by simp [Value.ownBlock] at hk)
  have hnew : NewB 5 w3 w4 _ ys := ⟨by simpa using hown', hl3, hv3.2, hb4⟩
  have hv4 := hnew.rd.newc col3 0
  have hx4 := Ext.newc (S := [1, 2]) (col := col3) hb4 0
  go_wp2_with fail
  have hx45 : Ext [] w4 (newcol w3 col3 0) (w4.alloc (.cells #[.slice A' ys.length cap', .bool false] 56)) (newcol w4 (newcol w3 col3 0) 2) := (Ext.refl _ _ _).alloc _ 2
  have hx40 : Ext [] w3 col3 w4 (newcol w3 col3 0) := Ext.newc hb4 0
  have hR5 := (hR3.ext hx40 (by decide) (by decide)).ext hx45 (by decide) (by decide)
  have hQ5 : Rr1 (w4.alloc (.cells #[.slice A' ys.length cap', .bool false] 56)) (newcol w4 (newcol w3 col3 0) 2) 2 w4.heap.size ys false :=
    ⟨⟨_, heap_alloc_new _ _, newcol_new (Nat.le_refl _), hv4.ext hx45 (by decide)⟩, fun h => by cases h⟩
  have hx5 := (hx3'.trans (hx40.mono (by decide))).trans (hx45.mono (T := [1, 2]) (by decide))
  clear hx45 hx40 hv4 hnew hown' hgrow hat hR3
  go_loopw [8] (fun i wr => ∃ (j : Nat) (colr : Col) (zs : List Int) (bad : Bool), i = .int .i64 j ∧ j ≤ ks.length ∧ j ≤ 40 ∧ Rr wr colr 1 b3 zs bad ∧ Rr1 wr colr 2 w4.heap.size zs bad ∧ Ext [1, 2] w (fun _ => 0) wr colr) (fun i _ => 40 - (intOf i).toNat)
  case atStart => exact ⟨0, _, ys, false, rfl, by omega, by omega, hR5, hQ5, hx5⟩
  case round =>
    obtain ⟨j, colr, zs, bad, rfl, hj, hj40, hR, hQ, hx⟩ := hrel
    by_cases hc : j < ks.length ∧ j < 40
    · obtain ⟨hc1, hc2⟩ := hc
      obtain ⟨bk, ok, capk, he, hN, hbk, hck⟩ := (hk0.ext (c := 0) hx (by decide)).get hc1
      simp at he
      obtain ⟨rfl, rfl⟩ := he
      generalize ks.getD j 0 = k at hck
      clear hR5 hQ5 hx5 hx4
      by_cases hk0' : k = 0
      · have d0 : (k == 0) = true := by simp [hk0']
        clear hk0'
        go_wp2_with fail
        refine (rnum_calls _ colr 1 b3 _ _ (by omega) hR).mono ?_
        rintro e wa ⟨rfl, hR1, hxa⟩
        have hQ1 := hQ.ext hxa (by decide) (by decide)
        go_wp2_with fail
        refine (q1num_calls _ colr 2 _ _ _ (by omega) hQ1).mono ?_
        rintro e wb ⟨rfl, hQ2, hxb⟩
        have hR2 := hR1.ext hxb (by decide) (by decide)
        have hxx := (hx.trans (hxa.mono (by decide))).trans (hxb.mono (T := [1, 2]) (by decide))
        generalize rN zs = x0
        generalize rRest zs = zs2 at hR2 hQ2
        generalize rBad zs bad = bad2 at hR2 hQ2
        have hR20 := hR2.1
        obtain ⟨⟨vq, hbq, hcq, hvq⟩, _⟩ := id hQ2
        obtain ⟨kq0, _⟩ := cell_row hbq (j := 0) rfl
        obtain ⟨kq1, _⟩ := cell_row hbq (j := 1) rfl
        obtain ⟨Aq, capq, rfl, _⟩ := hvq.slice
        go_wp2_with fail
        cases bad2
        all_goals
          go_quiet ((first | (go_at_call 33; exact rok_quiet _ _ _ _ _ _ _ hR20) | (go_at_call 34; exact rleft_quiet _ _ _ _ _ _ _ hR20)))
          go_wp2
          exact ⟨⟨j + 1, _, zs2, _, by go_num, by omega, by omega, hR2, hQ2, hxx.drewN nq⟩, by simp [intOf]; omega⟩
      · have d0 : (k == 0) = false := by simp [hk0']
        by_cases hk1' : k = 1
        · have d1 : (k == 1) = true := by simp [hk1']
          clear hk0' hk1'
          go_wp2_with fail
          have hRd : Rr wr.drew colr 1 b3 zs bad := hR
          have hQd : Rr1 wr.drew colr 2 w4.heap.size zs bad := hQ
          have hxd : Ext [1, 2] w (fun _ => 0) wr.drew colr := hx.drewN 1
          clear hR hQ hx
          go_region_with (first | (go_at_call 31; refine (rtext_calls _ colr 1 b3 _ _ (by omega) hRd).mono ?_; rintro e wa ⟨va, cola, rfl, ⟨hva, hRa⟩, hxa⟩; have hca := RdB.conv (P := Try.prog) hva Try.underlying22 Try.underlying5 Try.underlying9; have hQa := hQd.ext hxa (by decide) (by decide)) | (go_at_call 36; refine (qtext_calls _ cola 2 _ _ _ (by omega) hQa).mono ?_; rintro e wb ⟨vb, colb, rfl, ⟨hvb, hQb⟩, hxb⟩; have hcb := RdB.conv (P := Try.prog) hvb Try.underlying22 Try.underlying5 Try.underlying9; have hcab := RdB.conv (P := Try.prog) (hva.ext hxb (by decide)) Try.underlying22 Try.underlying5 Try.underlying9; have hR2 := hRa.ext hxb (by decide) (by decide); have hxx := (hxd.trans (hxa.mono (by decide))).trans (hxb.mono (T := [1, 2]) (by decide))))
          all_goals
            clear hca hcb hcab
            have hQ2 := hQb
            generalize rTRest zs = zs2 at hR2 hQ2
            generalize rTBad zs bad = bad2 at hR2 hQ2
            have hR20 := hR2.1
            obtain ⟨⟨vq, hbq, hcq, hvq⟩, _⟩ := id hQ2
            obtain ⟨kq0, _⟩ := cell_row hbq (j := 0) rfl
            obtain ⟨kq1, _⟩ := cell_row hbq (j := 1) rfl
            obtain ⟨Aq, capq, rfl, _⟩ := hvq.slice
            go_wp2_with fail
            cases bad2
            all_goals
              go_quiet ((first | (go_at_call 33; exact rok_quiet _ _ _ _ _ _ _ hR20) | (go_at_call 34; exact rleft_quiet _ _ _ _ _ _ _ hR20)))
              go_wp2
              exact ⟨⟨j + 1, _, zs2, _, by go_num, by omega, by omega, hR2, hQ2, hxx.drewN nq⟩, by simp [intOf]; omega⟩
        · have d1 : (k == 1) = false := by simp [hk1']
          clear hk0' hk1'
          go_wp2_with fail
          refine (rflag_calls _ colr 1 b3 _ _ (by omega) hR).mono ?_
          rintro e wa ⟨rfl, hR1, hxa⟩
          have hQ1 := hQ.ext hxa (by decide) (by decide)
          go_wp2_with fail
          refine (qflag_calls _ colr 2 _ _ _ (by omega) hQ1).mono ?_
          rintro e wb ⟨rfl, hQ2, hxb⟩
          have hR2 := hR1.ext hxb (by decide) (by decide)
          have hxx := (hx.trans (hxa.mono (by decide))).trans (hxb.mono (T := [1, 2]) (by decide))
          generalize rF zs = x0
          generalize rFRest zs = zs2 at hR2 hQ2
          generalize rFBad zs bad = bad2 at hR2 hQ2
          have hR20 := hR2.1
          obtain ⟨⟨vq, hbq, hcq, hvq⟩, _⟩ := id hQ2
          obtain ⟨kq0, _⟩ := cell_row hbq (j := 0) rfl
          obtain ⟨kq1, _⟩ := cell_row hbq (j := 1) rfl
          obtain ⟨Aq, capq, rfl, _⟩ := hvq.slice
          go_wp2_with fail
          cases bad2
          all_goals
            go_quiet ((first | (go_at_call 33; exact rok_quiet _ _ _ _ _ _ _ hR20) | (go_at_call 34; exact rleft_quiet _ _ _ _ _ _ _ hR20)))
            go_wp2
            exact ⟨⟨j + 1, _, zs2, _, by go_num, by omega, by omega, hR2, hQ2, hxx.drewN nq⟩, by simp [intOf]; omega⟩
    · clear hR5 hQ5
      have hge : ¬ j < ks.length ∨ ¬ j < 40 := by omega
      clear hc
      go_wp2
      all_goals
        go_ret
        exact ⟨rfl, hx.below0 (by decide)⟩
end Go.Proofs.Yteodbcgfmfkdmaa
