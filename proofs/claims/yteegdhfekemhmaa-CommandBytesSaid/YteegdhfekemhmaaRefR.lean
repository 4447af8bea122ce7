/- Walks of package delphiref1: its reader. -/
import Derived.Test.YteegdhfekemhmaaBinM2
import Derived.Test.YteegdhfekemhmaaRef1
namespace Go.Proofs.Yteegdhfekemhmaa
open Go.RowKit

/-- The document's reader at block b (colour c): xs is left. -/
def Rq (w : World) (col : Col) (c b : Nat) (xs : List Int) (bad : Bool) : Prop :=
  ∃ v, w.heap[b]? = some (.cells [v, .bool bad].toArray 38 (0, 0)) ∧ col b = c ∧ RdB w (In col 0) v xs
theorem Rq.set {w : World} {col : Col} {c b : Nat} {v V : Value} {bad : Bool} {ys : List Int} (hb : w.heap[b]? = some (.cells [v, .bool bad].toArray 38 (0, 0))) (hcb : col b = c) (hc0 : c ≠ 0) (hV : RdB w (In col 0) V ys) :
    Rq (w.setCell ⟨b, 0, none⟩ V) col c b ys bad ∧ Ext [c] w col (w.setCell ⟨b, 0, none⟩ V) col := by
  have hk : ∀ k, k ≠ b → (w.setCell ⟨b, 0, none⟩ V).heap[k]? = w.heap[k]? := fun k hk => heap_setCell_other _ _ _ _ (by simpa using hk)
  refine ⟨⟨V, setCell_row hb 0 V, hcb, hV.keeps fun k h0 _ => ⟨hk k ?_, h0⟩⟩, ⟨rfl, rfl, rfl, by simp, fun k _ hkc => hk k ?_, fun _ _ => rfl⟩⟩
  · rintro rfl; exact hc0 (hcb.symm.trans h0)
  · rintro rfl; exact hkc (by simp [hcb])
theorem Rq.ext {S : List Nat} {w w' : World} {col col' : Col} {c b : Nat} {xs : List Int} {bad : Bool} (h : Rq w col c b xs bad) (hx : Ext S w col w' col') (hc : c ∉ S) (h0 : 0 ∉ S) : Rq w' col' c b xs bad := by
  obtain ⟨v, hb, hcb, hv⟩ := h
  exact ⟨v, by rw [hx.block b (heap_lt hb) (by rw [hcb]; exact hc)]; exact hb, by rw [hx.col b (heap_lt hb)]; exact hcb, hv.ext hx h0⟩

set_option maxHeartbeats 400000 in
theorem qfail_calls (w : World) (col : Col) (c b : Nat) (xs : List Int) (bad : Bool) (hR : Rq w col c b xs bad) :
    Calls Try.prog 90 #[.pointer (some ⟨b, 0, none⟩)] w fun e w' => e = .returned (.tuple #[]) ∧ Rq w' col c b [] true ∧ Ext [c] w col w' col := by
  obtain ⟨v, hb, hcb, hv⟩ := hR
  obtain ⟨k0, e0⟩ := cell_row hb (j := 0) rfl
  obtain ⟨k1, e1⟩ := cell_row hb (j := 1) rfl
  go_enter Try.func90, Try.ntmps90
  go_wp2
  go_end0
  have hx : Ext [c] w col ((w.setCell ⟨b, 1, none⟩ (.bool true)).setCell ⟨b, 0, none⟩ (.slice none 0 0)) col := by
    refine ⟨rfl, rfl, rfl, by simp, fun k hk hkc => ?_, fun _ _ => rfl⟩
    have hkb : k ≠ b := by rintro rfl; exact hkc (by simp [hcb])
    rw [heap_setCell_other _ _ _ _ (by simpa using hkb), heap_setCell_other _ _ _ _ (by simpa using hkb)]
  exact ⟨rfl, ⟨_, setCell_row (setCell_row hb 1 _) 0 _, hcb, RdB.nil _ _⟩, hx⟩

theorem wrap_u64_nat (z : Int) : ∃ u : Nat, IntKind.u64.wrap z = (u : Int) ∧ u < 18446744073709551616 := by
  rw [IntKind.wrap_u64]
  exact ⟨(z % 18446744073709551616).toNat, by omega, by omega⟩

set_option maxHeartbeats 400000 in
set_option maxRecDepth 100000 in
theorem qnum_some (w : World) (col : Col) (c b b' o cap : Nat) (xs : List Int) (bad : Bool) (hb : w.heap[b]? = some (.cells [.slice (some ⟨b', o, none⟩) xs.length cap, .bool bad].toArray 38 (0, 0))) (hcb : col b = c) (hc0 : c ≠ 0) (hv : RdB w (In col 0) (.slice (some ⟨b', o, none⟩) xs.length cap) xs)
    (h1 : xs.length ≤ cap) (h2 : cap ≤ 9223372036854775807) (hcell : ∀ j, j < xs.length → w.cell? ⟨b', o + j, none⟩ = some (.int .u8 (xs.getD j 0))) :
    Calls Try.prog 28 #[.pointer (some ⟨b, 0, none⟩)] w fun e w' => e = .returned (.int .i64 (rN xs)) ∧ Rq w' col c b (rRest xs) (rBad xs bad) ∧ Ext [c] w col w' col := by
  obtain ⟨k0, e0⟩ := cell_row hb (j := 0) rfl
  obtain ⟨k1, e1⟩ := cell_row hb (j := 1) rfl
  have hlen := hv.len
  have hR : Rq w col c b xs bad := ⟨_, hb, hcb, hv⟩
  have hB := hv.1.2
  have Hcell := Lib.hid hcell
  clear hcell
  go_enter Try.func28, Try.ntmps28
  go_wp2_with fail
  go_loop [3] (fun k => ∃ p : Nat, k = .int .i64 (p + 1) ∧ p ≤ 10 ∧ p ≤ xs.length ∧ Hid (∀ j, j < p → 127 < xs.getD j 0)) (fun k => 11 - (intOf k).toNat)
  case atStart => exact ⟨0, rfl, by omega, by omega, fun j h => absurd h (by omega)⟩
  case round =>
    obtain ⟨p, rfl, hp, hpl, hbig⟩ := hrel
    by_cases hc : p < 10 ∧ p < xs.length
    · obtain ⟨hc1, hc2⟩ := hc
      have g1 : decide ((p : Int) + 1 ≤ 10) = true := by simp; omega
      have hci := Hcell.out p hc2
      have hx := hB.at p
      have Hat := Lib.hid (fun h => rdU_at (xs := xs) (p := p) (by omega) hc2 hbig.out (hB.at p).1 h)
      by_cases hxb : 127 < xs.getD p 0
      · clear Hat
        have Hnext : Hid (∀ j, j < p + 1 → 127 < xs.getD j 0) := by
          intro j hj
          rcases Nat.lt_or_ge j p with h | h
          · exact hbig.out j h
          · rwa [show j = p by omega]
        generalize xs.getD p 0 = x at hci hx hxb
        have hxb2 : 128 ≤ x := by omega
        go_wp2
        exact ⟨⟨p + 1, by simp, by omega, by omega, Hnext⟩, by simp [intOf]; omega⟩
      · have Hat2 := Lib.hid (Hat.out hxb)
        clear Hat
        have Hmv := Lib.hid (fun (q : Nat) (hq : q < p + 1) => val_mid (xs := xs) hq (show p + 1 ≤ xs.length by omega))
        have Hml := Lib.hid (fun (q : Nat) (hq : 1 + q ≤ p + 1) => val_mid_le (xs := xs) (k := p + 1) (by omega) q 1 hq)
        have Hm0 := Lib.hid (mid_all xs (p + 1))
        have Hme := Lib.hid (mid_end xs (p + 1) (by omega))
        have HB := Lib.hid hB
        clear hB hbig
        have hxs := hx
        generalize xs.getD p 0 = x at hci hx hxb Hat2
        have hxb2 : x < 128 := by omega
        go_wp2_with fail
        go_loop [4, 5, 6] (fun u ok i => ∃ (q u0 : Nat) (ok0 : Bool), i = .int .i64 ((q : Int) - 1) ∧ u = .int .u64 u0 ∧ ok = .bool ok0 ∧ q ≤ p + 1 ∧ u0 < 18446744073709551616 ∧ Hid ((ok0 = true → u0 = val (mid xs q (p + 1)) ∧ (q = 0 → val (mid xs 1 (p + 1)) < 144115188075855872)) ∧ (ok0 = false → ¬ val (mid xs 1 (p + 1)) < 144115188075855872))) (fun _ _ i => (intOf i + 1).toNat)
        case atStart =>
          refine ⟨p + 1, 0, true, by simp, rfl, rfl, by omega, by omega, ?_⟩
          exact ⟨fun _ => ⟨by rw [Hme.out]; rfl, fun h => by omega⟩, fun h => by cases h⟩
        case round =>
          obtain ⟨q, u0, ok0, rfl, rfl, rfl, hq, hu0, hinv⟩ := hrel
          cases q with
          | succ q =>
            rw [show (((q + 1 : Nat) : Int) - 1) = (q : Int) by omega]
            have hcq := Hcell.out q (by omega)
            have hy := HB.out.at q
            have hmv := Hmv.out q (by omega)
            have hml := Hml.out q (by omega)
            rw [show 1 + q = q + 1 by omega] at hml
            generalize xs.getD q 0 = y at hcq hy hmv
            have HV := Lib.hid hmv
            have HL := Lib.hid hml
            clear hmv hml
            cases ok0 with
            | false =>
              go_wp2
              obtain ⟨u', hu', hu64⟩ := wrap_u64_nat (IntKind.u64.wrap (↑u0 * 128) + y % 128)
              exact ⟨⟨q, u', false, rfl, by rw [hu'], rfl, by omega, hu64, And.intro (fun h => (by cases h)) hinv.out.2⟩, by simp [intOf]⟩
            | true =>
              have Hu := Lib.hid (hinv.out.1 rfl).1
              by_cases h57 : u0 < 144115188075855872
              · have hdec : decide ((u0 : Int) < 144115188075855872) = true := by simp; omega
                go_wp2
                have hu' := Hu.out
                have hv := HV.out
                refine ⟨⟨q, u0 * 128 + y.toNat % 128, true, rfl, int_val (by omega), rfl, by omega, by omega, And.intro (fun _ => ⟨by rw [hv, ← hu'], fun h0 => ?_⟩) (fun h => (by cases h))⟩, by simp [intOf]⟩
                subst h0
                rw [← hu']; exact h57
              · have hdec : decide ((u0 : Int) < 144115188075855872) = false := by simp; omega
                go_wp2
                obtain ⟨u', hu2, hu64⟩ := wrap_u64_nat (IntKind.u64.wrap (↑u0 * 128) + y % 128)
                refine ⟨⟨q, u', false, rfl, by rw [hu2], rfl, by omega, hu64, And.intro (fun h => (by cases h)) (fun _ => ?_)⟩, by simp [intOf]⟩
                have := Hu.out
                have := HL.out
                omega
          | zero =>
            cases ok0 with
            | false =>
              have Hn := Lib.hid (rN_none (Hat2.out.1 (.inl (hinv.out.2 rfl))))
              clear hxs
              go_wp2_with (go_at_call 90; refine (qfail_calls _ col c b _ bad hR).mono ?_; rintro e w' ⟨rfl, hR2, hx2⟩)
              go_ret
              exact ⟨ret_int Hn.out.1.symm, by rw [Hn.out.2.1, Hn.out.2.2]; exact hR2, hx2⟩
            | true =>
              obtain ⟨hu, h57⟩ := hinv.out.1 rfl
              have Hu := Lib.hid hu
              have h57 := h57 rfl
              have H57 := Lib.hid h57
              clear hu h57
              by_cases hz : 0 < p ∧ x = 0
              · obtain ⟨hp0, hx0⟩ := hz
                have Hn := Lib.hid (rN_none (Hat2.out.1 (.inr ⟨hp0, hx0⟩)))
                subst hx0
                clear hxs
                go_wp2_with (go_at_call 90; refine (qfail_calls _ col c b _ bad hR).mono ?_; rintro e w' ⟨rfl, hR2, hx2⟩)
                go_ret
                exact ⟨ret_int Hn.out.1.symm, by rw [Hn.out.2.1, Hn.out.2.2]; exact hR2, hx2⟩
              · have Hs := Lib.hid (rN_some (Hat2.out.2 H57.out hz))
                have Hres : Hid (∀ W, Rq W col c b (xs.drop (p + 1)) bad → Rq W col c b (rRest xs) (rBad xs bad)) := by
                  intro W h; rw [Hs.out.2.1, Hs.out.2.2]; exact h
                have Hcut := Lib.hid (fun (o2 n2 cap2 : Nat) h1 h2 h3 (h4 : p + 1 < xs.length → o2 = o + (p + 1)) => hv.cut (i := p + 1) (by omega) b' o2 n2 cap2 h1 h2 h3 (fun h => ⟨rfl, h4 h⟩))
                have Hret : Hid (rN xs = unzz u0) := by
                  show _ = _
                  rw [Hs.out.1, Hu.out, Hm0.out]
                have c1 : (0 : Int) ≤ (p : Int) + 1 := by omega
                have c2 : (p : Int) + 1 ≤ (xs.length : Int) := by omega
                have c3 : (p : Int) + 1 ≤ (cap : Int) := by omega
                clear hxs
                have Hun := Lib.hid (show unzz u0 = if u0 % 2 = 0 then ((u0 / 2 : Nat) : Int) else -1 - ((u0 / 2 : Nat) : Int) from rfl)
                by_cases hp0 : 0 < p
                · have hxne : (x == 0) = false := by
                    rw [beq_eq_false_iff_ne]; intro h; exact hz ⟨hp0, h⟩
                  clear hz
                  by_cases h2 : u0 % 2 = 0
                  · have Hr2 := Lib.hid (show (u0 : Int) / 2 = rN xs by rw [Hret.out, Hun.out, if_pos h2]; omega)
                    go_wp2
                    all_goals
                      go_ret
                      exact ⟨ret_int Hr2.out, Hres.out _ (Rq.set hb hcb hc0 (Hcut.out _ _ _ (by omega) (by omega) (by omega) (by omega))).1, (Rq.set hb hcb hc0 (Hcut.out _ _ _ (by omega) (by omega) (by omega) (by omega))).2⟩
                  · have Hr2 := Lib.hid (show -1 - (u0 : Int) / 2 = rN xs by rw [Hret.out, Hun.out, if_neg h2]; omega)
                    have h2' : u0 % 2 = 1 := by omega
                    clear h2
                    go_wp2
                    all_goals
                      go_ret
                      exact ⟨ret_int Hr2.out, Hres.out _ (Rq.set hb hcb hc0 (Hcut.out _ _ _ (by omega) (by omega) (by omega) (by omega))).1, (Rq.set hb hcb hc0 (Hcut.out _ _ _ (by omega) (by omega) (by omega) (by omega))).2⟩
                · clear hz
                  by_cases h2 : u0 % 2 = 0
                  · have Hr2 := Lib.hid (show (u0 : Int) / 2 = rN xs by rw [Hret.out, Hun.out, if_pos h2]; omega)
                    go_wp2
                    all_goals
                      go_ret
                      exact ⟨ret_int Hr2.out, Hres.out _ (Rq.set hb hcb hc0 (Hcut.out _ _ _ (by omega) (by omega) (by omega) (by omega))).1, (Rq.set hb hcb hc0 (Hcut.out _ _ _ (by omega) (by omega) (by omega) (by omega))).2⟩
                  · have Hr2 := Lib.hid (show -1 - (u0 : Int) / 2 = rN xs by rw [Hret.out, Hun.out, if_neg h2]; omega)
                    have h2' : u0 % 2 = 1 := by omega
                    clear h2
                    go_wp2
                    all_goals
                      go_ret
                      exact ⟨ret_int Hr2.out, Hres.out _ (Rq.set hb hcb hc0 (Hcut.out _ _ _ (by omega) (by omega) (by omega) (by omega))).1, (Rq.set hb hcb hc0 (Hcut.out _ _ _ (by omega) (by omega) (by omega) (by omega))).2⟩
    · have Hn := Lib.hid (rN_none (rdU_none hp hpl hbig.out (by omega)))
      by_cases hp10 : p < 10
      · have g1 : decide ((p : Int) + 1 ≤ 10) = true := by simp; omega
        have g2 : ¬ (p : Int) + 1 ≤ (xs.length : Int) := by omega
        clear hc hpl hp
        go_wp2_with (go_at_call 90; refine (qfail_calls _ col c b _ bad hR).mono ?_; rintro e w' ⟨rfl, hR2, hx2⟩)
        go_ret
        exact ⟨ret_int Hn.out.1.symm, by rw [Hn.out.2.1, Hn.out.2.2]; exact hR2, hx2⟩
      · have g1 : decide ((p : Int) + 1 ≤ 10) = false := by simp; omega
        clear hc hpl hp
        go_wp2_with (go_at_call 90; refine (qfail_calls _ col c b _ bad hR).mono ?_; rintro e w' ⟨rfl, hR2, hx2⟩)
        go_ret
        exact ⟨ret_int Hn.out.1.symm, by rw [Hn.out.2.1, Hn.out.2.2]; exact hR2, hx2⟩
end Go.Proofs.Yteegdhfekemhmaa
