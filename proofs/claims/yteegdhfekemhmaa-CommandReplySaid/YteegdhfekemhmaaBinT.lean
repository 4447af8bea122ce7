/- Walks of package bin: the reader's texts and flags. -/
import Derived.Test.YteegdhfekemhmaaBinR
namespace Go.Proofs.Yteegdhfekemhmaa
open Go.RowKit

/-- A reader at block b (colour c): xs is left; whoever failed has nothing left. -/
def Rr (w : World) (col : Col) (c b : Nat) (xs : List Int) (bad : Bool) : Prop := Rr0 w col c b xs bad ∧ (bad = true → xs = [])
theorem Rr.ext {S : List Nat} {w w' : World} {col col' : Col} {c b : Nat} {xs : List Int} {bad : Bool} (h : Rr w col c b xs bad) (hx : Ext S w col w' col') (hc : c ∉ S) (h0 : 0 ∉ S) : Rr w' col' c b xs bad := ⟨h.1.ext hx hc h0, h.2⟩
theorem read_calls (w : World) (N : Nat → Prop) (v : Value) (xs : List Int) (col : Col) (c : Nat) (hv : RdL w N v xs) :
    Calls Try.prog 86 #[v] w fun e w' => ∃ b col', e = .returned (.pointer (some ⟨b, 0, none⟩)) ∧ Rr w' col' c b xs false ∧ Ext [] w col w' col' :=
  (read0_calls w N v xs col c hv).mono fun _ _ ⟨b, col', h1, h2, h3⟩ => ⟨b, col', h1, ⟨h2, fun h => by cases h⟩, h3⟩
theorem rnum_calls (w : World) (col : Col) (c b : Nat) (xs : List Int) (bad : Bool) (hc0 : c ≠ 0) (hR : Rr w col c b xs bad) :
    Calls Try.prog 87 #[.pointer (some ⟨b, 0, none⟩)] w fun e w' => e = .returned (.int .i64 (rN xs)) ∧ Rr w' col c b (rRest xs) (rBad xs bad) ∧ Ext [c] w col w' col :=
  (rnum0_calls w col c b xs bad hc0 hR.1).mono fun _ _ ⟨h1, h2, h3⟩ => ⟨h1, ⟨h2, fun h => by
    cases hr : rnum xs with
    | none => simp [rRest, hr]
    | some p =>
      have : rBad xs bad = bad := by simp [rBad, hr]
      rw [hR.2 (by rw [← this]; exact h)] at hr
      simp [rnum, rdU] at hr⟩, h3⟩

set_option maxHeartbeats 400000 in
theorem rtext_calls (w : World) (col : Col) (c b : Nat) (xs : List Int) (bad : Bool) (hc0 : c ≠ 0) (hR : Rr w col c b xs bad) :
    Calls Try.prog 88 #[.pointer (some ⟨b, 0, none⟩)] w (Ret [c] w col fun v' w' col' => RdB w' (In col' 0) v' (rT xs) ∧ Rr w' col' c b (rTRest xs) (rTBad xs bad)) := by
  have h0c : 0 ∉ [c] := by simp; omega
  cases hr : rnum xs with
  | none =>
    have hT : rtext xs = none := by simp [rtext, hr]
    have Hb := Lib.hid (show rBad xs bad = true by simp [rBad, hr])
    have Hx := Lib.hid (show rRest xs = [] by simp [rRest, hr])
    have HT := Lib.hid (rT_none hT)
    clear hr hT
    go_enter Try.func88, Try.ntmps88
    go_wp2_with (first | (go_at_call 87; refine (rnum_calls w col c b xs bad hc0 hR).mono ?_; rintro e w1 ⟨rfl, hR1, hx1⟩; rw [Hb.out, Hx.out] at hR1) | (go_at_call 122; refine (rok_calls _ col c b [] true hR1.1).mono ?_; rintro e w2 ⟨rfl, rfl⟩))
    go_ret
    refine Ret.mk (col' := col) rfl ⟨?_, ?_⟩ (hx1)
    · rw [HT.out.1]; exact RdB.nil _ _
    · rw [HT.out.2.1, HT.out.2.2]; exact hR1
  | some p =>
    obtain ⟨n, r⟩ := p
    have hbad : bad = false := by
      cases bad with
      | false => rfl
      | true => rw [hR.2 rfl] at hr; simp [rnum, rdU] at hr
    subst hbad
    have Hb := Lib.hid (show rBad xs false = false by simp [rBad, hr])
    have Hx := Lib.hid (show rRest xs = r by simp [rRest, hr])
    have Hn := Lib.hid (show rN xs = n by simp [rN, hr])
    by_cases hok : 0 ≤ n ∧ n ≤ r.length
    · have HT := Lib.hid (rT_some (xs := xs) (t := r.take n.toNat) (r := r.drop n.toNat) (by simp [rtext, hr, hok]))
      clear hr
      obtain ⟨hn0, hn1⟩ := hok
      obtain ⟨k, rfl⟩ := Int.eq_ofNat_of_zero_le hn0
      rw [Int.toNat_natCast] at HT
      have hk0 : decide ((k : Int) < 0) = false := by simp
      go_enter Try.func88, Try.ntmps88
      go_wp2_with fail
      refine (rnum_calls w col c b xs false hc0 hR).mono ?_
      rintro e w1 ⟨rfl, hR1, hx1⟩
      rw [Hb.out, Hx.out] at hR1
      rw [Hn.out]
      go_wp2_with fail
      refine (rok_calls _ col c b r false hR1.1).mono ?_
      rintro e w2 ⟨rfl, rfl⟩
      obtain ⟨⟨v, hb, hcb, hv⟩, _⟩ := hR1
      obtain ⟨k0, e0⟩ := cell_row hb (j := 0) rfl
      have hrl := hv.len
      have hkr : k ≤ r.length := by omega
      rcases hv.form with ⟨_, ⟨rfl, rfl⟩ | ⟨b', o, cap, rfl, h1, h2, h3, h4⟩⟩
      · obtain rfl : k = 0 := by simpa using hkr
        clear hn1 hkr hrl
        go_wp2_with (go_at_call 96; refine (clone_calls _ _ _ _ (RdB.nil w1 (fun _ => True)).1).mono ?_; rintro e w2 ⟨v', rfl, hn⟩; (have hb2 := (hn.2.2.2.block b (heap_lt hb)).trans hb; obtain ⟨q0, q1⟩ := cell_row hb2 (j := 0) rfl))
        go_ret
        have hx2 := Ext.newc (S := [c]) (col := col) hn.2.2.2 0
        obtain ⟨g1, g2⟩ := Rr0.set (col := newcol w1 col 0) (c := c) hb2 (by rw [newcol_old (heap_lt hb)]; exact hcb) hc0 (RdB.nil w2 _)
        refine Ret.mk (col' := _) rfl ⟨?_, ?_⟩ ((hx1.trans hx2).trans g2)
        · rw [HT.out.1]; exact (hn.rd.newc col 0).ext g2 h0c
        · rw [HT.out.2.1, HT.out.2.2]; exact ⟨g1, fun h => by cases h⟩
      · have hfr := hv.front hkr
        have Hcut := Lib.hid (fun (W : World) (hW : RdB W (In (newcol w1 col 0) 0) (.slice (some ⟨b', o, none⟩) r.length cap) r) (o2 n2 cap2 : Nat) h1 h2 h3 (h4 : k < r.length → o2 = o + k) => hW.cut (i := k) hkr b' o2 n2 cap2 h1 h2 h3 (fun h => ⟨rfl, h4 h⟩))
        clear h4
        go_wp2_with (go_at_call 96; refine (clone_calls _ _ _ _ hfr.1).mono ?_; rintro e w2 ⟨v', rfl, hn⟩; (have hb2 := (hn.2.2.2.block b (heap_lt hb)).trans hb; obtain ⟨q0, q1⟩ := cell_row hb2 (j := 0) rfl))
        all_goals
          go_ret
          have hx2 := Ext.newc (S := [c]) (col := col) hn.2.2.2 0
          have hv2 := hv.ext hx2 h0c
          have hcb2 : newcol w1 col 0 b = c := by rw [newcol_old (heap_lt hb)]; exact hcb
          refine Ret.mk (col' := newcol w1 col 0) rfl ⟨?_, ?_⟩ ((hx1.trans hx2).trans (Rr0.set hb2 hcb2 hc0 (Hcut.out w2 hv2 _ _ _ (by omega) (by omega) (by omega) (by omega))).2)
          · rw [HT.out.1]; exact (hn.rd.newc col 0).ext (Rr0.set hb2 hcb2 hc0 (Hcut.out w2 hv2 _ _ _ (by omega) (by omega) (by omega) (by omega))).2 h0c
          · rw [HT.out.2.1, HT.out.2.2]; exact ⟨(Rr0.set hb2 hcb2 hc0 (Hcut.out w2 hv2 _ _ _ (by omega) (by omega) (by omega) (by omega))).1, fun h => by cases h⟩
    · have HT := Lib.hid (rT_none (xs := xs) (by simp [rtext, hr, hok]))
      clear hr
      go_enter Try.func88, Try.ntmps88
      go_wp2_with fail
      refine (rnum_calls w col c b xs false hc0 hR).mono ?_
      rintro e w1 ⟨rfl, hR1, hx1⟩
      rw [Hb.out, Hx.out] at hR1
      rw [Hn.out]
      go_wp2_with fail
      refine (rok_calls _ col c b r false hR1.1).mono ?_
      rintro e w2 ⟨rfl, rfl⟩
      have hR2 := hR1
      obtain ⟨⟨v, hb, hcb, hv⟩, _⟩ := hR2
      obtain ⟨k0, e0⟩ := cell_row hb (j := 0) rfl
      obtain ⟨A, cap, rfl, _⟩ := hv.slice
      by_cases hn0 : n < 0
      · have hk0 : decide (n < 0) = true := by simpa using hn0
        go_wp2_with (go_at_call 121; refine (rfail_calls _ col c b r false hR1.1).mono ?_; rintro e w' ⟨rfl, hR2, hx2⟩)
        go_ret
        refine Ret.mk (col' := col) rfl ⟨?_, ?_⟩ (hx1.trans hx2)
        · rw [HT.out.1]; exact RdB.nil _ _
        · rw [HT.out.2.1, HT.out.2.2]; exact ⟨hR2, fun _ => rfl⟩
      · have hk0 : decide (n < 0) = false := by simpa using hn0
        have hk1 : (r.length : Int) < n := by omega
        clear hok
        go_wp2_with (go_at_call 121; refine (rfail_calls _ col c b r false hR1.1).mono ?_; rintro e w' ⟨rfl, hR2, hx2⟩)
        go_ret
        refine Ret.mk (col' := col) rfl ⟨?_, ?_⟩ (hx1.trans hx2)
        · rw [HT.out.1]; exact RdB.nil _ _
        · rw [HT.out.2.1, HT.out.2.2]; exact ⟨hR2, fun _ => rfl⟩

set_option maxHeartbeats 400000 in
theorem rflag_calls (w : World) (col : Col) (c b : Nat) (xs : List Int) (bad : Bool) (hc0 : c ≠ 0) (hR : Rr w col c b xs bad) :
    Calls Try.prog 114 #[.pointer (some ⟨b, 0, none⟩)] w fun e w' => e = .returned (.bool (rF xs)) ∧ Rr w' col c b (rFRest xs) (rFBad xs bad) ∧ Ext [c] w col w' col := by
  have h0c : 0 ∉ [c] := by simp; omega
  obtain ⟨⟨v, hb, hcb, hv⟩, hbx⟩ := hR
  obtain ⟨k0, e0⟩ := cell_row hb (j := 0) rfl
  cases xs with
  | nil =>
    have HF := Lib.hid (rF_none (xs := []) rfl)
    obtain ⟨A, cap, rfl, _⟩ := hv.slice
    go_enter Try.func114, Try.ntmps114
    have hR0 : Rr0 w col c b [] bad := ⟨_, hb, hcb, hv⟩
    go_wp2_with (go_at_call 121; refine (rfail_calls _ col c b _ bad hR0).mono ?_; rintro e w' ⟨rfl, hR2, hx2⟩)
    go_ret
    exact ⟨ret_bool HF.out.1.symm, by rw [HF.out.2.1, HF.out.2.2]; exact ⟨hR2, fun _ => rfl⟩, hx2⟩
  | cons x r =>
    have hR0 : Rr0 w col c b (x :: r) bad := ⟨_, hb, hcb, hv⟩
    have hbad : bad = false := by
      cases bad with
      | false => rfl
      | true => cases hbx rfl
    subst hbad
    have hx := hv.1.2 x (by simp)
    have hl := hv.len
    rcases hv.form with ⟨_, ⟨_, hnil⟩ | ⟨b', o, cap, rfl, h1, h2, h3, h4⟩⟩
    · cases hnil
    have hc0' : w.cell? ⟨b', o, none⟩ = some (.int .u8 x) := by
      have := h4 0 (by simp)
      simpa using this
    have Hcut := Lib.hid (fun (o2 n2 cap2 : Nat) h1 h2 h3 (h4 : 1 < (x :: r).length → o2 = o + 1) => hv.cut (i := 1) (by simp) b' o2 n2 cap2 h1 h2 h3 (fun h => ⟨rfl, h4 h⟩))
    simp only [List.length_cons] at k0 h1 hl h4 Hcut hv hb
    clear h4
    by_cases hx1 : x ≤ 1
    · have HF := Lib.hid (rF_some (xs := x :: r) (f := decide (x = 1)) (r := r) (by simp [rflag, hx1]))
      have hgt : ¬ 1 < x := by omega
      go_enter Try.func114, Try.ntmps114
      go_wp2
      all_goals
        go_ret
        refine ⟨ret_bool (by rw [HF.out.1]; rw [Bool.eq_iff_iff]; simp), ?_, (Rr0.set hb hcb hc0 (Hcut.out _ _ _ (by omega) (by omega) (by omega) (by omega))).2⟩
        rw [HF.out.2.1, HF.out.2.2]
        exact ⟨(Rr0.set hb hcb hc0 (Hcut.out _ _ _ (by omega) (by omega) (by omega) (by omega))).1, fun h => by cases h⟩
    · have HF := Lib.hid (rF_none (xs := x :: r) (by simp [rflag, hx1]))
      have hgt : 1 < x := by omega
      go_enter Try.func114, Try.ntmps114
      go_wp2_with (go_at_call 121; refine (rfail_calls _ col c b _ false hR0).mono ?_; rintro e w' ⟨rfl, hR2, hx2⟩)
      go_ret
      exact ⟨ret_bool HF.out.1.symm, by rw [HF.out.2.1, HF.out.2.2]; exact ⟨hR2, fun _ => rfl⟩, hx2⟩
end Go.Proofs.Yteegdhfekemhmaa
