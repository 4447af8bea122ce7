/- Walks of package delphiref1: its reader's texts. -/
import Derived.Test.YteegdhfekemhmaaRefR
namespace Go.Proofs.Yteegdhfekemhmaa
open Go.RowKit

set_option maxHeartbeats 400000 in
set_option maxRecDepth 100000 in
theorem qnum_nil (w : World) (col : Col) (c b : Nat) (bad : Bool) (hb : w.heap[b]? = some (.cells [.slice none 0 0, .bool bad].toArray 38 (0, 0))) (hcb : col b = c) :
    Calls Try.prog 28 #[.pointer (some ⟨b, 0, none⟩)] w fun e w' => e = .returned (.int .i64 0) ∧ Rq w' col c b [] true ∧ Ext [c] w col w' col := by
  obtain ⟨k0, e0⟩ := cell_row hb (j := 0) rfl
  obtain ⟨k1, e1⟩ := cell_row hb (j := 1) rfl
  have hR : Rq w col c b [] bad := ⟨_, hb, hcb, RdB.nil _ _⟩
  go_enter Try.func28, Try.ntmps28
  go_wp2_with fail
  refine wp_loop_rounds 1 ?_
  rw [rounds_succ]
  go_wp2_with (go_at_call 90; refine (qfail_calls _ col c b [] bad hR).mono ?_; rintro e w' ⟨rfl, hR2, hx2⟩)
  go_ret
  exact ⟨rfl, hR2, hx2⟩

theorem qnum_calls (w : World) (col : Col) (c b : Nat) (xs : List Int) (bad : Bool) (hc0 : c ≠ 0) (hR : Rq w col c b xs bad) :
    Calls Try.prog 28 #[.pointer (some ⟨b, 0, none⟩)] w fun e w' => e = .returned (.int .i64 (rN xs)) ∧ Rq w' col c b (rRest xs) (rBad xs bad) ∧ Ext [c] w col w' col := by
  obtain ⟨v, hb, hcb, hv⟩ := hR
  rcases hv.form with ⟨_, ⟨rfl, rfl⟩ | ⟨b', o, cap, rfl, h1, h2, h3, h4⟩⟩
  · exact qnum_nil w col c b bad hb hcb
  · exact qnum_some w col c b b' o cap xs bad hb hcb hc0 hv h1 h2 h4

/-- .. whoever failed has nothing left. -/
def Rr1 (w : World) (col : Col) (c b : Nat) (xs : List Int) (bad : Bool) : Prop := Rq w col c b xs bad ∧ (bad = true → xs = [])
theorem Rr1.ext {S : List Nat} {w w' : World} {col col' : Col} {c b : Nat} {xs : List Int} {bad : Bool} (h : Rr1 w col c b xs bad) (hx : Ext S w col w' col') (hc : c ∉ S) (h0 : 0 ∉ S) : Rr1 w' col' c b xs bad := ⟨h.1.ext hx hc h0, h.2⟩
theorem rBad_nil {xs : List Int} {bad : Bool} (h : bad = true → xs = []) : rBad xs bad = true → rRest xs = [] := by
  intro hb
  cases hr : rnum xs with
  | none => simp [rRest, hr]
  | some p =>
    have : rBad xs bad = bad := by simp [rBad, hr]
    rw [h (by rw [← this]; exact hb)] at hr
    simp [rnum, rdU] at hr
theorem q1num_calls (w : World) (col : Col) (c b : Nat) (xs : List Int) (bad : Bool) (hc0 : c ≠ 0) (hR : Rr1 w col c b xs bad) :
    Calls Try.prog 28 #[.pointer (some ⟨b, 0, none⟩)] w fun e w' => e = .returned (.int .i64 (rN xs)) ∧ Rr1 w' col c b (rRest xs) (rBad xs bad) ∧ Ext [c] w col w' col :=
  (qnum_calls w col c b xs bad hc0 hR.1).mono fun _ _ ⟨h1, h2, h3⟩ => ⟨h1, ⟨h2, rBad_nil hR.2⟩, h3⟩

set_option maxHeartbeats 400000 in
set_option maxRecDepth 100000 in
theorem qtext_calls (w : World) (col : Col) (c b : Nat) (xs : List Int) (bad : Bool) (hc0 : c ≠ 0) (hR : Rr1 w col c b xs bad) :
    Calls Try.prog 29 #[.pointer (some ⟨b, 0, none⟩)] w (Ret [c] w col fun v' w' col' => RdB w' (In col' 0) v' (rT xs) ∧ Rr1 w' col' c b (rTRest xs) (rTBad xs bad)) := by
  have h0c : 0 ∉ [c] := by simp; omega
  cases hr : rnum xs with
  | none =>
    have hT : rtext xs = none := by simp [rtext, hr]
    have Hb := Lib.hid (show rBad xs bad = true by simp [rBad, hr])
    have Hx := Lib.hid (show rRest xs = [] by simp [rRest, hr])
    have HT := Lib.hid (rT_none hT)
    clear hr hT
    go_enter Try.func29, Try.ntmps29
    go_wp2_with fail
    refine (q1num_calls w col c b xs bad hc0 hR).mono ?_
    rintro e w1 ⟨rfl, hR1, hx1⟩
    rw [Hb.out, Hx.out] at hR1
    have hR2 := hR1.1
    obtain ⟨⟨v, hb, hcb, hv⟩, _⟩ := hR1
    obtain ⟨k1, e1⟩ := cell_row hb (j := 1) rfl
    go_wp2_with (go_at_call 90; refine (qfail_calls _ col c b _ true hR2).mono ?_; rintro e w' ⟨rfl, hR3, hx3⟩)
    go_ret
    refine Ret.mk (col' := col) rfl ⟨?_, ?_⟩ (hx1.trans hx3)
    · rw [HT.out.1]; exact RdB.nil _ _
    · rw [HT.out.2.1, HT.out.2.2]; exact ⟨hR3, fun _ => rfl⟩
  | some p =>
    obtain ⟨n, r⟩ := p
    have hbad : bad = false := by
      cases bad with
      | false => rfl
      | true => rw [hR.2 rfl] at hr; simp [rnum, rdU] at hr
    subst hbad
    have Hb := Lib.hid (show rBad xs false = false by simp [rBad, hr])
    have Hx := Lib.hid (show rRest xs = r by simp [rRest, hr])
    have Hn := Lib.hid (show rN xs = n by simp [rN, hr])
    have Hxt := Lib.hid (show rtext xs = if 0 ≤ n ∧ n ≤ r.length then some (r.take n.toNat, r.drop n.toNat) else none by simp [rtext, hr])
    clear hr
    go_enter Try.func29, Try.ntmps29
    go_wp2_with fail
    refine (q1num_calls w col c b xs false hc0 hR).mono ?_
    rintro e w1 ⟨rfl, hR1, hx1⟩
    rw [Hb.out, Hx.out] at hR1
    rw [Hn.out]
    have hR2 := hR1.1
    obtain ⟨⟨v, hb, hcb, hv⟩, _⟩ := hR1
    obtain ⟨k0, e0⟩ := cell_row hb (j := 0) rfl
    obtain ⟨k1, e1⟩ := cell_row hb (j := 1) rfl
    have hrl := hv.len
    by_cases hok : 0 ≤ n ∧ n ≤ r.length
    · have HT := Lib.hid (rT_some (Hxt.out.trans (if_pos hok)))
      obtain ⟨hn0, hn1⟩ := hok
      obtain ⟨k, rfl⟩ := Int.eq_ofNat_of_zero_le hn0
      rw [Int.toNat_natCast] at HT
      have g0 : decide ((k : Int) < 0) = false := by simp
      have hkr : k ≤ r.length := by omega
      have hfr := hv
      rcases hv.form with ⟨_, ⟨rfl, rfl⟩ | ⟨b', o, cap, rfl, h1, h2, h3, h4⟩⟩
      · obtain rfl : k = 0 := by simpa using hkr
        clear hn1 hkr hrl
        go_wp2
        go_ret
        obtain ⟨g1, g2⟩ := Rq.set (col := col) (c := c) hb hcb hc0 (RdB.nil w1 _)
        refine Ret.mk (col' := col) rfl ⟨?_, ?_⟩ (hx1.trans g2)
        · rw [HT.out.1]; exact RdB.nil _ _
        · rw [HT.out.2.1, HT.out.2.2]; exact ⟨g1, fun h => by cases h⟩
      · have Hfr := Lib.hid (hv.front hkr).recap
        have Hcut := Lib.hid (fun (o2 n2 cap2 : Nat) h1 h2 h3 (h4 : k < r.length → o2 = o + k) => hv.cut (i := k) hkr b' o2 n2 cap2 h1 h2 h3 (fun h => ⟨rfl, h4 h⟩))
        clear h4
        go_wp2
        all_goals
          go_ret
          refine (fun (hq : Rq _ col c b (r.drop k) false ∧ Ext [c] w1 col _ col) => Ret.mk (col' := col) rfl ⟨?_, ?_⟩ (hx1.trans hq.2)) (Rq.set hb hcb hc0 (Hcut.out _ _ _ (by omega) (by omega) (by omega) (by omega)))
          · rw [HT.out.1]; exact (Hfr.out _ (by omega) (by omega)).ext hq.2 h0c
          · rw [HT.out.2.1, HT.out.2.2]; exact ⟨hq.1, fun h => by cases h⟩
    · have HT := Lib.hid (rT_none (Hxt.out.trans (if_neg hok)))
      obtain ⟨A, cap, rfl, _⟩ := hv.slice
      by_cases hn0 : n < 0
      · have hk0 : decide (n < 0) = true := by simpa using hn0
        clear hok
        go_wp2_with (go_at_call 90; refine (qfail_calls _ col c b _ false hR2).mono ?_; rintro e w' ⟨rfl, hR3, hx3⟩)
        go_ret
        refine Ret.mk (col' := col) rfl ⟨?_, ?_⟩ (hx1.trans hx3)
        · rw [HT.out.1]; exact RdB.nil _ _
        · rw [HT.out.2.1, HT.out.2.2]; exact ⟨hR3, fun _ => rfl⟩
      · have hk0 : decide (n < 0) = false := by simpa using hn0
        have hk1 : (r.length : Int) < n := by omega
        clear hok
        go_wp2_with (go_at_call 90; refine (qfail_calls _ col c b _ false hR2).mono ?_; rintro e w' ⟨rfl, hR3, hx3⟩)
        go_ret
        refine Ret.mk (col' := col) rfl ⟨?_, ?_⟩ (hx1.trans hx3)
        · rw [HT.out.1]; exact RdB.nil _ _
        · rw [HT.out.2.1, HT.out.2.2]; exact ⟨hR3, fun _ => rfl⟩

end Go.Proofs.Yteegdhfekemhmaa
