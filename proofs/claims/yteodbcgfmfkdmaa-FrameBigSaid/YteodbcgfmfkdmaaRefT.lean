/- Walks of package delphiref1: its reader's flags. -/
import Derived.Test.YteodbcgfmfkdmaaRefU
namespace Go.Proofs.Yteodbcgfmfkdmaa
open Go.RowKit

set_option maxHeartbeats 400000 in
set_option maxRecDepth 100000 in
theorem qflag_calls (w : World) (col : Col) (c b : Nat) (xs : List Int) (bad : Bool) (hc0 : c ≠ 0) (hR : Rr1 w col c b xs bad) :
    Calls Try.prog 37 #[.pointer (some ⟨b, 0, none⟩)] w fun e w' => e = .returned (.bool (rF xs)) ∧ Rr1 w' col c b (rFRest xs) (rFBad xs bad) ∧ Ext [c] w col w' col := by
  have h0c : 0 ∉ [c] := by simp; omega
  have hR0 := hR.1
  obtain ⟨⟨v, hb, hcb, hv⟩, hbx⟩ := hR
  obtain ⟨k0, e0⟩ := cell_row hb (j := 0) rfl
  cases xs with
  | nil =>
    have HF := Lib.hid (rF_none (xs := []) rfl)
    obtain ⟨A, cap, rfl, _⟩ := hv.slice
    go_enter Try.func37, Try.ntmps37
    go_wp2_with (go_at_call 44; refine (qfail_calls _ col c b _ bad hR0).mono ?_; rintro e w' ⟨rfl, hR2, hx2⟩)
    go_ret
    exact ⟨ret_bool HF.out.1.symm, by rw [HF.out.2.1, HF.out.2.2]; exact ⟨hR2, fun _ => rfl⟩, hx2⟩
  | cons x r =>
    have hbad : bad = false := by
      cases bad with
      | false => rfl
      | true => cases hbx rfl
    subst hbad
    have hx := hv.1.2 x (by simp)
    have hl := hv.len
    rcases hv.form with ⟨_, ⟨_, hnil⟩ | ⟨b', o, cap, rfl, h1, h2, h3, h4⟩⟩
    · cases hnil
    have hc0' : w.cell? ⟨b', o, none⟩ = some (.int .u8 x) := by
      have := h4 0 (by simp)
      simpa using this
    have Hcut := Lib.hid (fun (o2 n2 cap2 : Nat) h1 h2 h3 (h4 : 1 < (x :: r).length → o2 = o + 1) => hv.cut (i := 1) (by simp) b' o2 n2 cap2 h1 h2 h3 (fun h => ⟨rfl, h4 h⟩))
    simp only [List.length_cons] at k0 h1 hl h4 Hcut hv hb
    clear h4
    by_cases hx1 : x ≤ 1
    · have HF := Lib.hid (rF_some (xs := x :: r) (f := decide (x = 1)) (r := r) (by simp [rflag, hx1]))
      have hgt : ¬ 1 < x := by omega
      go_enter Try.func37, Try.ntmps37
      go_wp2
      all_goals
        go_ret
        refine ⟨ret_bool (by rw [HF.out.1]; rw [Bool.eq_iff_iff]; simp), ?_, (Rq.set hb hcb hc0 (Hcut.out _ _ _ (by omega) (by omega) (by omega) (by omega))).2⟩
        rw [HF.out.2.1, HF.out.2.2]
        exact ⟨(Rq.set hb hcb hc0 (Hcut.out _ _ _ (by omega) (by omega) (by omega) (by omega))).1, fun h => by cases h⟩
    · have HF := Lib.hid (rF_none (xs := x :: r) (by simp [rflag, hx1]))
      have hgt : 1 < x := by omega
      go_enter Try.func37, Try.ntmps37
      go_wp2_with (go_at_call 44; refine (qfail_calls _ col c b _ false hR0).mono ?_; rintro e w' ⟨rfl, hR2, hx2⟩)
      go_ret
      exact ⟨ret_bool HF.out.1.symm, by rw [HF.out.2.1, HF.out.2.2]; exact ⟨hR2, fun _ => rfl⟩, hx2⟩
end Go.Proofs.Yteodbcgfmfkdmaa
