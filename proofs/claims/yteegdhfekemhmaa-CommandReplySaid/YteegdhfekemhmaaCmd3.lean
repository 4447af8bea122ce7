/- Package command: what was encoded is decoded; one command. -/
import Derived.Test.YteegdhfekemhmaaCmd2
import Derived.Test.YteegdhfekemhmaaNumP
import Derived.Lib.SlicesS
namespace Go.Proofs.Yteegdhfekemhmaa
open Go.RowKit
set_option linter.unusedSimpArgs false
set_option linter.unusedVariables false

theorem dec_cmdB {k c q : Int} {s : ByteArray} (hm : MayC k c q s) : decR (cmdB k c q s) = .tuple #[cmdV k c q s, .int .i64 0] := by
  obtain ⟨hk, hc, hq, hs⟩ := hm.i64
  have e1 := rd_num hk (numB c ++ (numB q ++ (textB (sNums s) ++ [])))
  have e2 := rd_num hc (numB q ++ (textB (sNums s) ++ []))
  have e3 := rd_num hq (textB (sNums s) ++ [])
  have e4 := rd_text (b := sNums s) (by rw [sNums_len]; omega) []
  have e0 : cmdB k c q s = numB k ++ (numB c ++ (numB q ++ (textB (sNums s) ++ []))) := by simp [cmdB]
  have a1 : dk (cmdB k c q s) = k := by rw [dk, e0, e1.1]
  have a2 : dc (cmdB k c q s) = c := by rw [dc, e0, e1.2.1, e2.1]
  have a3 : dq (cmdB k c q s) = q := by rw [dq, e0, e1.2.1, e2.2.1, e3.1]
  have a4 : dt (cmdB k c q s) = sNums s := by rw [dt, e0, e1.2.1, e2.2.1, e3.2.1, e4.1]
  have a5 : dl (cmdB k c q s) = [] := by rw [dl, e0, e1.2.1, e2.2.1, e3.2.1, e4.2.1]
  have a6 : db (cmdB k c q s) = false := by rw [db, e0, e1.2.2, e1.2.1, e2.2.2, e2.2.1, e3.2.2, e3.2.1, e4.2.2]
  have h : Dec (cmdB k c q s) := by rw [Dec, a1, a2, a3, a4, a5, a6, strOfNums_sNums]; exact ⟨rfl, rfl, hm⟩
  rw [decR, if_pos h, a1, a2, a3, a4, strOfNums_sNums]

set_option maxHeartbeats 2000000 in
set_option maxRecDepth 100000 in
theorem begun17_calls (w : World) : Calls Try.prog 20 #[] w fun e w' => e = .returned (.bool true) ∧ Below w.heap.size w w' := by
  obtain ⟨S, hS⟩ : ∃ S : ByteArray, S = ⟨#[112]⟩ := ⟨_, rfl⟩
  have hm : MayC 2 2 7 S := by rw [hS]; unfold MayC; refine ⟨by omega, by omega, by omega, by omega, by omega, by omega, ?_⟩; decide
  have he := encode_yes w 2 2 7 S hm
  have hd := dec_cmdB hm
  have hB : strOfNums (cmdB 2 2 7 S) = ⟨#[4, 4, 14, 2, 112]⟩ := by
    have : cmdB 2 2 7 S = [4, 4, 14, 2, 112] := by
      rw [hS]
      have e2 : numB 2 = [4] := by rw [numB, show zz 2 = 4 from rfl, uvar_small (by omega)]; rfl
      have e7 : numB 7 = [14] := by rw [numB, show zz 7 = 14 from rfl, uvar_small (by omega)]; rfl
      have e1 : textB (sNums ⟨#[112]⟩) = [2, 112] := by
        rw [show sNums ⟨#[112]⟩ = [112] from rfl, textB, numB, show zz (([112] : List Int).length : Int) = 2 from rfl, uvar_small (by omega)]; rfl
      rw [cmdB, e2, e7, e1]; rfl
    rw [this]; rfl
  have hj : decR [106, 117, 110, 107] = .tuple #[cmdV 0 0 0 ⟨#[]⟩, .int .i64 3] := by
    have : ¬ Dec [106, 117, 110, 107] := by unfold Dec MayC; intro h; have := h.1; revert this; decide
    rw [decR, if_neg this]
  generalize cmdB 2 2 7 S = B at he hd hB
  unfold cmdV at he hd hj
  rw [hS] at he hd
  have Hd := Lib.hid hd
  have HB := Lib.hid hB
  have Hj := Lib.hid hj
  clear hm hd hS hB hj
  go_enter Try.func20, Try.ntmps20
  go_wp2_with fail
  refine he.mono ?_
  rintro e w1 ⟨v1, rfl, hn1⟩
  have hr1 := hn1.rd
  obtain ⟨A1, cap1, rfl⟩ := own_slice' hn1.1
  go_wp2_with fail
  have hF := decode_calls w1 _ _ B hr1.1
  rw [Hd.out] at hF
  refine hF.mono ?_
  rintro e w2 ⟨rfl, hb2⟩
  have kc := fun (w : World) (C : Array Value) (n c : Nat) => Lib.run_convert_bytes_const (P := Try.prog) w 24 5 C n c Try.underlying24 Try.underlying5
  have hst := heap_alloc_new w2 (.cells #[.int .i64 2, .int .i64 2, .int .i64 7, .string ⟨#[112]⟩] 23)
  have hb2' := below_then' hn1.2.2.2 hn1.2.2.2.size hb2
  have hr2 := hr1.below hb2
  obtain ⟨W2, hW2⟩ : ∃ W, w2.alloc (.cells #[.int .i64 2, .int .i64 2, .int .i64 7, .string ⟨#[112]⟩] 23) = W := ⟨_, rfl⟩
  have hbw2 : Below w2.heap.size w2 W2 := by rw [← hW2]; exact (Below.refl _ _).alloc (Nat.le_refl _) _
  have hr3 := hr2.below hbw2
  have hb3' := below_then' hb2' hb2'.size hbw2
  rw [hW2] at hst
  clear hF hn1 hr1 hb2 hr2 hbw2 hb2'
  go_wp2_with fail
  clear hW2 kc
  have hl := RdB.lit W2 5 [106, 117, 110, 107] (by simp) (by intro x hx; simp at hx; omega) (fun _ => True) trivial (4, 5)
  have hF := decode_calls (W2.alloc (.cells (u8s [106, 117, 110, 107]).toArray 5 (4, 5))) _ _ _ hl.1
  rw [Hj.out] at hF
  refine hF.mono ?_
  rintro e w3 ⟨rfl, hb4⟩
  have hb34 : Below W2.heap.size W2 w3 := below_then' ((Below.refl _ _).alloc (Nat.le_refl _) _) (by show _ ≤ (W2.heap.push _).size; simp) hb4
  have hb5 := below_then' hb3' hb3'.size hb34
  have hb34b : Below W2.heap.size W2 (w3.alloc (.cells #[.int .i64 0, .int .i64 0, .int .i64 0, .string ⟨#[]⟩] 23)) := hb34.alloc hb34.size _
  have hst3 := (hb34b.block _ (heap_lt hst)).trans hst
  have hr4 := hr3.below hb34b
  obtain ⟨k2, -⟩ := cell_row (cs := [.int .i64 2, .int .i64 2, .int .i64 7, .string ⟨#[112]⟩]) hst3 (j := 2) rfl
  obtain ⟨k3, -⟩ := cell_row (cs := [.int .i64 2, .int .i64 2, .int .i64 7, .string ⟨#[112]⟩]) hst3 (j := 3) rfl
  have hc4 := RdB.conv (P := Try.prog) hr4 Try.underlying24 Try.underlying5 Try.underlying9
  rw [HB.out] at hc4
  have hb6 := hb5.alloc hb5.size (.cells #[.int .i64 0, .int .i64 0, .int .i64 0, .string ⟨#[]⟩] 23)
  clear hst3 hst hr3 hr4 hl hF hb34 hb34b
  go_wp2
  trace_state
  go_ret
  exact ⟨ret_bool (by simp), hb6⟩
end Go.Proofs.Yteegdhfekemhmaa
