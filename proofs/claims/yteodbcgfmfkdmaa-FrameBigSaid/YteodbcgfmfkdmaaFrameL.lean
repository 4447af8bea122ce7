/- The statements of layer 2: one seal. -/
import Derived.Test.YteodbcgfmfkdmaaFrameP
import Derived.Test.YteodbcgfmfkdmaaBinL0
namespace Go.Proofs.Yteodbcgfmfkdmaa
open Go.RowKit

theorem seal_new (w : World) (N : Nat → Prop) (v : Value) (xs : List Int) (hv : RdL w N v xs) (hs : xs.length ≤ 65536) :
    Calls Try.prog 15 #[v] w fun e w' => ∃ v', e = .returned v' ∧ NewB 5 w w' v' (sealB xs) := by
  rw [seal_eq hs]; exact seal_calls w N v xs hv hs
set_option maxHeartbeats 1000000 in
set_option maxRecDepth 100000 in
theorem begun2_calls (w : World) :
    Calls Try.prog 13 #[] w fun e w' => e = .returned (.bool true) ∧ Below w.heap.size w w' := by
  obtain ⟨S, hS, hlen, ho⟩ : ∃ S, sealB [120] = S ∧ (S.length : Int) = 9 ∧ openB S = some [120] := ⟨_, rfl, by rw [seal_len (by simp)]; rfl, open_seal (by simp)⟩
  have HS := Lib.hid hS
  have Ho := Lib.hid ho
  clear hS ho
  have hl := RdB.lit w 5 [120] (by simp) (by intro x hx; simp at hx; omega) (fun _ => True) trivial (1, 2)
  have hb0 : Below w.heap.size w (w.alloc (.cells #[.int .u8 120] 5 (1, 2))) := (Below.refl _ _).alloc (Nat.le_refl _) _
  go_enter Try.func13, Try.ntmps13
  have kc := fun (w : World) (C : Array Value) (n c : Nat) => Lib.run_convert_bytes_const (P := Try.prog) w 22 5 C n c Try.underlying22 Try.underlying5
  go_wp2_with fail
  clear kc
  refine (seal_new _ _ _ [120] hl.1 (by simp)).mono ?_
  rintro e w1 ⟨v1, rfl, hn1⟩
  have hb1 := below_then' hb0 hb0.size hn1.2.2.2
  rw [HS.out] at hn1
  have hF := open_calls w1 _ v1 _ hn1.rd.1
  rw [Ho.out] at hF
  have hr1 := hn1.rd
  obtain ⟨A1, cap1, rfl⟩ := own_slice' hn1.1
  go_wp2_with fail
  refine hF.mono ?_
  rintro e w2 ⟨v2, rfl, hn2⟩
  rw [Option.isSome_some]
  rw [Option.getD_some] at hn2
  have hb2 := below_then' hb1 hb1.size hn2.2.2.2
  have hl9 := RdB.lit w2 5 [49, 50, 51, 52, 53, 54, 55, 56, 57] (by simp) (by intro x hx; simp at hx; omega) (fun _ => True) trivial (9, 10)
  have kc := fun (w : World) (C : Array Value) (n c : Nat) => Lib.run_convert_bytes_const (P := Try.prog) w 22 5 C n c Try.underlying22 Try.underlying5
  go_wp2_with fail
  clear kc
  have hv2 := hn2.rd.below ((Below.refl _ _).alloc (Nat.le_refl _) (.cells (u8s [49, 50, 51, 52, 53, 54, 55, 56, 57]).toArray 5 (9, 10)))
  have hcv := (RdB.conv (P := Try.prog) hv2 Try.underlying22 Try.underlying5 Try.underlying9).trans (show _ = .ok (.string ⟨#[120]⟩) _ from rfl)
  refine (sum_calls _ _ _ _ hl9.1).mono ?_
  rintro e _ ⟨rfl, rfl⟩
  rw [sum_check]
  go_wp2
  go_ret
  exact ⟨rfl, hb2.alloc hb2.size _⟩
end Go.Proofs.Yteodbcgfmfkdmaa
