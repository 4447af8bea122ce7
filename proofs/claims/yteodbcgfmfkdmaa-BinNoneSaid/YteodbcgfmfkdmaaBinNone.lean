/- Nobody's writer and reader. -/
import Derived.Test.YteodbcgfmfkdmaaBinL0
namespace Go.Proofs.Yteodbcgfmfkdmaa
open Go.RowKit

set_option maxHeartbeats 400000 in
theorem wnum_nil (w : World) (n : Int) : Calls Try.prog 23 #[.pointer none, .int .i64 n] w fun e w' => e = .returned (.tuple #[]) ∧ w = w' := by
  go_enter Try.func23, Try.ntmps23
  go_wp2
  first | go_end0 | ((try simp only [Exit.inBlock, Exit.then]); refine bodyPost_ret (results_none rfl _ _ _) rfl ?_)
  exact ⟨rfl, rfl⟩
set_option maxHeartbeats 400000 in
theorem wtext_nil (w : World) (v : Value) : Calls Try.prog 25 #[.pointer none, v] w fun e w' => e = .returned (.tuple #[]) ∧ w = w' := by
  go_enter Try.func25, Try.ntmps25
  go_wp2
  first | go_end0 | ((try simp only [Exit.inBlock, Exit.then]); refine bodyPost_ret (results_none rfl _ _ _) rfl ?_)
  exact ⟨rfl, rfl⟩
set_option maxHeartbeats 400000 in
theorem wflag_nil (w : World) (f : Bool) : Calls Try.prog 27 #[.pointer none, .bool f] w fun e w' => e = .returned (.tuple #[]) ∧ w = w' := by
  go_enter Try.func27, Try.ntmps27
  go_wp2
  first | go_end0 | ((try simp only [Exit.inBlock, Exit.then]); refine bodyPost_ret (results_none rfl _ _ _) rfl ?_)
  exact ⟨rfl, rfl⟩
set_option maxHeartbeats 400000 in
theorem wbytes_nil (w : World) : Calls Try.prog 28 #[.pointer none] w fun e w' => e = .returned (.slice none 0 0) ∧ w = w' := by
  go_enter Try.func28, Try.ntmps28
  go_wp2
  go_ret
  exact ⟨rfl, rfl⟩
set_option maxHeartbeats 400000 in
theorem rnum_none' (w : World) : Calls Try.prog 30 #[.pointer none] w fun e w' => e = .returned (.int .i64 0) ∧ w = w' := by
  go_enter Try.func30, Try.ntmps30
  go_wp2
  go_ret
  exact ⟨rfl, rfl⟩
set_option maxHeartbeats 400000 in
theorem rok_none (w : World) : Calls Try.prog 33 #[.pointer none] w fun e w' => e = .returned (.bool false) ∧ w = w' := by
  go_enter Try.func33, Try.ntmps33
  go_wp2
  go_ret
  exact ⟨rfl, rfl⟩
set_option maxHeartbeats 400000 in
theorem rleft_none (w : World) : Calls Try.prog 34 #[.pointer none] w fun e w' => e = .returned (.int .i64 0) ∧ w = w' := by
  go_enter Try.func34, Try.ntmps34
  go_wp2
  go_ret
  exact ⟨rfl, rfl⟩
set_option maxHeartbeats 400000 in
theorem rtext_none (w : World) : Calls Try.prog 31 #[.pointer none] w fun e w' => e = .returned (.slice none 0 0) ∧ w = w' := by
  go_enter Try.func31, Try.ntmps31
  go_wp2_with (first | (go_at_call 30; refine (rnum_none' _).mono ?_; rintro e _ ⟨rfl, rfl⟩) | (go_at_call 33; refine (rok_none _).mono ?_; rintro e _ ⟨rfl, rfl⟩))
  go_ret
  exact ⟨rfl, rfl⟩
set_option maxHeartbeats 400000 in
theorem rflag_none (w : World) : Calls Try.prog 32 #[.pointer none] w fun e w' => e = .returned (.bool false) ∧ w = w' := by
  go_enter Try.func32, Try.ntmps32
  go_wp2
  go_ret
  exact ⟨rfl, rfl⟩

set_option maxHeartbeats 400000 in
set_option maxRecDepth 100000 in
theorem binnone_calls (w : World) :
    Calls Try.prog 10 #[] w fun e w' => e = .returned (.bool true) ∧ Below w.heap.size w w' := by
  go_enter Try.func10, Try.ntmps10
  go_wp2_with (first | (go_at_call 23; refine (wnum_nil _ _).mono ?_; rintro e _ ⟨rfl, rfl⟩) | (go_at_call 25; refine (wtext_nil _ _).mono ?_; rintro e _ ⟨rfl, rfl⟩) | (go_at_call 27; refine (wflag_nil _ _).mono ?_; rintro e _ ⟨rfl, rfl⟩) | (go_at_call 28; refine (wbytes_nil _).mono ?_; rintro e _ ⟨rfl, rfl⟩) | (go_at_call 30; refine (rnum_none' _).mono ?_; rintro e _ ⟨rfl, rfl⟩) | (go_at_call 33; refine (rok_none _).mono ?_; rintro e _ ⟨rfl, rfl⟩) | (go_at_call 34; refine (rleft_none _).mono ?_; rintro e _ ⟨rfl, rfl⟩) | (go_at_call 31; refine (rtext_none _).mono ?_; rintro e _ ⟨rfl, rfl⟩) | (go_at_call 32; refine (rflag_none _).mono ?_; rintro e _ ⟨rfl, rfl⟩) | (go_at_call 22; refine (begun1_calls _).mono ?_; rintro e w1 ⟨rfl, hb⟩))
  go_ret
  exact ⟨rfl, hb⟩
end Go.Proofs.Yteodbcgfmfkdmaa
