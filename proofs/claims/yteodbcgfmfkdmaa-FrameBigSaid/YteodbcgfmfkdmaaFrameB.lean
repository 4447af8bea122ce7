/- The statement FrameBig of layer 2: what is too long is not sealed. -/
import Derived.Test.YteodbcgfmfkdmaaFrameL
import Derived.Test.YteodbcgfmfkdmaaMake
namespace Go.Proofs.Yteodbcgfmfkdmaa
open Go.RowKit

set_option maxHeartbeats 1000000 in
set_option maxRecDepth 100000 in
theorem framebig_calls (w : World) : Calls Try.prog 4 #[] w fun e w' => e = .returned (.bool true) ∧ Below w.heap.size w w' := by
  go_enter Try.func4, Try.ntmps4
  go_wp2_with fail
  refine (begun2_calls _).mono ?_
  rintro e w1 ⟨rfl, hb1⟩
  obtain ⟨v1, W1, hmk1, hn1, -⟩ := make_bytes w1 65537 65537 rfl (by omega)
  have hl1 : 65536 < (List.replicate 65537 (0 : Int)).length := by rw [List.length_replicate]; omega
  generalize List.replicate 65537 (0 : Int) = zs at hn1 hl1
  have hb2 := below_then' hb1 hb1.size hn1.2.2.2
  go_wp2_with fail
  refine (seal_big W1 _ v1 zs hn1.rd.1 hl1).mono ?_
  rintro e _ ⟨rfl, rfl⟩
  clear hmk1 hn1 hl1 hb1
  obtain ⟨v2, W2, hmk2, hn2, -⟩ := make_bytes W1 65536 65536 rfl (by omega)
  have hl2 : (List.replicate 65536 (0 : Int)).length = 65536 := List.length_replicate
  generalize List.replicate 65536 (0 : Int) = ys at hn2 hl2
  have hb3 := below_then' hb2 hb2.size hn2.2.2.2
  have hS : ((sealB ys).length : Int) = 65544 := by rw [seal_len (by omega)]; omega
  have hle : ys.length ≤ 65536 := by omega
  clear hl2
  go_wp2_with fail
  refine (seal_new W2 _ v2 ys hn2.rd.1 hle).mono ?_
  rintro e w3 ⟨v3, rfl, hn3⟩
  generalize sealB ys = zs at hn3 hS
  obtain ⟨A3, cap3, rfl⟩ := own_slice' hn3.1
  have hb4 := below_then' hb3 hb3.size hn3.2.2.2
  go_wp2
  go_ret
  exact ⟨rfl, hb4⟩
end Go.Proofs.Yteodbcgfmfkdmaa
