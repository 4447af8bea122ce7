/- Bytes that are made anew, all nought. -/
import Derived.Test.YteegdhfekemhmaaBinW
import Derived.Laws.OwnMore
namespace Go.Proofs.Yteegdhfekemhmaa
open Go.RowKit

theorem zeros_bytes (n : Nat) : Bytes (List.replicate n 0) := fun x hx => by rw [List.eq_of_mem_replicate hx]; omega
/-- make([]byte, n) with room for n. -/
theorem make_bytes (w : World) (n : Nat) (k : Int) (hk : k = (n : Int)) (hn : n ≤ 140737488355328) :
    ∃ v W, (Instr.makeSlice 24 (.int .i64 k) (.int .i64 k)).run Try.prog w = .ok v W ∧ NewB 5 w W v (List.replicate n 0) ∧ ∃ A cap, v = .slice A n cap := by
  subst hk
  obtain ⟨i, hi, hz, hs, hb⟩ : ∃ i, Try.prog.info? 5 = some i ∧ i.zero = some (.int .u8 0) ∧ i.size = 1 ∧ i.bytes = 1 := by
    have h := Try.infoU8
    cases hq : Try.prog.info? 5 with
    | none => rw [hq] at h; cases h
    | some i => rw [hq] at h; simp at h; exact ⟨i, rfl, h.1, h.2.1, h.2.2⟩
  obtain ⟨W, h1, h2, h3⟩ := run_make_full (P := Try.prog) w w.heap.size 24 5 i (.int .u8 0) 1 Try.underlying24 hi hz hs .i64 .i64 n (by rw [hb, Nat.one_mul]; omega) (by simp [maxLen]; omega) (Nat.le_refl _)
  refine ⟨_, W, h1, ⟨?_, by simpa using hn, zeros_bytes n, (Below.refl _ _).grown h3 (Nat.le_refl _) (fun k hk => by cases hk)⟩, _, _, rfl⟩
  have e : u8s (List.replicate n 0) = (madeCells (Value.int .u8 0).cells (n * 1)).toList := by
    rw [Nat.mul_one]
    show _ = (madeCells #[Value.int .u8 0] n).toList
    rw [toList_madeCells_one]
    simp [u8s]
  rw [e, List.length_replicate]
  exact h2
end Go.Proofs.Yteegdhfekemhmaa
