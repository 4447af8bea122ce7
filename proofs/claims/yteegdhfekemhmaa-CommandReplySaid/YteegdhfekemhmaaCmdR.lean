/- Commands as arguments; cut to a length; which may be, by the reference. -/
import Derived.Test.YteegdhfekemhmaaCmd3
import Derived.Test.YteegdhfekemhmaaOpen
import Derived.WideShapes
namespace Go.Proofs.Yteegdhfekemhmaa
open Go.RowKit
set_option linter.unusedSimpArgs false
set_option linter.unusedVariables false

set_option maxHeartbeats 1000000 in
set_option maxRecDepth 100000 in
theorem maycmd_calls (w : World) (k c q : Int) (s : ByteArray) :
    Calls Try.prog 23 #[cmdV k c q s] w fun e w' => e = .returned (.bool (decide (MayC k c q s))) ∧ Below w.heap.size w w' := by
  have hb := (Below.refl w.heap.size w).alloc (Nat.le_refl _) (.cells #[.int .i64 k, .int .i64 c, .int .i64 q, .string s] 23)
  have e1 : MayC k c q s = (1 ≤ k ∧ k ≤ 4 ∧ 1 ≤ c ∧ c ≤ 8 ∧ 1 ≤ q ∧ q ≤ 1099511627776 ∧ s.size ≤ 4000) := rfl
  have He := Lib.hid e1
  clear e1
  unfold cmdV
  go_enter Try.func23, Try.ntmps23
  go_wp2
  all_goals
    go_ret
    refine ⟨ret_bool ?_, hb⟩
    rw [eq_comm]
    first | (rw [decide_eq_true_iff, He.out]; omega) | (rw [decide_eq_false_iff_not, He.out]; omega) | (simp only [He.out]; rw [decide_eq_decide]; omega)

set_option maxHeartbeats 1000000 in
set_option maxRecDepth 100000 in
/-- A text that is not too long. -/
theorem cut1_calls (w : World) (s : ByteArray) (n : Nat) (hn : n ≤ 1000000) :
    Calls Try.prog 67 #[.string s, .int .i64 n] w fun e w' => ∃ s' : ByteArray, e = .returned (.string s') ∧ s'.size ≤ n ∧ w = w' := by
  by_cases h : n < s.size
  · go_enter Try.func67, Try.ntmps67
    go_wp2
    go_ret
    refine ⟨_, rfl, ?_, rfl⟩
    simp
    omega
  · go_enter Try.func67, Try.ntmps67
    go_wp2
    go_ret
    exact ⟨s, rfl, by omega, rfl⟩

set_option maxHeartbeats 1000000 in
set_option maxRecDepth 100000 in
theorem cut17_calls (w : World) (k c q : Int) (s : ByteArray) :
    Calls Try.prog 21 #[cmdV k c q s] w fun e w' => ∃ s' : ByteArray, e = .returned (cmdV k c q s') ∧ s'.size ≤ 200 ∧ Below w.heap.size w w' := by
  unfold cmdV
  go_enter Try.func21, Try.ntmps21
  go_wp2_with fail
  refine (cut1_calls _ s 200 (by omega)).mono ?_
  rintro e _ ⟨s', rfl, hs, rfl⟩
  go_wp2
  refine bodyPost_ret (v := .agg #[.int .i64 k, .int .i64 c, .int .i64 q, .string s']) (by simp [results, Try.results21, go_sem]) rfl ⟨s', rfl, hs, ?_⟩
  exact ((Below.refl w.heap.size w).alloc (Nat.le_refl _) _).alloc (by show _ ≤ (w.heap.push _).size; simp) _

/-- A command as an argument. -/
structure CmdD where
  k : Int
  c : Int
  q : Int
  s : ByteArray
def RdCmd (_ : World) (_ : Nat → Prop) (v : Value) (d : CmdD) : Prop := v = cmdV d.k d.c d.q d.s ∧ InI64 d.k ∧ InI64 d.c ∧ InI64 d.q
set_option maxRecDepth 100000 in
theorem openL_Cmd {H : Type} {enc : TypeId × Value → H} {W : World} {b0 : Nat} {v : Value} {d : DataW H} {ps : List MemPlace} (hval : Value.okWide Try.prog W .any b0 23 v)
    (h : DataW.Trod enc Try.prog W 0 (fun _ => true) true 23 v d ps) (hw : ∀ n ∈ d.weights Try.prog 23, n ≤ reachBytes) : ∃ x, RdCmd W (fun _ => True) v x := by
  obtain ⟨cs, rfl, hcs⟩ := WideShapes.okWide_struct Try.underlying23 hval
  obtain ⟨fuel, hf⟩ := h
  obtain ⟨hl, hfs⟩ := openL_struct Try.underlying23 hf hw
  have n4 : Try.prog.cellsOf 23 = 4 := by kernel_rfl
  have c3 : Try.prog.cellsOf 3 = 1 := by kernel_rfl
  have c2 : Try.prog.cellsOf 2 = 1 := by kernel_rfl
  have c9 : Try.prog.cellsOf 9 = 1 := by kernel_rfl
  rw [n4] at hcs
  obtain ⟨l⟩ := cs
  simp only [Value.cells] at hfs
  match l, hcs with
  | [a0, a1, a2, a3], _ =>
    obtain ⟨m0, y0, t0, _⟩ := hfs 0 _ rfl
    obtain ⟨m1, y1, t1, _⟩ := hfs 1 _ rfl
    obtain ⟨m2, y2, t2, _⟩ := hfs 2 _ rfl
    obtain ⟨m3, y3, t3, _⟩ := hfs 3 _ rfl
    simp [c3] at t0 t1
    simp [c2] at t2
    simp [c9] at t3
    obtain ⟨q0, e0, _, hq0⟩ := DataW.trod_int Try.underlying3 t0
    obtain ⟨q1, e1, _, hq1⟩ := DataW.trod_int Try.underlying3 t1
    obtain ⟨q2, e2, _, hq2⟩ := DataW.trod_int Try.underlying2 t2
    obtain ⟨s, e3, _, _⟩ := DataW.trod_string Try.underlying9 t3
    simp at e0 e1 e2 e3
    subst e0 e1 e2 e3
    exact ⟨⟨q0, q1, q2, s⟩, rfl, wf64' hq0, wf64' hq1, wf64' hq2⟩
end Go.Proofs.Yteegdhfekemhmaa
