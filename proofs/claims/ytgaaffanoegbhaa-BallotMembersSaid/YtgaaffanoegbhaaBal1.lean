/- delphi/ballot: who is among some, majorities. -/
import Derived.Test.YtgaaffanoegbhaaSymV
import Derived.Test.YtgaaffanoegbhaaSimN
namespace Go.Proofs.Ytgaaffanoegbhaa
open Go.RowKit Sim Go Sym
set_option maxRecDepth 100000
set_option linter.unusedVariables false
set_option linter.unusedSimpArgs false
variable {base : Nat}
def InR (n : Int) : Prop := -9223372036854775808 ≤ n ∧ n ≤ 9223372036854775807
theorem inPl (l : List Int) : (inP l).length = l.length := by simp [inP]
theorem begun21_spec : CallS Try.prog base 10 [] ⟨[], 0⟩ (.c (.p (.bool true))) ⟨[], 0⟩ := CallS.closed (m := 2000) mixed noNG (by kernel_rfl)
noncomputable def lCut10 : {F : LF // lowerF Try.prog 11 = some F} := ⟨_, rfl⟩
theorem cut10_spec (z : Bool) (l : List Int) (c : Option Nat) : CallS Try.prog base 11 [.c (.p (.tz z 1 (inP l) c))] ⟨[], 0⟩ (.c (.p (.tz z 1 (inP (l.take 10)) none))) ⟨[], 0⟩ := by
  refine CallS.of noNG lCut10.2 rfl (M.start (M.go rfl ?_))
  refine M.cond rfl (fun h => ?_) (fun h => ?_)
  · refine M.go rfl ?_
    refine M.op trivial (SOp.sl (r := 10) rfl rfl ⟨_, _, rfl, by omega, rfl⟩ (Nat.zero_le _) (by omega)) ?_
    refine M.go rfl ?_
    have h1 : ((inP l).drop 0).take (10 - 0) = inP (l.take 10) := by simp [inP]
    rw [h1]
    have h2 : inP (l.take 10) ≠ [] := by
      intro e
      have := congrArg List.length e
      rw [inPl] at h
      rw [inPl] at this
      simp at this
      rcases this with h3 | h3 <;> simp_all
    exact M.ret (M.go rfl (M.done (finQ.ret [] rfl rfl rfl (Wk.trans Wk.uncap (Wk.some h2)) (by repeat' (first | exact True.intro | refine ⟨⟨_, _, _, rfl, rfl, rfl, WkO.rfl⟩, ?_⟩ | refine HeapOK.acc rfl rfl ?_)))))
  · refine M.go rfl ?_
    rw [List.take_of_length_le (by rw [inPl] at h; omega)]
    exact M.ret (M.go rfl (M.done (finQ.ret [] rfl rfl rfl (by first | exact Wk.rfl | exact Wk.uncap | exact Wk.nil | exact Wk.b1 rfl | exact Wk.t2 Wk.rfl (Wk.b1 rfl)) (by repeat' (first | exact True.intro | refine ⟨⟨_, _, _, rfl, rfl, rfl, WkO.rfl⟩, ?_⟩ | refine HeapOK.acc rfl rfl ?_)))))
noncomputable def lIdx : {F : LF // lowerF Try.prog 71 = some F} := ⟨_, rfl⟩
def idxF (x : Int) : List Int → Int → Int
  | [], _ => -1
  | y :: l, i => if x = y then i else idxF x l (i + 1)
theorem idx_loop (z : Bool) (c : Option Nat) (l : List Int) (x : Int) (hl : l.length ≤ 1000000) (Q : QX) : ∀ (rest pre : List Int), l = pre ++ rest → (idxF x rest pre.length = -1 → Q (.exit 0) [] ⟨[], 0⟩) → (∀ i, idxF x rest pre.length = i → Q .ret [(4, .c (.p (.int .i64 i)))] ⟨[], 0⟩) →
    XH Try.prog base lIdx.1.n 0 (lIdx.1.c.lp 0) [(0, .c (.p (.tz z 1 (inP l) c))), (1, .c (.p (.int .i64 x))), (7, .c (.p (.int .i64 (inP l).length))), (8, .c (.p (.int .i64 pre.length)))] ⟨[], 0⟩ Q := by
  intro rest
  induction rest with
  | nil =>
    intro pre hp hq hr
    refine M.round (M.go rfl ?_)
    have h5 : (inP l).length = pre.length := by rw [hp, inPl]; simp
    rw [h5]
    refine M.cond rfl (fun h => absurd h (by omega)) (fun h => ?_)
    refine M.ren [] ?_ trivial rfl (by repeat' (first | exact True.intro | refine ⟨⟨_, _, rfl, rfl, Wk.rfl⟩, ?_⟩ | refine ⟨⟨_, _, accV_ren rfl, rfl, Wk.rfl⟩, ?_⟩ | refine ⟨⟨_, _, accV_ren rfl, rfl, Wk.acc0⟩, ?_⟩ | refine ⟨⟨_, _, rfl, rfl, Wk.uncap⟩, ?_⟩ | refine ⟨⟨_, _, rfl, rfl, Wk.nil⟩, ?_⟩)) (by repeat' (first | exact True.intro | refine ⟨⟨_, _, _, rfl, rfl, rfl, WkO.rfl⟩, ?_⟩ | refine HeapOK.acc rfl rfl ?_)) (e' := []) (h' := ⟨[], 0⟩)
    exact M.exit (M.go rfl (M.done (hq rfl)))
  | cons y rest ih =>
    intro pre hp hq hr
    refine M.round (M.go rfl ?_)
    have h5 : (inP l).length = pre.length + (rest.length + 1) := by rw [hp, inPl]; simp
    have hu : (inP l)[((pre.length : Int)).toNat]? = some (.int .i64 y) := by rw [hp]; exact at_app _ _ _ _
    have hw : IntKind.i64.wrap ((pre.length : Int) + 1) = ((pre ++ [y]).length : Int) := by rw [inPl] at h5; rw [wr64 (by omega) (by omega)]; simp
    refine M.cond rfl (fun h => ?_) (fun h => absurd (by rw [h5]; omega) h)
    refine M.go rfl ?_
    refine M.op trivial (SOp.ia rfl rfl (by omega) hu) ?_
    refine M.op trivial (SOp.ld1e rfl hu rfl rfl rfl) ?_
    refine M.go rfl ?_
    refine M.cond rfl (fun h => ?_) (fun h => ?_)
    · refine M.go rfl ?_
      refine M.ren [] ?_ trivial rfl (by repeat' (first | exact True.intro | refine ⟨⟨_, _, rfl, rfl, Wk.rfl⟩, ?_⟩ | refine ⟨⟨_, _, accV_ren rfl, rfl, Wk.rfl⟩, ?_⟩ | refine ⟨⟨_, _, accV_ren rfl, rfl, Wk.acc0⟩, ?_⟩ | refine ⟨⟨_, _, rfl, rfl, Wk.uncap⟩, ?_⟩ | refine ⟨⟨_, _, rfl, rfl, Wk.nil⟩, ?_⟩)) (by repeat' (first | exact True.intro | refine ⟨⟨_, _, _, rfl, rfl, rfl, WkO.rfl⟩, ?_⟩ | refine HeapOK.acc rfl rfl ?_)) (e' := [(4, .c (.p (.int .i64 pre.length)))]) (h' := ⟨[], 0⟩)
      exact M.ret (M.go rfl (M.done (hr _ (if_pos h))))
    · refine M.go rfl ?_
      rw [hw]
      have he : idxF x (y :: rest) pre.length = idxF x rest ((pre ++ [y]).length : Int) := by rw [idxF, if_neg h]; simp
      rw [he] at hq hr
      exact M.again (XH.ren [] (ih (pre ++ [y]) (by rw [hp]; simp) hq hr) rfl (by repeat' (first | exact True.intro | refine ⟨⟨_, _, rfl, rfl, Wk.rfl⟩, ?_⟩ | refine ⟨⟨_, _, accV_ren rfl, rfl, Wk.rfl⟩, ?_⟩ | refine ⟨⟨_, _, accV_ren rfl, rfl, Wk.acc0⟩, ?_⟩ | refine ⟨⟨_, _, rfl, rfl, Wk.uncap⟩, ?_⟩ | refine ⟨⟨_, _, rfl, rfl, Wk.nil⟩, ?_⟩)) (by repeat' (first | exact True.intro | refine ⟨⟨_, _, _, rfl, rfl, rfl, WkO.rfl⟩, ?_⟩ | refine HeapOK.acc rfl rfl ?_)))
theorem idx_spec (z : Bool) (c : Option Nat) (l : List Int) (x : Int) (hl : l.length ≤ 1000000) : CallS Try.prog base 71 [.c (.p (.tz z 1 (inP l) c)), .c (.p (.int .i64 x))] ⟨[], 0⟩ (.c (.p (.int .i64 (idxF x l 0)))) ⟨[], 0⟩ := by
  refine CallS.of noNG lIdx.2 rfl (M.start (M.go rfl ?_))
  refine M.loop (XH.ren [] (idx_loop z c l x hl _ l [] rfl (fun h => ?_) (fun i h => ?_)) rfl (by repeat' (first | exact True.intro | refine ⟨⟨_, _, rfl, rfl, Wk.rfl⟩, ?_⟩ | refine ⟨⟨_, _, accV_ren rfl, rfl, Wk.rfl⟩, ?_⟩ | refine ⟨⟨_, _, accV_ren rfl, rfl, Wk.acc0⟩, ?_⟩ | refine ⟨⟨_, _, rfl, rfl, Wk.uncap⟩, ?_⟩ | refine ⟨⟨_, _, rfl, rfl, Wk.nil⟩, ?_⟩)) (by repeat' (first | exact True.intro | refine ⟨⟨_, _, _, rfl, rfl, rfl, WkO.rfl⟩, ?_⟩ | refine HeapOK.acc rfl rfl ?_)))
  · refine M.q (M.go rfl ?_)
    rw [show idxF x l 0 = -1 from h]
    exact M.ret (M.go rfl (M.done (finQ.ret [] rfl rfl rfl (by first | exact Wk.rfl | exact Wk.uncap | exact Wk.nil | exact Wk.b1 rfl | exact Wk.t2 Wk.rfl (Wk.b1 rfl)) (by repeat' (first | exact True.intro | refine ⟨⟨_, _, _, rfl, rfl, rfl, WkO.rfl⟩, ?_⟩ | refine HeapOK.acc rfl rfl ?_)))))
  · refine M.q (M.go rfl ?_)
    rw [show idxF x l 0 = i from h]
    exact M.done (finQ.ret [] rfl rfl rfl (by first | exact Wk.rfl | exact Wk.uncap | exact Wk.nil | exact Wk.b1 rfl | exact Wk.t2 Wk.rfl (Wk.b1 rfl)) (by repeat' (first | exact True.intro | refine ⟨⟨_, _, _, rfl, rfl, rfl, WkO.rfl⟩, ?_⟩ | refine HeapOK.acc rfl rfl ?_)))
theorem idxF_mem (x : Int) : ∀ (l : List Int) (i : Int), 0 ≤ i → (0 ≤ idxF x l i ↔ x ∈ l)
  | [], i, _ => by simp [idxF]
  | y :: l, i, hi => by
    have ih := idxF_mem x l (i + 1) (by omega)
    unfold idxF
    by_cases h : x = y
    · rw [if_pos h]; simp [h, hi]
    · rw [if_neg h, ih]; simp [h]
noncomputable def lHas : {F : LF // lowerF Try.prog 44 = some F} := ⟨_, rfl⟩
theorem has_spec (z : Bool) (c : Option Nat) (l : List Int) (x : Int) (hl : l.length ≤ 1000000) : CallS Try.prog base 44 [.c (.p (.tz z 1 (inP l) c)), .c (.p (.int .i64 x))] ⟨[], 0⟩ (.c (.p (.bs (decide (x ∈ l))))) ⟨[], 0⟩ := by
  refine CallS.of noNG lHas.2 rfl (M.start (M.go rfl ?_))
  refine M.use0 trivial (idx_spec z c l x hl) rfl rfl rfl ?_
  refine M.go rfl ?_
  have := idxF_mem x l 0 (by omega)
  rw [show decide (x ∈ l) = decide (0 ≤ idxF x l 0) from decide_eq_decide.2 this.symm]
  exact M.ret (M.go rfl (M.done (finQ.ret [] rfl rfl rfl (by first | exact Wk.rfl | exact Wk.uncap | exact Wk.nil | exact Wk.b1 rfl | exact Wk.t2 Wk.rfl (Wk.b1 rfl)) (by repeat' (first | exact True.intro | refine ⟨⟨_, _, _, rfl, rfl, rfl, WkO.rfl⟩, ?_⟩ | refine HeapOK.acc rfl rfl ?_)))))
noncomputable def lIn : {F : LF // lowerF Try.prog 17 = some F} := ⟨_, rfl⟩
theorem in_loop (z : Bool) (c : Option Nat) (l : List Int) (x : Int) (hl : l.length ≤ 1000000) (Q : QX) : ∀ (rest pre : List Int), l = pre ++ rest → (¬ x ∈ rest → Q (.exit 0) [] ⟨[], 0⟩) → (x ∈ rest → Q .ret [(4, .c (.p (.bool true)))] ⟨[], 0⟩) →
    XH Try.prog base lIn.1.n 0 (lIn.1.c.lp 0) [(0, .c (.p (.tz z 1 (inP l) c))), (1, .c (.p (.int .i64 x))), (5, .c (.p (.int .i64 pre.length)))] ⟨[], 0⟩ Q := by
  intro rest
  induction rest with
  | nil =>
    intro pre hp hq hr
    refine M.round (M.go rfl ?_)
    have h5 : (inP l).length = pre.length := by rw [hp, inPl]; simp
    rw [h5]
    refine M.cond rfl (fun h => absurd h (by omega)) (fun h => ?_)
    refine M.ren [] ?_ trivial rfl (by repeat' (first | exact True.intro | refine ⟨⟨_, _, rfl, rfl, Wk.rfl⟩, ?_⟩ | refine ⟨⟨_, _, accV_ren rfl, rfl, Wk.rfl⟩, ?_⟩ | refine ⟨⟨_, _, accV_ren rfl, rfl, Wk.acc0⟩, ?_⟩ | refine ⟨⟨_, _, rfl, rfl, Wk.uncap⟩, ?_⟩ | refine ⟨⟨_, _, rfl, rfl, Wk.nil⟩, ?_⟩)) (by repeat' (first | exact True.intro | refine ⟨⟨_, _, _, rfl, rfl, rfl, WkO.rfl⟩, ?_⟩ | refine HeapOK.acc rfl rfl ?_)) (e' := []) (h' := ⟨[], 0⟩)
    exact M.exit (M.go rfl (M.done (hq (by simp))))
  | cons y rest ih =>
    intro pre hp hq hr
    refine M.round (M.go rfl ?_)
    have h5 : (inP l).length = pre.length + (rest.length + 1) := by rw [hp, inPl]; simp
    have hu : (inP l)[((pre.length : Int)).toNat]? = some (.int .i64 y) := by rw [hp]; exact at_app _ _ _ _
    have hw : IntKind.i64.wrap ((pre.length : Int) + 1) = ((pre ++ [y]).length : Int) := by rw [inPl] at h5; rw [wr64 (by omega) (by omega)]; simp
    refine M.cond rfl (fun h => ?_) (fun h => absurd (by rw [h5]; omega) h)
    refine M.go rfl ?_
    refine M.op trivial (SOp.ia rfl rfl (by omega) hu) ?_
    refine M.op trivial (SOp.ld1e rfl hu rfl rfl rfl) ?_
    refine M.go rfl ?_
    refine M.cond rfl (fun h => ?_) (fun h => ?_)
    · refine M.go rfl ?_
      refine M.ren [] ?_ trivial rfl (by repeat' (first | exact True.intro | refine ⟨⟨_, _, rfl, rfl, Wk.rfl⟩, ?_⟩ | refine ⟨⟨_, _, accV_ren rfl, rfl, Wk.rfl⟩, ?_⟩ | refine ⟨⟨_, _, accV_ren rfl, rfl, Wk.acc0⟩, ?_⟩ | refine ⟨⟨_, _, rfl, rfl, Wk.uncap⟩, ?_⟩ | refine ⟨⟨_, _, rfl, rfl, Wk.nil⟩, ?_⟩)) (by repeat' (first | exact True.intro | refine ⟨⟨_, _, _, rfl, rfl, rfl, WkO.rfl⟩, ?_⟩ | refine HeapOK.acc rfl rfl ?_)) (e' := [(4, .c (.p (.bool true)))]) (h' := ⟨[], 0⟩)
      exact M.ret (M.go rfl (M.done (hr (by rw [h]; simp))))
    · refine M.go rfl ?_
      rw [hw]
      exact M.again (XH.ren [] (ih (pre ++ [y]) (by rw [hp]; simp) (fun g => hq (fun g' => by rcases List.mem_cons.1 g' with e | e; exact h e.symm; exact g e)) (fun g => hr (List.mem_cons_of_mem _ g))) rfl (by repeat' (first | exact True.intro | refine ⟨⟨_, _, rfl, rfl, Wk.rfl⟩, ?_⟩ | refine ⟨⟨_, _, accV_ren rfl, rfl, Wk.rfl⟩, ?_⟩ | refine ⟨⟨_, _, accV_ren rfl, rfl, Wk.acc0⟩, ?_⟩ | refine ⟨⟨_, _, rfl, rfl, Wk.uncap⟩, ?_⟩ | refine ⟨⟨_, _, rfl, rfl, Wk.nil⟩, ?_⟩)) (by repeat' (first | exact True.intro | refine ⟨⟨_, _, _, rfl, rfl, rfl, WkO.rfl⟩, ?_⟩ | refine HeapOK.acc rfl rfl ?_)))
theorem in_spec (z : Bool) (c : Option Nat) (l : List Int) (x : Int) (hl : l.length ≤ 1000000) : CallS Try.prog base 17 [.c (.p (.tz z 1 (inP l) c)), .c (.p (.int .i64 x))] ⟨[], 0⟩ (.c (.p (.bs (decide (x ∈ l))))) ⟨[], 0⟩ := by
  refine CallS.of noNG lIn.2 rfl (M.start (M.go rfl ?_))
  refine M.loop (XH.ren [] (in_loop z c l x hl _ l [] rfl (fun h => ?_) (fun h => ?_)) rfl (by repeat' (first | exact True.intro | refine ⟨⟨_, _, rfl, rfl, Wk.rfl⟩, ?_⟩ | refine ⟨⟨_, _, accV_ren rfl, rfl, Wk.rfl⟩, ?_⟩ | refine ⟨⟨_, _, accV_ren rfl, rfl, Wk.acc0⟩, ?_⟩ | refine ⟨⟨_, _, rfl, rfl, Wk.uncap⟩, ?_⟩ | refine ⟨⟨_, _, rfl, rfl, Wk.nil⟩, ?_⟩)) (by repeat' (first | exact True.intro | refine ⟨⟨_, _, _, rfl, rfl, rfl, WkO.rfl⟩, ?_⟩ | refine HeapOK.acc rfl rfl ?_)))
  · refine M.q (M.go rfl ?_)
    rw [decide_eq_false h]
    exact M.ret (M.go rfl (M.done (finQ.ret [] rfl rfl rfl (by first | exact Wk.rfl | exact Wk.uncap | exact Wk.nil | exact Wk.b1 rfl | exact Wk.t2 Wk.rfl (Wk.b1 rfl)) (by repeat' (first | exact True.intro | refine ⟨⟨_, _, _, rfl, rfl, rfl, WkO.rfl⟩, ?_⟩ | refine HeapOK.acc rfl rfl ?_)))))
  · refine M.q (M.go rfl ?_)
    rw [decide_eq_true h]
    exact M.done (finQ.ret [] rfl rfl rfl (by first | exact Wk.rfl | exact Wk.uncap | exact Wk.nil | exact Wk.b1 rfl | exact Wk.t2 Wk.rfl (Wk.b1 rfl)) (by repeat' (first | exact True.intro | refine ⟨⟨_, _, _, rfl, rfl, rfl, WkO.rfl⟩, ?_⟩ | refine HeapOK.acc rfl rfl ?_)))
end Go.Proofs.Ytgaaffanoegbhaa
