/- Texts of this claim, several in one: SimN, RM1, Bal1, Bal2. -/
import Derived.Test.YtgaaffanoegbhaaMgRaftMay9
import Derived.Test.YtgaaffanoegbhaaChecked
import Derived.Test.YtgaaffanoegbhaaRows
/- Closed statements, reckoned by the kernel on the plain machine. -/
namespace Go.Proofs.Ytgaaffanoegbhaa
open Go.RowKit Sim

theorem mixed : Try.prog.follows .mixedOrders = true := by kernel_rfl
theorem noNG (f : FuncId) (fn : Func) (h : Try.prog.funcs[f]? = some fn) : (fn.name == "runtime.NumGoroutine") = false := by
  have h1 : Try.prog.funcs.all (fun fn => !(fn.name == "runtime.NumGoroutine")) = true := by kernel_rfl
  have h2 := Array.all_eq_true'.1 h1 fn (Array.mem_of_getElem? h)
  simpa using h2
end Go.Proofs.Ytgaaffanoegbhaa

/- raft.in50: numbers from 0 to 2^50, by a function value. -/
namespace Go.Proofs.Ytgaaffanoegbhaa
open Go.RowKit Sim Go Sym
set_option maxRecDepth 100000
set_option linter.unusedVariables false
set_option linter.unusedSimpArgs false
variable {base : Nat}
def far1 (n : Int) : Bool := decide (n < 0 ∨ 1125899906842624 < n)
noncomputable def lF1 : {F : LF // lowerF Try.prog 95 = some F} := ⟨_, rfl⟩
theorem far1_spec (n : Int) : CallS Try.prog base 95 [.c (.p (.int .i64 n))] ⟨[], 0⟩ (.c (.p (.bs (far1 n)))) ⟨[], 0⟩ := by
  refine CallS.of noNG lF1.2 rfl (M.start (M.go rfl ?_))
  refine M.dec rfl (fun h1 => ?_) (fun h1 => ?_)
  · refine M.go rfl ?_
    exact M.ret (M.go rfl (M.done (finQ.ret [] rfl rfl rfl (Wk.b1 (decide_eq_true (.inl h1))) (by repeat' (first | exact True.intro | refine ⟨⟨_, _, _, rfl, rfl, rfl, WkO.rfl⟩, ?_⟩ | refine HeapOK.acc rfl rfl ?_ | refine HeapOK.es rfl rfl ?_)))))
  · refine M.go rfl ?_
    exact M.ret (M.go rfl (M.done (finQ.ret [] rfl rfl rfl (Wk.b2 (decide_eq_decide.2 ⟨fun h => h.resolve_left h1, .inr⟩)) (by repeat' (first | exact True.intro | refine ⟨⟨_, _, _, rfl, rfl, rfl, WkO.rfl⟩, ?_⟩ | refine HeapOK.acc rfl rfl ?_ | refine HeapOK.es rfl rfl ?_)))))
def fiF (p : Int → Bool) : Nat → List Int → Int
  | _, [] => -1
  | j, x :: l => if p x = true then j else fiF p (j + 1) l
theorem fiF_nn (p : Int → Bool) : ∀ (l : List Int) (j : Nat), 0 ≤ fiF p j l ↔ ∃ x ∈ l, p x = true
  | [], j => by simp [fiF]
  | x :: l, j => by
    simp only [fiF]
    split
    · rename_i h; simp [h]
    · rename_i h; rw [fiF_nn p l]; simp [h]
noncomputable def lIxF : {F : LF // lowerF Try.prog 130 = some F} := ⟨_, rfl⟩
theorem ixf_loop (z : Bool) (c : Option Nat) (l : List Int) (hl : l.length ≤ 1000000) (Q : QX) (hq : fiF far1 0 l = -1 → Q (.exit 0) [] ⟨[], 0⟩) (hr : 0 ≤ fiF far1 0 l → Q .ret [(4, .c (.p (.int .i64 (fiF far1 0 l))))] ⟨[], 0⟩) :
    ∀ (rest pre : List Int), l = pre ++ rest → fiF far1 pre.length rest = fiF far1 0 l → XH Try.prog base lIxF.1.n 0 (lIxF.1.c.lp 0) [(0, .c (.p (.tz z 1 (inP l) c))), (1, .c (.p (.fn 95))), (7, .c (.p (.int .i64 l.length))), (8, .c (.p (.int .i64 pre.length)))] ⟨[], 0⟩ Q := by
  intro rest
  induction rest with
  | nil =>
    intro pre hp hf
    simp at hp
    subst hp
    refine M.round (M.go rfl ?_)
    refine M.cond rfl (fun hc => absurd hc (by omega)) (fun hc => ?_)
    refine M.ren [] ?_ trivial rfl (by repeat' (first | exact True.intro | refine ⟨⟨_, _, rfl, rfl, Wk.rfl⟩, ?_⟩ | refine ⟨⟨_, _, accV_ren rfl, rfl, Wk.rfl⟩, ?_⟩ | refine ⟨⟨_, _, accV_ren rfl, rfl, Wk.acc0⟩, ?_⟩ | refine ⟨⟨_, _, rfl, rfl, Wk.uncap⟩, ?_⟩ | refine ⟨⟨_, _, rfl, rfl, Wk.nil⟩, ?_⟩)) (by repeat' (first | exact True.intro | refine ⟨⟨_, _, _, rfl, rfl, rfl, WkO.rfl⟩, ?_⟩ | refine HeapOK.acc rfl rfl ?_ | refine HeapOK.es rfl rfl ?_)) (e' := []) (h' := ⟨[], 0⟩)
    exact M.exit (M.go rfl (M.done (hq hf.symm)))
  | cons x rest ih =>
    intro pre hp hf
    have hlen : l.length = pre.length + (rest.length + 1) := by rw [hp]; simp
    have hu : (inP l)[((pre.length : Int)).toNat]? = some (.int .i64 x) := by rw [hp]; exact at_app _ _ _ _
    have hw2 : IntKind.i64.wrap ((pre.length : Int) + 1) = ((pre ++ [x]).length : Int) := by rw [wr64 (by omega) (by omega)]; simp
    refine M.round (M.go rfl ?_)
    refine M.cond rfl (fun hc => ?_) (fun hc => absurd (by omega) hc)
    refine M.go rfl ?_
    refine M.op trivial (SOp.ia rfl rfl (by omega) hu) ?_
    refine M.op trivial (SOp.ld1e rfl hu rfl rfl rfl) ?_
    refine M.useV0 trivial rfl (far1_spec x) rfl rfl rfl ?_
    refine M.go rfl ?_
    simp only [fiF] at hf
    refine M.condB rfl (fun h => ?_) (fun h => ?_)
    · rw [if_pos h] at hf
      refine M.go rfl ?_
      rw [hf]
      refine M.ren [] ?_ trivial rfl (by repeat' (first | exact True.intro | refine ⟨⟨_, _, rfl, rfl, Wk.rfl⟩, ?_⟩ | refine ⟨⟨_, _, accV_ren rfl, rfl, Wk.rfl⟩, ?_⟩ | refine ⟨⟨_, _, accV_ren rfl, rfl, Wk.acc0⟩, ?_⟩ | refine ⟨⟨_, _, rfl, rfl, Wk.uncap⟩, ?_⟩ | refine ⟨⟨_, _, rfl, rfl, Wk.nil⟩, ?_⟩)) (by repeat' (first | exact True.intro | refine ⟨⟨_, _, _, rfl, rfl, rfl, WkO.rfl⟩, ?_⟩ | refine HeapOK.acc rfl rfl ?_ | refine HeapOK.es rfl rfl ?_)) (e' := [(4, .c (.p (.int .i64 (fiF far1 0 l))))]) (h' := ⟨[], 0⟩)
      exact M.ret (M.go rfl (M.done (hr (by omega))))
    · rw [if_neg (by rw [h]; decide)] at hf
      refine M.go rfl ?_
      rw [hw2]
      exact M.again (XH.ren [] (ih (pre ++ [x]) (by rw [hp]; simp) (by rw [← hf]; simp)) rfl (by repeat' (first | exact True.intro | refine ⟨⟨_, _, rfl, rfl, Wk.rfl⟩, ?_⟩ | refine ⟨⟨_, _, accV_ren rfl, rfl, Wk.rfl⟩, ?_⟩ | refine ⟨⟨_, _, accV_ren rfl, rfl, Wk.acc0⟩, ?_⟩ | refine ⟨⟨_, _, rfl, rfl, Wk.uncap⟩, ?_⟩ | refine ⟨⟨_, _, rfl, rfl, Wk.nil⟩, ?_⟩)) (by repeat' (first | exact True.intro | refine ⟨⟨_, _, _, rfl, rfl, rfl, WkO.rfl⟩, ?_⟩ | refine HeapOK.acc rfl rfl ?_ | refine HeapOK.es rfl rfl ?_)))
theorem fiF_m1 (p : Int → Bool) : ∀ (l : List Int) (j : Nat), fiF p j l = -1 ∨ 0 ≤ fiF p j l
  | [], j => .inl rfl
  | x :: l, j => by
    simp only [fiF]
    split
    · right; omega
    · exact fiF_m1 p l (j + 1)
theorem ixf_spec (z : Bool) (c : Option Nat) (l : List Int) (hl : l.length ≤ 1000000) : CallS Try.prog base 130 [.c (.p (.tz z 1 (inP l) c)), .c (.p (.fn 95))] ⟨[], 0⟩ (.c (.p (.int .i64 (fiF far1 0 l)))) ⟨[], 0⟩ := by
  refine CallS.of noNG lIxF.2 rfl (M.start (M.go rfl ?_))
  rw [show (inP l).length = l.length by simp [inP]]
  refine M.loop (XH.ren [] (ixf_loop z c l hl _ (fun h => ?_) (fun h => ?_) l [] rfl rfl) rfl (by repeat' (first | exact True.intro | refine ⟨⟨_, _, rfl, rfl, Wk.rfl⟩, ?_⟩ | refine ⟨⟨_, _, accV_ren rfl, rfl, Wk.rfl⟩, ?_⟩ | refine ⟨⟨_, _, accV_ren rfl, rfl, Wk.acc0⟩, ?_⟩ | refine ⟨⟨_, _, rfl, rfl, Wk.uncap⟩, ?_⟩ | refine ⟨⟨_, _, rfl, rfl, Wk.nil⟩, ?_⟩)) (by repeat' (first | exact True.intro | refine ⟨⟨_, _, _, rfl, rfl, rfl, WkO.rfl⟩, ?_⟩ | refine HeapOK.acc rfl rfl ?_ | refine HeapOK.es rfl rfl ?_)))
  · refine M.q (M.go rfl ?_)
    rw [h]
    exact M.ret (M.go rfl (M.done (finQ.ret [] rfl rfl rfl (by first | exact Wk.rfl | exact Wk.uncap | exact Wk.nil | exact Wk.b1 rfl | exact Wk.t2 Wk.rfl (Wk.b1 rfl)) (by repeat' (first | exact True.intro | refine ⟨⟨_, _, _, rfl, rfl, rfl, WkO.rfl⟩, ?_⟩ | refine HeapOK.acc rfl rfl ?_ | refine HeapOK.es rfl rfl ?_)))))
  · refine M.q (M.go rfl ?_)
    exact M.done (finQ.ret [] rfl rfl rfl (by first | exact Wk.rfl | exact Wk.uncap | exact Wk.nil | exact Wk.b1 rfl | exact Wk.t2 Wk.rfl (Wk.b1 rfl)) (by repeat' (first | exact True.intro | refine ⟨⟨_, _, _, rfl, rfl, rfl, WkO.rfl⟩, ?_⟩ | refine HeapOK.acc rfl rfl ?_ | refine HeapOK.es rfl rfl ?_)))
noncomputable def lCoF : {F : LF // lowerF Try.prog 94 = some F} := ⟨_, rfl⟩
theorem cof_spec (z : Bool) (c : Option Nat) (l : List Int) (hl : l.length ≤ 1000000) : CallS Try.prog base 94 [.c (.p (.tz z 1 (inP l) c)), .c (.p (.fn 95))] ⟨[], 0⟩ (.c (.p (.bs (decide (0 ≤ fiF far1 0 l))))) ⟨[], 0⟩ := by
  refine CallS.of noNG lCoF.2 rfl (M.start (M.go rfl ?_))
  refine M.use0 trivial (ixf_spec z c l hl) rfl rfl rfl ?_
  refine M.go rfl ?_
  exact M.ret (M.go rfl (M.done (finQ.ret [] rfl rfl rfl (by first | exact Wk.rfl | exact Wk.uncap | exact Wk.nil | exact Wk.b1 rfl | exact Wk.t2 Wk.rfl (Wk.b1 rfl)) (by repeat' (first | exact True.intro | refine ⟨⟨_, _, _, rfl, rfl, rfl, WkO.rfl⟩, ?_⟩ | refine HeapOK.acc rfl rfl ?_ | refine HeapOK.es rfl rfl ?_)))))
noncomputable def lIn5 : {F : LF // lowerF Try.prog 66 = some F} := ⟨_, rfl⟩
def in50 (l : List Int) : Bool := l.all fun n => decide (0 ≤ n ∧ n ≤ 1125899906842624)
theorem in50_eq (l : List Int) : (!decide (0 ≤ fiF far1 0 l)) = in50 l := by
  rw [Bool.eq_iff_iff]
  simp only [in50, Bool.not_eq_true', decide_eq_false_iff_not, List.all_eq_true, decide_eq_true_eq, fiF_nn]
  constructor
  · intro h x hx
    have : ¬ far1 x = true := fun e => h ⟨x, hx, e⟩
    simp only [far1, decide_eq_true_eq] at this
    omega
  · rintro h ⟨x, hx, e⟩
    have := h x hx
    simp only [far1, decide_eq_true_eq] at e
    omega
theorem in50_spec (z : Bool) (c : Option Nat) (l : List Int) (hl : l.length ≤ 1000000) : CallS Try.prog base 66 [.c (.p (.tz z 1 (inP l) c))] ⟨[], 0⟩ (.c (.p (.bs (in50 l)))) ⟨[], 0⟩ := by
  rw [← in50_eq]
  refine CallS.of noNG lIn5.2 rfl (M.start (M.go rfl ?_))
  refine M.use0 trivial (cof_spec z c l hl) rfl rfl rfl ?_
  refine M.go rfl ?_
  exact M.ret (M.go rfl (M.done (finQ.ret [] rfl rfl rfl (by first | exact Wk.rfl | exact Wk.uncap | exact Wk.nil | exact Wk.b1 rfl | exact Wk.t2 Wk.rfl (Wk.b1 rfl)) (by repeat' (first | exact True.intro | refine ⟨⟨_, _, _, rfl, rfl, rfl, WkO.rfl⟩, ?_⟩ | refine HeapOK.acc rfl rfl ?_ | refine HeapOK.es rfl rfl ?_)))))
noncomputable def lRid : {F : LF // lowerF Try.prog 65 = some F} := ⟨_, rfl⟩
theorem rid_spec (n : Int) : CallS Try.prog base 65 [.c (.p (.int .i64 n))] ⟨[], 0⟩ (.c (.p (.bs (decide (1 ≤ n ∧ n ≤ 7))))) ⟨[], 0⟩ := by
  refine CallS.of noNG lRid.2 rfl (M.start (M.go rfl ?_))
  refine M.dec rfl (fun h1 => ?_) (fun h1 => ?_)
  · refine M.go rfl ?_
    exact M.ret (M.go rfl (M.done (finQ.ret [] rfl rfl rfl (Wk.b2 (decide_eq_decide.2 ⟨fun h => h.2, fun h => ⟨h1, h⟩⟩)) (by repeat' (first | exact True.intro | refine ⟨⟨_, _, _, rfl, rfl, rfl, WkO.rfl⟩, ?_⟩ | refine HeapOK.acc rfl rfl ?_ | refine HeapOK.es rfl rfl ?_)))))
  · refine M.go rfl ?_
    exact M.ret (M.go rfl (M.done (finQ.ret [] rfl rfl rfl (Wk.b1 (decide_eq_false fun h => h1 h.1)) (by repeat' (first | exact True.intro | refine ⟨⟨_, _, _, rfl, rfl, rfl, WkO.rfl⟩, ?_⟩ | refine HeapOK.acc rfl rfl ?_ | refine HeapOK.es rfl rfl ?_)))))
end Go.Proofs.Ytgaaffanoegbhaa

/- delphi/ballot: who is among some, majorities. -/
namespace Go.Proofs.Ytgaaffanoegbhaa
open Go.RowKit Sim Go Sym
set_option maxRecDepth 100000
set_option linter.unusedVariables false
set_option linter.unusedSimpArgs false
variable {base : Nat}
def InR (n : Int) : Prop := -9223372036854775808 ≤ n ∧ n ≤ 9223372036854775807
theorem inPl (l : List Int) : (inP l).length = l.length := by simp [inP]
theorem begun21_spec : CallS Try.prog base 10 [] ⟨[], 0⟩ (.c (.p (.bool true))) ⟨[], 0⟩ := CallS.closed (m := 2000) mixed noNG (by kernel_rfl)
noncomputable def lCut10 : {F : LF // lowerF Try.prog 11 = some F} := ⟨_, rfl⟩
theorem cut10_spec (z : Bool) (l : List Int) (c : Option Nat) : CallS Try.prog base 11 [.c (.p (.tz z 1 (inP l) c))] ⟨[], 0⟩ (.c (.p (.tz z 1 (inP (l.take 10)) none))) ⟨[], 0⟩ := by
  refine CallS.of noNG lCut10.2 rfl (M.start (M.go rfl ?_))
  refine M.cond rfl (fun h => ?_) (fun h => ?_)
  · refine M.go rfl ?_
    refine M.op trivial (SOp.sl (r := 10) rfl rfl ⟨_, _, rfl, by omega, rfl⟩ (Nat.zero_le _) (by omega)) ?_
    refine M.go rfl ?_
    have h1 : ((inP l).drop 0).take (10 - 0) = inP (l.take 10) := by simp [inP]
    rw [h1]
    have h2 : inP (l.take 10) ≠ [] := by
      intro e
      have := congrArg List.length e
      rw [inPl] at h
      rw [inPl] at this
      simp at this
      rcases this with h3 | h3 <;> simp_all
    exact M.ret (M.go rfl (M.done (finQ.ret [] rfl rfl rfl (Wk.trans Wk.uncap (Wk.some h2)) (by repeat' (first | exact True.intro | refine ⟨⟨_, _, _, rfl, rfl, rfl, WkO.rfl⟩, ?_⟩ | refine HeapOK.acc rfl rfl ?_ | refine HeapOK.es rfl rfl ?_)))))
  · refine M.go rfl ?_
    rw [List.take_of_length_le (by rw [inPl] at h; omega)]
    exact M.ret (M.go rfl (M.done (finQ.ret [] rfl rfl rfl (by first | exact Wk.rfl | exact Wk.uncap | exact Wk.nil | exact Wk.b1 rfl | exact Wk.t2 Wk.rfl (Wk.b1 rfl)) (by repeat' (first | exact True.intro | refine ⟨⟨_, _, _, rfl, rfl, rfl, WkO.rfl⟩, ?_⟩ | refine HeapOK.acc rfl rfl ?_ | refine HeapOK.es rfl rfl ?_)))))
noncomputable def lIdx : {F : LF // lowerF Try.prog 71 = some F} := ⟨_, rfl⟩
def idxF (x : Int) : List Int → Int → Int
  | [], _ => -1
  | y :: l, i => if x = y then i else idxF x l (i + 1)
theorem idx_loop (z : Bool) (c : Option Nat) (l : List Int) (x : Int) (hl : l.length ≤ 1000000) (Q : QX) : ∀ (rest pre : List Int), l = pre ++ rest → (idxF x rest pre.length = -1 → Q (.exit 0) [] ⟨[], 0⟩) → (∀ i, idxF x rest pre.length = i → Q .ret [(4, .c (.p (.int .i64 i)))] ⟨[], 0⟩) →
    XH Try.prog base lIdx.1.n 0 (lIdx.1.c.lp 0) [(0, .c (.p (.tz z 1 (inP l) c))), (1, .c (.p (.int .i64 x))), (7, .c (.p (.int .i64 (inP l).length))), (8, .c (.p (.int .i64 pre.length)))] ⟨[], 0⟩ Q := by
  intro rest
  induction rest with
  | nil =>
    intro pre hp hq hr
    refine M.round (M.go rfl ?_)
    have h5 : (inP l).length = pre.length := by rw [hp, inPl]; simp
    rw [h5]
    refine M.cond rfl (fun h => absurd h (by omega)) (fun h => ?_)
    refine M.ren [] ?_ trivial rfl (by repeat' (first | exact True.intro | refine ⟨⟨_, _, rfl, rfl, Wk.rfl⟩, ?_⟩ | refine ⟨⟨_, _, accV_ren rfl, rfl, Wk.rfl⟩, ?_⟩ | refine ⟨⟨_, _, accV_ren rfl, rfl, Wk.acc0⟩, ?_⟩ | refine ⟨⟨_, _, rfl, rfl, Wk.uncap⟩, ?_⟩ | refine ⟨⟨_, _, rfl, rfl, Wk.nil⟩, ?_⟩)) (by repeat' (first | exact True.intro | refine ⟨⟨_, _, _, rfl, rfl, rfl, WkO.rfl⟩, ?_⟩ | refine HeapOK.acc rfl rfl ?_ | refine HeapOK.es rfl rfl ?_)) (e' := []) (h' := ⟨[], 0⟩)
    exact M.exit (M.go rfl (M.done (hq rfl)))
  | cons y rest ih =>
    intro pre hp hq hr
    refine M.round (M.go rfl ?_)
    have h5 : (inP l).length = pre.length + (rest.length + 1) := by rw [hp, inPl]; simp
    have hu : (inP l)[((pre.length : Int)).toNat]? = some (.int .i64 y) := by rw [hp]; exact at_app _ _ _ _
    have hw : IntKind.i64.wrap ((pre.length : Int) + 1) = ((pre ++ [y]).length : Int) := by rw [inPl] at h5; rw [wr64 (by omega) (by omega)]; simp
    refine M.cond rfl (fun h => ?_) (fun h => absurd (by rw [h5]; omega) h)
    refine M.go rfl ?_
    refine M.op trivial (SOp.ia rfl rfl (by omega) hu) ?_
    refine M.op trivial (SOp.ld1e rfl hu rfl rfl rfl) ?_
    refine M.go rfl ?_
    refine M.cond rfl (fun h => ?_) (fun h => ?_)
    · refine M.go rfl ?_
      refine M.ren [] ?_ trivial rfl (by repeat' (first | exact True.intro | refine ⟨⟨_, _, rfl, rfl, Wk.rfl⟩, ?_⟩ | refine ⟨⟨_, _, accV_ren rfl, rfl, Wk.rfl⟩, ?_⟩ | refine ⟨⟨_, _, accV_ren rfl, rfl, Wk.acc0⟩, ?_⟩ | refine ⟨⟨_, _, rfl, rfl, Wk.uncap⟩, ?_⟩ | refine ⟨⟨_, _, rfl, rfl, Wk.nil⟩, ?_⟩)) (by repeat' (first | exact True.intro | refine ⟨⟨_, _, _, rfl, rfl, rfl, WkO.rfl⟩, ?_⟩ | refine HeapOK.acc rfl rfl ?_ | refine HeapOK.es rfl rfl ?_)) (e' := [(4, .c (.p (.int .i64 pre.length)))]) (h' := ⟨[], 0⟩)
      exact M.ret (M.go rfl (M.done (hr _ (if_pos h))))
    · refine M.go rfl ?_
      rw [hw]
      have he : idxF x (y :: rest) pre.length = idxF x rest ((pre ++ [y]).length : Int) := by rw [idxF, if_neg h]; simp
      rw [he] at hq hr
      exact M.again (XH.ren [] (ih (pre ++ [y]) (by rw [hp]; simp) hq hr) rfl (by repeat' (first | exact True.intro | refine ⟨⟨_, _, rfl, rfl, Wk.rfl⟩, ?_⟩ | refine ⟨⟨_, _, accV_ren rfl, rfl, Wk.rfl⟩, ?_⟩ | refine ⟨⟨_, _, accV_ren rfl, rfl, Wk.acc0⟩, ?_⟩ | refine ⟨⟨_, _, rfl, rfl, Wk.uncap⟩, ?_⟩ | refine ⟨⟨_, _, rfl, rfl, Wk.nil⟩, ?_⟩)) (by repeat' (first | exact True.intro | refine ⟨⟨_, _, _, rfl, rfl, rfl, WkO.rfl⟩, ?_⟩ | refine HeapOK.acc rfl rfl ?_ | refine HeapOK.es rfl rfl ?_)))
theorem idx_spec (z : Bool) (c : Option Nat) (l : List Int) (x : Int) (hl : l.length ≤ 1000000) : CallS Try.prog base 71 [.c (.p (.tz z 1 (inP l) c)), .c (.p (.int .i64 x))] ⟨[], 0⟩ (.c (.p (.int .i64 (idxF x l 0)))) ⟨[], 0⟩ := by
  refine CallS.of noNG lIdx.2 rfl (M.start (M.go rfl ?_))
  refine M.loop (XH.ren [] (idx_loop z c l x hl _ l [] rfl (fun h => ?_) (fun i h => ?_)) rfl (by repeat' (first | exact True.intro | refine ⟨⟨_, _, rfl, rfl, Wk.rfl⟩, ?_⟩ | refine ⟨⟨_, _, accV_ren rfl, rfl, Wk.rfl⟩, ?_⟩ | refine ⟨⟨_, _, accV_ren rfl, rfl, Wk.acc0⟩, ?_⟩ | refine ⟨⟨_, _, rfl, rfl, Wk.uncap⟩, ?_⟩ | refine ⟨⟨_, _, rfl, rfl, Wk.nil⟩, ?_⟩)) (by repeat' (first | exact True.intro | refine ⟨⟨_, _, _, rfl, rfl, rfl, WkO.rfl⟩, ?_⟩ | refine HeapOK.acc rfl rfl ?_ | refine HeapOK.es rfl rfl ?_)))
  · refine M.q (M.go rfl ?_)
    rw [show idxF x l 0 = -1 from h]
    exact M.ret (M.go rfl (M.done (finQ.ret [] rfl rfl rfl (by first | exact Wk.rfl | exact Wk.uncap | exact Wk.nil | exact Wk.b1 rfl | exact Wk.t2 Wk.rfl (Wk.b1 rfl)) (by repeat' (first | exact True.intro | refine ⟨⟨_, _, _, rfl, rfl, rfl, WkO.rfl⟩, ?_⟩ | refine HeapOK.acc rfl rfl ?_ | refine HeapOK.es rfl rfl ?_)))))
  · refine M.q (M.go rfl ?_)
    rw [show idxF x l 0 = i from h]
    exact M.done (finQ.ret [] rfl rfl rfl (by first | exact Wk.rfl | exact Wk.uncap | exact Wk.nil | exact Wk.b1 rfl | exact Wk.t2 Wk.rfl (Wk.b1 rfl)) (by repeat' (first | exact True.intro | refine ⟨⟨_, _, _, rfl, rfl, rfl, WkO.rfl⟩, ?_⟩ | refine HeapOK.acc rfl rfl ?_ | refine HeapOK.es rfl rfl ?_)))
theorem idxF_mem (x : Int) : ∀ (l : List Int) (i : Int), 0 ≤ i → (0 ≤ idxF x l i ↔ x ∈ l)
  | [], i, _ => by simp [idxF]
  | y :: l, i, hi => by
    have ih := idxF_mem x l (i + 1) (by omega)
    unfold idxF
    by_cases h : x = y
    · rw [if_pos h]; simp [h, hi]
    · rw [if_neg h, ih]; simp [h]
noncomputable def lHas : {F : LF // lowerF Try.prog 44 = some F} := ⟨_, rfl⟩
theorem has_spec (z : Bool) (c : Option Nat) (l : List Int) (x : Int) (hl : l.length ≤ 1000000) : CallS Try.prog base 44 [.c (.p (.tz z 1 (inP l) c)), .c (.p (.int .i64 x))] ⟨[], 0⟩ (.c (.p (.bs (decide (x ∈ l))))) ⟨[], 0⟩ := by
  refine CallS.of noNG lHas.2 rfl (M.start (M.go rfl ?_))
  refine M.use0 trivial (idx_spec z c l x hl) rfl rfl rfl ?_
  refine M.go rfl ?_
  have := idxF_mem x l 0 (by omega)
  rw [show decide (x ∈ l) = decide (0 ≤ idxF x l 0) from decide_eq_decide.2 this.symm]
  exact M.ret (M.go rfl (M.done (finQ.ret [] rfl rfl rfl (by first | exact Wk.rfl | exact Wk.uncap | exact Wk.nil | exact Wk.b1 rfl | exact Wk.t2 Wk.rfl (Wk.b1 rfl)) (by repeat' (first | exact True.intro | refine ⟨⟨_, _, _, rfl, rfl, rfl, WkO.rfl⟩, ?_⟩ | refine HeapOK.acc rfl rfl ?_ | refine HeapOK.es rfl rfl ?_)))))
noncomputable def lIn : {F : LF // lowerF Try.prog 17 = some F} := ⟨_, rfl⟩
theorem in_loop (z : Bool) (c : Option Nat) (l : List Int) (x : Int) (hl : l.length ≤ 1000000) (Q : QX) : ∀ (rest pre : List Int), l = pre ++ rest → (¬ x ∈ rest → Q (.exit 0) [] ⟨[], 0⟩) → (x ∈ rest → Q .ret [(4, .c (.p (.bool true)))] ⟨[], 0⟩) →
    XH Try.prog base lIn.1.n 0 (lIn.1.c.lp 0) [(0, .c (.p (.tz z 1 (inP l) c))), (1, .c (.p (.int .i64 x))), (5, .c (.p (.int .i64 pre.length)))] ⟨[], 0⟩ Q := by
  intro rest
  induction rest with
  | nil =>
    intro pre hp hq hr
    refine M.round (M.go rfl ?_)
    have h5 : (inP l).length = pre.length := by rw [hp, inPl]; simp
    rw [h5]
    refine M.cond rfl (fun h => absurd h (by omega)) (fun h => ?_)
    refine M.ren [] ?_ trivial rfl (by repeat' (first | exact True.intro | refine ⟨⟨_, _, rfl, rfl, Wk.rfl⟩, ?_⟩ | refine ⟨⟨_, _, accV_ren rfl, rfl, Wk.rfl⟩, ?_⟩ | refine ⟨⟨_, _, accV_ren rfl, rfl, Wk.acc0⟩, ?_⟩ | refine ⟨⟨_, _, rfl, rfl, Wk.uncap⟩, ?_⟩ | refine ⟨⟨_, _, rfl, rfl, Wk.nil⟩, ?_⟩)) (by repeat' (first | exact True.intro | refine ⟨⟨_, _, _, rfl, rfl, rfl, WkO.rfl⟩, ?_⟩ | refine HeapOK.acc rfl rfl ?_ | refine HeapOK.es rfl rfl ?_)) (e' := []) (h' := ⟨[], 0⟩)
    exact M.exit (M.go rfl (M.done (hq (by simp))))
  | cons y rest ih =>
    intro pre hp hq hr
    refine M.round (M.go rfl ?_)
    have h5 : (inP l).length = pre.length + (rest.length + 1) := by rw [hp, inPl]; simp
    have hu : (inP l)[((pre.length : Int)).toNat]? = some (.int .i64 y) := by rw [hp]; exact at_app _ _ _ _
    have hw : IntKind.i64.wrap ((pre.length : Int) + 1) = ((pre ++ [y]).length : Int) := by rw [inPl] at h5; rw [wr64 (by omega) (by omega)]; simp
    refine M.cond rfl (fun h => ?_) (fun h => absurd (by rw [h5]; omega) h)
    refine M.go rfl ?_
    refine M.op trivial (SOp.ia rfl rfl (by omega) hu) ?_
    refine M.op trivial (SOp.ld1e rfl hu rfl rfl rfl) ?_
    refine M.go rfl ?_
    refine M.cond rfl (fun h => ?_) (fun h => ?_)
    · refine M.go rfl ?_
      refine M.ren [] ?_ trivial rfl (by repeat' (first | exact True.intro | refine ⟨⟨_, _, rfl, rfl, Wk.rfl⟩, ?_⟩ | refine ⟨⟨_, _, accV_ren rfl, rfl, Wk.rfl⟩, ?_⟩ | refine ⟨⟨_, _, accV_ren rfl, rfl, Wk.acc0⟩, ?_⟩ | refine ⟨⟨_, _, rfl, rfl, Wk.uncap⟩, ?_⟩ | refine ⟨⟨_, _, rfl, rfl, Wk.nil⟩, ?_⟩)) (by repeat' (first | exact True.intro | refine ⟨⟨_, _, _, rfl, rfl, rfl, WkO.rfl⟩, ?_⟩ | refine HeapOK.acc rfl rfl ?_ | refine HeapOK.es rfl rfl ?_)) (e' := [(4, .c (.p (.bool true)))]) (h' := ⟨[], 0⟩)
      exact M.ret (M.go rfl (M.done (hr (by rw [h]; simp))))
    · refine M.go rfl ?_
      rw [hw]
      exact M.again (XH.ren [] (ih (pre ++ [y]) (by rw [hp]; simp) (fun g => hq (fun g' => by rcases List.mem_cons.1 g' with e | e; exact h e.symm; exact g e)) (fun g => hr (List.mem_cons_of_mem _ g))) rfl (by repeat' (first | exact True.intro | refine ⟨⟨_, _, rfl, rfl, Wk.rfl⟩, ?_⟩ | refine ⟨⟨_, _, accV_ren rfl, rfl, Wk.rfl⟩, ?_⟩ | refine ⟨⟨_, _, accV_ren rfl, rfl, Wk.acc0⟩, ?_⟩ | refine ⟨⟨_, _, rfl, rfl, Wk.uncap⟩, ?_⟩ | refine ⟨⟨_, _, rfl, rfl, Wk.nil⟩, ?_⟩)) (by repeat' (first | exact True.intro | refine ⟨⟨_, _, _, rfl, rfl, rfl, WkO.rfl⟩, ?_⟩ | refine HeapOK.acc rfl rfl ?_ | refine HeapOK.es rfl rfl ?_)))
theorem in_spec (z : Bool) (c : Option Nat) (l : List Int) (x : Int) (hl : l.length ≤ 1000000) : CallS Try.prog base 17 [.c (.p (.tz z 1 (inP l) c)), .c (.p (.int .i64 x))] ⟨[], 0⟩ (.c (.p (.bs (decide (x ∈ l))))) ⟨[], 0⟩ := by
  refine CallS.of noNG lIn.2 rfl (M.start (M.go rfl ?_))
  refine M.loop (XH.ren [] (in_loop z c l x hl _ l [] rfl (fun h => ?_) (fun h => ?_)) rfl (by repeat' (first | exact True.intro | refine ⟨⟨_, _, rfl, rfl, Wk.rfl⟩, ?_⟩ | refine ⟨⟨_, _, accV_ren rfl, rfl, Wk.rfl⟩, ?_⟩ | refine ⟨⟨_, _, accV_ren rfl, rfl, Wk.acc0⟩, ?_⟩ | refine ⟨⟨_, _, rfl, rfl, Wk.uncap⟩, ?_⟩ | refine ⟨⟨_, _, rfl, rfl, Wk.nil⟩, ?_⟩)) (by repeat' (first | exact True.intro | refine ⟨⟨_, _, _, rfl, rfl, rfl, WkO.rfl⟩, ?_⟩ | refine HeapOK.acc rfl rfl ?_ | refine HeapOK.es rfl rfl ?_)))
  · refine M.q (M.go rfl ?_)
    rw [decide_eq_false h]
    exact M.ret (M.go rfl (M.done (finQ.ret [] rfl rfl rfl (by first | exact Wk.rfl | exact Wk.uncap | exact Wk.nil | exact Wk.b1 rfl | exact Wk.t2 Wk.rfl (Wk.b1 rfl)) (by repeat' (first | exact True.intro | refine ⟨⟨_, _, _, rfl, rfl, rfl, WkO.rfl⟩, ?_⟩ | refine HeapOK.acc rfl rfl ?_ | refine HeapOK.es rfl rfl ?_)))))
  · refine M.q (M.go rfl ?_)
    rw [decide_eq_true h]
    exact M.done (finQ.ret [] rfl rfl rfl (by first | exact Wk.rfl | exact Wk.uncap | exact Wk.nil | exact Wk.b1 rfl | exact Wk.t2 Wk.rfl (Wk.b1 rfl)) (by repeat' (first | exact True.intro | refine ⟨⟨_, _, _, rfl, rfl, rfl, WkO.rfl⟩, ?_⟩ | refine HeapOK.acc rfl rfl ?_ | refine HeapOK.es rfl rfl ?_)))
end Go.Proofs.Ytgaaffanoegbhaa

/- delphi/ballot: May, Majority, Step. -/
namespace Go.Proofs.Ytgaaffanoegbhaa
open Go.RowKit Sim Go Sym
set_option maxRecDepth 100000
set_option linter.unusedVariables false
set_option linter.unusedSimpArgs false
variable {base : Nat}
def incB : Int → List Int → Bool
  | _, [] => true
  | p, b :: l => (decide (p < b) && decide (b ≤ 7)) && incB b l
theorem incB_app : ∀ (l r : List Int) (p : Int), incB p (l ++ r) = (incB p l && incB (l.getLast?.getD p) r)
  | [], r, p => by simp [incB]
  | b :: l, r, p => by
    have : (b :: l).getLast?.getD p = l.getLast?.getD b := by cases l <;> simp [List.getLast?_cons]
    rw [List.cons_append, incB, incB, incB_app l r b, this]; simp only [Bool.and_assoc]
theorem incB_last : ∀ (l : List Int) (p : Int), incB p l = true → p ≤ l.getLast?.getD p
  | [], p, _ => by simp
  | b :: l, p, h => by
    simp only [incB, Bool.and_eq_true, decide_eq_true_eq] at h
    have := incB_last l b h.2
    have e : (b :: l).getLast?.getD p = l.getLast?.getD b := by cases l <;> simp [List.getLast?_cons]
    rw [e]; omega
def mayI (l : List Int) : Bool := incB 0 l && !l.isEmpty
noncomputable def lMayI : {F : LF // lowerF Try.prog 20 = some F} := ⟨_, rfl⟩
def mayIE (v : XV) (z : Bool) (c : Option Nat) (l pre : List Int) : Env := [(30, v), (0, .c (.p (.tz z 1 (inP l) c))), (5, .c (.p (.tz z 1 (inP l) c))), (6, .c (.p (.int .i64 (inP l).length))), (7, .c (.p (.int .i64 pre.length)))]
theorem mayI_loop (z : Bool) (c : Option Nat) (l : List Int) (hl : l.length ≤ 1000000) (Q : QX) (hq : incB 0 l = true → Q (.exit 0) [(0, .c (.p (.tz z 1 (inP l) c)))] ⟨[], 0⟩) (hr : incB 0 l = false → Q .ret [(2, .c (.p (.bool false)))] ⟨[], 0⟩) :
    ∀ (rest pre : List Int), l = pre ++ rest → incB 0 pre = true → XH Try.prog base lMayI.1.n 0 (lMayI.1.c.lp 0) [(0, .c (.p (.tz z 1 (inP l) c))), (5, .c (.p (.tz z 1 (inP l) c))), (6, .c (.p (.int .i64 (inP l).length))), (7, .c (.p (.int .i64 pre.length)))] ⟨[], 0⟩ Q := by
  intro rest
  induction rest with
  | nil =>
    intro pre hp hm
    refine M.round (M.go rfl ?_)
    simp at hp
    subst hp
    refine M.cond rfl (fun hc => ?_) (fun hc => ?_)
    · rw [inPl] at hc; omega
    · refine M.ren [] ?_ trivial rfl (by repeat' (first | exact True.intro | refine ⟨⟨_, _, rfl, rfl, Wk.rfl⟩, ?_⟩ | refine ⟨⟨_, _, accV_ren rfl, rfl, Wk.rfl⟩, ?_⟩ | refine ⟨⟨_, _, accV_ren rfl, rfl, Wk.acc0⟩, ?_⟩ | refine ⟨⟨_, _, rfl, rfl, Wk.uncap⟩, ?_⟩ | refine ⟨⟨_, _, rfl, rfl, Wk.nil⟩, ?_⟩)) (by repeat' (first | exact True.intro | refine ⟨⟨_, _, _, rfl, rfl, rfl, WkO.rfl⟩, ?_⟩ | refine HeapOK.acc rfl rfl ?_ | refine HeapOK.es rfl rfl ?_)) (e' := [(0, .c (.p (.tz z 1 (inP l) c)))]) (h' := ⟨[], 0⟩)
      exact M.exit (M.go rfl (M.done (hq hm)))
  | cons b rest ih =>
    intro pre hp hm
    have hlen : (inP l).length = pre.length + (rest.length + 1) := by rw [hp, inPl]; simp
    have hll : pre.length + rest.length < 1000000 := by rw [hp] at hl; simp at hl; omega
    have hpos : 0 ≤ pre.getLast?.getD 0 := incB_last pre 0 hm
    refine M.round (M.go rfl ?_)
    refine M.cond rfl (fun hc => ?_) (fun hc => ?_)
    · refine M.go rfl ?_
      have hu : (inP l)[((pre.length : Int)).toNat]? = some (.int .i64 b) := by rw [hp]; exact at_app _ _ _ _
      refine M.op trivial (SOp.ia rfl rfl (by omega) hu) ?_
      refine M.op trivial (SOp.ld1e rfl hu rfl rfl rfl) ?_
      refine M.go rfl ?_
      obtain ⟨T, hT⟩ : ∃ T, T = (decide (pre.getLast?.getD 0 < b) && decide (b ≤ 7)) := ⟨_, rfl⟩
      have hmb : incB 0 l = (T && incB b rest) := by rw [hp, incB_app, hm, Bool.true_and, incB, hT]
      refine M.mid (mayIE (.c (.p (.bs (!T)))) z c l pre) ⟨[], 0⟩ ?_ ?_
      · refine M.dec rfl (fun h1 => ?_) (fun h1 => ?_)
        · exact M.go rfl (M.end [] rfl ⟨⟨_, _, rfl, rfl, Wk.b1 (by rw [hT, decide_eq_false (p := _ < b) (by omega)]; rfl)⟩, (by repeat' (first | exact True.intro | refine ⟨⟨_, _, rfl, rfl, Wk.rfl⟩, ?_⟩ | refine ⟨⟨_, _, accV_ren rfl, rfl, Wk.rfl⟩, ?_⟩ | refine ⟨⟨_, _, accV_ren rfl, rfl, Wk.acc0⟩, ?_⟩ | refine ⟨⟨_, _, rfl, rfl, Wk.uncap⟩, ?_⟩ | refine ⟨⟨_, _, rfl, rfl, Wk.nil⟩, ?_⟩))⟩ (by repeat' (first | exact True.intro | refine ⟨⟨_, _, _, rfl, rfl, rfl, WkO.rfl⟩, ?_⟩ | refine HeapOK.acc rfl rfl ?_ | refine HeapOK.es rfl rfl ?_)))
        · refine M.go rfl ?_
          refine M.dec rfl (fun h2 => ?_) (fun h2 => ?_)
          · exact M.go rfl (M.end [] rfl ⟨⟨_, _, rfl, rfl, Wk.b1 (by rw [hT, decide_eq_false (p := b ≤ 7) (by omega)]; simp)⟩, (by repeat' (first | exact True.intro | refine ⟨⟨_, _, rfl, rfl, Wk.rfl⟩, ?_⟩ | refine ⟨⟨_, _, accV_ren rfl, rfl, Wk.rfl⟩, ?_⟩ | refine ⟨⟨_, _, accV_ren rfl, rfl, Wk.acc0⟩, ?_⟩ | refine ⟨⟨_, _, rfl, rfl, Wk.uncap⟩, ?_⟩ | refine ⟨⟨_, _, rfl, rfl, Wk.nil⟩, ?_⟩))⟩ (by repeat' (first | exact True.intro | refine ⟨⟨_, _, _, rfl, rfl, rfl, WkO.rfl⟩, ?_⟩ | refine HeapOK.acc rfl rfl ?_ | refine HeapOK.es rfl rfl ?_)))
          · refine M.go rfl ?_
            have e2 : decide (b ≤ 7) = true := by simp; omega
            refine M.dec rfl (fun h3 => ?_) (fun h3 => ?_)
            · refine M.go rfl ?_
              obtain ⟨p0, q, rfl⟩ : ∃ p0 q, pre = p0 ++ [q] := ⟨_, _, (List.dropLast_concat_getLast (by rintro rfl; simp at h3)).symm⟩
              have hw : IntKind.i64.wrap (((p0 ++ [q]).length : Int) - 1) = p0.length := by
                rw [wr64 (by simp) (by simp at hll ⊢; omega)]; simp
              rw [hw]
              have hu' : (inP l)[((p0.length : Int)).toNat]? = some (.int .i64 q) := by rw [hp, List.append_assoc]; exact at_app _ _ _ _
              refine M.op rfl (SOp.ia rfl rfl (by omega) hu') ?_
              refine M.op rfl (SOp.ld1e rfl hu' rfl rfl rfl) ?_
              refine M.go rfl (M.end [] rfl ⟨⟨_, _, rfl, rfl, Wk.b2 ?_⟩, (by repeat' (first | exact True.intro | refine ⟨⟨_, _, rfl, rfl, Wk.rfl⟩, ?_⟩ | refine ⟨⟨_, _, accV_ren rfl, rfl, Wk.rfl⟩, ?_⟩ | refine ⟨⟨_, _, accV_ren rfl, rfl, Wk.acc0⟩, ?_⟩ | refine ⟨⟨_, _, rfl, rfl, Wk.uncap⟩, ?_⟩ | refine ⟨⟨_, _, rfl, rfl, Wk.nil⟩, ?_⟩))⟩ (by repeat' (first | exact True.intro | refine ⟨⟨_, _, _, rfl, rfl, rfl, WkO.rfl⟩, ?_⟩ | refine HeapOK.acc rfl rfl ?_ | refine HeapOK.es rfl rfl ?_)))
              have e1 : (p0 ++ [q]).getLast?.getD 0 = q := by simp
              rw [hT, e1, e2, Bool.and_true]
              by_cases hq : b ≤ q
              · rw [decide_eq_true (p := (b : Int) ≤ q) hq, decide_eq_false (p := q < b) (by omega)]; rfl
              · rw [decide_eq_false (p := (b : Int) ≤ q) hq, decide_eq_true (p := q < b) (by omega)]; rfl
            · refine M.go rfl (M.end [] rfl ⟨⟨_, _, rfl, rfl, Wk.b1 ?_⟩, (by repeat' (first | exact True.intro | refine ⟨⟨_, _, rfl, rfl, Wk.rfl⟩, ?_⟩ | refine ⟨⟨_, _, accV_ren rfl, rfl, Wk.rfl⟩, ?_⟩ | refine ⟨⟨_, _, accV_ren rfl, rfl, Wk.acc0⟩, ?_⟩ | refine ⟨⟨_, _, rfl, rfl, Wk.uncap⟩, ?_⟩ | refine ⟨⟨_, _, rfl, rfl, Wk.nil⟩, ?_⟩))⟩ (by repeat' (first | exact True.intro | refine ⟨⟨_, _, _, rfl, rfl, rfl, WkO.rfl⟩, ?_⟩ | refine HeapOK.acc rfl rfl ?_ | refine HeapOK.es rfl rfl ?_)))
              have : pre = [] := List.eq_nil_of_length_eq_zero (by omega)
              subst this
              rw [hT, e2, decide_eq_true (by simp; omega)]; rfl
      · refine M.go rfl ?_
        refine M.condB rfl (fun hc => ?_) (fun hc => ?_)
        · refine M.go rfl ?_
          refine M.ren [] ?_ trivial rfl (by repeat' (first | exact True.intro | refine ⟨⟨_, _, rfl, rfl, Wk.rfl⟩, ?_⟩ | refine ⟨⟨_, _, accV_ren rfl, rfl, Wk.rfl⟩, ?_⟩ | refine ⟨⟨_, _, accV_ren rfl, rfl, Wk.acc0⟩, ?_⟩ | refine ⟨⟨_, _, rfl, rfl, Wk.uncap⟩, ?_⟩ | refine ⟨⟨_, _, rfl, rfl, Wk.nil⟩, ?_⟩)) (by repeat' (first | exact True.intro | refine ⟨⟨_, _, _, rfl, rfl, rfl, WkO.rfl⟩, ?_⟩ | refine HeapOK.acc rfl rfl ?_ | refine HeapOK.es rfl rfl ?_)) (e' := [(2, .c (.p (.bool false)))]) (h' := ⟨[], 0⟩)
          exact M.ret (M.go rfl (M.done (hr (by rw [hmb]; rw [Bool.not_eq_true'] at hc; rw [hc]; rfl))))
        · refine M.go rfl ?_
          have hbb : T = true := by simpa using hc
          have ih' := ih (pre ++ [b]) (by rw [hp]; simp) (by rw [incB_app, hm, Bool.true_and, incB, incB, ← hT, hbb]; rfl)
          have hw2 : IntKind.i64.wrap ((pre.length : Int) + 1) = ((pre ++ [b]).length : Int) := by rw [wr64 (by omega) (by omega)]; simp
          rw [hw2]
          exact M.again (XH.ren [] ih' rfl (by repeat' (first | exact True.intro | refine ⟨⟨_, _, rfl, rfl, Wk.rfl⟩, ?_⟩ | refine ⟨⟨_, _, accV_ren rfl, rfl, Wk.rfl⟩, ?_⟩ | refine ⟨⟨_, _, accV_ren rfl, rfl, Wk.acc0⟩, ?_⟩ | refine ⟨⟨_, _, rfl, rfl, Wk.uncap⟩, ?_⟩ | refine ⟨⟨_, _, rfl, rfl, Wk.nil⟩, ?_⟩)) (by repeat' (first | exact True.intro | refine ⟨⟨_, _, _, rfl, rfl, rfl, WkO.rfl⟩, ?_⟩ | refine HeapOK.acc rfl rfl ?_ | refine HeapOK.es rfl rfl ?_)))
    · rw [hlen] at hc; omega
theorem mayI_spec (z : Bool) (c : Option Nat) (l : List Int) (hl : l.length ≤ 1000000) : CallS Try.prog base 20 [.c (.p (.tz z 1 (inP l) c))] ⟨[], 0⟩ (.c (.p (.bs (mayI l)))) ⟨[], 0⟩ := by
  refine CallS.of noNG lMayI.2 rfl (M.start (M.go rfl ?_))
  refine M.loop (XH.ren [] (mayI_loop z c l hl _ ?_ ?_ l [] rfl rfl) rfl (by repeat' (first | exact True.intro | refine ⟨⟨_, _, rfl, rfl, Wk.rfl⟩, ?_⟩ | refine ⟨⟨_, _, accV_ren rfl, rfl, Wk.rfl⟩, ?_⟩ | refine ⟨⟨_, _, accV_ren rfl, rfl, Wk.acc0⟩, ?_⟩ | refine ⟨⟨_, _, rfl, rfl, Wk.uncap⟩, ?_⟩ | refine ⟨⟨_, _, rfl, rfl, Wk.nil⟩, ?_⟩)) (by repeat' (first | exact True.intro | refine ⟨⟨_, _, _, rfl, rfl, rfl, WkO.rfl⟩, ?_⟩ | refine HeapOK.acc rfl rfl ?_ | refine HeapOK.es rfl rfl ?_)))
  · intro hm
    refine M.q (M.go rfl ?_)
    refine M.ret (M.go rfl (M.done (finQ.ret [] rfl rfl rfl (Wk.b1 ?_) (by repeat' (first | exact True.intro | refine ⟨⟨_, _, _, rfl, rfl, rfl, WkO.rfl⟩, ?_⟩ | refine HeapOK.acc rfl rfl ?_ | refine HeapOK.es rfl rfl ?_)))))
    rw [mayI, hm, inPl]
    cases l <;> simp
  · intro hm
    refine M.q (M.go rfl ?_)
    rw [mayI, hm]
    exact M.done (finQ.ret [] rfl rfl rfl (by first | exact Wk.rfl | exact Wk.uncap | exact Wk.nil | exact Wk.b1 rfl | exact Wk.t2 Wk.rfl (Wk.b1 rfl)) (by repeat' (first | exact True.intro | refine ⟨⟨_, _, _, rfl, rfl, rfl, WkO.rfl⟩, ?_⟩ | refine HeapOK.acc rfl rfl ?_ | refine HeapOK.es rfl rfl ?_)))
noncomputable def lMaj : {F : LF // lowerF Try.prog 14 = some F} := ⟨_, rfl⟩
def cnt (yes l : List Int) : Nat := l.countP fun x => decide (x ∈ yes)
theorem maj_loop (z zy : Bool) (c cy : Option Nat) (l yes : List Int) (hl : l.length ≤ 1000000) (hy : yes.length ≤ 1000000) (Q : QX) (hq : Q (.exit 0) [(0, .c (.p (.tz z 1 (inP l) c))), (5, .c (.p (.int .i64 (cnt yes l))))] ⟨[], 0⟩) :
    ∀ (rest pre : List Int), l = pre ++ rest → XH Try.prog base lMaj.1.n 0 (lMaj.1.c.lp 0) [(0, .c (.p (.tz z 1 (inP l) c))), (1, .c (.p (.tz zy 1 (inP yes) cy))), (8, .c (.p (.tz z 1 (inP l) c))), (9, .c (.p (.int .i64 (inP l).length))), (10, .c (.p (.int .i64 pre.length))), (5, .c (.p (.int .i64 (cnt yes pre))))] ⟨[], 0⟩ Q := by
  intro rest
  induction rest with
  | nil =>
    intro pre hp
    refine M.round (M.go rfl ?_)
    simp at hp
    subst hp
    refine M.cond rfl (fun hc => ?_) (fun hc => ?_)
    · rw [inPl] at hc; omega
    · refine M.ren [] ?_ trivial rfl (by repeat' (first | exact True.intro | refine ⟨⟨_, _, rfl, rfl, Wk.rfl⟩, ?_⟩ | refine ⟨⟨_, _, accV_ren rfl, rfl, Wk.rfl⟩, ?_⟩ | refine ⟨⟨_, _, accV_ren rfl, rfl, Wk.acc0⟩, ?_⟩ | refine ⟨⟨_, _, rfl, rfl, Wk.uncap⟩, ?_⟩ | refine ⟨⟨_, _, rfl, rfl, Wk.nil⟩, ?_⟩)) (by repeat' (first | exact True.intro | refine ⟨⟨_, _, _, rfl, rfl, rfl, WkO.rfl⟩, ?_⟩ | refine HeapOK.acc rfl rfl ?_ | refine HeapOK.es rfl rfl ?_)) (e' := [(0, .c (.p (.tz z 1 (inP l) c))), (5, .c (.p (.int .i64 (cnt yes l))))]) (h' := ⟨[], 0⟩)
      exact M.exit (M.go rfl (M.done hq))
  | cons b rest ih =>
    intro pre hp
    have hlen : (inP l).length = pre.length + (rest.length + 1) := by rw [hp, inPl]; simp
    have hll : pre.length + rest.length < 1000000 := by rw [hp] at hl; simp at hl; omega
    have hcn : cnt yes pre ≤ pre.length := List.countP_le_length
    have hw2 : IntKind.i64.wrap ((pre.length : Int) + 1) = ((pre ++ [b]).length : Int) := by rw [wr64 (by omega) (by omega)]; simp
    have ih' := ih (pre ++ [b]) (by rw [hp]; simp)
    have hca : cnt yes (pre ++ [b]) = cnt yes pre + (if b ∈ yes then 1 else 0) := by simp [cnt, List.countP_append, List.countP_cons]
    refine M.round (M.go rfl ?_)
    refine M.cond rfl (fun hc => ?_) (fun hc => ?_)
    · refine M.go rfl ?_
      have hu : (inP l)[((pre.length : Int)).toNat]? = some (.int .i64 b) := by rw [hp]; exact at_app _ _ _ _
      refine M.op trivial (SOp.ia rfl rfl (by omega) hu) ?_
      refine M.op trivial (SOp.ld1e rfl hu rfl rfl rfl) ?_
      refine M.go rfl ?_
      refine M.use0 trivial (has_spec zy cy yes b hy) rfl rfl rfl ?_
      refine M.go rfl ?_
      refine M.cond rfl (fun hb => ?_) (fun hb => ?_)
      · refine M.go rfl ?_
        rw [hw2, show IntKind.i64.wrap ((cnt yes pre : Int) + 1) = ((cnt yes (pre ++ [b]) : Nat) : Int) by rw [wr64 (by omega) (by omega), hca, if_pos hb]; simp]
        exact M.again (XH.ren [] ih' rfl (by repeat' (first | exact True.intro | refine ⟨⟨_, _, rfl, rfl, Wk.rfl⟩, ?_⟩ | refine ⟨⟨_, _, accV_ren rfl, rfl, Wk.rfl⟩, ?_⟩ | refine ⟨⟨_, _, accV_ren rfl, rfl, Wk.acc0⟩, ?_⟩ | refine ⟨⟨_, _, rfl, rfl, Wk.uncap⟩, ?_⟩ | refine ⟨⟨_, _, rfl, rfl, Wk.nil⟩, ?_⟩)) (by repeat' (first | exact True.intro | refine ⟨⟨_, _, _, rfl, rfl, rfl, WkO.rfl⟩, ?_⟩ | refine HeapOK.acc rfl rfl ?_ | refine HeapOK.es rfl rfl ?_)))
      · refine M.go rfl ?_
        rw [hca, if_neg hb, Nat.add_zero] at ih'
        rw [hw2]
        exact M.again (XH.ren [] ih' rfl (by repeat' (first | exact True.intro | refine ⟨⟨_, _, rfl, rfl, Wk.rfl⟩, ?_⟩ | refine ⟨⟨_, _, accV_ren rfl, rfl, Wk.rfl⟩, ?_⟩ | refine ⟨⟨_, _, accV_ren rfl, rfl, Wk.acc0⟩, ?_⟩ | refine ⟨⟨_, _, rfl, rfl, Wk.uncap⟩, ?_⟩ | refine ⟨⟨_, _, rfl, rfl, Wk.nil⟩, ?_⟩)) (by repeat' (first | exact True.intro | refine ⟨⟨_, _, _, rfl, rfl, rfl, WkO.rfl⟩, ?_⟩ | refine HeapOK.acc rfl rfl ?_ | refine HeapOK.es rfl rfl ?_)))
    · rw [hlen] at hc; omega
def majI (l yes : List Int) : Bool := decide (l.length < 2 * cnt yes l)
theorem maj_spec (z zy : Bool) (c cy : Option Nat) (l yes : List Int) (hl : l.length ≤ 1000000) (hy : yes.length ≤ 1000000) : CallS Try.prog base 14 [.c (.p (.tz z 1 (inP l) c)), .c (.p (.tz zy 1 (inP yes) cy))] ⟨[], 0⟩ (.c (.p (.bs (majI l yes)))) ⟨[], 0⟩ := by
  refine CallS.of noNG lMaj.2 rfl (M.start (M.go rfl ?_))
  refine M.loop (XH.ren [] (maj_loop z zy c cy l yes hl hy _ ?_ l [] rfl) rfl (by repeat' (first | exact True.intro | refine ⟨⟨_, _, rfl, rfl, Wk.rfl⟩, ?_⟩ | refine ⟨⟨_, _, accV_ren rfl, rfl, Wk.rfl⟩, ?_⟩ | refine ⟨⟨_, _, accV_ren rfl, rfl, Wk.acc0⟩, ?_⟩ | refine ⟨⟨_, _, rfl, rfl, Wk.uncap⟩, ?_⟩ | refine ⟨⟨_, _, rfl, rfl, Wk.nil⟩, ?_⟩)) (by repeat' (first | exact True.intro | refine ⟨⟨_, _, _, rfl, rfl, rfl, WkO.rfl⟩, ?_⟩ | refine HeapOK.acc rfl rfl ?_ | refine HeapOK.es rfl rfl ?_)))
  refine M.q (M.go rfl ?_)
  have hcn : cnt yes l ≤ l.length := List.countP_le_length
  refine M.ret (M.go rfl (M.done (finQ.ret [] rfl rfl rfl (Wk.b1 ?_) (by repeat' (first | exact True.intro | refine ⟨⟨_, _, _, rfl, rfl, rfl, WkO.rfl⟩, ?_⟩ | refine HeapOK.acc rfl rfl ?_ | refine HeapOK.es rfl rfl ?_)))))
  rw [majI, wr64 (by omega) (by omega), inPl]
  exact decide_eq_decide.2 (by omega)
noncomputable def lStep : {F : LF // lowerF Try.prog 16 = some F} := ⟨_, rfl⟩
def ct (p : Int → Bool) : Nat → Nat
  | 0 => 0
  | k + 1 => ct p k + (p ((k : Int) + 1)).toNat
def dif (a b : List Int) (i : Int) : Bool := !(decide (i ∈ a) == decide (i ∈ b))
theorem ct_le (p : Int → Bool) : ∀ k, ct p k ≤ k
  | 0 => Nat.le_refl _
  | k + 1 => by have := ct_le p k; have h2 : (p ((k : Int) + 1)).toNat ≤ 1 := Bool.toNat_le _; simp only [ct]; omega
theorem step_loop (za zb : Bool) (ca cb : Option Nat) (a b : List Int) (ha : a.length ≤ 1000000) (hb : b.length ≤ 1000000) (Q : QX) (hq : Q (.exit 0) [(0, .c (.p (.tz za 1 (inP a) ca))), (1, .c (.p (.tz zb 1 (inP b) cb))), (5, .c (.p (.int .i64 (ct (dif a b) 7))))] ⟨[], 0⟩) :
    ∀ (rem k : Nat), k + rem = 7 → XH Try.prog base lStep.1.n 0 (lStep.1.c.lp 0) [(6, .c (.p (.int .i64 ((k : Int) + 1)))), (5, .c (.p (.int .i64 (ct (dif a b) k)))), (0, .c (.p (.tz za 1 (inP a) ca))), (1, .c (.p (.tz zb 1 (inP b) cb)))] ⟨[], 0⟩ Q := by
  intro rem
  induction rem with
  | zero =>
    intro k hk
    obtain rfl : k = 7 := by omega
    refine M.round (M.go rfl ?_)
    refine M.cond rfl (fun hc => absurd hc (by decide)) (fun hc => ?_)
    refine M.ren [] ?_ trivial rfl (by repeat' (first | exact True.intro | refine ⟨⟨_, _, rfl, rfl, Wk.rfl⟩, ?_⟩ | refine ⟨⟨_, _, accV_ren rfl, rfl, Wk.rfl⟩, ?_⟩ | refine ⟨⟨_, _, accV_ren rfl, rfl, Wk.acc0⟩, ?_⟩ | refine ⟨⟨_, _, rfl, rfl, Wk.uncap⟩, ?_⟩ | refine ⟨⟨_, _, rfl, rfl, Wk.nil⟩, ?_⟩)) (by repeat' (first | exact True.intro | refine ⟨⟨_, _, _, rfl, rfl, rfl, WkO.rfl⟩, ?_⟩ | refine HeapOK.acc rfl rfl ?_ | refine HeapOK.es rfl rfl ?_)) (e' := [(0, .c (.p (.tz za 1 (inP a) ca))), (1, .c (.p (.tz zb 1 (inP b) cb))), (5, .c (.p (.int .i64 (ct (dif a b) 7))))]) (h' := ⟨[], 0⟩)
    exact M.exit (M.go rfl (M.done hq))
  | succ rem ih =>
    intro k hk
    have ih' := ih (k + 1) (by omega)
    have hle := ct_le (dif a b) k
    refine M.round (M.go rfl ?_)
    refine M.cond rfl (fun hc => ?_) (fun hc => absurd (by omega) hc)
    refine M.go rfl ?_
    refine M.use0 trivial (has_spec za ca a ((k : Int) + 1) ha) rfl rfl rfl ?_
    refine M.go rfl ?_
    refine M.use0 trivial (has_spec zb cb b ((k : Int) + 1) hb) rfl rfl rfl ?_
    refine M.go rfl ?_
    have hw2 : IntKind.i64.wrap ((k : Int) + 1 + 1) = ((k + 1 : Nat) : Int) + 1 := by rw [wr64 (by omega) (by omega)]; omega
    refine M.condB rfl (fun hd => ?_) (fun hd => ?_)
    · refine M.go rfl ?_
      have h1 : ct (dif a b) (k + 1) = ct (dif a b) k + 1 := by simp only [ct]; rw [show dif a b ((k : Int) + 1) = true from hd]; rfl
      rw [hw2, show IntKind.i64.wrap ((ct (dif a b) k : Int) + 1) = ((ct (dif a b) (k + 1) : Nat) : Int) by rw [wr64 (by omega) (by omega), h1]; omega]
      exact M.again (XH.ren [] ih' rfl (by repeat' (first | exact True.intro | refine ⟨⟨_, _, rfl, rfl, Wk.rfl⟩, ?_⟩ | refine ⟨⟨_, _, accV_ren rfl, rfl, Wk.rfl⟩, ?_⟩ | refine ⟨⟨_, _, accV_ren rfl, rfl, Wk.acc0⟩, ?_⟩ | refine ⟨⟨_, _, rfl, rfl, Wk.uncap⟩, ?_⟩ | refine ⟨⟨_, _, rfl, rfl, Wk.nil⟩, ?_⟩)) (by repeat' (first | exact True.intro | refine ⟨⟨_, _, _, rfl, rfl, rfl, WkO.rfl⟩, ?_⟩ | refine HeapOK.acc rfl rfl ?_ | refine HeapOK.es rfl rfl ?_)))
    · refine M.go rfl ?_
      have h1 : ct (dif a b) (k + 1) = ct (dif a b) k := by simp only [ct]; rw [show dif a b ((k : Int) + 1) = false from hd]; rfl
      rw [h1] at ih'
      rw [hw2]
      exact M.again (XH.ren [] ih' rfl (by repeat' (first | exact True.intro | refine ⟨⟨_, _, rfl, rfl, Wk.rfl⟩, ?_⟩ | refine ⟨⟨_, _, accV_ren rfl, rfl, Wk.rfl⟩, ?_⟩ | refine ⟨⟨_, _, accV_ren rfl, rfl, Wk.acc0⟩, ?_⟩ | refine ⟨⟨_, _, rfl, rfl, Wk.uncap⟩, ?_⟩ | refine ⟨⟨_, _, rfl, rfl, Wk.nil⟩, ?_⟩)) (by repeat' (first | exact True.intro | refine ⟨⟨_, _, _, rfl, rfl, rfl, WkO.rfl⟩, ?_⟩ | refine HeapOK.acc rfl rfl ?_ | refine HeapOK.es rfl rfl ?_)))
def stepI (a b : List Int) : Bool := mayI a && (mayI b && decide (ct (dif a b) 7 = 1))
theorem step_spec (za zb : Bool) (ca cb : Option Nat) (a b : List Int) (ha : a.length ≤ 1000000) (hb : b.length ≤ 1000000) : CallS Try.prog base 16 [.c (.p (.tz za 1 (inP a) ca)), .c (.p (.tz zb 1 (inP b) cb))] ⟨[], 0⟩ (.c (.p (.bs (stepI a b)))) ⟨[], 0⟩ := by
  refine CallS.of noNG lStep.2 rfl (M.start (M.go rfl ?_))
  refine M.loop (XH.ren [] (step_loop za zb ca cb a b ha hb _ ?_ 7 0 rfl) rfl (by repeat' (first | exact True.intro | refine ⟨⟨_, _, rfl, rfl, Wk.rfl⟩, ?_⟩ | refine ⟨⟨_, _, accV_ren rfl, rfl, Wk.rfl⟩, ?_⟩ | refine ⟨⟨_, _, accV_ren rfl, rfl, Wk.acc0⟩, ?_⟩ | refine ⟨⟨_, _, rfl, rfl, Wk.uncap⟩, ?_⟩ | refine ⟨⟨_, _, rfl, rfl, Wk.nil⟩, ?_⟩)) (by repeat' (first | exact True.intro | refine ⟨⟨_, _, _, rfl, rfl, rfl, WkO.rfl⟩, ?_⟩ | refine HeapOK.acc rfl rfl ?_ | refine HeapOK.es rfl rfl ?_)))
  refine M.q (M.go rfl ?_)
  refine M.use0 trivial (mayI_spec za ca a ha) rfl rfl rfl ?_
  refine M.go rfl ?_
  refine M.decB rfl (fun h1 => ?_) (fun h1 => ?_)
  · refine M.go rfl ?_
    refine M.use0 rfl (mayI_spec zb cb b hb) rfl rfl rfl ?_
    refine M.go rfl ?_
    refine M.decB rfl (fun h2 => ?_) (fun h2 => ?_)
    · refine M.go rfl ?_
      refine M.ret (M.go rfl (M.done (finQ.ret [] rfl rfl rfl (Wk.b1 ?_) (by repeat' (first | exact True.intro | refine ⟨⟨_, _, _, rfl, rfl, rfl, WkO.rfl⟩, ?_⟩ | refine HeapOK.acc rfl rfl ?_ | refine HeapOK.es rfl rfl ?_)))))
      rw [stepI, h1, h2]
      simp only [Bool.true_and]
      exact decide_eq_decide.2 (by omega)
    · refine M.go rfl ?_
      refine M.ret (M.go rfl (M.done (finQ.ret [] rfl rfl rfl (Wk.of ?_) (by repeat' (first | exact True.intro | refine ⟨⟨_, _, _, rfl, rfl, rfl, WkO.rfl⟩, ?_⟩ | refine HeapOK.acc rfl rfl ?_ | refine HeapOK.es rfl rfl ?_)))))
      rw [stepI, h1, h2]; rfl
  · refine M.go rfl ?_
    refine M.ret (M.go rfl (M.done (finQ.ret [] rfl rfl rfl (Wk.of ?_) (by repeat' (first | exact True.intro | refine ⟨⟨_, _, _, rfl, rfl, rfl, WkO.rfl⟩, ?_⟩ | refine HeapOK.acc rfl rfl ?_ | refine HeapOK.es rfl rfl ?_)))))
    rw [stepI, h1]; rfl
end Go.Proofs.Ytgaaffanoegbhaa
