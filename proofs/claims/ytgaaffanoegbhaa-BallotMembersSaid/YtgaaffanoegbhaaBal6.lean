/- Members as bytes, one step: the document's and ballot's. -/
import Derived.Test.YtgaaffanoegbhaaBal5
namespace Go.Proofs.Ytgaaffanoegbhaa
open Go.RowKit Sim Go Sym
set_option maxRecDepth 100000
set_option linter.unusedVariables false
set_option linter.unusedSimpArgs false
variable {base : Nat}
theorem wru8 {n : Int} (h : 0 ≤ n) (h' : n < 256) : IntKind.u8.wrap n = n := by
  have hs : IntKind.u8.signed = false := rfl
  have hb : IntKind.u8.bits = 8 := rfl
  unfold IntKind.wrap
  simp only [hs, hb, Bool.false_and]
  simp
  omega
def nI (l : List Nat) : List Int := l.map fun (b : Nat) => (b : Int)
def selI (l : List Int) : List Int := if mayI l = true then l else []
def okY (l : List Nat) : Prop := l.length ≤ 100000 ∧ ∀ b ∈ l, b < 256
theorem byPl (l : List Nat) : (byP l).length = l.length := by simp [byP]
noncomputable def lMbs : {F : LF // lowerF Try.prog 19 = some F} := ⟨_, rfl⟩
theorem mbs_loop (z : Bool) (c : Option Nat) (l : List Nat) (hl : okY l) (Q : QX) (hq : Q (.exit 0) [(3, accV 0 1 (inP (nI l)))] ⟨[(0, accO 1 (inP (nI l)))], 1⟩) :
    ∀ (rest pre : List Nat), l = pre ++ rest → XH Try.prog base lMbs.1.n 0 (lMbs.1.c.lp 0) [(6, .c (.p (.tz z 1 (byP l) c))), (7, .c (.p (.int .i64 (byP l).length))), (8, .c (.p (.int .i64 pre.length))), (3, accV 0 1 (inP (nI pre)))] ⟨[(0, accO 1 (inP (nI pre)))], 1⟩ Q := by
  intro rest
  induction rest with
  | nil =>
    intro pre hp
    refine M.round (M.go rfl ?_)
    simp at hp
    subst hp
    refine M.cond rfl (fun hc => ?_) (fun hc => ?_)
    · rw [byPl] at hc; omega
    · refine M.ren [(0, 0)] ?_ trivial rfl (by repeat' (first | exact True.intro | refine ⟨⟨_, _, rfl, rfl, Wk.rfl⟩, ?_⟩ | refine ⟨⟨_, _, accV_ren rfl, rfl, Wk.rfl⟩, ?_⟩ | refine ⟨⟨_, _, accV_ren rfl, rfl, Wk.acc0⟩, ?_⟩ | refine ⟨⟨_, _, rfl, rfl, Wk.uncap⟩, ?_⟩ | refine ⟨⟨_, _, rfl, rfl, Wk.nil⟩, ?_⟩)) (by repeat' (first | exact True.intro | refine ⟨⟨_, _, _, rfl, rfl, rfl, WkO.rfl⟩, ?_⟩ | refine HeapOK.acc rfl rfl ?_)) (e' := [(3, accV 0 1 (inP (nI l)))]) (h' := ⟨[(0, accO 1 (inP (nI l)))], 1⟩)
      exact M.exit (M.go rfl (M.done hq))
  | cons b rest ih =>
    intro pre hp
    have hbl : b < 256 := hl.2 b (by rw [hp]; simp)
    have hlen : (byP l).length = pre.length + (rest.length + 1) := by rw [hp, byPl]; simp
    have hll : pre.length + rest.length < 100000 := by have := hl.1; rw [hp] at this; simp at this; omega
    have ih' := ih (pre ++ [b]) (by rw [hp]; simp)
    rw [show inP (nI (pre ++ [b])) = inP (nI pre) ++ [.int .i64 b] by simp [nI, inP]] at ih'
    refine M.round (M.go rfl ?_)
    refine M.cond rfl (fun hc => ?_) (fun hc => ?_)
    · refine M.go rfl ?_
      have hu : (byP l)[((pre.length : Int)).toNat]? = some (.int .u8 b) := by rw [hp]; exact at_app _ _ _ _
      refine M.op trivial (SOp.ia rfl rfl (by omega) hu) ?_
      refine M.op trivial (SOp.ld1e rfl hu rfl rfl rfl) ?_
      refine M.go rfl ?_
      rw [show IntKind.i64.wrap (b : Int) = b from wr64 (by omega) (by omega)]
      refine M.acc trivial rfl rfl rfl (.own rfl rfl) (by simp) (by simp [nI, inP]; omega) ?_
      refine M.go rfl ?_
      rw [show IntKind.i64.wrap ((pre.length : Int) + 1) = ((pre ++ [b]).length : Int) by rw [wr64 (by omega) (by omega)]; simp]
      exact M.again (XH.ren [(0, 2)] ih' rfl (by repeat' (first | exact True.intro | refine ⟨⟨_, _, rfl, rfl, Wk.rfl⟩, ?_⟩ | refine ⟨⟨_, _, accV_ren rfl, rfl, Wk.rfl⟩, ?_⟩ | refine ⟨⟨_, _, accV_ren rfl, rfl, Wk.acc0⟩, ?_⟩ | refine ⟨⟨_, _, rfl, rfl, Wk.uncap⟩, ?_⟩ | refine ⟨⟨_, _, rfl, rfl, Wk.nil⟩, ?_⟩)) (by repeat' (first | exact True.intro | refine ⟨⟨_, _, _, rfl, rfl, rfl, WkO.rfl⟩, ?_⟩ | refine HeapOK.acc rfl rfl ?_)))
    · rw [hlen] at hc; omega
theorem mbs_spec (z : Bool) (c : Option Nat) (l : List Nat) (hl : okY l) : CallS Try.prog base 19 [.c (.p (.tz z 1 (byP l) c))] ⟨[], 0⟩ (.c (.p (.tz true 1 (inP (selI (nI l))) none))) ⟨[], 0⟩ := by
  refine CallS.of noNG lMbs.2 rfl (M.start (M.go rfl ?_))
  refine M.loop (XH.ren [(0, 0)] (mbs_loop z c l hl _ ?_ l [] rfl) rfl (by repeat' (first | exact True.intro | refine ⟨⟨_, _, rfl, rfl, Wk.rfl⟩, ?_⟩ | refine ⟨⟨_, _, accV_ren rfl, rfl, Wk.rfl⟩, ?_⟩ | refine ⟨⟨_, _, accV_ren rfl, rfl, Wk.acc0⟩, ?_⟩ | refine ⟨⟨_, _, rfl, rfl, Wk.uncap⟩, ?_⟩ | refine ⟨⟨_, _, rfl, rfl, Wk.nil⟩, ?_⟩)) (by repeat' (first | exact True.intro | refine ⟨⟨_, _, _, rfl, rfl, rfl, WkO.rfl⟩, ?_⟩ | refine HeapOK.acc rfl rfl ?_)))
  refine M.q (M.goN 2 rfl ?_)
  refine M.accF (i := 3) rfl rfl ?_
  refine M.go rfl ?_
  refine M.use0 trivial (mayI_spec true none (nI l) (by have := hl.1; simp [nI]; omega)) rfl rfl rfl ?_
  refine M.go rfl ?_
  refine M.condB rfl (fun h => ?_) (fun h => ?_)
  · refine M.go rfl ?_
    rw [selI, if_neg (by simpa using h)]
    exact M.ret (M.go rfl (M.done (finQ.ret [] rfl rfl rfl Wk.nil (by repeat' (first | exact True.intro | refine ⟨⟨_, _, _, rfl, rfl, rfl, WkO.rfl⟩, ?_⟩ | refine HeapOK.acc rfl rfl ?_)))))
  · refine M.go rfl ?_
    rw [selI, if_pos (by simpa using h)]
    exact M.ret (M.go rfl (M.done (finQ.ret [] rfl rfl rfl (by first | exact Wk.rfl | exact Wk.uncap | exact Wk.nil | exact Wk.b1 rfl | exact Wk.t2 Wk.rfl (Wk.b1 rfl)) (by repeat' (first | exact True.intro | refine ⟨⟨_, _, _, rfl, rfl, rfl, WkO.rfl⟩, ?_⟩ | refine HeapOK.acc rfl rfl ?_)))))
noncomputable def lIds : {F : LF // lowerF Try.prog 23 = some F} := ⟨_, rfl⟩
theorem ids_loop (z : Bool) (c : Option Nat) (l : List Nat) (hl : okY l) (Q : QX) (hq : Q (.exit 0) [(3, accV 0 1 (inP (nI (l.take 8))))] ⟨[(0, accO 1 (inP (nI (l.take 8))))], 1⟩) :
    ∀ (rest pre : List Nat), l = pre ++ rest → pre.length ≤ 8 → XH Try.prog base lIds.1.n 0 (lIds.1.c.lp 0) [(0, .c (.p (.tz z 1 (byP l) c))), (4, .c (.p (.int .i64 pre.length))), (3, accV 0 1 (inP (nI pre)))] ⟨[(0, accO 1 (inP (nI pre)))], 1⟩ Q := by
  intro rest
  have out : ∀ pre : List Nat, l.take 8 = pre → Q (.exit 0) [(3, accV 0 1 (inP (nI pre)))] ⟨[(0, accO 1 (inP (nI pre)))], 1⟩ := fun pre h => by rw [← h]; exact hq
  induction rest with
  | nil =>
    intro pre hp h8
    have hlen : (byP l).length = pre.length := by rw [hp, byPl]; simp
    refine M.round (M.go rfl ?_)
    refine M.dec rfl (fun hc => absurd hc (by rw [hlen]; omega)) (fun hc => ?_)
    refine M.go rfl ?_
    refine M.ren [(0, 0)] ?_ trivial rfl (by repeat' (first | exact True.intro | refine ⟨⟨_, _, rfl, rfl, Wk.rfl⟩, ?_⟩ | refine ⟨⟨_, _, accV_ren rfl, rfl, Wk.rfl⟩, ?_⟩ | refine ⟨⟨_, _, accV_ren rfl, rfl, Wk.acc0⟩, ?_⟩ | refine ⟨⟨_, _, rfl, rfl, Wk.uncap⟩, ?_⟩ | refine ⟨⟨_, _, rfl, rfl, Wk.nil⟩, ?_⟩)) (by repeat' (first | exact True.intro | refine ⟨⟨_, _, _, rfl, rfl, rfl, WkO.rfl⟩, ?_⟩ | refine HeapOK.acc rfl rfl ?_)) (e' := [(3, accV 0 1 (inP (nI pre)))]) (h' := ⟨[(0, accO 1 (inP (nI pre)))], 1⟩)
    exact M.exit (M.go rfl (M.done (out pre (by rw [hp, List.append_nil, List.take_of_length_le h8]))))
  | cons b rest ih =>
    intro pre hp h8
    have hbl : b < 256 := hl.2 b (by rw [hp]; simp)
    have hlen : (byP l).length = pre.length + (rest.length + 1) := by rw [hp, byPl]; simp
    refine M.round (M.go rfl ?_)
    refine M.dec rfl (fun hc => ?_) (fun hc => absurd (by rw [hlen]; omega) hc)
    refine M.go rfl ?_
    refine M.cond rfl (fun hc => ?_) (fun hc => ?_)
    · refine M.go rfl ?_
      have ih' := ih (pre ++ [b]) (by rw [hp]; simp) (by simp; omega)
      rw [show inP (nI (pre ++ [b])) = inP (nI pre) ++ [.int .i64 b] by simp [nI, inP]] at ih'
      have hu : (byP l)[((pre.length : Int)).toNat]? = some (.int .u8 b) := by rw [hp]; exact at_app _ _ _ _
      refine M.op trivial (SOp.ia rfl rfl (by omega) hu) ?_
      refine M.op trivial (SOp.ld1e rfl hu rfl rfl rfl) ?_
      refine M.go rfl ?_
      rw [show IntKind.i64.wrap (b : Int) = b from wr64 (by omega) (by omega)]
      refine M.acc trivial rfl rfl rfl (.own rfl rfl) (by simp) (by simp [nI, inP]; omega) ?_
      refine M.go rfl ?_
      rw [show IntKind.i64.wrap ((pre.length : Int) + 1) = ((pre ++ [b]).length : Int) by rw [wr64 (by omega) (by omega)]; simp]
      exact M.again (XH.ren [(0, 2)] ih' rfl (by repeat' (first | exact True.intro | refine ⟨⟨_, _, rfl, rfl, Wk.rfl⟩, ?_⟩ | refine ⟨⟨_, _, accV_ren rfl, rfl, Wk.rfl⟩, ?_⟩ | refine ⟨⟨_, _, accV_ren rfl, rfl, Wk.acc0⟩, ?_⟩ | refine ⟨⟨_, _, rfl, rfl, Wk.uncap⟩, ?_⟩ | refine ⟨⟨_, _, rfl, rfl, Wk.nil⟩, ?_⟩)) (by repeat' (first | exact True.intro | refine ⟨⟨_, _, _, rfl, rfl, rfl, WkO.rfl⟩, ?_⟩ | refine HeapOK.acc rfl rfl ?_)))
    · refine M.ren [(0, 0)] ?_ trivial rfl (by repeat' (first | exact True.intro | refine ⟨⟨_, _, rfl, rfl, Wk.rfl⟩, ?_⟩ | refine ⟨⟨_, _, accV_ren rfl, rfl, Wk.rfl⟩, ?_⟩ | refine ⟨⟨_, _, accV_ren rfl, rfl, Wk.acc0⟩, ?_⟩ | refine ⟨⟨_, _, rfl, rfl, Wk.uncap⟩, ?_⟩ | refine ⟨⟨_, _, rfl, rfl, Wk.nil⟩, ?_⟩)) (by repeat' (first | exact True.intro | refine ⟨⟨_, _, _, rfl, rfl, rfl, WkO.rfl⟩, ?_⟩ | refine HeapOK.acc rfl rfl ?_)) (e' := [(3, accV 0 1 (inP (nI pre)))]) (h' := ⟨[(0, accO 1 (inP (nI pre)))], 1⟩)
      exact M.exit (M.go rfl (M.done (out pre (by rw [hp, List.take_append_of_le_length (by omega), List.take_of_length_le (by omega)]))))
theorem may8 (l : List Nat) : selI (nI (l.take 8)) = selI (nI l) := by
  by_cases h : l.length ≤ 8
  · rw [List.take_of_length_le h]
  · have key : ∀ m : List Nat, 7 < m.length → selI (nI m) = [] := fun m hm => by
      rw [selI, if_neg]
      intro hi
      simp only [mayI, Bool.and_eq_true] at hi
      have := incB_len (nI m) 0 (by decide) hi.1
      simp [nI] at this
      omega
    rw [key _ (by rw [List.length_take]; omega), key _ (by omega)]
theorem ids_spec (z : Bool) (c : Option Nat) (l : List Nat) (hl : okY l) : CallS Try.prog base 23 [.c (.p (.tz z 1 (byP l) c))] ⟨[], 0⟩ (.c (.p (.tz true 1 (inP (selI (nI l))) none))) ⟨[], 0⟩ := by
  rw [← may8]
  refine CallS.of noNG lIds.2 rfl (M.start (M.go rfl ?_))
  refine M.loop (XH.ren [(0, 0)] (ids_loop z c l hl _ ?_ l [] rfl (by simp)) rfl (by repeat' (first | exact True.intro | refine ⟨⟨_, _, rfl, rfl, Wk.rfl⟩, ?_⟩ | refine ⟨⟨_, _, accV_ren rfl, rfl, Wk.rfl⟩, ?_⟩ | refine ⟨⟨_, _, accV_ren rfl, rfl, Wk.acc0⟩, ?_⟩ | refine ⟨⟨_, _, rfl, rfl, Wk.uncap⟩, ?_⟩ | refine ⟨⟨_, _, rfl, rfl, Wk.nil⟩, ?_⟩)) (by repeat' (first | exact True.intro | refine ⟨⟨_, _, _, rfl, rfl, rfl, WkO.rfl⟩, ?_⟩ | refine HeapOK.acc rfl rfl ?_)))
  refine M.q (M.goN 2 rfl ?_)
  refine M.accF (i := 3) rfl rfl ?_
  refine M.go rfl ?_
  refine M.use0 trivial (mbr_spec true none (nI (l.take 8)) (by simp [nI]; omega)) rfl rfl rfl ?_
  refine M.go rfl ?_
  refine M.condB rfl (fun h => ?_) (fun h => ?_)
  · refine M.go rfl ?_
    rw [selI, if_neg (by simpa using h)]
    exact M.ret (M.go rfl (M.done (finQ.ret [] rfl rfl rfl Wk.nil (by repeat' (first | exact True.intro | refine ⟨⟨_, _, _, rfl, rfl, rfl, WkO.rfl⟩, ?_⟩ | refine HeapOK.acc rfl rfl ?_)))))
  · refine M.go rfl ?_
    rw [selI, if_pos (by simpa using h)]
    exact M.ret (M.go rfl (M.done (finQ.ret [] rfl rfl rfl (by first | exact Wk.rfl | exact Wk.uncap | exact Wk.nil | exact Wk.b1 rfl | exact Wk.t2 Wk.rfl (Wk.b1 rfl)) (by repeat' (first | exact True.intro | refine ⟨⟨_, _, _, rfl, rfl, rfl, WkO.rfl⟩, ?_⟩ | refine HeapOK.acc rfl rfl ?_)))))
end Go.Proofs.Ytgaaffanoegbhaa
