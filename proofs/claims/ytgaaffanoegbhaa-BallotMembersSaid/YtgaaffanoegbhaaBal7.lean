/- delphilaw21.BallotMembers. -/
import Derived.Test.YtgaaffanoegbhaaBal6
import Derived.Test.YtgaaffanoegbhaaArg
namespace Go.Proofs.Ytgaaffanoegbhaa
open Go.RowKit Sim Go Sym
set_option maxRecDepth 100000
set_option linter.unusedVariables false
set_option linter.unusedSimpArgs false
variable {base : Nat}
theorem u8_in (n : Int) : 0 ≤ IntKind.u8.wrap n ∧ IntKind.u8.wrap n < 256 := by
  have hs : IntKind.u8.signed = false := rfl
  have hb : IntKind.u8.bits = 8 := rfl
  unfold IntKind.wrap
  simp only [hs, hb, Bool.false_and]
  simp
  omega
def bN (l : List Int) : List Nat := l.map Int.toNat
def uN (l : List Int) : List Nat := l.map fun x => (IntKind.u8.wrap x).toNat
def bytI (l : List Int) : List Nat := if mayI l = true then bN l else []
noncomputable def lByt : {F : LF // lowerF Try.prog 18 = some F} := ⟨_, rfl⟩
theorem byt_loop (z : Bool) (c : Option Nat) (l : List Int) (hl : l.length ≤ 1000000) (hi : incB 0 l = true) (Q : QX) (hq : Q (.exit 0) [(3, accV 0 1 (byP (bN l)))] ⟨[(0, accO 1 (byP (bN l)))], 1⟩) :
    ∀ (rest pre : List Int), l = pre ++ rest → XH Try.prog base lByt.1.n 0 (lByt.1.c.lp 0) [(9, .c (.p (.tz z 1 (inP l) c))), (10, .c (.p (.int .i64 (inP l).length))), (11, .c (.p (.int .i64 pre.length))), (3, accV 0 1 (byP (bN pre)))] ⟨[(0, accO 1 (byP (bN pre)))], 1⟩ Q := by
  intro rest
  induction rest with
  | nil =>
    intro pre hp
    refine M.round (M.go rfl ?_)
    simp at hp
    subst hp
    refine M.cond rfl (fun hc => ?_) (fun hc => ?_)
    · rw [inPl] at hc; omega
    · refine M.ren [(0, 0)] ?_ trivial rfl (by repeat' (first | exact True.intro | refine ⟨⟨_, _, rfl, rfl, Wk.rfl⟩, ?_⟩ | refine ⟨⟨_, _, accV_ren rfl, rfl, Wk.rfl⟩, ?_⟩ | refine ⟨⟨_, _, accV_ren rfl, rfl, Wk.acc0⟩, ?_⟩ | refine ⟨⟨_, _, rfl, rfl, Wk.uncap⟩, ?_⟩ | refine ⟨⟨_, _, rfl, rfl, Wk.nil⟩, ?_⟩)) (by repeat' (first | exact True.intro | refine ⟨⟨_, _, _, rfl, rfl, rfl, WkO.rfl⟩, ?_⟩ | refine HeapOK.acc rfl rfl ?_)) (e' := [(3, accV 0 1 (byP (bN l)))]) (h' := ⟨[(0, accO 1 (byP (bN l)))], 1⟩)
      exact M.exit (M.go rfl (M.done hq))
  | cons b rest ih =>
    intro pre hp
    have hb := incB_gt l 0 hi b (by rw [hp]; simp)
    have hlen : (inP l).length = pre.length + (rest.length + 1) := by rw [hp, inPl]; simp
    have hll : pre.length + rest.length < 1000000 := by rw [hp] at hl; simp at hl; omega
    have ih' := ih (pre ++ [b]) (by rw [hp]; simp)
    rw [show byP (bN (pre ++ [b])) = byP (bN pre) ++ [.int .u8 (b.toNat : Nat)] by simp [bN, byP]] at ih'
    refine M.round (M.go rfl ?_)
    refine M.cond rfl (fun hc => ?_) (fun hc => ?_)
    · refine M.go rfl ?_
      have hu : (inP l)[((pre.length : Int)).toNat]? = some (.int .i64 b) := by rw [hp]; exact at_app _ _ _ _
      refine M.op trivial (SOp.ia rfl rfl (by omega) hu) ?_
      refine M.op trivial (SOp.ld1e rfl hu rfl rfl rfl) ?_
      refine M.go rfl ?_
      rw [show IntKind.u8.wrap b = ((b.toNat : Nat) : Int) by rw [wru8 (by omega) (by omega)]; omega]
      refine M.acc trivial rfl rfl rfl (.own rfl rfl) (by simp) (by simp [bN, byP]; omega) ?_
      refine M.go rfl ?_
      rw [show IntKind.i64.wrap ((pre.length : Int) + 1) = ((pre ++ [b]).length : Int) by rw [wr64 (by omega) (by omega)]; simp]
      exact M.again (XH.ren [(0, 2)] ih' rfl (by repeat' (first | exact True.intro | refine ⟨⟨_, _, rfl, rfl, Wk.rfl⟩, ?_⟩ | refine ⟨⟨_, _, accV_ren rfl, rfl, Wk.rfl⟩, ?_⟩ | refine ⟨⟨_, _, accV_ren rfl, rfl, Wk.acc0⟩, ?_⟩ | refine ⟨⟨_, _, rfl, rfl, Wk.uncap⟩, ?_⟩ | refine ⟨⟨_, _, rfl, rfl, Wk.nil⟩, ?_⟩)) (by repeat' (first | exact True.intro | refine ⟨⟨_, _, _, rfl, rfl, rfl, WkO.rfl⟩, ?_⟩ | refine HeapOK.acc rfl rfl ?_)))
    · rw [hlen] at hc; omega
theorem byt_spec (z : Bool) (c : Option Nat) (l : List Int) (hl : l.length ≤ 1000000) : CallS Try.prog base 18 [.c (.p (.tz z 1 (inP l) c))] ⟨[], 0⟩ (.c (.p (.tz true 1 (byP (bytI l)) none))) ⟨[], 0⟩ := by
  refine CallS.of noNG lByt.2 rfl (M.start (M.go rfl ?_))
  refine M.use0 trivial (mayI_spec z c l hl) rfl rfl rfl ?_
  refine M.go rfl ?_
  refine M.condB rfl (fun h => ?_) (fun h => ?_)
  · refine M.go rfl ?_
    rw [bytI, if_neg (by simpa using h)]
    exact M.ret (M.go rfl (M.done (finQ.ret [] rfl rfl rfl Wk.nil (by repeat' (first | exact True.intro | refine ⟨⟨_, _, _, rfl, rfl, rfl, WkO.rfl⟩, ?_⟩ | refine HeapOK.acc rfl rfl ?_)))))
  · refine M.go rfl ?_
    have hm : mayI l = true := by simpa using h
    rw [bytI, if_pos hm]
    simp only [mayI, Bool.and_eq_true] at hm
    refine M.loop (XH.ren [(0, 0)] (byt_loop z c l hl hm.1 _ ?_ l [] rfl) rfl (by repeat' (first | exact True.intro | refine ⟨⟨_, _, rfl, rfl, Wk.rfl⟩, ?_⟩ | refine ⟨⟨_, _, accV_ren rfl, rfl, Wk.rfl⟩, ?_⟩ | refine ⟨⟨_, _, accV_ren rfl, rfl, Wk.acc0⟩, ?_⟩ | refine ⟨⟨_, _, rfl, rfl, Wk.uncap⟩, ?_⟩ | refine ⟨⟨_, _, rfl, rfl, Wk.nil⟩, ?_⟩)) (by repeat' (first | exact True.intro | refine ⟨⟨_, _, _, rfl, rfl, rfl, WkO.rfl⟩, ?_⟩ | refine HeapOK.acc rfl rfl ?_)))
    refine M.q (M.goN 2 rfl ?_)
    refine M.accF (i := 3) rfl rfl ?_
    refine M.go rfl ?_
    exact M.ret (M.go rfl (M.done (finQ.ret [] rfl rfl rfl (by first | exact Wk.rfl | exact Wk.uncap | exact Wk.nil | exact Wk.b1 rfl | exact Wk.t2 Wk.rfl (Wk.b1 rfl)) (by repeat' (first | exact True.intro | refine ⟨⟨_, _, _, rfl, rfl, rfl, WkO.rfl⟩, ?_⟩ | refine HeapOK.acc rfl rfl ?_)))))
/-! One step. -/
def cntN (b l : List Int) : Nat := l.countP fun x => !decide (x ∈ b)
theorem ct_add (d p q : Int → Bool) (h : ∀ i, (d i).toNat = (p i).toNat + (q i).toNat) : ∀ k, ct d k = ct p k + ct q k
  | 0 => rfl
  | k + 1 => by have := ct_add d p q h k; have h2 := h ((k : Int) + 1); simp only [ct]; omega
theorem dif_cnt (a b : List Int) (ha : incB 0 a = true) (hb : incB 0 b = true) : ct (dif a b) 7 = cntN b a + cntN a b := by
  have e1 := ct_all (fun i => !decide (i ∈ b)) a ha
  have e2 := ct_all (fun i => !decide (i ∈ a)) b hb
  rw [cntN, cntN, ← e1, ← e2]
  refine ct_add _ _ _ (fun i => ?_) 7
  unfold dif
  by_cases g1 : i ∈ a <;> by_cases g2 : i ∈ b <;> simp [g1, g2]
noncomputable def lStR : {F : LF // lowerF Try.prog 21 = some F} := ⟨_, rfl⟩
theorem stA (za zb : Bool) (ca cb : Option Nat) (a b : List Int) (m0 : Nat) (h0 : m0 ≤ 1000000) (ha : a.length ≤ 1000000) (hb : b.length ≤ 1000000) (Q : QX) (hq : Q (.exit 0) [(0, .c (.p (.tz za 1 (inP a) ca))), (1, .c (.p (.tz zb 1 (inP b) cb))), (5, .c (.p (.int .i64 ((m0 + cntN b a : Nat) : Int))))] ⟨[], 0⟩) :
    ∀ (rest pre : List Int), a = pre ++ rest → XH Try.prog base lStR.1.n 0 (lStR.1.c.lp 0) [(0, .c (.p (.tz za 1 (inP a) ca))), (1, .c (.p (.tz zb 1 (inP b) cb))), (6, .c (.p (.int .i64 pre.length))), (5, .c (.p (.int .i64 ((m0 + cntN b pre : Nat) : Int))))] ⟨[], 0⟩ Q := by
  intro rest
  induction rest with
  | nil =>
    intro pre hp
    have hlen : (inP a).length = pre.length := by rw [hp, inPl]; simp
    have hpe : cntN b a = cntN b pre := by rw [hp, List.append_nil]
    rw [hpe] at hq
    refine M.round (M.go rfl ?_)
    refine M.cond rfl (fun hc => absurd hc (by rw [hlen]; omega)) (fun hc => ?_)
    refine M.ren [] ?_ trivial rfl (by repeat' (first | exact True.intro | refine ⟨⟨_, _, rfl, rfl, Wk.rfl⟩, ?_⟩ | refine ⟨⟨_, _, accV_ren rfl, rfl, Wk.rfl⟩, ?_⟩ | refine ⟨⟨_, _, accV_ren rfl, rfl, Wk.acc0⟩, ?_⟩ | refine ⟨⟨_, _, rfl, rfl, Wk.uncap⟩, ?_⟩ | refine ⟨⟨_, _, rfl, rfl, Wk.nil⟩, ?_⟩)) (by repeat' (first | exact True.intro | refine ⟨⟨_, _, _, rfl, rfl, rfl, WkO.rfl⟩, ?_⟩ | refine HeapOK.acc rfl rfl ?_)) (e' := [(0, .c (.p (.tz za 1 (inP a) ca))), (1, .c (.p (.tz zb 1 (inP b) cb))), (5, .c (.p (.int .i64 ((m0 + cntN b pre : Nat) : Int))))]) (h' := ⟨[], 0⟩)
    exact M.exit (M.go rfl (M.done hq))
  | cons v rest ih =>
    intro pre hp
    have hlen : (inP a).length = pre.length + (rest.length + 1) := by rw [hp, inPl]; simp
    have hll : pre.length + rest.length < 1000000 := by have h := ha; rw [hp] at h; simp at h; omega
    have hcn : cntN b pre ≤ pre.length := List.countP_le_length
    have hw2 : IntKind.i64.wrap ((pre.length : Int) + 1) = ((pre ++ [v]).length : Int) := by rw [wr64 (by omega) (by omega)]; simp
    have ih' := ih (pre ++ [v]) (by rw [hp]; simp)
    have hca : cntN b (pre ++ [v]) = cntN b pre + (if v ∈ b then 0 else 1) := by by_cases g : v ∈ b <;> simp [cntN, List.countP_append, List.countP_cons, g]
    have hu : (inP a)[((pre.length : Int)).toNat]? = some (.int .i64 v) := by rw [hp]; exact at_app _ _ _ _
    refine M.round (M.go rfl ?_)
    refine M.cond rfl (fun hc => ?_) (fun hc => absurd (by rw [hlen]; omega) hc)
    refine M.go rfl ?_
    refine M.op trivial (SOp.ia rfl rfl (by omega) hu) ?_
    refine M.op trivial (SOp.ld1e rfl hu rfl rfl rfl) ?_
    refine M.go rfl ?_
    refine M.use0 trivial (in_spec zb cb b v hb) rfl rfl rfl ?_
    refine M.go rfl ?_
    refine M.condN rfl (fun g => ?_) (fun g => ?_)
    · refine M.go rfl ?_
      rw [hw2, show IntKind.i64.wrap (((m0 + cntN b pre : Nat) : Int) + 1) = ((m0 + cntN b (pre ++ [v]) : Nat) : Int) by rw [wr64 (by omega) (by omega), hca, if_neg g]; omega]
      exact M.again (XH.ren [] ih' rfl (by repeat' (first | exact True.intro | refine ⟨⟨_, _, rfl, rfl, Wk.rfl⟩, ?_⟩ | refine ⟨⟨_, _, accV_ren rfl, rfl, Wk.rfl⟩, ?_⟩ | refine ⟨⟨_, _, accV_ren rfl, rfl, Wk.acc0⟩, ?_⟩ | refine ⟨⟨_, _, rfl, rfl, Wk.uncap⟩, ?_⟩ | refine ⟨⟨_, _, rfl, rfl, Wk.nil⟩, ?_⟩)) (by repeat' (first | exact True.intro | refine ⟨⟨_, _, _, rfl, rfl, rfl, WkO.rfl⟩, ?_⟩ | refine HeapOK.acc rfl rfl ?_)))
    · refine M.go rfl ?_
      rw [hca, if_pos g, Nat.add_zero] at ih'
      rw [hw2]
      exact M.again (XH.ren [] ih' rfl (by repeat' (first | exact True.intro | refine ⟨⟨_, _, rfl, rfl, Wk.rfl⟩, ?_⟩ | refine ⟨⟨_, _, accV_ren rfl, rfl, Wk.rfl⟩, ?_⟩ | refine ⟨⟨_, _, accV_ren rfl, rfl, Wk.acc0⟩, ?_⟩ | refine ⟨⟨_, _, rfl, rfl, Wk.uncap⟩, ?_⟩ | refine ⟨⟨_, _, rfl, rfl, Wk.nil⟩, ?_⟩)) (by repeat' (first | exact True.intro | refine ⟨⟨_, _, _, rfl, rfl, rfl, WkO.rfl⟩, ?_⟩ | refine HeapOK.acc rfl rfl ?_)))
theorem stB (za zb : Bool) (ca cb : Option Nat) (a b : List Int) (m0 : Nat) (h0 : m0 ≤ 1000000) (ha : a.length ≤ 1000000) (hb : b.length ≤ 1000000) (Q : QX) (hq : Q (.exit 2) [(0, .c (.p (.tz za 1 (inP a) ca))), (1, .c (.p (.tz zb 1 (inP b) cb))), (5, .c (.p (.int .i64 ((m0 + cntN a b : Nat) : Int))))] ⟨[], 0⟩) :
    ∀ (rest pre : List Int), b = pre ++ rest → XH Try.prog base lStR.1.n 0 (lStR.1.c.lp 1) [(0, .c (.p (.tz za 1 (inP a) ca))), (1, .c (.p (.tz zb 1 (inP b) cb))), (7, .c (.p (.int .i64 pre.length))), (5, .c (.p (.int .i64 ((m0 + cntN a pre : Nat) : Int))))] ⟨[], 0⟩ Q := by
  intro rest
  induction rest with
  | nil =>
    intro pre hp
    have hlen : (inP b).length = pre.length := by rw [hp, inPl]; simp
    have hpe : cntN a b = cntN a pre := by rw [hp, List.append_nil]
    rw [hpe] at hq
    refine M.round (M.go rfl ?_)
    refine M.cond rfl (fun hc => absurd hc (by rw [hlen]; omega)) (fun hc => ?_)
    refine M.ren [] ?_ trivial rfl (by repeat' (first | exact True.intro | refine ⟨⟨_, _, rfl, rfl, Wk.rfl⟩, ?_⟩ | refine ⟨⟨_, _, accV_ren rfl, rfl, Wk.rfl⟩, ?_⟩ | refine ⟨⟨_, _, accV_ren rfl, rfl, Wk.acc0⟩, ?_⟩ | refine ⟨⟨_, _, rfl, rfl, Wk.uncap⟩, ?_⟩ | refine ⟨⟨_, _, rfl, rfl, Wk.nil⟩, ?_⟩)) (by repeat' (first | exact True.intro | refine ⟨⟨_, _, _, rfl, rfl, rfl, WkO.rfl⟩, ?_⟩ | refine HeapOK.acc rfl rfl ?_)) (e' := [(0, .c (.p (.tz za 1 (inP a) ca))), (1, .c (.p (.tz zb 1 (inP b) cb))), (5, .c (.p (.int .i64 ((m0 + cntN a pre : Nat) : Int))))]) (h' := ⟨[], 0⟩)
    exact M.exit (M.go rfl (M.done hq))
  | cons v rest ih =>
    intro pre hp
    have hlen : (inP b).length = pre.length + (rest.length + 1) := by rw [hp, inPl]; simp
    have hll : pre.length + rest.length < 1000000 := by have h := hb; rw [hp] at h; simp at h; omega
    have hcn : cntN a pre ≤ pre.length := List.countP_le_length
    have hw2 : IntKind.i64.wrap ((pre.length : Int) + 1) = ((pre ++ [v]).length : Int) := by rw [wr64 (by omega) (by omega)]; simp
    have ih' := ih (pre ++ [v]) (by rw [hp]; simp)
    have hca : cntN a (pre ++ [v]) = cntN a pre + (if v ∈ a then 0 else 1) := by by_cases g : v ∈ a <;> simp [cntN, List.countP_append, List.countP_cons, g]
    have hu : (inP b)[((pre.length : Int)).toNat]? = some (.int .i64 v) := by rw [hp]; exact at_app _ _ _ _
    refine M.round (M.go rfl ?_)
    refine M.cond rfl (fun hc => ?_) (fun hc => absurd (by rw [hlen]; omega) hc)
    refine M.go rfl ?_
    refine M.op trivial (SOp.ia rfl rfl (by omega) hu) ?_
    refine M.op trivial (SOp.ld1e rfl hu rfl rfl rfl) ?_
    refine M.go rfl ?_
    refine M.use0 trivial (in_spec za ca a v ha) rfl rfl rfl ?_
    refine M.go rfl ?_
    refine M.condN rfl (fun g => ?_) (fun g => ?_)
    · refine M.go rfl ?_
      rw [hw2, show IntKind.i64.wrap (((m0 + cntN a pre : Nat) : Int) + 1) = ((m0 + cntN a (pre ++ [v]) : Nat) : Int) by rw [wr64 (by omega) (by omega), hca, if_neg g]; omega]
      exact M.again (XH.ren [] ih' rfl (by repeat' (first | exact True.intro | refine ⟨⟨_, _, rfl, rfl, Wk.rfl⟩, ?_⟩ | refine ⟨⟨_, _, accV_ren rfl, rfl, Wk.rfl⟩, ?_⟩ | refine ⟨⟨_, _, accV_ren rfl, rfl, Wk.acc0⟩, ?_⟩ | refine ⟨⟨_, _, rfl, rfl, Wk.uncap⟩, ?_⟩ | refine ⟨⟨_, _, rfl, rfl, Wk.nil⟩, ?_⟩)) (by repeat' (first | exact True.intro | refine ⟨⟨_, _, _, rfl, rfl, rfl, WkO.rfl⟩, ?_⟩ | refine HeapOK.acc rfl rfl ?_)))
    · refine M.go rfl ?_
      rw [hca, if_pos g, Nat.add_zero] at ih'
      rw [hw2]
      exact M.again (XH.ren [] ih' rfl (by repeat' (first | exact True.intro | refine ⟨⟨_, _, rfl, rfl, Wk.rfl⟩, ?_⟩ | refine ⟨⟨_, _, accV_ren rfl, rfl, Wk.rfl⟩, ?_⟩ | refine ⟨⟨_, _, accV_ren rfl, rfl, Wk.acc0⟩, ?_⟩ | refine ⟨⟨_, _, rfl, rfl, Wk.uncap⟩, ?_⟩ | refine ⟨⟨_, _, rfl, rfl, Wk.nil⟩, ?_⟩)) (by repeat' (first | exact True.intro | refine ⟨⟨_, _, _, rfl, rfl, rfl, WkO.rfl⟩, ?_⟩ | refine HeapOK.acc rfl rfl ?_)))
theorem stR_spec (za zb : Bool) (ca cb : Option Nat) (a b : List Int) (ha : a.length ≤ 1000000) (hb : b.length ≤ 1000000) : CallS Try.prog base 21 [.c (.p (.tz za 1 (inP a) ca)), .c (.p (.tz zb 1 (inP b) cb))] ⟨[], 0⟩ (.c (.p (.bs (stepI a b)))) ⟨[], 0⟩ := by
  refine CallS.of noNG lStR.2 rfl (M.start (M.go rfl ?_))
  refine M.loop (XH.ren [] (stA za zb ca cb a b 0 (by omega) ha hb _ ?_ a [] rfl) rfl (by repeat' (first | exact True.intro | refine ⟨⟨_, _, rfl, rfl, Wk.rfl⟩, ?_⟩ | refine ⟨⟨_, _, accV_ren rfl, rfl, Wk.rfl⟩, ?_⟩ | refine ⟨⟨_, _, accV_ren rfl, rfl, Wk.acc0⟩, ?_⟩ | refine ⟨⟨_, _, rfl, rfl, Wk.uncap⟩, ?_⟩ | refine ⟨⟨_, _, rfl, rfl, Wk.nil⟩, ?_⟩)) (by repeat' (first | exact True.intro | refine ⟨⟨_, _, _, rfl, rfl, rfl, WkO.rfl⟩, ?_⟩ | refine HeapOK.acc rfl rfl ?_)))
  refine M.q (M.go rfl ?_)
  have hc1 : cntN b a ≤ a.length := List.countP_le_length
  refine M.loop (XH.ren [] (stB za zb ca cb a b (0 + cntN b a) (by omega) ha hb _ ?_ b [] rfl) rfl (by repeat' (first | exact True.intro | refine ⟨⟨_, _, rfl, rfl, Wk.rfl⟩, ?_⟩ | refine ⟨⟨_, _, accV_ren rfl, rfl, Wk.rfl⟩, ?_⟩ | refine ⟨⟨_, _, accV_ren rfl, rfl, Wk.acc0⟩, ?_⟩ | refine ⟨⟨_, _, rfl, rfl, Wk.uncap⟩, ?_⟩ | refine ⟨⟨_, _, rfl, rfl, Wk.nil⟩, ?_⟩)) (by repeat' (first | exact True.intro | refine ⟨⟨_, _, _, rfl, rfl, rfl, WkO.rfl⟩, ?_⟩ | refine HeapOK.acc rfl rfl ?_)))
  refine M.q (M.go rfl ?_)
  refine M.use0 trivial (mbr_spec za ca a ha) rfl rfl rfl ?_
  refine M.go rfl ?_
  refine M.decB rfl (fun h1 => ?_) (fun h1 => ?_)
  · refine M.go rfl ?_
    refine M.use0 rfl (mbr_spec zb cb b hb) rfl rfl rfl ?_
    refine M.go rfl ?_
    refine M.decB rfl (fun h2 => ?_) (fun h2 => ?_)
    · refine M.go rfl ?_
      refine M.ret (M.go rfl (M.done (finQ.ret [] rfl rfl rfl (Wk.b1 ?_) (by repeat' (first | exact True.intro | refine ⟨⟨_, _, _, rfl, rfl, rfl, WkO.rfl⟩, ?_⟩ | refine HeapOK.acc rfl rfl ?_)))))
      have g1 : incB 0 a = true := by simp only [mayI, Bool.and_eq_true] at h1; exact h1.1
      have g2 : incB 0 b = true := by simp only [mayI, Bool.and_eq_true] at h2; exact h2.1
      rw [stepI, h1, h2, dif_cnt a b g1 g2]
      simp only [Bool.true_and]
      exact decide_eq_decide.2 (by omega)
    · refine M.go rfl ?_
      refine M.ret (M.go rfl (M.done (finQ.ret [] rfl rfl rfl (Wk.of ?_) (by repeat' (first | exact True.intro | refine ⟨⟨_, _, _, rfl, rfl, rfl, WkO.rfl⟩, ?_⟩ | refine HeapOK.acc rfl rfl ?_)))))
      rw [stepI, h1, h2]; rfl
  · refine M.go rfl ?_
    refine M.ret (M.go rfl (M.done (finQ.ret [] rfl rfl rfl (Wk.of ?_) (by repeat' (first | exact True.intro | refine ⟨⟨_, _, _, rfl, rfl, rfl, WkO.rfl⟩, ?_⟩ | refine HeapOK.acc rfl rfl ?_)))))
    rw [stepI, h1]; rfl
/-! The law. -/
noncomputable def lBmb : {F : LF // lowerF Try.prog 5 = some F} := ⟨_, rfl⟩
theorem bmb_loop (za zb : Bool) (a b : List Int) (ml : List PC) (hb : b.length ≤ 1000000) (Q : QX) (hq : Q (.exit 0) [(0, .c (.p (.tz za 1 (inP a) none))), (1, .c (.p (.tz zb 1 (inP b) none))), (7, .c (.p (.tz true 1 ml none))), (8, accV 0 1 (byP (uN b)))] ⟨[(0, accO 1 (byP (uN b)))], 1⟩) :
    ∀ (rest pre : List Int), b = pre ++ rest → XH Try.prog base lBmb.1.n 0 (lBmb.1.c.lp 0) [(0, .c (.p (.tz za 1 (inP a) none))), (1, .c (.p (.tz zb 1 (inP b) none))), (7, .c (.p (.tz true 1 ml none))), (9, .c (.p (.int .i64 pre.length))), (8, accV 0 1 (byP (uN pre)))] ⟨[(0, accO 1 (byP (uN pre)))], 1⟩ Q := by
  intro rest
  induction rest with
  | nil =>
    intro pre hp
    refine M.round (M.go rfl ?_)
    simp at hp
    subst hp
    refine M.cond rfl (fun hc => ?_) (fun hc => ?_)
    · rw [inPl] at hc; omega
    · refine M.ren [(0, 0)] ?_ trivial rfl (by repeat' (first | exact True.intro | refine ⟨⟨_, _, rfl, rfl, Wk.rfl⟩, ?_⟩ | refine ⟨⟨_, _, accV_ren rfl, rfl, Wk.rfl⟩, ?_⟩ | refine ⟨⟨_, _, accV_ren rfl, rfl, Wk.acc0⟩, ?_⟩ | refine ⟨⟨_, _, rfl, rfl, Wk.uncap⟩, ?_⟩ | refine ⟨⟨_, _, rfl, rfl, Wk.nil⟩, ?_⟩)) (by repeat' (first | exact True.intro | refine ⟨⟨_, _, _, rfl, rfl, rfl, WkO.rfl⟩, ?_⟩ | refine HeapOK.acc rfl rfl ?_)) (e' := [(0, .c (.p (.tz za 1 (inP a) none))), (1, .c (.p (.tz zb 1 (inP b) none))), (7, .c (.p (.tz true 1 ml none))), (8, accV 0 1 (byP (uN b)))]) (h' := ⟨[(0, accO 1 (byP (uN b)))], 1⟩)
      exact M.exit (M.go rfl (M.done hq))
  | cons v rest ih =>
    intro pre hp
    have hlen : (inP b).length = pre.length + (rest.length + 1) := by rw [hp, inPl]; simp
    have hll : pre.length + rest.length < 1000000 := by rw [hp] at hb; simp at hb; omega
    have ih' := ih (pre ++ [v]) (by rw [hp]; simp)
    rw [show byP (uN (pre ++ [v])) = byP (uN pre) ++ [.int .u8 ((IntKind.u8.wrap v).toNat : Nat)] by simp [uN, byP]] at ih'
    refine M.round (M.go rfl ?_)
    refine M.cond rfl (fun hc => ?_) (fun hc => ?_)
    · refine M.go rfl ?_
      have hu : (inP b)[((pre.length : Int)).toNat]? = some (.int .i64 v) := by rw [hp]; exact at_app _ _ _ _
      refine M.op trivial (SOp.ia rfl rfl (by omega) hu) ?_
      refine M.op trivial (SOp.ld1e rfl hu rfl rfl rfl) ?_
      refine M.go rfl ?_
      have h8 := (u8_in v).1
      rw [show IntKind.u8.wrap v = (((IntKind.u8.wrap v).toNat : Nat) : Int) by omega]
      refine M.acc trivial rfl rfl rfl (.own rfl rfl) (by simp) (by simp [uN, byP]; omega) ?_
      refine M.go rfl ?_
      rw [show IntKind.i64.wrap ((pre.length : Int) + 1) = ((pre ++ [v]).length : Int) by rw [wr64 (by omega) (by omega)]; simp]
      exact M.again (XH.ren [(0, 2)] ih' rfl (by repeat' (first | exact True.intro | refine ⟨⟨_, _, rfl, rfl, Wk.rfl⟩, ?_⟩ | refine ⟨⟨_, _, accV_ren rfl, rfl, Wk.rfl⟩, ?_⟩ | refine ⟨⟨_, _, accV_ren rfl, rfl, Wk.acc0⟩, ?_⟩ | refine ⟨⟨_, _, rfl, rfl, Wk.uncap⟩, ?_⟩ | refine ⟨⟨_, _, rfl, rfl, Wk.nil⟩, ?_⟩)) (by repeat' (first | exact True.intro | refine ⟨⟨_, _, _, rfl, rfl, rfl, WkO.rfl⟩, ?_⟩ | refine HeapOK.acc rfl rfl ?_)))
    · rw [hlen] at hc; omega
theorem sel_byt (a : List Int) (h : mayI a = true) : selI (nI (bytI a)) = a := by
  have h' := h
  simp only [mayI, Bool.and_eq_true] at h'
  have e : nI (bN a) = a := by
    have key : ∀ l : List Int, (∀ x ∈ l, 0 < x ∧ x ≤ 7) → nI (bN l) = l := fun l => by
      induction l with
      | nil => intro _; rfl
      | cons x l ih =>
        intro hx
        have h1 := hx x (by simp)
        have h2 := ih (fun y hy => hx y (List.mem_cons_of_mem _ hy))
        show ((x.toNat : Nat) : Int) :: nI (bN l) = x :: l
        rw [h2, show ((x.toNat : Nat) : Int) = x by omega]
    exact key a (incB_gt a 0 h'.1)
  rw [bytI, if_pos h, e, selI, if_pos h]
theorem Bmb_spec (za zb : Bool) (a b : List Int) : CallS Try.prog base 5 [.c (.p (.tz za 1 (inP a) none)), .c (.p (.tz zb 1 (inP b) none))] ⟨[], 0⟩ (.c (.p (.bool true))) ⟨[], 0⟩ := by
  have hk : ∀ l : List Int, (l.take 10).length ≤ 1000000 := fun l => by rw [List.length_take]; omega
  have hka : (a.take 10).length ≤ 10 := by rw [List.length_take]; omega
  have hkb : (b.take 10).length ≤ 10 := by rw [List.length_take]; omega
  have hx : okY (bytI (a.take 10)) := by
    unfold bytI
    split
    · rename_i h
      simp only [mayI, Bool.and_eq_true] at h
      refine ⟨by simp [bN]; omega, fun v hv => ?_⟩
      simp only [bN, List.mem_map] at hv
      obtain ⟨w, hw, rfl⟩ := hv
      have := incB_gt _ 0 h.1 w hw
      omega
    · exact ⟨by simp, by simp⟩
  have hy : okY (uN (b.take 10)) := by
    refine ⟨by simp [uN]; omega, fun v hv => ?_⟩
    simp only [uN, List.mem_map] at hv
    obtain ⟨w, hw, rfl⟩ := hv
    have := u8_in w
    omega
  have hlsel : ∀ l : List Int, l.length ≤ 1000 → (selI l).length ≤ 100000000000 := fun l hl => by
    unfold selI
    split
    · omega
    · simp
  have hsel : (selI (nI (uN (b.take 10)))).length ≤ 100000000000 := hlsel _ (by simp [nI, uN]; omega)
  have hbl : (bytI (a.take 10)).length ≤ 10 := by unfold bytI; split <;> simp [bN]; omega
  have hsa : (selI (nI (bytI (a.take 10)))).length ≤ 100000000000 := hlsel _ (by simp [nI]; omega)
  refine CallS.of noNG lBmb.2 rfl (M.start (M.go rfl ?_))
  refine M.use0 trivial begun21_spec rfl rfl rfl ?_
  refine M.go rfl ?_
  refine M.use0 trivial (cut10_spec za a none) rfl rfl rfl ?_
  refine M.go rfl ?_
  refine M.use0 trivial (cut10_spec zb b none) rfl rfl rfl ?_
  refine M.go rfl ?_
  refine M.use0 trivial (byt_spec za none (a.take 10) (hk a)) rfl rfl rfl ?_
  refine M.go rfl ?_
  refine M.use0 trivial (mbs_spec true none (bytI (a.take 10)) hx) rfl rfl rfl ?_
  refine M.go rfl ?_
  refine M.loop (XH.ren [(0, 0)] (bmb_loop za zb (a.take 10) (b.take 10) (inP (selI (nI (bytI (a.take 10))))) (hk b) _ ?_ (b.take 10) [] rfl) rfl (by repeat' (first | exact True.intro | refine ⟨⟨_, _, rfl, rfl, Wk.rfl⟩, ?_⟩ | refine ⟨⟨_, _, accV_ren rfl, rfl, Wk.rfl⟩, ?_⟩ | refine ⟨⟨_, _, accV_ren rfl, rfl, Wk.acc0⟩, ?_⟩ | refine ⟨⟨_, _, rfl, rfl, Wk.uncap⟩, ?_⟩ | refine ⟨⟨_, _, rfl, rfl, Wk.nil⟩, ?_⟩)) (by repeat' (first | exact True.intro | refine ⟨⟨_, _, _, rfl, rfl, rfl, WkO.rfl⟩, ?_⟩ | refine HeapOK.acc rfl rfl ?_)))
  refine M.q (M.goN 2 rfl ?_)
  refine M.accF (i := 8) rfl rfl ?_
  refine M.ren [] ?_ trivial rfl (by repeat' (first | exact True.intro | refine ⟨⟨_, _, rfl, rfl, Wk.rfl⟩, ?_⟩ | refine ⟨⟨_, _, accV_ren rfl, rfl, Wk.rfl⟩, ?_⟩ | refine ⟨⟨_, _, accV_ren rfl, rfl, Wk.acc0⟩, ?_⟩ | refine ⟨⟨_, _, rfl, rfl, Wk.uncap⟩, ?_⟩ | refine ⟨⟨_, _, rfl, rfl, Wk.nil⟩, ?_⟩)) (by repeat' (first | exact True.intro | refine ⟨⟨_, _, _, rfl, rfl, rfl, WkO.rfl⟩, ?_⟩ | refine HeapOK.acc rfl rfl ?_)) (e' := [(0, .c (.p (.tz za 1 (inP (a.take 10)) none))), (1, .c (.p (.tz zb 1 (inP (b.take 10)) none))), (7, .c (.p (.tz true 1 (inP (selI (nI (bytI (a.take 10))))) none))), (8, .c (.p (.tz true 1 (byP (uN (b.take 10))) none)))]) (h' := ⟨[], 0⟩)
  refine M.go rfl ?_
  refine M.use0 trivial (mayI_spec za none (a.take 10) (hk a)) rfl rfl rfl ?_
  refine M.go rfl ?_
  refine M.use0 trivial (mbr_spec za none (a.take 10) (hk a)) rfl rfl rfl ?_
  refine M.go rfl ?_
  refine M.decB rfl (fun _ => ?_) (fun h => absurd h (by simp))
  refine M.go rfl ?_
  refine M.use0 rfl (step_spec za zb none none (a.take 10) (b.take 10) (hk a) (hk b)) rfl rfl rfl ?_
  refine M.go rfl ?_
  refine M.use0 rfl (stR_spec za zb none none (a.take 10) (b.take 10) (hk a) (hk b)) rfl rfl rfl ?_
  refine M.go rfl ?_
  refine M.decB rfl (fun _ => ?_) (fun h => absurd h (by simp))
  refine M.go rfl ?_
  refine M.use0 rfl (mbr_spec za none (a.take 10) (hk a)) rfl rfl rfl ?_
  refine M.go rfl ?_
  refine M.decB rfl (fun h1 => ?_) (fun h1 => ?_)
  · refine M.go rfl ?_
    refine M.use0 rfl (mbs_spec true none (uN (b.take 10)) hy) rfl rfl rfl ?_
    refine M.go rfl ?_
    refine M.use0 rfl (ids_spec true none (uN (b.take 10)) hy) rfl rfl rfl ?_
    refine M.go rfl ?_
    refine M.use0 rfl (EqInts_spec true true none none (selI (nI (uN (b.take 10)))) (selI (nI (uN (b.take 10)))) hsel) rfl rfl rfl ?_
    refine M.go rfl ?_
    exact M.ret (M.go rfl (M.done (finQ.ret [] rfl rfl rfl (Wk.of (by simp [XV.sv, XC.sc, PC.sc])) (by repeat' (first | exact True.intro | refine ⟨⟨_, _, _, rfl, rfl, rfl, WkO.rfl⟩, ?_⟩ | refine HeapOK.acc rfl rfl ?_)))))
  · refine M.go rfl ?_
    refine M.use0 rfl (EqInts_spec true za none none (selI (nI (bytI (a.take 10)))) (a.take 10) hsa) rfl rfl rfl ?_
    refine M.go rfl ?_
    refine M.dec rfl (fun _ => ?_) (fun h => absurd (sel_byt _ (by simpa using h1)) h)
    refine M.go rfl ?_
    refine M.use0 rfl (mbs_spec true none (uN (b.take 10)) hy) rfl rfl rfl ?_
    refine M.go rfl ?_
    refine M.use0 rfl (ids_spec true none (uN (b.take 10)) hy) rfl rfl rfl ?_
    refine M.go rfl ?_
    refine M.use0 rfl (EqInts_spec true true none none (selI (nI (uN (b.take 10)))) (selI (nI (uN (b.take 10)))) hsel) rfl rfl rfl ?_
    refine M.go rfl ?_
    exact M.ret (M.go rfl (M.done (finQ.ret [] rfl rfl rfl (Wk.of (by simp [XV.sv, XC.sc, PC.sc])) (by repeat' (first | exact True.intro | refine ⟨⟨_, _, _, rfl, rfl, rfl, WkO.rfl⟩, ?_⟩ | refine HeapOK.acc rfl rfl ?_)))))
theorem bmb_calls (w : World) (v0 : Value) (a : List Int) (v1 : Value) (b : List Int) (h0 : RdI .i64 w (fun _ => True) v0 a) (h1 : RdI .i64 w (fun _ => True) v1 b) :
    Calls Try.prog 5 #[v0, v1] w fun e w' => e = .returned (.bool true) ∧ Below w.heap.size w w' := by
  obtain ⟨z0, g0⟩ := h0.tz
  obtain ⟨z1, g1⟩ := h1.tz
  exact CallS.law (args' := [v0, v1]) (Bmb_spec z0 z1 a b) ⟨g0, g1, trivial⟩
#print axioms bmb_calls
end Go.Proofs.Ytgaaffanoegbhaa
