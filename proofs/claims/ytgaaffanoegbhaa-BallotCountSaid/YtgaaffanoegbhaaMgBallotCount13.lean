/- Texts of this claim, several in one: Bal3, Bal5, Bal6, Bal7, Bal8. -/
import Derived.Test.YtgaaffanoegbhaaMgBallotCount10
import Derived.Test.YtgaaffanoegbhaaMgBallotCount11
import Derived.Test.YtgaaffanoegbhaaMgBallotCount4
import Derived.Test.YtgaaffanoegbhaaMgBallotCount9
/- delphilaw21.BallotMeet. -/
namespace Go.Proofs.Ytgaaffanoegbhaa
open Go.RowKit Sim Go Sym
set_option maxRecDepth 100000
set_option linter.unusedVariables false
set_option linter.unusedSimpArgs false
variable {base : Nat}
/-! The plain law. -/
theorem incB_gt : ∀ (l : List Int) (p : Int), incB p l = true → ∀ x ∈ l, p < x ∧ x ≤ 7
  | [], _, _, x, hx => by cases hx
  | b :: l, p, h, x, hx => by
    simp only [incB, Bool.and_eq_true, decide_eq_true_eq] at h
    rcases List.mem_cons.1 hx with rfl | hx
    · exact h.1
    · have := incB_gt l b h.2 x hx
      omega
theorem inc_one (q : Int → Bool) (v : Int) : ∀ (l : List Int) (p : Int), incB p l = true → l.countP (fun x => decide (x = v) && q x) = (decide (v ∈ l) && q v).toNat
  | [], _, _ => by simp
  | b :: l, p, h => by
    have h' := h
    simp only [incB, Bool.and_eq_true, decide_eq_true_eq] at h'
    have ih := inc_one q v l b h'.2
    rw [List.countP_cons, ih]
    by_cases e : b = v
    · subst e
      have hn : ¬ b ∈ l := fun hm => by have := incB_gt l b h'.2 b hm; omega
      cases hq : q b <;> simp [hn, hq]
    · have e' : ¬ v = b := fun h => e h.symm
      simp [e, e']
theorem cnt_split (q : Int → Bool) (k : Int) : ∀ l : List Int, l.countP (fun x => decide (x ≤ k + 1) && q x) = l.countP (fun x => decide (x ≤ k) && q x) + l.countP (fun x => decide (x = k + 1) && q x)
  | [] => rfl
  | b :: l => by
    rw [List.countP_cons, List.countP_cons, List.countP_cons, cnt_split q k l]
    cases hq : q b
    · simp
    · by_cases h1 : b ≤ k
      · have h2 : b ≤ k + 1 := by omega
        have h3 : ¬ b = k + 1 := by omega
        simp [h1, h2, h3]; omega
      · by_cases h3 : b = k + 1
        · subst h3
          have h4 : ¬ k + 1 ≤ k := by omega
          simp [h4]
          try omega
        · have h2 : ¬ b ≤ k + 1 := by omega
          simp [h1, h2, h3]
theorem ct_cnt (q : Int → Bool) (l : List Int) (hl : incB 0 l = true) : ∀ k : Nat, ct (fun i => decide (i ∈ l) && q i) k = l.countP (fun x => decide (x ≤ (k : Int)) && q x)
  | 0 => by
    symm
    show _ = 0
    rw [List.countP_eq_zero]
    intro x hx
    have := incB_gt l 0 hl x hx
    have h : ¬ x ≤ ((0 : Nat) : Int) := by omega
    simp only [h, decide_false, Bool.false_and]
    decide
  | k + 1 => by
    have h := cnt_split q (k : Int) l
    rw [inc_one q ((k : Int) + 1) l 0 hl] at h
    rw [ct, ct_cnt q l hl k, show (((k + 1 : Nat) : Int)) = (k : Int) + 1 by omega, h]
theorem ct_all (q : Int → Bool) (l : List Int) (hl : incB 0 l = true) : ct (fun i => decide (i ∈ l) && q i) 7 = l.countP q := by
  rw [ct_cnt q l hl 7]
  refine List.countP_congr fun x hx => ?_
  have h : x ≤ 7 := (incB_gt l 0 hl x hx).2
  simp [h]
theorem ct_sum (p1 p2 a b d : Int → Bool) (h : ∀ i, 2 * (p1 i).toNat + 2 * (p2 i).toNat ≤ (a i).toNat + (b i).toNat + (d i).toNat) : ∀ k, 2 * ct p1 k + 2 * ct p2 k ≤ ct a k + ct b k + ct d k
  | 0 => by simp [ct]
  | k + 1 => by have := ct_sum p1 p2 a b d h k; have h2 := h ((k : Int) + 1); simp only [ct]; omega
theorem meet_law (a b x y : List Int) (hs : stepI a b = true) (h1 : majI a x = true) (h2 : majI b y = true) : ∃ e ∈ x, e ∈ y ∧ (e ∈ a ∨ e ∈ b) := by
  apply Classical.byContradiction
  intro hn
  have hn' : ∀ e, e ∈ x → e ∈ y → ¬ (e ∈ a ∨ e ∈ b) := fun e g1 g2 g3 => hn ⟨e, g1, g2, g3⟩
  simp only [stepI, mayI, Bool.and_eq_true, decide_eq_true_eq] at hs
  obtain ⟨⟨ha, -⟩, ⟨hb, -⟩, hd⟩ := hs
  simp only [majI, decide_eq_true_eq] at h1 h2
  have e1 := ct_all (fun i => decide (i ∈ x)) a ha
  have e2 := ct_all (fun i => decide (i ∈ y)) b hb
  have e3 := ct_all (fun _ => true) a ha
  have e4 := ct_all (fun _ => true) b hb
  rw [List.countP_true] at e3 e4
  have key := ct_sum (fun i => decide (i ∈ a) && decide (i ∈ x)) (fun i => decide (i ∈ b) && decide (i ∈ y)) (fun i => decide (i ∈ a) && true) (fun i => decide (i ∈ b) && true) (dif a b) (fun i => by
    have hi := hn' i
    unfold dif
    by_cases g1 : i ∈ a <;> by_cases g2 : i ∈ b <;> by_cases g3 : i ∈ x <;> by_cases g4 : i ∈ y <;> simp_all) 7
  have f1 : cnt x a = ct (fun i => decide (i ∈ a) && decide (i ∈ x)) 7 := e1.symm
  have f2 : cnt y b = ct (fun i => decide (i ∈ b) && decide (i ∈ y)) 7 := e2.symm
  omega
/-! The walk. -/
noncomputable def lMeet : {F : LF // lowerF Try.prog 4 = some F} := ⟨_, rfl⟩
theorem meet_loop (za zb zx zy : Bool) (a b x y : List Int) (ha : a.length ≤ 1000000) (hb : b.length ≤ 1000000) (hx : x.length ≤ 1000000) (hy : y.length ≤ 1000000) (hm : ∃ e ∈ x, e ∈ y ∧ (e ∈ a ∨ e ∈ b)) (Q : QX) (hr : Q .ret [(8, .c (.p (.bool true)))] ⟨[], 0⟩) :
    ∀ (rest pre : List Int), x = pre ++ rest → (∀ e ∈ pre, ¬ (e ∈ y ∧ (e ∈ a ∨ e ∈ b))) → XH Try.prog base lMeet.1.n 0 (lMeet.1.c.lp 0) [(0, .c (.p (.tz za 1 (inP a) none))), (1, .c (.p (.tz zb 1 (inP b) none))), (2, .c (.p (.tz zx 1 (inP x) none))), (3, .c (.p (.tz zy 1 (inP y) none))), (10, .c (.p (.int .i64 pre.length)))] ⟨[], 0⟩ Q := by
  intro rest
  induction rest with
  | nil =>
    intro pre hp hpre
    obtain ⟨e, h1, h2⟩ := hm
    rw [hp, List.append_nil] at h1
    exact absurd h2 (hpre e h1)
  | cons v rest ih =>
    intro pre hp hpre
    have hlen : (inP x).length = pre.length + (rest.length + 1) := by rw [hp, inPl]; simp
    have hll : pre.length + rest.length < 1000000 := by rw [hp] at hx; simp at hx; omega
    have hw2 : IntKind.i64.wrap ((pre.length : Int) + 1) = ((pre ++ [v]).length : Int) := by rw [wr64 (by omega) (by omega)]; simp
    have hu : (inP x)[((pre.length : Int)).toNat]? = some (.int .i64 v) := by rw [hp]; exact at_app _ _ _ _
    have next : ¬ (v ∈ y ∧ (v ∈ a ∨ v ∈ b)) → XH Try.prog base lMeet.1.n 0 (lMeet.1.c.lp 0) [(0, .c (.p (.tz za 1 (inP a) none))), (1, .c (.p (.tz zb 1 (inP b) none))), (2, .c (.p (.tz zx 1 (inP x) none))), (3, .c (.p (.tz zy 1 (inP y) none))), (10, .c (.p (.int .i64 (pre ++ [v]).length)))] ⟨[], 0⟩ Q := fun h => ih (pre ++ [v]) (by rw [hp]; simp) (fun e he => by
      rcases List.mem_append.1 he with h1 | h1
      · exact hpre e h1
      · obtain rfl := List.mem_singleton.1 h1; exact h)
    refine M.round (M.go rfl ?_)
    refine M.cond rfl (fun hc => ?_) (fun hc => absurd (by rw [hlen]; omega) hc)
    refine M.go rfl ?_
    refine M.op trivial (SOp.ia rfl rfl (by omega) hu) ?_
    refine M.op trivial (SOp.ld1e rfl hu rfl rfl rfl) ?_
    refine M.go rfl ?_
    refine M.use0 trivial (in_spec zy none y v hy) rfl rfl rfl ?_
    refine M.go rfl ?_
    refine M.dec rfl (fun g1 => ?_) (fun g1 => ?_)
    · refine M.go rfl ?_
      refine M.op rfl (SOp.ia rfl rfl (by omega) hu) ?_
      refine M.op rfl (SOp.ld1e rfl hu rfl rfl rfl) ?_
      refine M.go rfl ?_
      refine M.use0 rfl (in_spec za none a v ha) rfl rfl rfl ?_
      refine M.go rfl ?_
      refine M.dec rfl (fun g2 => ?_) (fun g2 => ?_)
      · refine M.go rfl ?_
        refine M.ren [] ?_ trivial rfl (by repeat' (first | exact True.intro | refine ⟨⟨_, _, rfl, rfl, Wk.rfl⟩, ?_⟩ | refine ⟨⟨_, _, accV_ren rfl, rfl, Wk.rfl⟩, ?_⟩ | refine ⟨⟨_, _, accV_ren rfl, rfl, Wk.acc0⟩, ?_⟩ | refine ⟨⟨_, _, rfl, rfl, Wk.uncap⟩, ?_⟩ | refine ⟨⟨_, _, rfl, rfl, Wk.nil⟩, ?_⟩)) (by repeat' (first | exact True.intro | refine ⟨⟨_, _, _, rfl, rfl, rfl, WkO.rfl⟩, ?_⟩ | refine HeapOK.acc rfl rfl ?_)) (e' := [(8, .c (.p (.bool true)))]) (h' := ⟨[], 0⟩)
        exact M.ret (M.go rfl (M.done hr))
      · refine M.go rfl ?_
        refine M.op rfl (SOp.ia rfl rfl (by omega) hu) ?_
        refine M.op rfl (SOp.ld1e rfl hu rfl rfl rfl) ?_
        refine M.go rfl ?_
        refine M.use0 rfl (in_spec zb none b v hb) rfl rfl rfl ?_
        refine M.go rfl ?_
        refine M.cond rfl (fun g3 => ?_) (fun g3 => ?_)
        · refine M.go rfl ?_
          refine M.ren [] ?_ trivial rfl (by repeat' (first | exact True.intro | refine ⟨⟨_, _, rfl, rfl, Wk.rfl⟩, ?_⟩ | refine ⟨⟨_, _, accV_ren rfl, rfl, Wk.rfl⟩, ?_⟩ | refine ⟨⟨_, _, accV_ren rfl, rfl, Wk.acc0⟩, ?_⟩ | refine ⟨⟨_, _, rfl, rfl, Wk.uncap⟩, ?_⟩ | refine ⟨⟨_, _, rfl, rfl, Wk.nil⟩, ?_⟩)) (by repeat' (first | exact True.intro | refine ⟨⟨_, _, _, rfl, rfl, rfl, WkO.rfl⟩, ?_⟩ | refine HeapOK.acc rfl rfl ?_)) (e' := [(8, .c (.p (.bool true)))]) (h' := ⟨[], 0⟩)
          exact M.ret (M.go rfl (M.done hr))
        · refine M.go rfl ?_
          rw [hw2]
          exact M.again (XH.ren [] (next (fun h => by rcases h.2 with h | h; exact g2 h; exact g3 h)) rfl (by repeat' (first | exact True.intro | refine ⟨⟨_, _, rfl, rfl, Wk.rfl⟩, ?_⟩ | refine ⟨⟨_, _, accV_ren rfl, rfl, Wk.rfl⟩, ?_⟩ | refine ⟨⟨_, _, accV_ren rfl, rfl, Wk.acc0⟩, ?_⟩ | refine ⟨⟨_, _, rfl, rfl, Wk.uncap⟩, ?_⟩ | refine ⟨⟨_, _, rfl, rfl, Wk.nil⟩, ?_⟩)) (by repeat' (first | exact True.intro | refine ⟨⟨_, _, _, rfl, rfl, rfl, WkO.rfl⟩, ?_⟩ | refine HeapOK.acc rfl rfl ?_)))
    · refine M.go rfl ?_
      rw [hw2]
      exact M.again (XH.ren [] (next (fun h => g1 h.1)) rfl (by repeat' (first | exact True.intro | refine ⟨⟨_, _, rfl, rfl, Wk.rfl⟩, ?_⟩ | refine ⟨⟨_, _, accV_ren rfl, rfl, Wk.rfl⟩, ?_⟩ | refine ⟨⟨_, _, accV_ren rfl, rfl, Wk.acc0⟩, ?_⟩ | refine ⟨⟨_, _, rfl, rfl, Wk.uncap⟩, ?_⟩ | refine ⟨⟨_, _, rfl, rfl, Wk.nil⟩, ?_⟩)) (by repeat' (first | exact True.intro | refine ⟨⟨_, _, _, rfl, rfl, rfl, WkO.rfl⟩, ?_⟩ | refine HeapOK.acc rfl rfl ?_)))
theorem Meet_spec (za zb zx zy : Bool) (a b x y : List Int) : CallS Try.prog base 4 [.c (.p (.tz za 1 (inP a) none)), .c (.p (.tz zb 1 (inP b) none)), .c (.p (.tz zx 1 (inP x) none)), .c (.p (.tz zy 1 (inP y) none))] ⟨[], 0⟩ (.c (.p (.bool true))) ⟨[], 0⟩ := by
  have hk : ∀ l : List Int, (l.take 10).length ≤ 1000000 := fun l => by rw [List.length_take]; omega
  refine CallS.of noNG lMeet.2 rfl (M.start (M.go rfl ?_))
  refine M.use0 trivial begun21_spec rfl rfl rfl ?_
  refine M.go rfl ?_
  refine M.use0 trivial (cut10_spec za a none) rfl rfl rfl ?_
  refine M.go rfl ?_
  refine M.use0 trivial (cut10_spec zb b none) rfl rfl rfl ?_
  refine M.go rfl ?_
  refine M.use0 trivial (cut10_spec zx x none) rfl rfl rfl ?_
  refine M.go rfl ?_
  refine M.use0 trivial (cut10_spec zy y none) rfl rfl rfl ?_
  refine M.go rfl ?_
  refine M.use0 trivial (step_spec za zb none none (a.take 10) (b.take 10) (hk a) (hk b)) rfl rfl rfl ?_
  refine M.go rfl ?_
  refine M.decB rfl (fun h1 => ?_) (fun h1 => ?_)
  · refine M.go rfl ?_
    exact M.ret (M.go rfl (M.done (finQ.ret [] rfl rfl rfl (by first | exact Wk.rfl | exact Wk.uncap | exact Wk.nil | exact Wk.b1 rfl | exact Wk.t2 Wk.rfl (Wk.b1 rfl)) (by repeat' (first | exact True.intro | refine ⟨⟨_, _, _, rfl, rfl, rfl, WkO.rfl⟩, ?_⟩ | refine HeapOK.acc rfl rfl ?_)))))
  · refine M.go rfl ?_
    refine M.use0 rfl (maj_spec za zx none none (a.take 10) (x.take 10) (hk a) (hk x)) rfl rfl rfl ?_
    refine M.go rfl ?_
    refine M.decB rfl (fun h2 => ?_) (fun h2 => ?_)
    · refine M.go rfl ?_
      exact M.ret (M.go rfl (M.done (finQ.ret [] rfl rfl rfl (by first | exact Wk.rfl | exact Wk.uncap | exact Wk.nil | exact Wk.b1 rfl | exact Wk.t2 Wk.rfl (Wk.b1 rfl)) (by repeat' (first | exact True.intro | refine ⟨⟨_, _, _, rfl, rfl, rfl, WkO.rfl⟩, ?_⟩ | refine HeapOK.acc rfl rfl ?_)))))
    · refine M.go rfl ?_
      refine M.use0 rfl (maj_spec zb zy none none (b.take 10) (y.take 10) (hk b) (hk y)) rfl rfl rfl ?_
      refine M.go rfl ?_
      refine M.condB rfl (fun h3 => ?_) (fun h3 => ?_)
      · refine M.go rfl ?_
        exact M.ret (M.go rfl (M.done (finQ.ret [] rfl rfl rfl (by first | exact Wk.rfl | exact Wk.uncap | exact Wk.nil | exact Wk.b1 rfl | exact Wk.t2 Wk.rfl (Wk.b1 rfl)) (by repeat' (first | exact True.intro | refine ⟨⟨_, _, _, rfl, rfl, rfl, WkO.rfl⟩, ?_⟩ | refine HeapOK.acc rfl rfl ?_)))))
      · refine M.go rfl ?_
        have hm := meet_law (a.take 10) (b.take 10) (x.take 10) (y.take 10) (by simpa using h1) (by simpa using h2) (by simpa using h3)
        refine M.loop (XH.ren [] (meet_loop za zb zx zy _ _ _ _ (hk a) (hk b) (hk x) (hk y) hm _ ?_ _ [] rfl (by simp)) rfl (by repeat' (first | exact True.intro | refine ⟨⟨_, _, rfl, rfl, Wk.rfl⟩, ?_⟩ | refine ⟨⟨_, _, accV_ren rfl, rfl, Wk.rfl⟩, ?_⟩ | refine ⟨⟨_, _, accV_ren rfl, rfl, Wk.acc0⟩, ?_⟩ | refine ⟨⟨_, _, rfl, rfl, Wk.uncap⟩, ?_⟩ | refine ⟨⟨_, _, rfl, rfl, Wk.nil⟩, ?_⟩)) (by repeat' (first | exact True.intro | refine ⟨⟨_, _, _, rfl, rfl, rfl, WkO.rfl⟩, ?_⟩ | refine HeapOK.acc rfl rfl ?_)))
        refine M.q (M.go rfl ?_)
        exact M.done (finQ.ret [] rfl rfl rfl (by first | exact Wk.rfl | exact Wk.uncap | exact Wk.nil | exact Wk.b1 rfl | exact Wk.t2 Wk.rfl (Wk.b1 rfl)) (by repeat' (first | exact True.intro | refine ⟨⟨_, _, _, rfl, rfl, rfl, WkO.rfl⟩, ?_⟩ | refine HeapOK.acc rfl rfl ?_)))
end Go.Proofs.Ytgaaffanoegbhaa

/- delphiref22's EqInts, Members, Ids, Step; ballot's Members, Bytes. -/
namespace Go.Proofs.Ytgaaffanoegbhaa
open Go.RowKit Sim Go Sym
set_option maxRecDepth 100000
set_option linter.unusedVariables false
set_option linter.unusedSimpArgs false
variable {base : Nat}
noncomputable def lEqi : {F : LF // lowerF Try.prog 22 = some F} := ⟨_, rfl⟩
theorem eqi_loop (za zb : Bool) (ca cb : Option Nat) (a b : List Int) (hl : a.length ≤ 100000000000) (Q : QX) :
    ∀ (ra rb pa pb : List Int), a = pa ++ ra → b = pb ++ rb → pa.length = pb.length → ra.length = rb.length → (ra = rb → Q (.exit 0) [] ⟨[], 0⟩) → (¬ ra = rb → Q .ret [(4, .c (.p (.bool false)))] ⟨[], 0⟩) →
      XH Try.prog base lEqi.1.n 0 (lEqi.1.c.lp 0) [(0, .c (.p (.tz za 1 (inP a) ca))), (1, .c (.p (.tz zb 1 (inP b) cb))), (5, .c (.p (.int .i64 pa.length)))] ⟨[], 0⟩ Q := by
  intro ra
  induction ra with
  | nil =>
    intro rb pa pb h1 h2 h3 h4 hq hr
    refine M.round (M.go rfl ?_)
    have h5 : (inP a).length = pa.length := by rw [h1, inPl]; simp
    refine M.cond rfl (fun hc => ?_) (fun hc => ?_)
    · rw [h5] at hc; omega
    · refine M.ren [] ?_ trivial rfl (by repeat' (first | exact True.intro | refine ⟨⟨_, _, rfl, rfl, Wk.rfl⟩, ?_⟩ | refine ⟨⟨_, _, accV_ren rfl, rfl, Wk.rfl⟩, ?_⟩ | refine ⟨⟨_, _, accV_ren rfl, rfl, Wk.acc0⟩, ?_⟩ | refine ⟨⟨_, _, rfl, rfl, Wk.uncap⟩, ?_⟩ | refine ⟨⟨_, _, rfl, rfl, Wk.nil⟩, ?_⟩)) (by repeat' (first | exact True.intro | refine ⟨⟨_, _, _, rfl, rfl, rfl, WkO.rfl⟩, ?_⟩ | refine HeapOK.acc rfl rfl ?_)) (e' := []) (h' := ⟨[], 0⟩)
      exact M.exit (M.go rfl (M.done (hq (by cases rb <;> simp_all))))
  | cons x ra ih =>
    intro rb pa pb h1 h2 h3 h4 hq hr
    cases rb with
    | nil => simp at h4
    | cons y rb =>
      refine M.round (M.go rfl ?_)
      have h5 : (inP a).length = pa.length + (ra.length + 1) := by rw [h1, inPl]; simp
      have hw : IntKind.i64.wrap ((pa.length : Int) + 1) = ((pa ++ [x]).length : Int) := by rw [inPl] at h5; rw [wr64 (by omega) (by omega)]; simp
      have hu : (inP a)[((pa.length : Int)).toNat]? = some (.int .i64 x) := by rw [h1]; exact at_app _ _ _ _
      have hv : (inP b)[((pa.length : Int)).toNat]? = some (.int .i64 y) := by rw [h2, h3]; exact at_app _ _ _ _
      refine M.cond rfl (fun hc => ?_) (fun hc => ?_)
      · refine M.go rfl (M.regD (MD.go rfl ?_))
        refine MD.op trivial (SOp.ia rfl rfl (by omega) hu) (MD.go rfl ?_)
        refine MD.op trivial (SOp.ld1e rfl hu rfl rfl rfl) (MD.go rfl ?_)
        refine MD.op trivial (SOp.ia rfl rfl (by omega) hv) (MD.go rfl ?_)
        refine MD.op trivial (SOp.ld1e rfl hv rfl rfl rfl) (MD.go rfl (MD.nil mixed (Fnl.nodup rfl) (M.go rfl ?_)))
        refine M.condN rfl (fun hxy => ?_) (fun hxy => ?_)
        · refine M.go rfl ?_
          refine M.ren [] ?_ trivial rfl (by repeat' (first | exact True.intro | refine ⟨⟨_, _, rfl, rfl, Wk.rfl⟩, ?_⟩ | refine ⟨⟨_, _, accV_ren rfl, rfl, Wk.rfl⟩, ?_⟩ | refine ⟨⟨_, _, accV_ren rfl, rfl, Wk.acc0⟩, ?_⟩ | refine ⟨⟨_, _, rfl, rfl, Wk.uncap⟩, ?_⟩ | refine ⟨⟨_, _, rfl, rfl, Wk.nil⟩, ?_⟩)) (by repeat' (first | exact True.intro | refine ⟨⟨_, _, _, rfl, rfl, rfl, WkO.rfl⟩, ?_⟩ | refine HeapOK.acc rfl rfl ?_)) (e' := [(4, .c (.p (.bool false)))]) (h' := ⟨[], 0⟩)
          exact M.ret (M.go rfl (M.done (hr (fun h => hxy (by injection h)))))
        · refine M.go rfl ?_
          rw [hw]
          subst hxy
          refine M.again (XH.ren [] (ih rb (pa ++ [x]) (pb ++ [x]) (by rw [h1]; simp) (by rw [h2]; simp) (by simp [h3]) (by simpa using h4) (fun h => hq (by rw [h])) (fun h => hr (fun h' => h (by injection h')))) rfl (by repeat' (first | exact True.intro | refine ⟨⟨_, _, rfl, rfl, Wk.rfl⟩, ?_⟩ | refine ⟨⟨_, _, accV_ren rfl, rfl, Wk.rfl⟩, ?_⟩ | refine ⟨⟨_, _, accV_ren rfl, rfl, Wk.acc0⟩, ?_⟩ | refine ⟨⟨_, _, rfl, rfl, Wk.uncap⟩, ?_⟩ | refine ⟨⟨_, _, rfl, rfl, Wk.nil⟩, ?_⟩)) (by repeat' (first | exact True.intro | refine ⟨⟨_, _, _, rfl, rfl, rfl, WkO.rfl⟩, ?_⟩ | refine HeapOK.acc rfl rfl ?_)))
      · rw [h5] at hc; omega
theorem EqInts_spec (za zb : Bool) (ca cb : Option Nat) (a b : List Int) (hl : a.length ≤ 100000000000) : CallS Try.prog base 22 [.c (.p (.tz za 1 (inP a) ca)), .c (.p (.tz zb 1 (inP b) cb))] ⟨[], 0⟩ (.c (.p (.bs (decide (a = b))))) ⟨[], 0⟩ := by
  refine CallS.of noNG lEqi.2 rfl (M.start (M.go rfl ?_))
  refine M.condN rfl (fun h1 => ?_) (fun h1 => ?_)
  · refine M.go rfl ?_
    rw [decide_eq_false (p := a = b) (fun h => h1 (by rw [h]))]
    exact M.ret (M.go rfl (M.done (finQ.ret [] rfl rfl rfl (by first | exact Wk.rfl | exact Wk.uncap | exact Wk.nil | exact Wk.b1 rfl | exact Wk.t2 Wk.rfl (Wk.b1 rfl)) (by repeat' (first | exact True.intro | refine ⟨⟨_, _, _, rfl, rfl, rfl, WkO.rfl⟩, ?_⟩ | refine HeapOK.acc rfl rfl ?_)))))
  · refine M.go rfl ?_
    have h2 : a.length = b.length := by rw [inPl, inPl] at h1; omega
    refine M.loop (XH.ren [] (eqi_loop za zb ca cb a b hl _ a b [] [] rfl rfl rfl h2 (fun h => ?_) (fun h => ?_)) rfl (by repeat' (first | exact True.intro | refine ⟨⟨_, _, rfl, rfl, Wk.rfl⟩, ?_⟩ | refine ⟨⟨_, _, accV_ren rfl, rfl, Wk.rfl⟩, ?_⟩ | refine ⟨⟨_, _, accV_ren rfl, rfl, Wk.acc0⟩, ?_⟩ | refine ⟨⟨_, _, rfl, rfl, Wk.uncap⟩, ?_⟩ | refine ⟨⟨_, _, rfl, rfl, Wk.nil⟩, ?_⟩)) (by repeat' (first | exact True.intro | refine ⟨⟨_, _, _, rfl, rfl, rfl, WkO.rfl⟩, ?_⟩ | refine HeapOK.acc rfl rfl ?_)))
    · refine M.q (M.go rfl ?_)
      rw [decide_eq_true h]
      exact M.ret (M.go rfl (M.done (finQ.ret [] rfl rfl rfl (by first | exact Wk.rfl | exact Wk.uncap | exact Wk.nil | exact Wk.b1 rfl | exact Wk.t2 Wk.rfl (Wk.b1 rfl)) (by repeat' (first | exact True.intro | refine ⟨⟨_, _, _, rfl, rfl, rfl, WkO.rfl⟩, ?_⟩ | refine HeapOK.acc rfl rfl ?_)))))
    · refine M.q (M.go rfl ?_)
      rw [decide_eq_false h]
      exact M.done (finQ.ret [] rfl rfl rfl (by first | exact Wk.rfl | exact Wk.uncap | exact Wk.nil | exact Wk.b1 rfl | exact Wk.t2 Wk.rfl (Wk.b1 rfl)) (by repeat' (first | exact True.intro | refine ⟨⟨_, _, _, rfl, rfl, rfl, WkO.rfl⟩, ?_⟩ | refine HeapOK.acc rfl rfl ?_)))
theorem incB_len : ∀ (l : List Int) (p : Int), p ≤ 7 → incB p l = true → p + l.length ≤ 7
  | [], p, h, _ => by simpa using h
  | b :: l, p, h, hi => by
    simp only [incB, Bool.and_eq_true, decide_eq_true_eq] at hi
    have := incB_len l b hi.1.2 hi.2
    simp only [List.length_cons]
    omega
noncomputable def lMbr : {F : LF // lowerF Try.prog 12 = some F} := ⟨_, rfl⟩
theorem mbr_loop (z : Bool) (c : Option Nat) (l : List Int) (hl : l.length ≤ 1000000) (Q : QX) (hq : incB 0 l = true → Q (.exit 0) [(0, .c (.p (.tz z 1 (inP l) c)))] ⟨[], 0⟩) (hr : incB 0 l = false → Q .ret [(2, .c (.p (.bool false)))] ⟨[], 0⟩) :
    ∀ (rest pre : List Int), l = pre ++ rest → incB 0 pre = true → XH Try.prog base lMbr.1.n 0 (lMbr.1.c.lp 0) [(0, .c (.p (.tz z 1 (inP l) c))), (3, .c (.p (.int .i64 pre.length)))] ⟨[], 0⟩ Q := by
  intro rest
  induction rest with
  | nil =>
    intro pre hp hm
    refine M.round (M.go rfl ?_)
    simp at hp
    subst hp
    refine M.cond rfl (fun hc => ?_) (fun hc => ?_)
    · rw [inPl] at hc; omega
    · refine M.ren [] ?_ trivial rfl (by repeat' (first | exact True.intro | refine ⟨⟨_, _, rfl, rfl, Wk.rfl⟩, ?_⟩ | refine ⟨⟨_, _, accV_ren rfl, rfl, Wk.rfl⟩, ?_⟩ | refine ⟨⟨_, _, accV_ren rfl, rfl, Wk.acc0⟩, ?_⟩ | refine ⟨⟨_, _, rfl, rfl, Wk.uncap⟩, ?_⟩ | refine ⟨⟨_, _, rfl, rfl, Wk.nil⟩, ?_⟩)) (by repeat' (first | exact True.intro | refine ⟨⟨_, _, _, rfl, rfl, rfl, WkO.rfl⟩, ?_⟩ | refine HeapOK.acc rfl rfl ?_)) (e' := [(0, .c (.p (.tz z 1 (inP l) c)))]) (h' := ⟨[], 0⟩)
      exact M.exit (M.go rfl (M.done (hq hm)))
  | cons b rest ih =>
    intro pre hp hm
    have hlen : (inP l).length = pre.length + (rest.length + 1) := by rw [hp, inPl]; simp
    have hll : pre.length + rest.length < 1000000 := by rw [hp] at hl; simp at hl; omega
    have hpos : 0 ≤ pre.getLast?.getD 0 := incB_last pre 0 hm
    have hw2 : IntKind.i64.wrap ((pre.length : Int) + 1) = ((pre ++ [b]).length : Int) := by rw [wr64 (by omega) (by omega)]; simp
    have hu : (inP l)[((pre.length : Int)).toNat]? = some (.int .i64 b) := by rw [hp]; exact at_app _ _ _ _
    have hmb : incB 0 l = ((decide (pre.getLast?.getD 0 < b) && decide (b ≤ 7)) && incB b rest) := by rw [hp, incB_app, hm, Bool.true_and, incB]
    refine M.round (M.go rfl ?_)
    refine M.cond rfl (fun hc => ?_) (fun hc => absurd (by rw [hlen]; omega) hc)
    refine M.go rfl (M.regD (MD.go rfl ?_))
    refine MD.op trivial (SOp.ia rfl rfl (by omega) hu) ?_
    refine MD.op trivial (SOp.ld1e rfl hu rfl rfl rfl) ?_
    by_cases h1 : b < 1
    · refine MD.op trivial (SOp.binT rfl rfl rfl (decide_eq_true h1)) (MD.go rfl (MD.nil mixed (Fnl.nodup rfl) (M.go rfl ?_)))
      refine M.ren [] ?_ trivial rfl (by repeat' (first | exact True.intro | refine ⟨⟨_, _, rfl, rfl, Wk.rfl⟩, ?_⟩ | refine ⟨⟨_, _, accV_ren rfl, rfl, Wk.rfl⟩, ?_⟩ | refine ⟨⟨_, _, accV_ren rfl, rfl, Wk.acc0⟩, ?_⟩ | refine ⟨⟨_, _, rfl, rfl, Wk.uncap⟩, ?_⟩ | refine ⟨⟨_, _, rfl, rfl, Wk.nil⟩, ?_⟩)) (by repeat' (first | exact True.intro | refine ⟨⟨_, _, _, rfl, rfl, rfl, WkO.rfl⟩, ?_⟩ | refine HeapOK.acc rfl rfl ?_)) (e' := [(2, .c (.p (.bool false)))]) (h' := ⟨[], 0⟩)
      exact M.ret (M.go rfl (M.done (hr (by rw [hmb, decide_eq_false (p := _ < b) (by omega)]; rfl))))
    · refine MD.op trivial (SOp.binF rfl rfl rfl (decide_eq_false h1)) (MD.go rfl ?_)
      refine MD.op rfl (SOp.ia rfl rfl (by omega) hu) ?_
      refine MD.op rfl (SOp.ld1e rfl hu rfl rfl rfl) ?_
      by_cases h2 : 7 < b
      · refine MD.op rfl (SOp.binT rfl rfl rfl (decide_eq_true h2)) (MD.go rfl (MD.nil mixed (Fnl.nodup rfl) (M.go rfl ?_)))
        refine M.ren [] ?_ trivial rfl (by repeat' (first | exact True.intro | refine ⟨⟨_, _, rfl, rfl, Wk.rfl⟩, ?_⟩ | refine ⟨⟨_, _, accV_ren rfl, rfl, Wk.rfl⟩, ?_⟩ | refine ⟨⟨_, _, accV_ren rfl, rfl, Wk.acc0⟩, ?_⟩ | refine ⟨⟨_, _, rfl, rfl, Wk.uncap⟩, ?_⟩ | refine ⟨⟨_, _, rfl, rfl, Wk.nil⟩, ?_⟩)) (by repeat' (first | exact True.intro | refine ⟨⟨_, _, _, rfl, rfl, rfl, WkO.rfl⟩, ?_⟩ | refine HeapOK.acc rfl rfl ?_)) (e' := [(2, .c (.p (.bool false)))]) (h' := ⟨[], 0⟩)
        exact M.ret (M.go rfl (M.done (hr (by rw [hmb, decide_eq_false (p := b ≤ 7) (by omega)]; simp))))
      · refine MD.op rfl (SOp.binF rfl rfl rfl (decide_eq_false h2)) (MD.goN 3 rfl ?_)
        by_cases h3 : 0 < (pre.length : Int)
        · refine MD.op rfl (SOp.binT rfl rfl rfl (decide_eq_true h3)) (MD.go rfl ?_)
          obtain ⟨p0, q, rfl⟩ : ∃ p0 q, pre = p0 ++ [q] := ⟨_, _, (List.dropLast_concat_getLast (by rintro rfl; simp at h3)).symm⟩
          have hw : IntKind.i64.wrap (((p0 ++ [q]).length : Int) - 1) = p0.length := by
            rw [wr64 (by simp) (by simp at hll ⊢; omega)]; simp
          have hu' : (inP l)[((p0.length : Int)).toNat]? = some (.int .i64 q) := by rw [hp, List.append_assoc]; exact at_app _ _ _ _
          have e1 : (p0 ++ [q]).getLast?.getD 0 = q := by simp
          refine MD.op rfl (SOp.ia rfl rfl (by omega) hu) ?_
          refine MD.op rfl (SOp.ld1e rfl hu rfl rfl rfl) (MD.go rfl ?_)
          rw [hw]
          refine MD.op rfl (SOp.ia rfl rfl (by omega) hu') ?_
          refine MD.op rfl (SOp.ld1e rfl hu' rfl rfl rfl) ?_
          by_cases h4 : b ≤ q
          · refine MD.op rfl (SOp.binT rfl rfl rfl (decide_eq_true h4)) (MD.go rfl (MD.nil mixed (Fnl.nodup rfl) (M.go rfl ?_)))
            refine M.ren [] ?_ trivial rfl (by repeat' (first | exact True.intro | refine ⟨⟨_, _, rfl, rfl, Wk.rfl⟩, ?_⟩ | refine ⟨⟨_, _, accV_ren rfl, rfl, Wk.rfl⟩, ?_⟩ | refine ⟨⟨_, _, accV_ren rfl, rfl, Wk.acc0⟩, ?_⟩ | refine ⟨⟨_, _, rfl, rfl, Wk.uncap⟩, ?_⟩ | refine ⟨⟨_, _, rfl, rfl, Wk.nil⟩, ?_⟩)) (by repeat' (first | exact True.intro | refine ⟨⟨_, _, _, rfl, rfl, rfl, WkO.rfl⟩, ?_⟩ | refine HeapOK.acc rfl rfl ?_)) (e' := [(2, .c (.p (.bool false)))]) (h' := ⟨[], 0⟩)
            exact M.ret (M.go rfl (M.done (hr (by rw [hmb, e1, decide_eq_false (p := q < b) (by omega)]; simp))))
          · refine MD.op rfl (SOp.binF rfl rfl rfl (decide_eq_false h4)) (MD.go rfl (MD.nil mixed (Fnl.nodup rfl) (M.go rfl ?_)))
            rw [hw2]
            refine M.again (XH.ren [] (ih ((p0 ++ [q]) ++ [b]) (by rw [hp]; simp) ?_) rfl (by repeat' (first | exact True.intro | refine ⟨⟨_, _, rfl, rfl, Wk.rfl⟩, ?_⟩ | refine ⟨⟨_, _, accV_ren rfl, rfl, Wk.rfl⟩, ?_⟩ | refine ⟨⟨_, _, accV_ren rfl, rfl, Wk.acc0⟩, ?_⟩ | refine ⟨⟨_, _, rfl, rfl, Wk.uncap⟩, ?_⟩ | refine ⟨⟨_, _, rfl, rfl, Wk.nil⟩, ?_⟩)) (by repeat' (first | exact True.intro | refine ⟨⟨_, _, _, rfl, rfl, rfl, WkO.rfl⟩, ?_⟩ | refine HeapOK.acc rfl rfl ?_)))
            rw [incB_app, hm, e1]
            have g1 : q < b := by omega
            have g2 : b ≤ 7 := by omega
            simp [incB, g1, g2]
        · refine MD.op rfl (SOp.binF rfl rfl rfl (decide_eq_false h3)) (MD.go rfl (MD.nil mixed (Fnl.nodup rfl) (M.go rfl ?_)))
          rw [hw2]
          refine M.again (XH.ren [] (ih (pre ++ [b]) (by rw [hp]; simp) ?_) rfl (by repeat' (first | exact True.intro | refine ⟨⟨_, _, rfl, rfl, Wk.rfl⟩, ?_⟩ | refine ⟨⟨_, _, accV_ren rfl, rfl, Wk.rfl⟩, ?_⟩ | refine ⟨⟨_, _, accV_ren rfl, rfl, Wk.acc0⟩, ?_⟩ | refine ⟨⟨_, _, rfl, rfl, Wk.uncap⟩, ?_⟩ | refine ⟨⟨_, _, rfl, rfl, Wk.nil⟩, ?_⟩)) (by repeat' (first | exact True.intro | refine ⟨⟨_, _, _, rfl, rfl, rfl, WkO.rfl⟩, ?_⟩ | refine HeapOK.acc rfl rfl ?_)))
          have : pre = [] := List.eq_nil_of_length_eq_zero (by omega)
          subst this
          have g1 : 0 < b := by omega
          have g2 : b ≤ 7 := by omega
          simp [incB, g1, g2]
theorem mbr_spec (z : Bool) (c : Option Nat) (l : List Int) (hl : l.length ≤ 1000000) : CallS Try.prog base 12 [.c (.p (.tz z 1 (inP l) c))] ⟨[], 0⟩ (.c (.p (.bs (mayI l)))) ⟨[], 0⟩ := by
  refine CallS.of noNG lMbr.2 rfl (M.start (M.go rfl ?_))
  refine M.loop (XH.ren [] (mbr_loop z c l hl _ ?_ ?_ l [] rfl rfl) rfl (by repeat' (first | exact True.intro | refine ⟨⟨_, _, rfl, rfl, Wk.rfl⟩, ?_⟩ | refine ⟨⟨_, _, accV_ren rfl, rfl, Wk.rfl⟩, ?_⟩ | refine ⟨⟨_, _, accV_ren rfl, rfl, Wk.acc0⟩, ?_⟩ | refine ⟨⟨_, _, rfl, rfl, Wk.uncap⟩, ?_⟩ | refine ⟨⟨_, _, rfl, rfl, Wk.nil⟩, ?_⟩)) (by repeat' (first | exact True.intro | refine ⟨⟨_, _, _, rfl, rfl, rfl, WkO.rfl⟩, ?_⟩ | refine HeapOK.acc rfl rfl ?_)))
  · intro hm
    refine M.q (M.go rfl ?_)
    have h7 := incB_len l 0 (by decide) hm
    refine M.dec rfl (fun h => ?_) (fun h => ?_)
    · refine M.go rfl ?_
      refine M.ret (M.go rfl (M.done (finQ.ret [] rfl rfl rfl (Wk.b1 ?_) (by repeat' (first | exact True.intro | refine ⟨⟨_, _, _, rfl, rfl, rfl, WkO.rfl⟩, ?_⟩ | refine HeapOK.acc rfl rfl ?_)))))
      rw [mayI, hm, inPl]
      rw [inPl] at h
      have g : ¬ l = [] := by rintro rfl; simp at h
      cases l with
      | nil => exact absurd rfl g
      | cons a l => simp at h7 ⊢; omega
    · refine M.go rfl ?_
      refine M.ret (M.go rfl (M.done (finQ.ret [] rfl rfl rfl (Wk.of ?_) (by repeat' (first | exact True.intro | refine ⟨⟨_, _, _, rfl, rfl, rfl, WkO.rfl⟩, ?_⟩ | refine HeapOK.acc rfl rfl ?_)))))
      rw [inPl] at h
      have g : l = [] := List.eq_nil_of_length_eq_zero (by omega)
      rw [g]; rfl
  · intro hm
    refine M.q (M.go rfl ?_)
    rw [mayI, hm]
    exact M.done (finQ.ret [] rfl rfl rfl (by first | exact Wk.rfl | exact Wk.uncap | exact Wk.nil | exact Wk.b1 rfl | exact Wk.t2 Wk.rfl (Wk.b1 rfl)) (by repeat' (first | exact True.intro | refine ⟨⟨_, _, _, rfl, rfl, rfl, WkO.rfl⟩, ?_⟩ | refine HeapOK.acc rfl rfl ?_)))
end Go.Proofs.Ytgaaffanoegbhaa

/- Members as bytes, one step: the document's and ballot's. -/
namespace Go.Proofs.Ytgaaffanoegbhaa
open Go.RowKit Sim Go Sym
set_option maxRecDepth 100000
set_option linter.unusedVariables false
set_option linter.unusedSimpArgs false
variable {base : Nat}
theorem wru8 {n : Int} (h : 0 ≤ n) (h' : n < 256) : IntKind.u8.wrap n = n := by
  have hs : IntKind.u8.signed = false := rfl
  have hb : IntKind.u8.bits = 8 := rfl
  unfold IntKind.wrap
  simp only [hs, hb, Bool.false_and]
  simp
  omega
def nI (l : List Nat) : List Int := l.map fun (b : Nat) => (b : Int)
def selI (l : List Int) : List Int := if mayI l = true then l else []
def okY (l : List Nat) : Prop := l.length ≤ 100000 ∧ ∀ b ∈ l, b < 256
theorem byPl (l : List Nat) : (byP l).length = l.length := by simp [byP]
noncomputable def lMbs : {F : LF // lowerF Try.prog 19 = some F} := ⟨_, rfl⟩
theorem mbs_loop (z : Bool) (c : Option Nat) (l : List Nat) (hl : okY l) (Q : QX) (hq : Q (.exit 0) [(3, accV 0 1 (inP (nI l)))] ⟨[(0, accO 1 (inP (nI l)))], 1⟩) :
    ∀ (rest pre : List Nat), l = pre ++ rest → XH Try.prog base lMbs.1.n 0 (lMbs.1.c.lp 0) [(6, .c (.p (.tz z 1 (byP l) c))), (7, .c (.p (.int .i64 (byP l).length))), (8, .c (.p (.int .i64 pre.length))), (3, accV 0 1 (inP (nI pre)))] ⟨[(0, accO 1 (inP (nI pre)))], 1⟩ Q := by
  intro rest
  induction rest with
  | nil =>
    intro pre hp
    refine M.round (M.go rfl ?_)
    simp at hp
    subst hp
    refine M.cond rfl (fun hc => ?_) (fun hc => ?_)
    · rw [byPl] at hc; omega
    · refine M.ren [(0, 0)] ?_ trivial rfl (by repeat' (first | exact True.intro | refine ⟨⟨_, _, rfl, rfl, Wk.rfl⟩, ?_⟩ | refine ⟨⟨_, _, accV_ren rfl, rfl, Wk.rfl⟩, ?_⟩ | refine ⟨⟨_, _, accV_ren rfl, rfl, Wk.acc0⟩, ?_⟩ | refine ⟨⟨_, _, rfl, rfl, Wk.uncap⟩, ?_⟩ | refine ⟨⟨_, _, rfl, rfl, Wk.nil⟩, ?_⟩)) (by repeat' (first | exact True.intro | refine ⟨⟨_, _, _, rfl, rfl, rfl, WkO.rfl⟩, ?_⟩ | refine HeapOK.acc rfl rfl ?_)) (e' := [(3, accV 0 1 (inP (nI l)))]) (h' := ⟨[(0, accO 1 (inP (nI l)))], 1⟩)
      exact M.exit (M.go rfl (M.done hq))
  | cons b rest ih =>
    intro pre hp
    have hbl : b < 256 := hl.2 b (by rw [hp]; simp)
    have hlen : (byP l).length = pre.length + (rest.length + 1) := by rw [hp, byPl]; simp
    have hll : pre.length + rest.length < 100000 := by have := hl.1; rw [hp] at this; simp at this; omega
    have ih' := ih (pre ++ [b]) (by rw [hp]; simp)
    rw [show inP (nI (pre ++ [b])) = inP (nI pre) ++ [.int .i64 b] by simp [nI, inP]] at ih'
    refine M.round (M.go rfl ?_)
    refine M.cond rfl (fun hc => ?_) (fun hc => ?_)
    · refine M.go rfl ?_
      have hu : (byP l)[((pre.length : Int)).toNat]? = some (.int .u8 b) := by rw [hp]; exact at_app _ _ _ _
      refine M.op trivial (SOp.ia rfl rfl (by omega) hu) ?_
      refine M.op trivial (SOp.ld1e rfl hu rfl rfl rfl) ?_
      refine M.go rfl ?_
      rw [show IntKind.i64.wrap (b : Int) = b from wr64 (by omega) (by omega)]
      refine M.acc trivial rfl rfl rfl (.own rfl rfl) (by simp) (by simp [nI, inP]; omega) ?_
      refine M.go rfl ?_
      rw [show IntKind.i64.wrap ((pre.length : Int) + 1) = ((pre ++ [b]).length : Int) by rw [wr64 (by omega) (by omega)]; simp]
      exact M.again (XH.ren [(0, 2)] ih' rfl (by repeat' (first | exact True.intro | refine ⟨⟨_, _, rfl, rfl, Wk.rfl⟩, ?_⟩ | refine ⟨⟨_, _, accV_ren rfl, rfl, Wk.rfl⟩, ?_⟩ | refine ⟨⟨_, _, accV_ren rfl, rfl, Wk.acc0⟩, ?_⟩ | refine ⟨⟨_, _, rfl, rfl, Wk.uncap⟩, ?_⟩ | refine ⟨⟨_, _, rfl, rfl, Wk.nil⟩, ?_⟩)) (by repeat' (first | exact True.intro | refine ⟨⟨_, _, _, rfl, rfl, rfl, WkO.rfl⟩, ?_⟩ | refine HeapOK.acc rfl rfl ?_)))
    · rw [hlen] at hc; omega
theorem mbs_spec (z : Bool) (c : Option Nat) (l : List Nat) (hl : okY l) : CallS Try.prog base 19 [.c (.p (.tz z 1 (byP l) c))] ⟨[], 0⟩ (.c (.p (.tz true 1 (inP (selI (nI l))) none))) ⟨[], 0⟩ := by
  refine CallS.of noNG lMbs.2 rfl (M.start (M.go rfl ?_))
  refine M.loop (XH.ren [(0, 0)] (mbs_loop z c l hl _ ?_ l [] rfl) rfl (by repeat' (first | exact True.intro | refine ⟨⟨_, _, rfl, rfl, Wk.rfl⟩, ?_⟩ | refine ⟨⟨_, _, accV_ren rfl, rfl, Wk.rfl⟩, ?_⟩ | refine ⟨⟨_, _, accV_ren rfl, rfl, Wk.acc0⟩, ?_⟩ | refine ⟨⟨_, _, rfl, rfl, Wk.uncap⟩, ?_⟩ | refine ⟨⟨_, _, rfl, rfl, Wk.nil⟩, ?_⟩)) (by repeat' (first | exact True.intro | refine ⟨⟨_, _, _, rfl, rfl, rfl, WkO.rfl⟩, ?_⟩ | refine HeapOK.acc rfl rfl ?_)))
  refine M.q (M.goN 2 rfl ?_)
  refine M.accF (i := 3) rfl rfl ?_
  refine M.go rfl ?_
  refine M.use0 trivial (mayI_spec true none (nI l) (by have := hl.1; simp [nI]; omega)) rfl rfl rfl ?_
  refine M.go rfl ?_
  refine M.condB rfl (fun h => ?_) (fun h => ?_)
  · refine M.go rfl ?_
    rw [selI, if_neg (by simpa using h)]
    exact M.ret (M.go rfl (M.done (finQ.ret [] rfl rfl rfl Wk.nil (by repeat' (first | exact True.intro | refine ⟨⟨_, _, _, rfl, rfl, rfl, WkO.rfl⟩, ?_⟩ | refine HeapOK.acc rfl rfl ?_)))))
  · refine M.go rfl ?_
    rw [selI, if_pos (by simpa using h)]
    exact M.ret (M.go rfl (M.done (finQ.ret [] rfl rfl rfl (by first | exact Wk.rfl | exact Wk.uncap | exact Wk.nil | exact Wk.b1 rfl | exact Wk.t2 Wk.rfl (Wk.b1 rfl)) (by repeat' (first | exact True.intro | refine ⟨⟨_, _, _, rfl, rfl, rfl, WkO.rfl⟩, ?_⟩ | refine HeapOK.acc rfl rfl ?_)))))
noncomputable def lIds : {F : LF // lowerF Try.prog 23 = some F} := ⟨_, rfl⟩
theorem ids_loop (z : Bool) (c : Option Nat) (l : List Nat) (hl : okY l) (Q : QX) (hq : Q (.exit 0) [(3, accV 0 1 (inP (nI (l.take 8))))] ⟨[(0, accO 1 (inP (nI (l.take 8))))], 1⟩) :
    ∀ (rest pre : List Nat), l = pre ++ rest → pre.length ≤ 8 → XH Try.prog base lIds.1.n 0 (lIds.1.c.lp 0) [(0, .c (.p (.tz z 1 (byP l) c))), (4, .c (.p (.int .i64 pre.length))), (3, accV 0 1 (inP (nI pre)))] ⟨[(0, accO 1 (inP (nI pre)))], 1⟩ Q := by
  intro rest
  have out : ∀ pre : List Nat, l.take 8 = pre → Q (.exit 0) [(3, accV 0 1 (inP (nI pre)))] ⟨[(0, accO 1 (inP (nI pre)))], 1⟩ := fun pre h => by rw [← h]; exact hq
  induction rest with
  | nil =>
    intro pre hp h8
    have hlen : (byP l).length = pre.length := by rw [hp, byPl]; simp
    refine M.round (M.go rfl ?_)
    refine M.dec rfl (fun hc => absurd hc (by rw [hlen]; omega)) (fun hc => ?_)
    refine M.go rfl ?_
    refine M.ren [(0, 0)] ?_ trivial rfl (by repeat' (first | exact True.intro | refine ⟨⟨_, _, rfl, rfl, Wk.rfl⟩, ?_⟩ | refine ⟨⟨_, _, accV_ren rfl, rfl, Wk.rfl⟩, ?_⟩ | refine ⟨⟨_, _, accV_ren rfl, rfl, Wk.acc0⟩, ?_⟩ | refine ⟨⟨_, _, rfl, rfl, Wk.uncap⟩, ?_⟩ | refine ⟨⟨_, _, rfl, rfl, Wk.nil⟩, ?_⟩)) (by repeat' (first | exact True.intro | refine ⟨⟨_, _, _, rfl, rfl, rfl, WkO.rfl⟩, ?_⟩ | refine HeapOK.acc rfl rfl ?_)) (e' := [(3, accV 0 1 (inP (nI pre)))]) (h' := ⟨[(0, accO 1 (inP (nI pre)))], 1⟩)
    exact M.exit (M.go rfl (M.done (out pre (by rw [hp, List.append_nil, List.take_of_length_le h8]))))
  | cons b rest ih =>
    intro pre hp h8
    have hbl : b < 256 := hl.2 b (by rw [hp]; simp)
    have hlen : (byP l).length = pre.length + (rest.length + 1) := by rw [hp, byPl]; simp
    refine M.round (M.go rfl ?_)
    refine M.dec rfl (fun hc => ?_) (fun hc => absurd (by rw [hlen]; omega) hc)
    refine M.go rfl ?_
    refine M.cond rfl (fun hc => ?_) (fun hc => ?_)
    · refine M.go rfl ?_
      have ih' := ih (pre ++ [b]) (by rw [hp]; simp) (by simp; omega)
      rw [show inP (nI (pre ++ [b])) = inP (nI pre) ++ [.int .i64 b] by simp [nI, inP]] at ih'
      have hu : (byP l)[((pre.length : Int)).toNat]? = some (.int .u8 b) := by rw [hp]; exact at_app _ _ _ _
      refine M.op trivial (SOp.ia rfl rfl (by omega) hu) ?_
      refine M.op trivial (SOp.ld1e rfl hu rfl rfl rfl) ?_
      refine M.go rfl ?_
      rw [show IntKind.i64.wrap (b : Int) = b from wr64 (by omega) (by omega)]
      refine M.acc trivial rfl rfl rfl (.own rfl rfl) (by simp) (by simp [nI, inP]; omega) ?_
      refine M.go rfl ?_
      rw [show IntKind.i64.wrap ((pre.length : Int) + 1) = ((pre ++ [b]).length : Int) by rw [wr64 (by omega) (by omega)]; simp]
      exact M.again (XH.ren [(0, 2)] ih' rfl (by repeat' (first | exact True.intro | refine ⟨⟨_, _, rfl, rfl, Wk.rfl⟩, ?_⟩ | refine ⟨⟨_, _, accV_ren rfl, rfl, Wk.rfl⟩, ?_⟩ | refine ⟨⟨_, _, accV_ren rfl, rfl, Wk.acc0⟩, ?_⟩ | refine ⟨⟨_, _, rfl, rfl, Wk.uncap⟩, ?_⟩ | refine ⟨⟨_, _, rfl, rfl, Wk.nil⟩, ?_⟩)) (by repeat' (first | exact True.intro | refine ⟨⟨_, _, _, rfl, rfl, rfl, WkO.rfl⟩, ?_⟩ | refine HeapOK.acc rfl rfl ?_)))
    · refine M.ren [(0, 0)] ?_ trivial rfl (by repeat' (first | exact True.intro | refine ⟨⟨_, _, rfl, rfl, Wk.rfl⟩, ?_⟩ | refine ⟨⟨_, _, accV_ren rfl, rfl, Wk.rfl⟩, ?_⟩ | refine ⟨⟨_, _, accV_ren rfl, rfl, Wk.acc0⟩, ?_⟩ | refine ⟨⟨_, _, rfl, rfl, Wk.uncap⟩, ?_⟩ | refine ⟨⟨_, _, rfl, rfl, Wk.nil⟩, ?_⟩)) (by repeat' (first | exact True.intro | refine ⟨⟨_, _, _, rfl, rfl, rfl, WkO.rfl⟩, ?_⟩ | refine HeapOK.acc rfl rfl ?_)) (e' := [(3, accV 0 1 (inP (nI pre)))]) (h' := ⟨[(0, accO 1 (inP (nI pre)))], 1⟩)
      exact M.exit (M.go rfl (M.done (out pre (by rw [hp, List.take_append_of_le_length (by omega), List.take_of_length_le (by omega)]))))
theorem may8 (l : List Nat) : selI (nI (l.take 8)) = selI (nI l) := by
  by_cases h : l.length ≤ 8
  · rw [List.take_of_length_le h]
  · have key : ∀ m : List Nat, 7 < m.length → selI (nI m) = [] := fun m hm => by
      rw [selI, if_neg]
      intro hi
      simp only [mayI, Bool.and_eq_true] at hi
      have := incB_len (nI m) 0 (by decide) hi.1
      simp [nI] at this
      omega
    rw [key _ (by rw [List.length_take]; omega), key _ (by omega)]
theorem ids_spec (z : Bool) (c : Option Nat) (l : List Nat) (hl : okY l) : CallS Try.prog base 23 [.c (.p (.tz z 1 (byP l) c))] ⟨[], 0⟩ (.c (.p (.tz true 1 (inP (selI (nI l))) none))) ⟨[], 0⟩ := by
  rw [← may8]
  refine CallS.of noNG lIds.2 rfl (M.start (M.go rfl ?_))
  refine M.loop (XH.ren [(0, 0)] (ids_loop z c l hl _ ?_ l [] rfl (by simp)) rfl (by repeat' (first | exact True.intro | refine ⟨⟨_, _, rfl, rfl, Wk.rfl⟩, ?_⟩ | refine ⟨⟨_, _, accV_ren rfl, rfl, Wk.rfl⟩, ?_⟩ | refine ⟨⟨_, _, accV_ren rfl, rfl, Wk.acc0⟩, ?_⟩ | refine ⟨⟨_, _, rfl, rfl, Wk.uncap⟩, ?_⟩ | refine ⟨⟨_, _, rfl, rfl, Wk.nil⟩, ?_⟩)) (by repeat' (first | exact True.intro | refine ⟨⟨_, _, _, rfl, rfl, rfl, WkO.rfl⟩, ?_⟩ | refine HeapOK.acc rfl rfl ?_)))
  refine M.q (M.goN 2 rfl ?_)
  refine M.accF (i := 3) rfl rfl ?_
  refine M.go rfl ?_
  refine M.use0 trivial (mbr_spec true none (nI (l.take 8)) (by simp [nI]; omega)) rfl rfl rfl ?_
  refine M.go rfl ?_
  refine M.condB rfl (fun h => ?_) (fun h => ?_)
  · refine M.go rfl ?_
    rw [selI, if_neg (by simpa using h)]
    exact M.ret (M.go rfl (M.done (finQ.ret [] rfl rfl rfl Wk.nil (by repeat' (first | exact True.intro | refine ⟨⟨_, _, _, rfl, rfl, rfl, WkO.rfl⟩, ?_⟩ | refine HeapOK.acc rfl rfl ?_)))))
  · refine M.go rfl ?_
    rw [selI, if_pos (by simpa using h)]
    exact M.ret (M.go rfl (M.done (finQ.ret [] rfl rfl rfl (by first | exact Wk.rfl | exact Wk.uncap | exact Wk.nil | exact Wk.b1 rfl | exact Wk.t2 Wk.rfl (Wk.b1 rfl)) (by repeat' (first | exact True.intro | refine ⟨⟨_, _, _, rfl, rfl, rfl, WkO.rfl⟩, ?_⟩ | refine HeapOK.acc rfl rfl ?_)))))
end Go.Proofs.Ytgaaffanoegbhaa

/- delphilaw21.BallotMembers. -/
namespace Go.Proofs.Ytgaaffanoegbhaa
open Go.RowKit Sim Go Sym
set_option maxRecDepth 100000
set_option linter.unusedVariables false
set_option linter.unusedSimpArgs false
variable {base : Nat}
theorem u8_in (n : Int) : 0 ≤ IntKind.u8.wrap n ∧ IntKind.u8.wrap n < 256 := by
  have hs : IntKind.u8.signed = false := rfl
  have hb : IntKind.u8.bits = 8 := rfl
  unfold IntKind.wrap
  simp only [hs, hb, Bool.false_and]
  simp
  omega
def bN (l : List Int) : List Nat := l.map Int.toNat
def uN (l : List Int) : List Nat := l.map fun x => (IntKind.u8.wrap x).toNat
def bytI (l : List Int) : List Nat := if mayI l = true then bN l else []
noncomputable def lByt : {F : LF // lowerF Try.prog 18 = some F} := ⟨_, rfl⟩
theorem byt_loop (z : Bool) (c : Option Nat) (l : List Int) (hl : l.length ≤ 1000000) (hi : incB 0 l = true) (Q : QX) (hq : Q (.exit 0) [(3, accV 0 1 (byP (bN l)))] ⟨[(0, accO 1 (byP (bN l)))], 1⟩) :
    ∀ (rest pre : List Int), l = pre ++ rest → XH Try.prog base lByt.1.n 0 (lByt.1.c.lp 0) [(9, .c (.p (.tz z 1 (inP l) c))), (10, .c (.p (.int .i64 (inP l).length))), (11, .c (.p (.int .i64 pre.length))), (3, accV 0 1 (byP (bN pre)))] ⟨[(0, accO 1 (byP (bN pre)))], 1⟩ Q := by
  intro rest
  induction rest with
  | nil =>
    intro pre hp
    refine M.round (M.go rfl ?_)
    simp at hp
    subst hp
    refine M.cond rfl (fun hc => ?_) (fun hc => ?_)
    · rw [inPl] at hc; omega
    · refine M.ren [(0, 0)] ?_ trivial rfl (by repeat' (first | exact True.intro | refine ⟨⟨_, _, rfl, rfl, Wk.rfl⟩, ?_⟩ | refine ⟨⟨_, _, accV_ren rfl, rfl, Wk.rfl⟩, ?_⟩ | refine ⟨⟨_, _, accV_ren rfl, rfl, Wk.acc0⟩, ?_⟩ | refine ⟨⟨_, _, rfl, rfl, Wk.uncap⟩, ?_⟩ | refine ⟨⟨_, _, rfl, rfl, Wk.nil⟩, ?_⟩)) (by repeat' (first | exact True.intro | refine ⟨⟨_, _, _, rfl, rfl, rfl, WkO.rfl⟩, ?_⟩ | refine HeapOK.acc rfl rfl ?_)) (e' := [(3, accV 0 1 (byP (bN l)))]) (h' := ⟨[(0, accO 1 (byP (bN l)))], 1⟩)
      exact M.exit (M.go rfl (M.done hq))
  | cons b rest ih =>
    intro pre hp
    have hb := incB_gt l 0 hi b (by rw [hp]; simp)
    have hlen : (inP l).length = pre.length + (rest.length + 1) := by rw [hp, inPl]; simp
    have hll : pre.length + rest.length < 1000000 := by rw [hp] at hl; simp at hl; omega
    have ih' := ih (pre ++ [b]) (by rw [hp]; simp)
    rw [show byP (bN (pre ++ [b])) = byP (bN pre) ++ [.int .u8 (b.toNat : Nat)] by simp [bN, byP]] at ih'
    refine M.round (M.go rfl ?_)
    refine M.cond rfl (fun hc => ?_) (fun hc => ?_)
    · refine M.go rfl ?_
      have hu : (inP l)[((pre.length : Int)).toNat]? = some (.int .i64 b) := by rw [hp]; exact at_app _ _ _ _
      refine M.op trivial (SOp.ia rfl rfl (by omega) hu) ?_
      refine M.op trivial (SOp.ld1e rfl hu rfl rfl rfl) ?_
      refine M.go rfl ?_
      rw [show IntKind.u8.wrap b = ((b.toNat : Nat) : Int) by rw [wru8 (by omega) (by omega)]; omega]
      refine M.acc trivial rfl rfl rfl (.own rfl rfl) (by simp) (by simp [bN, byP]; omega) ?_
      refine M.go rfl ?_
      rw [show IntKind.i64.wrap ((pre.length : Int) + 1) = ((pre ++ [b]).length : Int) by rw [wr64 (by omega) (by omega)]; simp]
      exact M.again (XH.ren [(0, 2)] ih' rfl (by repeat' (first | exact True.intro | refine ⟨⟨_, _, rfl, rfl, Wk.rfl⟩, ?_⟩ | refine ⟨⟨_, _, accV_ren rfl, rfl, Wk.rfl⟩, ?_⟩ | refine ⟨⟨_, _, accV_ren rfl, rfl, Wk.acc0⟩, ?_⟩ | refine ⟨⟨_, _, rfl, rfl, Wk.uncap⟩, ?_⟩ | refine ⟨⟨_, _, rfl, rfl, Wk.nil⟩, ?_⟩)) (by repeat' (first | exact True.intro | refine ⟨⟨_, _, _, rfl, rfl, rfl, WkO.rfl⟩, ?_⟩ | refine HeapOK.acc rfl rfl ?_)))
    · rw [hlen] at hc; omega
theorem byt_spec (z : Bool) (c : Option Nat) (l : List Int) (hl : l.length ≤ 1000000) : CallS Try.prog base 18 [.c (.p (.tz z 1 (inP l) c))] ⟨[], 0⟩ (.c (.p (.tz true 1 (byP (bytI l)) none))) ⟨[], 0⟩ := by
  refine CallS.of noNG lByt.2 rfl (M.start (M.go rfl ?_))
  refine M.use0 trivial (mayI_spec z c l hl) rfl rfl rfl ?_
  refine M.go rfl ?_
  refine M.condB rfl (fun h => ?_) (fun h => ?_)
  · refine M.go rfl ?_
    rw [bytI, if_neg (by simpa using h)]
    exact M.ret (M.go rfl (M.done (finQ.ret [] rfl rfl rfl Wk.nil (by repeat' (first | exact True.intro | refine ⟨⟨_, _, _, rfl, rfl, rfl, WkO.rfl⟩, ?_⟩ | refine HeapOK.acc rfl rfl ?_)))))
  · refine M.go rfl ?_
    have hm : mayI l = true := by simpa using h
    rw [bytI, if_pos hm]
    simp only [mayI, Bool.and_eq_true] at hm
    refine M.loop (XH.ren [(0, 0)] (byt_loop z c l hl hm.1 _ ?_ l [] rfl) rfl (by repeat' (first | exact True.intro | refine ⟨⟨_, _, rfl, rfl, Wk.rfl⟩, ?_⟩ | refine ⟨⟨_, _, accV_ren rfl, rfl, Wk.rfl⟩, ?_⟩ | refine ⟨⟨_, _, accV_ren rfl, rfl, Wk.acc0⟩, ?_⟩ | refine ⟨⟨_, _, rfl, rfl, Wk.uncap⟩, ?_⟩ | refine ⟨⟨_, _, rfl, rfl, Wk.nil⟩, ?_⟩)) (by repeat' (first | exact True.intro | refine ⟨⟨_, _, _, rfl, rfl, rfl, WkO.rfl⟩, ?_⟩ | refine HeapOK.acc rfl rfl ?_)))
    refine M.q (M.goN 2 rfl ?_)
    refine M.accF (i := 3) rfl rfl ?_
    refine M.go rfl ?_
    exact M.ret (M.go rfl (M.done (finQ.ret [] rfl rfl rfl (by first | exact Wk.rfl | exact Wk.uncap | exact Wk.nil | exact Wk.b1 rfl | exact Wk.t2 Wk.rfl (Wk.b1 rfl)) (by repeat' (first | exact True.intro | refine ⟨⟨_, _, _, rfl, rfl, rfl, WkO.rfl⟩, ?_⟩ | refine HeapOK.acc rfl rfl ?_)))))
/-! One step. -/
def cntN (b l : List Int) : Nat := l.countP fun x => !decide (x ∈ b)
theorem ct_add (d p q : Int → Bool) (h : ∀ i, (d i).toNat = (p i).toNat + (q i).toNat) : ∀ k, ct d k = ct p k + ct q k
  | 0 => rfl
  | k + 1 => by have := ct_add d p q h k; have h2 := h ((k : Int) + 1); simp only [ct]; omega
theorem dif_cnt (a b : List Int) (ha : incB 0 a = true) (hb : incB 0 b = true) : ct (dif a b) 7 = cntN b a + cntN a b := by
  have e1 := ct_all (fun i => !decide (i ∈ b)) a ha
  have e2 := ct_all (fun i => !decide (i ∈ a)) b hb
  rw [cntN, cntN, ← e1, ← e2]
  refine ct_add _ _ _ (fun i => ?_) 7
  unfold dif
  by_cases g1 : i ∈ a <;> by_cases g2 : i ∈ b <;> simp [g1, g2]
noncomputable def lStR : {F : LF // lowerF Try.prog 21 = some F} := ⟨_, rfl⟩
theorem stA (za zb : Bool) (ca cb : Option Nat) (a b : List Int) (m0 : Nat) (h0 : m0 ≤ 1000000) (ha : a.length ≤ 1000000) (hb : b.length ≤ 1000000) (Q : QX) (hq : Q (.exit 0) [(0, .c (.p (.tz za 1 (inP a) ca))), (1, .c (.p (.tz zb 1 (inP b) cb))), (5, .c (.p (.int .i64 ((m0 + cntN b a : Nat) : Int))))] ⟨[], 0⟩) :
    ∀ (rest pre : List Int), a = pre ++ rest → XH Try.prog base lStR.1.n 0 (lStR.1.c.lp 0) [(0, .c (.p (.tz za 1 (inP a) ca))), (1, .c (.p (.tz zb 1 (inP b) cb))), (6, .c (.p (.int .i64 pre.length))), (5, .c (.p (.int .i64 ((m0 + cntN b pre : Nat) : Int))))] ⟨[], 0⟩ Q := by
  intro rest
  induction rest with
  | nil =>
    intro pre hp
    have hlen : (inP a).length = pre.length := by rw [hp, inPl]; simp
    have hpe : cntN b a = cntN b pre := by rw [hp, List.append_nil]
    rw [hpe] at hq
    refine M.round (M.go rfl ?_)
    refine M.cond rfl (fun hc => absurd hc (by rw [hlen]; omega)) (fun hc => ?_)
    refine M.ren [] ?_ trivial rfl (by repeat' (first | exact True.intro | refine ⟨⟨_, _, rfl, rfl, Wk.rfl⟩, ?_⟩ | refine ⟨⟨_, _, accV_ren rfl, rfl, Wk.rfl⟩, ?_⟩ | refine ⟨⟨_, _, accV_ren rfl, rfl, Wk.acc0⟩, ?_⟩ | refine ⟨⟨_, _, rfl, rfl, Wk.uncap⟩, ?_⟩ | refine ⟨⟨_, _, rfl, rfl, Wk.nil⟩, ?_⟩)) (by repeat' (first | exact True.intro | refine ⟨⟨_, _, _, rfl, rfl, rfl, WkO.rfl⟩, ?_⟩ | refine HeapOK.acc rfl rfl ?_)) (e' := [(0, .c (.p (.tz za 1 (inP a) ca))), (1, .c (.p (.tz zb 1 (inP b) cb))), (5, .c (.p (.int .i64 ((m0 + cntN b pre : Nat) : Int))))]) (h' := ⟨[], 0⟩)
    exact M.exit (M.go rfl (M.done hq))
  | cons v rest ih =>
    intro pre hp
    have hlen : (inP a).length = pre.length + (rest.length + 1) := by rw [hp, inPl]; simp
    have hll : pre.length + rest.length < 1000000 := by have h := ha; rw [hp] at h; simp at h; omega
    have hcn : cntN b pre ≤ pre.length := List.countP_le_length
    have hw2 : IntKind.i64.wrap ((pre.length : Int) + 1) = ((pre ++ [v]).length : Int) := by rw [wr64 (by omega) (by omega)]; simp
    have ih' := ih (pre ++ [v]) (by rw [hp]; simp)
    have hca : cntN b (pre ++ [v]) = cntN b pre + (if v ∈ b then 0 else 1) := by by_cases g : v ∈ b <;> simp [cntN, List.countP_append, List.countP_cons, g]
    have hu : (inP a)[((pre.length : Int)).toNat]? = some (.int .i64 v) := by rw [hp]; exact at_app _ _ _ _
    refine M.round (M.go rfl ?_)
    refine M.cond rfl (fun hc => ?_) (fun hc => absurd (by rw [hlen]; omega) hc)
    refine M.go rfl ?_
    refine M.op trivial (SOp.ia rfl rfl (by omega) hu) ?_
    refine M.op trivial (SOp.ld1e rfl hu rfl rfl rfl) ?_
    refine M.go rfl ?_
    refine M.use0 trivial (in_spec zb cb b v hb) rfl rfl rfl ?_
    refine M.go rfl ?_
    refine M.condN rfl (fun g => ?_) (fun g => ?_)
    · refine M.go rfl ?_
      rw [hw2, show IntKind.i64.wrap (((m0 + cntN b pre : Nat) : Int) + 1) = ((m0 + cntN b (pre ++ [v]) : Nat) : Int) by rw [wr64 (by omega) (by omega), hca, if_neg g]; omega]
      exact M.again (XH.ren [] ih' rfl (by repeat' (first | exact True.intro | refine ⟨⟨_, _, rfl, rfl, Wk.rfl⟩, ?_⟩ | refine ⟨⟨_, _, accV_ren rfl, rfl, Wk.rfl⟩, ?_⟩ | refine ⟨⟨_, _, accV_ren rfl, rfl, Wk.acc0⟩, ?_⟩ | refine ⟨⟨_, _, rfl, rfl, Wk.uncap⟩, ?_⟩ | refine ⟨⟨_, _, rfl, rfl, Wk.nil⟩, ?_⟩)) (by repeat' (first | exact True.intro | refine ⟨⟨_, _, _, rfl, rfl, rfl, WkO.rfl⟩, ?_⟩ | refine HeapOK.acc rfl rfl ?_)))
    · refine M.go rfl ?_
      rw [hca, if_pos g, Nat.add_zero] at ih'
      rw [hw2]
      exact M.again (XH.ren [] ih' rfl (by repeat' (first | exact True.intro | refine ⟨⟨_, _, rfl, rfl, Wk.rfl⟩, ?_⟩ | refine ⟨⟨_, _, accV_ren rfl, rfl, Wk.rfl⟩, ?_⟩ | refine ⟨⟨_, _, accV_ren rfl, rfl, Wk.acc0⟩, ?_⟩ | refine ⟨⟨_, _, rfl, rfl, Wk.uncap⟩, ?_⟩ | refine ⟨⟨_, _, rfl, rfl, Wk.nil⟩, ?_⟩)) (by repeat' (first | exact True.intro | refine ⟨⟨_, _, _, rfl, rfl, rfl, WkO.rfl⟩, ?_⟩ | refine HeapOK.acc rfl rfl ?_)))
theorem stB (za zb : Bool) (ca cb : Option Nat) (a b : List Int) (m0 : Nat) (h0 : m0 ≤ 1000000) (ha : a.length ≤ 1000000) (hb : b.length ≤ 1000000) (Q : QX) (hq : Q (.exit 2) [(0, .c (.p (.tz za 1 (inP a) ca))), (1, .c (.p (.tz zb 1 (inP b) cb))), (5, .c (.p (.int .i64 ((m0 + cntN a b : Nat) : Int))))] ⟨[], 0⟩) :
    ∀ (rest pre : List Int), b = pre ++ rest → XH Try.prog base lStR.1.n 0 (lStR.1.c.lp 1) [(0, .c (.p (.tz za 1 (inP a) ca))), (1, .c (.p (.tz zb 1 (inP b) cb))), (7, .c (.p (.int .i64 pre.length))), (5, .c (.p (.int .i64 ((m0 + cntN a pre : Nat) : Int))))] ⟨[], 0⟩ Q := by
  intro rest
  induction rest with
  | nil =>
    intro pre hp
    have hlen : (inP b).length = pre.length := by rw [hp, inPl]; simp
    have hpe : cntN a b = cntN a pre := by rw [hp, List.append_nil]
    rw [hpe] at hq
    refine M.round (M.go rfl ?_)
    refine M.cond rfl (fun hc => absurd hc (by rw [hlen]; omega)) (fun hc => ?_)
    refine M.ren [] ?_ trivial rfl (by repeat' (first | exact True.intro | refine ⟨⟨_, _, rfl, rfl, Wk.rfl⟩, ?_⟩ | refine ⟨⟨_, _, accV_ren rfl, rfl, Wk.rfl⟩, ?_⟩ | refine ⟨⟨_, _, accV_ren rfl, rfl, Wk.acc0⟩, ?_⟩ | refine ⟨⟨_, _, rfl, rfl, Wk.uncap⟩, ?_⟩ | refine ⟨⟨_, _, rfl, rfl, Wk.nil⟩, ?_⟩)) (by repeat' (first | exact True.intro | refine ⟨⟨_, _, _, rfl, rfl, rfl, WkO.rfl⟩, ?_⟩ | refine HeapOK.acc rfl rfl ?_)) (e' := [(0, .c (.p (.tz za 1 (inP a) ca))), (1, .c (.p (.tz zb 1 (inP b) cb))), (5, .c (.p (.int .i64 ((m0 + cntN a pre : Nat) : Int))))]) (h' := ⟨[], 0⟩)
    exact M.exit (M.go rfl (M.done hq))
  | cons v rest ih =>
    intro pre hp
    have hlen : (inP b).length = pre.length + (rest.length + 1) := by rw [hp, inPl]; simp
    have hll : pre.length + rest.length < 1000000 := by have h := hb; rw [hp] at h; simp at h; omega
    have hcn : cntN a pre ≤ pre.length := List.countP_le_length
    have hw2 : IntKind.i64.wrap ((pre.length : Int) + 1) = ((pre ++ [v]).length : Int) := by rw [wr64 (by omega) (by omega)]; simp
    have ih' := ih (pre ++ [v]) (by rw [hp]; simp)
    have hca : cntN a (pre ++ [v]) = cntN a pre + (if v ∈ a then 0 else 1) := by by_cases g : v ∈ a <;> simp [cntN, List.countP_append, List.countP_cons, g]
    have hu : (inP b)[((pre.length : Int)).toNat]? = some (.int .i64 v) := by rw [hp]; exact at_app _ _ _ _
    refine M.round (M.go rfl ?_)
    refine M.cond rfl (fun hc => ?_) (fun hc => absurd (by rw [hlen]; omega) hc)
    refine M.go rfl ?_
    refine M.op trivial (SOp.ia rfl rfl (by omega) hu) ?_
    refine M.op trivial (SOp.ld1e rfl hu rfl rfl rfl) ?_
    refine M.go rfl ?_
    refine M.use0 trivial (in_spec za ca a v ha) rfl rfl rfl ?_
    refine M.go rfl ?_
    refine M.condN rfl (fun g => ?_) (fun g => ?_)
    · refine M.go rfl ?_
      rw [hw2, show IntKind.i64.wrap (((m0 + cntN a pre : Nat) : Int) + 1) = ((m0 + cntN a (pre ++ [v]) : Nat) : Int) by rw [wr64 (by omega) (by omega), hca, if_neg g]; omega]
      exact M.again (XH.ren [] ih' rfl (by repeat' (first | exact True.intro | refine ⟨⟨_, _, rfl, rfl, Wk.rfl⟩, ?_⟩ | refine ⟨⟨_, _, accV_ren rfl, rfl, Wk.rfl⟩, ?_⟩ | refine ⟨⟨_, _, accV_ren rfl, rfl, Wk.acc0⟩, ?_⟩ | refine ⟨⟨_, _, rfl, rfl, Wk.uncap⟩, ?_⟩ | refine ⟨⟨_, _, rfl, rfl, Wk.nil⟩, ?_⟩)) (by repeat' (first | exact True.intro | refine ⟨⟨_, _, _, rfl, rfl, rfl, WkO.rfl⟩, ?_⟩ | refine HeapOK.acc rfl rfl ?_)))
    · refine M.go rfl ?_
      rw [hca, if_pos g, Nat.add_zero] at ih'
      rw [hw2]
      exact M.again (XH.ren [] ih' rfl (by repeat' (first | exact True.intro | refine ⟨⟨_, _, rfl, rfl, Wk.rfl⟩, ?_⟩ | refine ⟨⟨_, _, accV_ren rfl, rfl, Wk.rfl⟩, ?_⟩ | refine ⟨⟨_, _, accV_ren rfl, rfl, Wk.acc0⟩, ?_⟩ | refine ⟨⟨_, _, rfl, rfl, Wk.uncap⟩, ?_⟩ | refine ⟨⟨_, _, rfl, rfl, Wk.nil⟩, ?_⟩)) (by repeat' (first | exact True.intro | refine ⟨⟨_, _, _, rfl, rfl, rfl, WkO.rfl⟩, ?_⟩ | refine HeapOK.acc rfl rfl ?_)))
theorem stR_spec (za zb : Bool) (ca cb : Option Nat) (a b : List Int) (ha : a.length ≤ 1000000) (hb : b.length ≤ 1000000) : CallS Try.prog base 21 [.c (.p (.tz za 1 (inP a) ca)), .c (.p (.tz zb 1 (inP b) cb))] ⟨[], 0⟩ (.c (.p (.bs (stepI a b)))) ⟨[], 0⟩ := by
  refine CallS.of noNG lStR.2 rfl (M.start (M.go rfl ?_))
  refine M.loop (XH.ren [] (stA za zb ca cb a b 0 (by omega) ha hb _ ?_ a [] rfl) rfl (by repeat' (first | exact True.intro | refine ⟨⟨_, _, rfl, rfl, Wk.rfl⟩, ?_⟩ | refine ⟨⟨_, _, accV_ren rfl, rfl, Wk.rfl⟩, ?_⟩ | refine ⟨⟨_, _, accV_ren rfl, rfl, Wk.acc0⟩, ?_⟩ | refine ⟨⟨_, _, rfl, rfl, Wk.uncap⟩, ?_⟩ | refine ⟨⟨_, _, rfl, rfl, Wk.nil⟩, ?_⟩)) (by repeat' (first | exact True.intro | refine ⟨⟨_, _, _, rfl, rfl, rfl, WkO.rfl⟩, ?_⟩ | refine HeapOK.acc rfl rfl ?_)))
  refine M.q (M.go rfl ?_)
  have hc1 : cntN b a ≤ a.length := List.countP_le_length
  refine M.loop (XH.ren [] (stB za zb ca cb a b (0 + cntN b a) (by omega) ha hb _ ?_ b [] rfl) rfl (by repeat' (first | exact True.intro | refine ⟨⟨_, _, rfl, rfl, Wk.rfl⟩, ?_⟩ | refine ⟨⟨_, _, accV_ren rfl, rfl, Wk.rfl⟩, ?_⟩ | refine ⟨⟨_, _, accV_ren rfl, rfl, Wk.acc0⟩, ?_⟩ | refine ⟨⟨_, _, rfl, rfl, Wk.uncap⟩, ?_⟩ | refine ⟨⟨_, _, rfl, rfl, Wk.nil⟩, ?_⟩)) (by repeat' (first | exact True.intro | refine ⟨⟨_, _, _, rfl, rfl, rfl, WkO.rfl⟩, ?_⟩ | refine HeapOK.acc rfl rfl ?_)))
  refine M.q (M.go rfl ?_)
  refine M.use0 trivial (mbr_spec za ca a ha) rfl rfl rfl ?_
  refine M.go rfl ?_
  refine M.decB rfl (fun h1 => ?_) (fun h1 => ?_)
  · refine M.go rfl ?_
    refine M.use0 rfl (mbr_spec zb cb b hb) rfl rfl rfl ?_
    refine M.go rfl ?_
    refine M.decB rfl (fun h2 => ?_) (fun h2 => ?_)
    · refine M.go rfl ?_
      refine M.ret (M.go rfl (M.done (finQ.ret [] rfl rfl rfl (Wk.b1 ?_) (by repeat' (first | exact True.intro | refine ⟨⟨_, _, _, rfl, rfl, rfl, WkO.rfl⟩, ?_⟩ | refine HeapOK.acc rfl rfl ?_)))))
      have g1 : incB 0 a = true := by simp only [mayI, Bool.and_eq_true] at h1; exact h1.1
      have g2 : incB 0 b = true := by simp only [mayI, Bool.and_eq_true] at h2; exact h2.1
      rw [stepI, h1, h2, dif_cnt a b g1 g2]
      simp only [Bool.true_and]
      exact decide_eq_decide.2 (by omega)
    · refine M.go rfl ?_
      refine M.ret (M.go rfl (M.done (finQ.ret [] rfl rfl rfl (Wk.of ?_) (by repeat' (first | exact True.intro | refine ⟨⟨_, _, _, rfl, rfl, rfl, WkO.rfl⟩, ?_⟩ | refine HeapOK.acc rfl rfl ?_)))))
      rw [stepI, h1, h2]; rfl
  · refine M.go rfl ?_
    refine M.ret (M.go rfl (M.done (finQ.ret [] rfl rfl rfl (Wk.of ?_) (by repeat' (first | exact True.intro | refine ⟨⟨_, _, _, rfl, rfl, rfl, WkO.rfl⟩, ?_⟩ | refine HeapOK.acc rfl rfl ?_)))))
    rw [stepI, h1]; rfl
/-! The law. -/
noncomputable def lBmb : {F : LF // lowerF Try.prog 5 = some F} := ⟨_, rfl⟩
theorem bmb_loop (za zb : Bool) (a b : List Int) (ml : List PC) (hb : b.length ≤ 1000000) (Q : QX) (hq : Q (.exit 0) [(0, .c (.p (.tz za 1 (inP a) none))), (1, .c (.p (.tz zb 1 (inP b) none))), (7, .c (.p (.tz true 1 ml none))), (8, accV 0 1 (byP (uN b)))] ⟨[(0, accO 1 (byP (uN b)))], 1⟩) :
    ∀ (rest pre : List Int), b = pre ++ rest → XH Try.prog base lBmb.1.n 0 (lBmb.1.c.lp 0) [(0, .c (.p (.tz za 1 (inP a) none))), (1, .c (.p (.tz zb 1 (inP b) none))), (7, .c (.p (.tz true 1 ml none))), (9, .c (.p (.int .i64 pre.length))), (8, accV 0 1 (byP (uN pre)))] ⟨[(0, accO 1 (byP (uN pre)))], 1⟩ Q := by
  intro rest
  induction rest with
  | nil =>
    intro pre hp
    refine M.round (M.go rfl ?_)
    simp at hp
    subst hp
    refine M.cond rfl (fun hc => ?_) (fun hc => ?_)
    · rw [inPl] at hc; omega
    · refine M.ren [(0, 0)] ?_ trivial rfl (by repeat' (first | exact True.intro | refine ⟨⟨_, _, rfl, rfl, Wk.rfl⟩, ?_⟩ | refine ⟨⟨_, _, accV_ren rfl, rfl, Wk.rfl⟩, ?_⟩ | refine ⟨⟨_, _, accV_ren rfl, rfl, Wk.acc0⟩, ?_⟩ | refine ⟨⟨_, _, rfl, rfl, Wk.uncap⟩, ?_⟩ | refine ⟨⟨_, _, rfl, rfl, Wk.nil⟩, ?_⟩)) (by repeat' (first | exact True.intro | refine ⟨⟨_, _, _, rfl, rfl, rfl, WkO.rfl⟩, ?_⟩ | refine HeapOK.acc rfl rfl ?_)) (e' := [(0, .c (.p (.tz za 1 (inP a) none))), (1, .c (.p (.tz zb 1 (inP b) none))), (7, .c (.p (.tz true 1 ml none))), (8, accV 0 1 (byP (uN b)))]) (h' := ⟨[(0, accO 1 (byP (uN b)))], 1⟩)
      exact M.exit (M.go rfl (M.done hq))
  | cons v rest ih =>
    intro pre hp
    have hlen : (inP b).length = pre.length + (rest.length + 1) := by rw [hp, inPl]; simp
    have hll : pre.length + rest.length < 1000000 := by rw [hp] at hb; simp at hb; omega
    have ih' := ih (pre ++ [v]) (by rw [hp]; simp)
    rw [show byP (uN (pre ++ [v])) = byP (uN pre) ++ [.int .u8 ((IntKind.u8.wrap v).toNat : Nat)] by simp [uN, byP]] at ih'
    refine M.round (M.go rfl ?_)
    refine M.cond rfl (fun hc => ?_) (fun hc => ?_)
    · refine M.go rfl ?_
      have hu : (inP b)[((pre.length : Int)).toNat]? = some (.int .i64 v) := by rw [hp]; exact at_app _ _ _ _
      refine M.op trivial (SOp.ia rfl rfl (by omega) hu) ?_
      refine M.op trivial (SOp.ld1e rfl hu rfl rfl rfl) ?_
      refine M.go rfl ?_
      have h8 := (u8_in v).1
      rw [show IntKind.u8.wrap v = (((IntKind.u8.wrap v).toNat : Nat) : Int) by omega]
      refine M.acc trivial rfl rfl rfl (.own rfl rfl) (by simp) (by simp [uN, byP]; omega) ?_
      refine M.go rfl ?_
      rw [show IntKind.i64.wrap ((pre.length : Int) + 1) = ((pre ++ [v]).length : Int) by rw [wr64 (by omega) (by omega)]; simp]
      exact M.again (XH.ren [(0, 2)] ih' rfl (by repeat' (first | exact True.intro | refine ⟨⟨_, _, rfl, rfl, Wk.rfl⟩, ?_⟩ | refine ⟨⟨_, _, accV_ren rfl, rfl, Wk.rfl⟩, ?_⟩ | refine ⟨⟨_, _, accV_ren rfl, rfl, Wk.acc0⟩, ?_⟩ | refine ⟨⟨_, _, rfl, rfl, Wk.uncap⟩, ?_⟩ | refine ⟨⟨_, _, rfl, rfl, Wk.nil⟩, ?_⟩)) (by repeat' (first | exact True.intro | refine ⟨⟨_, _, _, rfl, rfl, rfl, WkO.rfl⟩, ?_⟩ | refine HeapOK.acc rfl rfl ?_)))
    · rw [hlen] at hc; omega
theorem sel_byt (a : List Int) (h : mayI a = true) : selI (nI (bytI a)) = a := by
  have h' := h
  simp only [mayI, Bool.and_eq_true] at h'
  have e : nI (bN a) = a := by
    have key : ∀ l : List Int, (∀ x ∈ l, 0 < x ∧ x ≤ 7) → nI (bN l) = l := fun l => by
      induction l with
      | nil => intro _; rfl
      | cons x l ih =>
        intro hx
        have h1 := hx x (by simp)
        have h2 := ih (fun y hy => hx y (List.mem_cons_of_mem _ hy))
        show ((x.toNat : Nat) : Int) :: nI (bN l) = x :: l
        rw [h2, show ((x.toNat : Nat) : Int) = x by omega]
    exact key a (incB_gt a 0 h'.1)
  rw [bytI, if_pos h, e, selI, if_pos h]
theorem Bmb_spec (za zb : Bool) (a b : List Int) : CallS Try.prog base 5 [.c (.p (.tz za 1 (inP a) none)), .c (.p (.tz zb 1 (inP b) none))] ⟨[], 0⟩ (.c (.p (.bool true))) ⟨[], 0⟩ := by
  have hk : ∀ l : List Int, (l.take 10).length ≤ 1000000 := fun l => by rw [List.length_take]; omega
  have hka : (a.take 10).length ≤ 10 := by rw [List.length_take]; omega
  have hkb : (b.take 10).length ≤ 10 := by rw [List.length_take]; omega
  have hx : okY (bytI (a.take 10)) := by
    unfold bytI
    split
    · rename_i h
      simp only [mayI, Bool.and_eq_true] at h
      refine ⟨by simp [bN]; omega, fun v hv => ?_⟩
      simp only [bN, List.mem_map] at hv
      obtain ⟨w, hw, rfl⟩ := hv
      have := incB_gt _ 0 h.1 w hw
      omega
    · exact ⟨by simp, by simp⟩
  have hy : okY (uN (b.take 10)) := by
    refine ⟨by simp [uN]; omega, fun v hv => ?_⟩
    simp only [uN, List.mem_map] at hv
    obtain ⟨w, hw, rfl⟩ := hv
    have := u8_in w
    omega
  have hlsel : ∀ l : List Int, l.length ≤ 1000 → (selI l).length ≤ 100000000000 := fun l hl => by
    unfold selI
    split
    · omega
    · simp
  have hsel : (selI (nI (uN (b.take 10)))).length ≤ 100000000000 := hlsel _ (by simp [nI, uN]; omega)
  have hbl : (bytI (a.take 10)).length ≤ 10 := by unfold bytI; split <;> simp [bN]; omega
  have hsa : (selI (nI (bytI (a.take 10)))).length ≤ 100000000000 := hlsel _ (by simp [nI]; omega)
  refine CallS.of noNG lBmb.2 rfl (M.start (M.go rfl ?_))
  refine M.use0 trivial begun21_spec rfl rfl rfl ?_
  refine M.go rfl ?_
  refine M.use0 trivial (cut10_spec za a none) rfl rfl rfl ?_
  refine M.go rfl ?_
  refine M.use0 trivial (cut10_spec zb b none) rfl rfl rfl ?_
  refine M.go rfl ?_
  refine M.use0 trivial (byt_spec za none (a.take 10) (hk a)) rfl rfl rfl ?_
  refine M.go rfl ?_
  refine M.use0 trivial (mbs_spec true none (bytI (a.take 10)) hx) rfl rfl rfl ?_
  refine M.go rfl ?_
  refine M.loop (XH.ren [(0, 0)] (bmb_loop za zb (a.take 10) (b.take 10) (inP (selI (nI (bytI (a.take 10))))) (hk b) _ ?_ (b.take 10) [] rfl) rfl (by repeat' (first | exact True.intro | refine ⟨⟨_, _, rfl, rfl, Wk.rfl⟩, ?_⟩ | refine ⟨⟨_, _, accV_ren rfl, rfl, Wk.rfl⟩, ?_⟩ | refine ⟨⟨_, _, accV_ren rfl, rfl, Wk.acc0⟩, ?_⟩ | refine ⟨⟨_, _, rfl, rfl, Wk.uncap⟩, ?_⟩ | refine ⟨⟨_, _, rfl, rfl, Wk.nil⟩, ?_⟩)) (by repeat' (first | exact True.intro | refine ⟨⟨_, _, _, rfl, rfl, rfl, WkO.rfl⟩, ?_⟩ | refine HeapOK.acc rfl rfl ?_)))
  refine M.q (M.goN 2 rfl ?_)
  refine M.accF (i := 8) rfl rfl ?_
  refine M.ren [] ?_ trivial rfl (by repeat' (first | exact True.intro | refine ⟨⟨_, _, rfl, rfl, Wk.rfl⟩, ?_⟩ | refine ⟨⟨_, _, accV_ren rfl, rfl, Wk.rfl⟩, ?_⟩ | refine ⟨⟨_, _, accV_ren rfl, rfl, Wk.acc0⟩, ?_⟩ | refine ⟨⟨_, _, rfl, rfl, Wk.uncap⟩, ?_⟩ | refine ⟨⟨_, _, rfl, rfl, Wk.nil⟩, ?_⟩)) (by repeat' (first | exact True.intro | refine ⟨⟨_, _, _, rfl, rfl, rfl, WkO.rfl⟩, ?_⟩ | refine HeapOK.acc rfl rfl ?_)) (e' := [(0, .c (.p (.tz za 1 (inP (a.take 10)) none))), (1, .c (.p (.tz zb 1 (inP (b.take 10)) none))), (7, .c (.p (.tz true 1 (inP (selI (nI (bytI (a.take 10))))) none))), (8, .c (.p (.tz true 1 (byP (uN (b.take 10))) none)))]) (h' := ⟨[], 0⟩)
  refine M.go rfl ?_
  refine M.use0 trivial (mayI_spec za none (a.take 10) (hk a)) rfl rfl rfl ?_
  refine M.go rfl ?_
  refine M.use0 trivial (mbr_spec za none (a.take 10) (hk a)) rfl rfl rfl ?_
  refine M.go rfl ?_
  refine M.decB rfl (fun _ => ?_) (fun h => absurd h (by simp))
  refine M.go rfl ?_
  refine M.use0 rfl (step_spec za zb none none (a.take 10) (b.take 10) (hk a) (hk b)) rfl rfl rfl ?_
  refine M.go rfl ?_
  refine M.use0 rfl (stR_spec za zb none none (a.take 10) (b.take 10) (hk a) (hk b)) rfl rfl rfl ?_
  refine M.go rfl ?_
  refine M.decB rfl (fun _ => ?_) (fun h => absurd h (by simp))
  refine M.go rfl ?_
  refine M.use0 rfl (mbr_spec za none (a.take 10) (hk a)) rfl rfl rfl ?_
  refine M.go rfl ?_
  refine M.decB rfl (fun h1 => ?_) (fun h1 => ?_)
  · refine M.go rfl ?_
    refine M.use0 rfl (mbs_spec true none (uN (b.take 10)) hy) rfl rfl rfl ?_
    refine M.go rfl ?_
    refine M.use0 rfl (ids_spec true none (uN (b.take 10)) hy) rfl rfl rfl ?_
    refine M.go rfl ?_
    refine M.use0 rfl (EqInts_spec true true none none (selI (nI (uN (b.take 10)))) (selI (nI (uN (b.take 10)))) hsel) rfl rfl rfl ?_
    refine M.go rfl ?_
    exact M.ret (M.go rfl (M.done (finQ.ret [] rfl rfl rfl (Wk.of (by simp [XV.sv, XC.sc, PC.sc])) (by repeat' (first | exact True.intro | refine ⟨⟨_, _, _, rfl, rfl, rfl, WkO.rfl⟩, ?_⟩ | refine HeapOK.acc rfl rfl ?_)))))
  · refine M.go rfl ?_
    refine M.use0 rfl (EqInts_spec true za none none (selI (nI (bytI (a.take 10)))) (a.take 10) hsa) rfl rfl rfl ?_
    refine M.go rfl ?_
    refine M.dec rfl (fun _ => ?_) (fun h => absurd (sel_byt _ (by simpa using h1)) h)
    refine M.go rfl ?_
    refine M.use0 rfl (mbs_spec true none (uN (b.take 10)) hy) rfl rfl rfl ?_
    refine M.go rfl ?_
    refine M.use0 rfl (ids_spec true none (uN (b.take 10)) hy) rfl rfl rfl ?_
    refine M.go rfl ?_
    refine M.use0 rfl (EqInts_spec true true none none (selI (nI (uN (b.take 10)))) (selI (nI (uN (b.take 10)))) hsel) rfl rfl rfl ?_
    refine M.go rfl ?_
    exact M.ret (M.go rfl (M.done (finQ.ret [] rfl rfl rfl (Wk.of (by simp [XV.sv, XC.sc, PC.sc])) (by repeat' (first | exact True.intro | refine ⟨⟨_, _, _, rfl, rfl, rfl, WkO.rfl⟩, ?_⟩ | refine HeapOK.acc rfl rfl ?_)))))
theorem bmb_calls (w : World) (v0 : Value) (a : List Int) (v1 : Value) (b : List Int) (h0 : RdI .i64 w (fun _ => True) v0 a) (h1 : RdI .i64 w (fun _ => True) v1 b) :
    Calls Try.prog 5 #[v0, v1] w fun e w' => e = .returned (.bool true) ∧ Below w.heap.size w w' := by
  obtain ⟨z0, g0⟩ := h0.tz
  obtain ⟨z1, g1⟩ := h1.tz
  exact CallS.law (args' := [v0, v1]) (Bmb_spec z0 z1 a b) ⟨g0, g1, trivial⟩
#print axioms bmb_calls
end Go.Proofs.Ytgaaffanoegbhaa

/- slices.Sort of a few numbers: its walk, and that it sorts. -/
namespace Go.Proofs.Ytgaaffanoegbhaa
open Go.RowKit Sim Go Sym
set_option maxRecDepth 100000
set_option linter.unusedVariables false
set_option linter.unusedSimpArgs false
variable {base : Nat}
noncomputable def lNan : {F : LF // lowerF Try.prog 136 = some F} := ⟨_, rfl⟩
theorem nan_spec (a : Int) : CallS Try.prog base 136 [.c (.p (.int .i64 a))] ⟨[], 0⟩ (.c (.p (.bool false))) ⟨[], 0⟩ := by
  refine CallS.of noNG lNan.2 rfl (M.start (M.go rfl ?_))
  exact M.ret (M.go rfl (M.done (finQ.ret [] rfl rfl rfl (Wk.of (by simp [XV.sv, XC.sc, PC.sc])) (by repeat' (first | exact True.intro | refine ⟨⟨_, _, _, rfl, rfl, rfl, WkO.rfl⟩, ?_⟩ | refine HeapOK.acc rfl rfl ?_ | refine HeapOK.es rfl rfl ?_)))))
noncomputable def lLess : {F : LF // lowerF Try.prog 102 = some F} := ⟨_, rfl⟩
theorem less_spec (a b : Int) : CallS Try.prog base 102 [.c (.p (.int .i64 a)), .c (.p (.int .i64 b))] ⟨[], 0⟩ (.c (.p (.bs (decide (a < b))))) ⟨[], 0⟩ := by
  refine CallS.of noNG lLess.2 rfl (M.start (M.go rfl ?_))
  refine M.use0 trivial (nan_spec a) rfl rfl rfl ?_
  refine M.go rfl ?_
  exact M.ret (M.go rfl (M.done (finQ.ret [] rfl rfl rfl (by first | exact Wk.rfl | exact Wk.uncap | exact Wk.nil | exact Wk.b1 rfl | exact Wk.t2 Wk.rfl (Wk.b1 rfl)) (by repeat' (first | exact True.intro | refine ⟨⟨_, _, _, rfl, rfl, rfl, WkO.rfl⟩, ?_⟩ | refine HeapOK.acc rfl rfl ?_ | refine HeapOK.es rfl rfl ?_)))))
/-! What it reckons. -/
def insD : Nat → List Int → List Int
  | 0, v => v
  | j + 1, v => if v.getD (j + 1) 0 < v.getD j 0 then insD j ((v.set (j + 1) (v.getD j 0)).set j (v.getD (j + 1) 0)) else v
def outD : Nat → Nat → List Int → List Int
  | 0, _, v => v
  | r + 1, i, v => outD r (i + 1) (insD i v)
def sortD (v : List Int) : List Int := outD (v.length - 1) 1 v
theorem insD_len : ∀ (j : Nat) (v : List Int), (insD j v).length = v.length
  | 0, v => rfl
  | j + 1, v => by
    rw [insD]
    split
    · rw [insD_len]; simp
    · rfl
theorem outD_len : ∀ (r i : Nat) (v : List Int), (outD r i v).length = v.length
  | 0, i, v => rfl
  | r + 1, i, v => by rw [outD, outD_len, insD_len]
def insR (x : Int) : List Int → List Int
  | [] => [x]
  | y :: l => if x < y then y :: insR x l else x :: y :: l
theorem insD_eq (x : Int) : ∀ (rp r : List Int), insD rp.length (rp.reverse ++ x :: r) = (insR x rp).reverse ++ r
  | [], r => rfl
  | y :: rp, r => by
    have e1 : (y :: rp).reverse ++ x :: r = rp.reverse ++ y :: x :: r := by simp
    have g1 : (rp.reverse ++ y :: x :: r).getD (rp.length + 1) 0 = x := by simp [List.getD]
    have g2 : (rp.reverse ++ y :: x :: r).getD rp.length 0 = y := by simp [List.getD]
    rw [e1, List.length_cons, insD, g1, g2, insR]
    split
    · have e2 : ((rp.reverse ++ y :: x :: r).set (rp.length + 1) y).set rp.length x = rp.reverse ++ x :: (y :: r) := by simp [List.set_append]
      rw [e2, insD_eq x rp (y :: r)]
      simp
    · simp
theorem insR_perm (x : Int) : ∀ l : List Int, (insR x l).Perm (x :: l)
  | [] => List.Perm.refl _
  | y :: l => by
    rw [insR]
    split
    · exact ((insR_perm x l).cons y).trans (List.Perm.swap x y l)
    · exact List.Perm.refl _
theorem insR_sort (x : Int) : ∀ l : List Int, l.Pairwise (fun a b => b ≤ a) → (insR x l).Pairwise (fun a b => b ≤ a)
  | [], _ => by simp [insR]
  | y :: l, h => by
    rw [insR]
    obtain ⟨h1, h2⟩ := List.pairwise_cons.1 h
    split
    · rename_i hxy
      refine List.pairwise_cons.2 ⟨fun a ha => ?_, insR_sort x l h2⟩
      rcases List.mem_cons.1 ((insR_perm x l).mem_iff.1 ha) with rfl | ha
      · omega
      · exact h1 a ha
    · rename_i hxy
      refine List.pairwise_cons.2 ⟨fun a ha => ?_, h⟩
      rcases List.mem_cons.1 ha with rfl | ha
      · omega
      · have := h1 a ha; omega
theorem outD_eq : ∀ (r rp : List Int), rp.Pairwise (fun a b => b ≤ a) → ∃ w : List Int, w.Pairwise (fun a b => b ≤ a) ∧ w.Perm (rp ++ r) ∧ outD r.length rp.length (rp.reverse ++ r) = w.reverse
  | [], rp, h => ⟨rp, h, by simp, by simp [outD]⟩
  | x :: r, rp, h => by
    obtain ⟨w, w1, w2, w3⟩ := outD_eq r (insR x rp) (insR_sort x rp h)
    have hl : (insR x rp).length = rp.length + 1 := by simpa using (insR_perm x rp).length_eq
    refine ⟨w, w1, w2.trans ?_, ?_⟩
    · have h1 : (insR x rp ++ r).Perm (x :: rp ++ r) := (insR_perm x rp).append_right r
      exact h1.trans (by simpa using (List.perm_middle (a := x) (l₁ := rp) (l₂ := r)).symm)
    · rw [List.length_cons, outD, insD_eq, ← hl]; exact w3
theorem sortD_eq (v : List Int) : (sortD v).Pairwise (fun a b => a ≤ b) ∧ (sortD v).Perm v := by
  cases v with
  | nil => exact ⟨List.Pairwise.nil, List.Perm.refl _⟩
  | cons x r =>
    obtain ⟨w, w1, w2, w3⟩ := outD_eq r [x] (by simp)
    have : sortD (x :: r) = w.reverse := by rw [sortD]; simpa using w3
    rw [this]
    exact ⟨by simpa [List.pairwise_reverse] using w1, (List.reverse_perm w).trans (by simpa using w2)⟩
/-! The walk. -/
noncomputable def lIns : {F : LF // lowerF Try.prog 96 = some F} := ⟨_, rfl⟩
def hV (v : List Int) : HS := ⟨[(0, some (.els 1 (inP v)))], 1⟩
theorem inP_at (v : List Int) (j : Nat) (h : j < v.length) : (inP v)[j]? = some (.int .i64 (v.getD j 0)) := by simp [inP, h]
theorem inP_set (v : List Int) (j : Nat) (x : Int) : (inP v).set j (.int .i64 x) = inP (v.set j x) := by simp [inP, List.map_set]
def insE (n i : Nat) (j : Int) : Env := [(7, .c (.p (.int .i64 j))), (0, .c (.sl 0 0 n 1 none)), (1, .c (.p (.int .i64 0))), (2, .c (.p (.int .i64 n))), (6, .c (.p (.int .i64 i)))]
theorem ins_inner (n i : Nat) (hn : n ≤ 1000000) (Q : QX) : ∀ (j : Nat) (v : List Int), v.length = n → j < n → Q (.exit 2) [(0, .c (.sl 0 0 n 1 none)), (1, .c (.p (.int .i64 0))), (2, .c (.p (.int .i64 n))), (6, .c (.p (.int .i64 i)))] (hV (insD j v)) →
    XH Try.prog base lIns.1.n 1 (lIns.1.c.lp 1) (insE n i j) (hV v) Q := by
  intro j
  induction j with
  | zero =>
    intro v hv hj hq
    refine M.round (M.go rfl ?_)
    refine M.regD (MD.go rfl ?_)
    refine MD.dec rfl rfl rfl (fun h => absurd h (by decide)) (fun h => ?_)
    refine MD.go rfl (MD.nil mixed (Fnl.nodup rfl) (M.go rfl ?_))
    refine M.ren [(0, 0)] ?_ trivial rfl (by repeat' (first | exact True.intro | refine ⟨⟨_, _, rfl, rfl, Wk.rfl⟩, ?_⟩ | refine ⟨⟨_, _, accV_ren rfl, rfl, Wk.rfl⟩, ?_⟩ | refine ⟨⟨_, _, accV_ren rfl, rfl, Wk.acc0⟩, ?_⟩ | refine ⟨⟨_, _, rfl, rfl, Wk.uncap⟩, ?_⟩ | refine ⟨⟨_, _, rfl, rfl, Wk.nil⟩, ?_⟩)) (by repeat' (first | exact True.intro | refine ⟨⟨_, _, _, rfl, rfl, rfl, WkO.rfl⟩, ?_⟩ | refine HeapOK.acc rfl rfl ?_ | refine HeapOK.es rfl rfl ?_)) (e' := [(0, .c (.sl 0 0 n 1 none)), (1, .c (.p (.int .i64 0))), (2, .c (.p (.int .i64 n))), (6, .c (.p (.int .i64 i)))]) (h' := hV (insD 0 v))
    exact M.exit (M.go rfl (M.done hq))
  | succ j ih =>
    intro v hv hj hq
    have hw : IntKind.i64.wrap (((j + 1 : Nat) : Int) - 1) = (j : Nat) := by rw [wr64 (by omega) (by omega)]; omega
    have a1 := inP_at v (j + 1) (by omega)
    have a2 := inP_at v j (by omega)
    refine M.round (M.go rfl ?_)
    refine M.regD (MD.go rfl ?_)
    refine MD.dec rfl rfl rfl (fun h => ?_) (fun h => absurd (by omega) h)
    refine MD.go rfl ?_
    refine MD.op rfl (SOp.iaOn rfl rfl (by omega)) (MD.go rfl ?_)
    refine MD.op rfl (SOp.ld1O rfl rfl a1 rfl rfl rfl) (MD.go rfl ?_)
    rw [hw]
    refine MD.op rfl (SOp.iaOn rfl rfl (by omega)) (MD.go rfl ?_)
    refine MD.op rfl (SOp.ld1O rfl rfl a2 rfl rfl rfl) (MD.go rfl ?_)
    refine MD.use0 rfl (less_spec _ _) rfl rfl rfl (MD.go rfl (MD.nil mixed (Fnl.nodup rfl) (M.go rfl ?_)))
    refine M.cond rfl (fun hc => ?_) (fun hc => ?_)
    · rw [insD, if_pos hc] at hq
      refine M.go rfl (M.regD (MD.go rfl ?_))
      rw [hw]
      refine MD.op trivial (SOp.iaOn rfl rfl (by omega)) (MD.go rfl ?_)
      refine MD.op trivial (SOp.ld1O rfl rfl a2 rfl rfl rfl) (MD.go rfl ?_)
      refine MD.op trivial (SOp.iaOn rfl rfl (by omega)) (MD.go rfl ?_)
      refine MD.op trivial (SOp.ld1O rfl rfl a1 rfl rfl rfl) (MD.go rfl ?_)
      refine MD.op trivial (SOp.iaOn rfl rfl (by omega)) (MD.go rfl ?_)
      refine MD.op trivial (SOp.stE1 rfl rfl rfl rfl (by rw [inPl]; omega)) ?_
      rw [inP_set]
      refine MD.go rfl ?_
      refine MD.op trivial (SOp.iaOn rfl rfl (by omega)) (MD.go rfl ?_)
      refine MD.op trivial (SOp.stE1 rfl rfl rfl rfl (by rw [inPl]; simp; omega)) ?_
      rw [inP_set]
      refine MD.go rfl (MD.nil mixed (Fnl.nodup rfl) (M.go rfl ?_))
      rw [hw]
      exact M.again (XH.ren [(0, 0)] (ih _ (by simpa using hv) (by omega) hq) rfl (by repeat' (first | exact True.intro | refine ⟨⟨_, _, rfl, rfl, Wk.rfl⟩, ?_⟩ | refine ⟨⟨_, _, accV_ren rfl, rfl, Wk.rfl⟩, ?_⟩ | refine ⟨⟨_, _, accV_ren rfl, rfl, Wk.acc0⟩, ?_⟩ | refine ⟨⟨_, _, rfl, rfl, Wk.uncap⟩, ?_⟩ | refine ⟨⟨_, _, rfl, rfl, Wk.nil⟩, ?_⟩)) (by repeat' (first | exact True.intro | refine ⟨⟨_, _, _, rfl, rfl, rfl, WkO.rfl⟩, ?_⟩ | refine HeapOK.acc rfl rfl ?_ | refine HeapOK.es rfl rfl ?_)))
    · rw [insD, if_neg hc] at hq
      refine M.ren [(0, 0)] ?_ trivial rfl (by repeat' (first | exact True.intro | refine ⟨⟨_, _, rfl, rfl, Wk.rfl⟩, ?_⟩ | refine ⟨⟨_, _, accV_ren rfl, rfl, Wk.rfl⟩, ?_⟩ | refine ⟨⟨_, _, accV_ren rfl, rfl, Wk.acc0⟩, ?_⟩ | refine ⟨⟨_, _, rfl, rfl, Wk.uncap⟩, ?_⟩ | refine ⟨⟨_, _, rfl, rfl, Wk.nil⟩, ?_⟩)) (by repeat' (first | exact True.intro | refine ⟨⟨_, _, _, rfl, rfl, rfl, WkO.rfl⟩, ?_⟩ | refine HeapOK.acc rfl rfl ?_ | refine HeapOK.es rfl rfl ?_)) (e' := [(0, .c (.sl 0 0 n 1 none)), (1, .c (.p (.int .i64 0))), (2, .c (.p (.int .i64 n))), (6, .c (.p (.int .i64 i)))]) (h' := hV v)
      exact M.exit (M.go rfl (M.done hq))
theorem ins_outer (n : Nat) (hn : n ≤ 1000000) (Q : QX) : ∀ (r i : Nat) (v : List Int), v.length = n → i + r = n → Q (.exit 0) [] (hV (outD r i v)) →
    XH Try.prog base lIns.1.n 1 (lIns.1.c.lp 0) [(6, .c (.p (.int .i64 i))), (0, .c (.sl 0 0 n 1 none)), (1, .c (.p (.int .i64 0))), (2, .c (.p (.int .i64 n)))] (hV v) Q := by
  intro r
  induction r with
  | zero =>
    intro i v hv hi hq
    refine M.round (M.go rfl ?_)
    refine M.cond rfl (fun h => absurd h (by omega)) (fun h => ?_)
    refine M.ren [(0, 0)] ?_ trivial rfl (by repeat' (first | exact True.intro | refine ⟨⟨_, _, rfl, rfl, Wk.rfl⟩, ?_⟩ | refine ⟨⟨_, _, accV_ren rfl, rfl, Wk.rfl⟩, ?_⟩ | refine ⟨⟨_, _, accV_ren rfl, rfl, Wk.acc0⟩, ?_⟩ | refine ⟨⟨_, _, rfl, rfl, Wk.uncap⟩, ?_⟩ | refine ⟨⟨_, _, rfl, rfl, Wk.nil⟩, ?_⟩)) (by repeat' (first | exact True.intro | refine ⟨⟨_, _, _, rfl, rfl, rfl, WkO.rfl⟩, ?_⟩ | refine HeapOK.acc rfl rfl ?_ | refine HeapOK.es rfl rfl ?_)) (e' := []) (h' := hV v)
    exact M.exit (M.go rfl (M.done hq))
  | succ r ih =>
    intro i v hv hi hq
    have hw : IntKind.i64.wrap ((i : Int) + 1) = (i + 1 : Nat) := by rw [wr64 (by omega) (by omega)]; omega
    refine M.round (M.go rfl ?_)
    refine M.cond rfl (fun h => ?_) (fun h => absurd (by omega) h)
    refine M.go rfl ?_
    refine M.loop (XH.ren [(0, 0)] (ins_inner n i hn _ i v hv (by omega) ?_) rfl (by repeat' (first | exact True.intro | refine ⟨⟨_, _, rfl, rfl, Wk.rfl⟩, ?_⟩ | refine ⟨⟨_, _, accV_ren rfl, rfl, Wk.rfl⟩, ?_⟩ | refine ⟨⟨_, _, accV_ren rfl, rfl, Wk.acc0⟩, ?_⟩ | refine ⟨⟨_, _, rfl, rfl, Wk.uncap⟩, ?_⟩ | refine ⟨⟨_, _, rfl, rfl, Wk.nil⟩, ?_⟩)) (by repeat' (first | exact True.intro | refine ⟨⟨_, _, _, rfl, rfl, rfl, WkO.rfl⟩, ?_⟩ | refine HeapOK.acc rfl rfl ?_ | refine HeapOK.es rfl rfl ?_)))
    refine M.q (M.go rfl ?_)
    rw [hw]
    exact M.again (XH.ren [(0, 0)] (ih (i + 1) _ (by rw [insD_len]; exact hv) (by omega) hq) rfl (by repeat' (first | exact True.intro | refine ⟨⟨_, _, rfl, rfl, Wk.rfl⟩, ?_⟩ | refine ⟨⟨_, _, accV_ren rfl, rfl, Wk.rfl⟩, ?_⟩ | refine ⟨⟨_, _, accV_ren rfl, rfl, Wk.acc0⟩, ?_⟩ | refine ⟨⟨_, _, rfl, rfl, Wk.uncap⟩, ?_⟩ | refine ⟨⟨_, _, rfl, rfl, Wk.nil⟩, ?_⟩)) (by repeat' (first | exact True.intro | refine ⟨⟨_, _, _, rfl, rfl, rfl, WkO.rfl⟩, ?_⟩ | refine HeapOK.acc rfl rfl ?_ | refine HeapOK.es rfl rfl ?_)))
theorem ins_spec (v : List Int) (hv : v.length ≤ 1000000) (h1 : 1 ≤ v.length) : CallS Try.prog base 96 [.c (.sl 0 0 v.length 1 none), .c (.p (.int .i64 0)), .c (.p (.int .i64 v.length))] (hV v) (.tup []) (hV (sortD v)) := by
  refine CallS.of noNG lIns.2 rfl (M.start (M.go rfl ?_))
  refine M.loop (XH.ren [(0, 0)] (ins_outer v.length hv _ (v.length - 1) 1 v rfl (by omega) ?_) rfl (by repeat' (first | exact True.intro | refine ⟨⟨_, _, rfl, rfl, Wk.rfl⟩, ?_⟩ | refine ⟨⟨_, _, accV_ren rfl, rfl, Wk.rfl⟩, ?_⟩ | refine ⟨⟨_, _, accV_ren rfl, rfl, Wk.acc0⟩, ?_⟩ | refine ⟨⟨_, _, rfl, rfl, Wk.uncap⟩, ?_⟩ | refine ⟨⟨_, _, rfl, rfl, Wk.nil⟩, ?_⟩)) (by repeat' (first | exact True.intro | refine ⟨⟨_, _, _, rfl, rfl, rfl, WkO.rfl⟩, ?_⟩ | refine HeapOK.acc rfl rfl ?_ | refine HeapOK.es rfl rfl ?_)))
  refine M.q (M.go rfl ?_)
  exact M.done (finQ.normal [(0, 0)] rfl rfl rfl Wk.rfl (by repeat' (first | exact True.intro | refine ⟨⟨_, _, _, rfl, rfl, rfl, WkO.rfl⟩, ?_⟩ | refine HeapOK.acc rfl rfl ?_ | refine HeapOK.es rfl rfl ?_)))
noncomputable def lPdq : {F : LF // lowerF Try.prog 69 = some F} := ⟨_, rfl⟩
theorem pdq_spec (v : List Int) (hv : v.length ≤ 12) (h1 : 1 ≤ v.length) (k : Int) : CallS Try.prog base 69 [.c (.sl 0 0 v.length 1 none), .c (.p (.int .i64 0)), .c (.p (.int .i64 v.length)), .c (.p (.int .i64 k))] (hV v) (.tup []) (hV (sortD v)) := by
  have hw : IntKind.i64.wrap ((v.length : Int) - 0) = v.length := by rw [wr64 (by omega) (by omega)]; omega
  refine CallS.of noNG lPdq.2 rfl (M.start (M.go rfl ?_))
  refine M.loop (M.round (M.go rfl ?_))
  rw [hw]
  refine M.cond rfl (fun h => ?_) (fun h => absurd (by omega) h)
  refine M.go rfl ?_
  refine M.use (by first | exact True.intro | exact rfl) (ins_spec v (by omega) h1) [(0, 0)] rfl rfl rfl (by repeat' (first | exact True.intro | refine ⟨⟨_, _, _, rfl, rfl, rfl, WkO.rfl⟩, ?_⟩ | refine HeapOK.acc rfl rfl ?_ | refine HeapOK.es rfl rfl ?_)) rfl rfl ?_
  refine M.go rfl ?_
  exact M.ret (M.go rfl (M.done (finQ.ret [(0, 0)] rfl rfl rfl Wk.rfl (by repeat' (first | exact True.intro | refine ⟨⟨_, _, _, rfl, rfl, rfl, WkO.rfl⟩, ?_⟩ | refine HeapOK.acc rfl rfl ?_ | refine HeapOK.es rfl rfl ?_)))))
noncomputable def lSort : {F : LF // lowerF Try.prog 43 = some F} := ⟨_, rfl⟩
def lenB (n : Nat) : Int := match n with
  | 1 => 1
  | 2 => 2
  | 3 => 2
  | _ => 3
theorem len_spec (n : Nat) (h1 : 1 ≤ n) (h7 : n ≤ 7) : CallS Try.prog base 70 [.c (.p (.int .u64 n))] ⟨[], 0⟩ (.c (.p (.int .i64 (lenB n)))) ⟨[], 0⟩ := by
  have : n = 1 ∨ n = 2 ∨ n = 3 ∨ n = 4 ∨ n = 5 ∨ n = 6 ∨ n = 7 := by omega
  rcases this with rfl | rfl | rfl | rfl | rfl | rfl | rfl <;> exact CallS.reck (m := 200) (h' := noMem) mixed noNG (by kernel_rfl)
theorem sort_spec (v : List Int) (hv : v.length ≤ 7) (h1 : 1 ≤ v.length) : CallS Try.prog base 43 [.c (.sl 0 0 v.length 1 none)] (hV v) (.tup []) (hV (sortD v)) := by
  refine CallS.of noNG lSort.2 rfl (M.start (M.go rfl ?_))
  have hw : IntKind.u64.wrap (v.length : Int) = v.length := by
    have : v.length = 1 ∨ v.length = 2 ∨ v.length = 3 ∨ v.length = 4 ∨ v.length = 5 ∨ v.length = 6 ∨ v.length = 7 := by omega
    rcases this with h | h | h | h | h | h | h <;> rw [h] <;> decide
  rw [hw]
  refine M.use0 trivial (len_spec v.length h1 hv) rfl rfl rfl ?_
  refine M.go rfl ?_
  refine M.use (by first | exact True.intro | exact rfl) (pdq_spec v (by omega) h1 (lenB v.length)) [(0, 0)] rfl rfl rfl (by repeat' (first | exact True.intro | refine ⟨⟨_, _, _, rfl, rfl, rfl, WkO.rfl⟩, ?_⟩ | refine HeapOK.acc rfl rfl ?_ | refine HeapOK.es rfl rfl ?_)) rfl rfl ?_
  refine M.go rfl ?_
  exact M.done (finQ.normal [(0, 0)] rfl rfl rfl Wk.rfl (by repeat' (first | exact True.intro | refine ⟨⟨_, _, _, rfl, rfl, rfl, WkO.rfl⟩, ?_⟩ | refine HeapOK.acc rfl rfl ?_ | refine HeapOK.es rfl rfl ?_)))
end Go.Proofs.Ytgaaffanoegbhaa
