/- Texts of this claim, several in one: Bal3, Bal5, Bal6. -/
import Derived.Test.YtgaaffanoegbhaaMgRaftMay10
import Derived.Test.YtgaaffanoegbhaaMgRaftMay4
/- delphilaw21.BallotMeet. -/
namespace Go.Proofs.Ytgaaffanoegbhaa
open Go.RowKit Sim Go Sym
set_option maxRecDepth 100000
set_option linter.unusedVariables false
set_option linter.unusedSimpArgs false
variable {base : Nat}
/-! The plain law. -/
theorem incB_gt : ∀ (l : List Int) (p : Int), incB p l = true → ∀ x ∈ l, p < x ∧ x ≤ 7
  | [], _, _, x, hx => by cases hx
  | b :: l, p, h, x, hx => by
    simp only [incB, Bool.and_eq_true, decide_eq_true_eq] at h
    rcases List.mem_cons.1 hx with rfl | hx
    · exact h.1
    · have := incB_gt l b h.2 x hx
      omega
theorem inc_one (q : Int → Bool) (v : Int) : ∀ (l : List Int) (p : Int), incB p l = true → l.countP (fun x => decide (x = v) && q x) = (decide (v ∈ l) && q v).toNat
  | [], _, _ => by simp
  | b :: l, p, h => by
    have h' := h
    simp only [incB, Bool.and_eq_true, decide_eq_true_eq] at h'
    have ih := inc_one q v l b h'.2
    rw [List.countP_cons, ih]
    by_cases e : b = v
    · subst e
      have hn : ¬ b ∈ l := fun hm => by have := incB_gt l b h'.2 b hm; omega
      cases hq : q b <;> simp [hn, hq]
    · have e' : ¬ v = b := fun h => e h.symm
      simp [e, e']
theorem cnt_split (q : Int → Bool) (k : Int) : ∀ l : List Int, l.countP (fun x => decide (x ≤ k + 1) && q x) = l.countP (fun x => decide (x ≤ k) && q x) + l.countP (fun x => decide (x = k + 1) && q x)
  | [] => rfl
  | b :: l => by
    rw [List.countP_cons, List.countP_cons, List.countP_cons, cnt_split q k l]
    cases hq : q b
    · simp
    · by_cases h1 : b ≤ k
      · have h2 : b ≤ k + 1 := by omega
        have h3 : ¬ b = k + 1 := by omega
        simp [h1, h2, h3]; omega
      · by_cases h3 : b = k + 1
        · subst h3
          have h4 : ¬ k + 1 ≤ k := by omega
          simp [h4]
          try omega
        · have h2 : ¬ b ≤ k + 1 := by omega
          simp [h1, h2, h3]
theorem ct_cnt (q : Int → Bool) (l : List Int) (hl : incB 0 l = true) : ∀ k : Nat, ct (fun i => decide (i ∈ l) && q i) k = l.countP (fun x => decide (x ≤ (k : Int)) && q x)
  | 0 => by
    symm
    show _ = 0
    rw [List.countP_eq_zero]
    intro x hx
    have := incB_gt l 0 hl x hx
    have h : ¬ x ≤ ((0 : Nat) : Int) := by omega
    simp only [h, decide_false, Bool.false_and]
    decide
  | k + 1 => by
    have h := cnt_split q (k : Int) l
    rw [inc_one q ((k : Int) + 1) l 0 hl] at h
    rw [ct, ct_cnt q l hl k, show (((k + 1 : Nat) : Int)) = (k : Int) + 1 by omega, h]
theorem ct_all (q : Int → Bool) (l : List Int) (hl : incB 0 l = true) : ct (fun i => decide (i ∈ l) && q i) 7 = l.countP q := by
  rw [ct_cnt q l hl 7]
  refine List.countP_congr fun x hx => ?_
  have h : x ≤ 7 := (incB_gt l 0 hl x hx).2
  simp [h]
theorem ct_sum (p1 p2 a b d : Int → Bool) (h : ∀ i, 2 * (p1 i).toNat + 2 * (p2 i).toNat ≤ (a i).toNat + (b i).toNat + (d i).toNat) : ∀ k, 2 * ct p1 k + 2 * ct p2 k ≤ ct a k + ct b k + ct d k
  | 0 => by simp [ct]
  | k + 1 => by have := ct_sum p1 p2 a b d h k; have h2 := h ((k : Int) + 1); simp only [ct]; omega
theorem meet_law (a b x y : List Int) (hs : stepI a b = true) (h1 : majI a x = true) (h2 : majI b y = true) : ∃ e ∈ x, e ∈ y ∧ (e ∈ a ∨ e ∈ b) := by
  apply Classical.byContradiction
  intro hn
  have hn' : ∀ e, e ∈ x → e ∈ y → ¬ (e ∈ a ∨ e ∈ b) := fun e g1 g2 g3 => hn ⟨e, g1, g2, g3⟩
  simp only [stepI, mayI, Bool.and_eq_true, decide_eq_true_eq] at hs
  obtain ⟨⟨ha, -⟩, ⟨hb, -⟩, hd⟩ := hs
  simp only [majI, decide_eq_true_eq] at h1 h2
  have e1 := ct_all (fun i => decide (i ∈ x)) a ha
  have e2 := ct_all (fun i => decide (i ∈ y)) b hb
  have e3 := ct_all (fun _ => true) a ha
  have e4 := ct_all (fun _ => true) b hb
  rw [List.countP_true] at e3 e4
  have key := ct_sum (fun i => decide (i ∈ a) && decide (i ∈ x)) (fun i => decide (i ∈ b) && decide (i ∈ y)) (fun i => decide (i ∈ a) && true) (fun i => decide (i ∈ b) && true) (dif a b) (fun i => by
    have hi := hn' i
    unfold dif
    by_cases g1 : i ∈ a <;> by_cases g2 : i ∈ b <;> by_cases g3 : i ∈ x <;> by_cases g4 : i ∈ y <;> simp_all) 7
  have f1 : cnt x a = ct (fun i => decide (i ∈ a) && decide (i ∈ x)) 7 := e1.symm
  have f2 : cnt y b = ct (fun i => decide (i ∈ b) && decide (i ∈ y)) 7 := e2.symm
  omega
/-! The walk. -/
noncomputable def lMeet : {F : LF // lowerF Try.prog 4 = some F} := ⟨_, rfl⟩
theorem meet_loop (za zb zx zy : Bool) (a b x y : List Int) (ha : a.length ≤ 1000000) (hb : b.length ≤ 1000000) (hx : x.length ≤ 1000000) (hy : y.length ≤ 1000000) (hm : ∃ e ∈ x, e ∈ y ∧ (e ∈ a ∨ e ∈ b)) (Q : QX) (hr : Q .ret [(8, .c (.p (.bool true)))] ⟨[], 0⟩) :
    ∀ (rest pre : List Int), x = pre ++ rest → (∀ e ∈ pre, ¬ (e ∈ y ∧ (e ∈ a ∨ e ∈ b))) → XH Try.prog base lMeet.1.n 0 (lMeet.1.c.lp 0) [(0, .c (.p (.tz za 1 (inP a) none))), (1, .c (.p (.tz zb 1 (inP b) none))), (2, .c (.p (.tz zx 1 (inP x) none))), (3, .c (.p (.tz zy 1 (inP y) none))), (10, .c (.p (.int .i64 pre.length)))] ⟨[], 0⟩ Q := by
  intro rest
  induction rest with
  | nil =>
    intro pre hp hpre
    obtain ⟨e, h1, h2⟩ := hm
    rw [hp, List.append_nil] at h1
    exact absurd h2 (hpre e h1)
  | cons v rest ih =>
    intro pre hp hpre
    have hlen : (inP x).length = pre.length + (rest.length + 1) := by rw [hp, inPl]; simp
    have hll : pre.length + rest.length < 1000000 := by rw [hp] at hx; simp at hx; omega
    have hw2 : IntKind.i64.wrap ((pre.length : Int) + 1) = ((pre ++ [v]).length : Int) := by rw [wr64 (by omega) (by omega)]; simp
    have hu : (inP x)[((pre.length : Int)).toNat]? = some (.int .i64 v) := by rw [hp]; exact at_app _ _ _ _
    have next : ¬ (v ∈ y ∧ (v ∈ a ∨ v ∈ b)) → XH Try.prog base lMeet.1.n 0 (lMeet.1.c.lp 0) [(0, .c (.p (.tz za 1 (inP a) none))), (1, .c (.p (.tz zb 1 (inP b) none))), (2, .c (.p (.tz zx 1 (inP x) none))), (3, .c (.p (.tz zy 1 (inP y) none))), (10, .c (.p (.int .i64 (pre ++ [v]).length)))] ⟨[], 0⟩ Q := fun h => ih (pre ++ [v]) (by rw [hp]; simp) (fun e he => by
      rcases List.mem_append.1 he with h1 | h1
      · exact hpre e h1
      · obtain rfl := List.mem_singleton.1 h1; exact h)
    refine M.round (M.go rfl ?_)
    refine M.cond rfl (fun hc => ?_) (fun hc => absurd (by rw [hlen]; omega) hc)
    refine M.go rfl ?_
    refine M.op trivial (SOp.ia rfl rfl (by omega) hu) ?_
    refine M.op trivial (SOp.ld1e rfl hu rfl rfl rfl) ?_
    refine M.go rfl ?_
    refine M.use0 trivial (in_spec zy none y v hy) rfl rfl rfl ?_
    refine M.go rfl ?_
    refine M.dec rfl (fun g1 => ?_) (fun g1 => ?_)
    · refine M.go rfl ?_
      refine M.op rfl (SOp.ia rfl rfl (by omega) hu) ?_
      refine M.op rfl (SOp.ld1e rfl hu rfl rfl rfl) ?_
      refine M.go rfl ?_
      refine M.use0 rfl (in_spec za none a v ha) rfl rfl rfl ?_
      refine M.go rfl ?_
      refine M.dec rfl (fun g2 => ?_) (fun g2 => ?_)
      · refine M.go rfl ?_
        refine M.ren [] ?_ trivial rfl (by repeat' (first | exact True.intro | refine ⟨⟨_, _, rfl, rfl, Wk.rfl⟩, ?_⟩ | refine ⟨⟨_, _, accV_ren rfl, rfl, Wk.rfl⟩, ?_⟩ | refine ⟨⟨_, _, accV_ren rfl, rfl, Wk.acc0⟩, ?_⟩ | refine ⟨⟨_, _, rfl, rfl, Wk.uncap⟩, ?_⟩ | refine ⟨⟨_, _, rfl, rfl, Wk.nil⟩, ?_⟩)) (by repeat' (first | exact True.intro | refine ⟨⟨_, _, _, rfl, rfl, rfl, WkO.rfl⟩, ?_⟩ | refine HeapOK.acc rfl rfl ?_ | refine HeapOK.es rfl rfl ?_)) (e' := [(8, .c (.p (.bool true)))]) (h' := ⟨[], 0⟩)
        exact M.ret (M.go rfl (M.done hr))
      · refine M.go rfl ?_
        refine M.op rfl (SOp.ia rfl rfl (by omega) hu) ?_
        refine M.op rfl (SOp.ld1e rfl hu rfl rfl rfl) ?_
        refine M.go rfl ?_
        refine M.use0 rfl (in_spec zb none b v hb) rfl rfl rfl ?_
        refine M.go rfl ?_
        refine M.cond rfl (fun g3 => ?_) (fun g3 => ?_)
        · refine M.go rfl ?_
          refine M.ren [] ?_ trivial rfl (by repeat' (first | exact True.intro | refine ⟨⟨_, _, rfl, rfl, Wk.rfl⟩, ?_⟩ | refine ⟨⟨_, _, accV_ren rfl, rfl, Wk.rfl⟩, ?_⟩ | refine ⟨⟨_, _, accV_ren rfl, rfl, Wk.acc0⟩, ?_⟩ | refine ⟨⟨_, _, rfl, rfl, Wk.uncap⟩, ?_⟩ | refine ⟨⟨_, _, rfl, rfl, Wk.nil⟩, ?_⟩)) (by repeat' (first | exact True.intro | refine ⟨⟨_, _, _, rfl, rfl, rfl, WkO.rfl⟩, ?_⟩ | refine HeapOK.acc rfl rfl ?_ | refine HeapOK.es rfl rfl ?_)) (e' := [(8, .c (.p (.bool true)))]) (h' := ⟨[], 0⟩)
          exact M.ret (M.go rfl (M.done hr))
        · refine M.go rfl ?_
          rw [hw2]
          exact M.again (XH.ren [] (next (fun h => by rcases h.2 with h | h; exact g2 h; exact g3 h)) rfl (by repeat' (first | exact True.intro | refine ⟨⟨_, _, rfl, rfl, Wk.rfl⟩, ?_⟩ | refine ⟨⟨_, _, accV_ren rfl, rfl, Wk.rfl⟩, ?_⟩ | refine ⟨⟨_, _, accV_ren rfl, rfl, Wk.acc0⟩, ?_⟩ | refine ⟨⟨_, _, rfl, rfl, Wk.uncap⟩, ?_⟩ | refine ⟨⟨_, _, rfl, rfl, Wk.nil⟩, ?_⟩)) (by repeat' (first | exact True.intro | refine ⟨⟨_, _, _, rfl, rfl, rfl, WkO.rfl⟩, ?_⟩ | refine HeapOK.acc rfl rfl ?_ | refine HeapOK.es rfl rfl ?_)))
    · refine M.go rfl ?_
      rw [hw2]
      exact M.again (XH.ren [] (next (fun h => g1 h.1)) rfl (by repeat' (first | exact True.intro | refine ⟨⟨_, _, rfl, rfl, Wk.rfl⟩, ?_⟩ | refine ⟨⟨_, _, accV_ren rfl, rfl, Wk.rfl⟩, ?_⟩ | refine ⟨⟨_, _, accV_ren rfl, rfl, Wk.acc0⟩, ?_⟩ | refine ⟨⟨_, _, rfl, rfl, Wk.uncap⟩, ?_⟩ | refine ⟨⟨_, _, rfl, rfl, Wk.nil⟩, ?_⟩)) (by repeat' (first | exact True.intro | refine ⟨⟨_, _, _, rfl, rfl, rfl, WkO.rfl⟩, ?_⟩ | refine HeapOK.acc rfl rfl ?_ | refine HeapOK.es rfl rfl ?_)))
theorem Meet_spec (za zb zx zy : Bool) (a b x y : List Int) : CallS Try.prog base 4 [.c (.p (.tz za 1 (inP a) none)), .c (.p (.tz zb 1 (inP b) none)), .c (.p (.tz zx 1 (inP x) none)), .c (.p (.tz zy 1 (inP y) none))] ⟨[], 0⟩ (.c (.p (.bool true))) ⟨[], 0⟩ := by
  have hk : ∀ l : List Int, (l.take 10).length ≤ 1000000 := fun l => by rw [List.length_take]; omega
  refine CallS.of noNG lMeet.2 rfl (M.start (M.go rfl ?_))
  refine M.use0 trivial begun21_spec rfl rfl rfl ?_
  refine M.go rfl ?_
  refine M.use0 trivial (cut10_spec za a none) rfl rfl rfl ?_
  refine M.go rfl ?_
  refine M.use0 trivial (cut10_spec zb b none) rfl rfl rfl ?_
  refine M.go rfl ?_
  refine M.use0 trivial (cut10_spec zx x none) rfl rfl rfl ?_
  refine M.go rfl ?_
  refine M.use0 trivial (cut10_spec zy y none) rfl rfl rfl ?_
  refine M.go rfl ?_
  refine M.use0 trivial (step_spec za zb none none (a.take 10) (b.take 10) (hk a) (hk b)) rfl rfl rfl ?_
  refine M.go rfl ?_
  refine M.decB rfl (fun h1 => ?_) (fun h1 => ?_)
  · refine M.go rfl ?_
    exact M.ret (M.go rfl (M.done (finQ.ret [] rfl rfl rfl (by first | exact Wk.rfl | exact Wk.uncap | exact Wk.nil | exact Wk.b1 rfl | exact Wk.t2 Wk.rfl (Wk.b1 rfl)) (by repeat' (first | exact True.intro | refine ⟨⟨_, _, _, rfl, rfl, rfl, WkO.rfl⟩, ?_⟩ | refine HeapOK.acc rfl rfl ?_ | refine HeapOK.es rfl rfl ?_)))))
  · refine M.go rfl ?_
    refine M.use0 rfl (maj_spec za zx none none (a.take 10) (x.take 10) (hk a) (hk x)) rfl rfl rfl ?_
    refine M.go rfl ?_
    refine M.decB rfl (fun h2 => ?_) (fun h2 => ?_)
    · refine M.go rfl ?_
      exact M.ret (M.go rfl (M.done (finQ.ret [] rfl rfl rfl (by first | exact Wk.rfl | exact Wk.uncap | exact Wk.nil | exact Wk.b1 rfl | exact Wk.t2 Wk.rfl (Wk.b1 rfl)) (by repeat' (first | exact True.intro | refine ⟨⟨_, _, _, rfl, rfl, rfl, WkO.rfl⟩, ?_⟩ | refine HeapOK.acc rfl rfl ?_ | refine HeapOK.es rfl rfl ?_)))))
    · refine M.go rfl ?_
      refine M.use0 rfl (maj_spec zb zy none none (b.take 10) (y.take 10) (hk b) (hk y)) rfl rfl rfl ?_
      refine M.go rfl ?_
      refine M.condB rfl (fun h3 => ?_) (fun h3 => ?_)
      · refine M.go rfl ?_
        exact M.ret (M.go rfl (M.done (finQ.ret [] rfl rfl rfl (by first | exact Wk.rfl | exact Wk.uncap | exact Wk.nil | exact Wk.b1 rfl | exact Wk.t2 Wk.rfl (Wk.b1 rfl)) (by repeat' (first | exact True.intro | refine ⟨⟨_, _, _, rfl, rfl, rfl, WkO.rfl⟩, ?_⟩ | refine HeapOK.acc rfl rfl ?_ | refine HeapOK.es rfl rfl ?_)))))
      · refine M.go rfl ?_
        have hm := meet_law (a.take 10) (b.take 10) (x.take 10) (y.take 10) (by simpa using h1) (by simpa using h2) (by simpa using h3)
        refine M.loop (XH.ren [] (meet_loop za zb zx zy _ _ _ _ (hk a) (hk b) (hk x) (hk y) hm _ ?_ _ [] rfl (by simp)) rfl (by repeat' (first | exact True.intro | refine ⟨⟨_, _, rfl, rfl, Wk.rfl⟩, ?_⟩ | refine ⟨⟨_, _, accV_ren rfl, rfl, Wk.rfl⟩, ?_⟩ | refine ⟨⟨_, _, accV_ren rfl, rfl, Wk.acc0⟩, ?_⟩ | refine ⟨⟨_, _, rfl, rfl, Wk.uncap⟩, ?_⟩ | refine ⟨⟨_, _, rfl, rfl, Wk.nil⟩, ?_⟩)) (by repeat' (first | exact True.intro | refine ⟨⟨_, _, _, rfl, rfl, rfl, WkO.rfl⟩, ?_⟩ | refine HeapOK.acc rfl rfl ?_ | refine HeapOK.es rfl rfl ?_)))
        refine M.q (M.go rfl ?_)
        exact M.done (finQ.ret [] rfl rfl rfl (by first | exact Wk.rfl | exact Wk.uncap | exact Wk.nil | exact Wk.b1 rfl | exact Wk.t2 Wk.rfl (Wk.b1 rfl)) (by repeat' (first | exact True.intro | refine ⟨⟨_, _, _, rfl, rfl, rfl, WkO.rfl⟩, ?_⟩ | refine HeapOK.acc rfl rfl ?_ | refine HeapOK.es rfl rfl ?_)))
end Go.Proofs.Ytgaaffanoegbhaa

/- delphiref22's EqInts, Members, Ids, Step; ballot's Members, Bytes. -/
namespace Go.Proofs.Ytgaaffanoegbhaa
open Go.RowKit Sim Go Sym
set_option maxRecDepth 100000
set_option linter.unusedVariables false
set_option linter.unusedSimpArgs false
variable {base : Nat}
noncomputable def lEqi : {F : LF // lowerF Try.prog 22 = some F} := ⟨_, rfl⟩
theorem eqi_loop (za zb : Bool) (ca cb : Option Nat) (a b : List Int) (hl : a.length ≤ 100000000000) (Q : QX) :
    ∀ (ra rb pa pb : List Int), a = pa ++ ra → b = pb ++ rb → pa.length = pb.length → ra.length = rb.length → (ra = rb → Q (.exit 0) [] ⟨[], 0⟩) → (¬ ra = rb → Q .ret [(4, .c (.p (.bool false)))] ⟨[], 0⟩) →
      XH Try.prog base lEqi.1.n 0 (lEqi.1.c.lp 0) [(0, .c (.p (.tz za 1 (inP a) ca))), (1, .c (.p (.tz zb 1 (inP b) cb))), (5, .c (.p (.int .i64 pa.length)))] ⟨[], 0⟩ Q := by
  intro ra
  induction ra with
  | nil =>
    intro rb pa pb h1 h2 h3 h4 hq hr
    refine M.round (M.go rfl ?_)
    have h5 : (inP a).length = pa.length := by rw [h1, inPl]; simp
    refine M.cond rfl (fun hc => ?_) (fun hc => ?_)
    · rw [h5] at hc; omega
    · refine M.ren [] ?_ trivial rfl (by repeat' (first | exact True.intro | refine ⟨⟨_, _, rfl, rfl, Wk.rfl⟩, ?_⟩ | refine ⟨⟨_, _, accV_ren rfl, rfl, Wk.rfl⟩, ?_⟩ | refine ⟨⟨_, _, accV_ren rfl, rfl, Wk.acc0⟩, ?_⟩ | refine ⟨⟨_, _, rfl, rfl, Wk.uncap⟩, ?_⟩ | refine ⟨⟨_, _, rfl, rfl, Wk.nil⟩, ?_⟩)) (by repeat' (first | exact True.intro | refine ⟨⟨_, _, _, rfl, rfl, rfl, WkO.rfl⟩, ?_⟩ | refine HeapOK.acc rfl rfl ?_ | refine HeapOK.es rfl rfl ?_)) (e' := []) (h' := ⟨[], 0⟩)
      exact M.exit (M.go rfl (M.done (hq (by cases rb <;> simp_all))))
  | cons x ra ih =>
    intro rb pa pb h1 h2 h3 h4 hq hr
    cases rb with
    | nil => simp at h4
    | cons y rb =>
      refine M.round (M.go rfl ?_)
      have h5 : (inP a).length = pa.length + (ra.length + 1) := by rw [h1, inPl]; simp
      have hw : IntKind.i64.wrap ((pa.length : Int) + 1) = ((pa ++ [x]).length : Int) := by rw [inPl] at h5; rw [wr64 (by omega) (by omega)]; simp
      have hu : (inP a)[((pa.length : Int)).toNat]? = some (.int .i64 x) := by rw [h1]; exact at_app _ _ _ _
      have hv : (inP b)[((pa.length : Int)).toNat]? = some (.int .i64 y) := by rw [h2, h3]; exact at_app _ _ _ _
      refine M.cond rfl (fun hc => ?_) (fun hc => ?_)
      · refine M.go rfl (M.regD (MD.go rfl ?_))
        refine MD.op trivial (SOp.ia rfl rfl (by omega) hu) (MD.go rfl ?_)
        refine MD.op trivial (SOp.ld1e rfl hu rfl rfl rfl) (MD.go rfl ?_)
        refine MD.op trivial (SOp.ia rfl rfl (by omega) hv) (MD.go rfl ?_)
        refine MD.op trivial (SOp.ld1e rfl hv rfl rfl rfl) (MD.go rfl (MD.nil mixed (Fnl.nodup rfl) (M.go rfl ?_)))
        refine M.condN rfl (fun hxy => ?_) (fun hxy => ?_)
        · refine M.go rfl ?_
          refine M.ren [] ?_ trivial rfl (by repeat' (first | exact True.intro | refine ⟨⟨_, _, rfl, rfl, Wk.rfl⟩, ?_⟩ | refine ⟨⟨_, _, accV_ren rfl, rfl, Wk.rfl⟩, ?_⟩ | refine ⟨⟨_, _, accV_ren rfl, rfl, Wk.acc0⟩, ?_⟩ | refine ⟨⟨_, _, rfl, rfl, Wk.uncap⟩, ?_⟩ | refine ⟨⟨_, _, rfl, rfl, Wk.nil⟩, ?_⟩)) (by repeat' (first | exact True.intro | refine ⟨⟨_, _, _, rfl, rfl, rfl, WkO.rfl⟩, ?_⟩ | refine HeapOK.acc rfl rfl ?_ | refine HeapOK.es rfl rfl ?_)) (e' := [(4, .c (.p (.bool false)))]) (h' := ⟨[], 0⟩)
          exact M.ret (M.go rfl (M.done (hr (fun h => hxy (by injection h)))))
        · refine M.go rfl ?_
          rw [hw]
          subst hxy
          refine M.again (XH.ren [] (ih rb (pa ++ [x]) (pb ++ [x]) (by rw [h1]; simp) (by rw [h2]; simp) (by simp [h3]) (by simpa using h4) (fun h => hq (by rw [h])) (fun h => hr (fun h' => h (by injection h')))) rfl (by repeat' (first | exact True.intro | refine ⟨⟨_, _, rfl, rfl, Wk.rfl⟩, ?_⟩ | refine ⟨⟨_, _, accV_ren rfl, rfl, Wk.rfl⟩, ?_⟩ | refine ⟨⟨_, _, accV_ren rfl, rfl, Wk.acc0⟩, ?_⟩ | refine ⟨⟨_, _, rfl, rfl, Wk.uncap⟩, ?_⟩ | refine ⟨⟨_, _, rfl, rfl, Wk.nil⟩, ?_⟩)) (by repeat' (first | exact True.intro | refine ⟨⟨_, _, _, rfl, rfl, rfl, WkO.rfl⟩, ?_⟩ | refine HeapOK.acc rfl rfl ?_ | refine HeapOK.es rfl rfl ?_)))
      · rw [h5] at hc; omega
theorem EqInts_spec (za zb : Bool) (ca cb : Option Nat) (a b : List Int) (hl : a.length ≤ 100000000000) : CallS Try.prog base 22 [.c (.p (.tz za 1 (inP a) ca)), .c (.p (.tz zb 1 (inP b) cb))] ⟨[], 0⟩ (.c (.p (.bs (decide (a = b))))) ⟨[], 0⟩ := by
  refine CallS.of noNG lEqi.2 rfl (M.start (M.go rfl ?_))
  refine M.condN rfl (fun h1 => ?_) (fun h1 => ?_)
  · refine M.go rfl ?_
    rw [decide_eq_false (p := a = b) (fun h => h1 (by rw [h]))]
    exact M.ret (M.go rfl (M.done (finQ.ret [] rfl rfl rfl (by first | exact Wk.rfl | exact Wk.uncap | exact Wk.nil | exact Wk.b1 rfl | exact Wk.t2 Wk.rfl (Wk.b1 rfl)) (by repeat' (first | exact True.intro | refine ⟨⟨_, _, _, rfl, rfl, rfl, WkO.rfl⟩, ?_⟩ | refine HeapOK.acc rfl rfl ?_ | refine HeapOK.es rfl rfl ?_)))))
  · refine M.go rfl ?_
    have h2 : a.length = b.length := by rw [inPl, inPl] at h1; omega
    refine M.loop (XH.ren [] (eqi_loop za zb ca cb a b hl _ a b [] [] rfl rfl rfl h2 (fun h => ?_) (fun h => ?_)) rfl (by repeat' (first | exact True.intro | refine ⟨⟨_, _, rfl, rfl, Wk.rfl⟩, ?_⟩ | refine ⟨⟨_, _, accV_ren rfl, rfl, Wk.rfl⟩, ?_⟩ | refine ⟨⟨_, _, accV_ren rfl, rfl, Wk.acc0⟩, ?_⟩ | refine ⟨⟨_, _, rfl, rfl, Wk.uncap⟩, ?_⟩ | refine ⟨⟨_, _, rfl, rfl, Wk.nil⟩, ?_⟩)) (by repeat' (first | exact True.intro | refine ⟨⟨_, _, _, rfl, rfl, rfl, WkO.rfl⟩, ?_⟩ | refine HeapOK.acc rfl rfl ?_ | refine HeapOK.es rfl rfl ?_)))
    · refine M.q (M.go rfl ?_)
      rw [decide_eq_true h]
      exact M.ret (M.go rfl (M.done (finQ.ret [] rfl rfl rfl (by first | exact Wk.rfl | exact Wk.uncap | exact Wk.nil | exact Wk.b1 rfl | exact Wk.t2 Wk.rfl (Wk.b1 rfl)) (by repeat' (first | exact True.intro | refine ⟨⟨_, _, _, rfl, rfl, rfl, WkO.rfl⟩, ?_⟩ | refine HeapOK.acc rfl rfl ?_ | refine HeapOK.es rfl rfl ?_)))))
    · refine M.q (M.go rfl ?_)
      rw [decide_eq_false h]
      exact M.done (finQ.ret [] rfl rfl rfl (by first | exact Wk.rfl | exact Wk.uncap | exact Wk.nil | exact Wk.b1 rfl | exact Wk.t2 Wk.rfl (Wk.b1 rfl)) (by repeat' (first | exact True.intro | refine ⟨⟨_, _, _, rfl, rfl, rfl, WkO.rfl⟩, ?_⟩ | refine HeapOK.acc rfl rfl ?_ | refine HeapOK.es rfl rfl ?_)))
theorem incB_len : ∀ (l : List Int) (p : Int), p ≤ 7 → incB p l = true → p + l.length ≤ 7
  | [], p, h, _ => by simpa using h
  | b :: l, p, h, hi => by
    simp only [incB, Bool.and_eq_true, decide_eq_true_eq] at hi
    have := incB_len l b hi.1.2 hi.2
    simp only [List.length_cons]
    omega
noncomputable def lMbr : {F : LF // lowerF Try.prog 12 = some F} := ⟨_, rfl⟩
theorem mbr_loop (z : Bool) (c : Option Nat) (l : List Int) (hl : l.length ≤ 1000000) (Q : QX) (hq : incB 0 l = true → Q (.exit 0) [(0, .c (.p (.tz z 1 (inP l) c)))] ⟨[], 0⟩) (hr : incB 0 l = false → Q .ret [(2, .c (.p (.bool false)))] ⟨[], 0⟩) :
    ∀ (rest pre : List Int), l = pre ++ rest → incB 0 pre = true → XH Try.prog base lMbr.1.n 0 (lMbr.1.c.lp 0) [(0, .c (.p (.tz z 1 (inP l) c))), (3, .c (.p (.int .i64 pre.length)))] ⟨[], 0⟩ Q := by
  intro rest
  induction rest with
  | nil =>
    intro pre hp hm
    refine M.round (M.go rfl ?_)
    simp at hp
    subst hp
    refine M.cond rfl (fun hc => ?_) (fun hc => ?_)
    · rw [inPl] at hc; omega
    · refine M.ren [] ?_ trivial rfl (by repeat' (first | exact True.intro | refine ⟨⟨_, _, rfl, rfl, Wk.rfl⟩, ?_⟩ | refine ⟨⟨_, _, accV_ren rfl, rfl, Wk.rfl⟩, ?_⟩ | refine ⟨⟨_, _, accV_ren rfl, rfl, Wk.acc0⟩, ?_⟩ | refine ⟨⟨_, _, rfl, rfl, Wk.uncap⟩, ?_⟩ | refine ⟨⟨_, _, rfl, rfl, Wk.nil⟩, ?_⟩)) (by repeat' (first | exact True.intro | refine ⟨⟨_, _, _, rfl, rfl, rfl, WkO.rfl⟩, ?_⟩ | refine HeapOK.acc rfl rfl ?_ | refine HeapOK.es rfl rfl ?_)) (e' := [(0, .c (.p (.tz z 1 (inP l) c)))]) (h' := ⟨[], 0⟩)
      exact M.exit (M.go rfl (M.done (hq hm)))
  | cons b rest ih =>
    intro pre hp hm
    have hlen : (inP l).length = pre.length + (rest.length + 1) := by rw [hp, inPl]; simp
    have hll : pre.length + rest.length < 1000000 := by rw [hp] at hl; simp at hl; omega
    have hpos : 0 ≤ pre.getLast?.getD 0 := incB_last pre 0 hm
    have hw2 : IntKind.i64.wrap ((pre.length : Int) + 1) = ((pre ++ [b]).length : Int) := by rw [wr64 (by omega) (by omega)]; simp
    have hu : (inP l)[((pre.length : Int)).toNat]? = some (.int .i64 b) := by rw [hp]; exact at_app _ _ _ _
    have hmb : incB 0 l = ((decide (pre.getLast?.getD 0 < b) && decide (b ≤ 7)) && incB b rest) := by rw [hp, incB_app, hm, Bool.true_and, incB]
    refine M.round (M.go rfl ?_)
    refine M.cond rfl (fun hc => ?_) (fun hc => absurd (by rw [hlen]; omega) hc)
    refine M.go rfl (M.regD (MD.go rfl ?_))
    refine MD.op trivial (SOp.ia rfl rfl (by omega) hu) ?_
    refine MD.op trivial (SOp.ld1e rfl hu rfl rfl rfl) ?_
    by_cases h1 : b < 1
    · refine MD.op trivial (SOp.binT rfl rfl rfl (decide_eq_true h1)) (MD.go rfl (MD.nil mixed (Fnl.nodup rfl) (M.go rfl ?_)))
      refine M.ren [] ?_ trivial rfl (by repeat' (first | exact True.intro | refine ⟨⟨_, _, rfl, rfl, Wk.rfl⟩, ?_⟩ | refine ⟨⟨_, _, accV_ren rfl, rfl, Wk.rfl⟩, ?_⟩ | refine ⟨⟨_, _, accV_ren rfl, rfl, Wk.acc0⟩, ?_⟩ | refine ⟨⟨_, _, rfl, rfl, Wk.uncap⟩, ?_⟩ | refine ⟨⟨_, _, rfl, rfl, Wk.nil⟩, ?_⟩)) (by repeat' (first | exact True.intro | refine ⟨⟨_, _, _, rfl, rfl, rfl, WkO.rfl⟩, ?_⟩ | refine HeapOK.acc rfl rfl ?_ | refine HeapOK.es rfl rfl ?_)) (e' := [(2, .c (.p (.bool false)))]) (h' := ⟨[], 0⟩)
      exact M.ret (M.go rfl (M.done (hr (by rw [hmb, decide_eq_false (p := _ < b) (by omega)]; rfl))))
    · refine MD.op trivial (SOp.binF rfl rfl rfl (decide_eq_false h1)) (MD.go rfl ?_)
      refine MD.op rfl (SOp.ia rfl rfl (by omega) hu) ?_
      refine MD.op rfl (SOp.ld1e rfl hu rfl rfl rfl) ?_
      by_cases h2 : 7 < b
      · refine MD.op rfl (SOp.binT rfl rfl rfl (decide_eq_true h2)) (MD.go rfl (MD.nil mixed (Fnl.nodup rfl) (M.go rfl ?_)))
        refine M.ren [] ?_ trivial rfl (by repeat' (first | exact True.intro | refine ⟨⟨_, _, rfl, rfl, Wk.rfl⟩, ?_⟩ | refine ⟨⟨_, _, accV_ren rfl, rfl, Wk.rfl⟩, ?_⟩ | refine ⟨⟨_, _, accV_ren rfl, rfl, Wk.acc0⟩, ?_⟩ | refine ⟨⟨_, _, rfl, rfl, Wk.uncap⟩, ?_⟩ | refine ⟨⟨_, _, rfl, rfl, Wk.nil⟩, ?_⟩)) (by repeat' (first | exact True.intro | refine ⟨⟨_, _, _, rfl, rfl, rfl, WkO.rfl⟩, ?_⟩ | refine HeapOK.acc rfl rfl ?_ | refine HeapOK.es rfl rfl ?_)) (e' := [(2, .c (.p (.bool false)))]) (h' := ⟨[], 0⟩)
        exact M.ret (M.go rfl (M.done (hr (by rw [hmb, decide_eq_false (p := b ≤ 7) (by omega)]; simp))))
      · refine MD.op rfl (SOp.binF rfl rfl rfl (decide_eq_false h2)) (MD.goN 3 rfl ?_)
        by_cases h3 : 0 < (pre.length : Int)
        · refine MD.op rfl (SOp.binT rfl rfl rfl (decide_eq_true h3)) (MD.go rfl ?_)
          obtain ⟨p0, q, rfl⟩ : ∃ p0 q, pre = p0 ++ [q] := ⟨_, _, (List.dropLast_concat_getLast (by rintro rfl; simp at h3)).symm⟩
          have hw : IntKind.i64.wrap (((p0 ++ [q]).length : Int) - 1) = p0.length := by
            rw [wr64 (by simp) (by simp at hll ⊢; omega)]; simp
          have hu' : (inP l)[((p0.length : Int)).toNat]? = some (.int .i64 q) := by rw [hp, List.append_assoc]; exact at_app _ _ _ _
          have e1 : (p0 ++ [q]).getLast?.getD 0 = q := by simp
          refine MD.op rfl (SOp.ia rfl rfl (by omega) hu) ?_
          refine MD.op rfl (SOp.ld1e rfl hu rfl rfl rfl) (MD.go rfl ?_)
          rw [hw]
          refine MD.op rfl (SOp.ia rfl rfl (by omega) hu') ?_
          refine MD.op rfl (SOp.ld1e rfl hu' rfl rfl rfl) ?_
          by_cases h4 : b ≤ q
          · refine MD.op rfl (SOp.binT rfl rfl rfl (decide_eq_true h4)) (MD.go rfl (MD.nil mixed (Fnl.nodup rfl) (M.go rfl ?_)))
            refine M.ren [] ?_ trivial rfl (by repeat' (first | exact True.intro | refine ⟨⟨_, _, rfl, rfl, Wk.rfl⟩, ?_⟩ | refine ⟨⟨_, _, accV_ren rfl, rfl, Wk.rfl⟩, ?_⟩ | refine ⟨⟨_, _, accV_ren rfl, rfl, Wk.acc0⟩, ?_⟩ | refine ⟨⟨_, _, rfl, rfl, Wk.uncap⟩, ?_⟩ | refine ⟨⟨_, _, rfl, rfl, Wk.nil⟩, ?_⟩)) (by repeat' (first | exact True.intro | refine ⟨⟨_, _, _, rfl, rfl, rfl, WkO.rfl⟩, ?_⟩ | refine HeapOK.acc rfl rfl ?_ | refine HeapOK.es rfl rfl ?_)) (e' := [(2, .c (.p (.bool false)))]) (h' := ⟨[], 0⟩)
            exact M.ret (M.go rfl (M.done (hr (by rw [hmb, e1, decide_eq_false (p := q < b) (by omega)]; simp))))
          · refine MD.op rfl (SOp.binF rfl rfl rfl (decide_eq_false h4)) (MD.go rfl (MD.nil mixed (Fnl.nodup rfl) (M.go rfl ?_)))
            rw [hw2]
            refine M.again (XH.ren [] (ih ((p0 ++ [q]) ++ [b]) (by rw [hp]; simp) ?_) rfl (by repeat' (first | exact True.intro | refine ⟨⟨_, _, rfl, rfl, Wk.rfl⟩, ?_⟩ | refine ⟨⟨_, _, accV_ren rfl, rfl, Wk.rfl⟩, ?_⟩ | refine ⟨⟨_, _, accV_ren rfl, rfl, Wk.acc0⟩, ?_⟩ | refine ⟨⟨_, _, rfl, rfl, Wk.uncap⟩, ?_⟩ | refine ⟨⟨_, _, rfl, rfl, Wk.nil⟩, ?_⟩)) (by repeat' (first | exact True.intro | refine ⟨⟨_, _, _, rfl, rfl, rfl, WkO.rfl⟩, ?_⟩ | refine HeapOK.acc rfl rfl ?_ | refine HeapOK.es rfl rfl ?_)))
            rw [incB_app, hm, e1]
            have g1 : q < b := by omega
            have g2 : b ≤ 7 := by omega
            simp [incB, g1, g2]
        · refine MD.op rfl (SOp.binF rfl rfl rfl (decide_eq_false h3)) (MD.go rfl (MD.nil mixed (Fnl.nodup rfl) (M.go rfl ?_)))
          rw [hw2]
          refine M.again (XH.ren [] (ih (pre ++ [b]) (by rw [hp]; simp) ?_) rfl (by repeat' (first | exact True.intro | refine ⟨⟨_, _, rfl, rfl, Wk.rfl⟩, ?_⟩ | refine ⟨⟨_, _, accV_ren rfl, rfl, Wk.rfl⟩, ?_⟩ | refine ⟨⟨_, _, accV_ren rfl, rfl, Wk.acc0⟩, ?_⟩ | refine ⟨⟨_, _, rfl, rfl, Wk.uncap⟩, ?_⟩ | refine ⟨⟨_, _, rfl, rfl, Wk.nil⟩, ?_⟩)) (by repeat' (first | exact True.intro | refine ⟨⟨_, _, _, rfl, rfl, rfl, WkO.rfl⟩, ?_⟩ | refine HeapOK.acc rfl rfl ?_ | refine HeapOK.es rfl rfl ?_)))
          have : pre = [] := List.eq_nil_of_length_eq_zero (by omega)
          subst this
          have g1 : 0 < b := by omega
          have g2 : b ≤ 7 := by omega
          simp [incB, g1, g2]
theorem mbr_spec (z : Bool) (c : Option Nat) (l : List Int) (hl : l.length ≤ 1000000) : CallS Try.prog base 12 [.c (.p (.tz z 1 (inP l) c))] ⟨[], 0⟩ (.c (.p (.bs (mayI l)))) ⟨[], 0⟩ := by
  refine CallS.of noNG lMbr.2 rfl (M.start (M.go rfl ?_))
  refine M.loop (XH.ren [] (mbr_loop z c l hl _ ?_ ?_ l [] rfl rfl) rfl (by repeat' (first | exact True.intro | refine ⟨⟨_, _, rfl, rfl, Wk.rfl⟩, ?_⟩ | refine ⟨⟨_, _, accV_ren rfl, rfl, Wk.rfl⟩, ?_⟩ | refine ⟨⟨_, _, accV_ren rfl, rfl, Wk.acc0⟩, ?_⟩ | refine ⟨⟨_, _, rfl, rfl, Wk.uncap⟩, ?_⟩ | refine ⟨⟨_, _, rfl, rfl, Wk.nil⟩, ?_⟩)) (by repeat' (first | exact True.intro | refine ⟨⟨_, _, _, rfl, rfl, rfl, WkO.rfl⟩, ?_⟩ | refine HeapOK.acc rfl rfl ?_ | refine HeapOK.es rfl rfl ?_)))
  · intro hm
    refine M.q (M.go rfl ?_)
    have h7 := incB_len l 0 (by decide) hm
    refine M.dec rfl (fun h => ?_) (fun h => ?_)
    · refine M.go rfl ?_
      refine M.ret (M.go rfl (M.done (finQ.ret [] rfl rfl rfl (Wk.b1 ?_) (by repeat' (first | exact True.intro | refine ⟨⟨_, _, _, rfl, rfl, rfl, WkO.rfl⟩, ?_⟩ | refine HeapOK.acc rfl rfl ?_ | refine HeapOK.es rfl rfl ?_)))))
      rw [mayI, hm, inPl]
      rw [inPl] at h
      have g : ¬ l = [] := by rintro rfl; simp at h
      cases l with
      | nil => exact absurd rfl g
      | cons a l => simp at h7 ⊢; omega
    · refine M.go rfl ?_
      refine M.ret (M.go rfl (M.done (finQ.ret [] rfl rfl rfl (Wk.of ?_) (by repeat' (first | exact True.intro | refine ⟨⟨_, _, _, rfl, rfl, rfl, WkO.rfl⟩, ?_⟩ | refine HeapOK.acc rfl rfl ?_ | refine HeapOK.es rfl rfl ?_)))))
      rw [inPl] at h
      have g : l = [] := List.eq_nil_of_length_eq_zero (by omega)
      rw [g]; rfl
  · intro hm
    refine M.q (M.go rfl ?_)
    rw [mayI, hm]
    exact M.done (finQ.ret [] rfl rfl rfl (by first | exact Wk.rfl | exact Wk.uncap | exact Wk.nil | exact Wk.b1 rfl | exact Wk.t2 Wk.rfl (Wk.b1 rfl)) (by repeat' (first | exact True.intro | refine ⟨⟨_, _, _, rfl, rfl, rfl, WkO.rfl⟩, ?_⟩ | refine HeapOK.acc rfl rfl ?_ | refine HeapOK.es rfl rfl ?_)))
end Go.Proofs.Ytgaaffanoegbhaa

/- Members as bytes, one step: the document's and ballot's. -/
namespace Go.Proofs.Ytgaaffanoegbhaa
open Go.RowKit Sim Go Sym
set_option maxRecDepth 100000
set_option linter.unusedVariables false
set_option linter.unusedSimpArgs false
variable {base : Nat}
theorem wru8 {n : Int} (h : 0 ≤ n) (h' : n < 256) : IntKind.u8.wrap n = n := by
  have hs : IntKind.u8.signed = false := rfl
  have hb : IntKind.u8.bits = 8 := rfl
  unfold IntKind.wrap
  simp only [hs, hb, Bool.false_and]
  simp
  omega
def nI (l : List Nat) : List Int := l.map fun (b : Nat) => (b : Int)
def selI (l : List Int) : List Int := if mayI l = true then l else []
def okY (l : List Nat) : Prop := l.length ≤ 100000 ∧ ∀ b ∈ l, b < 256
theorem byPl (l : List Nat) : (byP l).length = l.length := by simp [byP]
noncomputable def lMbs : {F : LF // lowerF Try.prog 19 = some F} := ⟨_, rfl⟩
theorem mbs_loop (z : Bool) (c : Option Nat) (l : List Nat) (hl : okY l) (Q : QX) (hq : Q (.exit 0) [(3, accV 0 1 (inP (nI l)))] ⟨[(0, accO 1 (inP (nI l)))], 1⟩) :
    ∀ (rest pre : List Nat), l = pre ++ rest → XH Try.prog base lMbs.1.n 0 (lMbs.1.c.lp 0) [(6, .c (.p (.tz z 1 (byP l) c))), (7, .c (.p (.int .i64 (byP l).length))), (8, .c (.p (.int .i64 pre.length))), (3, accV 0 1 (inP (nI pre)))] ⟨[(0, accO 1 (inP (nI pre)))], 1⟩ Q := by
  intro rest
  induction rest with
  | nil =>
    intro pre hp
    refine M.round (M.go rfl ?_)
    simp at hp
    subst hp
    refine M.cond rfl (fun hc => ?_) (fun hc => ?_)
    · rw [byPl] at hc; omega
    · refine M.ren [(0, 0)] ?_ trivial rfl (by repeat' (first | exact True.intro | refine ⟨⟨_, _, rfl, rfl, Wk.rfl⟩, ?_⟩ | refine ⟨⟨_, _, accV_ren rfl, rfl, Wk.rfl⟩, ?_⟩ | refine ⟨⟨_, _, accV_ren rfl, rfl, Wk.acc0⟩, ?_⟩ | refine ⟨⟨_, _, rfl, rfl, Wk.uncap⟩, ?_⟩ | refine ⟨⟨_, _, rfl, rfl, Wk.nil⟩, ?_⟩)) (by repeat' (first | exact True.intro | refine ⟨⟨_, _, _, rfl, rfl, rfl, WkO.rfl⟩, ?_⟩ | refine HeapOK.acc rfl rfl ?_ | refine HeapOK.es rfl rfl ?_)) (e' := [(3, accV 0 1 (inP (nI l)))]) (h' := ⟨[(0, accO 1 (inP (nI l)))], 1⟩)
      exact M.exit (M.go rfl (M.done hq))
  | cons b rest ih =>
    intro pre hp
    have hbl : b < 256 := hl.2 b (by rw [hp]; simp)
    have hlen : (byP l).length = pre.length + (rest.length + 1) := by rw [hp, byPl]; simp
    have hll : pre.length + rest.length < 100000 := by have := hl.1; rw [hp] at this; simp at this; omega
    have ih' := ih (pre ++ [b]) (by rw [hp]; simp)
    rw [show inP (nI (pre ++ [b])) = inP (nI pre) ++ [.int .i64 b] by simp [nI, inP]] at ih'
    refine M.round (M.go rfl ?_)
    refine M.cond rfl (fun hc => ?_) (fun hc => ?_)
    · refine M.go rfl ?_
      have hu : (byP l)[((pre.length : Int)).toNat]? = some (.int .u8 b) := by rw [hp]; exact at_app _ _ _ _
      refine M.op trivial (SOp.ia rfl rfl (by omega) hu) ?_
      refine M.op trivial (SOp.ld1e rfl hu rfl rfl rfl) ?_
      refine M.go rfl ?_
      rw [show IntKind.i64.wrap (b : Int) = b from wr64 (by omega) (by omega)]
      refine M.acc trivial rfl rfl rfl (.own rfl rfl) (by simp) (by simp [nI, inP]; omega) ?_
      refine M.go rfl ?_
      rw [show IntKind.i64.wrap ((pre.length : Int) + 1) = ((pre ++ [b]).length : Int) by rw [wr64 (by omega) (by omega)]; simp]
      exact M.again (XH.ren [(0, 2)] ih' rfl (by repeat' (first | exact True.intro | refine ⟨⟨_, _, rfl, rfl, Wk.rfl⟩, ?_⟩ | refine ⟨⟨_, _, accV_ren rfl, rfl, Wk.rfl⟩, ?_⟩ | refine ⟨⟨_, _, accV_ren rfl, rfl, Wk.acc0⟩, ?_⟩ | refine ⟨⟨_, _, rfl, rfl, Wk.uncap⟩, ?_⟩ | refine ⟨⟨_, _, rfl, rfl, Wk.nil⟩, ?_⟩)) (by repeat' (first | exact True.intro | refine ⟨⟨_, _, _, rfl, rfl, rfl, WkO.rfl⟩, ?_⟩ | refine HeapOK.acc rfl rfl ?_ | refine HeapOK.es rfl rfl ?_)))
    · rw [hlen] at hc; omega
theorem mbs_spec (z : Bool) (c : Option Nat) (l : List Nat) (hl : okY l) : CallS Try.prog base 19 [.c (.p (.tz z 1 (byP l) c))] ⟨[], 0⟩ (.c (.p (.tz true 1 (inP (selI (nI l))) none))) ⟨[], 0⟩ := by
  refine CallS.of noNG lMbs.2 rfl (M.start (M.go rfl ?_))
  refine M.loop (XH.ren [(0, 0)] (mbs_loop z c l hl _ ?_ l [] rfl) rfl (by repeat' (first | exact True.intro | refine ⟨⟨_, _, rfl, rfl, Wk.rfl⟩, ?_⟩ | refine ⟨⟨_, _, accV_ren rfl, rfl, Wk.rfl⟩, ?_⟩ | refine ⟨⟨_, _, accV_ren rfl, rfl, Wk.acc0⟩, ?_⟩ | refine ⟨⟨_, _, rfl, rfl, Wk.uncap⟩, ?_⟩ | refine ⟨⟨_, _, rfl, rfl, Wk.nil⟩, ?_⟩)) (by repeat' (first | exact True.intro | refine ⟨⟨_, _, _, rfl, rfl, rfl, WkO.rfl⟩, ?_⟩ | refine HeapOK.acc rfl rfl ?_ | refine HeapOK.es rfl rfl ?_)))
  refine M.q (M.goN 2 rfl ?_)
  refine M.accF (i := 3) rfl rfl ?_
  refine M.go rfl ?_
  refine M.use0 trivial (mayI_spec true none (nI l) (by have := hl.1; simp [nI]; omega)) rfl rfl rfl ?_
  refine M.go rfl ?_
  refine M.condB rfl (fun h => ?_) (fun h => ?_)
  · refine M.go rfl ?_
    rw [selI, if_neg (by simpa using h)]
    exact M.ret (M.go rfl (M.done (finQ.ret [] rfl rfl rfl Wk.nil (by repeat' (first | exact True.intro | refine ⟨⟨_, _, _, rfl, rfl, rfl, WkO.rfl⟩, ?_⟩ | refine HeapOK.acc rfl rfl ?_ | refine HeapOK.es rfl rfl ?_)))))
  · refine M.go rfl ?_
    rw [selI, if_pos (by simpa using h)]
    exact M.ret (M.go rfl (M.done (finQ.ret [] rfl rfl rfl (by first | exact Wk.rfl | exact Wk.uncap | exact Wk.nil | exact Wk.b1 rfl | exact Wk.t2 Wk.rfl (Wk.b1 rfl)) (by repeat' (first | exact True.intro | refine ⟨⟨_, _, _, rfl, rfl, rfl, WkO.rfl⟩, ?_⟩ | refine HeapOK.acc rfl rfl ?_ | refine HeapOK.es rfl rfl ?_)))))
noncomputable def lIds : {F : LF // lowerF Try.prog 23 = some F} := ⟨_, rfl⟩
theorem ids_loop (z : Bool) (c : Option Nat) (l : List Nat) (hl : okY l) (Q : QX) (hq : Q (.exit 0) [(3, accV 0 1 (inP (nI (l.take 8))))] ⟨[(0, accO 1 (inP (nI (l.take 8))))], 1⟩) :
    ∀ (rest pre : List Nat), l = pre ++ rest → pre.length ≤ 8 → XH Try.prog base lIds.1.n 0 (lIds.1.c.lp 0) [(0, .c (.p (.tz z 1 (byP l) c))), (4, .c (.p (.int .i64 pre.length))), (3, accV 0 1 (inP (nI pre)))] ⟨[(0, accO 1 (inP (nI pre)))], 1⟩ Q := by
  intro rest
  have out : ∀ pre : List Nat, l.take 8 = pre → Q (.exit 0) [(3, accV 0 1 (inP (nI pre)))] ⟨[(0, accO 1 (inP (nI pre)))], 1⟩ := fun pre h => by rw [← h]; exact hq
  induction rest with
  | nil =>
    intro pre hp h8
    have hlen : (byP l).length = pre.length := by rw [hp, byPl]; simp
    refine M.round (M.go rfl ?_)
    refine M.dec rfl (fun hc => absurd hc (by rw [hlen]; omega)) (fun hc => ?_)
    refine M.go rfl ?_
    refine M.ren [(0, 0)] ?_ trivial rfl (by repeat' (first | exact True.intro | refine ⟨⟨_, _, rfl, rfl, Wk.rfl⟩, ?_⟩ | refine ⟨⟨_, _, accV_ren rfl, rfl, Wk.rfl⟩, ?_⟩ | refine ⟨⟨_, _, accV_ren rfl, rfl, Wk.acc0⟩, ?_⟩ | refine ⟨⟨_, _, rfl, rfl, Wk.uncap⟩, ?_⟩ | refine ⟨⟨_, _, rfl, rfl, Wk.nil⟩, ?_⟩)) (by repeat' (first | exact True.intro | refine ⟨⟨_, _, _, rfl, rfl, rfl, WkO.rfl⟩, ?_⟩ | refine HeapOK.acc rfl rfl ?_ | refine HeapOK.es rfl rfl ?_)) (e' := [(3, accV 0 1 (inP (nI pre)))]) (h' := ⟨[(0, accO 1 (inP (nI pre)))], 1⟩)
    exact M.exit (M.go rfl (M.done (out pre (by rw [hp, List.append_nil, List.take_of_length_le h8]))))
  | cons b rest ih =>
    intro pre hp h8
    have hbl : b < 256 := hl.2 b (by rw [hp]; simp)
    have hlen : (byP l).length = pre.length + (rest.length + 1) := by rw [hp, byPl]; simp
    refine M.round (M.go rfl ?_)
    refine M.dec rfl (fun hc => ?_) (fun hc => absurd (by rw [hlen]; omega) hc)
    refine M.go rfl ?_
    refine M.cond rfl (fun hc => ?_) (fun hc => ?_)
    · refine M.go rfl ?_
      have ih' := ih (pre ++ [b]) (by rw [hp]; simp) (by simp; omega)
      rw [show inP (nI (pre ++ [b])) = inP (nI pre) ++ [.int .i64 b] by simp [nI, inP]] at ih'
      have hu : (byP l)[((pre.length : Int)).toNat]? = some (.int .u8 b) := by rw [hp]; exact at_app _ _ _ _
      refine M.op trivial (SOp.ia rfl rfl (by omega) hu) ?_
      refine M.op trivial (SOp.ld1e rfl hu rfl rfl rfl) ?_
      refine M.go rfl ?_
      rw [show IntKind.i64.wrap (b : Int) = b from wr64 (by omega) (by omega)]
      refine M.acc trivial rfl rfl rfl (.own rfl rfl) (by simp) (by simp [nI, inP]; omega) ?_
      refine M.go rfl ?_
      rw [show IntKind.i64.wrap ((pre.length : Int) + 1) = ((pre ++ [b]).length : Int) by rw [wr64 (by omega) (by omega)]; simp]
      exact M.again (XH.ren [(0, 2)] ih' rfl (by repeat' (first | exact True.intro | refine ⟨⟨_, _, rfl, rfl, Wk.rfl⟩, ?_⟩ | refine ⟨⟨_, _, accV_ren rfl, rfl, Wk.rfl⟩, ?_⟩ | refine ⟨⟨_, _, accV_ren rfl, rfl, Wk.acc0⟩, ?_⟩ | refine ⟨⟨_, _, rfl, rfl, Wk.uncap⟩, ?_⟩ | refine ⟨⟨_, _, rfl, rfl, Wk.nil⟩, ?_⟩)) (by repeat' (first | exact True.intro | refine ⟨⟨_, _, _, rfl, rfl, rfl, WkO.rfl⟩, ?_⟩ | refine HeapOK.acc rfl rfl ?_ | refine HeapOK.es rfl rfl ?_)))
    · refine M.ren [(0, 0)] ?_ trivial rfl (by repeat' (first | exact True.intro | refine ⟨⟨_, _, rfl, rfl, Wk.rfl⟩, ?_⟩ | refine ⟨⟨_, _, accV_ren rfl, rfl, Wk.rfl⟩, ?_⟩ | refine ⟨⟨_, _, accV_ren rfl, rfl, Wk.acc0⟩, ?_⟩ | refine ⟨⟨_, _, rfl, rfl, Wk.uncap⟩, ?_⟩ | refine ⟨⟨_, _, rfl, rfl, Wk.nil⟩, ?_⟩)) (by repeat' (first | exact True.intro | refine ⟨⟨_, _, _, rfl, rfl, rfl, WkO.rfl⟩, ?_⟩ | refine HeapOK.acc rfl rfl ?_ | refine HeapOK.es rfl rfl ?_)) (e' := [(3, accV 0 1 (inP (nI pre)))]) (h' := ⟨[(0, accO 1 (inP (nI pre)))], 1⟩)
      exact M.exit (M.go rfl (M.done (out pre (by rw [hp, List.take_append_of_le_length (by omega), List.take_of_length_le (by omega)]))))
theorem may8 (l : List Nat) : selI (nI (l.take 8)) = selI (nI l) := by
  by_cases h : l.length ≤ 8
  · rw [List.take_of_length_le h]
  · have key : ∀ m : List Nat, 7 < m.length → selI (nI m) = [] := fun m hm => by
      rw [selI, if_neg]
      intro hi
      simp only [mayI, Bool.and_eq_true] at hi
      have := incB_len (nI m) 0 (by decide) hi.1
      simp [nI] at this
      omega
    rw [key _ (by rw [List.length_take]; omega), key _ (by omega)]
theorem ids_spec (z : Bool) (c : Option Nat) (l : List Nat) (hl : okY l) : CallS Try.prog base 23 [.c (.p (.tz z 1 (byP l) c))] ⟨[], 0⟩ (.c (.p (.tz true 1 (inP (selI (nI l))) none))) ⟨[], 0⟩ := by
  rw [← may8]
  refine CallS.of noNG lIds.2 rfl (M.start (M.go rfl ?_))
  refine M.loop (XH.ren [(0, 0)] (ids_loop z c l hl _ ?_ l [] rfl (by simp)) rfl (by repeat' (first | exact True.intro | refine ⟨⟨_, _, rfl, rfl, Wk.rfl⟩, ?_⟩ | refine ⟨⟨_, _, accV_ren rfl, rfl, Wk.rfl⟩, ?_⟩ | refine ⟨⟨_, _, accV_ren rfl, rfl, Wk.acc0⟩, ?_⟩ | refine ⟨⟨_, _, rfl, rfl, Wk.uncap⟩, ?_⟩ | refine ⟨⟨_, _, rfl, rfl, Wk.nil⟩, ?_⟩)) (by repeat' (first | exact True.intro | refine ⟨⟨_, _, _, rfl, rfl, rfl, WkO.rfl⟩, ?_⟩ | refine HeapOK.acc rfl rfl ?_ | refine HeapOK.es rfl rfl ?_)))
  refine M.q (M.goN 2 rfl ?_)
  refine M.accF (i := 3) rfl rfl ?_
  refine M.go rfl ?_
  refine M.use0 trivial (mbr_spec true none (nI (l.take 8)) (by simp [nI]; omega)) rfl rfl rfl ?_
  refine M.go rfl ?_
  refine M.condB rfl (fun h => ?_) (fun h => ?_)
  · refine M.go rfl ?_
    rw [selI, if_neg (by simpa using h)]
    exact M.ret (M.go rfl (M.done (finQ.ret [] rfl rfl rfl Wk.nil (by repeat' (first | exact True.intro | refine ⟨⟨_, _, _, rfl, rfl, rfl, WkO.rfl⟩, ?_⟩ | refine HeapOK.acc rfl rfl ?_ | refine HeapOK.es rfl rfl ?_)))))
  · refine M.go rfl ?_
    rw [selI, if_pos (by simpa using h)]
    exact M.ret (M.go rfl (M.done (finQ.ret [] rfl rfl rfl (by first | exact Wk.rfl | exact Wk.uncap | exact Wk.nil | exact Wk.b1 rfl | exact Wk.t2 Wk.rfl (Wk.b1 rfl)) (by repeat' (first | exact True.intro | refine ⟨⟨_, _, _, rfl, rfl, rfl, WkO.rfl⟩, ?_⟩ | refine HeapOK.acc rfl rfl ?_ | refine HeapOK.es rfl rfl ?_)))))
end Go.Proofs.Ytgaaffanoegbhaa
