/- delphilaw21.BallotMeet. -/
import Derived.Test.YtgaaffanoegbhaaBal2
import Derived.Test.YtgaaffanoegbhaaOpen
namespace Go.Proofs.Ytgaaffanoegbhaa
open Go.RowKit Sim Go Sym
set_option maxRecDepth 100000
set_option linter.unusedVariables false
set_option linter.unusedSimpArgs false
variable {base : Nat}
/-! The plain law. -/
theorem incB_gt : ∀ (l : List Int) (p : Int), incB p l = true → ∀ x ∈ l, p < x ∧ x ≤ 7
  | [], _, _, x, hx => by cases hx
  | b :: l, p, h, x, hx => by
    simp only [incB, Bool.and_eq_true, decide_eq_true_eq] at h
    rcases List.mem_cons.1 hx with rfl | hx
    · exact h.1
    · have := incB_gt l b h.2 x hx
      omega
theorem inc_one (q : Int → Bool) (v : Int) : ∀ (l : List Int) (p : Int), incB p l = true → l.countP (fun x => decide (x = v) && q x) = (decide (v ∈ l) && q v).toNat
  | [], _, _ => by simp
  | b :: l, p, h => by
    have h' := h
    simp only [incB, Bool.and_eq_true, decide_eq_true_eq] at h'
    have ih := inc_one q v l b h'.2
    rw [List.countP_cons, ih]
    by_cases e : b = v
    · subst e
      have hn : ¬ b ∈ l := fun hm => by have := incB_gt l b h'.2 b hm; omega
      cases hq : q b <;> simp [hn, hq]
    · have e' : ¬ v = b := fun h => e h.symm
      simp [e, e']
theorem cnt_split (q : Int → Bool) (k : Int) : ∀ l : List Int, l.countP (fun x => decide (x ≤ k + 1) && q x) = l.countP (fun x => decide (x ≤ k) && q x) + l.countP (fun x => decide (x = k + 1) && q x)
  | [] => rfl
  | b :: l => by
    rw [List.countP_cons, List.countP_cons, List.countP_cons, cnt_split q k l]
    cases hq : q b
    · simp
    · by_cases h1 : b ≤ k
      · have h2 : b ≤ k + 1 := by omega
        have h3 : ¬ b = k + 1 := by omega
        simp [h1, h2, h3]; omega
      · by_cases h3 : b = k + 1
        · subst h3
          have h4 : ¬ k + 1 ≤ k := by omega
          simp [h4]
          try omega
        · have h2 : ¬ b ≤ k + 1 := by omega
          simp [h1, h2, h3]
theorem ct_cnt (q : Int → Bool) (l : List Int) (hl : incB 0 l = true) : ∀ k : Nat, ct (fun i => decide (i ∈ l) && q i) k = l.countP (fun x => decide (x ≤ (k : Int)) && q x)
  | 0 => by
    symm
    show _ = 0
    rw [List.countP_eq_zero]
    intro x hx
    have := incB_gt l 0 hl x hx
    have h : ¬ x ≤ ((0 : Nat) : Int) := by omega
    simp only [h, decide_false, Bool.false_and]
    decide
  | k + 1 => by
    have h := cnt_split q (k : Int) l
    rw [inc_one q ((k : Int) + 1) l 0 hl] at h
    rw [ct, ct_cnt q l hl k, show (((k + 1 : Nat) : Int)) = (k : Int) + 1 by omega, h]
theorem ct_all (q : Int → Bool) (l : List Int) (hl : incB 0 l = true) : ct (fun i => decide (i ∈ l) && q i) 7 = l.countP q := by
  rw [ct_cnt q l hl 7]
  refine List.countP_congr fun x hx => ?_
  have h : x ≤ 7 := (incB_gt l 0 hl x hx).2
  simp [h]
theorem ct_sum (p1 p2 a b d : Int → Bool) (h : ∀ i, 2 * (p1 i).toNat + 2 * (p2 i).toNat ≤ (a i).toNat + (b i).toNat + (d i).toNat) : ∀ k, 2 * ct p1 k + 2 * ct p2 k ≤ ct a k + ct b k + ct d k
  | 0 => by simp [ct]
  | k + 1 => by have := ct_sum p1 p2 a b d h k; have h2 := h ((k : Int) + 1); simp only [ct]; omega
theorem meet_law (a b x y : List Int) (hs : stepI a b = true) (h1 : majI a x = true) (h2 : majI b y = true) : ∃ e ∈ x, e ∈ y ∧ (e ∈ a ∨ e ∈ b) := by
  apply Classical.byContradiction
  intro hn
  have hn' : ∀ e, e ∈ x → e ∈ y → ¬ (e ∈ a ∨ e ∈ b) := fun e g1 g2 g3 => hn ⟨e, g1, g2, g3⟩
  simp only [stepI, mayI, Bool.and_eq_true, decide_eq_true_eq] at hs
  obtain ⟨⟨ha, -⟩, ⟨hb, -⟩, hd⟩ := hs
  simp only [majI, decide_eq_true_eq] at h1 h2
  have e1 := ct_all (fun i => decide (i ∈ x)) a ha
  have e2 := ct_all (fun i => decide (i ∈ y)) b hb
  have e3 := ct_all (fun _ => true) a ha
  have e4 := ct_all (fun _ => true) b hb
  rw [List.countP_true] at e3 e4
  have key := ct_sum (fun i => decide (i ∈ a) && decide (i ∈ x)) (fun i => decide (i ∈ b) && decide (i ∈ y)) (fun i => decide (i ∈ a) && true) (fun i => decide (i ∈ b) && true) (dif a b) (fun i => by
    have hi := hn' i
    unfold dif
    by_cases g1 : i ∈ a <;> by_cases g2 : i ∈ b <;> by_cases g3 : i ∈ x <;> by_cases g4 : i ∈ y <;> simp_all) 7
  have f1 : cnt x a = ct (fun i => decide (i ∈ a) && decide (i ∈ x)) 7 := e1.symm
  have f2 : cnt y b = ct (fun i => decide (i ∈ b) && decide (i ∈ y)) 7 := e2.symm
  omega
/-! The walk. -/
noncomputable def lMeet : {F : LF // lowerF Try.prog 4 = some F} := ⟨_, rfl⟩
theorem meet_loop (za zb zx zy : Bool) (a b x y : List Int) (ha : a.length ≤ 1000000) (hb : b.length ≤ 1000000) (hx : x.length ≤ 1000000) (hy : y.length ≤ 1000000) (hm : ∃ e ∈ x, e ∈ y ∧ (e ∈ a ∨ e ∈ b)) (Q : QX) (hr : Q .ret [(8, .c (.p (.bool true)))] ⟨[], 0⟩) :
    ∀ (rest pre : List Int), x = pre ++ rest → (∀ e ∈ pre, ¬ (e ∈ y ∧ (e ∈ a ∨ e ∈ b))) → XH Try.prog base lMeet.1.n 0 (lMeet.1.c.lp 0) [(0, .c (.p (.tz za 1 (inP a) none))), (1, .c (.p (.tz zb 1 (inP b) none))), (2, .c (.p (.tz zx 1 (inP x) none))), (3, .c (.p (.tz zy 1 (inP y) none))), (10, .c (.p (.int .i64 pre.length)))] ⟨[], 0⟩ Q := by
  intro rest
  induction rest with
  | nil =>
    intro pre hp hpre
    obtain ⟨e, h1, h2⟩ := hm
    rw [hp, List.append_nil] at h1
    exact absurd h2 (hpre e h1)
  | cons v rest ih =>
    intro pre hp hpre
    have hlen : (inP x).length = pre.length + (rest.length + 1) := by rw [hp, inPl]; simp
    have hll : pre.length + rest.length < 1000000 := by rw [hp] at hx; simp at hx; omega
    have hw2 : IntKind.i64.wrap ((pre.length : Int) + 1) = ((pre ++ [v]).length : Int) := by rw [wr64 (by omega) (by omega)]; simp
    have hu : (inP x)[((pre.length : Int)).toNat]? = some (.int .i64 v) := by rw [hp]; exact at_app _ _ _ _
    have next : ¬ (v ∈ y ∧ (v ∈ a ∨ v ∈ b)) → XH Try.prog base lMeet.1.n 0 (lMeet.1.c.lp 0) [(0, .c (.p (.tz za 1 (inP a) none))), (1, .c (.p (.tz zb 1 (inP b) none))), (2, .c (.p (.tz zx 1 (inP x) none))), (3, .c (.p (.tz zy 1 (inP y) none))), (10, .c (.p (.int .i64 (pre ++ [v]).length)))] ⟨[], 0⟩ Q := fun h => ih (pre ++ [v]) (by rw [hp]; simp) (fun e he => by
      rcases List.mem_append.1 he with h1 | h1
      · exact hpre e h1
      · obtain rfl := List.mem_singleton.1 h1; exact h)
    refine M.round (M.go rfl ?_)
    refine M.cond rfl (fun hc => ?_) (fun hc => absurd (by rw [hlen]; omega) hc)
    refine M.go rfl ?_
    refine M.op trivial (SOp.ia rfl rfl (by omega) hu) ?_
    refine M.op trivial (SOp.ld1e rfl hu rfl rfl rfl) ?_
    refine M.go rfl ?_
    refine M.use0 trivial (in_spec zy none y v hy) rfl rfl rfl ?_
    refine M.go rfl ?_
    refine M.dec rfl (fun g1 => ?_) (fun g1 => ?_)
    · refine M.go rfl ?_
      refine M.op rfl (SOp.ia rfl rfl (by omega) hu) ?_
      refine M.op rfl (SOp.ld1e rfl hu rfl rfl rfl) ?_
      refine M.go rfl ?_
      refine M.use0 rfl (in_spec za none a v ha) rfl rfl rfl ?_
      refine M.go rfl ?_
      refine M.dec rfl (fun g2 => ?_) (fun g2 => ?_)
      · refine M.go rfl ?_
        refine M.ren [] ?_ trivial rfl (by repeat' (first | exact True.intro | refine ⟨⟨_, _, rfl, rfl, Wk.rfl⟩, ?_⟩ | refine ⟨⟨_, _, accV_ren rfl, rfl, Wk.rfl⟩, ?_⟩ | refine ⟨⟨_, _, accV_ren rfl, rfl, Wk.acc0⟩, ?_⟩ | refine ⟨⟨_, _, rfl, rfl, Wk.uncap⟩, ?_⟩ | refine ⟨⟨_, _, rfl, rfl, Wk.nil⟩, ?_⟩)) (by repeat' (first | exact True.intro | refine ⟨⟨_, _, _, rfl, rfl, rfl, WkO.rfl⟩, ?_⟩ | refine HeapOK.acc rfl rfl ?_)) (e' := [(8, .c (.p (.bool true)))]) (h' := ⟨[], 0⟩)
        exact M.ret (M.go rfl (M.done hr))
      · refine M.go rfl ?_
        refine M.op rfl (SOp.ia rfl rfl (by omega) hu) ?_
        refine M.op rfl (SOp.ld1e rfl hu rfl rfl rfl) ?_
        refine M.go rfl ?_
        refine M.use0 rfl (in_spec zb none b v hb) rfl rfl rfl ?_
        refine M.go rfl ?_
        refine M.cond rfl (fun g3 => ?_) (fun g3 => ?_)
        · refine M.go rfl ?_
          refine M.ren [] ?_ trivial rfl (by repeat' (first | exact True.intro | refine ⟨⟨_, _, rfl, rfl, Wk.rfl⟩, ?_⟩ | refine ⟨⟨_, _, accV_ren rfl, rfl, Wk.rfl⟩, ?_⟩ | refine ⟨⟨_, _, accV_ren rfl, rfl, Wk.acc0⟩, ?_⟩ | refine ⟨⟨_, _, rfl, rfl, Wk.uncap⟩, ?_⟩ | refine ⟨⟨_, _, rfl, rfl, Wk.nil⟩, ?_⟩)) (by repeat' (first | exact True.intro | refine ⟨⟨_, _, _, rfl, rfl, rfl, WkO.rfl⟩, ?_⟩ | refine HeapOK.acc rfl rfl ?_)) (e' := [(8, .c (.p (.bool true)))]) (h' := ⟨[], 0⟩)
          exact M.ret (M.go rfl (M.done hr))
        · refine M.go rfl ?_
          rw [hw2]
          exact M.again (XH.ren [] (next (fun h => by rcases h.2 with h | h; exact g2 h; exact g3 h)) rfl (by repeat' (first | exact True.intro | refine ⟨⟨_, _, rfl, rfl, Wk.rfl⟩, ?_⟩ | refine ⟨⟨_, _, accV_ren rfl, rfl, Wk.rfl⟩, ?_⟩ | refine ⟨⟨_, _, accV_ren rfl, rfl, Wk.acc0⟩, ?_⟩ | refine ⟨⟨_, _, rfl, rfl, Wk.uncap⟩, ?_⟩ | refine ⟨⟨_, _, rfl, rfl, Wk.nil⟩, ?_⟩)) (by repeat' (first | exact True.intro | refine ⟨⟨_, _, _, rfl, rfl, rfl, WkO.rfl⟩, ?_⟩ | refine HeapOK.acc rfl rfl ?_)))
    · refine M.go rfl ?_
      rw [hw2]
      exact M.again (XH.ren [] (next (fun h => g1 h.1)) rfl (by repeat' (first | exact True.intro | refine ⟨⟨_, _, rfl, rfl, Wk.rfl⟩, ?_⟩ | refine ⟨⟨_, _, accV_ren rfl, rfl, Wk.rfl⟩, ?_⟩ | refine ⟨⟨_, _, accV_ren rfl, rfl, Wk.acc0⟩, ?_⟩ | refine ⟨⟨_, _, rfl, rfl, Wk.uncap⟩, ?_⟩ | refine ⟨⟨_, _, rfl, rfl, Wk.nil⟩, ?_⟩)) (by repeat' (first | exact True.intro | refine ⟨⟨_, _, _, rfl, rfl, rfl, WkO.rfl⟩, ?_⟩ | refine HeapOK.acc rfl rfl ?_)))
theorem Meet_spec (za zb zx zy : Bool) (a b x y : List Int) : CallS Try.prog base 4 [.c (.p (.tz za 1 (inP a) none)), .c (.p (.tz zb 1 (inP b) none)), .c (.p (.tz zx 1 (inP x) none)), .c (.p (.tz zy 1 (inP y) none))] ⟨[], 0⟩ (.c (.p (.bool true))) ⟨[], 0⟩ := by
  have hk : ∀ l : List Int, (l.take 10).length ≤ 1000000 := fun l => by rw [List.length_take]; omega
  refine CallS.of noNG lMeet.2 rfl (M.start (M.go rfl ?_))
  refine M.use0 trivial begun21_spec rfl rfl rfl ?_
  refine M.go rfl ?_
  refine M.use0 trivial (cut10_spec za a none) rfl rfl rfl ?_
  refine M.go rfl ?_
  refine M.use0 trivial (cut10_spec zb b none) rfl rfl rfl ?_
  refine M.go rfl ?_
  refine M.use0 trivial (cut10_spec zx x none) rfl rfl rfl ?_
  refine M.go rfl ?_
  refine M.use0 trivial (cut10_spec zy y none) rfl rfl rfl ?_
  refine M.go rfl ?_
  refine M.use0 trivial (step_spec za zb none none (a.take 10) (b.take 10) (hk a) (hk b)) rfl rfl rfl ?_
  refine M.go rfl ?_
  refine M.decB rfl (fun h1 => ?_) (fun h1 => ?_)
  · refine M.go rfl ?_
    exact M.ret (M.go rfl (M.done (finQ.ret [] rfl rfl rfl (by first | exact Wk.rfl | exact Wk.uncap | exact Wk.nil | exact Wk.b1 rfl | exact Wk.t2 Wk.rfl (Wk.b1 rfl)) (by repeat' (first | exact True.intro | refine ⟨⟨_, _, _, rfl, rfl, rfl, WkO.rfl⟩, ?_⟩ | refine HeapOK.acc rfl rfl ?_)))))
  · refine M.go rfl ?_
    refine M.use0 rfl (maj_spec za zx none none (a.take 10) (x.take 10) (hk a) (hk x)) rfl rfl rfl ?_
    refine M.go rfl ?_
    refine M.decB rfl (fun h2 => ?_) (fun h2 => ?_)
    · refine M.go rfl ?_
      exact M.ret (M.go rfl (M.done (finQ.ret [] rfl rfl rfl (by first | exact Wk.rfl | exact Wk.uncap | exact Wk.nil | exact Wk.b1 rfl | exact Wk.t2 Wk.rfl (Wk.b1 rfl)) (by repeat' (first | exact True.intro | refine ⟨⟨_, _, _, rfl, rfl, rfl, WkO.rfl⟩, ?_⟩ | refine HeapOK.acc rfl rfl ?_)))))
    · refine M.go rfl ?_
      refine M.use0 rfl (maj_spec zb zy none none (b.take 10) (y.take 10) (hk b) (hk y)) rfl rfl rfl ?_
      refine M.go rfl ?_
      refine M.condB rfl (fun h3 => ?_) (fun h3 => ?_)
      · refine M.go rfl ?_
        exact M.ret (M.go rfl (M.done (finQ.ret [] rfl rfl rfl (by first | exact Wk.rfl | exact Wk.uncap | exact Wk.nil | exact Wk.b1 rfl | exact Wk.t2 Wk.rfl (Wk.b1 rfl)) (by repeat' (first | exact True.intro | refine ⟨⟨_, _, _, rfl, rfl, rfl, WkO.rfl⟩, ?_⟩ | refine HeapOK.acc rfl rfl ?_)))))
      · refine M.go rfl ?_
        have hm := meet_law (a.take 10) (b.take 10) (x.take 10) (y.take 10) (by simpa using h1) (by simpa using h2) (by simpa using h3)
        refine M.loop (XH.ren [] (meet_loop za zb zx zy _ _ _ _ (hk a) (hk b) (hk x) (hk y) hm _ ?_ _ [] rfl (by simp)) rfl (by repeat' (first | exact True.intro | refine ⟨⟨_, _, rfl, rfl, Wk.rfl⟩, ?_⟩ | refine ⟨⟨_, _, accV_ren rfl, rfl, Wk.rfl⟩, ?_⟩ | refine ⟨⟨_, _, accV_ren rfl, rfl, Wk.acc0⟩, ?_⟩ | refine ⟨⟨_, _, rfl, rfl, Wk.uncap⟩, ?_⟩ | refine ⟨⟨_, _, rfl, rfl, Wk.nil⟩, ?_⟩)) (by repeat' (first | exact True.intro | refine ⟨⟨_, _, _, rfl, rfl, rfl, WkO.rfl⟩, ?_⟩ | refine HeapOK.acc rfl rfl ?_)))
        refine M.q (M.go rfl ?_)
        exact M.done (finQ.ret [] rfl rfl rfl (by first | exact Wk.rfl | exact Wk.uncap | exact Wk.nil | exact Wk.b1 rfl | exact Wk.t2 Wk.rfl (Wk.b1 rfl)) (by repeat' (first | exact True.intro | refine ⟨⟨_, _, _, rfl, rfl, rfl, WkO.rfl⟩, ?_⟩ | refine HeapOK.acc rfl rfl ?_)))
end Go.Proofs.Ytgaaffanoegbhaa
