/- delphiref22's EqInts, Members, Ids, Step; ballot's Members, Bytes. -/
import Derived.Test.YtgaaffanoegbhaaBal3
namespace Go.Proofs.Ytgaaffanoegbhaa
open Go.RowKit Sim Go Sym
set_option maxRecDepth 100000
set_option linter.unusedVariables false
set_option linter.unusedSimpArgs false
variable {base : Nat}
noncomputable def lEqi : {F : LF // lowerF Try.prog 22 = some F} := ⟨_, rfl⟩
theorem eqi_loop (za zb : Bool) (ca cb : Option Nat) (a b : List Int) (hl : a.length ≤ 100000000000) (Q : QX) :
    ∀ (ra rb pa pb : List Int), a = pa ++ ra → b = pb ++ rb → pa.length = pb.length → ra.length = rb.length → (ra = rb → Q (.exit 0) [] ⟨[], 0⟩) → (¬ ra = rb → Q .ret [(4, .c (.p (.bool false)))] ⟨[], 0⟩) →
      XH Try.prog base lEqi.1.n 0 (lEqi.1.c.lp 0) [(0, .c (.p (.tz za 1 (inP a) ca))), (1, .c (.p (.tz zb 1 (inP b) cb))), (5, .c (.p (.int .i64 pa.length)))] ⟨[], 0⟩ Q := by
  intro ra
  induction ra with
  | nil =>
    intro rb pa pb h1 h2 h3 h4 hq hr
    refine M.round (M.go rfl ?_)
    have h5 : (inP a).length = pa.length := by rw [h1, inPl]; simp
    refine M.cond rfl (fun hc => ?_) (fun hc => ?_)
    · rw [h5] at hc; omega
    · refine M.ren [] ?_ trivial rfl (by repeat' (first | exact True.intro | refine ⟨⟨_, _, rfl, rfl, Wk.rfl⟩, ?_⟩ | refine ⟨⟨_, _, accV_ren rfl, rfl, Wk.rfl⟩, ?_⟩ | refine ⟨⟨_, _, accV_ren rfl, rfl, Wk.acc0⟩, ?_⟩ | refine ⟨⟨_, _, rfl, rfl, Wk.uncap⟩, ?_⟩ | refine ⟨⟨_, _, rfl, rfl, Wk.nil⟩, ?_⟩)) (by repeat' (first | exact True.intro | refine ⟨⟨_, _, _, rfl, rfl, rfl, WkO.rfl⟩, ?_⟩ | refine HeapOK.acc rfl rfl ?_)) (e' := []) (h' := ⟨[], 0⟩)
      exact M.exit (M.go rfl (M.done (hq (by cases rb <;> simp_all))))
  | cons x ra ih =>
    intro rb pa pb h1 h2 h3 h4 hq hr
    cases rb with
    | nil => simp at h4
    | cons y rb =>
      refine M.round (M.go rfl ?_)
      have h5 : (inP a).length = pa.length + (ra.length + 1) := by rw [h1, inPl]; simp
      have hw : IntKind.i64.wrap ((pa.length : Int) + 1) = ((pa ++ [x]).length : Int) := by rw [inPl] at h5; rw [wr64 (by omega) (by omega)]; simp
      have hu : (inP a)[((pa.length : Int)).toNat]? = some (.int .i64 x) := by rw [h1]; exact at_app _ _ _ _
      have hv : (inP b)[((pa.length : Int)).toNat]? = some (.int .i64 y) := by rw [h2, h3]; exact at_app _ _ _ _
      refine M.cond rfl (fun hc => ?_) (fun hc => ?_)
      · refine M.go rfl (M.regD (MD.go rfl ?_))
        refine MD.op trivial (SOp.ia rfl rfl (by omega) hu) (MD.go rfl ?_)
        refine MD.op trivial (SOp.ld1e rfl hu rfl rfl rfl) (MD.go rfl ?_)
        refine MD.op trivial (SOp.ia rfl rfl (by omega) hv) (MD.go rfl ?_)
        refine MD.op trivial (SOp.ld1e rfl hv rfl rfl rfl) (MD.go rfl (MD.nil mixed (Fnl.nodup rfl) (M.go rfl ?_)))
        refine M.condN rfl (fun hxy => ?_) (fun hxy => ?_)
        · refine M.go rfl ?_
          refine M.ren [] ?_ trivial rfl (by repeat' (first | exact True.intro | refine ⟨⟨_, _, rfl, rfl, Wk.rfl⟩, ?_⟩ | refine ⟨⟨_, _, accV_ren rfl, rfl, Wk.rfl⟩, ?_⟩ | refine ⟨⟨_, _, accV_ren rfl, rfl, Wk.acc0⟩, ?_⟩ | refine ⟨⟨_, _, rfl, rfl, Wk.uncap⟩, ?_⟩ | refine ⟨⟨_, _, rfl, rfl, Wk.nil⟩, ?_⟩)) (by repeat' (first | exact True.intro | refine ⟨⟨_, _, _, rfl, rfl, rfl, WkO.rfl⟩, ?_⟩ | refine HeapOK.acc rfl rfl ?_)) (e' := [(4, .c (.p (.bool false)))]) (h' := ⟨[], 0⟩)
          exact M.ret (M.go rfl (M.done (hr (fun h => hxy (by injection h)))))
        · refine M.go rfl ?_
          rw [hw]
          subst hxy
          refine M.again (XH.ren [] (ih rb (pa ++ [x]) (pb ++ [x]) (by rw [h1]; simp) (by rw [h2]; simp) (by simp [h3]) (by simpa using h4) (fun h => hq (by rw [h])) (fun h => hr (fun h' => h (by injection h')))) rfl (by repeat' (first | exact True.intro | refine ⟨⟨_, _, rfl, rfl, Wk.rfl⟩, ?_⟩ | refine ⟨⟨_, _, accV_ren rfl, rfl, Wk.rfl⟩, ?_⟩ | refine ⟨⟨_, _, accV_ren rfl, rfl, Wk.acc0⟩, ?_⟩ | refine ⟨⟨_, _, rfl, rfl, Wk.uncap⟩, ?_⟩ | refine ⟨⟨_, _, rfl, rfl, Wk.nil⟩, ?_⟩)) (by repeat' (first | exact True.intro | refine ⟨⟨_, _, _, rfl, rfl, rfl, WkO.rfl⟩, ?_⟩ | refine HeapOK.acc rfl rfl ?_)))
      · rw [h5] at hc; omega
theorem EqInts_spec (za zb : Bool) (ca cb : Option Nat) (a b : List Int) (hl : a.length ≤ 100000000000) : CallS Try.prog base 22 [.c (.p (.tz za 1 (inP a) ca)), .c (.p (.tz zb 1 (inP b) cb))] ⟨[], 0⟩ (.c (.p (.bs (decide (a = b))))) ⟨[], 0⟩ := by
  refine CallS.of noNG lEqi.2 rfl (M.start (M.go rfl ?_))
  refine M.condN rfl (fun h1 => ?_) (fun h1 => ?_)
  · refine M.go rfl ?_
    rw [decide_eq_false (p := a = b) (fun h => h1 (by rw [h]))]
    exact M.ret (M.go rfl (M.done (finQ.ret [] rfl rfl rfl (by first | exact Wk.rfl | exact Wk.uncap | exact Wk.nil | exact Wk.b1 rfl | exact Wk.t2 Wk.rfl (Wk.b1 rfl)) (by repeat' (first | exact True.intro | refine ⟨⟨_, _, _, rfl, rfl, rfl, WkO.rfl⟩, ?_⟩ | refine HeapOK.acc rfl rfl ?_)))))
  · refine M.go rfl ?_
    have h2 : a.length = b.length := by rw [inPl, inPl] at h1; omega
    refine M.loop (XH.ren [] (eqi_loop za zb ca cb a b hl _ a b [] [] rfl rfl rfl h2 (fun h => ?_) (fun h => ?_)) rfl (by repeat' (first | exact True.intro | refine ⟨⟨_, _, rfl, rfl, Wk.rfl⟩, ?_⟩ | refine ⟨⟨_, _, accV_ren rfl, rfl, Wk.rfl⟩, ?_⟩ | refine ⟨⟨_, _, accV_ren rfl, rfl, Wk.acc0⟩, ?_⟩ | refine ⟨⟨_, _, rfl, rfl, Wk.uncap⟩, ?_⟩ | refine ⟨⟨_, _, rfl, rfl, Wk.nil⟩, ?_⟩)) (by repeat' (first | exact True.intro | refine ⟨⟨_, _, _, rfl, rfl, rfl, WkO.rfl⟩, ?_⟩ | refine HeapOK.acc rfl rfl ?_)))
    · refine M.q (M.go rfl ?_)
      rw [decide_eq_true h]
      exact M.ret (M.go rfl (M.done (finQ.ret [] rfl rfl rfl (by first | exact Wk.rfl | exact Wk.uncap | exact Wk.nil | exact Wk.b1 rfl | exact Wk.t2 Wk.rfl (Wk.b1 rfl)) (by repeat' (first | exact True.intro | refine ⟨⟨_, _, _, rfl, rfl, rfl, WkO.rfl⟩, ?_⟩ | refine HeapOK.acc rfl rfl ?_)))))
    · refine M.q (M.go rfl ?_)
      rw [decide_eq_false h]
      exact M.done (finQ.ret [] rfl rfl rfl (by first | exact Wk.rfl | exact Wk.uncap | exact Wk.nil | exact Wk.b1 rfl | exact Wk.t2 Wk.rfl (Wk.b1 rfl)) (by repeat' (first | exact True.intro | refine ⟨⟨_, _, _, rfl, rfl, rfl, WkO.rfl⟩, ?_⟩ | refine HeapOK.acc rfl rfl ?_)))
theorem incB_len : ∀ (l : List Int) (p : Int), p ≤ 7 → incB p l = true → p + l.length ≤ 7
  | [], p, h, _ => by simpa using h
  | b :: l, p, h, hi => by
    simp only [incB, Bool.and_eq_true, decide_eq_true_eq] at hi
    have := incB_len l b hi.1.2 hi.2
    simp only [List.length_cons]
    omega
noncomputable def lMbr : {F : LF // lowerF Try.prog 12 = some F} := ⟨_, rfl⟩
theorem mbr_loop (z : Bool) (c : Option Nat) (l : List Int) (hl : l.length ≤ 1000000) (Q : QX) (hq : incB 0 l = true → Q (.exit 0) [(0, .c (.p (.tz z 1 (inP l) c)))] ⟨[], 0⟩) (hr : incB 0 l = false → Q .ret [(2, .c (.p (.bool false)))] ⟨[], 0⟩) :
    ∀ (rest pre : List Int), l = pre ++ rest → incB 0 pre = true → XH Try.prog base lMbr.1.n 0 (lMbr.1.c.lp 0) [(0, .c (.p (.tz z 1 (inP l) c))), (3, .c (.p (.int .i64 pre.length)))] ⟨[], 0⟩ Q := by
  intro rest
  induction rest with
  | nil =>
    intro pre hp hm
    refine M.round (M.go rfl ?_)
    simp at hp
    subst hp
    refine M.cond rfl (fun hc => ?_) (fun hc => ?_)
    · rw [inPl] at hc; omega
    · refine M.ren [] ?_ trivial rfl (by repeat' (first | exact True.intro | refine ⟨⟨_, _, rfl, rfl, Wk.rfl⟩, ?_⟩ | refine ⟨⟨_, _, accV_ren rfl, rfl, Wk.rfl⟩, ?_⟩ | refine ⟨⟨_, _, accV_ren rfl, rfl, Wk.acc0⟩, ?_⟩ | refine ⟨⟨_, _, rfl, rfl, Wk.uncap⟩, ?_⟩ | refine ⟨⟨_, _, rfl, rfl, Wk.nil⟩, ?_⟩)) (by repeat' (first | exact True.intro | refine ⟨⟨_, _, _, rfl, rfl, rfl, WkO.rfl⟩, ?_⟩ | refine HeapOK.acc rfl rfl ?_)) (e' := [(0, .c (.p (.tz z 1 (inP l) c)))]) (h' := ⟨[], 0⟩)
      exact M.exit (M.go rfl (M.done (hq hm)))
  | cons b rest ih =>
    intro pre hp hm
    have hlen : (inP l).length = pre.length + (rest.length + 1) := by rw [hp, inPl]; simp
    have hll : pre.length + rest.length < 1000000 := by rw [hp] at hl; simp at hl; omega
    have hpos : 0 ≤ pre.getLast?.getD 0 := incB_last pre 0 hm
    have hw2 : IntKind.i64.wrap ((pre.length : Int) + 1) = ((pre ++ [b]).length : Int) := by rw [wr64 (by omega) (by omega)]; simp
    have hu : (inP l)[((pre.length : Int)).toNat]? = some (.int .i64 b) := by rw [hp]; exact at_app _ _ _ _
    have hmb : incB 0 l = ((decide (pre.getLast?.getD 0 < b) && decide (b ≤ 7)) && incB b rest) := by rw [hp, incB_app, hm, Bool.true_and, incB]
    refine M.round (M.go rfl ?_)
    refine M.cond rfl (fun hc => ?_) (fun hc => absurd (by rw [hlen]; omega) hc)
    refine M.go rfl (M.regD (MD.go rfl ?_))
    refine MD.op trivial (SOp.ia rfl rfl (by omega) hu) ?_
    refine MD.op trivial (SOp.ld1e rfl hu rfl rfl rfl) ?_
    by_cases h1 : b < 1
    · refine MD.op trivial (SOp.binT rfl rfl rfl (decide_eq_true h1)) (MD.go rfl (MD.nil mixed (Fnl.nodup rfl) (M.go rfl ?_)))
      refine M.ren [] ?_ trivial rfl (by repeat' (first | exact True.intro | refine ⟨⟨_, _, rfl, rfl, Wk.rfl⟩, ?_⟩ | refine ⟨⟨_, _, accV_ren rfl, rfl, Wk.rfl⟩, ?_⟩ | refine ⟨⟨_, _, accV_ren rfl, rfl, Wk.acc0⟩, ?_⟩ | refine ⟨⟨_, _, rfl, rfl, Wk.uncap⟩, ?_⟩ | refine ⟨⟨_, _, rfl, rfl, Wk.nil⟩, ?_⟩)) (by repeat' (first | exact True.intro | refine ⟨⟨_, _, _, rfl, rfl, rfl, WkO.rfl⟩, ?_⟩ | refine HeapOK.acc rfl rfl ?_)) (e' := [(2, .c (.p (.bool false)))]) (h' := ⟨[], 0⟩)
      exact M.ret (M.go rfl (M.done (hr (by rw [hmb, decide_eq_false (p := _ < b) (by omega)]; rfl))))
    · refine MD.op trivial (SOp.binF rfl rfl rfl (decide_eq_false h1)) (MD.go rfl ?_)
      refine MD.op rfl (SOp.ia rfl rfl (by omega) hu) ?_
      refine MD.op rfl (SOp.ld1e rfl hu rfl rfl rfl) ?_
      by_cases h2 : 7 < b
      · refine MD.op rfl (SOp.binT rfl rfl rfl (decide_eq_true h2)) (MD.go rfl (MD.nil mixed (Fnl.nodup rfl) (M.go rfl ?_)))
        refine M.ren [] ?_ trivial rfl (by repeat' (first | exact True.intro | refine ⟨⟨_, _, rfl, rfl, Wk.rfl⟩, ?_⟩ | refine ⟨⟨_, _, accV_ren rfl, rfl, Wk.rfl⟩, ?_⟩ | refine ⟨⟨_, _, accV_ren rfl, rfl, Wk.acc0⟩, ?_⟩ | refine ⟨⟨_, _, rfl, rfl, Wk.uncap⟩, ?_⟩ | refine ⟨⟨_, _, rfl, rfl, Wk.nil⟩, ?_⟩)) (by repeat' (first | exact True.intro | refine ⟨⟨_, _, _, rfl, rfl, rfl, WkO.rfl⟩, ?_⟩ | refine HeapOK.acc rfl rfl ?_)) (e' := [(2, .c (.p (.bool false)))]) (h' := ⟨[], 0⟩)
        exact M.ret (M.go rfl (M.done (hr (by rw [hmb, decide_eq_false (p := b ≤ 7) (by omega)]; simp))))
      · refine MD.op rfl (SOp.binF rfl rfl rfl (decide_eq_false h2)) (MD.goN 3 rfl ?_)
        by_cases h3 : 0 < (pre.length : Int)
        · refine MD.op rfl (SOp.binT rfl rfl rfl (decide_eq_true h3)) (MD.go rfl ?_)
          obtain ⟨p0, q, rfl⟩ : ∃ p0 q, pre = p0 ++ [q] := ⟨_, _, (List.dropLast_concat_getLast (by rintro rfl; simp at h3)).symm⟩
          have hw : IntKind.i64.wrap (((p0 ++ [q]).length : Int) - 1) = p0.length := by
            rw [wr64 (by simp) (by simp at hll ⊢; omega)]; simp
          have hu' : (inP l)[((p0.length : Int)).toNat]? = some (.int .i64 q) := by rw [hp, List.append_assoc]; exact at_app _ _ _ _
          have e1 : (p0 ++ [q]).getLast?.getD 0 = q := by simp
          refine MD.op rfl (SOp.ia rfl rfl (by omega) hu) ?_
          refine MD.op rfl (SOp.ld1e rfl hu rfl rfl rfl) (MD.go rfl ?_)
          rw [hw]
          refine MD.op rfl (SOp.ia rfl rfl (by omega) hu') ?_
          refine MD.op rfl (SOp.ld1e rfl hu' rfl rfl rfl) ?_
          by_cases h4 : b ≤ q
          · refine MD.op rfl (SOp.binT rfl rfl rfl (decide_eq_true h4)) (MD.go rfl (MD.nil mixed (Fnl.nodup rfl) (M.go rfl ?_)))
            refine M.ren [] ?_ trivial rfl (by repeat' (first | exact True.intro | refine ⟨⟨_, _, rfl, rfl, Wk.rfl⟩, ?_⟩ | refine ⟨⟨_, _, accV_ren rfl, rfl, Wk.rfl⟩, ?_⟩ | refine ⟨⟨_, _, accV_ren rfl, rfl, Wk.acc0⟩, ?_⟩ | refine ⟨⟨_, _, rfl, rfl, Wk.uncap⟩, ?_⟩ | refine ⟨⟨_, _, rfl, rfl, Wk.nil⟩, ?_⟩)) (by repeat' (first | exact True.intro | refine ⟨⟨_, _, _, rfl, rfl, rfl, WkO.rfl⟩, ?_⟩ | refine HeapOK.acc rfl rfl ?_)) (e' := [(2, .c (.p (.bool false)))]) (h' := ⟨[], 0⟩)
            exact M.ret (M.go rfl (M.done (hr (by rw [hmb, e1, decide_eq_false (p := q < b) (by omega)]; simp))))
          · refine MD.op rfl (SOp.binF rfl rfl rfl (decide_eq_false h4)) (MD.go rfl (MD.nil mixed (Fnl.nodup rfl) (M.go rfl ?_)))
            rw [hw2]
            refine M.again (XH.ren [] (ih ((p0 ++ [q]) ++ [b]) (by rw [hp]; simp) ?_) rfl (by repeat' (first | exact True.intro | refine ⟨⟨_, _, rfl, rfl, Wk.rfl⟩, ?_⟩ | refine ⟨⟨_, _, accV_ren rfl, rfl, Wk.rfl⟩, ?_⟩ | refine ⟨⟨_, _, accV_ren rfl, rfl, Wk.acc0⟩, ?_⟩ | refine ⟨⟨_, _, rfl, rfl, Wk.uncap⟩, ?_⟩ | refine ⟨⟨_, _, rfl, rfl, Wk.nil⟩, ?_⟩)) (by repeat' (first | exact True.intro | refine ⟨⟨_, _, _, rfl, rfl, rfl, WkO.rfl⟩, ?_⟩ | refine HeapOK.acc rfl rfl ?_)))
            rw [incB_app, hm, e1]
            have g1 : q < b := by omega
            have g2 : b ≤ 7 := by omega
            simp [incB, g1, g2]
        · refine MD.op rfl (SOp.binF rfl rfl rfl (decide_eq_false h3)) (MD.go rfl (MD.nil mixed (Fnl.nodup rfl) (M.go rfl ?_)))
          rw [hw2]
          refine M.again (XH.ren [] (ih (pre ++ [b]) (by rw [hp]; simp) ?_) rfl (by repeat' (first | exact True.intro | refine ⟨⟨_, _, rfl, rfl, Wk.rfl⟩, ?_⟩ | refine ⟨⟨_, _, accV_ren rfl, rfl, Wk.rfl⟩, ?_⟩ | refine ⟨⟨_, _, accV_ren rfl, rfl, Wk.acc0⟩, ?_⟩ | refine ⟨⟨_, _, rfl, rfl, Wk.uncap⟩, ?_⟩ | refine ⟨⟨_, _, rfl, rfl, Wk.nil⟩, ?_⟩)) (by repeat' (first | exact True.intro | refine ⟨⟨_, _, _, rfl, rfl, rfl, WkO.rfl⟩, ?_⟩ | refine HeapOK.acc rfl rfl ?_)))
          have : pre = [] := List.eq_nil_of_length_eq_zero (by omega)
          subst this
          have g1 : 0 < b := by omega
          have g2 : b ≤ 7 := by omega
          simp [incB, g1, g2]
theorem mbr_spec (z : Bool) (c : Option Nat) (l : List Int) (hl : l.length ≤ 1000000) : CallS Try.prog base 12 [.c (.p (.tz z 1 (inP l) c))] ⟨[], 0⟩ (.c (.p (.bs (mayI l)))) ⟨[], 0⟩ := by
  refine CallS.of noNG lMbr.2 rfl (M.start (M.go rfl ?_))
  refine M.loop (XH.ren [] (mbr_loop z c l hl _ ?_ ?_ l [] rfl rfl) rfl (by repeat' (first | exact True.intro | refine ⟨⟨_, _, rfl, rfl, Wk.rfl⟩, ?_⟩ | refine ⟨⟨_, _, accV_ren rfl, rfl, Wk.rfl⟩, ?_⟩ | refine ⟨⟨_, _, accV_ren rfl, rfl, Wk.acc0⟩, ?_⟩ | refine ⟨⟨_, _, rfl, rfl, Wk.uncap⟩, ?_⟩ | refine ⟨⟨_, _, rfl, rfl, Wk.nil⟩, ?_⟩)) (by repeat' (first | exact True.intro | refine ⟨⟨_, _, _, rfl, rfl, rfl, WkO.rfl⟩, ?_⟩ | refine HeapOK.acc rfl rfl ?_)))
  · intro hm
    refine M.q (M.go rfl ?_)
    have h7 := incB_len l 0 (by decide) hm
    refine M.dec rfl (fun h => ?_) (fun h => ?_)
    · refine M.go rfl ?_
      refine M.ret (M.go rfl (M.done (finQ.ret [] rfl rfl rfl (Wk.b1 ?_) (by repeat' (first | exact True.intro | refine ⟨⟨_, _, _, rfl, rfl, rfl, WkO.rfl⟩, ?_⟩ | refine HeapOK.acc rfl rfl ?_)))))
      rw [mayI, hm, inPl]
      rw [inPl] at h
      have g : ¬ l = [] := by rintro rfl; simp at h
      cases l with
      | nil => exact absurd rfl g
      | cons a l => simp at h7 ⊢; omega
    · refine M.go rfl ?_
      refine M.ret (M.go rfl (M.done (finQ.ret [] rfl rfl rfl (Wk.of ?_) (by repeat' (first | exact True.intro | refine ⟨⟨_, _, _, rfl, rfl, rfl, WkO.rfl⟩, ?_⟩ | refine HeapOK.acc rfl rfl ?_)))))
      rw [inPl] at h
      have g : l = [] := List.eq_nil_of_length_eq_zero (by omega)
      rw [g]; rfl
  · intro hm
    refine M.q (M.go rfl ?_)
    rw [mayI, hm]
    exact M.done (finQ.ret [] rfl rfl rfl (by first | exact Wk.rfl | exact Wk.uncap | exact Wk.nil | exact Wk.b1 rfl | exact Wk.t2 Wk.rfl (Wk.b1 rfl)) (by repeat' (first | exact True.intro | refine ⟨⟨_, _, _, rfl, rfl, rfl, WkO.rfl⟩, ?_⟩ | refine HeapOK.acc rfl rfl ?_)))
end Go.Proofs.Ytgaaffanoegbhaa
