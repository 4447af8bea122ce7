/- delphiref22.EqInts; delphilaw20.LogConf: its plain law. -/
import Derived.Test.YteegdhfekemhmaaRl6
namespace Go.Proofs.Yteegdhfekemhmaa
open Go.RowKit Sim Go Sym
set_option maxRecDepth 100000
set_option linter.unusedVariables false
set_option linter.unusedSimpArgs false
variable {base : Nat}
noncomputable def lEqi : {F : LF // lowerF Try.prog 32 = some F} := ⟨_, rfl⟩
theorem eqi_loop (za zb : Bool) (ca cb : Option Nat) (a b : List Int) (hl : a.length ≤ 100000000000) (Q : QX) :
    ∀ (ra rb pa pb : List Int), a = pa ++ ra → b = pb ++ rb → pa.length = pb.length → ra.length = rb.length → (ra = rb → Q (.exit 0) [] ⟨[], 0⟩) → (¬ ra = rb → Q .ret [(4, .c (.p (.bool false)))] ⟨[], 0⟩) →
      XH Try.prog base lEqi.1.n 0 (lEqi.1.c.lp 0) [(0, .c (.p (.tz za 1 (inP a) ca))), (1, .c (.p (.tz zb 1 (inP b) cb))), (5, .c (.p (.int .i64 pa.length)))] ⟨[], 0⟩ Q := by
  intro ra
  induction ra with
  | nil =>
    intro rb pa pb h1 h2 h3 h4 hq hr
    refine M.round (M.go rfl ?_)
    have h5 : (inP a).length = pa.length := by rw [h1, inP_len]; simp
    refine M.cond rfl (fun hc => ?_) (fun hc => ?_)
    · rw [h5] at hc; omega
    · refine M.ren [] ?_ trivial rfl (by repeat' (first | exact True.intro | refine ⟨⟨_, _, rfl, rfl, Wk.rfl⟩, ?_⟩ | refine ⟨⟨_, _, accV_ren rfl, rfl, Wk.rfl⟩, ?_⟩ | refine ⟨⟨_, _, accV_ren rfl, rfl, Wk.acc0⟩, ?_⟩ | refine ⟨⟨_, _, rfl, rfl, Wk.uncap⟩, ?_⟩ | refine ⟨⟨_, _, rfl, rfl, Wk.nil⟩, ?_⟩)) (by repeat' (first | exact True.intro | refine ⟨⟨_, _, _, rfl, rfl, rfl, WkO.rfl⟩, ?_⟩ | refine HeapOK.acc rfl rfl ?_)) (e' := []) (h' := ⟨[], 0⟩)
      exact M.exit (M.go rfl (M.done (hq (by cases rb <;> simp_all))))
  | cons x ra ih =>
    intro rb pa pb h1 h2 h3 h4 hq hr
    cases rb with
    | nil => simp at h4
    | cons y rb =>
      refine M.round (M.go rfl ?_)
      have h5 : (inP a).length = pa.length + (ra.length + 1) := by rw [h1, inP_len]; simp
      have hw : IntKind.i64.wrap ((pa.length : Int) + 1) = ((pa ++ [x]).length : Int) := by rw [inP_len] at h5; rw [wr64 (by omega) (by omega)]; simp
      have hu : (inP a)[((pa.length : Int)).toNat]? = some (.int .i64 x) := by rw [h1]; exact at_app _ _ _ _
      have hv : (inP b)[((pa.length : Int)).toNat]? = some (.int .i64 y) := by rw [h2, h3]; exact at_app _ _ _ _
      refine M.cond rfl (fun hc => ?_) (fun hc => ?_)
      · refine M.go rfl (M.regD (MD.go rfl ?_))
        refine MD.op trivial (SOp.ia rfl rfl (by omega) hu) (MD.go rfl ?_)
        refine MD.op trivial (SOp.ld1e rfl hu rfl rfl rfl) (MD.go rfl ?_)
        refine MD.op trivial (SOp.ia rfl rfl (by omega) hv) (MD.go rfl ?_)
        refine MD.op trivial (SOp.ld1e rfl hv rfl rfl rfl) (MD.go rfl (MD.nil mixed (Fnl.nodup rfl) (M.go rfl ?_)))
        refine M.condN rfl (fun hxy => ?_) (fun hxy => ?_)
        · refine M.go rfl ?_
          refine M.ren [] ?_ trivial rfl (by repeat' (first | exact True.intro | refine ⟨⟨_, _, rfl, rfl, Wk.rfl⟩, ?_⟩ | refine ⟨⟨_, _, accV_ren rfl, rfl, Wk.rfl⟩, ?_⟩ | refine ⟨⟨_, _, accV_ren rfl, rfl, Wk.acc0⟩, ?_⟩ | refine ⟨⟨_, _, rfl, rfl, Wk.uncap⟩, ?_⟩ | refine ⟨⟨_, _, rfl, rfl, Wk.nil⟩, ?_⟩)) (by repeat' (first | exact True.intro | refine ⟨⟨_, _, _, rfl, rfl, rfl, WkO.rfl⟩, ?_⟩ | refine HeapOK.acc rfl rfl ?_)) (e' := [(4, .c (.p (.bool false)))]) (h' := ⟨[], 0⟩)
          exact M.ret (M.go rfl (M.done (hr (fun h => hxy (by injection h)))))
        · refine M.go rfl ?_
          rw [hw]
          subst hxy
          refine M.again (XH.ren [] (ih rb (pa ++ [x]) (pb ++ [x]) (by rw [h1]; simp) (by rw [h2]; simp) (by simp [h3]) (by simpa using h4) (fun h => hq (by rw [h])) (fun h => hr (fun h' => h (by injection h')))) rfl (by repeat' (first | exact True.intro | refine ⟨⟨_, _, rfl, rfl, Wk.rfl⟩, ?_⟩ | refine ⟨⟨_, _, accV_ren rfl, rfl, Wk.rfl⟩, ?_⟩ | refine ⟨⟨_, _, accV_ren rfl, rfl, Wk.acc0⟩, ?_⟩ | refine ⟨⟨_, _, rfl, rfl, Wk.uncap⟩, ?_⟩ | refine ⟨⟨_, _, rfl, rfl, Wk.nil⟩, ?_⟩)) (by repeat' (first | exact True.intro | refine ⟨⟨_, _, _, rfl, rfl, rfl, WkO.rfl⟩, ?_⟩ | refine HeapOK.acc rfl rfl ?_)))
      · rw [h5] at hc; omega
theorem EqInts_spec (za zb : Bool) (ca cb : Option Nat) (a b : List Int) (hl : a.length ≤ 100000000000) : CallS Try.prog base 32 [.c (.p (.tz za 1 (inP a) ca)), .c (.p (.tz zb 1 (inP b) cb))] ⟨[], 0⟩ (.c (.p (.bs (decide (a = b))))) ⟨[], 0⟩ := by
  refine CallS.of noNG lEqi.2 rfl (M.start (M.go rfl ?_))
  refine M.condN rfl (fun h1 => ?_) (fun h1 => ?_)
  · refine M.go rfl ?_
    rw [decide_eq_false (p := a = b) (fun h => h1 (by rw [h]))]
    exact M.ret (M.go rfl (M.done (finQ.ret [] rfl rfl rfl (by first | exact Wk.rfl | exact Wk.uncap | exact Wk.nil | exact Wk.b1 rfl | exact Wk.t2 Wk.rfl (Wk.b1 rfl)) (by repeat' (first | exact True.intro | refine ⟨⟨_, _, _, rfl, rfl, rfl, WkO.rfl⟩, ?_⟩ | refine HeapOK.acc rfl rfl ?_)))))
  · refine M.go rfl ?_
    have h2 : a.length = b.length := by rw [inP_len, inP_len] at h1; omega
    refine M.loop (XH.ren [] (eqi_loop za zb ca cb a b hl _ a b [] [] rfl rfl rfl h2 (fun h => ?_) (fun h => ?_)) rfl (by repeat' (first | exact True.intro | refine ⟨⟨_, _, rfl, rfl, Wk.rfl⟩, ?_⟩ | refine ⟨⟨_, _, accV_ren rfl, rfl, Wk.rfl⟩, ?_⟩ | refine ⟨⟨_, _, accV_ren rfl, rfl, Wk.acc0⟩, ?_⟩ | refine ⟨⟨_, _, rfl, rfl, Wk.uncap⟩, ?_⟩ | refine ⟨⟨_, _, rfl, rfl, Wk.nil⟩, ?_⟩)) (by repeat' (first | exact True.intro | refine ⟨⟨_, _, _, rfl, rfl, rfl, WkO.rfl⟩, ?_⟩ | refine HeapOK.acc rfl rfl ?_)))
    · refine M.q (M.go rfl ?_)
      rw [decide_eq_true h]
      exact M.ret (M.go rfl (M.done (finQ.ret [] rfl rfl rfl (by first | exact Wk.rfl | exact Wk.uncap | exact Wk.nil | exact Wk.b1 rfl | exact Wk.t2 Wk.rfl (Wk.b1 rfl)) (by repeat' (first | exact True.intro | refine ⟨⟨_, _, _, rfl, rfl, rfl, WkO.rfl⟩, ?_⟩ | refine HeapOK.acc rfl rfl ?_)))))
    · refine M.q (M.go rfl ?_)
      rw [decide_eq_false h]
      exact M.done (finQ.ret [] rfl rfl rfl (by first | exact Wk.rfl | exact Wk.uncap | exact Wk.nil | exact Wk.b1 rfl | exact Wk.t2 Wk.rfl (Wk.b1 rfl)) (by repeat' (first | exact True.intro | refine ⟨⟨_, _, _, rfl, rfl, rfl, WkO.rfl⟩, ?_⟩ | refine HeapOK.acc rfl rfl ?_)))
/-! LogConf. -/
def cfIs (a : Int) : Prop := 1 ≤ a ∧ a ≤ 7
instance (a : Int) : Decidable (cfIs a) := inferInstanceAs (Decidable (1 ≤ a ∧ a ≤ 7))
def cEnt (j : Nat) (a : Int) : Ent := if cfIs a then ⟨j + 1, 1, 3, false, [a.toNat], some 1⟩ else ⟨j + 1, 1, 2, true, [], none⟩
def cEs : Nat → List Int → List Ent
  | _, [] => []
  | j, a :: l => cEnt j a :: cEs (j + 1) l
theorem cEs_app : ∀ (l r : List Int) (j : Nat), cEs j (l ++ r) = cEs j l ++ cEs (j + l.length) r
  | [], r, j => rfl
  | a :: l, r, j => by rw [List.cons_append, cEs, cEs_app l r (j + 1), cEs, List.cons_append, List.length_cons, show j + (l.length + 1) = j + 1 + l.length by omega]
theorem cEs_len : ∀ (l : List Int) (j : Nat), (cEs j l).length = l.length
  | [], _ => rfl
  | a :: l, j => by rw [cEs, List.length_cons, cEs_len l, List.length_cons]
def cLast (c : List Int) (a : Int) : List Int := if cfIs a then [a] else c
def cur (l : List Int) : List Int := l.foldl cLast [1, 2, 3]
def cfs (l : List Int) : List (List Int) := (List.range (l.length + 1)).map fun j => cur (l.take j)
def cPC (c : List Int) : PC := .tz false 1 (inP c) none
def cfP (l : List Int) : List PC := (cfs l).map cPC
theorem cur_app (l : List Int) (a : Int) : cur (l ++ [a]) = cLast (cur l) a := by simp [cur]
theorem cfs_app (l : List Int) (a : Int) : cfs (l ++ [a]) = cfs l ++ [cLast (cur l) a] := by
  unfold cfs
  rw [show (l ++ [a]).length + 1 = l.length + 1 + 1 by simp, List.range_succ, List.map_append]
  congr 1
  · refine List.map_congr_left fun j hj => ?_
    rw [List.mem_range] at hj
    rw [List.take_append_of_le_length (by omega)]
  · simp only [List.map_cons, List.map_nil]
    rw [List.take_of_length_le (by simp), cur_app]
theorem cfP_app (l : List Int) (a : Int) : cfP (l ++ [a]) = cfP l ++ [cPC (cLast (cur l) a)] := by rw [cfP, cfs_app, List.map_append]; rfl
theorem cfP_len (l : List Int) : (cfP l).length = l.length + 1 := by simp [cfP, cfs]
theorem cfP_get (l : List Int) (j : Nat) (h : j ≤ l.length) : (cfP l)[j]? = some (cPC (cur (l.take j))) := by
  rw [cfP, cfs, List.getElem?_map, List.getElem?_map, List.getElem?_range (by omega)]; rfl
theorem memL_one (a : Int) (h : cfIs a) : natI (memL [a.toNat]) = [a] := by
  obtain ⟨h1, h2⟩ := h
  have : memB 0 [a.toNat] = true := by simp [memB]; omega
  rw [memL, if_pos this]
  simp [natI]; omega
theorem cEnt_may (j : Nat) (a t : Int) (ht : t ≤ 1) : entB (j + 1) t (cEnt j a) = true := by
  unfold cEnt
  by_cases h : cfIs a
  · obtain ⟨h1, h2⟩ := h
    have h3 : memB 0 [a.toNat] = true := by simp [memB]; omega
    have h4 : ¬ (1 : Int) < t := by omega
    rw [if_pos ⟨h1, h2⟩]
    simp [entB, memL, h3, h4]
  · have h4 : ¬ (1 : Int) < t := by omega
    rw [if_neg h]
    simp [entB, h4]
theorem cEnt_tm (j : Nat) (a : Int) : (cEnt j a).tm = 1 := by unfold cEnt; split <;> rfl
theorem cEs_may : ∀ (l : List Int) (j : Nat) (t : Int), t ≤ 1 → j + l.length ≤ 1000 → mayF j t (cEs j l) = true
  | [], _, _, _, _ => rfl
  | a :: l, j, t, ht, hj => by
    have h0 := cEs_may l (j + 1) 1 (by omega) (by simp at hj; omega)
    have h1 : ¬ (j : Int) = 9223372036854775807 := by simp at hj; omega
    rw [cEs, mayF, cEnt_may j a t ht, cEnt_tm, decide_eq_false h1]
    simpa using h0
theorem cEs_ok : ∀ (l : List Int) (j : Nat), j + l.length ≤ 1000 → ∀ e ∈ cEs j l, e.ok
  | [], _, _, e, he => by cases he
  | a :: l, j, hj, e, he => by
    simp only [List.length_cons] at hj
    rw [cEs, List.mem_cons] at he
    rcases he with rfl | he
    · unfold cEnt
      split
      · rename_i h
        obtain ⟨h1, h2⟩ := h
        exact ⟨⟨by show _ ≤ (j : Int) + 1; omega, by show (j : Int) + 1 ≤ _; omega⟩, ⟨by simp, by simp⟩, ⟨by simp, by simp⟩, ⟨by simp, by intro b hb; obtain rfl := List.mem_singleton.1 hb; omega⟩⟩
      · exact ⟨⟨by show _ ≤ (j : Int) + 1; omega, by show (j : Int) + 1 ≤ _; omega⟩, ⟨by simp, by simp⟩, ⟨by simp, by simp⟩, ⟨by simp, by simp⟩⟩
    · exact cEs_ok l (j + 1) (by omega) e he
theorem cEs_get : ∀ (l : List Int) (k j : Nat), j < l.length → (cEs k l)[j]? = some (cEnt (k + j) (l.getD j 0))
  | [], _, _, h => by simp at h
  | a :: l, k, 0, _ => by simp [cEs]
  | a :: l, k, j + 1, h => by
    rw [cEs, List.getElem?_cons_succ, cEs_get l (k + 1) j (by simp at h; omega), show k + 1 + j = k + (j + 1) by omega]; rfl
def cS : Snp := ⟨0, 0, false, [1, 2, 3], none, true, [], none⟩
theorem cS_ok : cS.ok := ⟨⟨by simp [cS], by simp [cS]⟩, ⟨by simp [cS], by simp [cS]⟩, ⟨by simp [cS], by
  intro i hi
  simp [cS] at hi
  unfold I64
  omega⟩, ⟨by simp [cS], by simp [cS]⟩⟩
def cLog (l : List Int) : PLog := ⟨cS.own, (cEs 0 l).map Ent.own, true, none⟩
theorem cLog_ok (l : List Int) (h : l.length ≤ 20) : (cLog l).ok := ⟨cS_ok, by simp [cLog, cS, Snp.own], by simp [PLog.last, cLog, cS, Snp.own, cEs_len]; omega, by simp [cLog, cEs_len]; omega, by
  intro e he
  simp only [cLog, List.mem_map] at he
  obtain ⟨e', h1, rfl⟩ := he
  have := cEs_ok l 0 (by omega) e' h1
  exact ⟨this.1, this.2, this.3, this.4⟩⟩
theorem cLog_conf (l : List Int) : ∀ j, j ≤ l.length → ∃ z, (cLog l).confN j = (z, cur (l.take j))
  | 0, _ => ⟨false, rfl⟩
  | j + 1, h => by
    obtain ⟨z, hz⟩ := cLog_conf l j (by omega)
    have hj : j < l.length := by omega
    have hg : (cLog l).E.getD j default = (cEnt j (l.getD j 0)).own := by
      rw [List.getD_eq_getElem?_getD, show (cLog l).E = (cEs 0 l).map Ent.own from rfl, List.getElem?_map, cEs_get l 0 j hj]; simp
    have ht : l.take (j + 1) = l.take j ++ [l.getD j 0] := by
      rw [List.take_add_one, List.getD_eq_getElem?_getD, List.getElem?_eq_getElem hj]; rfl
    rw [PLog.confN, hg, ht, cur_app, hz]
    unfold cEnt cLast
    by_cases hc : cfIs (l.getD j 0)
    · rw [if_pos hc, if_pos hc]
      refine ⟨true, (if_pos rfl).trans ?_⟩
      show (true, natI (memL [(l.getD j 0).toNat])) = _
      rw [memL_one _ hc]
    · rw [if_neg hc, if_neg hc]
      exact ⟨z, if_neg (by simp [Ent.own])⟩
theorem cLog_confAt (l : List Int) (j : Nat) (h : j ≤ l.length) : ∃ z, (cLog l).confAt j = (z, cur (l.take j)) := by
  have h1 : (cLog l).last = l.length := by simp [PLog.last, cLog, cS, Snp.own, cEs_len]
  have h2 : (min (j : Int) (cLog l).last - (cLog l).S.ix).toNat = j := by rw [h1, show (cLog l).S.ix = 0 from rfl]; omega
  rw [PLog.confAt, h2]
  exact cLog_conf l j h
end Go.Proofs.Yteegdhfekemhmaa
