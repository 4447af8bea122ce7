/- delphilaw20.LogConf: the walk. -/
import Derived.Test.YteegdhfekemhmaaRl8
namespace Go.Proofs.Yteegdhfekemhmaa
open Go.RowKit Sim Go Sym
set_option maxRecDepth 100000
set_option linter.unusedVariables false
set_option linter.unusedSimpArgs false
variable {base : Nat}
theorem cLast_len (c : List Int) (a : Int) (h : c.length ≤ 3) : (cLast c a).length ≤ 3 := by
  unfold cLast
  split
  · simp
  · exact h
theorem cur_len' : ∀ (l c : List Int), c.length ≤ 3 → (l.foldl cLast c).length ≤ 3
  | [], _, h => h
  | a :: l, c, h => cur_len' l _ (cLast_len c a h)
theorem cur_len (l : List Int) : (cur l).length ≤ 100000000000 := by have := cur_len' l [1, 2, 3] (by simp); unfold cur; omega
theorem conf_check (B : List Int) (hB : B.length ≤ 20) (cut : Int) (Q : QX) (hq : Q (.exit 2) [(12, .c (.ptr 0 0)), (7, .c (.p (.tz false 1 (cfP B) none))), (8, .c (.p (.tz true 4 (entP (cEs 0 B)) none))), (1, .c (.p (.int .i64 cut)))] (cLog B).h) :
    ∀ (rem i : Nat), i + rem = B.length + 1 → XH Try.prog base lLc.1.n 0 (lLc.1.c.lp 1) [(13, .c (.p (.int .i64 i))), (12, .c (.ptr 0 0)), (7, .c (.p (.tz false 1 (cfP B) none))), (8, .c (.p (.tz true 4 (entP (cEs 0 B)) none))), (1, .c (.p (.int .i64 cut)))] (cLog B).h Q := by
  intro rem
  induction rem with
  | zero =>
    intro i hi
    refine M.round (M.go rfl ?_)
    rw [cfP_len]
    refine M.cond rfl (fun hc => absurd hc (by omega)) (fun hc => ?_)
    refine M.ren [(0, 0)] ?_ trivial rfl (by repeat' (first | exact True.intro | refine ⟨⟨_, _, rfl, rfl, Wk.rfl⟩, ?_⟩ | refine ⟨⟨_, _, accV_ren rfl, rfl, Wk.rfl⟩, ?_⟩ | refine ⟨⟨_, _, accV_ren rfl, rfl, Wk.acc0⟩, ?_⟩ | refine ⟨⟨_, _, rfl, rfl, Wk.uncap⟩, ?_⟩ | refine ⟨⟨_, _, rfl, rfl, Wk.nil⟩, ?_⟩)) (by repeat' (first | exact True.intro | refine ⟨⟨_, _, _, rfl, rfl, rfl, WkO.rfl⟩, ?_⟩ | refine HeapOK.acc rfl rfl ?_)) (e' := [(12, .c (.ptr 0 0)), (7, .c (.p (.tz false 1 (cfP B) none))), (8, .c (.p (.tz true 4 (entP (cEs 0 B)) none))), (1, .c (.p (.int .i64 cut)))]) (h' := (cLog B).h)
    exact M.exit (M.go rfl (M.done hq))
  | succ rem ih =>
    intro i hi
    refine M.round (M.go rfl ?_)
    rw [cfP_len]
    refine M.cond rfl (fun hc => ?_) (fun hc => absurd (by omega) hc)
    have hu : (cfP B)[((i : Int)).toNat]? = some (cPC (cur (B.take i))) := cfP_get B i (by omega)
    obtain ⟨z, hz⟩ := cLog_confAt B i (by omega)
    have hC := ConfAt_spec (base := base) (cLog B) (cLog_ok B hB) i ⟨by omega, by omega⟩
    rw [hz] at hC
    have hlen : (cur (B.take i)).length ≤ 100000000000 := cur_len _
    refine M.go rfl (M.regF (MF.go rfl ?_))
    refine MF.use trivial hC [(0, 0)] rfl rfl rfl (by repeat' (first | exact True.intro | refine ⟨⟨_, _, _, rfl, rfl, rfl, WkO.rfl⟩, ?_⟩ | refine HeapOK.acc rfl rfl ?_)) rfl rfl (MF.go rfl ?_)
    refine MF.op trivial (SOp.ia rfl rfl (by omega) hu) (MF.go rfl ?_)
    refine MF.op trivial (SOp.ld1e rfl hu rfl rfl rfl) (MF.go rfl ?_)
    refine MF.use0 trivial (EqInts_spec z false none none (cur (B.take i)) (cur (B.take i)) hlen) rfl rfl rfl (MF.go rfl (MF.nil mixed (Fnl.nodup rfl) rfl ⟨⟨SOp.ld1e rfl hu rfl rfl rfl, trivial⟩, trivial⟩ (M.go rfl ?_)))
    refine M.condN rfl (fun h => absurd rfl h) (fun _ => ?_)
    refine M.go rfl ?_
    rw [show IntKind.i64.wrap ((i : Int) + 1) = ((i + 1 : Nat) : Int) by rw [wr64 (by omega) (by omega)]; omega]
    exact M.again (XH.ren [(0, 0)] (ih (i + 1) (by omega)) rfl (by repeat' (first | exact True.intro | refine ⟨⟨_, _, rfl, rfl, Wk.rfl⟩, ?_⟩ | refine ⟨⟨_, _, accV_ren rfl, rfl, Wk.rfl⟩, ?_⟩ | refine ⟨⟨_, _, accV_ren rfl, rfl, Wk.acc0⟩, ?_⟩ | refine ⟨⟨_, _, rfl, rfl, Wk.uncap⟩, ?_⟩ | refine ⟨⟨_, _, rfl, rfl, Wk.nil⟩, ?_⟩)) (by repeat' (first | exact True.intro | refine ⟨⟨_, _, _, rfl, rfl, rfl, WkO.rfl⟩, ?_⟩ | refine HeapOK.acc rfl rfl ?_)))
theorem cs_new (B : List Int) (h : B.length ≤ 100) : newOk cS (cEs 0 B) = true := by
  have := cEs_may B 0 0 (by omega) (by omega)
  simpa [newOk, cS] using this
theorem cur_in' : ∀ (l c : List Int), (∀ i ∈ c, I64 i) → ∀ i ∈ l.foldl cLast c, I64 i
  | [], _, h => h
  | a :: l, c, h => cur_in' l _ (by
    unfold cLast
    split
    · rename_i hc
      intro i hi
      obtain rfl := List.mem_singleton.1 hi
      have h1 := hc.1
      have h2 := hc.2
      exact ⟨by omega, by omega⟩
    · exact h)
theorem cur_in (l : List Int) : ∀ i ∈ cur l, I64 i := cur_in' l _ cS_ok.cf.2
theorem cComp_ok (B : List Int) (J : Nat) (hB : B.length ≤ 20) (h1 : 1 ≤ J) (h2 : J ≤ B.length) : ((cLog B).compact J false [120]).ok := by
  have hL := cLog_ok B hB
  have hlast : (cLog B).last = B.length := by simp [PLog.last, cLog, cS, Snp.own, cEs_len]
  obtain ⟨z1, e1⟩ := cLog_confAt B J h2
  obtain ⟨j, g1, g2, g3, g4⟩ := PLog.at_get (L := cLog B) (i := J) (show (0 : Int) < J by omega) (by rw [hlast]; omega)
  have hx : ((cLog B).term J).1 = ((cLog B).at' J).tm := by
    rw [PLog.term, show (cLog B).S.ix = 0 from rfl, hlast, if_neg (by omega), if_neg (by omega)]
  have hd : ((J : Int) - (cLog B).S.ix).toNat = J := by rw [show (cLog B).S.ix = 0 from rfl]; omega
  have hE : ((cLog B).compact J false [120]).E = (cLog B).E.drop J := by rw [PLog.compact, hd]
  have hEl : (cLog B).E.length = B.length := by simp [cLog, cEs_len]
  have hS : ((cLog B).compact J false [120]).S = ⟨J, ((cLog B).term J).1, z1, cur (B.take J), none, false, [120], none⟩ := by rw [PLog.compact, e1]
  refine ⟨?_, ?_, ?_, ?_, ?_⟩
  · rw [hS]
    exact ⟨⟨by show _ ≤ (J : Int); omega, by show (J : Int) ≤ _; omega⟩, by show I64 ((cLog B).term J).1; rw [hx]; exact (hL.at_ g3).tm, ⟨cur_len _, cur_in _⟩, ⟨by simp, by simp⟩⟩
  · rw [hS]; show (0 : Int) ≤ J; omega
  · rw [PLog.last, hE, hS]; show (J : Int) + _ ≤ _; rw [List.length_drop, hEl]; omega
  · rw [hE, List.length_drop, hEl]; omega
  · rw [hE]; exact fun e he => hL.E e (List.mem_of_mem_drop he)
theorem cComp_conf (B : List Int) (J : Nat) (hB : B.length ≤ 20) (h1 : 1 ≤ J) (h2 : J ≤ B.length) : ∃ z, ((cLog B).compact J false [120]).confAt ((cLog B).compact J false [120]).last = (z, cur B) := by
  obtain ⟨z1, e1⟩ := cLog_confAt B J h2
  have hd : ((J : Int) - (cLog B).S.ix).toNat = J := by rw [show (cLog B).S.ix = 0 from rfl]; omega
  have hE : ((cLog B).compact J false [120]).E = (cLog B).E.drop J := by rw [PLog.compact, hd]
  have hEl : (cLog B).E.length = B.length := by simp [cLog, cEs_len]
  have hix : ((cLog B).compact J false [120]).S.ix = J := rfl
  have hlast : ((cLog B).compact J false [120]).last = B.length := by rw [PLog.last, hE, hix, List.length_drop, hEl]; omega
  have key : ∀ k, J + k ≤ B.length → ∃ z, ((cLog B).compact J false [120]).confN k = (z, cur (B.take (J + k))) := by
    intro k
    induction k with
    | zero => exact fun _ => ⟨z1, by rw [PLog.confN, PLog.compact, e1]; rfl⟩
    | succ k ih =>
      intro hk
      obtain ⟨z, hz⟩ := ih (by omega)
      have hj : J + k < B.length := by omega
      have hg : ((cLog B).compact J false [120]).E.getD k default = (cEnt (J + k) (B.getD (J + k) 0)).own := by
        rw [hE, List.getD_eq_getElem?_getD, List.getElem?_drop, show (cLog B).E = (cEs 0 B).map Ent.own from rfl, List.getElem?_map, cEs_get B 0 (J + k) hj]; simp
      have ht : B.take (J + (k + 1)) = B.take (J + k) ++ [B.getD (J + k) 0] := by
        rw [show J + (k + 1) = J + k + 1 by omega, List.take_add_one, List.getD_eq_getElem?_getD, List.getElem?_eq_getElem hj]; rfl
      rw [PLog.confN, hg, ht, cur_app, hz]
      unfold cEnt cLast
      by_cases hc : cfIs (B.getD (J + k) 0)
      · rw [if_pos hc, if_pos hc]
        refine ⟨true, (if_pos rfl).trans ?_⟩
        show (true, natI (memL [(B.getD (J + k) 0).toNat])) = _
        rw [memL_one _ hc]
      · rw [if_neg hc, if_neg hc]
        exact ⟨z, if_neg (by simp [Ent.own])⟩
  obtain ⟨z, hz⟩ := key (B.length - J) (by omega)
  refine ⟨z, ?_⟩
  rw [PLog.confAt, hlast, hix, show (min (B.length : Int) B.length - J).toNat = B.length - J by omega, hz, show J + (B.length - J) = B.length by omega, List.take_length]
theorem EqInts_yes (za zb : Bool) (ca cb : Option Nat) (a : List Int) (hl : a.length ≤ 100000000000) : CallS Try.prog base 32 [.c (.p (.tz za 1 (inP a) ca)), .c (.p (.tz zb 1 (inP a) cb))] ⟨[], 0⟩ (.c (.p (.bool true))) ⟨[], 0⟩ := by
  have h := EqInts_spec (base := base) za zb ca cb a a hl
  rw [decide_eq_true rfl] at h
  exact ⟨h.fn, h.run⟩
theorem LogConf_spec (z : Bool) (cA : Option Nat) (A : List Int) (cut : Int) (hA : A.length ≤ 140737488355328) : CallS Try.prog base 5 [.c (.p (.tz z 1 (inP A) cA)), .c (.p (.int .i64 cut))] ⟨[], 0⟩ (.c (.p (.bool true))) ⟨[], 0⟩ := by
  refine CallS.of noNG lLc.2 rfl (M.start (M.go rfl ?_))
  refine M.use0 trivial begun_spec rfl rfl rfl ?_
  refine M.goN 17 rfl ?_
  refine M.freezeO (i := 6) rfl rfl rfl ?_
  refine M.wkO (i := 6) (v' := .c (.p (cPC [1, 2, 3]))) rfl Wk.uncap ?_
  refine M.go rfl ?_
  refine M.uncapS (i := 7) rfl rfl rfl ?_
  obtain ⟨B, hB⟩ : ∃ B, B = A.take 20 := ⟨_, rfl⟩
  have hBl : B.length ≤ 20 := by rw [hB, List.length_take]; omega
  refine M.loop (XH.ren [(0, 0), (1, 1)] (conf_build z cA A cut hA B hB _ ?_ A [] rfl (by simp)) rfl (by repeat' (first | exact True.intro | refine ⟨⟨_, _, rfl, rfl, Wk.rfl⟩, ?_⟩ | refine ⟨⟨_, _, accV_ren rfl, rfl, Wk.rfl⟩, ?_⟩ | refine ⟨⟨_, _, accV_ren rfl, rfl, Wk.acc0⟩, ?_⟩ | refine ⟨⟨_, _, rfl, rfl, Wk.uncap⟩, ?_⟩ | refine ⟨⟨_, _, rfl, rfl, Wk.nil⟩, ?_⟩)) (by repeat' (first | exact True.intro | refine ⟨⟨_, _, _, rfl, rfl, rfl, WkO.rfl⟩, ?_⟩ | refine HeapOK.acc rfl rfl ?_)))
  refine M.q (M.goN 2 rfl ?_)
  refine M.accF (i := 8) rfl rfl ?_
  refine M.freezeN (i := 7) rfl rfl (by rw [cfP_len]) ?_
  refine M.ren [] ?_ trivial rfl (by repeat' (first | exact True.intro | refine ⟨⟨_, _, rfl, rfl, Wk.rfl⟩, ?_⟩ | refine ⟨⟨_, _, accV_ren rfl, rfl, Wk.rfl⟩, ?_⟩ | refine ⟨⟨_, _, accV_ren rfl, rfl, Wk.acc0⟩, ?_⟩ | refine ⟨⟨_, _, rfl, rfl, Wk.uncap⟩, ?_⟩ | refine ⟨⟨_, _, rfl, rfl, Wk.nil⟩, ?_⟩)) (by repeat' (first | exact True.intro | refine ⟨⟨_, _, _, rfl, rfl, rfl, WkO.rfl⟩, ?_⟩ | refine HeapOK.acc rfl rfl ?_)) (e' := [(6, .c (.p (cPC [1, 2, 3]))), (7, .c (.p (.tz false 1 (cfP B) none))), (8, .c (.p (.tz true 4 (entP (cEs 0 B)) none))), (1, .c (.p (.int .i64 cut)))]) (h' := ⟨[], 0⟩)
  refine M.go rfl ?_
  refine M.wkO (i := 72) (v' := cS.v) rfl Wk.rfl ?_
  have hL := cLog_ok B hBl
  refine M.use trivial (New_yes cS cS_ok true none (cEs 0 B) (by rw [cEs_len]; omega) (cEs_ok B 0 (by omega)) (cs_new B (by omega))) [] rfl rfl rfl (by repeat' (first | exact True.intro | refine ⟨⟨_, _, _, rfl, rfl, rfl, WkO.rfl⟩, ?_⟩ | refine HeapOK.acc rfl rfl ?_)) rfl rfl ?_
  refine M.go rfl ?_
  refine M.loop (XH.ren [(0, 0)] (conf_check B hBl cut _ ?_ (B.length + 1) 0 (by omega)) rfl (by repeat' (first | exact True.intro | refine ⟨⟨_, _, rfl, rfl, Wk.rfl⟩, ?_⟩ | refine ⟨⟨_, _, accV_ren rfl, rfl, Wk.rfl⟩, ?_⟩ | refine ⟨⟨_, _, accV_ren rfl, rfl, Wk.acc0⟩, ?_⟩ | refine ⟨⟨_, _, rfl, rfl, Wk.uncap⟩, ?_⟩ | refine ⟨⟨_, _, rfl, rfl, Wk.nil⟩, ?_⟩)) (by repeat' (first | exact True.intro | refine ⟨⟨_, _, _, rfl, rfl, rfl, WkO.rfl⟩, ?_⟩ | refine HeapOK.acc rfl rfl ?_)))
  refine M.q (M.goN 2 rfl ?_)
  refine M.go rfl ?_
  refine M.dec rfl (fun h => ?_) (fun h1 => ?_)
  · refine M.go rfl ?_
    exact M.ret (M.go rfl (M.done (finQ.ret [] rfl rfl rfl (by first | exact Wk.rfl | exact Wk.uncap | exact Wk.nil | exact Wk.b1 rfl | exact Wk.t2 Wk.rfl (Wk.b1 rfl)) (by repeat' (first | exact True.intro | refine ⟨⟨_, _, _, rfl, rfl, rfl, WkO.rfl⟩, ?_⟩ | refine HeapOK.acc rfl rfl ?_)))))
  refine M.go rfl ?_
  have hEl : (entP (cEs 0 B)).length = B.length := by rw [entP_len, cEs_len]
  rw [hEl]
  refine M.cond rfl (fun h => ?_) (fun h2 => ?_)
  · refine M.go rfl ?_
    exact M.ret (M.go rfl (M.done (finQ.ret [] rfl rfl rfl (by first | exact Wk.rfl | exact Wk.uncap | exact Wk.nil | exact Wk.b1 rfl | exact Wk.t2 Wk.rfl (Wk.b1 rfl)) (by repeat' (first | exact True.intro | refine ⟨⟨_, _, _, rfl, rfl, rfl, WkO.rfl⟩, ?_⟩ | refine HeapOK.acc rfl rfl ?_)))))
  refine M.go rfl ?_
  refine M.op trivial (SOp.cvO rfl rfl (by omega)) ?_
  refine M.freezeO (i := 103) rfl rfl rfl ?_
  have hlast : (cLog B).last = B.length := by simp [PLog.last, cLog, cS, Snp.own, cEs_len]
  have hi : I64 cut := ⟨by omega, by omega⟩
  refine M.use trivial (Comp_yes (cLog B) hL cut hi false [120] (some 1) ⟨by simp, by simp⟩ (show (0 : Int) < cut by omega) (by rw [hlast]; omega)) [(0, 0)] rfl rfl rfl (by repeat' (first | exact True.intro | refine ⟨⟨_, _, _, rfl, rfl, rfl, WkO.rfl⟩, ?_⟩ | refine HeapOK.acc rfl rfl ?_)) rfl rfl ?_
  refine M.go rfl ?_
  refine M.decC (s := 14) rfl (fun _ => ?_) (fun h => absurd h (by decide))
  obtain ⟨L1, hL1⟩ : ∃ L1, L1 = (cLog B).compact cut false [120] := ⟨_, rfl⟩
  rw [← hL1]
  obtain ⟨J, hJ⟩ : ∃ J : Nat, cut = J := ⟨cut.toNat, by omega⟩
  subst hJ
  have hok1 : L1.ok := by rw [hL1]; exact cComp_ok B J hBl (by omega) (by omega)
  obtain ⟨z1, e1⟩ := cLog_confAt B J (by omega)
  have hS : L1.S = ⟨J, ((cLog B).term J).1, z1, cur (B.take J), none, false, [120], none⟩ := by rw [hL1, PLog.compact, e1]
  have hsnap := Snap_spec (base := base) L1 hok1
  have hconf := Conf_spec (base := base) L1 hok1
  have hbase := Base_spec (base := base) L1
  rw [hS] at hsnap hbase
  obtain ⟨z2, e2⟩ := cComp_conf B J hBl (by omega) (by omega)
  rw [← hL1] at e2
  rw [e2] at hconf
  have hu1 : (cfP B)[((J : Int)).toNat]? = some (cPC (cur (B.take J))) := cfP_get B J (by omega)
  have hu2 : (cfP B)[(((entP (cEs 0 B)).length : Int)).toNat]? = some (cPC (cur B)) := by rw [hEl]; have := cfP_get B B.length (Nat.le_refl _); rw [List.take_length] at this; exact this
  refine M.regF (MF.go rfl ?_)
  refine MF.use rfl hsnap [(0, 0)] rfl rfl rfl (by repeat' (first | exact True.intro | refine ⟨⟨_, _, _, rfl, rfl, rfl, WkO.rfl⟩, ?_⟩ | refine HeapOK.acc rfl rfl ?_)) rfl rfl (MF.go rfl ?_)
  refine MF.op rfl (SOp.ia rfl rfl (by omega) hu1) (MF.go rfl ?_)
  refine MF.op rfl (SOp.ld1e rfl hu1 rfl rfl rfl) (MF.go rfl ?_)
  refine MF.use0 rfl (EqInts_yes z1 false none none (cur (B.take J)) (cur_len _)) rfl rfl rfl (MF.go rfl ?_)
  refine MF.use rfl hconf [(0, 0)] rfl rfl rfl (by repeat' (first | exact True.intro | refine ⟨⟨_, _, _, rfl, rfl, rfl, WkO.rfl⟩, ?_⟩ | refine HeapOK.acc rfl rfl ?_)) rfl rfl (MF.go rfl ?_)
  refine MF.op rfl (SOp.ia rfl rfl (by omega) hu2) (MF.go rfl ?_)
  refine MF.op rfl (SOp.ld1e rfl hu2 rfl rfl rfl) (MF.go rfl ?_)
  refine MF.use0 rfl (EqInts_yes z2 false none none (cur B) (cur_len _)) rfl rfl rfl (MF.go rfl ?_)
  refine MF.use rfl hsnap [(0, 0)] rfl rfl rfl (by repeat' (first | exact True.intro | refine ⟨⟨_, _, _, rfl, rfl, rfl, WkO.rfl⟩, ?_⟩ | refine HeapOK.acc rfl rfl ?_)) rfl rfl (MF.go rfl ?_)
  refine MF.op rfl (SOp.cvBS (l := [120]) rfl rfl) ?_
  refine MF.op rfl (SOp.binT (t := eqL [120] [120]) rfl rfl rfl rfl) (MF.go rfl ?_)
  refine MF.use rfl hbase [(0, 0)] rfl rfl rfl (by repeat' (first | exact True.intro | refine ⟨⟨_, _, _, rfl, rfl, rfl, WkO.rfl⟩, ?_⟩ | refine HeapOK.acc rfl rfl ?_)) rfl rfl (MF.go rfl (MF.nil mixed (Fnl.rest (by repeat' (first | exact True.intro | exact .inl rfl | exact .inr ⟨rfl, rfl⟩ | refine ⟨?_, ?_⟩))) rfl ⟨⟨SOp.ld1e rfl hu1 rfl rfl rfl, trivial⟩, ⟨stepX_ok rfl, trivial⟩, ⟨SOp.ld1e rfl hu2 rfl rfl rfl, trivial⟩, trivial⟩ (M.go rfl ?_)))
  exact M.ret (M.go rfl (M.done (finQ.ret [] rfl rfl rfl (Wk.of (by simp [XV.sv, XC.sc, PC.sc])) (by repeat' (first | exact True.intro | refine ⟨⟨_, _, _, rfl, rfl, rfl, WkO.rfl⟩, ?_⟩ | refine HeapOK.acc rfl rfl ?_)))))
end Go.Proofs.Yteegdhfekemhmaa
