/- The log: what changes it. -/
import Derived.Test.YteegdhfekemhmaaRl2
namespace Go.Proofs.Yteegdhfekemhmaa
open Go.RowKit Sim Go Sym
set_option maxRecDepth 100000
set_option linter.unusedVariables false
set_option linter.unusedSimpArgs false
variable {base : Nat}
/-! Compact. -/
noncomputable def lComp : {F : LF // lowerF Try.prog 34 = some F} := ⟨_, rfl⟩
def PLog.compact (L : PLog) (i : Int) (dz : Bool) (d : List Nat) : PLog := ⟨⟨i, (L.term i).1, (L.confAt i).1, (L.confAt i).2, none, dz, d, none⟩, L.E.drop (i - L.S.ix).toNat, L.z && (entP L.E).isEmpty, none⟩
theorem drop_take {l : List Ent} {k : Nat} : ((entP l).drop k).take ((entP l).length - k) = entP (l.drop k) := by rw [List.take_of_length_le (by simp), entP, entP, List.map_drop]
theorem Comp_no (L : PLog) (hL : L.ok) (i : Int) (hi : I64 i) (dz : Bool) (d : List Nat) (dc : Option Nat) (hno : i ≤ L.S.ix ∨ L.last < i) : CallS Try.prog base 34 [.c (.ptr 0 0), .c (.p (.int .i64 i)), .c (.p (.tz dz 1 (byP d) dc))] L.h (.c (.p (.bs false))) L.h := by
  refine CallS.of noNG lComp.2 rfl (M.start (M.go rfl ?_))
  refine M.dec rfl (fun h2 => ?_) (fun h2 => ?_)
  · refine M.go rfl ?_
    exact M.ret (M.go rfl (M.done (finQ.ret [(0, 0)] rfl rfl rfl (by first | exact Wk.rfl | exact Wk.uncap | exact Wk.nil | exact Wk.b1 rfl | exact Wk.t2 Wk.rfl (Wk.b1 rfl)) (by repeat' (first | exact True.intro | refine ⟨⟨_, _, _, rfl, rfl, rfl, WkO.rfl⟩, ?_⟩ | refine HeapOK.acc rfl rfl ?_)))))
  · refine M.go rfl ?_
    refine M.use (by first | exact True.intro | exact rfl) (Last_spec L hL) [(0, 0)] rfl rfl rfl (by repeat' (first | exact True.intro | refine ⟨⟨_, _, _, rfl, rfl, rfl, WkO.rfl⟩, ?_⟩ | refine HeapOK.acc rfl rfl ?_)) rfl rfl ?_
    refine M.go rfl ?_
    refine M.cond rfl (fun h3 => ?_) (fun h3 => ?_)
    · refine M.go rfl ?_
      exact M.ret (M.go rfl (M.done (finQ.ret [(0, 0)] rfl rfl rfl (by first | exact Wk.rfl | exact Wk.uncap | exact Wk.nil | exact Wk.b1 rfl | exact Wk.t2 Wk.rfl (Wk.b1 rfl)) (by repeat' (first | exact True.intro | refine ⟨⟨_, _, _, rfl, rfl, rfl, WkO.rfl⟩, ?_⟩ | refine HeapOK.acc rfl rfl ?_)))))
    · omega
theorem Comp_yes (L : PLog) (hL : L.ok) (i : Int) (hi : I64 i) (dz : Bool) (d : List Nat) (dc : Option Nat) (hd : okB d) (h1 : L.S.ix < i) (h3 : i ≤ L.last) : CallS Try.prog base 34 [.c (.ptr 0 0), .c (.p (.int .i64 i)), .c (.p (.tz dz 1 (byP d) dc))] L.h (.c (.p (.bs true))) (L.compact i dz d).h := by
  refine CallS.of noNG lComp.2 rfl (M.start (M.go rfl ?_))
  refine M.dec rfl (fun h2 => ?_) (fun h2 => ?_)
  · omega
  · refine M.go rfl ?_
    refine M.use (by first | exact True.intro | exact rfl) (Last_spec L hL) [(0, 0)] rfl rfl rfl (by repeat' (first | exact True.intro | refine ⟨⟨_, _, _, rfl, rfl, rfl, WkO.rfl⟩, ?_⟩ | refine HeapOK.acc rfl rfl ?_)) rfl rfl ?_
    refine M.go rfl ?_
    refine M.cond rfl (fun h3 => ?_) (fun _ => ?_)
    · omega
    · refine M.go rfl ?_
      refine M.use (by first | exact True.intro | exact rfl) (Term_spec L hL i hi) [(0, 0)] rfl rfl rfl (by repeat' (first | exact True.intro | refine ⟨⟨_, _, _, rfl, rfl, rfl, WkO.rfl⟩, ?_⟩ | refine HeapOK.acc rfl rfl ?_)) rfl rfl ?_
      refine M.go rfl ?_
      refine M.use (by first | exact True.intro | exact rfl) (ConfAt_spec L hL i hi) [(0, 0)] rfl rfl rfl (by repeat' (first | exact True.intro | refine ⟨⟨_, _, _, rfl, rfl, rfl, WkO.rfl⟩, ?_⟩ | refine HeapOK.acc rfl rfl ?_)) rfl rfl ?_
      refine M.go rfl ?_
      refine M.use0 trivial (Bcl_spec dz (byP d) dc (by have := hd.1; rw [byP_len]; omega)) rfl rfl rfl ?_
      refine M.go rfl ?_
      refine M.regD (MD.go rfl ?_)
      have hw : IntKind.i64.wrap (i - L.S.ix) = i - L.S.ix := wr64 (by omega) (by have := hL.ix; have := hi.2; omega)
      rw [hw]
      have hle : (i - L.S.ix).toNat ≤ (entP L.E).length := by rw [entP_len]; unfold PLog.last at h3; omega
      refine MD.op trivial (SOp.sl rfl ⟨_, _, rfl, by omega, rfl⟩ rfl hle (Nat.le_refl _)) (MD.go rfl ?_)
      rw [drop_take]
      refine MD.use0 trivial (Ecl_spec _ (entP (L.E.drop (i - L.S.ix).toNat)) _ (by rw [entP_len]; have := hL.len; simp; omega)) rfl rfl rfl (MD.go rfl (MD.nil mixed (Fnl.nodup rfl) (M.go rfl ?_)))
      exact M.ret (M.go rfl (M.done (finQ.ret [(0, 0)] rfl rfl rfl (by first | exact Wk.rfl | exact Wk.uncap | exact Wk.nil | exact Wk.b1 rfl | exact Wk.t2 Wk.rfl (Wk.b1 rfl)) (by repeat' (first | exact True.intro | refine ⟨⟨_, _, _, rfl, rfl, rfl, WkO.rfl⟩, ?_⟩ | refine HeapOK.acc rfl rfl ?_)))))
/-! Reset. -/
noncomputable def lReset : {F : LF // lowerF Try.prog 56 = some F} := ⟨_, rfl⟩
def PLog.keeps (L : PLog) (s : Snp) : Bool := (L.term s.ix).2 && (decide (L.S.ix < s.ix) && decide ((L.term s.ix).1 = s.tm))
def PLog.reset (L : PLog) (s : Snp) : PLog := if L.keeps s = true then ⟨s.own, L.E.drop (s.ix - L.S.ix).toNat, L.z && (entP L.E).isEmpty, none⟩ else ⟨s.own, [], L.z && (entP L.E).isEmpty, none⟩
theorem PLog.term_true {L : PLog} {i : Int} (h : (L.term i).2 = true) (h1 : L.S.ix < i) : i ≤ L.last := by
  unfold PLog.term at h
  rw [if_neg (by omega)] at h
  split at h
  · cases h
  · omega
theorem Reset_spec (L : PLog) (hL : L.ok) (s : Snp) (hs : s.ok) : CallS Try.prog base 56 [.c (.ptr 0 0), s.v] L.h (.tup []) (L.reset s).h := by
  refine CallS.of noNG lReset.2 rfl (M.start (M.go rfl ?_))
  refine M.op trivial (SOp.slM (l := 0) (r := 0) (m := 0) rfl rfl ⟨_, _, rfl, by omega, rfl⟩ ⟨_, _, rfl, by omega, rfl⟩ (by omega) (by omega) (by omega)) ?_
  refine M.go rfl ?_
  refine M.use (by first | exact True.intro | exact rfl) (Term_spec L hL s.ix hs.ix) [(0, 0)] rfl rfl rfl (by repeat' (first | exact True.intro | refine ⟨⟨_, _, _, rfl, rfl, rfl, WkO.rfl⟩, ?_⟩ | refine HeapOK.acc rfl rfl ?_)) rfl rfl ?_
  refine M.go rfl ?_
  have hz : ((entP L.E).drop 0).take (0 - 0) = entP [] := by simp [entP]
  rw [hz]
  refine M.decC (s := 6) rfl (fun h1 => ?_) (fun h1 => ?_)
  · have k1 : L.keeps s = (decide (L.S.ix < s.ix) && decide ((L.term s.ix).1 = s.tm)) := by rw [PLog.keeps, h1, Bool.true_and]
    by_cases h2 : L.S.ix < s.ix
    · have k2 : L.keeps s = decide ((L.term s.ix).1 = s.tm) := by rw [k1, decide_eq_true h2, Bool.true_and]
      have h3 := PLog.term_true h1 h2
      refine M.regD (MD.goN 9 rfl (MD.op rfl (SOp.binT rfl rfl rfl (decide_eq_true h2)) (MD.go rfl (MD.nil mixed (Fnl.nodup rfl) (M.go rfl ?_)))))
      refine M.cond rfl (fun h4 => ?_) (fun h4 => ?_)
      · refine M.go rfl ?_
        refine M.regD (MD.go rfl ?_)
        have hw : IntKind.i64.wrap (s.ix - L.S.ix) = s.ix - L.S.ix := wr64 (by omega) (by have := hL.ix; have := hs.ix.2; omega)
        rw [hw]
        have hle : (s.ix - L.S.ix).toNat ≤ (entP L.E).length := by rw [entP_len]; unfold PLog.last at h3; omega
        refine MD.op trivial (SOp.sl rfl ⟨_, _, rfl, by omega, rfl⟩ rfl hle (Nat.le_refl _)) (MD.go rfl ?_)
        rw [drop_take]
        refine MD.use0 trivial (Ecl_spec _ (entP (L.E.drop (s.ix - L.S.ix).toNat)) _ (by rw [entP_len]; have := hL.len; simp; omega)) rfl rfl rfl (MD.go rfl (MD.nil mixed (Fnl.nodup rfl) (M.go rfl ?_)))
        refine M.use0 trivial (ownS_spec s hs) rfl rfl rfl ?_
        refine M.go rfl ?_
        rw [show L.reset s = ⟨s.own, L.E.drop (s.ix - L.S.ix).toNat, L.z && (entP L.E).isEmpty, none⟩ from if_pos (by rw [k2]; exact decide_eq_true h4)]
        exact M.done (finQ.normal [(0, 0)] rfl rfl rfl Wk.rfl (by repeat' (first | exact True.intro | refine ⟨⟨_, _, _, rfl, rfl, rfl, WkO.rfl⟩, ?_⟩ | refine HeapOK.acc rfl rfl ?_)))
      · refine M.go rfl ?_
        refine M.use0 trivial (ownS_spec s hs) rfl rfl rfl ?_
        refine M.go rfl ?_
        rw [show L.reset s = ⟨s.own, [], L.z && (entP L.E).isEmpty, none⟩ from if_neg (by rw [k2]; simpa using h4)]
        exact M.done (finQ.normal [(0, 0)] rfl rfl rfl Wk.rfl ⟨⟨_, _, _, rfl, rfl, rfl, WkO.row ⟨Wk.rfl, Wk.rfl, Wk.rfl, Wk.rfl, Wk.uncap, trivial⟩⟩, trivial⟩)
    · refine M.regD (MD.goN 9 rfl (MD.op rfl (SOp.binF rfl rfl rfl (decide_eq_false h2)) (MD.go rfl (MD.nil mixed (Fnl.nodup rfl) (M.go rfl ?_)))))
      refine M.use0 trivial (ownS_spec s hs) rfl rfl rfl ?_
      refine M.go rfl ?_
      rw [show L.reset s = ⟨s.own, [], L.z && (entP L.E).isEmpty, none⟩ from if_neg (by rw [k1, decide_eq_false h2]; simp)]
      exact M.done (finQ.normal [(0, 0)] rfl rfl rfl Wk.rfl ⟨⟨_, _, _, rfl, rfl, rfl, WkO.row ⟨Wk.rfl, Wk.rfl, Wk.rfl, Wk.rfl, Wk.uncap, trivial⟩⟩, trivial⟩)
  · refine M.regD (MD.go rfl (MD.nil mixed (Fnl.nodup rfl) (M.go rfl ?_)))
    refine M.use0 trivial (ownS_spec s hs) rfl rfl rfl ?_
    refine M.go rfl ?_
    rw [show L.reset s = ⟨s.own, [], L.z && (entP L.E).isEmpty, none⟩ from if_neg (by rw [PLog.keeps, h1]; simp)]
    exact M.done (finQ.normal [(0, 0)] rfl rfl rfl Wk.rfl ⟨⟨_, _, _, rfl, rfl, rfl, WkO.row ⟨Wk.rfl, Wk.rfl, Wk.rfl, Wk.rfl, Wk.uncap, trivial⟩⟩, trivial⟩)
end Go.Proofs.Yteegdhfekemhmaa
