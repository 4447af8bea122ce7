/- The log: what its methods do. -/
import Derived.Test.YteegdhfekemhmaaRl1
namespace Go.Proofs.Yteegdhfekemhmaa
open Go.RowKit Sim Go Sym
set_option maxRecDepth 100000
set_option linter.unusedVariables false
set_option linter.unusedSimpArgs false
variable {base : Nat}
instance : Inhabited Ent := ⟨⟨0, 0, 0, true, [], none⟩⟩
structure PLog where
  S : Snp
  E : List Ent
  z : Bool
  c : Option Nat
def PLog.row (L : PLog) : List XC := [.p (.int .i64 L.S.ix), .p (.int .i64 L.S.tm), .p (.tz L.S.cz 1 (inP L.S.cf) L.S.cc), .p (.tz L.S.dz 1 (byP L.S.d) L.S.dc), .p (.tz L.z 4 (entP L.E) L.c)]
def PLog.h (L : PLog) : HS := ⟨[(0, some (.row L.row true))], 1⟩
def PLog.last (L : PLog) : Int := L.S.ix + L.E.length
structure PLog.ok (L : PLog) : Prop where
  S : L.S.ok
  ix : 0 ≤ L.S.ix
  top : L.last ≤ 9223372036854775807
  len : L.E.length ≤ 10000000000
  E : ∀ e ∈ L.E, e.ok
theorem entP_len (l : List Ent) : (entP l).length = l.length := by simp [entP]
def PLog.at' (L : PLog) (i : Int) : Ent := L.E.getD (i - L.S.ix - 1).toNat default
/-! Base, Last. -/
noncomputable def lBase : {F : LF // lowerF Try.prog 37 = some F} := ⟨_, rfl⟩
theorem Base_spec (L : PLog) : CallS Try.prog base 37 [.c (.ptr 0 0)] L.h (.c (.p (.int .i64 L.S.ix))) L.h := by
  refine CallS.of noNG lBase.2 rfl (M.start (M.go rfl ?_))
  exact M.ret (M.go rfl (M.done (finQ.ret [(0, 0)] rfl rfl rfl (by first | exact Wk.rfl | exact Wk.uncap | exact Wk.nil | exact Wk.b1 rfl | exact Wk.t2 Wk.rfl (Wk.b1 rfl)) (by repeat' (first | exact True.intro | refine ⟨⟨_, _, _, rfl, rfl, rfl, WkO.rfl⟩, ?_⟩ | refine HeapOK.acc rfl rfl ?_)))))
noncomputable def lLast : {F : LF // lowerF Try.prog 39 = some F} := ⟨_, rfl⟩
theorem Last_spec (L : PLog) (hL : L.ok) : CallS Try.prog base 39 [.c (.ptr 0 0)] L.h (.c (.p (.int .i64 L.last))) L.h := by
  refine CallS.of noNG lLast.2 rfl (M.start (M.go rfl ?_))
  refine M.regD (MD.go rfl (MD.nil mixed (Fnl.nodup rfl) (M.go rfl ?_)))
  rw [show IntKind.i64.wrap (L.S.ix + ((entP L.E).length : Int)) = L.last by rw [entP_len]; exact wr64 (by have := hL.ix; omega) hL.top]
  exact M.ret (M.go rfl (M.done (finQ.ret [(0, 0)] rfl rfl rfl (by first | exact Wk.rfl | exact Wk.uncap | exact Wk.nil | exact Wk.b1 rfl | exact Wk.t2 Wk.rfl (Wk.b1 rfl)) (by repeat' (first | exact True.intro | refine ⟨⟨_, _, _, rfl, rfl, rfl, WkO.rfl⟩, ?_⟩ | refine HeapOK.acc rfl rfl ?_)))))
/-! Term. -/
noncomputable def lTerm : {F : LF // lowerF Try.prog 40 = some F} := ⟨_, rfl⟩
def PLog.term (L : PLog) (i : Int) : Int × Bool := if i = L.S.ix then (L.S.tm, true) else if i ≤ L.S.ix ∨ L.last < i then (0, false) else ((L.at' i).tm, true)
theorem PLog.at_get {L : PLog} {i : Int} (h1 : L.S.ix < i) (h2 : i ≤ L.last) : ∃ j : Nat, (j : Int) = i - L.S.ix - 1 ∧ j < L.E.length ∧ L.E[j]? = some (L.at' i) ∧ (entP L.E)[(i - L.S.ix - 1).toNat]? = some (L.at' i).pc := by
  have hj : (i - L.S.ix - 1).toNat < L.E.length := by unfold PLog.last at h2; omega
  have : L.E[(i - L.S.ix - 1).toNat]? = some (L.at' i) := by
    unfold PLog.at'
    rw [List.getD_eq_getElem?_getD, List.getElem?_eq_getElem hj]; rfl
  exact ⟨(i - L.S.ix - 1).toNat, by omega, hj, this, by rw [entP, List.getElem?_map, this]; rfl⟩
theorem Term_spec (L : PLog) (hL : L.ok) (i : Int) (hi : I64 i) : CallS Try.prog base 40 [.c (.ptr 0 0), .c (.p (.int .i64 i))] L.h (.tup [.c (.p (.int .i64 (L.term i).1)), .c (.p (.bs (L.term i).2))]) L.h := by
  refine CallS.of noNG lTerm.2 rfl (M.start (M.go rfl ?_))
  refine M.cond rfl (fun h1 => ?_) (fun h1 => ?_)
  · refine M.go rfl ?_
    rw [show L.term i = (L.S.tm, true) from if_pos h1]
    exact M.ret (M.go rfl (M.done (finQ.ret [(0, 0)] rfl rfl rfl (by first | exact Wk.rfl | exact Wk.uncap | exact Wk.nil | exact Wk.b1 rfl | exact Wk.t2 Wk.rfl (Wk.b1 rfl)) (by repeat' (first | exact True.intro | refine ⟨⟨_, _, _, rfl, rfl, rfl, WkO.rfl⟩, ?_⟩ | refine HeapOK.acc rfl rfl ?_)))))
  · refine M.go rfl ?_
    have e1 : L.term i = if i ≤ L.S.ix ∨ L.last < i then (0, false) else ((L.at' i).tm, true) := if_neg h1
    refine M.dec rfl (fun h2 => ?_) (fun h2 => ?_)
    · refine M.go rfl ?_
      rw [e1, if_pos (.inl h2)]
      exact M.ret (M.go rfl (M.done (finQ.ret [(0, 0)] rfl rfl rfl (by first | exact Wk.rfl | exact Wk.uncap | exact Wk.nil | exact Wk.b1 rfl | exact Wk.t2 Wk.rfl (Wk.b1 rfl)) (by repeat' (first | exact True.intro | refine ⟨⟨_, _, _, rfl, rfl, rfl, WkO.rfl⟩, ?_⟩ | refine HeapOK.acc rfl rfl ?_)))))
    · refine M.go rfl ?_
      refine M.use (by first | exact True.intro | exact rfl) (Last_spec L hL) [(0, 0)] rfl rfl rfl (by repeat' (first | exact True.intro | refine ⟨⟨_, _, _, rfl, rfl, rfl, WkO.rfl⟩, ?_⟩ | refine HeapOK.acc rfl rfl ?_)) rfl rfl ?_
      refine M.go rfl ?_
      refine M.cond rfl (fun h3 => ?_) (fun h3 => ?_)
      · refine M.go rfl ?_
        rw [e1, if_pos (.inr h3)]
        exact M.ret (M.go rfl (M.done (finQ.ret [(0, 0)] rfl rfl rfl (by first | exact Wk.rfl | exact Wk.uncap | exact Wk.nil | exact Wk.b1 rfl | exact Wk.t2 Wk.rfl (Wk.b1 rfl)) (by repeat' (first | exact True.intro | refine ⟨⟨_, _, _, rfl, rfl, rfl, WkO.rfl⟩, ?_⟩ | refine HeapOK.acc rfl rfl ?_)))))
      · refine M.go rfl ?_
        rw [e1, if_neg (by omega)]
        obtain ⟨j, h4, h5, h6, h7⟩ := PLog.at_get (L := L) (i := i) (by omega) (by omega)
        have hw : IntKind.i64.wrap (IntKind.i64.wrap (i - L.S.ix) - 1) = i - L.S.ix - 1 := by
          rw [wr64 (n := i - L.S.ix) (by omega) (by have := hL.ix; have := hi.2; omega), wr64 (by omega) (by have := hL.ix; have := hi.2; omega)]
        refine M.regD (MD.go rfl ?_)
        rw [hw]
        refine MD.op trivial (SOp.ia rfl rfl (by omega) h7) (MD.go rfl ?_)
        refine MD.op trivial (SOp.ld1e rfl h7 rfl rfl rfl) (MD.go rfl (MD.nil mixed (Fnl.nodup rfl) (M.go rfl ?_)))
        exact M.ret (M.go rfl (M.done (finQ.ret [(0, 0)] rfl rfl rfl (by first | exact Wk.rfl | exact Wk.uncap | exact Wk.nil | exact Wk.b1 rfl | exact Wk.t2 Wk.rfl (Wk.b1 rfl)) (by repeat' (first | exact True.intro | refine ⟨⟨_, _, _, rfl, rfl, rfl, WkO.rfl⟩, ?_⟩ | refine HeapOK.acc rfl rfl ?_)))))
/-! Get. -/
noncomputable def lGet : {F : LF // lowerF Try.prog 41 = some F} := ⟨_, rfl⟩
def PLog.get (L : PLog) (i : Int) : Ent × Bool := if i ≤ L.S.ix ∨ L.last < i then (default, false) else ((L.at' i).own, true)
theorem PLog.ok.wrap {L : PLog} (hL : L.ok) {i : Int} (hi : I64 i) (h1 : L.S.ix < i) : IntKind.i64.wrap (IntKind.i64.wrap (i - L.S.ix) - 1) = i - L.S.ix - 1 := by
  have := hL.ix; have := hi.2
  rw [wr64 (n := i - L.S.ix) (by omega) (by omega), wr64 (by omega) (by omega)]
theorem PLog.ok.at_ {L : PLog} (hL : L.ok) {i : Int} {j : Nat} (h : L.E[j]? = some (L.at' i)) : (L.at' i).ok := hL.E _ (List.mem_of_getElem? h)
theorem Get_spec (L : PLog) (hL : L.ok) (i : Int) (hi : I64 i) : CallS Try.prog base 41 [.c (.ptr 0 0), .c (.p (.int .i64 i))] L.h (.tup [(L.get i).1.v, .c (.p (.bs (L.get i).2))]) L.h := by
  refine CallS.of noNG lGet.2 rfl (M.start (M.go rfl ?_))
  have e0 : ∀ v : XV, Wk (.tup [.agg [.p (.int .i64 0), .p (.int .i64 0), .p (.int .i64 0), .p (.tz true 0 [] none)], .c (.p (.bool false))]) (.tup [(default : Ent).v, .c (.p (.bs false))]) := fun _ => Wk.t2 (Wk.agg ⟨Wk.rfl, Wk.rfl, Wk.rfl, Wk.nil, trivial⟩) (Wk.b1 rfl)
  refine M.dec rfl (fun h2 => ?_) (fun h2 => ?_)
  · refine M.go rfl ?_
    rw [show L.get i = (default, false) from if_pos (.inl h2)]
    exact M.ret (M.go rfl (M.done (finQ.ret [(0, 0)] rfl rfl rfl (e0 (.tup [])) (by repeat' (first | exact True.intro | refine ⟨⟨_, _, _, rfl, rfl, rfl, WkO.rfl⟩, ?_⟩ | refine HeapOK.acc rfl rfl ?_)))))
  · refine M.go rfl ?_
    refine M.use (by first | exact True.intro | exact rfl) (Last_spec L hL) [(0, 0)] rfl rfl rfl (by repeat' (first | exact True.intro | refine ⟨⟨_, _, _, rfl, rfl, rfl, WkO.rfl⟩, ?_⟩ | refine HeapOK.acc rfl rfl ?_)) rfl rfl ?_
    refine M.go rfl ?_
    refine M.cond rfl (fun h3 => ?_) (fun h3 => ?_)
    · refine M.go rfl ?_
      rw [show L.get i = (default, false) from if_pos (.inr h3)]
      exact M.ret (M.go rfl (M.done (finQ.ret [(0, 0)] rfl rfl rfl (e0 (.tup [])) (by repeat' (first | exact True.intro | refine ⟨⟨_, _, _, rfl, rfl, rfl, WkO.rfl⟩, ?_⟩ | refine HeapOK.acc rfl rfl ?_)))))
    · refine M.go rfl ?_
      rw [show L.get i = ((L.at' i).own, true) from if_neg (by omega)]
      obtain ⟨j, h4, h5, h6, h7⟩ := PLog.at_get (L := L) (i := i) (by omega) (by omega)
      refine M.regD (MD.go rfl ?_)
      rw [hL.wrap hi (by omega)]
      refine MD.op trivial (SOp.ia rfl rfl (by omega) h7) (MD.go rfl ?_)
      refine MD.op trivial (SOp.ldne rfl h7 rfl rfl rfl) (MD.go rfl ?_)
      refine MD.use0 trivial (own_spec (L.at' i) (hL.at_ h6).d) rfl rfl rfl (MD.go rfl (MD.nil mixed (Fnl.nodup rfl) (M.go rfl ?_)))
      exact M.ret (M.go rfl (M.done (finQ.ret [(0, 0)] rfl rfl rfl (by first | exact Wk.rfl | exact Wk.uncap | exact Wk.nil | exact Wk.b1 rfl | exact Wk.t2 Wk.rfl (Wk.b1 rfl)) (by repeat' (first | exact True.intro | refine ⟨⟨_, _, _, rfl, rfl, rfl, WkO.rfl⟩, ?_⟩ | refine HeapOK.acc rfl rfl ?_)))))
/-! Slice. -/
noncomputable def lSlice : {F : LF // lowerF Try.prog 42 = some F} := ⟨_, rfl⟩
def PLog.slice (L : PLog) (f n : Int) : List Ent := if f ≤ L.S.ix ∨ L.last < f ∨ n < 1 then [] else ((L.E.drop (f - L.S.ix - 1).toNat).take n.toNat).map Ent.own
theorem slice_loop (L : PLog) (z : Bool) (c : Option Nat) (l : List Ent) (n : Int) (hn : 1 ≤ n) (hl : l.length ≤ 10000000000) (hok : ∀ e ∈ l, e.ok) (Q : QX) (hq : Q (.exit 0) [(7, accV 1 4 (entP ((l.take n.toNat).map Ent.own)))] ⟨[(1, accO 4 (entP ((l.take n.toNat).map Ent.own))), (0, some (.row L.row true))], 2⟩) :
    ∀ (rest pre : List Ent), l = pre ++ rest → (pre.length : Int) ≤ n → XH Try.prog base lSlice.1.n 1 (lSlice.1.c.lp 0) [(43, .c (.p (.tz z 4 (entP l) c))), (44, .c (.p (.int .i64 (entP l).length))), (45, .c (.p (.int .i64 pre.length))), (7, accV 1 4 (entP (pre.map Ent.own))), (2, .c (.p (.int .i64 n)))] ⟨[(1, accO 4 (entP (pre.map Ent.own))), (0, some (.row L.row true))], 2⟩ Q := by
  intro rest
  induction rest with
  | nil =>
    intro pre hp hn2
    refine M.round (M.go rfl ?_)
    simp at hp
    subst hp
    refine M.cond rfl (fun hc => ?_) (fun hc => ?_)
    · simp [entP] at hc
    · rw [List.take_of_length_le (by omega)] at hq
      refine M.ren [(0, 0), (1, 1)] ?_ trivial rfl (by repeat' (first | exact True.intro | refine ⟨⟨_, _, rfl, rfl, Wk.rfl⟩, ?_⟩ | refine ⟨⟨_, _, accV_ren rfl, rfl, Wk.rfl⟩, ?_⟩ | refine ⟨⟨_, _, accV_ren rfl, rfl, Wk.acc0⟩, ?_⟩ | refine ⟨⟨_, _, rfl, rfl, Wk.uncap⟩, ?_⟩ | refine ⟨⟨_, _, rfl, rfl, Wk.nil⟩, ?_⟩)) (by repeat' (first | exact True.intro | refine ⟨⟨_, _, _, rfl, rfl, rfl, WkO.rfl⟩, ?_⟩ | refine HeapOK.acc rfl rfl ?_)) (e' := [(7, accV 1 4 (entP (l.map Ent.own)))]) (h' := ⟨[(1, accO 4 (entP (l.map Ent.own))), (0, some (.row L.row true))], 2⟩)
      exact M.exit (M.go rfl (M.done hq))
  | cons e rest ih =>
    intro pre hp hn2
    have he : e.ok := hok e (by rw [hp]; simp)
    have hlen : (entP l).length = pre.length + (rest.length + 1) := by rw [hp]; simp [entP]
    have hll : pre.length + rest.length < 10000000000 := by rw [hp] at hl; simp at hl; omega
    refine M.round (M.go rfl ?_)
    refine M.cond rfl (fun hc => ?_) (fun hc => ?_)
    · refine M.go rfl ?_
      have hu : (entP l)[((pre.length : Int)).toNat]? = some e.pc := by rw [hp]; exact at_app _ _ _ _
      refine M.op trivial (SOp.ia rfl rfl (by omega) hu) ?_
      refine M.op trivial (SOp.ldne rfl hu rfl rfl rfl) ?_
      refine M.go rfl ?_
      have hla : (entP (pre.map Ent.own)).length = pre.length := by simp [entP]
      rw [hla]
      refine M.cond rfl (fun h0 => ?_) (fun h0 => ?_)
      · have : l.take n.toNat = pre := by rw [hp, ← h0]; simp
        rw [this] at hq
        refine M.ren [(0, 0), (1, 1)] ?_ trivial rfl (by repeat' (first | exact True.intro | refine ⟨⟨_, _, rfl, rfl, Wk.rfl⟩, ?_⟩ | refine ⟨⟨_, _, accV_ren rfl, rfl, Wk.rfl⟩, ?_⟩ | refine ⟨⟨_, _, accV_ren rfl, rfl, Wk.acc0⟩, ?_⟩ | refine ⟨⟨_, _, rfl, rfl, Wk.uncap⟩, ?_⟩ | refine ⟨⟨_, _, rfl, rfl, Wk.nil⟩, ?_⟩)) (by repeat' (first | exact True.intro | refine ⟨⟨_, _, _, rfl, rfl, rfl, WkO.rfl⟩, ?_⟩ | refine HeapOK.acc rfl rfl ?_)) (e' := [(7, accV 1 4 (entP (pre.map Ent.own)))]) (h' := ⟨[(1, accO 4 (entP (pre.map Ent.own))), (0, some (.row L.row true))], 2⟩)
        exact M.exit (M.go rfl (M.done hq))
      · refine M.go rfl ?_
        refine M.use0 trivial (own_spec e he.d) rfl rfl rfl ?_
        refine M.go rfl ?_
        refine M.acc trivial rfl rfl rfl (.own rfl rfl) (by simp) (by rw [hla]; simp; omega) ?_
        refine M.go rfl ?_
        have hw2 : IntKind.i64.wrap ((pre.length : Int) + 1) = ((pre ++ [e]).length : Int) := by rw [wr64 (by omega) (by omega)]; simp
        rw [hw2]
        have ih' := ih (pre ++ [e]) (by rw [hp]; simp) (by simp; omega)
        rw [show entP ((pre ++ [e]).map Ent.own) = entP (pre.map Ent.own) ++ [e.own.pc] by simp [entP]] at ih'
        exact M.again (XH.ren [(0, 0), (1, 4)] ih' rfl (by repeat' (first | exact True.intro | refine ⟨⟨_, _, rfl, rfl, Wk.rfl⟩, ?_⟩ | refine ⟨⟨_, _, accV_ren rfl, rfl, Wk.rfl⟩, ?_⟩ | refine ⟨⟨_, _, accV_ren rfl, rfl, Wk.acc0⟩, ?_⟩ | refine ⟨⟨_, _, rfl, rfl, Wk.uncap⟩, ?_⟩ | refine ⟨⟨_, _, rfl, rfl, Wk.nil⟩, ?_⟩)) (by repeat' (first | exact True.intro | refine ⟨⟨_, _, _, rfl, rfl, rfl, WkO.rfl⟩, ?_⟩ | refine HeapOK.acc rfl rfl ?_)))
    · rw [hlen] at hc; omega
theorem Slice_spec (L : PLog) (hL : L.ok) (f n : Int) (hf : I64 f) : CallS Try.prog base 42 [.c (.ptr 0 0), .c (.p (.int .i64 f)), .c (.p (.int .i64 n))] L.h (.c (.p (.tz true 4 (entP (L.slice f n)) none))) L.h := by
  refine CallS.of noNG lSlice.2 rfl (M.start (M.go rfl ?_))
  refine M.dec rfl (fun h2 => ?_) (fun h2 => ?_)
  · refine M.go rfl ?_
    rw [show L.slice f n = [] from if_pos (.inl h2)]
    exact M.ret (M.go rfl (M.done (finQ.ret [(0, 0)] rfl rfl rfl Wk.nil (by repeat' (first | exact True.intro | refine ⟨⟨_, _, _, rfl, rfl, rfl, WkO.rfl⟩, ?_⟩ | refine HeapOK.acc rfl rfl ?_)))))
  · refine M.go rfl ?_
    refine M.use (by first | exact True.intro | exact rfl) (Last_spec L hL) [(0, 0)] rfl rfl rfl (by repeat' (first | exact True.intro | refine ⟨⟨_, _, _, rfl, rfl, rfl, WkO.rfl⟩, ?_⟩ | refine HeapOK.acc rfl rfl ?_)) rfl rfl ?_
    refine M.go rfl ?_
    refine M.dec rfl (fun h3 => ?_) (fun h3 => ?_)
    · refine M.go rfl ?_
      rw [show L.slice f n = [] from if_pos (.inr (.inl h3))]
      exact M.ret (M.go rfl (M.done (finQ.ret [(0, 0)] rfl rfl rfl Wk.nil (by repeat' (first | exact True.intro | refine ⟨⟨_, _, _, rfl, rfl, rfl, WkO.rfl⟩, ?_⟩ | refine HeapOK.acc rfl rfl ?_)))))
    · refine M.go rfl ?_
      refine M.cond rfl (fun h8 => ?_) (fun h8 => ?_)
      · refine M.go rfl ?_
        rw [show L.slice f n = [] from if_pos (.inr (.inr h8))]
        exact M.ret (M.go rfl (M.done (finQ.ret [(0, 0)] rfl rfl rfl Wk.nil (by repeat' (first | exact True.intro | refine ⟨⟨_, _, _, rfl, rfl, rfl, WkO.rfl⟩, ?_⟩ | refine HeapOK.acc rfl rfl ?_)))))
      · refine M.go rfl ?_
        rw [show L.slice f n = ((L.E.drop (f - L.S.ix - 1).toNat).take n.toNat).map Ent.own from if_neg (by omega)]
        refine M.regD (MD.go rfl ?_)
        rw [hL.wrap hf (by omega)]
        have hle : (f - L.S.ix - 1).toNat ≤ (entP L.E).length := by rw [entP_len]; have := hL.ix; unfold PLog.last at h3; omega
        refine MD.op trivial (SOp.sl rfl ⟨_, _, rfl, by omega, rfl⟩ rfl hle (Nat.le_refl _)) (MD.go rfl (MD.nil mixed (Fnl.nodup rfl) (M.go rfl ?_)))
        have hd : ((entP L.E).drop (f - L.S.ix - 1).toNat).take ((entP L.E).length - (f - L.S.ix - 1).toNat) = entP (L.E.drop (f - L.S.ix - 1).toNat) := by rw [List.take_of_length_le (by simp), entP, entP, List.map_drop]
        rw [hd]
        have hl := slice_loop (base := base) L (L.z && (entP L.E).isEmpty) (L.c.map (· - (f - L.S.ix - 1).toNat)) (L.E.drop (f - L.S.ix - 1).toNat) n (by omega) (by have := hL.len; simp; omega) (fun e he => hL.E e (List.mem_of_mem_drop he))
        refine M.loop (XH.ren [(0, 0), (1, 1)] (hl _ ?_ _ [] rfl (by simp; omega)) rfl (by repeat' (first | exact True.intro | refine ⟨⟨_, _, rfl, rfl, Wk.rfl⟩, ?_⟩ | refine ⟨⟨_, _, accV_ren rfl, rfl, Wk.rfl⟩, ?_⟩ | refine ⟨⟨_, _, accV_ren rfl, rfl, Wk.acc0⟩, ?_⟩ | refine ⟨⟨_, _, rfl, rfl, Wk.uncap⟩, ?_⟩ | refine ⟨⟨_, _, rfl, rfl, Wk.nil⟩, ?_⟩)) (by repeat' (first | exact True.intro | refine ⟨⟨_, _, _, rfl, rfl, rfl, WkO.rfl⟩, ?_⟩ | refine HeapOK.acc rfl rfl ?_)))
        refine M.q (M.go rfl ?_)
        refine M.accF (i := 6) rfl rfl ?_
        exact M.ret (M.go rfl (M.done (finQ.ret [(0, 0)] rfl rfl rfl (by first | exact Wk.rfl | exact Wk.uncap | exact Wk.nil | exact Wk.b1 rfl | exact Wk.t2 Wk.rfl (Wk.b1 rfl)) (by repeat' (first | exact True.intro | refine ⟨⟨_, _, _, rfl, rfl, rfl, WkO.rfl⟩, ?_⟩ | refine HeapOK.acc rfl rfl ?_)))))
/-! The members. -/
noncomputable def lConfAt : {F : LF // lowerF Try.prog 33 = some F} := ⟨_, rfl⟩
def natI (l : List Nat) : List Int := l.map fun (b : Nat) => (b : Int)
/-- The last members of the first entries. -/
def PLog.confN (L : PLog) : Nat → Bool × List Int
  | 0 => (L.S.cz, L.S.cf)
  | j + 1 => if (L.E.getD j default).kd = 3 then (true, natI (memL (L.E.getD j default).d)) else L.confN j
def PLog.confAt (L : PLog) (i : Int) : Bool × List Int := L.confN (min i L.last - L.S.ix).toNat
def confV (c : Bool × List Int) : XV := .c (.p (.tz c.1 1 (inP c.2) none))
theorem conf_loop (L : PLog) (hL : L.ok) (Q : QX) :
    ∀ (j : Nat) (v : Int), (v = L.S.ix + j ∨ v < L.S.ix ∧ j = 0) → I64 v → j ≤ L.E.length → (∀ c, L.confN j = c → c = (L.S.cz, L.S.cf) → Q (.exit 0) [(0, .c (.ptr 0 0))] L.h) → (∀ c, L.confN j = c → Q .ret [(4, confV c)] L.h) → XH Try.prog base lConfAt.1.n 1 (lConfAt.1.c.lp 0) [(0, .c (.ptr 0 0)), (5, .c (.p (.int .i64 v)))] L.h Q := by
  intro j
  induction j with
  | zero =>
    intro v hv hi hj hq hr
    refine M.round (M.go rfl ?_)
    refine M.cond rfl (fun hc => ?_) (fun hc => ?_)
    · omega
    · refine M.ren [(0, 0)] ?_ trivial rfl (by repeat' (first | exact True.intro | refine ⟨⟨_, _, rfl, rfl, Wk.rfl⟩, ?_⟩ | refine ⟨⟨_, _, accV_ren rfl, rfl, Wk.rfl⟩, ?_⟩ | refine ⟨⟨_, _, accV_ren rfl, rfl, Wk.acc0⟩, ?_⟩ | refine ⟨⟨_, _, rfl, rfl, Wk.uncap⟩, ?_⟩ | refine ⟨⟨_, _, rfl, rfl, Wk.nil⟩, ?_⟩)) (by repeat' (first | exact True.intro | refine ⟨⟨_, _, _, rfl, rfl, rfl, WkO.rfl⟩, ?_⟩ | refine HeapOK.acc rfl rfl ?_)) (e' := [(0, .c (.ptr 0 0))]) (h' := L.h)
      exact M.exit (M.go rfl (M.done (hq _ rfl rfl)))
  | succ j ih =>
    intro v hv hi hj hq hr
    have hv' : v = L.S.ix + (j + 1 : Nat) := by omega
    have h1 : L.S.ix < v := by omega
    have h2 : v ≤ L.last := by unfold PLog.last; omega
    obtain ⟨j', h4, h5, h6, h7⟩ := PLog.at_get h1 h2
    have hjj : j' = j := by omega
    subst hjj
    have he := hL.at_ h6
    have hg : L.E.getD j' default = L.at' v := by rw [List.getD_eq_getElem?_getD, h6]; rfl
    refine M.round (M.go rfl ?_)
    refine M.cond rfl (fun hc => ?_) (fun hc => ?_)
    · refine M.go rfl ?_
      refine M.regF (MF.go rfl ?_)
      rw [hL.wrap hi h1]
      refine MF.op trivial (SOp.ia rfl rfl (by omega) h7) (MF.go rfl ?_)
      refine MF.op trivial (SOp.ldne rfl h7 rfl rfl rfl) (MF.go rfl ?_)
      refine MF.nil mixed (Fnl.nodup rfl) rfl ⟨⟨stepX_ok rfl, trivial⟩, ⟨stepX_ok rfl, trivial⟩, ⟨.ldne rfl h7 rfl rfl rfl, trivial⟩, trivial⟩ ?_
      refine M.go rfl ?_
      refine M.cond rfl (fun h8 => ?_) (fun h8 => ?_)
      · refine M.go rfl ?_
        refine M.use0 trivial (members_spec (L.at' v).z (L.at' v).c (L.at' v).d he.d) rfl rfl rfl ?_
        refine M.go rfl ?_
        refine M.ren [(0, 0)] ?_ trivial rfl (by repeat' (first | exact True.intro | refine ⟨⟨_, _, rfl, rfl, Wk.rfl⟩, ?_⟩ | refine ⟨⟨_, _, accV_ren rfl, rfl, Wk.rfl⟩, ?_⟩ | refine ⟨⟨_, _, accV_ren rfl, rfl, Wk.acc0⟩, ?_⟩ | refine ⟨⟨_, _, rfl, rfl, Wk.uncap⟩, ?_⟩ | refine ⟨⟨_, _, rfl, rfl, Wk.nil⟩, ?_⟩)) (by repeat' (first | exact True.intro | refine ⟨⟨_, _, _, rfl, rfl, rfl, WkO.rfl⟩, ?_⟩ | refine HeapOK.acc rfl rfl ?_)) (e' := [(4, confV (true, natI (memL (L.at' v).d)))]) (h' := L.h)
        refine M.ret (M.go rfl (M.done (hr _ ?_)))
        rw [PLog.confN, hg, if_pos h8]
      · refine M.go rfl ?_
        have hw : IntKind.i64.wrap (v - 1) = v - 1 := wr64 (by have := hL.ix; omega) (by have := hi.2; omega)
        rw [hw]
        have hc2 : L.confN (j' + 1) = L.confN j' := by rw [PLog.confN, hg, if_neg h8]
        rw [hc2] at hq hr
        exact M.again (XH.ren [(0, 0)] (ih (v - 1) (by omega) ⟨by have := hL.ix; omega, by have := hi.2; omega⟩ (by omega) hq hr) rfl (by repeat' (first | exact True.intro | refine ⟨⟨_, _, rfl, rfl, Wk.rfl⟩, ?_⟩ | refine ⟨⟨_, _, accV_ren rfl, rfl, Wk.rfl⟩, ?_⟩ | refine ⟨⟨_, _, accV_ren rfl, rfl, Wk.acc0⟩, ?_⟩ | refine ⟨⟨_, _, rfl, rfl, Wk.uncap⟩, ?_⟩ | refine ⟨⟨_, _, rfl, rfl, Wk.nil⟩, ?_⟩)) (by repeat' (first | exact True.intro | refine ⟨⟨_, _, _, rfl, rfl, rfl, WkO.rfl⟩, ?_⟩ | refine HeapOK.acc rfl rfl ?_)))
    · omega
theorem ConfAt_spec (L : PLog) (hL : L.ok) (i : Int) (hi : I64 i) : CallS Try.prog base 33 [.c (.ptr 0 0), .c (.p (.int .i64 i))] L.h (confV (L.confAt i)) L.h := by
  refine CallS.of noNG lConfAt.2 rfl (M.start (M.go rfl ?_))
  refine M.use (by first | exact True.intro | exact rfl) (Last_spec L hL) [(0, 0)] rfl rfl rfl (by repeat' (first | exact True.intro | refine ⟨⟨_, _, _, rfl, rfl, rfl, WkO.rfl⟩, ?_⟩ | refine HeapOK.acc rfl rfl ?_)) rfl rfl ?_
  refine M.go rfl ?_
  rw [minI_eq]
  have h0 := hL.ix
  have h1 := hL.top
  refine M.loop (XH.ren [(0, 0)] (conf_loop L hL _ (min i L.last - L.S.ix).toNat (min i L.last) (by omega) ⟨by have := hi.1; unfold PLog.last at *; omega, by omega⟩ (by unfold PLog.last; omega) ?_ ?_) rfl (by repeat' (first | exact True.intro | refine ⟨⟨_, _, rfl, rfl, Wk.rfl⟩, ?_⟩ | refine ⟨⟨_, _, accV_ren rfl, rfl, Wk.rfl⟩, ?_⟩ | refine ⟨⟨_, _, accV_ren rfl, rfl, Wk.acc0⟩, ?_⟩ | refine ⟨⟨_, _, rfl, rfl, Wk.uncap⟩, ?_⟩ | refine ⟨⟨_, _, rfl, rfl, Wk.nil⟩, ?_⟩)) (by repeat' (first | exact True.intro | refine ⟨⟨_, _, _, rfl, rfl, rfl, WkO.rfl⟩, ?_⟩ | refine HeapOK.acc rfl rfl ?_)))
  · intro c hc hcc
    refine M.q (M.go rfl ?_)
    refine M.use0 trivial (Icl_spec L.S.cz (inP L.S.cf) L.S.cc (by have := hL.S.cf.1; rw [inP_len]; omega)) rfl rfl rfl ?_
    refine M.go rfl ?_
    rw [show L.confAt i = (L.S.cz, L.S.cf) from hc.trans hcc]
    exact M.ret (M.go rfl (M.done (finQ.ret [(0, 0)] rfl rfl rfl (by first | exact Wk.rfl | exact Wk.uncap | exact Wk.nil | exact Wk.b1 rfl | exact Wk.t2 Wk.rfl (Wk.b1 rfl)) (by repeat' (first | exact True.intro | refine ⟨⟨_, _, _, rfl, rfl, rfl, WkO.rfl⟩, ?_⟩ | refine HeapOK.acc rfl rfl ?_)))))
  · intro c hc
    refine M.q (M.go rfl ?_)
    rw [show L.confAt i = c from hc]
    exact M.done (finQ.ret [(0, 0)] rfl rfl rfl Wk.rfl (by repeat' (first | exact True.intro | refine ⟨⟨_, _, _, rfl, rfl, rfl, WkO.rfl⟩, ?_⟩ | refine HeapOK.acc rfl rfl ?_)))
noncomputable def lConf : {F : LF // lowerF Try.prog 36 = some F} := ⟨_, rfl⟩
theorem Conf_spec (L : PLog) (hL : L.ok) : CallS Try.prog base 36 [.c (.ptr 0 0)] L.h (confV (L.confAt L.last)) L.h := by
  refine CallS.of noNG lConf.2 rfl (M.start (M.go rfl ?_))
  refine M.use (by first | exact True.intro | exact rfl) (Last_spec L hL) [(0, 0)] rfl rfl rfl (by repeat' (first | exact True.intro | refine ⟨⟨_, _, _, rfl, rfl, rfl, WkO.rfl⟩, ?_⟩ | refine HeapOK.acc rfl rfl ?_)) rfl rfl ?_
  refine M.go rfl ?_
  refine M.use (by first | exact True.intro | exact rfl) (ConfAt_spec L hL L.last ⟨by have := hL.ix; unfold PLog.last; omega, hL.top⟩) [(0, 0)] rfl rfl rfl (by repeat' (first | exact True.intro | refine ⟨⟨_, _, _, rfl, rfl, rfl, WkO.rfl⟩, ?_⟩ | refine HeapOK.acc rfl rfl ?_)) rfl rfl ?_
  refine M.go rfl ?_
  exact M.ret (M.go rfl (M.done (finQ.ret [(0, 0)] rfl rfl rfl (by first | exact Wk.rfl | exact Wk.uncap | exact Wk.nil | exact Wk.b1 rfl | exact Wk.t2 Wk.rfl (Wk.b1 rfl)) (by repeat' (first | exact True.intro | refine ⟨⟨_, _, _, rfl, rfl, rfl, WkO.rfl⟩, ?_⟩ | refine HeapOK.acc rfl rfl ?_)))))
noncomputable def lSnap : {F : LF // lowerF Try.prog 35 = some F} := ⟨_, rfl⟩
theorem Snap_spec (L : PLog) (hL : L.ok) : CallS Try.prog base 35 [.c (.ptr 0 0)] L.h L.S.own.v L.h := by
  refine CallS.of noNG lSnap.2 rfl (M.start (M.go rfl ?_))
  refine M.use0 trivial (ownS_spec L.S hL.S) rfl rfl rfl ?_
  refine M.go rfl ?_
  exact M.ret (M.go rfl (M.done (finQ.ret [(0, 0)] rfl rfl rfl (by first | exact Wk.rfl | exact Wk.uncap | exact Wk.nil | exact Wk.b1 rfl | exact Wk.t2 Wk.rfl (Wk.b1 rfl)) (by repeat' (first | exact True.intro | refine ⟨⟨_, _, _, rfl, rfl, rfl, WkO.rfl⟩, ?_⟩ | refine HeapOK.acc rfl rfl ?_)))))
end Go.Proofs.Yteegdhfekemhmaa
