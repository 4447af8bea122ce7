/- Texts of this claim, several in one: Rl22, Rl23. -/
import Derived.Test.YteegdhfekemhmaaMgLogAll11
import Derived.Test.YteegdhfekemhmaaMgLogAll13
/- delphilaw20.LogAll: the walk. -/
namespace Go.Proofs.Yteegdhfekemhmaa
open Go.RowKit Sim Go Sym
set_option maxRecDepth 100000
set_option linter.unusedVariables false
set_option linter.unusedSimpArgs false
variable {base : Nat} {B : Nat} {L R : PLog}
structure LOpr where
  kd : Int
  i : Int
  ez : Bool
  es : List Ent
  s : Snp
  bz : Bool
  b : List Nat
def LOpr.cs (o : LOpr) : List PC := [.int .i64 o.kd, .int .i64 o.i, .tz o.ez 4 (entP o.es) none, .int .i64 o.s.ix, .int .i64 o.s.tm, .tz o.s.cz 1 (inP o.s.cf) o.s.cc, .tz o.s.dz 1 (byP o.s.d) o.s.dc, .tz o.bz 1 (byP o.b) none]
def LOpr.pc (o : LOpr) : PC := .agg o.cs
structure LOpr.raw (o : LOpr) : Prop where
  i : I64 o.i
  es : o.es.length ≤ 100000000000000 ∧ ∀ e ∈ o.es, e.raw
  s : o.s.raw
  b : ∀ x ∈ o.b, x < 256
noncomputable def lAll : {F : LF // lowerF Try.prog 10 = some F} := ⟨_, rfl⟩
def opP (l : List LOpr) : List PC := l.map LOpr.pc
theorem opP_len (l : List LOpr) : (opP l).length = l.length := by simp [opP]
theorem all_loop (z : Bool) (c : Option Nat) (ops : List LOpr) (hops : ∀ o ∈ ops, o.raw) (hl : ops.length ≤ 100000000000000) (Q : QX) (hq : Q (.exit 0) [] ⟨[], 0⟩) :
    ∀ (rest pre : List LOpr) (L R : PLog), ops = pre ++ rest → pre.length ≤ 20 → Rel (20 + 8 * pre.length) L R → XH Try.prog base lAll.1.n 0 (lAll.1.c.lp 0) [(2, .c (.p (.tz z 8 (opP ops) c))), (8, .c (.ptr 0 0)), (9, .c (.ptr 1 0)), (10, .c (.p (.int .i64 pre.length)))] (H2 L R) Q := by
  intro rest
  induction rest with
  | nil =>
    intro pre L R hp hn h
    simp at hp
    subst hp
    refine M.round (M.go rfl ?_)
    refine M.dec rfl (fun hc => absurd hc (by rw [opP_len]; omega)) (fun hc => ?_)
    refine M.go rfl ?_
    refine M.ren [] ?_ trivial rfl (by repeat' (first | exact True.intro | refine ⟨⟨_, _, rfl, rfl, Wk.rfl⟩, ?_⟩ | refine ⟨⟨_, _, accV_ren rfl, rfl, Wk.rfl⟩, ?_⟩ | refine ⟨⟨_, _, accV_ren rfl, rfl, Wk.acc0⟩, ?_⟩ | refine ⟨⟨_, _, rfl, rfl, Wk.uncap⟩, ?_⟩ | refine ⟨⟨_, _, rfl, rfl, Wk.nil⟩, ?_⟩)) (by repeat' (first | exact True.intro | refine ⟨⟨_, _, _, rfl, rfl, rfl, WkO.rfl⟩, ?_⟩ | refine HeapOK.acc rfl rfl ?_)) (e' := []) (h' := ⟨[], 0⟩)
    exact M.exit (M.go rfl (M.done hq))
  | cons o rest ih =>
    intro pre L R hp hn h
    have hlen : (opP ops).length = pre.length + (rest.length + 1) := by rw [hp]; simp [opP]
    have hu : (opP ops)[((pre.length : Int)).toNat]? = some o.pc := by rw [hp]; exact at_app _ _ _ _
    have ho : o.raw := hops o (by rw [hp]; simp)
    have hll : pre.length + rest.length < 100000000000000 := by rw [hp] at hl; simp at hl; omega
    refine M.round (M.go rfl ?_)
    refine M.dec rfl (fun hc => ?_) (fun hc => absurd (by omega) hc)
    refine M.go rfl ?_
    refine M.cond rfl (fun hc20 => ?_) (fun hc20 => ?_)
    · refine M.go rfl ?_
      refine M.op trivial (SOp.ia rfl rfl (by omega) hu) ?_
      refine M.op trivial (SOp.ldne rfl hu rfl rfl rfl) ?_
      refine M.go rfl ?_
      have hw2 : IntKind.i64.wrap ((pre.length : Int) + 1) = ((pre ++ [o]).length : Int) := by rw [wr64 (by omega) (by omega)]; simp
      have ih' := fun L R h => ih (pre ++ [o]) L R (by rw [hp]; simp) (by simp; omega) h
      have hB : 20 + 8 * pre.length ≤ 1000 := by omega
      have hB' : 20 + 8 * (pre ++ [o]).length = 20 + 8 * pre.length + 8 := by simp; omega
      have hmax : L.last < 9223372036854775807 := by have := h.top; omega
      have hmaxR : R.last < 9223372036854775807 := by rw [h.lastE]; exact hmax
      refine M.cond rfl (fun hk => ?_) (fun hk => ?_)
      · refine M.go rfl ?_
        refine M.use0 trivial (CutEntries_spec o.ez none o.es 8 ho.es.1 (by omega)) rfl rfl rfl ?_
        refine M.go rfl ?_
        obtain ⟨X, hX⟩ : ∃ X, X = cutEs o.es 8 := ⟨_, rfl⟩
        have hXok : ∀ e ∈ X, e.ok := by rw [hX]; exact cutEs_ok ho.es.2
        have hXl : X.length ≤ 8 := by rw [hX]; exact cutEs_len _ _
        rw [← hX]
        cases X with
        | nil =>
          refine M.use (by first | exact True.intro | exact rfl) (Put_nil L true none) [(0, 0)] rfl rfl rfl (by repeat' (first | exact True.intro | refine ⟨⟨_, _, _, rfl, rfl, rfl, WkO.rfl⟩, ?_⟩ | refine HeapOK.acc rfl rfl ?_)) rfl rfl ?_
          refine M.go rfl ?_
          refine M.use (by first | exact True.intro | exact rfl) (RPut_nil R true none) [(0, 1)] rfl rfl rfl (by repeat' (first | exact True.intro | refine ⟨⟨_, _, _, rfl, rfl, rfl, WkO.rfl⟩, ?_⟩ | refine HeapOK.acc rfl rfl ?_)) rfl rfl ?_
          refine M.go rfl ?_
          refine M.condB rfl (fun hn => by simp at hn) (fun _ => ?_)
          refine M.go rfl ?_
          refine M.use (by first | exact True.intro | exact rfl) (same_spec h hB) [(0, 0), (1, 1)] rfl rfl rfl (by repeat' (first | exact True.intro | refine ⟨⟨_, _, _, rfl, rfl, rfl, WkO.rfl⟩, ?_⟩ | refine HeapOK.acc rfl rfl ?_)) rfl rfl ?_
          refine M.go rfl ?_
          rw [hw2]
          exact M.again (XH.ren [(0, 0), (1, 1)] (ih' _ _ (by rw [hB']; exact h.mono (by omega))) rfl (by repeat' (first | exact True.intro | refine ⟨⟨_, _, rfl, rfl, Wk.rfl⟩, ?_⟩ | refine ⟨⟨_, _, accV_ren rfl, rfl, Wk.rfl⟩, ?_⟩ | refine ⟨⟨_, _, accV_ren rfl, rfl, Wk.acc0⟩, ?_⟩ | refine ⟨⟨_, _, rfl, rfl, Wk.uncap⟩, ?_⟩ | refine ⟨⟨_, _, rfl, rfl, Wk.nil⟩, ?_⟩)) (by repeat' (first | exact True.intro | refine ⟨⟨_, _, _, rfl, rfl, rfl, WkO.rfl⟩, ?_⟩ | refine HeapOK.acc rfl rfl ?_)))
        | cons e l =>
          have hpe := h.putE hB e l hXl
          by_cases hy : R.rputOk (e :: l) = true
          · refine M.use (by first | exact True.intro | exact rfl) (Put_yes L h.hL hmax true none e l (by omega) hXok (by rw [hpe]; exact hy)) [(0, 0)] rfl rfl rfl (by repeat' (first | exact True.intro | refine ⟨⟨_, _, _, rfl, rfl, rfl, WkO.rfl⟩, ?_⟩ | refine HeapOK.acc rfl rfl ?_)) rfl rfl ?_
            refine M.go rfl ?_
            refine M.use (by first | exact True.intro | exact rfl) (RPut_yes R h.hR hmaxR true none e l (by omega) hXok hy) [(0, 1)] rfl rfl rfl (by repeat' (first | exact True.intro | refine ⟨⟨_, _, _, rfl, rfl, rfl, WkO.rfl⟩, ?_⟩ | refine HeapOK.acc rfl rfl ?_)) rfl rfl ?_
            refine M.go rfl ?_
            refine M.condB rfl (fun hn => by simp at hn) (fun _ => ?_)
            refine M.go rfl ?_
            have h' := h.put hB e l hXl hXok hy
            refine M.use (by first | exact True.intro | exact rfl) (same_spec h' (by omega)) [(0, 0), (1, 1)] rfl rfl rfl (by repeat' (first | exact True.intro | refine ⟨⟨_, _, _, rfl, rfl, rfl, WkO.rfl⟩, ?_⟩ | refine HeapOK.acc rfl rfl ?_)) rfl rfl ?_
            refine M.go rfl ?_
            rw [hw2]
            exact M.again (XH.ren [(0, 0), (1, 1)] (ih' _ _ (by rw [hB']; exact h')) rfl (by repeat' (first | exact True.intro | refine ⟨⟨_, _, rfl, rfl, Wk.rfl⟩, ?_⟩ | refine ⟨⟨_, _, accV_ren rfl, rfl, Wk.rfl⟩, ?_⟩ | refine ⟨⟨_, _, accV_ren rfl, rfl, Wk.acc0⟩, ?_⟩ | refine ⟨⟨_, _, rfl, rfl, Wk.uncap⟩, ?_⟩ | refine ⟨⟨_, _, rfl, rfl, Wk.nil⟩, ?_⟩)) (by repeat' (first | exact True.intro | refine ⟨⟨_, _, _, rfl, rfl, rfl, WkO.rfl⟩, ?_⟩ | refine HeapOK.acc rfl rfl ?_)))
          · have hy' : R.rputOk (e :: l) = false := by simpa using hy
            refine M.use (by first | exact True.intro | exact rfl) (Put_no L h.hL hmax true none e l (by omega) hXok (by rw [hpe]; exact hy')) [(0, 0)] rfl rfl rfl (by repeat' (first | exact True.intro | refine ⟨⟨_, _, _, rfl, rfl, rfl, WkO.rfl⟩, ?_⟩ | refine HeapOK.acc rfl rfl ?_)) rfl rfl ?_
            refine M.go rfl ?_
            refine M.use (by first | exact True.intro | exact rfl) (RPut_no R h.hR hmaxR true none e l (by omega) hXok hy') [(0, 1)] rfl rfl rfl (by repeat' (first | exact True.intro | refine ⟨⟨_, _, _, rfl, rfl, rfl, WkO.rfl⟩, ?_⟩ | refine HeapOK.acc rfl rfl ?_)) rfl rfl ?_
            refine M.go rfl ?_
            refine M.condB rfl (fun hn => by simp at hn) (fun _ => ?_)
            refine M.go rfl ?_
            refine M.use (by first | exact True.intro | exact rfl) (same_spec h hB) [(0, 0), (1, 1)] rfl rfl rfl (by repeat' (first | exact True.intro | refine ⟨⟨_, _, _, rfl, rfl, rfl, WkO.rfl⟩, ?_⟩ | refine HeapOK.acc rfl rfl ?_)) rfl rfl ?_
            refine M.go rfl ?_
            rw [hw2]
            exact M.again (XH.ren [(0, 0), (1, 1)] (ih' _ _ (by rw [hB']; exact h.mono (by omega))) rfl (by repeat' (first | exact True.intro | refine ⟨⟨_, _, rfl, rfl, Wk.rfl⟩, ?_⟩ | refine ⟨⟨_, _, accV_ren rfl, rfl, Wk.rfl⟩, ?_⟩ | refine ⟨⟨_, _, accV_ren rfl, rfl, Wk.acc0⟩, ?_⟩ | refine ⟨⟨_, _, rfl, rfl, Wk.uncap⟩, ?_⟩ | refine ⟨⟨_, _, rfl, rfl, Wk.nil⟩, ?_⟩)) (by repeat' (first | exact True.intro | refine ⟨⟨_, _, _, rfl, rfl, rfl, WkO.rfl⟩, ?_⟩ | refine HeapOK.acc rfl rfl ?_)))
      · refine M.go rfl ?_
        refine M.cond rfl (fun hk => ?_) (fun hk => ?_)
        · refine M.go rfl ?_
          refine M.use0 trivial (short_spec o.bz (byP o.b) none 50 (by omega)) rfl rfl rfl ?_
          refine M.go rfl ?_
          rw [byP_take]
          have hd : okB (o.b.take 50) := ⟨by simp; omega, fun b hb => ho.b b (List.mem_of_mem_take hb)⟩
          by_cases hno : o.i ≤ L.S.ix ∨ L.last < o.i
          · refine M.regF (MF.go rfl ?_)
            refine MF.use (by first | exact True.intro | exact rfl) (Comp_no L h.hL o.i ho.i o.bz (o.b.take 50) none hno) [(0, 0)] rfl rfl rfl (by repeat' (first | exact True.intro | refine ⟨⟨_, _, _, rfl, rfl, rfl, WkO.rfl⟩, ?_⟩ | refine HeapOK.acc rfl rfl ?_)) rfl rfl (MF.go rfl ?_)
            refine MF.use (by first | exact True.intro | exact rfl) (RComp_no R h.hR o.i ho.i o.bz (o.b.take 50) none (by rw [← h.ix, h.lastE]; exact hno)) [(0, 1)] rfl rfl rfl (by repeat' (first | exact True.intro | refine ⟨⟨_, _, _, rfl, rfl, rfl, WkO.rfl⟩, ?_⟩ | refine HeapOK.acc rfl rfl ?_)) rfl rfl (MF.go rfl ?_)
            refine MF.nil mixed (Fnl.nodup rfl) rfl ⟨⟨stepX_ok rfl, trivial⟩, trivial⟩ (M.go rfl ?_)
            refine M.condB rfl (fun hn => by simp at hn) (fun _ => ?_)
            refine M.go rfl ?_
            refine M.use (by first | exact True.intro | exact rfl) (same_spec h hB) [(0, 0), (1, 1)] rfl rfl rfl (by repeat' (first | exact True.intro | refine ⟨⟨_, _, _, rfl, rfl, rfl, WkO.rfl⟩, ?_⟩ | refine HeapOK.acc rfl rfl ?_)) rfl rfl ?_
            refine M.go rfl ?_
            rw [hw2]
            exact M.again (XH.ren [(0, 0), (1, 1)] (ih' _ _ (by rw [hB']; exact h.mono (by omega))) rfl (by repeat' (first | exact True.intro | refine ⟨⟨_, _, rfl, rfl, Wk.rfl⟩, ?_⟩ | refine ⟨⟨_, _, accV_ren rfl, rfl, Wk.rfl⟩, ?_⟩ | refine ⟨⟨_, _, accV_ren rfl, rfl, Wk.acc0⟩, ?_⟩ | refine ⟨⟨_, _, rfl, rfl, Wk.uncap⟩, ?_⟩ | refine ⟨⟨_, _, rfl, rfl, Wk.nil⟩, ?_⟩)) (by repeat' (first | exact True.intro | refine ⟨⟨_, _, _, rfl, rfl, rfl, WkO.rfl⟩, ?_⟩ | refine HeapOK.acc rfl rfl ?_)))
          · have h1 : L.S.ix < o.i := by omega
            have h3 : o.i ≤ L.last := by omega
            refine M.regF (MF.go rfl ?_)
            refine MF.use (by first | exact True.intro | exact rfl) (Comp_yes L h.hL o.i ho.i o.bz (o.b.take 50) none hd h1 h3) [(0, 0)] rfl rfl rfl (by repeat' (first | exact True.intro | refine ⟨⟨_, _, _, rfl, rfl, rfl, WkO.rfl⟩, ?_⟩ | refine HeapOK.acc rfl rfl ?_)) rfl rfl (MF.go rfl ?_)
            refine MF.use (by first | exact True.intro | exact rfl) (RComp_yes R h.hR o.i ho.i o.bz (o.b.take 50) none hd (by rw [← h.ix]; exact h1) (by rw [h.lastE]; exact h3)) [(0, 1)] rfl rfl rfl (by repeat' (first | exact True.intro | refine ⟨⟨_, _, _, rfl, rfl, rfl, WkO.rfl⟩, ?_⟩ | refine HeapOK.acc rfl rfl ?_)) rfl rfl (MF.go rfl ?_)
            refine MF.nil mixed (Fnl.nodup rfl) rfl ⟨⟨stepX_ok rfl, trivial⟩, trivial⟩ (M.go rfl ?_)
            refine M.condB rfl (fun hn => by simp at hn) (fun _ => ?_)
            refine M.go rfl ?_
            have h' := h.compact hB o.i o.bz (o.b.take 50) hd h1 h3
            refine M.use (by first | exact True.intro | exact rfl) (same_spec h' hB) [(0, 0), (1, 1)] rfl rfl rfl (by repeat' (first | exact True.intro | refine ⟨⟨_, _, _, rfl, rfl, rfl, WkO.rfl⟩, ?_⟩ | refine HeapOK.acc rfl rfl ?_)) rfl rfl ?_
            refine M.go rfl ?_
            rw [hw2]
            exact M.again (XH.ren [(0, 0), (1, 1)] (ih' _ _ (by rw [hB']; exact h'.mono (by omega))) rfl (by repeat' (first | exact True.intro | refine ⟨⟨_, _, rfl, rfl, Wk.rfl⟩, ?_⟩ | refine ⟨⟨_, _, accV_ren rfl, rfl, Wk.rfl⟩, ?_⟩ | refine ⟨⟨_, _, accV_ren rfl, rfl, Wk.acc0⟩, ?_⟩ | refine ⟨⟨_, _, rfl, rfl, Wk.uncap⟩, ?_⟩ | refine ⟨⟨_, _, rfl, rfl, Wk.nil⟩, ?_⟩)) (by repeat' (first | exact True.intro | refine ⟨⟨_, _, _, rfl, rfl, rfl, WkO.rfl⟩, ?_⟩ | refine HeapOK.acc rfl rfl ?_)))
        · refine M.go rfl ?_
          refine M.use0 trivial (CutSnap_spec o.s ho.s.cf.1) rfl rfl rfl ?_
          obtain ⟨s, hs⟩ : ∃ s, s = o.s.cut := ⟨_, rfl⟩
          have hsk : s.ok := by rw [hs]; exact ho.s.cut
          rw [← hs]
          refine M.go rfl ?_
          refine M.dec rfl (fun h1 => ?_) (fun h1 => ?_)
          · refine M.go rfl ?_
            refine M.exit (M.go rfl ?_)
            rw [hw2]
            exact M.again (XH.ren [(0, 0), (1, 1)] (ih' _ _ (by rw [hB']; exact h.mono (by omega))) rfl (by repeat' (first | exact True.intro | refine ⟨⟨_, _, rfl, rfl, Wk.rfl⟩, ?_⟩ | refine ⟨⟨_, _, accV_ren rfl, rfl, Wk.rfl⟩, ?_⟩ | refine ⟨⟨_, _, accV_ren rfl, rfl, Wk.acc0⟩, ?_⟩ | refine ⟨⟨_, _, rfl, rfl, Wk.uncap⟩, ?_⟩ | refine ⟨⟨_, _, rfl, rfl, Wk.nil⟩, ?_⟩)) (by repeat' (first | exact True.intro | refine ⟨⟨_, _, _, rfl, rfl, rfl, WkO.rfl⟩, ?_⟩ | refine HeapOK.acc rfl rfl ?_)))
          refine M.go rfl ?_
          refine M.dec rfl (fun h2 => ?_) (fun h2 => ?_)
          · refine M.go rfl ?_
            refine M.exit (M.go rfl ?_)
            rw [hw2]
            exact M.again (XH.ren [(0, 0), (1, 1)] (ih' _ _ (by rw [hB']; exact h.mono (by omega))) rfl (by repeat' (first | exact True.intro | refine ⟨⟨_, _, rfl, rfl, Wk.rfl⟩, ?_⟩ | refine ⟨⟨_, _, accV_ren rfl, rfl, Wk.rfl⟩, ?_⟩ | refine ⟨⟨_, _, accV_ren rfl, rfl, Wk.acc0⟩, ?_⟩ | refine ⟨⟨_, _, rfl, rfl, Wk.uncap⟩, ?_⟩ | refine ⟨⟨_, _, rfl, rfl, Wk.nil⟩, ?_⟩)) (by repeat' (first | exact True.intro | refine ⟨⟨_, _, _, rfl, rfl, rfl, WkO.rfl⟩, ?_⟩ | refine HeapOK.acc rfl rfl ?_)))
          refine M.go rfl ?_
          refine M.cond rfl (fun h3 => ?_) (fun h3 => ?_)
          · refine M.go rfl ?_
            refine M.exit (M.go rfl ?_)
            rw [hw2]
            exact M.again (XH.ren [(0, 0), (1, 1)] (ih' _ _ (by rw [hB']; exact h.mono (by omega))) rfl (by repeat' (first | exact True.intro | refine ⟨⟨_, _, rfl, rfl, Wk.rfl⟩, ?_⟩ | refine ⟨⟨_, _, accV_ren rfl, rfl, Wk.rfl⟩, ?_⟩ | refine ⟨⟨_, _, accV_ren rfl, rfl, Wk.acc0⟩, ?_⟩ | refine ⟨⟨_, _, rfl, rfl, Wk.uncap⟩, ?_⟩ | refine ⟨⟨_, _, rfl, rfl, Wk.nil⟩, ?_⟩)) (by repeat' (first | exact True.intro | refine ⟨⟨_, _, _, rfl, rfl, rfl, WkO.rfl⟩, ?_⟩ | refine HeapOK.acc rfl rfl ?_)))
          refine M.go rfl ?_
          refine M.use (by first | exact True.intro | exact rfl) (Reset_spec L h.hL s hsk) [(0, 0)] rfl rfl rfl (by repeat' (first | exact True.intro | refine ⟨⟨_, _, _, rfl, rfl, rfl, WkO.rfl⟩, ?_⟩ | refine HeapOK.acc rfl rfl ?_)) rfl rfl ?_
          refine M.go rfl ?_
          refine M.use (by first | exact True.intro | exact rfl) (RReset_spec R h.hR s hsk) [(0, 1)] rfl rfl rfl (by repeat' (first | exact True.intro | refine ⟨⟨_, _, _, rfl, rfl, rfl, WkO.rfl⟩, ?_⟩ | refine HeapOK.acc rfl rfl ?_)) rfl rfl ?_
          refine M.go rfl ?_
          have h' := h.reset hB s hsk (by omega) (by omega)
          refine M.use (by first | exact True.intro | exact rfl) (same_spec h' hB) [(0, 0), (1, 1)] rfl rfl rfl (by repeat' (first | exact True.intro | refine ⟨⟨_, _, _, rfl, rfl, rfl, WkO.rfl⟩, ?_⟩ | refine HeapOK.acc rfl rfl ?_)) rfl rfl ?_
          refine M.go rfl ?_
          rw [hw2]
          exact M.again (XH.ren [(0, 0), (1, 1)] (ih' _ _ (by rw [hB']; exact h'.mono (by omega))) rfl (by repeat' (first | exact True.intro | refine ⟨⟨_, _, rfl, rfl, Wk.rfl⟩, ?_⟩ | refine ⟨⟨_, _, accV_ren rfl, rfl, Wk.rfl⟩, ?_⟩ | refine ⟨⟨_, _, accV_ren rfl, rfl, Wk.acc0⟩, ?_⟩ | refine ⟨⟨_, _, rfl, rfl, Wk.uncap⟩, ?_⟩ | refine ⟨⟨_, _, rfl, rfl, Wk.nil⟩, ?_⟩)) (by repeat' (first | exact True.intro | refine ⟨⟨_, _, _, rfl, rfl, rfl, WkO.rfl⟩, ?_⟩ | refine HeapOK.acc rfl rfl ?_)))
    · refine M.go rfl ?_
      refine M.ren [] ?_ trivial rfl (by repeat' (first | exact True.intro | refine ⟨⟨_, _, rfl, rfl, Wk.rfl⟩, ?_⟩ | refine ⟨⟨_, _, accV_ren rfl, rfl, Wk.rfl⟩, ?_⟩ | refine ⟨⟨_, _, accV_ren rfl, rfl, Wk.acc0⟩, ?_⟩ | refine ⟨⟨_, _, rfl, rfl, Wk.uncap⟩, ?_⟩ | refine ⟨⟨_, _, rfl, rfl, Wk.nil⟩, ?_⟩)) (by repeat' (first | exact True.intro | refine ⟨⟨_, _, _, rfl, rfl, rfl, WkO.rfl⟩, ?_⟩ | refine HeapOK.acc rfl rfl ?_)) (e' := []) (h' := ⟨[], 0⟩)
      exact M.exit (M.go rfl (M.done hq))
theorem LogAll_spec (s : Snp) (hs : s.raw) (z : Bool) (es : List Ent) (hes : es.length ≤ 100000000000000 ∧ ∀ e ∈ es, e.raw) (z2 : Bool) (ops : List LOpr) (hops : ops.length ≤ 100000000000000 ∧ ∀ o ∈ ops, o.raw) :
    CallS Try.prog base 10 [s.v, .c (.p (.tz z 4 (entP es) none)), .c (.p (.tz z2 8 (opP ops) none))] ⟨[], 0⟩ (.c (.p (.bool true))) ⟨[], 0⟩ := by
  refine CallS.of noNG lAll.2 rfl (M.start (M.go rfl ?_))
  refine M.use0 trivial begun_spec rfl rfl rfl ?_
  refine M.go rfl ?_
  refine M.use0 trivial (CutSnap_spec s hs.cf.1) rfl rfl rfl ?_
  refine M.go rfl ?_
  refine M.use0 trivial (CutEntries_spec z none es 20 hes.1 (by omega)) rfl rfl rfl ?_
  obtain ⟨t, ht⟩ : ∃ t, t = s.cut := ⟨_, rfl⟩
  have htk : t.ok := by rw [ht]; exact hs.cut
  obtain ⟨X, hX⟩ : ∃ X, X = cutEs es 20 := ⟨_, rfl⟩
  have hXok : ∀ e ∈ X, e.ok := by rw [hX]; exact cutEs_ok hes.2
  have hXl : X.length ≤ 20 := by rw [hX]; exact cutEs_len _ _
  rw [← ht, ← hX]
  refine M.go rfl ?_
  refine M.dec rfl (fun h1 => ?_) (fun h1 => ?_)
  · refine M.go rfl ?_
    exact M.ret (M.go rfl (M.done (finQ.ret [] rfl rfl rfl (by first | exact Wk.rfl | exact Wk.uncap | exact Wk.nil | exact Wk.b1 rfl | exact Wk.t2 Wk.rfl (Wk.b1 rfl)) (by repeat' (first | exact True.intro | refine ⟨⟨_, _, _, rfl, rfl, rfl, WkO.rfl⟩, ?_⟩ | refine HeapOK.acc rfl rfl ?_)))))
  refine M.go rfl ?_
  refine M.cond rfl (fun h2 => ?_) (fun h2 => ?_)
  · refine M.go rfl ?_
    exact M.ret (M.go rfl (M.done (finQ.ret [] rfl rfl rfl (by first | exact Wk.rfl | exact Wk.uncap | exact Wk.nil | exact Wk.b1 rfl | exact Wk.t2 Wk.rfl (Wk.b1 rfl)) (by repeat' (first | exact True.intro | refine ⟨⟨_, _, _, rfl, rfl, rfl, WkO.rfl⟩, ?_⟩ | refine HeapOK.acc rfl rfl ?_)))))
  refine M.go rfl ?_
  have hne := new_eq t X (by omega) hXl
  by_cases hy : rnewOk t X = true
  · refine M.use (by first | exact True.intro | exact rfl) (New_yes t htk true none X (by omega) hXok (by rw [hne]; exact hy)) [] rfl rfl rfl (by repeat' (first | exact True.intro | refine ⟨⟨_, _, _, rfl, rfl, rfl, WkO.rfl⟩, ?_⟩ | refine HeapOK.acc rfl rfl ?_)) rfl rfl ?_
    refine M.go rfl ?_
    refine M.use (by first | exact True.intro | exact rfl) (RNew_yes t htk true none X (by omega) hXok hy) [] rfl rfl rfl (by repeat' (first | exact True.intro | refine ⟨⟨_, _, _, rfl, rfl, rfl, WkO.rfl⟩, ?_⟩ | refine HeapOK.acc rfl rfl ?_)) rfl rfl ?_
    refine M.go rfl ?_
    have h := Rel.new t htk X (by omega) hXl hXok hy
    refine M.use (by first | exact True.intro | exact rfl) (same_spec h (by omega)) [(0, 1), (1, 2)] rfl rfl rfl (by repeat' (first | exact True.intro | refine ⟨⟨_, _, _, rfl, rfl, rfl, WkO.rfl⟩, ?_⟩ | refine HeapOK.acc rfl rfl ?_)) rfl rfl ?_
    refine M.go rfl ?_
    refine M.loop (XH.ren [(0, 1), (1, 2)] (all_loop z2 none ops hops.2 hops.1 _ ?_ ops [] _ _ rfl (by simp) h) rfl (by repeat' (first | exact True.intro | refine ⟨⟨_, _, rfl, rfl, Wk.rfl⟩, ?_⟩ | refine ⟨⟨_, _, accV_ren rfl, rfl, Wk.rfl⟩, ?_⟩ | refine ⟨⟨_, _, accV_ren rfl, rfl, Wk.acc0⟩, ?_⟩ | refine ⟨⟨_, _, rfl, rfl, Wk.uncap⟩, ?_⟩ | refine ⟨⟨_, _, rfl, rfl, Wk.nil⟩, ?_⟩)) (by repeat' (first | exact True.intro | refine ⟨⟨_, _, _, rfl, rfl, rfl, WkO.rfl⟩, ?_⟩ | refine HeapOK.acc rfl rfl ?_)))
    refine M.q (M.go rfl ?_)
    exact M.ret (M.go rfl (M.done (finQ.ret [] rfl rfl rfl (by first | exact Wk.rfl | exact Wk.uncap | exact Wk.nil | exact Wk.b1 rfl | exact Wk.t2 Wk.rfl (Wk.b1 rfl)) (by repeat' (first | exact True.intro | refine ⟨⟨_, _, _, rfl, rfl, rfl, WkO.rfl⟩, ?_⟩ | refine HeapOK.acc rfl rfl ?_)))))
  · have hy' : rnewOk t X = false := by simpa using hy
    refine M.use (by first | exact True.intro | exact rfl) (New_no t htk true none X (by omega) hXok (by rw [hne]; exact hy')) [] rfl rfl rfl (by repeat' (first | exact True.intro | refine ⟨⟨_, _, _, rfl, rfl, rfl, WkO.rfl⟩, ?_⟩ | refine HeapOK.acc rfl rfl ?_)) rfl rfl ?_
    refine M.go rfl ?_
    refine M.use (by first | exact True.intro | exact rfl) (RNew_no t htk true none X (by omega) hXok hy') [] rfl rfl rfl (by repeat' (first | exact True.intro | refine ⟨⟨_, _, _, rfl, rfl, rfl, WkO.rfl⟩, ?_⟩ | refine HeapOK.acc rfl rfl ?_)) rfl rfl ?_
    refine M.go rfl ?_
    exact M.ret (M.go rfl (M.done (finQ.ret [] rfl rfl rfl (by first | exact Wk.rfl | exact Wk.uncap | exact Wk.nil | exact Wk.b1 rfl | exact Wk.t2 Wk.rfl (Wk.b1 rfl)) (by repeat' (first | exact True.intro | refine ⟨⟨_, _, _, rfl, rfl, rfl, WkO.rfl⟩, ?_⟩ | refine HeapOK.acc rfl rfl ?_)))))
end Go.Proofs.Yteegdhfekemhmaa

/- delphilaw20.LogAll for arguments of the types' shapes. -/
namespace Go.Proofs.Yteegdhfekemhmaa
open Go.RowKit Sim Go Sym
set_option maxRecDepth 100000
set_option linter.unusedVariables false
set_option linter.unusedSimpArgs false
variable {base : Nat}
def tyEnt : Ty := .st [.int .i64, .int .i64, .int .i64, .sl 1 1 (.int .u8)]
def tySnap : Ty := .st [.int .i64, .int .i64, .sl 1 8 (.int .i64), .sl 1 1 (.int .u8)]
def tyLop : Ty := .st [.int .i64, .int .i64, .sl 4 48 tyEnt, tySnap, .sl 1 1 (.int .u8)]
theorem is_ent {p : PC} (h : Is tyEnt p) : ∃ e : Ent, p = e.pc ∧ e.raw := by
  obtain ⟨l, rfl, k0⟩ := h.st
  obtain ⟨a, r1, ha, rfl, k1⟩ := k0.cons
  obtain ⟨a, rfl, a1⟩ := ha.i64
  obtain ⟨b, r2, hb, rfl, k2⟩ := k1.cons
  obtain ⟨b, rfl, b1⟩ := hb.i64
  obtain ⟨c, r3, hc, rfl, k3⟩ := k2.cons
  obtain ⟨c, rfl, c1⟩ := hc.i64
  obtain ⟨d, r4, hd, rfl, k4⟩ := k3.cons
  obtain ⟨z, d, rfl, d1, d2⟩ := hd.bytes
  obtain rfl := k4.nil
  exact ⟨⟨a, b, c, z, d, none⟩, rfl, a1, b1, c1, d2⟩
theorem is_ents {p : PC} (h : Is (.sl 4 48 tyEnt) p) : ∃ z, ∃ l : List Ent, p = .tz z 4 (entP l) none ∧ l.length ≤ 100000000000000 ∧ ∀ e ∈ l, e.raw := by
  obtain ⟨z, el, rfl, h1, h2⟩ := h.sl
  obtain ⟨l, rfl, h3⟩ := lift (fun p hp => is_ent hp) h2
  exact ⟨z, l, rfl, by simp at h1; omega, h3⟩
theorem is_snap {p : PC} (h : Is tySnap p) : ∃ s : Snp, p = s.pc ∧ s.raw ∧ s.cc = none ∧ s.dc = none := by
  obtain ⟨l, rfl, k0⟩ := h.st
  obtain ⟨a, r1, ha, rfl, k1⟩ := k0.cons
  obtain ⟨a, rfl, a1⟩ := ha.i64
  obtain ⟨b, r2, hb, rfl, k2⟩ := k1.cons
  obtain ⟨b, rfl, b1⟩ := hb.i64
  obtain ⟨c, r3, hc, rfl, k3⟩ := k2.cons
  obtain ⟨zc, c, rfl, c1, c2⟩ := hc.ints
  obtain ⟨d, r4, hd, rfl, k4⟩ := k3.cons
  obtain ⟨z, d, rfl, d1, d2⟩ := hd.bytes
  obtain rfl := k4.nil
  exact ⟨⟨a, b, zc, c, none, z, d, none⟩, rfl, ⟨a1, b1, ⟨by simp only; omega, c2⟩, d2⟩, rfl, rfl⟩
theorem is_lop {p : PC} (h : Is tyLop p) : ∃ o : LOpr, p = o.pc ∧ o.raw := by
  obtain ⟨l, rfl, k0⟩ := h.st
  obtain ⟨a, r1, ha, rfl, k1⟩ := k0.cons
  obtain ⟨a, rfl, a1⟩ := ha.i64
  obtain ⟨b, r2, hb, rfl, k2⟩ := k1.cons
  obtain ⟨b, rfl, b1⟩ := hb.i64
  obtain ⟨c, r3, hc, rfl, k3⟩ := k2.cons
  obtain ⟨zc, c, rfl, c1⟩ := is_ents hc
  obtain ⟨s, r4, hs, rfl, k4⟩ := k3.cons
  obtain ⟨s, rfl, s1, -⟩ := is_snap hs
  obtain ⟨d, r5, hd, rfl, k5⟩ := k4.cons
  obtain ⟨z, d, rfl, d1, d2⟩ := hd.bytes
  obtain rfl := k5.nil
  exact ⟨⟨a, b, zc, c, s, z, d⟩, rfl, b1, c1, s1, d2⟩
theorem LogAll_law {p0 p1 p2 : PC} (h0 : Is tySnap p0) (h1 : Is (.sl 4 48 tyEnt) p1) (h2 : Is (.sl 8 128 tyLop) p2) : CallS Try.prog base 10 [xvP p0, xvP p1, xvP p2] ⟨[], 0⟩ (.c (.p (.bool true))) ⟨[], 0⟩ := by
  obtain ⟨s, rfl, s1, -⟩ := is_snap h0
  obtain ⟨z, es, rfl, e1⟩ := is_ents h1
  obtain ⟨z2, el, rfl, g1, g2⟩ := h2.sl
  obtain ⟨ops, rfl, g3⟩ := lift (fun p hp => is_lop hp) g2
  exact LogAll_spec s s1 z es e1 z2 ops ⟨by simp at g1; omega, g3⟩
end Go.Proofs.Yteegdhfekemhmaa
