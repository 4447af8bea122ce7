/- Texts of this claim, several in one: Rl22, Rl23, SB7, SB8, SB12, SB13, SB14, SB15. -/
import Derived.Test.YteegdhfekemhmaaMgClientSeq11
import Derived.Test.YteegdhfekemhmaaMgClientSeq13
import Derived.Test.YteegdhfekemhmaaMgClientSeq9
/- delphilaw20.LogAll: the walk. -/
namespace Go.Proofs.Yteegdhfekemhmaa
open Go.RowKit Sim Go Sym
set_option maxRecDepth 100000
set_option linter.unusedVariables false
set_option linter.unusedSimpArgs false
variable {base : Nat} {B : Nat} {L R : PLog}
structure LOpr where
  kd : Int
  i : Int
  ez : Bool
  es : List Ent
  s : Snp
  bz : Bool
  b : List Nat
def LOpr.cs (o : LOpr) : List PC := [.int .i64 o.kd, .int .i64 o.i, .tz o.ez 4 (entP o.es) none, .int .i64 o.s.ix, .int .i64 o.s.tm, .tz o.s.cz 1 (inP o.s.cf) o.s.cc, .tz o.s.dz 1 (byP o.s.d) o.s.dc, .tz o.bz 1 (byP o.b) none]
def LOpr.pc (o : LOpr) : PC := .agg o.cs
structure LOpr.raw (o : LOpr) : Prop where
  i : I64 o.i
  es : o.es.length ≤ 100000000000000 ∧ ∀ e ∈ o.es, e.raw
  s : o.s.raw
  b : ∀ x ∈ o.b, x < 256
noncomputable def lAll : {F : LF // lowerF Try.prog 10 = some F} := ⟨_, rfl⟩
def opP (l : List LOpr) : List PC := l.map LOpr.pc
theorem opP_len (l : List LOpr) : (opP l).length = l.length := by simp [opP]
theorem all_loop (z : Bool) (c : Option Nat) (ops : List LOpr) (hops : ∀ o ∈ ops, o.raw) (hl : ops.length ≤ 100000000000000) (Q : QX) (hq : Q (.exit 0) [] ⟨[], 0⟩) :
    ∀ (rest pre : List LOpr) (L R : PLog), ops = pre ++ rest → pre.length ≤ 20 → Rel (20 + 8 * pre.length) L R → XH Try.prog base lAll.1.n 0 (lAll.1.c.lp 0) [(2, .c (.p (.tz z 8 (opP ops) c))), (8, .c (.ptr 0 0)), (9, .c (.ptr 1 0)), (10, .c (.p (.int .i64 pre.length)))] (H2 L R) Q := by
  intro rest
  induction rest with
  | nil =>
    intro pre L R hp hn h
    simp at hp
    subst hp
    refine M.round (M.go rfl ?_)
    refine M.dec rfl (fun hc => absurd hc (by rw [opP_len]; omega)) (fun hc => ?_)
    refine M.go rfl ?_
    refine M.ren [] ?_ trivial rfl (by repeat' (first | exact True.intro | refine ⟨⟨_, _, rfl, rfl, Wk.rfl⟩, ?_⟩ | refine ⟨⟨_, _, accV_ren rfl, rfl, Wk.rfl⟩, ?_⟩ | refine ⟨⟨_, _, accV_ren rfl, rfl, Wk.acc0⟩, ?_⟩ | refine ⟨⟨_, _, rfl, rfl, Wk.uncap⟩, ?_⟩ | refine ⟨⟨_, _, rfl, rfl, Wk.nil⟩, ?_⟩)) (by repeat' (first | exact True.intro | refine ⟨⟨_, _, _, rfl, rfl, rfl, WkO.rfl⟩, ?_⟩ | refine HeapOK.acc rfl rfl ?_ | refine HeapOK.es rfl rfl ?_)) (e' := []) (h' := ⟨[], 0⟩)
    exact M.exit (M.go rfl (M.done hq))
  | cons o rest ih =>
    intro pre L R hp hn h
    have hlen : (opP ops).length = pre.length + (rest.length + 1) := by rw [hp]; simp [opP]
    have hu : (opP ops)[((pre.length : Int)).toNat]? = some o.pc := by rw [hp]; exact at_app _ _ _ _
    have ho : o.raw := hops o (by rw [hp]; simp)
    have hll : pre.length + rest.length < 100000000000000 := by rw [hp] at hl; simp at hl; omega
    refine M.round (M.go rfl ?_)
    refine M.dec rfl (fun hc => ?_) (fun hc => absurd (by omega) hc)
    refine M.go rfl ?_
    refine M.cond rfl (fun hc20 => ?_) (fun hc20 => ?_)
    · refine M.go rfl ?_
      refine M.op trivial (SOp.ia rfl rfl (by omega) hu) ?_
      refine M.op trivial (SOp.ldne rfl hu rfl rfl rfl) ?_
      refine M.go rfl ?_
      have hw2 : IntKind.i64.wrap ((pre.length : Int) + 1) = ((pre ++ [o]).length : Int) := by rw [wr64 (by omega) (by omega)]; simp
      have ih' := fun L R h => ih (pre ++ [o]) L R (by rw [hp]; simp) (by simp; omega) h
      have hB : 20 + 8 * pre.length ≤ 1000 := by omega
      have hB' : 20 + 8 * (pre ++ [o]).length = 20 + 8 * pre.length + 8 := by simp; omega
      have hmax : L.last < 9223372036854775807 := by have := h.top; omega
      have hmaxR : R.last < 9223372036854775807 := by rw [h.lastE]; exact hmax
      refine M.cond rfl (fun hk => ?_) (fun hk => ?_)
      · refine M.go rfl ?_
        refine M.use0 trivial (CutEntries_spec o.ez none o.es 8 ho.es.1 (by omega)) rfl rfl rfl ?_
        refine M.go rfl ?_
        obtain ⟨X, hX⟩ : ∃ X, X = cutEs o.es 8 := ⟨_, rfl⟩
        have hXok : ∀ e ∈ X, e.ok := by rw [hX]; exact cutEs_ok ho.es.2
        have hXl : X.length ≤ 8 := by rw [hX]; exact cutEs_len _ _
        rw [← hX]
        cases X with
        | nil =>
          refine M.use (by first | exact True.intro | exact rfl) (Put_nil L true none) [(0, 0)] rfl rfl rfl (by repeat' (first | exact True.intro | refine ⟨⟨_, _, _, rfl, rfl, rfl, WkO.rfl⟩, ?_⟩ | refine HeapOK.acc rfl rfl ?_ | refine HeapOK.es rfl rfl ?_)) rfl rfl ?_
          refine M.go rfl ?_
          refine M.use (by first | exact True.intro | exact rfl) (RPut_nil R true none) [(0, 1)] rfl rfl rfl (by repeat' (first | exact True.intro | refine ⟨⟨_, _, _, rfl, rfl, rfl, WkO.rfl⟩, ?_⟩ | refine HeapOK.acc rfl rfl ?_ | refine HeapOK.es rfl rfl ?_)) rfl rfl ?_
          refine M.go rfl ?_
          refine M.condB rfl (fun hn => by simp at hn) (fun _ => ?_)
          refine M.go rfl ?_
          refine M.use (by first | exact True.intro | exact rfl) (same_spec h hB) [(0, 0), (1, 1)] rfl rfl rfl (by repeat' (first | exact True.intro | refine ⟨⟨_, _, _, rfl, rfl, rfl, WkO.rfl⟩, ?_⟩ | refine HeapOK.acc rfl rfl ?_ | refine HeapOK.es rfl rfl ?_)) rfl rfl ?_
          refine M.go rfl ?_
          rw [hw2]
          exact M.again (XH.ren [(0, 0), (1, 1)] (ih' _ _ (by rw [hB']; exact h.mono (by omega))) rfl (by repeat' (first | exact True.intro | refine ⟨⟨_, _, rfl, rfl, Wk.rfl⟩, ?_⟩ | refine ⟨⟨_, _, accV_ren rfl, rfl, Wk.rfl⟩, ?_⟩ | refine ⟨⟨_, _, accV_ren rfl, rfl, Wk.acc0⟩, ?_⟩ | refine ⟨⟨_, _, rfl, rfl, Wk.uncap⟩, ?_⟩ | refine ⟨⟨_, _, rfl, rfl, Wk.nil⟩, ?_⟩)) (by repeat' (first | exact True.intro | refine ⟨⟨_, _, _, rfl, rfl, rfl, WkO.rfl⟩, ?_⟩ | refine HeapOK.acc rfl rfl ?_ | refine HeapOK.es rfl rfl ?_)))
        | cons e l =>
          have hpe := h.putE hB e l hXl
          by_cases hy : R.rputOk (e :: l) = true
          · refine M.use (by first | exact True.intro | exact rfl) (Put_yes L h.hL hmax true none e l (by omega) hXok (by rw [hpe]; exact hy)) [(0, 0)] rfl rfl rfl (by repeat' (first | exact True.intro | refine ⟨⟨_, _, _, rfl, rfl, rfl, WkO.rfl⟩, ?_⟩ | refine HeapOK.acc rfl rfl ?_ | refine HeapOK.es rfl rfl ?_)) rfl rfl ?_
            refine M.go rfl ?_
            refine M.use (by first | exact True.intro | exact rfl) (RPut_yes R h.hR hmaxR true none e l (by omega) hXok hy) [(0, 1)] rfl rfl rfl (by repeat' (first | exact True.intro | refine ⟨⟨_, _, _, rfl, rfl, rfl, WkO.rfl⟩, ?_⟩ | refine HeapOK.acc rfl rfl ?_ | refine HeapOK.es rfl rfl ?_)) rfl rfl ?_
            refine M.go rfl ?_
            refine M.condB rfl (fun hn => by simp at hn) (fun _ => ?_)
            refine M.go rfl ?_
            have h' := h.put hB e l hXl hXok hy
            refine M.use (by first | exact True.intro | exact rfl) (same_spec h' (by omega)) [(0, 0), (1, 1)] rfl rfl rfl (by repeat' (first | exact True.intro | refine ⟨⟨_, _, _, rfl, rfl, rfl, WkO.rfl⟩, ?_⟩ | refine HeapOK.acc rfl rfl ?_ | refine HeapOK.es rfl rfl ?_)) rfl rfl ?_
            refine M.go rfl ?_
            rw [hw2]
            exact M.again (XH.ren [(0, 0), (1, 1)] (ih' _ _ (by rw [hB']; exact h')) rfl (by repeat' (first | exact True.intro | refine ⟨⟨_, _, rfl, rfl, Wk.rfl⟩, ?_⟩ | refine ⟨⟨_, _, accV_ren rfl, rfl, Wk.rfl⟩, ?_⟩ | refine ⟨⟨_, _, accV_ren rfl, rfl, Wk.acc0⟩, ?_⟩ | refine ⟨⟨_, _, rfl, rfl, Wk.uncap⟩, ?_⟩ | refine ⟨⟨_, _, rfl, rfl, Wk.nil⟩, ?_⟩)) (by repeat' (first | exact True.intro | refine ⟨⟨_, _, _, rfl, rfl, rfl, WkO.rfl⟩, ?_⟩ | refine HeapOK.acc rfl rfl ?_ | refine HeapOK.es rfl rfl ?_)))
          · have hy' : R.rputOk (e :: l) = false := by simpa using hy
            refine M.use (by first | exact True.intro | exact rfl) (Put_no L h.hL hmax true none e l (by omega) hXok (by rw [hpe]; exact hy')) [(0, 0)] rfl rfl rfl (by repeat' (first | exact True.intro | refine ⟨⟨_, _, _, rfl, rfl, rfl, WkO.rfl⟩, ?_⟩ | refine HeapOK.acc rfl rfl ?_ | refine HeapOK.es rfl rfl ?_)) rfl rfl ?_
            refine M.go rfl ?_
            refine M.use (by first | exact True.intro | exact rfl) (RPut_no R h.hR hmaxR true none e l (by omega) hXok hy') [(0, 1)] rfl rfl rfl (by repeat' (first | exact True.intro | refine ⟨⟨_, _, _, rfl, rfl, rfl, WkO.rfl⟩, ?_⟩ | refine HeapOK.acc rfl rfl ?_ | refine HeapOK.es rfl rfl ?_)) rfl rfl ?_
            refine M.go rfl ?_
            refine M.condB rfl (fun hn => by simp at hn) (fun _ => ?_)
            refine M.go rfl ?_
            refine M.use (by first | exact True.intro | exact rfl) (same_spec h hB) [(0, 0), (1, 1)] rfl rfl rfl (by repeat' (first | exact True.intro | refine ⟨⟨_, _, _, rfl, rfl, rfl, WkO.rfl⟩, ?_⟩ | refine HeapOK.acc rfl rfl ?_ | refine HeapOK.es rfl rfl ?_)) rfl rfl ?_
            refine M.go rfl ?_
            rw [hw2]
            exact M.again (XH.ren [(0, 0), (1, 1)] (ih' _ _ (by rw [hB']; exact h.mono (by omega))) rfl (by repeat' (first | exact True.intro | refine ⟨⟨_, _, rfl, rfl, Wk.rfl⟩, ?_⟩ | refine ⟨⟨_, _, accV_ren rfl, rfl, Wk.rfl⟩, ?_⟩ | refine ⟨⟨_, _, accV_ren rfl, rfl, Wk.acc0⟩, ?_⟩ | refine ⟨⟨_, _, rfl, rfl, Wk.uncap⟩, ?_⟩ | refine ⟨⟨_, _, rfl, rfl, Wk.nil⟩, ?_⟩)) (by repeat' (first | exact True.intro | refine ⟨⟨_, _, _, rfl, rfl, rfl, WkO.rfl⟩, ?_⟩ | refine HeapOK.acc rfl rfl ?_ | refine HeapOK.es rfl rfl ?_)))
      · refine M.go rfl ?_
        refine M.cond rfl (fun hk => ?_) (fun hk => ?_)
        · refine M.go rfl ?_
          refine M.use0 trivial (short_spec o.bz (byP o.b) none 50 (by omega)) rfl rfl rfl ?_
          refine M.go rfl ?_
          rw [byP_take]
          have hd : okB (o.b.take 50) := ⟨by simp; omega, fun b hb => ho.b b (List.mem_of_mem_take hb)⟩
          by_cases hno : o.i ≤ L.S.ix ∨ L.last < o.i
          · refine M.regF (MF.go rfl ?_)
            refine MF.use (by first | exact True.intro | exact rfl) (Comp_no L h.hL o.i ho.i o.bz (o.b.take 50) none hno) [(0, 0)] rfl rfl rfl (by repeat' (first | exact True.intro | refine ⟨⟨_, _, _, rfl, rfl, rfl, WkO.rfl⟩, ?_⟩ | refine HeapOK.acc rfl rfl ?_ | refine HeapOK.es rfl rfl ?_)) rfl rfl (MF.go rfl ?_)
            refine MF.use (by first | exact True.intro | exact rfl) (RComp_no R h.hR o.i ho.i o.bz (o.b.take 50) none (by rw [← h.ix, h.lastE]; exact hno)) [(0, 1)] rfl rfl rfl (by repeat' (first | exact True.intro | refine ⟨⟨_, _, _, rfl, rfl, rfl, WkO.rfl⟩, ?_⟩ | refine HeapOK.acc rfl rfl ?_ | refine HeapOK.es rfl rfl ?_)) rfl rfl (MF.go rfl ?_)
            refine MF.nil mixed (Fnl.nodup rfl) rfl ⟨⟨stepX_ok rfl, trivial⟩, trivial⟩ (M.go rfl ?_)
            refine M.condB rfl (fun hn => by simp at hn) (fun _ => ?_)
            refine M.go rfl ?_
            refine M.use (by first | exact True.intro | exact rfl) (same_spec h hB) [(0, 0), (1, 1)] rfl rfl rfl (by repeat' (first | exact True.intro | refine ⟨⟨_, _, _, rfl, rfl, rfl, WkO.rfl⟩, ?_⟩ | refine HeapOK.acc rfl rfl ?_ | refine HeapOK.es rfl rfl ?_)) rfl rfl ?_
            refine M.go rfl ?_
            rw [hw2]
            exact M.again (XH.ren [(0, 0), (1, 1)] (ih' _ _ (by rw [hB']; exact h.mono (by omega))) rfl (by repeat' (first | exact True.intro | refine ⟨⟨_, _, rfl, rfl, Wk.rfl⟩, ?_⟩ | refine ⟨⟨_, _, accV_ren rfl, rfl, Wk.rfl⟩, ?_⟩ | refine ⟨⟨_, _, accV_ren rfl, rfl, Wk.acc0⟩, ?_⟩ | refine ⟨⟨_, _, rfl, rfl, Wk.uncap⟩, ?_⟩ | refine ⟨⟨_, _, rfl, rfl, Wk.nil⟩, ?_⟩)) (by repeat' (first | exact True.intro | refine ⟨⟨_, _, _, rfl, rfl, rfl, WkO.rfl⟩, ?_⟩ | refine HeapOK.acc rfl rfl ?_ | refine HeapOK.es rfl rfl ?_)))
          · have h1 : L.S.ix < o.i := by omega
            have h3 : o.i ≤ L.last := by omega
            refine M.regF (MF.go rfl ?_)
            refine MF.use (by first | exact True.intro | exact rfl) (Comp_yes L h.hL o.i ho.i o.bz (o.b.take 50) none hd h1 h3) [(0, 0)] rfl rfl rfl (by repeat' (first | exact True.intro | refine ⟨⟨_, _, _, rfl, rfl, rfl, WkO.rfl⟩, ?_⟩ | refine HeapOK.acc rfl rfl ?_ | refine HeapOK.es rfl rfl ?_)) rfl rfl (MF.go rfl ?_)
            refine MF.use (by first | exact True.intro | exact rfl) (RComp_yes R h.hR o.i ho.i o.bz (o.b.take 50) none hd (by rw [← h.ix]; exact h1) (by rw [h.lastE]; exact h3)) [(0, 1)] rfl rfl rfl (by repeat' (first | exact True.intro | refine ⟨⟨_, _, _, rfl, rfl, rfl, WkO.rfl⟩, ?_⟩ | refine HeapOK.acc rfl rfl ?_ | refine HeapOK.es rfl rfl ?_)) rfl rfl (MF.go rfl ?_)
            refine MF.nil mixed (Fnl.nodup rfl) rfl ⟨⟨stepX_ok rfl, trivial⟩, trivial⟩ (M.go rfl ?_)
            refine M.condB rfl (fun hn => by simp at hn) (fun _ => ?_)
            refine M.go rfl ?_
            have h' := h.compact hB o.i o.bz (o.b.take 50) hd h1 h3
            refine M.use (by first | exact True.intro | exact rfl) (same_spec h' hB) [(0, 0), (1, 1)] rfl rfl rfl (by repeat' (first | exact True.intro | refine ⟨⟨_, _, _, rfl, rfl, rfl, WkO.rfl⟩, ?_⟩ | refine HeapOK.acc rfl rfl ?_ | refine HeapOK.es rfl rfl ?_)) rfl rfl ?_
            refine M.go rfl ?_
            rw [hw2]
            exact M.again (XH.ren [(0, 0), (1, 1)] (ih' _ _ (by rw [hB']; exact h'.mono (by omega))) rfl (by repeat' (first | exact True.intro | refine ⟨⟨_, _, rfl, rfl, Wk.rfl⟩, ?_⟩ | refine ⟨⟨_, _, accV_ren rfl, rfl, Wk.rfl⟩, ?_⟩ | refine ⟨⟨_, _, accV_ren rfl, rfl, Wk.acc0⟩, ?_⟩ | refine ⟨⟨_, _, rfl, rfl, Wk.uncap⟩, ?_⟩ | refine ⟨⟨_, _, rfl, rfl, Wk.nil⟩, ?_⟩)) (by repeat' (first | exact True.intro | refine ⟨⟨_, _, _, rfl, rfl, rfl, WkO.rfl⟩, ?_⟩ | refine HeapOK.acc rfl rfl ?_ | refine HeapOK.es rfl rfl ?_)))
        · refine M.go rfl ?_
          refine M.use0 trivial (CutSnap_spec o.s ho.s.cf.1) rfl rfl rfl ?_
          obtain ⟨s, hs⟩ : ∃ s, s = o.s.cut := ⟨_, rfl⟩
          have hsk : s.ok := by rw [hs]; exact ho.s.cut
          rw [← hs]
          refine M.go rfl ?_
          refine M.dec rfl (fun h1 => ?_) (fun h1 => ?_)
          · refine M.go rfl ?_
            refine M.exit (M.go rfl ?_)
            rw [hw2]
            exact M.again (XH.ren [(0, 0), (1, 1)] (ih' _ _ (by rw [hB']; exact h.mono (by omega))) rfl (by repeat' (first | exact True.intro | refine ⟨⟨_, _, rfl, rfl, Wk.rfl⟩, ?_⟩ | refine ⟨⟨_, _, accV_ren rfl, rfl, Wk.rfl⟩, ?_⟩ | refine ⟨⟨_, _, accV_ren rfl, rfl, Wk.acc0⟩, ?_⟩ | refine ⟨⟨_, _, rfl, rfl, Wk.uncap⟩, ?_⟩ | refine ⟨⟨_, _, rfl, rfl, Wk.nil⟩, ?_⟩)) (by repeat' (first | exact True.intro | refine ⟨⟨_, _, _, rfl, rfl, rfl, WkO.rfl⟩, ?_⟩ | refine HeapOK.acc rfl rfl ?_ | refine HeapOK.es rfl rfl ?_)))
          refine M.go rfl ?_
          refine M.dec rfl (fun h2 => ?_) (fun h2 => ?_)
          · refine M.go rfl ?_
            refine M.exit (M.go rfl ?_)
            rw [hw2]
            exact M.again (XH.ren [(0, 0), (1, 1)] (ih' _ _ (by rw [hB']; exact h.mono (by omega))) rfl (by repeat' (first | exact True.intro | refine ⟨⟨_, _, rfl, rfl, Wk.rfl⟩, ?_⟩ | refine ⟨⟨_, _, accV_ren rfl, rfl, Wk.rfl⟩, ?_⟩ | refine ⟨⟨_, _, accV_ren rfl, rfl, Wk.acc0⟩, ?_⟩ | refine ⟨⟨_, _, rfl, rfl, Wk.uncap⟩, ?_⟩ | refine ⟨⟨_, _, rfl, rfl, Wk.nil⟩, ?_⟩)) (by repeat' (first | exact True.intro | refine ⟨⟨_, _, _, rfl, rfl, rfl, WkO.rfl⟩, ?_⟩ | refine HeapOK.acc rfl rfl ?_ | refine HeapOK.es rfl rfl ?_)))
          refine M.go rfl ?_
          refine M.cond rfl (fun h3 => ?_) (fun h3 => ?_)
          · refine M.go rfl ?_
            refine M.exit (M.go rfl ?_)
            rw [hw2]
            exact M.again (XH.ren [(0, 0), (1, 1)] (ih' _ _ (by rw [hB']; exact h.mono (by omega))) rfl (by repeat' (first | exact True.intro | refine ⟨⟨_, _, rfl, rfl, Wk.rfl⟩, ?_⟩ | refine ⟨⟨_, _, accV_ren rfl, rfl, Wk.rfl⟩, ?_⟩ | refine ⟨⟨_, _, accV_ren rfl, rfl, Wk.acc0⟩, ?_⟩ | refine ⟨⟨_, _, rfl, rfl, Wk.uncap⟩, ?_⟩ | refine ⟨⟨_, _, rfl, rfl, Wk.nil⟩, ?_⟩)) (by repeat' (first | exact True.intro | refine ⟨⟨_, _, _, rfl, rfl, rfl, WkO.rfl⟩, ?_⟩ | refine HeapOK.acc rfl rfl ?_ | refine HeapOK.es rfl rfl ?_)))
          refine M.go rfl ?_
          refine M.use (by first | exact True.intro | exact rfl) (Reset_spec L h.hL s hsk) [(0, 0)] rfl rfl rfl (by repeat' (first | exact True.intro | refine ⟨⟨_, _, _, rfl, rfl, rfl, WkO.rfl⟩, ?_⟩ | refine HeapOK.acc rfl rfl ?_ | refine HeapOK.es rfl rfl ?_)) rfl rfl ?_
          refine M.go rfl ?_
          refine M.use (by first | exact True.intro | exact rfl) (RReset_spec R h.hR s hsk) [(0, 1)] rfl rfl rfl (by repeat' (first | exact True.intro | refine ⟨⟨_, _, _, rfl, rfl, rfl, WkO.rfl⟩, ?_⟩ | refine HeapOK.acc rfl rfl ?_ | refine HeapOK.es rfl rfl ?_)) rfl rfl ?_
          refine M.go rfl ?_
          have h' := h.reset hB s hsk (by omega) (by omega)
          refine M.use (by first | exact True.intro | exact rfl) (same_spec h' hB) [(0, 0), (1, 1)] rfl rfl rfl (by repeat' (first | exact True.intro | refine ⟨⟨_, _, _, rfl, rfl, rfl, WkO.rfl⟩, ?_⟩ | refine HeapOK.acc rfl rfl ?_ | refine HeapOK.es rfl rfl ?_)) rfl rfl ?_
          refine M.go rfl ?_
          rw [hw2]
          exact M.again (XH.ren [(0, 0), (1, 1)] (ih' _ _ (by rw [hB']; exact h'.mono (by omega))) rfl (by repeat' (first | exact True.intro | refine ⟨⟨_, _, rfl, rfl, Wk.rfl⟩, ?_⟩ | refine ⟨⟨_, _, accV_ren rfl, rfl, Wk.rfl⟩, ?_⟩ | refine ⟨⟨_, _, accV_ren rfl, rfl, Wk.acc0⟩, ?_⟩ | refine ⟨⟨_, _, rfl, rfl, Wk.uncap⟩, ?_⟩ | refine ⟨⟨_, _, rfl, rfl, Wk.nil⟩, ?_⟩)) (by repeat' (first | exact True.intro | refine ⟨⟨_, _, _, rfl, rfl, rfl, WkO.rfl⟩, ?_⟩ | refine HeapOK.acc rfl rfl ?_ | refine HeapOK.es rfl rfl ?_)))
    · refine M.go rfl ?_
      refine M.ren [] ?_ trivial rfl (by repeat' (first | exact True.intro | refine ⟨⟨_, _, rfl, rfl, Wk.rfl⟩, ?_⟩ | refine ⟨⟨_, _, accV_ren rfl, rfl, Wk.rfl⟩, ?_⟩ | refine ⟨⟨_, _, accV_ren rfl, rfl, Wk.acc0⟩, ?_⟩ | refine ⟨⟨_, _, rfl, rfl, Wk.uncap⟩, ?_⟩ | refine ⟨⟨_, _, rfl, rfl, Wk.nil⟩, ?_⟩)) (by repeat' (first | exact True.intro | refine ⟨⟨_, _, _, rfl, rfl, rfl, WkO.rfl⟩, ?_⟩ | refine HeapOK.acc rfl rfl ?_ | refine HeapOK.es rfl rfl ?_)) (e' := []) (h' := ⟨[], 0⟩)
      exact M.exit (M.go rfl (M.done hq))
theorem LogAll_spec (s : Snp) (hs : s.raw) (z : Bool) (es : List Ent) (hes : es.length ≤ 100000000000000 ∧ ∀ e ∈ es, e.raw) (z2 : Bool) (ops : List LOpr) (hops : ops.length ≤ 100000000000000 ∧ ∀ o ∈ ops, o.raw) :
    CallS Try.prog base 10 [s.v, .c (.p (.tz z 4 (entP es) none)), .c (.p (.tz z2 8 (opP ops) none))] ⟨[], 0⟩ (.c (.p (.bool true))) ⟨[], 0⟩ := by
  refine CallS.of noNG lAll.2 rfl (M.start (M.go rfl ?_))
  refine M.use0 trivial begun_spec rfl rfl rfl ?_
  refine M.go rfl ?_
  refine M.use0 trivial (CutSnap_spec s hs.cf.1) rfl rfl rfl ?_
  refine M.go rfl ?_
  refine M.use0 trivial (CutEntries_spec z none es 20 hes.1 (by omega)) rfl rfl rfl ?_
  obtain ⟨t, ht⟩ : ∃ t, t = s.cut := ⟨_, rfl⟩
  have htk : t.ok := by rw [ht]; exact hs.cut
  obtain ⟨X, hX⟩ : ∃ X, X = cutEs es 20 := ⟨_, rfl⟩
  have hXok : ∀ e ∈ X, e.ok := by rw [hX]; exact cutEs_ok hes.2
  have hXl : X.length ≤ 20 := by rw [hX]; exact cutEs_len _ _
  rw [← ht, ← hX]
  refine M.go rfl ?_
  refine M.dec rfl (fun h1 => ?_) (fun h1 => ?_)
  · refine M.go rfl ?_
    exact M.ret (M.go rfl (M.done (finQ.ret [] rfl rfl rfl (by first | exact Wk.rfl | exact Wk.uncap | exact Wk.nil | exact Wk.b1 rfl | exact Wk.t2 Wk.rfl (Wk.b1 rfl)) (by repeat' (first | exact True.intro | refine ⟨⟨_, _, _, rfl, rfl, rfl, WkO.rfl⟩, ?_⟩ | refine HeapOK.acc rfl rfl ?_ | refine HeapOK.es rfl rfl ?_)))))
  refine M.go rfl ?_
  refine M.cond rfl (fun h2 => ?_) (fun h2 => ?_)
  · refine M.go rfl ?_
    exact M.ret (M.go rfl (M.done (finQ.ret [] rfl rfl rfl (by first | exact Wk.rfl | exact Wk.uncap | exact Wk.nil | exact Wk.b1 rfl | exact Wk.t2 Wk.rfl (Wk.b1 rfl)) (by repeat' (first | exact True.intro | refine ⟨⟨_, _, _, rfl, rfl, rfl, WkO.rfl⟩, ?_⟩ | refine HeapOK.acc rfl rfl ?_ | refine HeapOK.es rfl rfl ?_)))))
  refine M.go rfl ?_
  have hne := new_eq t X (by omega) hXl
  by_cases hy : rnewOk t X = true
  · refine M.use (by first | exact True.intro | exact rfl) (New_yes t htk true none X (by omega) hXok (by rw [hne]; exact hy)) [] rfl rfl rfl (by repeat' (first | exact True.intro | refine ⟨⟨_, _, _, rfl, rfl, rfl, WkO.rfl⟩, ?_⟩ | refine HeapOK.acc rfl rfl ?_ | refine HeapOK.es rfl rfl ?_)) rfl rfl ?_
    refine M.go rfl ?_
    refine M.use (by first | exact True.intro | exact rfl) (RNew_yes t htk true none X (by omega) hXok hy) [] rfl rfl rfl (by repeat' (first | exact True.intro | refine ⟨⟨_, _, _, rfl, rfl, rfl, WkO.rfl⟩, ?_⟩ | refine HeapOK.acc rfl rfl ?_ | refine HeapOK.es rfl rfl ?_)) rfl rfl ?_
    refine M.go rfl ?_
    have h := Rel.new t htk X (by omega) hXl hXok hy
    refine M.use (by first | exact True.intro | exact rfl) (same_spec h (by omega)) [(0, 1), (1, 2)] rfl rfl rfl (by repeat' (first | exact True.intro | refine ⟨⟨_, _, _, rfl, rfl, rfl, WkO.rfl⟩, ?_⟩ | refine HeapOK.acc rfl rfl ?_ | refine HeapOK.es rfl rfl ?_)) rfl rfl ?_
    refine M.go rfl ?_
    refine M.loop (XH.ren [(0, 1), (1, 2)] (all_loop z2 none ops hops.2 hops.1 _ ?_ ops [] _ _ rfl (by simp) h) rfl (by repeat' (first | exact True.intro | refine ⟨⟨_, _, rfl, rfl, Wk.rfl⟩, ?_⟩ | refine ⟨⟨_, _, accV_ren rfl, rfl, Wk.rfl⟩, ?_⟩ | refine ⟨⟨_, _, accV_ren rfl, rfl, Wk.acc0⟩, ?_⟩ | refine ⟨⟨_, _, rfl, rfl, Wk.uncap⟩, ?_⟩ | refine ⟨⟨_, _, rfl, rfl, Wk.nil⟩, ?_⟩)) (by repeat' (first | exact True.intro | refine ⟨⟨_, _, _, rfl, rfl, rfl, WkO.rfl⟩, ?_⟩ | refine HeapOK.acc rfl rfl ?_ | refine HeapOK.es rfl rfl ?_)))
    refine M.q (M.go rfl ?_)
    exact M.ret (M.go rfl (M.done (finQ.ret [] rfl rfl rfl (by first | exact Wk.rfl | exact Wk.uncap | exact Wk.nil | exact Wk.b1 rfl | exact Wk.t2 Wk.rfl (Wk.b1 rfl)) (by repeat' (first | exact True.intro | refine ⟨⟨_, _, _, rfl, rfl, rfl, WkO.rfl⟩, ?_⟩ | refine HeapOK.acc rfl rfl ?_ | refine HeapOK.es rfl rfl ?_)))))
  · have hy' : rnewOk t X = false := by simpa using hy
    refine M.use (by first | exact True.intro | exact rfl) (New_no t htk true none X (by omega) hXok (by rw [hne]; exact hy')) [] rfl rfl rfl (by repeat' (first | exact True.intro | refine ⟨⟨_, _, _, rfl, rfl, rfl, WkO.rfl⟩, ?_⟩ | refine HeapOK.acc rfl rfl ?_ | refine HeapOK.es rfl rfl ?_)) rfl rfl ?_
    refine M.go rfl ?_
    refine M.use (by first | exact True.intro | exact rfl) (RNew_no t htk true none X (by omega) hXok hy') [] rfl rfl rfl (by repeat' (first | exact True.intro | refine ⟨⟨_, _, _, rfl, rfl, rfl, WkO.rfl⟩, ?_⟩ | refine HeapOK.acc rfl rfl ?_ | refine HeapOK.es rfl rfl ?_)) rfl rfl ?_
    refine M.go rfl ?_
    exact M.ret (M.go rfl (M.done (finQ.ret [] rfl rfl rfl (by first | exact Wk.rfl | exact Wk.uncap | exact Wk.nil | exact Wk.b1 rfl | exact Wk.t2 Wk.rfl (Wk.b1 rfl)) (by repeat' (first | exact True.intro | refine ⟨⟨_, _, _, rfl, rfl, rfl, WkO.rfl⟩, ?_⟩ | refine HeapOK.acc rfl rfl ?_ | refine HeapOK.es rfl rfl ?_)))))
end Go.Proofs.Yteegdhfekemhmaa

/- delphilaw20.LogAll for arguments of the types' shapes. -/
namespace Go.Proofs.Yteegdhfekemhmaa
open Go.RowKit Sim Go Sym
set_option maxRecDepth 100000
set_option linter.unusedVariables false
set_option linter.unusedSimpArgs false
variable {base : Nat}
def tyEnt : Ty := .st [.int .i64, .int .i64, .int .i64, .sl 1 1 (.int .u8)]
def tySnap : Ty := .st [.int .i64, .int .i64, .sl 1 8 (.int .i64), .sl 1 1 (.int .u8)]
def tyLop : Ty := .st [.int .i64, .int .i64, .sl 4 48 tyEnt, tySnap, .sl 1 1 (.int .u8)]
theorem is_ent {p : PC} (h : Is tyEnt p) : ∃ e : Ent, p = e.pc ∧ e.raw := by
  obtain ⟨l, rfl, k0⟩ := h.st
  obtain ⟨a, r1, ha, rfl, k1⟩ := k0.cons
  obtain ⟨a, rfl, a1⟩ := ha.i64
  obtain ⟨b, r2, hb, rfl, k2⟩ := k1.cons
  obtain ⟨b, rfl, b1⟩ := hb.i64
  obtain ⟨c, r3, hc, rfl, k3⟩ := k2.cons
  obtain ⟨c, rfl, c1⟩ := hc.i64
  obtain ⟨d, r4, hd, rfl, k4⟩ := k3.cons
  obtain ⟨z, d, rfl, d1, d2⟩ := hd.bytes
  obtain rfl := k4.nil
  exact ⟨⟨a, b, c, z, d, none⟩, rfl, a1, b1, c1, d2⟩
theorem is_ents {p : PC} (h : Is (.sl 4 48 tyEnt) p) : ∃ z, ∃ l : List Ent, p = .tz z 4 (entP l) none ∧ l.length ≤ 100000000000000 ∧ ∀ e ∈ l, e.raw := by
  obtain ⟨z, el, rfl, h1, h2⟩ := h.sl
  obtain ⟨l, rfl, h3⟩ := lift (fun p hp => is_ent hp) h2
  exact ⟨z, l, rfl, by simp at h1; omega, h3⟩
theorem is_snap {p : PC} (h : Is tySnap p) : ∃ s : Snp, p = s.pc ∧ s.raw ∧ s.cc = none ∧ s.dc = none := by
  obtain ⟨l, rfl, k0⟩ := h.st
  obtain ⟨a, r1, ha, rfl, k1⟩ := k0.cons
  obtain ⟨a, rfl, a1⟩ := ha.i64
  obtain ⟨b, r2, hb, rfl, k2⟩ := k1.cons
  obtain ⟨b, rfl, b1⟩ := hb.i64
  obtain ⟨c, r3, hc, rfl, k3⟩ := k2.cons
  obtain ⟨zc, c, rfl, c1, c2⟩ := hc.ints
  obtain ⟨d, r4, hd, rfl, k4⟩ := k3.cons
  obtain ⟨z, d, rfl, d1, d2⟩ := hd.bytes
  obtain rfl := k4.nil
  exact ⟨⟨a, b, zc, c, none, z, d, none⟩, rfl, ⟨a1, b1, ⟨by simp only; omega, c2⟩, d2⟩, rfl, rfl⟩
theorem is_lop {p : PC} (h : Is tyLop p) : ∃ o : LOpr, p = o.pc ∧ o.raw := by
  obtain ⟨l, rfl, k0⟩ := h.st
  obtain ⟨a, r1, ha, rfl, k1⟩ := k0.cons
  obtain ⟨a, rfl, a1⟩ := ha.i64
  obtain ⟨b, r2, hb, rfl, k2⟩ := k1.cons
  obtain ⟨b, rfl, b1⟩ := hb.i64
  obtain ⟨c, r3, hc, rfl, k3⟩ := k2.cons
  obtain ⟨zc, c, rfl, c1⟩ := is_ents hc
  obtain ⟨s, r4, hs, rfl, k4⟩ := k3.cons
  obtain ⟨s, rfl, s1, -⟩ := is_snap hs
  obtain ⟨d, r5, hd, rfl, k5⟩ := k4.cons
  obtain ⟨z, d, rfl, d1, d2⟩ := hd.bytes
  obtain rfl := k5.nil
  exact ⟨⟨a, b, zc, c, s, z, d⟩, rfl, b1, c1, s1, d2⟩
theorem LogAll_law {p0 p1 p2 : PC} (h0 : Is tySnap p0) (h1 : Is (.sl 4 48 tyEnt) p1) (h2 : Is (.sl 8 128 tyLop) p2) : CallS Try.prog base 10 [xvP p0, xvP p1, xvP p2] ⟨[], 0⟩ (.c (.p (.bool true))) ⟨[], 0⟩ := by
  obtain ⟨s, rfl, s1, -⟩ := is_snap h0
  obtain ⟨z, es, rfl, e1⟩ := is_ents h1
  obtain ⟨z2, el, rfl, g1, g2⟩ := h2.sl
  obtain ⟨ops, rfl, g3⟩ := lift (fun p hp => is_lop hp) g2
  exact LogAll_spec s s1 z es e1 z2 ops ⟨by simp at g1; omega, g3⟩
end Go.Proofs.Yteegdhfekemhmaa

/- delphilaw17.CommandMsg: the walk. -/
namespace Go.Proofs.Yteegdhfekemhmaa
open Go.RowKit Sim Go Sym
set_option maxRecDepth 100000
set_option linter.unusedVariables false
set_option linter.unusedSimpArgs false
variable {base : Nat}
structure PMsg.raw (m : PMsg) : Prop where
  hd : ∀ n ∈ m.hd, InI64 n
  es : m.es.length ≤ 100000000000000 ∧ ∀ e ∈ m.es, e.raw
  hint : InI64 m.hint
  cf : m.cf.length ≤ 100000000000000 ∧ ∀ n ∈ m.cf, InI64 n
  d : ∀ b ∈ m.d, b < 256
  q : InI64 m.off ∧ InI64 m.sz ∧ InI64 m.ctx
theorem i64_in {n : Int} (h : I64 n) : InI64 n := ⟨h.1, by have := h.2; omega⟩
theorem in_i64 {n : Int} (h : InI64 n) : I64 n := ⟨h.1, by have := h.2; omega⟩
theorem PMsg.raw.good {m : PMsg} (h : m.raw) : m.cut.good := ⟨h.hd, ⟨by simp [PMsg.cut]; omega, fun e he => by
  obtain ⟨x, hx, rfl⟩ := List.mem_map.1 he
  have := h.es.2 x (List.mem_of_mem_take hx)
  exact ⟨i64_in this.ix, i64_in this.tm, i64_in this.kd, by simp [Ent.cutM]; omega, fun b hb => this.d b (List.mem_of_mem_take hb)⟩⟩, h.hint, ⟨by simp [PMsg.cut]; omega, fun n hn => h.cf.2 n (List.mem_of_mem_take hn)⟩, ⟨by simp [PMsg.cut]; omega, fun b hb => h.d b (List.mem_of_mem_take hb)⟩, h.q⟩
theorem PMsg.raw.nc {m : PMsg} (h : m.raw) : m.cut.nc := ⟨fun e he => by
  obtain ⟨x, hx, rfl⟩ := List.mem_map.1 he
  rfl⟩
theorem PMsg.good.rd {m : PMsg} (h : m.good) : m.rd := ⟨⟨by have := h.es.1; omega, fun e he => by
  obtain ⟨a, b, c, d, e⟩ := h.es.2 e he
  exact ⟨in_i64 a, in_i64 b, in_i64 c, by omega, e⟩⟩, by have := h.cf.1; omega, by have := h.d.1; omega, h.d.2⟩
theorem msgB_bytes {m : PMsg} (h : m.good) : Bytes (msgB m.p) := by
  refine (numsB_bytes _).app ((numB_bytes _).app ((entsB_bytes h.p.2.2.2.1).app ((flagB_bytes _).app ((numB_bytes _).app ((confB_bytes _).app ((textB_bytes (i2_bytes h.d.2)).app (numsB_bytes _)))))))
theorem msgB_len {m : PMsg} (h : m.raw) : 1 ≤ (msgB m.cut.p).length ∧ (msgB m.cut.p).length ≤ 3000 := by
  have hg := h.good
  have a1 := numsB_len m.cut.hd hg.hd
  have a2 : m.cut.hd.length = 7 := rfl
  have e1 : m.cut.es.length ≤ 8 := by simp [PMsg.cut]; omega
  have a3 : (numB (m.cut.es.length : Int)).length ≤ 10 := numB_len (by omega) (by omega)
  have a4 := (entsB_len (m.cut.es.map Ent.p) 100 (fun e he => by
    obtain ⟨x, hx, rfl⟩ := List.mem_map.1 he
    obtain ⟨q1, q2, q3, q4, q5⟩ := hg.es.2 x hx
    obtain ⟨y, hy, rfl⟩ := List.mem_map.1 hx
    exact ⟨⟨q1, q2, q3, by simp [Ent.p, i2_len]; omega, i2_bytes q5⟩, by simp [Ent.p, i2_len, Ent.cutM]; omega⟩)).2
  have a5 : (100 + 40) * (m.cut.es.map Ent.p).length ≤ (100 + 40) * 8 := Nat.mul_le_mul_left _ (by simpa using e1)
  have a6 := numB_len hg.hint.1 hg.hint.2
  have e2 : m.cut.cf.length ≤ 9 := by simp [PMsg.cut]; omega
  have a7 : (numB (m.cut.cf.length : Int)).length ≤ 10 := numB_len (by omega) (by omega)
  have a8 := (numsB_len m.cut.cf hg.cf.2).2
  have e3 : m.cut.d.length ≤ 100 := by simp [PMsg.cut]; omega
  have a9 := textB_len (xs := i2 m.cut.d) (by rw [i2_len]; omega)
  rw [i2_len] at a9
  obtain ⟨q1, q2, q3⟩ := hg.q
  have b1 := numB_len q1.1 q1.2
  have b2 := numB_len q2.1 q2.2
  have b3 := numB_len q3.1 q3.2
  have hm : msgB m.cut.p = numsB m.cut.hd ++ (numB m.cut.es.length ++ (entsB (m.cut.es.map Ent.p) ++ (flagB m.cut.ok ++ (numB m.cut.hint ++ (confB m.cut.cf ++ (textB (i2 m.cut.d) ++ (numB m.cut.off ++ (numB m.cut.sz ++ numB m.cut.ctx)))))))) := by simp [msgB, PMsg.p, numsB]
  rw [hm]
  simp only [List.length_append, confB, flagB, List.length_cons, List.length_nil]
  constructor <;> omega
/-! What is read. -/
section
attribute [local irreducible] rN rRest rBad rT rTRest rTBad rF rFRest rFBad nL nR nB eL eR eB cN cRest cBad RS.nums RS.ents RS.count RS.num RS.text RS.flag RS.conf
theorem l7_eq : ∀ l : List Int, l.length = 7 → [l.getD 0 0, l.getD 1 0, l.getD 2 0, l.getD 3 0, l.getD 4 0, l.getD 5 0, l.getD 6 0] = l := fun l h => by
  match l, h with
  | [_, _, _, _, _, _, _], _ => rfl
theorem l3_eq : ∀ l : List Int, l.length = 3 → [l.getD 0 0, l.getD 1 0, l.getD 2 0] = l := fun l h => by
  match l, h with
  | [_, _, _], _ => rfl
theorem RS.msg_eq {r : RS} (hr : r.ok) (hb : r.bad = false) : r.msg.1.p = mD r.xs ∧ r.msg.2.bad = mb15 r.xs ∧ r.msg.2.xs = mx15 r.xs := by
  obtain ⟨a1, a2, a3⟩ := r.nums_eq 7
  have o1 := RS.nums_ok hr 7
  have l7 := RS.nums_len r 7
  obtain ⟨A, hA⟩ : ∃ A, A = r.nums 7 := ⟨_, rfl⟩
  rw [← hA] at a1 a2 a3 o1 l7
  obtain ⟨c1, c2, c3⟩ := A.2.count_eq
  have o2 := o1.count
  obtain ⟨C, hC⟩ : ∃ C, C = A.2.count := ⟨_, rfl⟩
  rw [← hC] at c1 c2 c3 o2
  obtain ⟨k, hk⟩ : ∃ k, k = C.1.toNat := ⟨_, rfl⟩
  obtain ⟨e1, e2, e3⟩ := RS.ents_eq o2 k
  have o3 := RS.ents_ok o2 k
  obtain ⟨E, hE⟩ : ∃ E, E = C.2.ents k := ⟨_, rfl⟩
  rw [← hE] at e1 e2 e3 o3
  obtain ⟨f1, f2, f3⟩ := E.2.flag_eq
  have o4 := o3.flag
  obtain ⟨F, hF⟩ : ∃ F, F = E.2.flag := ⟨_, rfl⟩
  rw [← hF] at f1 f2 f3 o4
  obtain ⟨h1, h2, h3⟩ := F.2.num_eq
  have o5 := o4.num
  obtain ⟨G, hG⟩ : ∃ G, G = F.2.num := ⟨_, rfl⟩
  rw [← hG] at h1 h2 h3 o5
  obtain ⟨k1, k2, k3⟩ := G.2.conf_eq
  have o6 := o5.conf
  obtain ⟨J, hJ⟩ : ∃ J, J = G.2.conf := ⟨_, rfl⟩
  rw [← hJ] at k1 k2 k3 o6
  obtain ⟨t1, t2, t3⟩ := J.2.text_eq o6
  have tb := (RS.text_b o6).2
  obtain ⟨T, hT⟩ : ∃ T, T = J.2.text := ⟨_, rfl⟩
  rw [← hT] at t1 t2 t3 tb
  obtain ⟨q1, q2, q3⟩ := T.2.nums_eq 3
  have l3 := RS.nums_len T.2 3
  obtain ⟨W, hW⟩ : ∃ W, W = T.2.nums 3 := ⟨_, rfl⟩
  rw [← hW] at q1 q2 q3 l3
  have hm : r.msg = (⟨A.1.getD 0 0, A.1.getD 1 0, A.1.getD 2 0, A.1.getD 3 0, A.1.getD 4 0, A.1.getD 5 0, A.1.getD 6 0, true, E.1, F.1, G.1, true, J.1, T.1.1, n2 T.1.2, W.1.getD 0 0, W.1.getD 1 0, W.1.getD 2 0⟩, W.2) := by
    simp only [RS.msg, ← hA, ← hC, ← hk, ← hE, ← hF, ← hG, ← hJ, ← hT, ← hW]
  clear hA hC hE hF hG hJ hT hW o1 o2 o3 o4 o5 o6
  have x7 : A.2.xs = mx7 r.xs := by rw [a2]; rfl
  have b7 : A.2.bad = mb7 r.xs := by rw [a3, hb]; rfl
  have x8 : C.2.xs = mx8 r.xs := by rw [c2, x7]; rfl
  have b8 : C.2.bad = mb8 r.xs := by rw [c3, x7, b7]; rfl
  have hkk : k = cN (mx7 r.xs) := by rw [hk, c1, x7, Int.toNat_natCast]
  have x9 : E.2.xs = mx9 r.xs := by rw [e2, x8, hkk]; rfl
  have b9 : E.2.bad = mb9 r.xs := by rw [e3, x8, b8, hkk]; rfl
  have x10 : F.2.xs = mx10 r.xs := by rw [f2, x9]; rfl
  have b10 : F.2.bad = mb10 r.xs := by rw [f3, x9, b9]; rfl
  have x11 : G.2.xs = mx11 r.xs := by rw [h2, x10]; rfl
  have b11 : G.2.bad = mb11 r.xs := by rw [h3, x10, b10]; rfl
  have x13 : J.2.xs = mx13 r.xs := by rw [k2, x11]; rfl
  have b13 : J.2.bad = mb13 r.xs := by rw [k3, x11, b11]; rfl
  have x14 : T.2.xs = mx14 r.xs := by rw [t2, x13]; rfl
  have b14 : T.2.bad = mb14 r.xs := by rw [t3, x13, b13]; rfl
  have x15 : W.2.xs = mx15 r.xs := by rw [q2, x14]; rfl
  have b15 : W.2.bad = mb15 r.xs := by rw [q3, x14, b14]; rfl
  rw [hm]
  refine ⟨?_, b15, x15⟩
  unfold PMsg.p PMsg.hd mD
  simp only
  rw [l7_eq _ l7, l3_eq _ l3, i2_n2 tb, a1, e1, f1, h1, k1, t1, q1, x8, hkk, x9, x10, x11, x13, x14]
  rfl
end
theorem msgR_yes {z : Bool} {xs : List Int} (hl : xs.length ≤ 1000000000000) (hb : Bytes xs) (h : MOK xs) : ∃ k : PMsg, RS.msgR ⟨z, xs, false⟩ = (k, 0) ∧ k.p = mD xs := by
  have hr : (⟨z, xs, false⟩ : RS).ok := ⟨hl, hb, fun h => (by cases h), fun h => (by cases h)⟩
  obtain ⟨h1, h2, h3⟩ := RS.msg_eq hr rfl
  refine ⟨(RS.msg ⟨z, xs, false⟩).1, ?_, h1⟩
  rw [RS.msgR, h2, h3, if_pos]
  simp only at *
  rw [h.1, h.2]; rfl
theorem msgR_no {z : Bool} {xs : List Int} (hl : xs.length ≤ 1000000000000) (hb : Bytes xs) (h : ¬ MOK xs) : RS.msgR ⟨z, xs, false⟩ = (PMsg.zero, 3) := by
  have hr : (⟨z, xs, false⟩ : RS).ok := ⟨hl, hb, fun h => (by cases h), fun h => (by cases h)⟩
  obtain ⟨h1, h2, h3⟩ := RS.msg_eq hr rfl
  rw [RS.msgR, h2, h3, if_neg]
  intro hc
  simp only [Bool.and_eq_true, Bool.not_eq_true', List.isEmpty_iff] at hc
  exact h ⟨hc.1, hc.2⟩
/-- What is read out of few bytes is not big. -/
theorem good_of {k : PMsg} {xs : List Int} (hb : Bytes xs) (hl : xs.length ≤ 3000) (h : MOK xs) (hk : k.p = mD xs) : k.good ∧ msgB k.p = xs := by
  obtain ⟨h0, h1, h2, h3, h4, h5, h6⟩ := msg_inv hb h
  have hx : msgB k.p = xs := by rw [hk]; exact h0.symm
  rw [← hk] at h1 h2 h3 h4 h5 h6
  have hlen := hl
  rw [← hx] at hlen
  have hE : ∀ e ∈ k.es, InI64 e.ix ∧ InI64 e.tm ∧ InI64 e.kd ∧ ∀ b ∈ e.d, b < 256 := fun e he => by
    obtain ⟨a, b, c, d⟩ := h2 e.p (List.mem_map_of_mem he)
    refine ⟨a, b, c, fun x hx => ?_⟩
    have := d (x : Int) (List.mem_map_of_mem hx)
    omega
  have hD : ∀ b ∈ k.d, b < 256 := fun x hx => by have := h5 (x : Int) (List.mem_map_of_mem hx); omega
  simp only [msgB, List.length_append] at hlen
  have c1 : k.p.conf = k.cf := rfl
  have c2 : k.p.data = i2 k.d := rfl
  have c3 : k.p.es = k.es.map Ent.p := rfl
  rw [c1, c2, c3] at hlen
  have d1 := (numsB_len k.cf h4).1
  have d2 : (i2 k.d).length = k.d.length := i2_len _
  have d3 : ∀ (l : List Ent), l.length ≤ (entsB (l.map Ent.p)).length ∧ ∀ e ∈ l, e.d.length ≤ (entsB (l.map Ent.p)).length := by
    intro l
    induction l with
    | nil => simp
    | cons e l ih =>
      have n1 := numB_pos e.ix
      rw [List.map_cons, entsB_cons]
      have : (enB e.p).length = (numB e.ix).length + (numB e.tm).length + (numB e.kd).length + ((numB (e.d.length : Int)).length + e.d.length) := by simp [enB, textB, Ent.p, i2_len]; omega
      refine ⟨by simp; omega, fun f hf => ?_⟩
      rw [List.length_append]
      rcases List.mem_cons.1 hf with rfl | hf
      · omega
      · have := ih.2 f hf; omega
  obtain ⟨d4, d5⟩ := d3 k.es
  simp only [confB, textB, List.length_append] at hlen
  rw [d2] at hlen
  exact ⟨⟨h1, ⟨by omega, fun e he => by
    obtain ⟨a, b, c, d⟩ := hE e he
    exact ⟨a, b, c, by have := d5 e he; omega, d⟩⟩, h3, ⟨by omega, h4⟩, ⟨by omega, hD⟩, ⟨h6 k.off (by simp [PMsg.p]), h6 k.sz (by simp [PMsg.p]), h6 k.ctx (by simp [PMsg.p])⟩⟩, hx⟩
end Go.Proofs.Yteegdhfekemhmaa

/- delphilaw17.CommandMsg: the walk. -/
namespace Go.Proofs.Yteegdhfekemhmaa
open Go.RowKit Sim Go Sym
set_option maxRecDepth 100000
set_option linter.unusedVariables false
set_option linter.unusedSimpArgs false
variable {base : Nat}
theorem SOp.rem {P : Program} {n : Nat} {e : Env} {h : HS} {nk : NK} {x y : LX} {i : IntKind} {a b : Int} (hx : xev e x = some (.c (.p (.int i a)))) (hy : xev e y = some (.c (.p (.int i b)))) (h0 : b ≠ 0) : SOp P n (.bin nk .rem x y) e h (.c (.p (.int i (a.tmod b)))) h :=
  SOp.bin hx hy (by simp only [binX, if_true, intX]; rw [if_neg h0])
theorem bytes_u8 {l : List Int} (h : Bytes l) : bytesX (u8P l) = some (n2 l) := by rw [u8P_n2 h]; exact bytesX_map (n2_bytes h)
theorem n2_inj {a b : List Int} (ha : Bytes a) (hb : Bytes b) (h : n2 a = n2 b) : a = b := by rw [← i2_n2 ha, h, i2_n2 hb]
theorem Bytes.set {l : List Int} (h : Bytes l) (j : Nat) {x : Int} (h0 : 0 ≤ x) (h1 : x ≤ 255) : Bytes (l.set j x) := by
  intro y hy
  rcases List.mem_or_eq_of_mem_set hy with hy | rfl
  · exact h y hy
  · exact ⟨h0, h1⟩
theorem u8P_set (l : List Int) (j : Nat) (x : Int) : (u8P l).set j (.int .u8 x) = u8P (l.set j x) := by simp [u8P, List.map_set]
theorem xor_rng {a b : Int} (h1 : 0 ≤ a) (h2 : a ≤ 255) (h3 : 0 ≤ b) (h4 : b ≤ 255) : 0 ≤ bits .xor .u8 a b ∧ bits .xor .u8 a b ≤ 255 := by
  rw [u8_xor a b h1 (by omega) h3 (by omega)]
  have := Nat.xor_lt_two_pow (x := a.toNat) (y := b.toNat) (n := 8) (by omega) (by omega)
  omega
theorem begun17_spec : CallS Try.prog base 20 [] ⟨[], 0⟩ (.c (.p (.bool true))) ⟨[], 0⟩ := CallS.closed (m := 2000) mixed noNG (by kernel_rfl)
noncomputable def lCmM : {F : LF // lowerF Try.prog 11 = some F} := ⟨_, rfl⟩
theorem CommandMsg_spec (m n : PMsg) (hm : m.raw) (hn : n.raw) (at_ x : Int) (hx0 : 0 ≤ x) (hx1 : x ≤ 255) : CallS Try.prog base 11 [m.v, n.v, .c (.p (.int .i64 at_)), .c (.p (.int .u8 x))] ⟨[], 0⟩ (.c (.p (.bool true))) ⟨[], 0⟩ := by
  refine CallS.of noNG lCmM.2 rfl (M.start (M.go rfl ?_))
  refine M.use0 trivial begun17_spec rfl rfl rfl ?_
  refine M.go rfl ?_
  have cutm := CutMsg_spec (base := base) m hm.es.1 hm.cf.1
  -- behind the cuts: the second one is n's, or the first one's
  obtain ⟨N, hNr, hNN⟩ : ∃ N : PMsg, N.raw ∧ ((m.v.sv = n.v.sv ∧ N = m) ∨ (¬ m.v.sv = n.v.sv ∧ N = n)) := by
    by_cases h : m.v.sv = n.v.sv
    · exact ⟨m, hm, .inl ⟨h, rfl⟩⟩
    · exact ⟨n, hn, .inr ⟨h, rfl⟩⟩
  refine M.midV [(2, .c (.p (.int .i64 at_))), (3, .c (.p (.int .u8 x))), (4, .c (.ptr 0 0)), (5, .c (.ptr 1 0))] ⟨[(1, some (.row (N.cut.cs.map XC.p) true)), (0, some (.row (m.cut.cs.map XC.p) true))], 2⟩ ?_ ?_
  · rcases hNN with ⟨hs, rfl⟩ | ⟨hs, rfl⟩
    · refine M.regF (MF.go rfl ?_)
      refine MF.use0 (by first | exact True.intro | exact rfl) cutm rfl rfl rfl (MF.go rfl ?_)
      refine MF.rep (by first | exact True.intro | exact rfl) (r2 := N.cut.v) rfl (by
        refine List.mem_cons.2 (.inl ?_)
        show (⟨_, List.map XV.sv [n.v], _, _, _⟩ : Rec) = ⟨_, List.map XV.sv [N.v], _, _, _⟩
        rw [List.map_cons, List.map_cons, hs]) ?_
      refine MF.go rfl (MF.nil mixed (Fnl.nodup rfl) rfl ⟨⟨stepX_ok rfl, trivial⟩, trivial⟩ (M.done ⟨rfl, ?_⟩))
      exact Sh.ren [(0, 0), (1, 1)] rfl (by repeat' (first | exact True.intro | refine ⟨⟨_, _, rfl, rfl, Wk.rfl⟩, ?_⟩ | refine ⟨⟨_, _, accV_ren rfl, rfl, Wk.rfl⟩, ?_⟩ | refine ⟨⟨_, _, accV_ren rfl, rfl, Wk.acc0⟩, ?_⟩ | refine ⟨⟨_, _, rfl, rfl, Wk.uncap⟩, ?_⟩ | refine ⟨⟨_, _, rfl, rfl, Wk.nil⟩, ?_⟩)) (by repeat' (first | exact True.intro | refine ⟨⟨_, _, _, rfl, rfl, rfl, WkO.rfl⟩, ?_⟩ | refine HeapOK.acc rfl rfl ?_ | refine HeapOK.es rfl rfl ?_))
    · refine M.regF (MF.go rfl ?_)
      refine MF.use0 (by first | exact True.intro | exact rfl) cutm rfl rfl rfl (MF.go rfl ?_)
      refine MF.use0 (by first | exact True.intro | exact rfl) (CutMsg_spec N hn.es.1 hn.cf.1) rfl rfl rfl (MF.go rfl ?_)
      refine MF.nil mixed (Fnl.two fun h => absurd h.2.1 (fun e => hs (by
        have e' : [m.v.sv] = [N.v.sv] ∨ [N.v.sv] = [m.v.sv] := by first | exact .inl e | exact .inr e
        rcases e' with e' | e'
        · exact (List.cons.inj e').1
        · exact (List.cons.inj e').1.symm))) rfl ⟨⟨stepX_ok rfl, trivial⟩, trivial⟩ (M.done ⟨rfl, ?_⟩)
      exact Sh.ren [(0, 0), (1, 1)] rfl (by repeat' (first | exact True.intro | refine ⟨⟨_, _, rfl, rfl, Wk.rfl⟩, ?_⟩ | refine ⟨⟨_, _, accV_ren rfl, rfl, Wk.rfl⟩, ?_⟩ | refine ⟨⟨_, _, accV_ren rfl, rfl, Wk.acc0⟩, ?_⟩ | refine ⟨⟨_, _, rfl, rfl, Wk.uncap⟩, ?_⟩ | refine ⟨⟨_, _, rfl, rfl, Wk.nil⟩, ?_⟩)) (by repeat' (first | exact True.intro | refine ⟨⟨_, _, _, rfl, rfl, rfl, WkO.rfl⟩, ?_⟩ | refine HeapOK.acc rfl rfl ?_ | refine HeapOK.es rfl rfl ?_))
  · obtain ⟨a, hae⟩ : ∃ a, a = m.cut := ⟨_, rfl⟩
    obtain ⟨b, hbe⟩ : ∃ b, b = N.cut := ⟨_, rfl⟩
    have ga : a.good := by rw [hae]; exact hm.good
    have gb : b.good := by rw [hbe]; exact hNr.good
    have na : a.nc := by rw [hae]; exact hm.nc
    have nb : b.nc := by rw [hbe]; exact hNr.nc
    have ra := ga.rd
    have rb := gb.rd
    have la : 1 ≤ (msgB a.p).length ∧ (msgB a.p).length ≤ 3000 := by rw [hae]; exact msgB_len hm
    rw [← hae, ← hbe]
    have Ba := msgB_bytes ga
    have Bb := msgB_bytes gb
    obtain ⟨A, hA⟩ : ∃ A, A = msgB a.p := ⟨_, rfl⟩
    obtain ⟨B, hB⟩ : ∃ B, B = msgB b.p := ⟨_, rfl⟩
    rw [← hA] at Ba la
    rw [← hB] at Bb
    have sa := Msg_spec (base := base) a ga
    have sb := Msg_spec (base := base) b gb
    rw [← hA] at sa
    rw [← hB] at sb
    have hbn : a.v.sv = b.v.sv → A = B := fun h => by rw [hA, hB, PMsg.inj na nb h]
    refine M.go rfl ?_
    refine M.regF (MF.go rfl ?_)
    refine MF.use0 (by first | exact True.intro | exact rfl) sa rfl rfl rfl (MF.go rfl ?_)
    refine MF.use0 (by first | exact True.intro | exact rfl) sb rfl rfl rfl (MF.go rfl ?_)
    refine MF.nil mixed (Fnl.two fun h => ?_) rfl ⟨⟨stepX_ok rfl, trivial⟩, trivial⟩ (M.go rfl ?_)
    · have e' : [a.v.sv] = [b.v.sv] ∨ [b.v.sv] = [a.v.sv] := by first | exact .inl h.2.1 | exact .inr h.2.1
      have e2 : a.v.sv = b.v.sv := by
        rcases e' with e' | e'
        · exact (List.cons.inj e').1
        · exact (List.cons.inj e').1.symm
      have := hbn e2
      subst this
      exact ⟨rfl, rfl⟩
    obtain ⟨mk, md⟩ := msg_read ga.p
    rw [← hA] at mk md
    obtain ⟨k, hk1, hk2⟩ := msgR_yes (z := true) (xs := A) (by omega) Ba mk
    rw [md] at hk2
    have rk := PMsg.rd_p hk2 ra
    have rd := ReadMsg_spec (base := base) true A none (by omega) Ba
    rw [hk1] at rd
    refine M.use0 trivial rd rfl rfl rfl ?_
    refine M.go rfl ?_
    refine M.regF (MF.go rfl ?_)
    refine MF.decN rfl rfl rfl (fun h => absurd rfl h) (fun _ => ?_)
    refine MF.go rfl ?_
    refine MF.use0 (by first | exact True.intro | exact rfl) (EqMsg_spec k a rk ra) rfl rfl rfl (MF.go rfl ?_)
    refine MF.decB rfl rfl rfl (fun h => by rw [PMsg.eqv_iff.2 hk2] at h; cases h) (fun _ => ?_)
    refine MF.go rfl ?_
    refine MF.op rfl (SOp.cvBS rfl (bytes_u8 Ba)) (MF.go rfl ?_)
    refine MF.op rfl (SOp.cvBS rfl (bytes_u8 Bb)) (MF.go rfl ?_)
    refine MF.use0 (by first | exact True.intro | exact rfl) (EqMsg_spec a b ra rb) rfl rfl rfl (MF.go rfl ?_)
    refine MF.nil mixed (Fnl.two fun h => ?_) rfl ⟨⟨SOp.cvBS rfl (bytes_u8 Ba), trivial⟩, ⟨SOp.cvBS rfl (bytes_u8 Bb), trivial⟩, trivial⟩ (M.go rfl ?_)
    · have e' : ([k.v.sv, a.v.sv] = [a.v.sv, b.v.sv]) ∨ ([a.v.sv, b.v.sv] = [k.v.sv, a.v.sv]) := by first | exact .inl h.2.1 | exact .inr h.2.1
      have e2 : a.v.sv = b.v.sv := by
        rcases e' with e' | e'
        · exact (List.cons.inj (List.cons.inj e').2).1
        · exact (List.cons.inj (List.cons.inj e').2).1.symm
      have t1 : k.eqv a = true := PMsg.eqv_iff.2 hk2
      have t2 : a.eqv b = true := PMsg.eqv_iff.2 (PMsg.inj na nb e2)
      rw [t1, t2]
      exact ⟨rfl, rfl⟩
    have heq : eqL (n2 A) (n2 B) = a.eqv b := by
      rw [Bool.eq_iff_iff, PMsg.eqv_iff, eqL_iff, decide_eq_true_eq]
      constructor
      · intro h
        have := n2_inj Ba Bb h
        rw [hA, hB] at this
        exact msgB_inj ga.p gb.p this
      · intro h
        rw [hA, hB, h]
    rw [heq]
    refine M.condB rfl (fun h => by simp at h) (fun _ => ?_)
    refine M.go rfl ?_
    have hne : u8P A ≠ [] := by intro e; have := congrArg List.length e; rw [u8P_len, List.length_nil] at this; omega
    refine M.op trivial (SOp.appN rfl rfl .tz hne (by rw [u8P_len]; omega)) ?_
    refine M.goN 4 rfl ?_
    obtain ⟨Y, hYe, hY, hYl⟩ : ∃ Y : List Int, Y = (if 0 ≤ at_ then A.set (at_.toNat % A.length) (bits .xor .u8 (A.getD (at_.toNat % A.length) 0) x) else A) ∧ Bytes Y ∧ Y.length = A.length := by
      refine ⟨_, rfl, ?_, ?_⟩
      · split
        · have hr := Ba.at (at_.toNat % A.length)
          have := xor_rng hr.1 hr.2 hx0 hx1
          exact Ba.set _ this.1 this.2
        · exact Ba
      · split <;> simp
    refine M.midV [(14, .c (.p (.tz false 1 (u8P Y) none)))] ⟨[], 0⟩ ?_ ?_
    · refine M.go rfl ?_
      refine M.dec rfl (fun h0 => ?_) (fun h0 => ?_)
      · rw [if_pos h0] at hYe
        refine M.go rfl ?_
        rw [u8P_len]
        refine M.cond rfl (fun _ => ?_) (fun h => absurd (by omega) h)
        refine M.go rfl ?_
        refine M.op trivial (SOp.rem rfl rfl (by omega)) ?_
        have hj : at_.tmod (A.length : Int) = ((at_.toNat % A.length : Nat) : Int) := by
          rw [Int.tmod_eq_emod_of_nonneg h0, Int.natCast_emod, Int.toNat_of_nonneg h0]
        rw [hj]
        obtain ⟨j, hje⟩ : ∃ j, j = at_.toNat % A.length := ⟨_, rfl⟩
        have hjl : j < A.length := by rw [hje]; exact Nat.mod_lt _ (by omega)
        rw [← hje] at hYe ⊢
        refine M.op trivial (SOp.iaOn rfl rfl (by first | exact hjl | (rw [u8P_len]; exact hjl))) ?_
        refine M.op trivial (SOp.ld1O rfl rfl (u8P_at A j hjl) rfl rfl rfl) ?_
        refine M.go rfl ?_
        refine M.op trivial (SOp.iaOn rfl rfl (by first | exact hjl | (rw [u8P_len]; exact hjl))) ?_
        refine M.op trivial (SOp.stE1 rfl rfl rfl rfl (by rw [u8P_len]; exact hjl)) ?_
        rw [u8P_set, ← hYe]
        refine M.go rfl ?_
        refine M.done ⟨rfl, ?_⟩
        exact Sh.freezeN (i := 14) rfl rfl (by rw [u8P_len, hYl]) (Sh.ren [] rfl (by repeat' (first | exact True.intro | refine ⟨⟨_, _, rfl, rfl, Wk.rfl⟩, ?_⟩ | refine ⟨⟨_, _, accV_ren rfl, rfl, Wk.rfl⟩, ?_⟩ | refine ⟨⟨_, _, accV_ren rfl, rfl, Wk.acc0⟩, ?_⟩ | refine ⟨⟨_, _, rfl, rfl, Wk.uncap⟩, ?_⟩ | refine ⟨⟨_, _, rfl, rfl, Wk.nil⟩, ?_⟩)) (by repeat' (first | exact True.intro | refine ⟨⟨_, _, _, rfl, rfl, rfl, WkO.rfl⟩, ?_⟩ | refine HeapOK.acc rfl rfl ?_ | refine HeapOK.es rfl rfl ?_)))
      · rw [if_neg h0] at hYe
        rw [hYe]
        refine M.go rfl ?_
        refine M.done ⟨rfl, ?_⟩
        exact Sh.freezeN (i := 14) rfl rfl rfl (Sh.ren [] rfl (by repeat' (first | exact True.intro | refine ⟨⟨_, _, rfl, rfl, Wk.rfl⟩, ?_⟩ | refine ⟨⟨_, _, accV_ren rfl, rfl, Wk.rfl⟩, ?_⟩ | refine ⟨⟨_, _, accV_ren rfl, rfl, Wk.acc0⟩, ?_⟩ | refine ⟨⟨_, _, rfl, rfl, Wk.uncap⟩, ?_⟩ | refine ⟨⟨_, _, rfl, rfl, Wk.nil⟩, ?_⟩)) (by repeat' (first | exact True.intro | refine ⟨⟨_, _, _, rfl, rfl, rfl, WkO.rfl⟩, ?_⟩ | refine HeapOK.acc rfl rfl ?_ | refine HeapOK.es rfl rfl ?_)))
    · refine M.go rfl ?_
      have rd2 := ReadMsg_spec (base := base) false Y none (by omega) hY
      by_cases hmok : MOK Y
      · obtain ⟨q, hq1, hq2⟩ := msgR_yes (z := false) (xs := Y) (by omega) hY hmok
        obtain ⟨gq, hqm⟩ := good_of hY (by omega) hmok hq2
        rw [hq1] at rd2
        have sq := Msg_spec (base := base) q gq
        rw [hqm] at sq
        refine M.use0 trivial rd2 rfl rfl rfl ?_
        refine M.go rfl ?_
        refine M.condN rfl (fun h => absurd rfl h) (fun _ => ?_)
        refine M.go rfl (M.regF (MF.go rfl ?_))
        refine MF.use0 (by first | exact True.intro | exact rfl) sq rfl rfl rfl (MF.go rfl ?_)
        refine MF.op trivial (SOp.cvBS rfl (bytes_u8 hY)) (MF.go rfl ?_)
        refine MF.op trivial (SOp.cvBS rfl (bytes_u8 hY)) (MF.go rfl ?_)
        refine MF.nil mixed (Fnl.nodup rfl) rfl ⟨⟨SOp.cvBS rfl (bytes_u8 hY), trivial⟩, trivial⟩ (M.go rfl ?_)
        have ht : eqL (n2 Y) (n2 Y) = true := by rw [eqL_iff]; simp
        exact M.ret (M.go rfl (M.done (finQ.ret [] rfl rfl rfl (Wk.of (by rw [ht]; rfl)) (by repeat' (first | exact True.intro | refine ⟨⟨_, _, _, rfl, rfl, rfl, WkO.rfl⟩, ?_⟩ | refine HeapOK.acc rfl rfl ?_ | refine HeapOK.es rfl rfl ?_)))))
      · rw [msgR_no (by omega) hY hmok] at rd2
        refine M.use0 trivial rd2 rfl rfl rfl ?_
        refine M.go rfl ?_
        refine M.condN rfl (fun _ => ?_) (fun h => absurd h (by decide))
        refine M.go rfl ?_
        refine M.dec rfl (fun _ => ?_) (fun h => absurd rfl h)
        refine M.go rfl ?_
        refine M.dec rfl (fun _ => ?_) (fun h => absurd rfl h)
        refine M.go rfl ?_
        exact M.ret (M.go rfl (M.done (finQ.ret [] rfl rfl rfl (Wk.of rfl) (by repeat' (first | exact True.intro | refine ⟨⟨_, _, _, rfl, rfl, rfl, WkO.rfl⟩, ?_⟩ | refine HeapOK.acc rfl rfl ?_ | refine HeapOK.es rfl rfl ?_)))))
def tyMsg : Ty := .st [.int .i64, .int .i64, .int .i64, .int .i64, .int .i64, .int .i64, .int .i64, .sl 4 48 tyEnt, .bool, .int .i64, .sl 1 8 (.int .i64), .sl 1 1 (.int .u8), .int .i64, .int .i64, .int .i64]
theorem is_msg {p : PC} (h : Is tyMsg p) : ∃ m : PMsg, p = m.pc ∧ m.raw := by
  obtain ⟨l, rfl, k0⟩ := h.st
  obtain ⟨a0, r1, h0, rfl, k1⟩ := k0.cons
  obtain ⟨a0, rfl, b0⟩ := h0.i64
  obtain ⟨a1, r2, h1, rfl, k2⟩ := k1.cons
  obtain ⟨a1, rfl, b1⟩ := h1.i64
  obtain ⟨a2, r3, h2, rfl, k3⟩ := k2.cons
  obtain ⟨a2, rfl, b2⟩ := h2.i64
  obtain ⟨a3, r4, h3, rfl, k4⟩ := k3.cons
  obtain ⟨a3, rfl, b3⟩ := h3.i64
  obtain ⟨a4, r5, h4, rfl, k5⟩ := k4.cons
  obtain ⟨a4, rfl, b4⟩ := h4.i64
  obtain ⟨a5, r6, h5, rfl, k6⟩ := k5.cons
  obtain ⟨a5, rfl, b5⟩ := h5.i64
  obtain ⟨a6, r7, h6, rfl, k7⟩ := k6.cons
  obtain ⟨a6, rfl, b6⟩ := h6.i64
  obtain ⟨a7, r8, h7, rfl, k8⟩ := k7.cons
  obtain ⟨ez, es, rfl, b7⟩ := is_ents h7
  obtain ⟨a8, r9, h8, rfl, k9⟩ := k8.cons
  obtain ⟨ok, rfl⟩ := h8.bool
  obtain ⟨a9, r10, h9, rfl, k10⟩ := k9.cons
  obtain ⟨hint, rfl, b9⟩ := h9.i64
  obtain ⟨a10, r11, h10, rfl, k11⟩ := k10.cons
  obtain ⟨cz, cf, rfl, c1, c2⟩ := h10.ints
  obtain ⟨a11, r12, h11, rfl, k12⟩ := k11.cons
  obtain ⟨dz, d, rfl, d1, d2⟩ := h11.bytes
  obtain ⟨a12, r13, h12, rfl, k13⟩ := k12.cons
  obtain ⟨off, rfl, b12⟩ := h12.i64
  obtain ⟨a13, r14, h13, rfl, k14⟩ := k13.cons
  obtain ⟨sz, rfl, b13⟩ := h13.i64
  obtain ⟨a14, r15, h14, rfl, k15⟩ := k14.cons
  obtain ⟨ctx, rfl, b14⟩ := h14.i64
  obtain rfl := k15.nil
  refine ⟨⟨a0, a1, a2, a3, a4, a5, a6, ez, es, ok, hint, cz, cf, dz, d, off, sz, ctx⟩, rfl, fun n hn => ?_, b7, i64_in b9, ⟨by simp only; omega, fun n hn => i64_in (c2 n hn)⟩, d2, i64_in b12, i64_in b13, i64_in b14⟩
  simp only [PMsg.hd, List.mem_cons, List.not_mem_nil, or_false] at hn
  rcases hn with rfl | rfl | rfl | rfl | rfl | rfl | rfl <;> first | exact i64_in b0 | exact i64_in b1 | exact i64_in b2 | exact i64_in b3 | exact i64_in b4 | exact i64_in b5 | exact i64_in b6
theorem CommandMsg_law {p0 p1 p2 p3 : PC} (h0 : Is tyMsg p0) (h1 : Is tyMsg p1) (h2 : Is (.int .i64) p2) (h3 : Is (.int .u8) p3) : CallS Try.prog base 11 [xvP p0, xvP p1, xvP p2, xvP p3] ⟨[], 0⟩ (.c (.p (.bool true))) ⟨[], 0⟩ := by
  obtain ⟨m, rfl, hm⟩ := is_msg h0
  obtain ⟨n, rfl, hn⟩ := is_msg h1
  obtain ⟨a, rfl, -⟩ := h2.i64
  obtain ⟨x, rfl, hx⟩ := h3.int
  have := u8_rng hx
  exact CommandMsg_spec m n hm hn a x this.1 (by omega)
end Go.Proofs.Yteegdhfekemhmaa

/- Package client over values with names. -/
namespace Go.Proofs.Yteegdhfekemhmaa
open Go.RowKit Sim Go Sym
set_option maxRecDepth 100000
set_option linter.unusedVariables false
set_option linter.unusedSimpArgs false
variable {base : Nat}
structure PCl where
  id : Int
  sq : Int
  op : Bool
  cm : PCmd
  hint : Int
def PCl.cs (c : PCl) : List PC := [.int .i64 c.id, .int .i64 c.sq, .bs c.op, .int .i64 c.cm.kd, .int .i64 c.cm.cl, .int .i64 c.cm.sq, .str c.cm.tx, .int .i64 c.hint]
def hCl (c : PCl) : HS := ⟨[(0, some (.row (c.cs.map XC.p) true))], 1⟩
structure PCl.ok (c : PCl) : Prop where
  id : 1 ≤ c.id ∧ c.id ≤ 8
  sq : 0 ≤ c.sq ∧ c.sq ≤ 1000
  cm : c.cm.good
noncomputable def lClN : {F : LF // lowerF Try.prog 63 = some F} := ⟨_, rfl⟩
theorem clnew_no (id : Int) (h : id < 1 ∨ 8 < id) : CallS Try.prog base 63 [.c (.p (.int .i64 id))] ⟨[], 0⟩ (.c (.p .nilp)) ⟨[], 0⟩ := by
  refine CallS.of noNG lClN.2 rfl (M.start (M.go rfl ?_))
  refine M.dec rfl (fun h1 => ?_) (fun h1 => ?_)
  · refine M.go rfl ?_
    exact M.ret (M.go rfl (M.done (finQ.ret [] rfl rfl rfl (by first | exact Wk.rfl | exact Wk.uncap | exact Wk.nil | exact Wk.b1 rfl | exact Wk.t2 Wk.rfl (Wk.b1 rfl)) (by repeat' (first | exact True.intro | refine ⟨⟨_, _, _, rfl, rfl, rfl, WkO.rfl⟩, ?_⟩ | refine HeapOK.acc rfl rfl ?_ | refine HeapOK.es rfl rfl ?_)))))
  · refine M.go rfl ?_
    refine M.cond rfl (fun h2 => ?_) (fun h2 => absurd (by omega) h2)
    refine M.go rfl ?_
    exact M.ret (M.go rfl (M.done (finQ.ret [] rfl rfl rfl (by first | exact Wk.rfl | exact Wk.uncap | exact Wk.nil | exact Wk.b1 rfl | exact Wk.t2 Wk.rfl (Wk.b1 rfl)) (by repeat' (first | exact True.intro | refine ⟨⟨_, _, _, rfl, rfl, rfl, WkO.rfl⟩, ?_⟩ | refine HeapOK.acc rfl rfl ?_ | refine HeapOK.es rfl rfl ?_)))))
theorem clnew_yes (id : Int) (h : 1 ≤ id ∧ id ≤ 8) : CallS Try.prog base 63 [.c (.p (.int .i64 id))] ⟨[], 0⟩ (.c (.ptr 0 0)) (hCl ⟨id, 0, false, ⟨0, 0, 0, []⟩, 0⟩) := by
  refine CallS.of noNG lClN.2 rfl (M.start (M.go rfl ?_))
  refine M.dec rfl (fun h1 => absurd h1 (by omega)) (fun h1 => ?_)
  refine M.go rfl ?_
  refine M.cond rfl (fun h2 => absurd h2 (by omega)) (fun h2 => ?_)
  refine M.go rfl ?_
  exact M.ret (M.go rfl (M.done (finQ.ret [(0, 0)] rfl rfl rfl (by first | exact Wk.rfl | exact Wk.uncap | exact Wk.nil | exact Wk.b1 rfl | exact Wk.t2 Wk.rfl (Wk.b1 rfl)) ⟨⟨_, _, _, rfl, rfl, rfl, WkO.row ⟨Wk.rfl, Wk.rfl, Wk.b1 rfl, Wk.rfl, Wk.rfl, Wk.rfl, Wk.rfl, Wk.rfl, trivial⟩⟩, trivial⟩)))
noncomputable def lClO : {F : LF // lowerF Try.prog 66 = some F} := ⟨_, rfl⟩
theorem clopen_spec (c : PCl) : CallS Try.prog base 66 [.c (.ptr 0 0)] (hCl c) (.c (.p (.bs c.op))) (hCl c) := by
  refine CallS.of noNG lClO.2 rfl (M.start (M.go rfl ?_))
  exact M.ret (M.go rfl (M.done (finQ.ret [(0, 0)] rfl rfl rfl (by first | exact Wk.rfl | exact Wk.uncap | exact Wk.nil | exact Wk.b1 rfl | exact Wk.t2 Wk.rfl (Wk.b1 rfl)) (by repeat' (first | exact True.intro | refine ⟨⟨_, _, _, rfl, rfl, rfl, WkO.rfl⟩, ?_⟩ | refine HeapOK.acc rfl rfl ?_ | refine HeapOK.es rfl rfl ?_)))))
noncomputable def lClH : {F : LF // lowerF Try.prog 69 = some F} := ⟨_, rfl⟩
theorem clhint_spec (c : PCl) : CallS Try.prog base 69 [.c (.ptr 0 0)] (hCl c) (.c (.p (.int .i64 c.hint))) (hCl c) := by
  refine CallS.of noNG lClH.2 rfl (M.start (M.go rfl ?_))
  exact M.ret (M.go rfl (M.done (finQ.ret [(0, 0)] rfl rfl rfl (by first | exact Wk.rfl | exact Wk.uncap | exact Wk.nil | exact Wk.b1 rfl | exact Wk.t2 Wk.rfl (Wk.b1 rfl)) (by repeat' (first | exact True.intro | refine ⟨⟨_, _, _, rfl, rfl, rfl, WkO.rfl⟩, ?_⟩ | refine HeapOK.acc rfl rfl ?_ | refine HeapOK.es rfl rfl ?_)))))
noncomputable def lClC : {F : LF // lowerF Try.prog 64 = some F} := ⟨_, rfl⟩
def PCl.want (c : PCl) (n : Int) (t : List Nat) : PCmd := ⟨n, c.id, c.sq + 1, t⟩
def PCmd.zero : PCmd := ⟨0, 0, 0, []⟩
def PCl.call (c : PCl) (n : Int) (t : List Nat) : PCmd × Int × PCl := if c.op = true then (PCmd.zero, 13, c) else if (c.want n t).may = true then (c.want n t, 0, ⟨c.id, c.sq + 1, true, c.want n t, c.hint⟩) else (PCmd.zero, 3, c)
theorem clcall_spec (c : PCl) (hc : c.ok) (n : Int) (t : List Nat) : CallS Try.prog base 64 [.c (.ptr 0 0), .c (.p (.int .i64 n)), .c (.p (.str t))] (hCl c) (.tup [(c.call n t).1.v, .c (.p (.int .i64 (c.call n t).2.1))]) (hCl (c.call n t).2.2) := by
  have hw : IntKind.i64.wrap (c.sq + 1) = c.sq + 1 := wr64 (by have := hc.sq; omega) (by have := hc.sq; omega)
  refine CallS.of noNG lClC.2 rfl (M.start (M.go rfl ?_))
  refine M.regF (MF.go rfl ?_)
  refine MF.nil mixed (Fnl.nodup rfl) rfl ⟨⟨stepX_ok rfl, trivial⟩, ⟨stepX_ok rfl, trivial⟩, trivial⟩ (M.go rfl ?_)
  rw [hw]
  refine M.condB rfl (fun h => ?_) (fun h => ?_)
  · rw [PCl.call, if_pos h]
    refine M.go rfl ?_
    exact M.ret (M.go rfl (M.done (finQ.ret [(0, 0)] rfl rfl rfl (Wk.t2 Wk.rfl Wk.rfl) (by repeat' (first | exact True.intro | refine ⟨⟨_, _, _, rfl, rfl, rfl, WkO.rfl⟩, ?_⟩ | refine HeapOK.acc rfl rfl ?_ | refine HeapOK.es rfl rfl ?_)))))
  · rw [PCl.call, if_neg (by rw [h]; decide)]
    refine M.go rfl ?_
    refine M.use0 trivial (cmay_spec (c.want n t)) rfl rfl rfl ?_
    refine M.go rfl ?_
    refine M.condB rfl (fun h2 => ?_) (fun h2 => ?_)
    · rw [if_neg (by intro e; rw [e] at h2; cases h2)]
      refine M.go rfl ?_
      exact M.ret (M.go rfl (M.done (finQ.ret [(0, 0)] rfl rfl rfl (Wk.t2 Wk.rfl Wk.rfl) (by repeat' (first | exact True.intro | refine ⟨⟨_, _, _, rfl, rfl, rfl, WkO.rfl⟩, ?_⟩ | refine HeapOK.acc rfl rfl ?_ | refine HeapOK.es rfl rfl ?_)))))
    · rw [if_pos (by cases e : (c.want n t).may <;> simp_all)]
      refine M.go rfl ?_
      refine M.regF (MF.go rfl ?_)
      refine MF.nil mixed (Fnl.nodup rfl) rfl ⟨⟨stepX_ok rfl, stepX_ok rfl, trivial⟩, trivial⟩ (M.go rfl ?_)
      exact M.ret (M.go rfl (M.done (finQ.ret [(0, 0)] rfl rfl rfl (Wk.t2 Wk.rfl Wk.rfl) ⟨⟨_, _, _, rfl, rfl, rfl, WkO.row ⟨Wk.rfl, Wk.rfl, Wk.b1 rfl, Wk.rfl, Wk.rfl, Wk.rfl, Wk.rfl, Wk.rfl, trivial⟩⟩, trivial⟩)))
end Go.Proofs.Yteegdhfekemhmaa

/- Package client over values with names: Ask, Hear. -/
namespace Go.Proofs.Yteegdhfekemhmaa
open Go.RowKit Sim Go Sym
set_option maxRecDepth 100000
set_option linter.unusedVariables false
set_option linter.unusedSimpArgs false
variable {base : Nat}
theorem wkZ : Wk (.agg zrow) PMsg.zero.v := Wk.agg ⟨Wk.rfl, Wk.rfl, Wk.rfl, Wk.rfl, Wk.rfl, Wk.rfl, Wk.rfl, Wk.nil, Wk.b1 rfl, Wk.rfl, Wk.nil, Wk.nil, Wk.rfl, Wk.rfl, Wk.rfl, trivial⟩
def PCl.ask (c : PCl) (n : Int) : PMsg × Bool := if c.op = true ∧ 1 ≤ n ∧ n ≤ 7 then (⟨10, 100 + c.id, n, 0, c.sq, 0, 0, true, [], false, 0, true, [], true, n2 c.cm.enc.1, 0, 0, 0⟩, true) else (PMsg.zero, false)
noncomputable def lClA : {F : LF // lowerF Try.prog 68 = some F} := ⟨_, rfl⟩
theorem clask_spec (c : PCl) (hc : c.ok) (n : Int) : CallS Try.prog base 68 [.c (.ptr 0 0), .c (.p (.int .i64 n))] (hCl c) (.tup [(c.ask n).1.v, .c (.p (.bs (c.ask n).2))]) (hCl c) := by
  have hw : IntKind.i64.wrap (100 + c.id) = 100 + c.id := wr64 (by have := hc.id; omega) (by have := hc.id; omega)
  refine CallS.of noNG lClA.2 rfl (M.start (M.go rfl ?_))
  refine M.use (by first | exact True.intro | exact rfl) (clopen_spec c) [(0, 0)] rfl rfl rfl (by repeat' (first | exact True.intro | refine ⟨⟨_, _, _, rfl, rfl, rfl, WkO.rfl⟩, ?_⟩ | refine HeapOK.acc rfl rfl ?_ | refine HeapOK.es rfl rfl ?_)) rfl rfl ?_
  refine M.go rfl ?_
  refine M.decB rfl (fun h => ?_) (fun h => ?_)
  · rw [PCl.ask, if_neg (by intro e; rw [e.1] at h; cases h)]
    refine M.go rfl ?_
    exact M.ret (M.go rfl (M.done (finQ.ret [(0, 0)] rfl rfl rfl (Wk.t2 wkZ (Wk.b1 rfl)) (by repeat' (first | exact True.intro | refine ⟨⟨_, _, _, rfl, rfl, rfl, WkO.rfl⟩, ?_⟩ | refine HeapOK.acc rfl rfl ?_ | refine HeapOK.es rfl rfl ?_)))))
  refine M.go rfl ?_
  refine M.dec rfl (fun h2 => ?_) (fun h2 => ?_)
  · rw [PCl.ask, if_neg (by omega)]
    refine M.go rfl ?_
    exact M.ret (M.go rfl (M.done (finQ.ret [(0, 0)] rfl rfl rfl (Wk.t2 wkZ (Wk.b1 rfl)) (by repeat' (first | exact True.intro | refine ⟨⟨_, _, _, rfl, rfl, rfl, WkO.rfl⟩, ?_⟩ | refine HeapOK.acc rfl rfl ?_ | refine HeapOK.es rfl rfl ?_)))))
  refine M.go rfl ?_
  refine M.cond rfl (fun h3 => ?_) (fun h3 => ?_)
  · rw [PCl.ask, if_neg (by omega)]
    refine M.go rfl ?_
    exact M.ret (M.go rfl (M.done (finQ.ret [(0, 0)] rfl rfl rfl (Wk.t2 wkZ (Wk.b1 rfl)) (by repeat' (first | exact True.intro | refine ⟨⟨_, _, _, rfl, rfl, rfl, WkO.rfl⟩, ?_⟩ | refine HeapOK.acc rfl rfl ?_ | refine HeapOK.es rfl rfl ?_)))))
  have ho : c.op = true := by cases e : c.op <;> simp_all
  rw [PCl.ask, if_pos ⟨ho, by omega, by omega⟩]
  refine M.go rfl ?_
  refine M.use0 trivial (enc_spec c.cm hc.cm) rfl rfl rfl ?_
  rw [u8P_n2 (PCmd.enc_ok hc.cm).1]
  refine M.go rfl ?_
  refine M.regD (MD.go rfl (MD.nil mixed (Fnl.nodup rfl) (M.go rfl ?_)))
  rw [hw]
  exact M.ret (M.go rfl (M.done (finQ.ret [(0, 0)] rfl rfl rfl (Wk.t2 (Wk.agg ⟨Wk.rfl, Wk.rfl, Wk.rfl, Wk.rfl, Wk.rfl, Wk.rfl, Wk.rfl, Wk.nil, Wk.b1 rfl, Wk.rfl, Wk.nil, Wk.rfl, Wk.rfl, Wk.rfl, Wk.rfl, trivial⟩) (Wk.b1 rfl)) (by repeat' (first | exact True.intro | refine ⟨⟨_, _, _, rfl, rfl, rfl, WkO.rfl⟩, ?_⟩ | refine HeapOK.acc rfl rfl ?_ | refine HeapOK.es rfl rfl ?_)))))
def PMsg.rep (m : PMsg) : PRep × Int := RS.repR ⟨m.dz, i2 m.d, false⟩
def PCl.fits (c : PCl) (m : PMsg) : Prop := c.op = true ∧ m.kd = 11 ∧ m.to = 100 + c.id ∧ m.ix = c.sq
instance (c : PCl) (m : PMsg) : Decidable (c.fits m) := inferInstanceAs (Decidable (c.op = true ∧ m.kd = 11 ∧ m.to = 100 + c.id ∧ m.ix = c.sq))
def PCl.heard (c : PCl) (m : PMsg) : PCl := if c.fits m then (if m.ok = true then (if m.rep.2 = 0 then ⟨c.id, c.sq, false, c.cm, c.hint⟩ else c) else (if 0 ≤ m.hint ∧ m.hint ≤ 7 then ⟨c.id, c.sq, c.op, c.cm, m.hint⟩ else c)) else c
def PCl.hears (c : PCl) (m : PMsg) : Bool := decide (c.fits m) && (m.ok && decide (m.rep.2 = 0))
noncomputable def lClHe : {F : LF // lowerF Try.prog 65 = some F} := ⟨_, rfl⟩
theorem wkRZ : Wk (.agg zrep) PRep.zero.v := Wk.agg ⟨Wk.rfl, Wk.b1 rfl, Wk.nil, trivial⟩
theorem clhear_spec (c : PCl) (hc : c.ok) (m : PMsg) (hd : m.d.length ≤ 1000000) (hb : ∀ b ∈ m.d, b < 256) : CallS Try.prog base 65 [.c (.ptr 0 0), m.v] (hCl c) (.tup [(if c.hears m = true then m.rep.1 else PRep.zero).v, .c (.p (.bs (c.hears m)))]) (hCl (c.heard m)) := by
  have hw : IntKind.i64.wrap (100 + c.id) = 100 + c.id := wr64 (by have := hc.id; omega) (by have := hc.id; omega)
  have out : ¬ c.fits m → c.hears m = false ∧ c.heard m = c := fun h => ⟨by simp [PCl.hears, h], by rw [PCl.heard, if_neg h]⟩
  refine CallS.of noNG lClHe.2 rfl (M.start (M.go rfl ?_))
  refine M.regD (MD.go rfl ?_)
  refine MD.use (by first | exact True.intro | exact rfl) (clopen_spec c) [(0, 0)] rfl rfl rfl (by repeat' (first | exact True.intro | refine ⟨⟨_, _, _, rfl, rfl, rfl, WkO.rfl⟩, ?_⟩ | refine HeapOK.acc rfl rfl ?_ | refine HeapOK.es rfl rfl ?_)) rfl rfl (MD.go rfl ?_)
  refine MD.decB rfl rfl rfl (fun h => ?_) (fun h => ?_)
  · obtain ⟨e1, e2⟩ := out (fun f => by rw [f.1] at h; cases h)
    rw [e1, e2]
    refine MD.go rfl (MD.nil mixed (Fnl.nodup rfl) (M.go rfl ?_))
    exact M.ret (M.go rfl (M.done (finQ.ret [(0, 0)] rfl rfl rfl (Wk.t2 wkRZ (Wk.b1 rfl)) (by repeat' (first | exact True.intro | refine ⟨⟨_, _, _, rfl, rfl, rfl, WkO.rfl⟩, ?_⟩ | refine HeapOK.acc rfl rfl ?_ | refine HeapOK.es rfl rfl ?_)))))
  have ho : c.op = true := by cases e : c.op <;> simp_all
  refine MD.go rfl ?_
  refine MD.decN rfl rfl rfl (fun h => ?_) (fun h1 => ?_)
  · obtain ⟨e1, e2⟩ := out (fun f => h f.2.1)
    rw [e1, e2]
    refine MD.go rfl (MD.nil mixed (Fnl.nodup rfl) (M.go rfl ?_))
    exact M.ret (M.go rfl (M.done (finQ.ret [(0, 0)] rfl rfl rfl (Wk.t2 wkRZ (Wk.b1 rfl)) (by repeat' (first | exact True.intro | refine ⟨⟨_, _, _, rfl, rfl, rfl, WkO.rfl⟩, ?_⟩ | refine HeapOK.acc rfl rfl ?_ | refine HeapOK.es rfl rfl ?_)))))
  refine MD.go rfl ?_
  rw [hw]
  refine MD.decN rfl rfl rfl (fun h => ?_) (fun h2 => ?_)
  · obtain ⟨e1, e2⟩ := out (fun f => h f.2.2.1)
    rw [e1, e2]
    refine MD.go rfl (MD.nil mixed (Fnl.nodup rfl) (M.go rfl ?_))
    exact M.ret (M.go rfl (M.done (finQ.ret [(0, 0)] rfl rfl rfl (Wk.t2 wkRZ (Wk.b1 rfl)) (by repeat' (first | exact True.intro | refine ⟨⟨_, _, _, rfl, rfl, rfl, WkO.rfl⟩, ?_⟩ | refine HeapOK.acc rfl rfl ?_ | refine HeapOK.es rfl rfl ?_)))))
  refine MD.go rfl (MD.nil mixed (Fnl.nodup rfl) (M.go rfl ?_))
  refine M.condN rfl (fun h => ?_) (fun h3 => ?_)
  · obtain ⟨e1, e2⟩ := out (fun f => h f.2.2.2)
    rw [e1, e2]
    refine M.go rfl ?_
    exact M.ret (M.go rfl (M.done (finQ.ret [(0, 0)] rfl rfl rfl (Wk.t2 wkRZ (Wk.b1 rfl)) (by repeat' (first | exact True.intro | refine ⟨⟨_, _, _, rfl, rfl, rfl, WkO.rfl⟩, ?_⟩ | refine HeapOK.acc rfl rfl ?_ | refine HeapOK.es rfl rfl ?_)))))
  have hf : c.fits m := ⟨ho, h1, h2, h3⟩
  refine M.go rfl ?_
  refine M.condB rfl (fun h => ?_) (fun h => ?_)
  · have hno : m.ok = false := by cases e : m.ok <;> simp_all
    have e1 : c.hears m = false := by simp [PCl.hears, hno]
    have e2 : c.heard m = if 0 ≤ m.hint ∧ m.hint ≤ 7 then ⟨c.id, c.sq, c.op, c.cm, m.hint⟩ else c := by rw [PCl.heard, if_pos hf, if_neg (by rw [hno]; decide)]
    rw [show (if c.hears m = true then m.rep.1 else PRep.zero) = PRep.zero by rw [e1]; rfl, e1, e2]
    refine M.go rfl ?_
    refine M.dec rfl (fun h4 => ?_) (fun h4 => ?_)
    · refine M.go rfl ?_
      refine M.cond rfl (fun h5 => ?_) (fun h5 => ?_)
      · rw [if_pos ⟨h4, h5⟩]
        refine M.go rfl ?_
        exact M.ret (M.go rfl (M.done (finQ.ret [(0, 0)] rfl rfl rfl (Wk.t2 wkRZ (Wk.b1 rfl)) (by repeat' (first | exact True.intro | refine ⟨⟨_, _, _, rfl, rfl, rfl, WkO.rfl⟩, ?_⟩ | refine HeapOK.acc rfl rfl ?_ | refine HeapOK.es rfl rfl ?_)))))
      · rw [if_neg (fun e => h5 e.2)]
        refine M.go rfl ?_
        exact M.ret (M.go rfl (M.done (finQ.ret [(0, 0)] rfl rfl rfl (Wk.t2 wkRZ (Wk.b1 rfl)) (by repeat' (first | exact True.intro | refine ⟨⟨_, _, _, rfl, rfl, rfl, WkO.rfl⟩, ?_⟩ | refine HeapOK.acc rfl rfl ?_ | refine HeapOK.es rfl rfl ?_)))))
    · rw [if_neg (fun e => h4 e.1)]
      refine M.go rfl ?_
      exact M.ret (M.go rfl (M.done (finQ.ret [(0, 0)] rfl rfl rfl (Wk.t2 wkRZ (Wk.b1 rfl)) (by repeat' (first | exact True.intro | refine ⟨⟨_, _, _, rfl, rfl, rfl, WkO.rfl⟩, ?_⟩ | refine HeapOK.acc rfl rfl ?_ | refine HeapOK.es rfl rfl ?_)))))
  · have hyes : m.ok = true := by cases e : m.ok <;> simp_all
    refine M.go rfl ?_
    have rr := ReadReply_spec (base := base) m.dz (i2 m.d) none (by rw [i2_len]; omega) (i2_bytes hb)
    rw [u8P_i2] at rr
    refine M.use0 trivial rr rfl rfl rfl ?_
    rw [show RS.repR ⟨m.dz, i2 m.d, false⟩ = m.rep from rfl]
    refine M.go rfl ?_
    refine M.condN rfl (fun h4 => ?_) (fun h4 => ?_)
    · rw [show c.hears m = false by simp [PCl.hears, h4], show c.heard m = c by rw [PCl.heard, if_pos hf, if_pos hyes, if_neg h4]]
      refine M.go rfl ?_
      exact M.ret (M.go rfl (M.done (finQ.ret [(0, 0)] rfl rfl rfl (Wk.t2 wkRZ (Wk.b1 rfl)) (by repeat' (first | exact True.intro | refine ⟨⟨_, _, _, rfl, rfl, rfl, WkO.rfl⟩, ?_⟩ | refine HeapOK.acc rfl rfl ?_ | refine HeapOK.es rfl rfl ?_)))))
    · rw [show c.hears m = true by simp [PCl.hears, h4, hf, hyes], show c.heard m = ⟨c.id, c.sq, false, c.cm, c.hint⟩ by rw [PCl.heard, if_pos hf, if_pos hyes, if_pos h4], if_pos rfl]
      refine M.go rfl ?_
      exact M.ret (M.go rfl (M.done (finQ.ret [(0, 0)] rfl rfl rfl (Wk.t2 Wk.rfl (Wk.b1 rfl)) ⟨⟨_, _, _, rfl, rfl, rfl, WkO.row ⟨Wk.rfl, Wk.rfl, Wk.b1 rfl, Wk.rfl, Wk.rfl, Wk.rfl, Wk.rfl, Wk.rfl, trivial⟩⟩, trivial⟩)))
end Go.Proofs.Yteegdhfekemhmaa

/- delphilaw25.ClientAll. -/
namespace Go.Proofs.Yteegdhfekemhmaa
open Go.RowKit Sim Go Sym
set_option maxRecDepth 100000
set_option linter.unusedVariables false
set_option linter.unusedSimpArgs false
variable {base : Nat}
theorem begun25_spec : CallS Try.prog base 62 [] ⟨[], 0⟩ (.c (.p (.bool true))) ⟨[], 0⟩ := CallS.closed (m := 2000) mixed noNG (by kernel_rfl)
structure COp where
  kd : Int
  n : Int
  tx : List Nat
  m : PMsg
  r : PRep
def COp.cs (o : COp) : List PC := [.int .i64 o.kd, .int .i64 o.n, .str o.tx] ++ o.m.cs ++ o.r.cs
def COp.pc (o : COp) : PC := .agg o.cs
def copP (l : List COp) : List PC := l.map COp.pc
theorem copP_len (l : List COp) : (copP l).length = l.length := by simp [copP]
structure COp.raw (o : COp) : Prop where
  n : InI64 o.n
  kd : InI64 o.kd
  tx : ∀ b ∈ o.tx, b < 256
  m : o.m.raw
  er : InI64 o.r.er
  rows : o.r.rows.length ≤ 100000000000000 ∧ ∀ t ∈ o.r.rows, ∀ b ∈ t, b < 256
theorem COp.raw.rep {o : COp} (h : o.raw) : o.r.cut.good := ⟨h.er, by simp [PRep.cut]; omega, fun t ht => by
  obtain ⟨x, hx, rfl⟩ := List.mem_map.1 ht
  exact ⟨by simp; omega, fun b hb => h.rows.2 x (List.mem_of_mem_take hx) b (List.mem_of_mem_take hb)⟩⟩
/-- The message that is heard. -/
def COp.msg (o : COp) : PMsg := if 0 < o.n then ⟨o.m.kd, o.m.fr, o.m.to, o.m.tm, o.m.ix, o.m.lt, o.m.cm, true, (o.m.es.take 8).map Ent.cutM, o.m.ok, o.m.hint, o.m.cz, o.m.cf.take 9, true, n2 o.r.cut.b, o.m.off, o.m.sz, o.m.ctx⟩ else o.m.cut
theorem COp.raw.msg {o : COp} (h : o.raw) : o.msg.d.length ≤ 1000000 ∧ ∀ b ∈ o.msg.d, b < 256 := by
  unfold COp.msg
  split
  · have h1 := PRep.b_ok h.rep
    have h2 := h.rep
    have h3 := txtsB_len o.r.cut.rows (fun t ht => (h2.rows.2 t ht).1)
    have h4 : o.r.cut.rows.length ≤ 10 := by simp [PRep.cut]; omega
    have h5 := numB_len h2.er.1 h2.er.2
    have h6 : (numB (o.r.cut.rows.length : Int)).length ≤ 10 := numB_len (by omega) (by omega)
    refine ⟨?_, n2_bytes h1.1⟩
    simp only [n2_len, PRep.b, List.length_append, flagB, List.length_cons, List.length_nil]
    omega
  · exact h.m.good.d
def PCl.next (c : PCl) (o : COp) : PCl := if o.kd = 0 then (c.call o.n (o.tx.take 60)).2.2 else if o.kd = 1 then c else if o.r.er < 0 ∨ 14 < o.r.er then c else c.heard o.msg
def hCA (c : PCl) : HS := ⟨[(1, some (.row (c.cm.cs.map XC.p) true)), (0, some (.row (c.cs.map XC.p) true))], 2⟩
def eCA (c : PCl) (z : Bool) (ops : List COp) (j : Nat) : Env := [(0, .c (.p (.int .i64 c.id))), (1, .c (.p (.tz z 21 (copP ops) none))), (6, .c (.ptr 0 0)), (7, .c (.p (.int .i64 c.sq))), (8, .c (.p (.bs c.op))), (9, .c (.p (.int .i64 c.hint))), (10, .c (.ptr 1 0)), (11, .c (.p (.int .i64 j)))]
noncomputable def lCA : {F : LF // lowerF Try.prog 13 = some F} := ⟨_, rfl⟩
structure PCl.inv (c : PCl) (j : Nat) : Prop where
  ok : c.ok
  sq : c.sq ≤ j
theorem PCmd.zero_good : PCmd.zero.good := by
  have h : InI64 0 := ⟨by omega, by omega⟩
  exact ⟨⟨h, h, h⟩, by simp [PCmd.zero], fun b hb => by cases hb⟩
theorem repR_rows (r : RS) : (RS.repR r).1.rows.length ≤ 1000 := by
  have h : r.rep.1.rows.length ≤ 1000 := by
    simp only [RS.rep]
    split
    · simp [PRep.zero]
    · rename_i h
      split
      · simp [PRep.zero]
      · simp only [RS.txts_len]; omega
  unfold RS.repR
  split
  · exact h
  · simp [PRep.zero]
theorem PCl.call_id (c : PCl) (n : Int) (t : List Nat) : (c.call n t).2.2.id = c.id := by unfold PCl.call; split; rfl; split <;> rfl
theorem ca_loop (id : Int) (z : Bool) (ops : List COp) (hl : ops.length ≤ 100000000000000) (hok : ∀ o ∈ ops, o.raw) (Q : QX) (hq : Q (.exit 0) [] ⟨[], 0⟩) :
    ∀ (rest pre : List COp) (c : PCl), ops = pre ++ rest → c.inv pre.length → pre.length ≤ 40 → XH Try.prog base lCA.1.n 0 (lCA.1.c.lp 0) (eCA c z ops pre.length) (hCA c) Q := by
  intro rest
  induction rest with
  | nil =>
    intro pre c hp hc h40
    simp at hp
    subst hp
    refine M.round (M.go rfl ?_)
    refine M.dec rfl (fun h => absurd h (by rw [copP_len]; omega)) (fun h => ?_)
    refine M.go rfl ?_
    refine M.ren [] ?_ trivial rfl (by repeat' (first | exact True.intro | refine ⟨⟨_, _, rfl, rfl, Wk.rfl⟩, ?_⟩ | refine ⟨⟨_, _, accV_ren rfl, rfl, Wk.rfl⟩, ?_⟩ | refine ⟨⟨_, _, accV_ren rfl, rfl, Wk.acc0⟩, ?_⟩ | refine ⟨⟨_, _, rfl, rfl, Wk.uncap⟩, ?_⟩ | refine ⟨⟨_, _, rfl, rfl, Wk.nil⟩, ?_⟩)) (by repeat' (first | exact True.intro | refine ⟨⟨_, _, _, rfl, rfl, rfl, WkO.rfl⟩, ?_⟩ | refine HeapOK.acc rfl rfl ?_ | refine HeapOK.es rfl rfl ?_)) (e' := []) (h' := ⟨[], 0⟩)
    exact M.exit (M.go rfl (M.done hq))
  | cons o rest ih =>
    intro pre c hp hc h40
    have hlen : (copP ops).length = pre.length + (rest.length + 1) := by rw [copP_len, hp]; simp
    have hu : (copP ops)[((pre.length : Int)).toNat]? = some o.pc := by rw [hp]; exact at_app _ _ _ _
    have ho := hok o (by rw [hp]; simp)
    refine M.round (M.go rfl ?_)
    refine M.dec rfl (fun _ => ?_) (fun h => absurd (by omega) h)
    refine M.go rfl ?_
    refine M.cond rfl (fun h40 => ?_) (fun h => ?_)
    rotate_left
    · refine M.go rfl ?_
      refine M.ren [] ?_ trivial rfl (by repeat' (first | exact True.intro | refine ⟨⟨_, _, rfl, rfl, Wk.rfl⟩, ?_⟩ | refine ⟨⟨_, _, accV_ren rfl, rfl, Wk.rfl⟩, ?_⟩ | refine ⟨⟨_, _, accV_ren rfl, rfl, Wk.acc0⟩, ?_⟩ | refine ⟨⟨_, _, rfl, rfl, Wk.uncap⟩, ?_⟩ | refine ⟨⟨_, _, rfl, rfl, Wk.nil⟩, ?_⟩)) (by repeat' (first | exact True.intro | refine ⟨⟨_, _, _, rfl, rfl, rfl, WkO.rfl⟩, ?_⟩ | refine HeapOK.acc rfl rfl ?_ | refine HeapOK.es rfl rfl ?_)) (e' := []) (h' := ⟨[], 0⟩)
      exact M.exit (M.go rfl (M.done hq))
    refine M.go rfl ?_
    refine M.op trivial (SOp.ia rfl rfl (by omega) hu) ?_
    refine M.op trivial (SOp.ldne rfl hu rfl rfl rfl) ?_
    refine M.go rfl ?_
    refine M.use0 trivial (cutS_spec o.tx 60) rfl rfl rfl ?_
    refine M.goN 11 rfl ?_
    have hidw : IntKind.i64.wrap (100 + c.id) = 100 + c.id := wr64 (by have := hc.ok.id; omega) (by have := hc.ok.id; omega)
    have hsqw : IntKind.i64.wrap (c.sq + 1) = c.sq + 1 := wr64 (by have := hc.ok.sq; omega) (by have := hc.ok.sq; omega)
    have hw2 : IntKind.i64.wrap ((pre.length : Int) + 1) = ((pre ++ [o]).length : Int) := by rw [wr64 (by omega) (by omega)]; simp
    have hmr := ho.m
    have cutm := CutMsg_spec (base := base) o.m hmr.es.1 hmr.cf.1
    have cutr := CutReply_spec (base := base) o.r ho.rows.1
    by_cases hsk : o.kd ≠ 0 ∧ o.kd ≠ 1 ∧ (o.r.er < 0 ∨ 14 < o.r.er)
    · refine M.go rfl ?_
      refine M.cond rfl (fun h => absurd h hsk.1) (fun _ => ?_)
      refine M.go rfl ?_
      refine M.cond rfl (fun h => absurd h hsk.2.1) (fun _ => ?_)
      refine M.go rfl ?_
      refine M.use0 trivial cutm rfl rfl rfl ?_
      refine M.go rfl ?_
      refine M.use0 trivial cutr rfl rfl rfl ?_
      refine M.go rfl ?_
      have hn : c.next o = c := by rw [PCl.next, if_neg hsk.1, if_neg hsk.2.1, if_pos hsk.2.2]
      have fin := ih (pre ++ [o]) c (by rw [hp]; simp) ⟨hc.ok, by have := hc.sq; simp; omega⟩ (by simp; omega)
      refine M.dec rfl (fun h => ?_) (fun h => ?_)
      · refine M.go rfl ?_
        refine M.exit (M.go rfl ?_)
        rw [hw2]
        exact M.again (XH.ren [(0, 0), (1, 1)] fin rfl (by repeat' (first | exact True.intro | refine ⟨⟨_, _, rfl, rfl, Wk.rfl⟩, ?_⟩ | refine ⟨⟨_, _, accV_ren rfl, rfl, Wk.rfl⟩, ?_⟩ | refine ⟨⟨_, _, accV_ren rfl, rfl, Wk.acc0⟩, ?_⟩ | refine ⟨⟨_, _, rfl, rfl, Wk.uncap⟩, ?_⟩ | refine ⟨⟨_, _, rfl, rfl, Wk.nil⟩, ?_⟩)) (by repeat' (first | exact True.intro | refine ⟨⟨_, _, _, rfl, rfl, rfl, WkO.rfl⟩, ?_⟩ | refine HeapOK.acc rfl rfl ?_ | refine HeapOK.es rfl rfl ?_)))
      · refine M.go rfl ?_
        refine M.cond rfl (fun h2 => ?_) (fun h2 => absurd hsk.2.2 (by
          rintro (h3 | h3)
          · exact h h3
          · exact h2 h3))
        refine M.go rfl ?_
        refine M.exit (M.go rfl ?_)
        rw [hw2]
        exact M.again (XH.ren [(0, 0), (1, 1)] fin rfl (by repeat' (first | exact True.intro | refine ⟨⟨_, _, rfl, rfl, Wk.rfl⟩, ?_⟩ | refine ⟨⟨_, _, accV_ren rfl, rfl, Wk.rfl⟩, ?_⟩ | refine ⟨⟨_, _, accV_ren rfl, rfl, Wk.acc0⟩, ?_⟩ | refine ⟨⟨_, _, rfl, rfl, Wk.uncap⟩, ?_⟩ | refine ⟨⟨_, _, rfl, rfl, Wk.nil⟩, ?_⟩)) (by repeat' (first | exact True.intro | refine ⟨⟨_, _, _, rfl, rfl, rfl, WkO.rfl⟩, ?_⟩ | refine HeapOK.acc rfl rfl ?_ | refine HeapOK.es rfl rfl ?_)))
    obtain ⟨c', hc'⟩ : ∃ c', c' = c.next o := ⟨_, rfl⟩
    have hid : c'.id = c.id := by
      rw [hc', PCl.next]
      split
      · exact PCl.call_id _ _ _
      · split
        · rfl
        · split
          · rfl
          · rw [PCl.heard]; split
            · split
              · split <;> rfl
              · split <;> rfl
            · rfl
    have hinv : c'.inv (pre ++ [o]).length := by
      have h1 := hc.ok.id
      have h2 := hc.ok.sq
      have h3 := hc.sq
      have h4 := hc.ok.cm
      have h5 : (pre ++ [o]).length = pre.length + 1 := by simp
      have keep : c.inv (pre.length + 1) := ⟨hc.ok, by omega⟩
      rw [h5, hc', PCl.next]
      split
      · rw [PCl.call]
        split
        · exact keep
        · split
          · exact ⟨⟨h1, by simp only; omega, ⟨ho.n, by simp only [PCl.want, InI64]; omega, by simp only [PCl.want, InI64]; omega⟩, by simp [PCl.want]; omega, fun b hb => ho.tx b (List.mem_of_mem_take hb)⟩, by simp only; omega⟩
          · exact keep
      · split
        · exact keep
        · split
          · exact keep
          · rw [PCl.heard]; split
            · split
              · split
                · exact ⟨⟨h1, h2, h4⟩, by simp only; omega⟩
                · exact keep
              · split
                · exact ⟨⟨h1, h2, h4⟩, by simp only; omega⟩
                · exact keep
            · exact keep
    refine M.midV (eCA c' z ops pre.length) (hCA c') ?_ ?_
    rotate_left
    · refine M.go rfl ?_
      refine M.use (by first | exact True.intro | exact rfl) (clopen_spec c') [(0, 0)] rfl rfl rfl (by repeat' (first | exact True.intro | refine ⟨⟨_, _, _, rfl, rfl, rfl, WkO.rfl⟩, ?_⟩ | refine HeapOK.acc rfl rfl ?_ | refine HeapOK.es rfl rfl ?_)) rfl rfl ?_
      refine M.go rfl ?_
      refine M.decB rfl (fun h => by simp at h) (fun _ => ?_)
      refine M.go rfl ?_
      refine M.use (by first | exact True.intro | exact rfl) (clhint_spec c') [(0, 0)] rfl rfl rfl (by repeat' (first | exact True.intro | refine ⟨⟨_, _, _, rfl, rfl, rfl, WkO.rfl⟩, ?_⟩ | refine HeapOK.acc rfl rfl ?_ | refine HeapOK.es rfl rfl ?_)) rfl rfl ?_
      refine M.go rfl ?_
      refine M.condN rfl (fun h => absurd rfl h) (fun _ => ?_)
      refine M.go rfl ?_
      rw [hw2]
      exact M.again (XH.ren [(0, 0), (1, 1)] (ih (pre ++ [o]) c' (by rw [hp]; simp) hinv (by simp; omega)) rfl (by repeat' (first | exact True.intro | refine ⟨⟨_, _, rfl, rfl, Wk.rfl⟩, ?_⟩ | refine ⟨⟨_, _, accV_ren rfl, rfl, Wk.rfl⟩, ?_⟩ | refine ⟨⟨_, _, accV_ren rfl, rfl, Wk.acc0⟩, ?_⟩ | refine ⟨⟨_, _, rfl, rfl, Wk.uncap⟩, ?_⟩ | refine ⟨⟨_, _, rfl, rfl, Wk.nil⟩, ?_⟩)) (by repeat' (first | exact True.intro | refine ⟨⟨_, _, _, rfl, rfl, rfl, WkO.rfl⟩, ?_⟩ | refine HeapOK.acc rfl rfl ?_ | refine HeapOK.es rfl rfl ?_)))
    rw [show eCA c' z ops pre.length = [(0, .c (.p (.int .i64 c.id))), (1, .c (.p (.tz z 21 (copP ops) none))), (6, .c (.ptr 0 0)), (7, .c (.p (.int .i64 c'.sq))), (8, .c (.p (.bs c'.op))), (9, .c (.p (.int .i64 c'.hint))), (10, .c (.ptr 1 0)), (11, .c (.p (.int .i64 pre.length)))] by rw [eCA, hid]]
    refine M.go rfl ?_
    refine M.cond rfl (fun h0 => ?_) (fun h0 => ?_)
    · have hn : c' = (c.call o.n (o.tx.take 60)).2.2 := by rw [hc', PCl.next, if_pos h0]
      have hcall := clcall_spec (base := base) c hc.ok o.n (o.tx.take 60)
      have hrm := crmay_spec (base := base) (c.want o.n (o.tx.take 60))
      by_cases hop : c.op = true
      · rw [show c.call o.n (o.tx.take 60) = (PCmd.zero, 13, c) from if_pos hop] at hcall hn
        subst hn
        refine M.go rfl ?_
        refine M.use (by first | exact True.intro | exact rfl) (hcall) [(0, 0)] rfl rfl rfl (by repeat' (first | exact True.intro | refine ⟨⟨_, _, _, rfl, rfl, rfl, WkO.rfl⟩, ?_⟩ | refine HeapOK.acc rfl rfl ?_ | refine HeapOK.es rfl rfl ?_)) rfl rfl ?_
        refine M.go rfl ?_
        refine M.condB rfl (fun _ => ?_) (fun h => by rw [hop] at h; cases h)
        refine M.go rfl ?_
        refine M.condN rfl (fun h => absurd rfl h) (fun _ => ?_)
        refine M.go rfl ?_
        exact M.done ⟨rfl, Sh.ren [(0, 0), (1, 1)] rfl (by repeat' (first | exact True.intro | refine ⟨⟨_, _, rfl, rfl, Wk.rfl⟩, ?_⟩ | refine ⟨⟨_, _, accV_ren rfl, rfl, Wk.rfl⟩, ?_⟩ | refine ⟨⟨_, _, accV_ren rfl, rfl, Wk.acc0⟩, ?_⟩ | refine ⟨⟨_, _, rfl, rfl, Wk.uncap⟩, ?_⟩ | refine ⟨⟨_, _, rfl, rfl, Wk.nil⟩, ?_⟩)) (by repeat' (first | exact True.intro | refine ⟨⟨_, _, _, rfl, rfl, rfl, WkO.rfl⟩, ?_⟩ | refine HeapOK.acc rfl rfl ?_ | refine HeapOK.es rfl rfl ?_))⟩
      · by_cases hm : (c.want o.n (o.tx.take 60)).may = true
        · have e1 : c.call o.n (o.tx.take 60) = (c.want o.n (o.tx.take 60), 0, ⟨c.id, c.sq + 1, true, c.want o.n (o.tx.take 60), c.hint⟩) := by rw [PCl.call, if_neg hop, if_pos hm]
          rw [e1] at hcall hn
          subst hn
          rw [hm] at hrm
          refine M.go rfl ?_
          refine M.use (by first | exact True.intro | exact rfl) (hcall) [(0, 0)] rfl rfl rfl (by repeat' (first | exact True.intro | refine ⟨⟨_, _, _, rfl, rfl, rfl, WkO.rfl⟩, ?_⟩ | refine HeapOK.acc rfl rfl ?_ | refine HeapOK.es rfl rfl ?_)) rfl rfl ?_
          refine M.go rfl ?_
          rw [hsqw]
          refine M.condB rfl (fun h => absurd h hop) (fun _ => ?_)
          refine M.go rfl ?_
          refine M.use0 trivial hrm rfl rfl rfl ?_
          refine M.go rfl ?_
          refine M.condB rfl (fun h => by cases h) (fun _ => ?_)
          refine M.go rfl ?_
          refine M.decN rfl (fun h => absurd rfl h) (fun _ => ?_)
          refine M.go rfl ?_
          refine M.decN rfl (fun h => absurd rfl h) (fun _ => ?_)
          refine M.go rfl ?_
          refine M.decN rfl (fun h => absurd rfl h) (fun _ => ?_)
          refine M.go rfl ?_
          refine M.decN rfl (fun h => absurd rfl h) (fun _ => ?_)
          refine M.go rfl ?_
          refine M.condB rfl (fun h => absurd h (by simp [eqL_iff, PCl.want])) (fun _ => ?_)
          refine M.go rfl ?_
          refine M.regD (MD.go rfl (MD.nil mixed (Fnl.nodup rfl) (M.go rfl ?_)))
          rw [hsqw]
          exact M.done ⟨rfl, Sh.ren [(0, 0), (1, 1)] rfl (by repeat' (first | exact True.intro | refine ⟨⟨_, _, rfl, rfl, Wk.rfl⟩, ?_⟩ | refine ⟨⟨_, _, rfl, rfl, Wk.b1 rfl⟩, ?_⟩ | refine ⟨⟨_, _, rfl, rfl, Wk.nil⟩, ?_⟩)) (by repeat' (first | exact True.intro | refine ⟨⟨_, _, _, rfl, rfl, rfl, WkO.rfl⟩, ?_⟩ | refine HeapOK.acc rfl rfl ?_ | refine HeapOK.es rfl rfl ?_))⟩
        · have e1 : c.call o.n (o.tx.take 60) = (PCmd.zero, 3, c) := by rw [PCl.call, if_neg hop, if_neg hm]
          have hm' : (c.want o.n (o.tx.take 60)).may = false := by cases e : (c.want o.n (o.tx.take 60)).may with
            | true => exact absurd e hm
            | false => rfl
          rw [hm'] at hrm
          rw [e1] at hcall hn
          subst hn
          refine M.go rfl ?_
          refine M.use (by first | exact True.intro | exact rfl) (hcall) [(0, 0)] rfl rfl rfl (by repeat' (first | exact True.intro | refine ⟨⟨_, _, _, rfl, rfl, rfl, WkO.rfl⟩, ?_⟩ | refine HeapOK.acc rfl rfl ?_ | refine HeapOK.es rfl rfl ?_)) rfl rfl ?_
          refine M.go rfl ?_
          rw [hsqw]
          refine M.condB rfl (fun h => absurd h hop) (fun _ => ?_)
          refine M.go rfl ?_
          refine M.use0 trivial hrm rfl rfl rfl ?_
          refine M.go rfl ?_
          refine M.condB rfl (fun _ => ?_) (fun h => by cases h)
          refine M.go rfl ?_
          refine M.condN rfl (fun h => absurd rfl h) (fun _ => ?_)
          refine M.go rfl ?_
          exact M.done ⟨rfl, Sh.ren [(0, 0), (1, 1)] rfl (by repeat' (first | exact True.intro | refine ⟨⟨_, _, rfl, rfl, Wk.rfl⟩, ?_⟩ | refine ⟨⟨_, _, accV_ren rfl, rfl, Wk.rfl⟩, ?_⟩ | refine ⟨⟨_, _, accV_ren rfl, rfl, Wk.acc0⟩, ?_⟩ | refine ⟨⟨_, _, rfl, rfl, Wk.uncap⟩, ?_⟩ | refine ⟨⟨_, _, rfl, rfl, Wk.nil⟩, ?_⟩)) (by repeat' (first | exact True.intro | refine ⟨⟨_, _, _, rfl, rfl, rfl, WkO.rfl⟩, ?_⟩ | refine HeapOK.acc rfl rfl ?_ | refine HeapOK.es rfl rfl ?_))⟩
    refine M.go rfl ?_
    refine M.cond rfl (fun h1 => ?_) (fun h1 => ?_)
    · have hn : c' = c := by rw [hc', PCl.next, if_neg h0, if_pos h1]
      subst hn
      have hask := clask_spec (base := base) c' hc.ok o.n
      have henc := PCmd.enc_ok hc.ok.cm
      by_cases hq : c'.op = true ∧ 1 ≤ o.n ∧ o.n ≤ 7
      · rw [show c'.ask o.n = (⟨10, 100 + c'.id, o.n, 0, c'.sq, 0, 0, true, [], false, 0, true, [], true, n2 c'.cm.enc.1, 0, 0, 0⟩, true) from if_pos hq] at hask
        refine M.go rfl ?_
        refine M.use (by first | exact True.intro | exact rfl) (hask) [(0, 0)] rfl rfl rfl (by repeat' (first | exact True.intro | refine ⟨⟨_, _, _, rfl, rfl, rfl, WkO.rfl⟩, ?_⟩ | refine HeapOK.acc rfl rfl ?_ | refine HeapOK.es rfl rfl ?_)) rfl rfl ?_
        refine M.go rfl ?_
        refine M.decB rfl (fun _ => ?_) (fun h => by rw [hq.1] at h; cases h)
        refine M.go rfl ?_
        refine M.dec rfl (fun _ => ?_) (fun h => absurd hq.2.1 h)
        refine M.go rfl ?_
        refine M.condB rfl (fun h => by simp [hq.2.2] at h) (fun _ => ?_)
        refine M.go rfl ?_
        refine M.condB rfl (fun _ => ?_) (fun h => by cases h)
        refine M.go rfl ?_
        refine M.use0 trivial (enc_spec c'.cm hc.ok.cm) rfl rfl rfl ?_
        refine M.go rfl ?_
        refine M.decN rfl (fun h => absurd rfl h) (fun _ => ?_)
        refine M.go rfl ?_
        rw [hidw]
        refine M.decN rfl (fun h => absurd rfl h) (fun _ => ?_)
        refine M.go rfl ?_
        refine M.decN rfl (fun h => absurd rfl h) (fun _ => ?_)
        refine M.go rfl ?_
        refine M.decN rfl (fun h => absurd rfl h) (fun _ => ?_)
        refine M.go rfl ?_
        refine M.op rfl (SOp.cvBS rfl (bytesX_map (n2_bytes henc.1))) ?_
        refine M.go rfl ?_
        refine M.op rfl (SOp.cvBS rfl (bytes_u8 henc.1)) ?_
        refine M.go rfl ?_
        refine M.condB rfl (fun h => absurd h (by simp [eqL_iff, PCl.want])) (fun _ => ?_)
        refine M.go rfl ?_
        exact M.done ⟨rfl, Sh.ren [(0, 0), (1, 1)] rfl (by repeat' (first | exact True.intro | refine ⟨⟨_, _, rfl, rfl, Wk.rfl⟩, ?_⟩ | refine ⟨⟨_, _, accV_ren rfl, rfl, Wk.rfl⟩, ?_⟩ | refine ⟨⟨_, _, accV_ren rfl, rfl, Wk.acc0⟩, ?_⟩ | refine ⟨⟨_, _, rfl, rfl, Wk.uncap⟩, ?_⟩ | refine ⟨⟨_, _, rfl, rfl, Wk.nil⟩, ?_⟩)) (by repeat' (first | exact True.intro | refine ⟨⟨_, _, _, rfl, rfl, rfl, WkO.rfl⟩, ?_⟩ | refine HeapOK.acc rfl rfl ?_ | refine HeapOK.es rfl rfl ?_))⟩
      · rw [show c'.ask o.n = (PMsg.zero, false) from if_neg hq] at hask
        refine M.go rfl ?_
        refine M.use (by first | exact True.intro | exact rfl) (hask) [(0, 0)] rfl rfl rfl (by repeat' (first | exact True.intro | refine ⟨⟨_, _, _, rfl, rfl, rfl, WkO.rfl⟩, ?_⟩ | refine HeapOK.acc rfl rfl ?_ | refine HeapOK.es rfl rfl ?_)) rfl rfl ?_
        refine M.go rfl ?_
        refine M.decB rfl (fun h2 => ?_) (fun h2 => ?_)
        · refine M.go rfl ?_
          refine M.dec rfl (fun h3 => ?_) (fun h3 => ?_)
          · refine M.go rfl ?_
            refine M.condB rfl (fun h => by have : ¬ o.n ≤ 7 := fun h4 => hq ⟨h2, h3, h4⟩; simp [this] at h) (fun _ => ?_)
            refine M.go rfl ?_
            refine M.condB rfl (fun h => by cases h) (fun _ => ?_)
            refine M.go rfl ?_
            exact M.done ⟨rfl, Sh.ren [(0, 0), (1, 1)] rfl (by repeat' (first | exact True.intro | refine ⟨⟨_, _, rfl, rfl, Wk.rfl⟩, ?_⟩ | refine ⟨⟨_, _, accV_ren rfl, rfl, Wk.rfl⟩, ?_⟩ | refine ⟨⟨_, _, accV_ren rfl, rfl, Wk.acc0⟩, ?_⟩ | refine ⟨⟨_, _, rfl, rfl, Wk.uncap⟩, ?_⟩ | refine ⟨⟨_, _, rfl, rfl, Wk.nil⟩, ?_⟩)) (by repeat' (first | exact True.intro | refine ⟨⟨_, _, _, rfl, rfl, rfl, WkO.rfl⟩, ?_⟩ | refine HeapOK.acc rfl rfl ?_ | refine HeapOK.es rfl rfl ?_))⟩
          · refine M.go rfl ?_
            refine M.condB rfl (fun h => by cases h) (fun _ => ?_)
            refine M.go rfl ?_
            refine M.condB rfl (fun h => by cases h) (fun _ => ?_)
            refine M.go rfl ?_
            exact M.done ⟨rfl, Sh.ren [(0, 0), (1, 1)] rfl (by repeat' (first | exact True.intro | refine ⟨⟨_, _, rfl, rfl, Wk.rfl⟩, ?_⟩ | refine ⟨⟨_, _, accV_ren rfl, rfl, Wk.rfl⟩, ?_⟩ | refine ⟨⟨_, _, accV_ren rfl, rfl, Wk.acc0⟩, ?_⟩ | refine ⟨⟨_, _, rfl, rfl, Wk.uncap⟩, ?_⟩ | refine ⟨⟨_, _, rfl, rfl, Wk.nil⟩, ?_⟩)) (by repeat' (first | exact True.intro | refine ⟨⟨_, _, _, rfl, rfl, rfl, WkO.rfl⟩, ?_⟩ | refine HeapOK.acc rfl rfl ?_ | refine HeapOK.es rfl rfl ?_))⟩
        · refine M.go rfl ?_
          refine M.condB rfl (fun h => by cases h) (fun _ => ?_)
          refine M.go rfl ?_
          refine M.condB rfl (fun h => by cases h) (fun _ => ?_)
          refine M.go rfl ?_
          exact M.done ⟨rfl, Sh.ren [(0, 0), (1, 1)] rfl (by repeat' (first | exact True.intro | refine ⟨⟨_, _, rfl, rfl, Wk.rfl⟩, ?_⟩ | refine ⟨⟨_, _, accV_ren rfl, rfl, Wk.rfl⟩, ?_⟩ | refine ⟨⟨_, _, accV_ren rfl, rfl, Wk.acc0⟩, ?_⟩ | refine ⟨⟨_, _, rfl, rfl, Wk.uncap⟩, ?_⟩ | refine ⟨⟨_, _, rfl, rfl, Wk.nil⟩, ?_⟩)) (by repeat' (first | exact True.intro | refine ⟨⟨_, _, _, rfl, rfl, rfl, WkO.rfl⟩, ?_⟩ | refine HeapOK.acc rfl rfl ?_ | refine HeapOK.es rfl rfl ?_))⟩
    have her : ¬ (o.r.er < 0 ∨ 14 < o.r.er) := fun h => hsk ⟨h0, h1, h⟩
    have hn : c' = c.heard o.msg := by rw [hc', PCl.next, if_neg h0, if_neg h1, if_neg her]
    refine M.go rfl ?_
    refine M.use0 trivial cutm rfl rfl rfl ?_
    refine M.go rfl ?_
    refine M.use0 trivial cutr rfl rfl rfl ?_
    refine M.go rfl ?_
    refine M.dec rfl (fun h => absurd (.inl h) her) (fun _ => ?_)
    refine M.go rfl ?_
    refine M.cond rfl (fun h => absurd (.inr h) her) (fun _ => ?_)
    refine M.goN 3 rfl ?_
    obtain ⟨m, hm⟩ : ∃ m, m = o.msg := ⟨_, rfl⟩
    have hmd := ho.msg
    rw [← hm] at hmd hn
    refine M.midV [(0, .c (.p (.int .i64 c.id))), (1, .c (.p (.tz z 21 (copP ops) none))), (6, .c (.ptr 0 0)), (7, .c (.p (.int .i64 c.sq))), (8, .c (.p (.bs c.op))), (9, .c (.p (.int .i64 c.hint))), (10, .c (.ptr 1 0)), (11, .c (.p (.int .i64 pre.length))), (20, .c (.ptr 2 0))] ⟨[(2, some (.row (m.cs.map XC.p) true)), (1, some (.row (c.cm.cs.map XC.p) true)), (0, some (.row (c.cs.map XC.p) true))], 3⟩ ?_ ?_
    · refine M.go rfl ?_
      refine M.cond rfl (fun hpos => ?_) (fun hpos => ?_)
      · refine M.go rfl ?_
        refine M.use0 trivial (Reply_spec o.r.cut ho.rep) rfl rfl rfl ?_
        rw [u8P_n2 (PRep.b_ok ho.rep).1]
        refine M.go rfl ?_
        rw [hm, COp.msg, if_pos hpos]
        exact M.done ⟨rfl, Sh.ren [(0, 0), (1, 1), (2, 3)] rfl (by repeat' (first | exact True.intro | refine ⟨⟨_, _, rfl, rfl, Wk.rfl⟩, ?_⟩ | refine ⟨⟨_, _, accV_ren rfl, rfl, Wk.rfl⟩, ?_⟩ | refine ⟨⟨_, _, accV_ren rfl, rfl, Wk.acc0⟩, ?_⟩ | refine ⟨⟨_, _, rfl, rfl, Wk.uncap⟩, ?_⟩ | refine ⟨⟨_, _, rfl, rfl, Wk.nil⟩, ?_⟩)) (by repeat' (first | exact True.intro | refine ⟨⟨_, _, _, rfl, rfl, rfl, WkO.rfl⟩, ?_⟩ | refine HeapOK.acc rfl rfl ?_ | refine HeapOK.es rfl rfl ?_))⟩
      · refine M.go rfl ?_
        rw [hm, COp.msg, if_neg hpos]
        exact M.done ⟨rfl, Sh.ren [(0, 0), (1, 1), (2, 3)] rfl (by repeat' (first | exact True.intro | refine ⟨⟨_, _, rfl, rfl, Wk.rfl⟩, ?_⟩ | refine ⟨⟨_, _, accV_ren rfl, rfl, Wk.rfl⟩, ?_⟩ | refine ⟨⟨_, _, accV_ren rfl, rfl, Wk.acc0⟩, ?_⟩ | refine ⟨⟨_, _, rfl, rfl, Wk.uncap⟩, ?_⟩ | refine ⟨⟨_, _, rfl, rfl, Wk.nil⟩, ?_⟩)) (by repeat' (first | exact True.intro | refine ⟨⟨_, _, _, rfl, rfl, rfl, WkO.rfl⟩, ?_⟩ | refine HeapOK.acc rfl rfl ?_ | refine HeapOK.es rfl rfl ?_))⟩
    refine M.go rfl ?_
    have rr := ReadReply_spec (base := base) m.dz (i2 m.d) none (by rw [i2_len]; omega) (i2_bytes hmd.2)
    rw [u8P_i2, show RS.repR ⟨m.dz, i2 m.d, false⟩ = m.rep from rfl] at rr
    have hrl : m.rep.1.rows.length ≤ 1000 := repR_rows _
    have hhear := clhear_spec (base := base) c hc.ok m hmd.1 hmd.2
    refine M.use0 trivial rr rfl rfl rfl ?_
    refine M.goN 9 rfl ?_
    refine M.midV [(0, .c (.p (.int .i64 c.id))), (1, .c (.p (.tz z 21 (copP ops) none))), (6, .c (.ptr 0 0)), (7, .c (.p (.int .i64 c.sq))), (8, .c (.p (.bs c.op))), (9, .c (.p (.int .i64 c.hint))), (10, .c (.ptr 1 0)), (11, .c (.p (.int .i64 pre.length))), (20, .c (.ptr 2 0)), (23, .c (.p (.int .i64 m.rep.2))), (24, .c (.p (.bs (decide (c.fits m)))))] ⟨[(2, some (.row (m.cs.map XC.p) true)), (1, some (.row (c.cm.cs.map XC.p) true)), (0, some (.row (c.cs.map XC.p) true))], 3⟩ ?_ ?_
    · refine M.go rfl ?_
      refine M.dec rfl (fun g1 => ?_) (fun g1 => ?_)
      rotate_left
      · rw [decide_eq_false (p := c.fits m) (fun f => g1 f.2.1)]
        refine M.go rfl ?_
        exact M.done ⟨rfl, Sh.ren [(0, 0), (1, 1), (2, 2)] rfl (by repeat' (first | exact True.intro | refine ⟨⟨_, _, rfl, rfl, Wk.rfl⟩, ?_⟩ | refine ⟨⟨_, _, rfl, rfl, Wk.b1 rfl⟩, ?_⟩ | refine ⟨⟨_, _, rfl, rfl, Wk.nil⟩, ?_⟩)) (by repeat' (first | exact True.intro | refine ⟨⟨_, _, _, rfl, rfl, rfl, WkO.rfl⟩, ?_⟩ | refine HeapOK.acc rfl rfl ?_ | refine HeapOK.es rfl rfl ?_))⟩
      refine M.go rfl ?_
      rw [hidw]
      refine M.dec rfl (fun g2 => ?_) (fun g2 => ?_)
      rotate_left
      · rw [decide_eq_false (p := c.fits m) (fun f => g2 f.2.2.1)]
        refine M.go rfl ?_
        exact M.done ⟨rfl, Sh.ren [(0, 0), (1, 1), (2, 2)] rfl (by repeat' (first | exact True.intro | refine ⟨⟨_, _, rfl, rfl, Wk.rfl⟩, ?_⟩ | refine ⟨⟨_, _, rfl, rfl, Wk.b1 rfl⟩, ?_⟩ | refine ⟨⟨_, _, rfl, rfl, Wk.nil⟩, ?_⟩)) (by repeat' (first | exact True.intro | refine ⟨⟨_, _, _, rfl, rfl, rfl, WkO.rfl⟩, ?_⟩ | refine HeapOK.acc rfl rfl ?_ | refine HeapOK.es rfl rfl ?_))⟩
      refine M.go rfl ?_
      refine M.decB rfl (fun g3 => ?_) (fun g3 => ?_)
      rotate_left
      · rw [decide_eq_false (p := c.fits m) (fun f => by rw [f.1] at g3; cases g3)]
        refine M.go rfl ?_
        exact M.done ⟨rfl, Sh.ren [(0, 0), (1, 1), (2, 2)] rfl (by repeat' (first | exact True.intro | refine ⟨⟨_, _, rfl, rfl, Wk.rfl⟩, ?_⟩ | refine ⟨⟨_, _, rfl, rfl, Wk.b1 rfl⟩, ?_⟩ | refine ⟨⟨_, _, rfl, rfl, Wk.nil⟩, ?_⟩)) (by repeat' (first | exact True.intro | refine ⟨⟨_, _, _, rfl, rfl, rfl, WkO.rfl⟩, ?_⟩ | refine HeapOK.acc rfl rfl ?_ | refine HeapOK.es rfl rfl ?_))⟩
      refine M.go rfl ?_
      rw [show decide (c.fits m) = decide (m.ix = c.sq) from decide_eq_decide.2 ⟨fun f => f.2.2.2, fun f => ⟨g3, g1, g2, f⟩⟩]
      exact M.done ⟨rfl, Sh.ren [(0, 0), (1, 1), (2, 2)] rfl (by repeat' (first | exact True.intro | refine ⟨⟨_, _, rfl, rfl, Wk.rfl⟩, ?_⟩ | refine ⟨⟨_, _, rfl, rfl, Wk.b1 rfl⟩, ?_⟩ | refine ⟨⟨_, _, rfl, rfl, Wk.nil⟩, ?_⟩)) (by repeat' (first | exact True.intro | refine ⟨⟨_, _, _, rfl, rfl, rfl, WkO.rfl⟩, ?_⟩ | refine HeapOK.acc rfl rfl ?_ | refine HeapOK.es rfl rfl ?_))⟩
    by_cases hf : c.fits m
    · by_cases hmk : m.ok = true
      · by_cases he : m.rep.2 = 0
        · have e1 : c.hears m = true := by simp [PCl.hears, he, hf, hmk]
          have e2 : c.heard m = ⟨c.id, c.sq, false, c.cm, c.hint⟩ := by rw [PCl.heard, if_pos hf, if_pos hmk, if_pos he]
          rw [show (if c.hears m = true then m.rep.1 else PRep.zero) = m.rep.1 from if_pos e1, e1, e2] at hhear
          rw [e2] at hn
          rw [decide_eq_true hf]
          subst hn
          refine M.go rfl ?_
          refine M.use (by first | exact True.intro | exact rfl) (hhear) [(0, 0)] rfl rfl rfl (by repeat' (first | exact True.intro | refine ⟨⟨_, _, _, rfl, rfl, rfl, WkO.rfl⟩, ?_⟩ | refine HeapOK.acc rfl rfl ?_ | refine HeapOK.es rfl rfl ?_)) rfl rfl ?_
          refine M.go rfl ?_
          refine M.decB rfl (fun _ => ?_) (fun h => by cases h)
          refine M.go rfl ?_
          refine M.decB rfl (fun _ => ?_) (fun h => by rw [hmk] at h; cases h)
          refine M.go rfl ?_
          refine M.condB rfl (fun h => by simp [he] at h) (fun _ => ?_)
          refine M.go rfl ?_
          refine M.condB rfl (fun _ => ?_) (fun h => by cases h)
          refine M.go rfl ?_
          refine M.use0 trivial rr rfl rfl rfl ?_
          refine M.go rfl ?_
          refine M.use0 trivial (EqReply_spec m.rep.1 (by omega)) rfl rfl rfl ?_
          refine M.go rfl ?_
          refine M.decB rfl (fun _ => ?_) (fun h => by cases h)
          refine M.go rfl ?_
          refine M.decB rfl (fun h => by rw [hmk] at h; cases h) (fun _ => ?_)
          refine M.go rfl ?_
          exact M.done ⟨rfl, Sh.ren [(0, 0), (1, 1)] rfl (by repeat' (first | exact True.intro | refine ⟨⟨_, _, rfl, rfl, Wk.rfl⟩, ?_⟩ | refine ⟨⟨_, _, rfl, rfl, Wk.b1 rfl⟩, ?_⟩ | refine ⟨⟨_, _, rfl, rfl, Wk.nil⟩, ?_⟩)) (by repeat' (first | exact True.intro | refine ⟨⟨_, _, _, rfl, rfl, rfl, WkO.rfl⟩, ?_⟩ | refine HeapOK.acc rfl rfl ?_ | refine HeapOK.es rfl rfl ?_))⟩
        · have e1 : c.hears m = false := by simp [PCl.hears, he]
          have e2 : c.heard m = c := by rw [PCl.heard, if_pos hf, if_pos hmk, if_neg he]
          rw [show (if c.hears m = true then m.rep.1 else PRep.zero) = PRep.zero by rw [e1]; rfl, e1, e2] at hhear
          rw [e2] at hn
          rw [decide_eq_true hf]
          subst hn
          refine M.go rfl ?_
          refine M.use (by first | exact True.intro | exact rfl) (hhear) [(0, 0)] rfl rfl rfl (by repeat' (first | exact True.intro | refine ⟨⟨_, _, _, rfl, rfl, rfl, WkO.rfl⟩, ?_⟩ | refine HeapOK.acc rfl rfl ?_ | refine HeapOK.es rfl rfl ?_)) rfl rfl ?_
          refine M.go rfl ?_
          refine M.decB rfl (fun _ => ?_) (fun h => by cases h)
          refine M.go rfl ?_
          refine M.decB rfl (fun _ => ?_) (fun h => by rw [hmk] at h; cases h)
          refine M.go rfl ?_
          refine M.condB rfl (fun h => by simp [he] at h) (fun _ => ?_)
          refine M.go rfl ?_
          refine M.condB rfl (fun h => by cases h) (fun _ => ?_)
          refine M.go rfl ?_
          refine M.decB rfl (fun _ => ?_) (fun h => by cases h)
          refine M.go rfl ?_
          refine M.decB rfl (fun h => by rw [hmk] at h; cases h) (fun _ => ?_)
          refine M.go rfl ?_
          exact M.done ⟨rfl, Sh.ren [(0, 0), (1, 1)] rfl (by repeat' (first | exact True.intro | refine ⟨⟨_, _, rfl, rfl, Wk.rfl⟩, ?_⟩ | refine ⟨⟨_, _, rfl, rfl, Wk.b1 rfl⟩, ?_⟩ | refine ⟨⟨_, _, rfl, rfl, Wk.nil⟩, ?_⟩)) (by repeat' (first | exact True.intro | refine ⟨⟨_, _, _, rfl, rfl, rfl, WkO.rfl⟩, ?_⟩ | refine HeapOK.acc rfl rfl ?_ | refine HeapOK.es rfl rfl ?_))⟩
      · have hmk' : m.ok = false := by cases e : m.ok with
          | true => exact absurd e hmk
          | false => rfl
        have e1 : c.hears m = false := by simp [PCl.hears, hmk']
        have e2 : c.heard m = if 0 ≤ m.hint ∧ m.hint ≤ 7 then ⟨c.id, c.sq, c.op, c.cm, m.hint⟩ else c := by rw [PCl.heard, if_pos hf, if_neg hmk]
        rw [show (if c.hears m = true then m.rep.1 else PRep.zero) = PRep.zero by rw [e1]; rfl, e1, e2] at hhear
        rw [e2] at hn
        rw [decide_eq_true hf]
        refine M.go rfl ?_
        refine M.use (by first | exact True.intro | exact rfl) (hhear) [(0, 0)] rfl rfl rfl (by repeat' (first | exact True.intro | refine ⟨⟨_, _, _, rfl, rfl, rfl, WkO.rfl⟩, ?_⟩ | refine HeapOK.acc rfl rfl ?_ | refine HeapOK.es rfl rfl ?_)) rfl rfl ?_
        refine M.go rfl ?_
        refine M.decB rfl (fun _ => ?_) (fun h => by cases h)
        refine M.go rfl ?_
        refine M.decB rfl (fun h => absurd h hmk) (fun _ => ?_)
        refine M.go rfl ?_
        refine M.condB rfl (fun h => by cases h) (fun _ => ?_)
        refine M.go rfl ?_
        refine M.condB rfl (fun h => by cases h) (fun _ => ?_)
        refine M.go rfl ?_
        refine M.decB rfl (fun _ => ?_) (fun h => by cases h)
        refine M.go rfl ?_
        refine M.decB rfl (fun _ => ?_) (fun h => by rw [hmk'] at h; cases h)
        refine M.go rfl ?_
        refine M.dec rfl (fun h5 => ?_) (fun h5 => ?_)
        · refine M.go rfl ?_
          refine M.cond rfl (fun h6 => ?_) (fun h6 => ?_)
          · rw [if_pos ⟨h5, h6⟩] at hn ⊢
            subst hn
            refine M.go rfl ?_
            exact M.done ⟨rfl, Sh.ren [(0, 0), (1, 1)] rfl (by repeat' (first | exact True.intro | refine ⟨⟨_, _, rfl, rfl, Wk.rfl⟩, ?_⟩ | refine ⟨⟨_, _, rfl, rfl, Wk.b1 rfl⟩, ?_⟩ | refine ⟨⟨_, _, rfl, rfl, Wk.nil⟩, ?_⟩)) (by repeat' (first | exact True.intro | refine ⟨⟨_, _, _, rfl, rfl, rfl, WkO.rfl⟩, ?_⟩ | refine HeapOK.acc rfl rfl ?_ | refine HeapOK.es rfl rfl ?_))⟩
          · rw [if_neg (fun e => h6 e.2)] at hn ⊢
            subst hn
            refine M.go rfl ?_
            exact M.done ⟨rfl, Sh.ren [(0, 0), (1, 1)] rfl (by repeat' (first | exact True.intro | refine ⟨⟨_, _, rfl, rfl, Wk.rfl⟩, ?_⟩ | refine ⟨⟨_, _, rfl, rfl, Wk.b1 rfl⟩, ?_⟩ | refine ⟨⟨_, _, rfl, rfl, Wk.nil⟩, ?_⟩)) (by repeat' (first | exact True.intro | refine ⟨⟨_, _, _, rfl, rfl, rfl, WkO.rfl⟩, ?_⟩ | refine HeapOK.acc rfl rfl ?_ | refine HeapOK.es rfl rfl ?_))⟩
        · rw [if_neg (fun e => h5 e.1)] at hn ⊢
          subst hn
          refine M.go rfl ?_
          exact M.done ⟨rfl, Sh.ren [(0, 0), (1, 1)] rfl (by repeat' (first | exact True.intro | refine ⟨⟨_, _, rfl, rfl, Wk.rfl⟩, ?_⟩ | refine ⟨⟨_, _, rfl, rfl, Wk.b1 rfl⟩, ?_⟩ | refine ⟨⟨_, _, rfl, rfl, Wk.nil⟩, ?_⟩)) (by repeat' (first | exact True.intro | refine ⟨⟨_, _, _, rfl, rfl, rfl, WkO.rfl⟩, ?_⟩ | refine HeapOK.acc rfl rfl ?_ | refine HeapOK.es rfl rfl ?_))⟩
    · have e1 : c.hears m = false := by simp [PCl.hears, hf]
      have e2 : c.heard m = c := by rw [PCl.heard, if_neg hf]
      rw [show (if c.hears m = true then m.rep.1 else PRep.zero) = PRep.zero by rw [e1]; rfl, e1, e2] at hhear
      rw [e2] at hn
      rw [decide_eq_false hf]
      subst hn
      refine M.go rfl ?_
      refine M.use (by first | exact True.intro | exact rfl) (hhear) [(0, 0)] rfl rfl rfl (by repeat' (first | exact True.intro | refine ⟨⟨_, _, _, rfl, rfl, rfl, WkO.rfl⟩, ?_⟩ | refine HeapOK.acc rfl rfl ?_ | refine HeapOK.es rfl rfl ?_)) rfl rfl ?_
      refine M.go rfl ?_
      refine M.decB rfl (fun h => by cases h) (fun _ => ?_)
      refine M.go rfl ?_
      refine M.condB rfl (fun h => by cases h) (fun _ => ?_)
      refine M.go rfl ?_
      refine M.condB rfl (fun h => by cases h) (fun _ => ?_)
      refine M.go rfl ?_
      refine M.decB rfl (fun h => by cases h) (fun _ => ?_)
      refine M.go rfl ?_
      exact M.done ⟨rfl, Sh.ren [(0, 0), (1, 1)] rfl (by repeat' (first | exact True.intro | refine ⟨⟨_, _, rfl, rfl, Wk.rfl⟩, ?_⟩ | refine ⟨⟨_, _, rfl, rfl, Wk.b1 rfl⟩, ?_⟩ | refine ⟨⟨_, _, rfl, rfl, Wk.nil⟩, ?_⟩)) (by repeat' (first | exact True.intro | refine ⟨⟨_, _, _, rfl, rfl, rfl, WkO.rfl⟩, ?_⟩ | refine HeapOK.acc rfl rfl ?_ | refine HeapOK.es rfl rfl ?_))⟩
theorem ClientAll_spec (id : Int) (z : Bool) (ops : List COp) (hl : ops.length ≤ 100000000000000) (hok : ∀ o ∈ ops, o.raw) : CallS Try.prog base 13 [.c (.p (.int .i64 id)), .c (.p (.tz z 21 (copP ops) none))] ⟨[], 0⟩ (.c (.p (.bool true))) ⟨[], 0⟩ := by
  refine CallS.of noNG lCA.2 rfl (M.start (M.go rfl ?_))
  refine M.use0 trivial begun25_spec rfl rfl rfl ?_
  refine M.go rfl ?_
  by_cases h : 1 ≤ id ∧ id ≤ 8
  · refine M.use (by first | exact True.intro | exact rfl) (clnew_yes id h) [] rfl rfl rfl (by repeat' (first | exact True.intro | refine ⟨⟨_, _, _, rfl, rfl, rfl, WkO.rfl⟩, ?_⟩ | refine HeapOK.acc rfl rfl ?_ | refine HeapOK.es rfl rfl ?_)) rfl rfl ?_
    refine M.go rfl ?_
    refine M.dec rfl (fun h1 => absurd h1 (by omega)) (fun _ => ?_)
    refine M.go rfl ?_
    refine M.cond rfl (fun h1 => absurd h1 (by omega)) (fun _ => ?_)
    refine M.go rfl ?_
    refine M.loop (XH.ren [(0, 0), (1, 1)] (ca_loop id z ops hl hok _ ?_ ops [] ⟨id, 0, false, PCmd.zero, 0⟩ rfl ⟨⟨h, by simp, PCmd.zero_good⟩, by simp⟩ (by simp)) rfl (by repeat' (first | exact True.intro | refine ⟨⟨_, _, rfl, rfl, Wk.rfl⟩, ?_⟩ | refine ⟨⟨_, _, rfl, rfl, Wk.b1 rfl⟩, ?_⟩ | refine ⟨⟨_, _, rfl, rfl, Wk.nil⟩, ?_⟩)) (by repeat' (first | exact True.intro | refine ⟨⟨_, _, _, rfl, rfl, rfl, WkO.rfl⟩, ?_⟩ | refine HeapOK.acc rfl rfl ?_ | refine HeapOK.es rfl rfl ?_)))
    refine M.q (M.go rfl ?_)
    exact M.ret (M.go rfl (M.done (finQ.ret [] rfl rfl rfl (by first | exact Wk.rfl | exact Wk.uncap | exact Wk.nil | exact Wk.b1 rfl | exact Wk.t2 Wk.rfl (Wk.b1 rfl)) (by repeat' (first | exact True.intro | refine ⟨⟨_, _, _, rfl, rfl, rfl, WkO.rfl⟩, ?_⟩ | refine HeapOK.acc rfl rfl ?_ | refine HeapOK.es rfl rfl ?_)))))
  · refine M.use0 trivial (clnew_no id (by omega)) rfl rfl rfl ?_
    refine M.go rfl ?_
    refine M.dec rfl (fun h1 => ?_) (fun h1 => ?_)
    · refine M.go rfl ?_
      exact M.ret (M.go rfl (M.done (finQ.ret [] rfl rfl rfl (by first | exact Wk.rfl | exact Wk.uncap | exact Wk.nil | exact Wk.b1 rfl | exact Wk.t2 Wk.rfl (Wk.b1 rfl)) (by repeat' (first | exact True.intro | refine ⟨⟨_, _, _, rfl, rfl, rfl, WkO.rfl⟩, ?_⟩ | refine HeapOK.acc rfl rfl ?_ | refine HeapOK.es rfl rfl ?_)))))
    · refine M.go rfl ?_
      refine M.cond rfl (fun h2 => ?_) (fun h2 => absurd h (by omega))
      refine M.go rfl ?_
      exact M.ret (M.go rfl (M.done (finQ.ret [] rfl rfl rfl (by first | exact Wk.rfl | exact Wk.uncap | exact Wk.nil | exact Wk.b1 rfl | exact Wk.t2 Wk.rfl (Wk.b1 rfl)) (by repeat' (first | exact True.intro | refine ⟨⟨_, _, _, rfl, rfl, rfl, WkO.rfl⟩, ?_⟩ | refine HeapOK.acc rfl rfl ?_ | refine HeapOK.es rfl rfl ?_)))))
def tyRep : Ty := .st [.int .i64, .bool, .sl 1 16 .str]
def tyCop : Ty := .st [.int .i64, .int .i64, .str, tyMsg, tyRep]
theorem is_rep {p : PC} (h : Is tyRep p) : ∃ r : PRep, p = r.pc ∧ InI64 r.er ∧ r.rows.length ≤ 100000000000000 ∧ ∀ t ∈ r.rows, ∀ b ∈ t, b < 256 := by
  obtain ⟨l, rfl, k0⟩ := h.st
  obtain ⟨a0, r1, h0, rfl, k1⟩ := k0.cons
  obtain ⟨a0, rfl, b0⟩ := h0.i64
  obtain ⟨a1, r2, h1, rfl, k2⟩ := k1.cons
  obtain ⟨ch, rfl⟩ := h1.bool
  obtain ⟨a2, r3, h2, rfl, k3⟩ := k2.cons
  obtain ⟨z, el, rfl, c1, c2⟩ := h2.sl
  obtain rfl := k3.nil
  obtain ⟨rows, rfl, c3⟩ := lift (f := PC.str) (ok := fun t => ∀ b ∈ t, b < 256) (fun p hp => by
    obtain ⟨l, h1, _, h3⟩ := hp.str
    exact ⟨l, h1, h3⟩) c2
  exact ⟨⟨a0, ch, z, rows⟩, rfl, i64_in b0, by simp at c1; show rows.length ≤ _; omega, c3⟩
theorem is_cop {p : PC} (h : Is tyCop p) : ∃ o : COp, p = o.pc ∧ o.raw := by
  obtain ⟨l, rfl, k0⟩ := h.st
  obtain ⟨a0, r1, h0, rfl, k1⟩ := k0.cons
  obtain ⟨a0, rfl, b0⟩ := h0.i64
  obtain ⟨a1, r2, h1, rfl, k2⟩ := k1.cons
  obtain ⟨a1, rfl, b1⟩ := h1.i64
  obtain ⟨a2, r3, h2, rfl, k3⟩ := k2.cons
  obtain ⟨tx, rfl, _, b2⟩ := h2.str
  obtain ⟨a3, r4, h3, rfl, k4⟩ := k3.cons
  obtain ⟨m, rfl, b3⟩ := is_msg h3
  obtain ⟨a4, r5, h4, rfl, k5⟩ := k4.cons
  obtain ⟨r, rfl, b4, b5⟩ := is_rep h4
  obtain rfl := k5.nil
  exact ⟨⟨a0, a1, tx, m, r⟩, rfl, i64_in b1, i64_in b0, b2, b3, b4, b5⟩
theorem ClientAll_law {p0 p1 : PC} (h0 : Is (.int .i64) p0) (h1 : Is (.sl 21 240 tyCop) p1) : CallS Try.prog base 13 [xvP p0, xvP p1] ⟨[], 0⟩ (.c (.p (.bool true))) ⟨[], 0⟩ := by
  obtain ⟨id, rfl, -⟩ := h0.i64
  obtain ⟨z, el, rfl, c1, c2⟩ := h1.sl
  obtain ⟨l, rfl, c3⟩ := lift (fun p hp => is_cop hp) c2
  exact ClientAll_spec id z l (by simp at c1; omega) c3
end Go.Proofs.Yteegdhfekemhmaa

/- delphilaw25.ClientSeq. -/
namespace Go.Proofs.Yteegdhfekemhmaa
open Go.RowKit Sim Go Sym
set_option maxRecDepth 100000
set_option linter.unusedVariables false
set_option linter.unusedSimpArgs false
variable {base : Nat}
theorem CallS.args {P : Program} {f : FuncId} {args args2 : List XV} {h h' : HS} {r : XV} (C : CallS P base f args h r h') (e : args2.map XV.sv = args.map XV.sv) : CallS P base f args2 h r h' := ⟨C.fn, fun φ args' w ha hr => C.run φ args' w (by rw [← e]; exact ha) hr⟩
theorem numB_0 : numB 0 = [0] := by
  unfold numB uvar
  rfl
theorem rep0_b : PRep.zero.b = [0, 0, 0] := by
  show numB 0 ++ flagB false ++ numB (0 : Nat) ++ txtsB [] = _
  rw [show ((0 : Nat) : Int) = 0 from rfl, numB_0]; rfl
theorem rep0_r : (RS.repR ⟨true, [0, 0, 0], false⟩).2 = 0 := by rfl
theorem rep9_r : (RS.repR ⟨false, [9], false⟩).2 = 3 := by rfl
theorem rep0_spec : CallS Try.prog base 47 [.agg zrep] ⟨[], 0⟩ (.c (.p (.tz true 1 (byP [0, 0, 0]) none))) ⟨[], 0⟩ := by
  have h := Reply_spec (base := base) PRep.zero ⟨⟨by decide, by decide⟩, by simp [PRep.zero], fun t ht => by cases ht⟩
  rw [rep0_b] at h
  exact CallS.args h rfl
theorem tmod_rng (a b : Int) (h : 0 < b) : -b < a.tmod b ∧ a.tmod b < b := by
  have h1 := Int.natAbs_tmod a b
  have h2 : a.natAbs % b.natAbs < b.natAbs := Nat.mod_lt _ (by omega)
  omega
theorem tmod_wr (a b : Int) (h : 0 < b) (hb : b < 1000) : IntKind.i64.wrap (a.tmod b + b) = a.tmod b + b ∧ 0 ≤ (a.tmod b + b).tmod b ∧ (a.tmod b + b).tmod b < b := by
  have h1 := tmod_rng a b h
  have h2 := tmod_rng (a.tmod b + b) b h
  refine ⟨wr64 (by omega) (by omega), Int.tmod_nonneg _ (by omega), h2.2⟩
theorem PCmd.may_iff {c : PCmd} : c.may = true ↔ 1 ≤ c.kd ∧ c.kd ≤ 4 ∧ 1 ≤ c.cl ∧ c.cl ≤ 8 ∧ 1 ≤ c.sq ∧ c.sq ≤ 1099511627776 ∧ (c.tx.length : Int) ≤ 4000 := by simp [PCmd.may]
noncomputable def lCS : {F : LF // lowerF Try.prog 12 = some F} := ⟨_, rfl⟩
def seqM (c : PCl) : PMsg := ⟨11, 1, 100 + c.id, 0, c.sq, 0, 0, true, [], true, 0, true, [], true, [0, 0, 0], 0, 0, 0⟩
def seqY (c : PCl) (k : Int) : PMsg := if k = 0 then ⟨11, 1, 100 + c.id, 0, c.sq - 1, 0, 0, true, [], true, 0, true, [], true, [0, 0, 0], 0, 0, 0⟩ else if k = 1 then ⟨11, 1, 100 + c.id + 1, 0, c.sq, 0, 0, true, [], true, 0, true, [], true, [0, 0, 0], 0, 0, 0⟩ else if k = 2 then ⟨10, 1, 100 + c.id, 0, c.sq, 0, 0, true, [], true, 0, true, [], true, [0, 0, 0], 0, 0, 0⟩ else ⟨11, 1, 100 + c.id, 0, c.sq, 0, 0, true, [], true, 0, true, [], false, [9], 0, 0, 0⟩
theorem seqY_not (c : PCl) (k : Int) : c.hears (seqY c k) = false ∧ c.heard (seqY c k) = c := by
  unfold seqY
  split
  · have h : ¬ c.fits ⟨11, 1, 100 + c.id, 0, c.sq - 1, 0, 0, true, [], true, 0, true, [], true, [0, 0, 0], 0, 0, 0⟩ := fun f => by have := f.2.2.2; simp at this; omega
    exact ⟨by simp [PCl.hears, h], by rw [PCl.heard, if_neg h]⟩
  · split
    · have h : ¬ c.fits ⟨11, 1, 100 + c.id + 1, 0, c.sq, 0, 0, true, [], true, 0, true, [], true, [0, 0, 0], 0, 0, 0⟩ := fun f => by have := f.2.2.1; simp at this; omega
      exact ⟨by simp [PCl.hears, h], by rw [PCl.heard, if_neg h]⟩
    · split
      · have h : ¬ c.fits ⟨10, 1, 100 + c.id, 0, c.sq, 0, 0, true, [], true, 0, true, [], true, [0, 0, 0], 0, 0, 0⟩ := fun f => by have := f.2.1; simp at this
        exact ⟨by simp [PCl.hears, h], by rw [PCl.heard, if_neg h]⟩
      · have h : ∀ a : PMsg, a.dz = false → a.d = [9] → a.rep.2 = 3 := fun a h1 h2 => by
          rw [PMsg.rep, h1, h2]; exact rep9_r
        have h3 := h ⟨11, 1, 100 + c.id, 0, c.sq, 0, 0, true, [], true, 0, true, [], false, [9], 0, 0, 0⟩ rfl rfl
        refine ⟨by simp [PCl.hears, h3], ?_⟩
        rw [PCl.heard]
        split
        · rw [if_pos rfl, if_neg (by rw [h3]; decide)]
        · rfl
theorem seqY_d (c : PCl) (k : Int) : (seqY c k).d.length ≤ 1000000 ∧ ∀ b ∈ (seqY c k).d, b < 256 := by
  unfold seqY
  repeat' split
  all_goals exact ⟨by simp, by simp⟩
theorem seqM_yes (c : PCl) (h : c.op = true) : c.hears (seqM c) = true ∧ c.heard (seqM c) = ⟨c.id, c.sq, false, c.cm, c.hint⟩ := by
  have h1 : c.fits (seqM c) := ⟨h, rfl, rfl, rfl⟩
  have h2 : (seqM c).rep.2 = 0 := rep0_r
  have h3 : (seqM c).ok = true := rfl
  exact ⟨by rw [PCl.hears, h2, h3, decide_eq_true h1]; rfl, by rw [PCl.heard, if_pos h1, if_pos h3, if_pos h2]⟩
theorem cs_loop (z : Bool) (ws : List Int) (hl : ws.length ≤ 100000000000000) (id : Int) (hid : 1 ≤ id ∧ id ≤ 8) (Q : QX) (hq : Q (.exit 0) [] ⟨[], 0⟩) :
    ∀ (rest pre : List Int) (c : PCl), ws = pre ++ rest → c.ok → c.id = id → c.op = false → c.sq = pre.length → XH Try.prog base lCS.1.n 0 (lCS.1.c.lp 0) [(0, .c (.p (.int .i64 id))), (1, .c (.p (.tz z 1 (inP ws) none))), (6, .c (.ptr 0 0)), (7, .c (.p (.int .i64 pre.length)))] (hCl c) Q := by
  intro rest
  induction rest with
  | nil =>
    intro pre c hp hc hi hop hsq
    simp at hp
    subst hp
    refine M.round (M.go rfl ?_)
    refine M.dec rfl (fun h => absurd h (by simp [inP])) (fun h => ?_)
    refine M.go rfl ?_
    refine M.ren [] ?_ trivial rfl (by repeat' (first | exact True.intro | refine ⟨⟨_, _, rfl, rfl, Wk.rfl⟩, ?_⟩ | refine ⟨⟨_, _, accV_ren rfl, rfl, Wk.rfl⟩, ?_⟩ | refine ⟨⟨_, _, accV_ren rfl, rfl, Wk.acc0⟩, ?_⟩ | refine ⟨⟨_, _, rfl, rfl, Wk.uncap⟩, ?_⟩ | refine ⟨⟨_, _, rfl, rfl, Wk.nil⟩, ?_⟩)) (by repeat' (first | exact True.intro | refine ⟨⟨_, _, _, rfl, rfl, rfl, WkO.rfl⟩, ?_⟩ | refine HeapOK.acc rfl rfl ?_ | refine HeapOK.es rfl rfl ?_)) (e' := []) (h' := ⟨[], 0⟩)
    exact M.exit (M.go rfl (M.done hq))
  | cons o rest ih =>
    intro pre c hp hc hi hop hsq
    have hlen : (inP ws).length = pre.length + (rest.length + 1) := by rw [hp]; simp [inP]
    have hu : (inP ws)[((pre.length : Int)).toNat]? = some (.int .i64 o) := by rw [hp]; exact at_app _ _ _ _
    refine M.round (M.go rfl ?_)
    refine M.dec rfl (fun _ => ?_) (fun h => absurd (by omega) h)
    refine M.go rfl ?_
    refine M.cond rfl (fun h20 => ?_) (fun h => ?_)
    rotate_left
    · refine M.go rfl ?_
      refine M.ren [] ?_ trivial rfl (by repeat' (first | exact True.intro | refine ⟨⟨_, _, rfl, rfl, Wk.rfl⟩, ?_⟩ | refine ⟨⟨_, _, accV_ren rfl, rfl, Wk.rfl⟩, ?_⟩ | refine ⟨⟨_, _, accV_ren rfl, rfl, Wk.acc0⟩, ?_⟩ | refine ⟨⟨_, _, rfl, rfl, Wk.uncap⟩, ?_⟩ | refine ⟨⟨_, _, rfl, rfl, Wk.nil⟩, ?_⟩)) (by repeat' (first | exact True.intro | refine ⟨⟨_, _, _, rfl, rfl, rfl, WkO.rfl⟩, ?_⟩ | refine HeapOK.acc rfl rfl ?_ | refine HeapOK.es rfl rfl ?_)) (e' := []) (h' := ⟨[], 0⟩)
      exact M.exit (M.go rfl (M.done hq))
    have hw2 : IntKind.i64.wrap ((pre.length : Int) + 1) = ((pre ++ [o]).length : Int) := by rw [wr64 (by omega) (by omega)]; simp
    have hln : ((pre ++ [o]).length : Int) = pre.length + 1 := by simp
    have hidw : IntKind.i64.wrap (100 + id) = 100 + id := wr64 (by omega) (by omega)
    have hsqw : IntKind.i64.wrap (c.sq + 1 - 1) = c.sq + 1 - 1 := wr64 (by omega) (by omega)
    have hidw2 : IntKind.i64.wrap (100 + id + 1) = 100 + id + 1 := wr64 (by omega) (by omega)
    have hwq0 : True := trivial
    obtain ⟨want, hwa⟩ : ∃ w, w = c.want 2 [112] := ⟨_, rfl⟩
    have hmay : want.may = true := by
      rw [hwa]
      have := hc.id
      have w1 : (c.want 2 [112]).cl = c.id := rfl
      have w2 : (c.want 2 [112]).sq = c.sq + 1 := rfl
      have w3 : (c.want 2 [112]).kd = 2 := rfl
      exact PCmd.may_iff.2 ⟨by omega, by omega, by omega, by omega, by omega, by omega, by simp [PCl.want]⟩
    have hwg : want.good := by
      have := hc.id
      rw [hwa]
      exact ⟨⟨⟨by simp [PCl.want], by simp [PCl.want]⟩, ⟨by simp only [PCl.want]; omega, by simp only [PCl.want]; omega⟩, ⟨by simp only [PCl.want]; omega, by simp only [PCl.want]; omega⟩⟩, by simp [PCl.want], by simp [PCl.want]⟩
    obtain ⟨d, hd⟩ : ∃ d, d = (⟨id, c.sq + 1, true, want, c.hint⟩ : PCl) := ⟨_, rfl⟩
    have hdo : d.ok := by rw [hd]; exact ⟨hid, by simp only; omega, hwg⟩
    have hdid : d.id = id := by rw [hd]
    have hdsq : d.sq = c.sq + 1 := by rw [hd]
    have hcall := clcall_spec (base := base) c hc 2 [112]
    rw [show c.call 2 [112] = (want, 0, d) by rw [PCl.call, if_neg (by rw [hop]; decide), ← hwa, if_pos hmay, hd, hi]] at hcall
    have hwsq : want.sq = c.sq + 1 := by rw [hwa]; rfl
    have hwq : IntKind.i64.wrap (want.sq - 1) = want.sq - 1 := wr64 (by omega) (by omega)
    refine M.go rfl ?_
    refine M.use (by first | exact True.intro | exact rfl) (hcall) [(0, 0)] rfl rfl rfl (by repeat' (first | exact True.intro | refine ⟨⟨_, _, _, rfl, rfl, rfl, WkO.rfl⟩, ?_⟩ | refine HeapOK.acc rfl rfl ?_ | refine HeapOK.es rfl rfl ?_)) rfl rfl ?_
    refine M.go rfl ?_
    refine M.decN rfl (fun h => absurd rfl h) (fun _ => ?_)
    refine M.go rfl ?_
    rw [hw2]
    refine M.condN rfl (fun h => absurd (by rw [hwsq, hsq, hln]) h) (fun _ => ?_)
    refine M.go rfl ?_
    refine M.regG rfl (MN.go rfl ?_)
    refine MN.use0 (by first | exact True.intro | exact rfl) rep0_spec rfl rfl rfl (MN.go rfl ?_)
    refine MN.nil mixed (Fnl.nodup rfl) rfl ⟨⟨stepX_ok rfl, stepX_ok rfl, trivial⟩, trivial⟩ (M.go rfl ?_)
    rw [hidw]
    refine M.op trivial (SOp.ia rfl rfl (by omega) hu) ?_
    refine M.op trivial (SOp.ld1e rfl hu rfl rfl rfl) ?_
    refine M.go rfl ?_
    refine M.op trivial (SOp.rem rfl rfl (by omega)) ?_
    refine M.go rfl ?_
    obtain ⟨g1, g2, g3⟩ := tmod_wr o 4 (by omega) (by omega)
    rw [g1]
    refine M.op trivial (SOp.rem rfl rfl (by omega)) ?_
    obtain ⟨k, hk⟩ : ∃ k, k = (o.tmod 4 + 4).tmod 4 := ⟨_, rfl⟩
    rw [← hk] at g2 g3 ⊢
    refine M.goN 2 rfl ?_
    have hy := seqY_not d k
    have hyd := seqY_d d k
    have hm := seqM_yes d (by rw [hd])
    have hmd : (seqM d).d.length ≤ 1000000 ∧ ∀ b ∈ (seqM d).d, b < 256 := ⟨by simp [seqM], by simp [seqM]⟩
    have hmc : (seqM d).cs = [.int .i64 11, .int .i64 1, .int .i64 (100 + id), .int .i64 0, .int .i64 want.sq, .int .i64 0, .int .i64 0, .tz true 4 [] none, .bs true, .int .i64 0, .tz true 1 [] none, .tz true 1 (byP [0, 0, 0]) none, .int .i64 0, .int .i64 0, .int .i64 0] := by
      simp only [seqM, PMsg.cs, hdid, hdsq, hwsq]; rfl
    refine M.midV [(0, .c (.p (.int .i64 id))), (1, .c (.p (.tz z 1 (inP ws) none))), (6, .c (.ptr 0 0)), (7, .c (.p (.int .i64 pre.length))), (10, .c (.ptr 1 0)), (11, .c (.ptr 2 0))] ⟨[(2, some (.row ((seqY d k).cs.map XC.p) true)), (1, some (.row ((seqM d).cs.map XC.p) true)), (0, some (.row (d.cs.map XC.p) true))], 3⟩ ?_ ?_
    · refine M.go rfl ?_
      refine M.cond rfl (fun k0 => ?_) (fun k0 => ?_)
      · refine M.go rfl ?_
        rw [hwq]
        have hyc : (seqY d k).cs = [.int .i64 11, .int .i64 1, .int .i64 (100 + id), .int .i64 0, .int .i64 (want.sq - 1), .int .i64 0, .int .i64 0, .tz true 4 [] none, .bs true, .int .i64 0, .tz true 1 [] none, .tz true 1 (byP [0, 0, 0]) none, .int .i64 0, .int .i64 0, .int .i64 0] := by
          rw [seqY, if_pos k0]
          simp only [PMsg.cs, hdid, hdsq, ← hwsq]; rfl
        rw [hyc, hmc]
        exact M.done ⟨rfl, Sh.ren [(0, 0), (1, 9), (2, 11)] rfl (by repeat' (first | exact True.intro | refine ⟨⟨_, _, rfl, rfl, Wk.rfl⟩, ?_⟩ | refine ⟨⟨_, _, accV_ren rfl, rfl, Wk.rfl⟩, ?_⟩ | refine ⟨⟨_, _, accV_ren rfl, rfl, Wk.acc0⟩, ?_⟩ | refine ⟨⟨_, _, rfl, rfl, Wk.uncap⟩, ?_⟩ | refine ⟨⟨_, _, rfl, rfl, Wk.nil⟩, ?_⟩)) ⟨⟨_, _, _, rfl, rfl, rfl, WkO.row ⟨Wk.rfl, Wk.rfl, Wk.rfl, Wk.rfl, Wk.rfl, Wk.rfl, Wk.rfl, Wk.nil, Wk.b1 rfl, Wk.rfl, Wk.nil, Wk.rfl, Wk.rfl, Wk.rfl, Wk.rfl, trivial⟩⟩, ⟨_, _, _, rfl, rfl, rfl, WkO.row ⟨Wk.rfl, Wk.rfl, Wk.rfl, Wk.rfl, Wk.rfl, Wk.rfl, Wk.rfl, Wk.nil, Wk.b1 rfl, Wk.rfl, Wk.nil, Wk.rfl, Wk.rfl, Wk.rfl, Wk.rfl, trivial⟩⟩, ⟨_, _, _, rfl, rfl, rfl, WkO.rfl⟩, trivial⟩⟩
      refine M.go rfl ?_
      refine M.cond rfl (fun k1 => ?_) (fun k1 => ?_)
      · refine M.go rfl ?_
        rw [hidw2]
        have hyc : (seqY d k).cs = [.int .i64 11, .int .i64 1, .int .i64 (100 + id + 1), .int .i64 0, .int .i64 want.sq, .int .i64 0, .int .i64 0, .tz true 4 [] none, .bs true, .int .i64 0, .tz true 1 [] none, .tz true 1 (byP [0, 0, 0]) none, .int .i64 0, .int .i64 0, .int .i64 0] := by
          rw [seqY, if_neg k0, if_pos k1]
          simp only [PMsg.cs, hdid, hdsq, ← hwsq]; rfl
        rw [hyc, hmc]
        exact M.done ⟨rfl, Sh.ren [(0, 0), (1, 9), (2, 11)] rfl (by repeat' (first | exact True.intro | refine ⟨⟨_, _, rfl, rfl, Wk.rfl⟩, ?_⟩ | refine ⟨⟨_, _, accV_ren rfl, rfl, Wk.rfl⟩, ?_⟩ | refine ⟨⟨_, _, accV_ren rfl, rfl, Wk.acc0⟩, ?_⟩ | refine ⟨⟨_, _, rfl, rfl, Wk.uncap⟩, ?_⟩ | refine ⟨⟨_, _, rfl, rfl, Wk.nil⟩, ?_⟩)) ⟨⟨_, _, _, rfl, rfl, rfl, WkO.row ⟨Wk.rfl, Wk.rfl, Wk.rfl, Wk.rfl, Wk.rfl, Wk.rfl, Wk.rfl, Wk.nil, Wk.b1 rfl, Wk.rfl, Wk.nil, Wk.rfl, Wk.rfl, Wk.rfl, Wk.rfl, trivial⟩⟩, ⟨_, _, _, rfl, rfl, rfl, WkO.row ⟨Wk.rfl, Wk.rfl, Wk.rfl, Wk.rfl, Wk.rfl, Wk.rfl, Wk.rfl, Wk.nil, Wk.b1 rfl, Wk.rfl, Wk.nil, Wk.rfl, Wk.rfl, Wk.rfl, Wk.rfl, trivial⟩⟩, ⟨_, _, _, rfl, rfl, rfl, WkO.rfl⟩, trivial⟩⟩
      refine M.go rfl ?_
      refine M.cond rfl (fun k2 => ?_) (fun k2 => ?_)
      · refine M.go rfl ?_
        have hyc : (seqY d k).cs = [.int .i64 10, .int .i64 1, .int .i64 (100 + id), .int .i64 0, .int .i64 want.sq, .int .i64 0, .int .i64 0, .tz true 4 [] none, .bs true, .int .i64 0, .tz true 1 [] none, .tz true 1 (byP [0, 0, 0]) none, .int .i64 0, .int .i64 0, .int .i64 0] := by
          rw [seqY, if_neg k0, if_neg k1, if_pos k2]
          simp only [PMsg.cs, hdid, hdsq, ← hwsq]; rfl
        rw [hyc, hmc]
        exact M.done ⟨rfl, Sh.ren [(0, 0), (1, 9), (2, 11)] rfl (by repeat' (first | exact True.intro | refine ⟨⟨_, _, rfl, rfl, Wk.rfl⟩, ?_⟩ | refine ⟨⟨_, _, accV_ren rfl, rfl, Wk.rfl⟩, ?_⟩ | refine ⟨⟨_, _, accV_ren rfl, rfl, Wk.acc0⟩, ?_⟩ | refine ⟨⟨_, _, rfl, rfl, Wk.uncap⟩, ?_⟩ | refine ⟨⟨_, _, rfl, rfl, Wk.nil⟩, ?_⟩)) ⟨⟨_, _, _, rfl, rfl, rfl, WkO.row ⟨Wk.rfl, Wk.rfl, Wk.rfl, Wk.rfl, Wk.rfl, Wk.rfl, Wk.rfl, Wk.nil, Wk.b1 rfl, Wk.rfl, Wk.nil, Wk.rfl, Wk.rfl, Wk.rfl, Wk.rfl, trivial⟩⟩, ⟨_, _, _, rfl, rfl, rfl, WkO.row ⟨Wk.rfl, Wk.rfl, Wk.rfl, Wk.rfl, Wk.rfl, Wk.rfl, Wk.rfl, Wk.nil, Wk.b1 rfl, Wk.rfl, Wk.nil, Wk.rfl, Wk.rfl, Wk.rfl, Wk.rfl, trivial⟩⟩, ⟨_, _, _, rfl, rfl, rfl, WkO.rfl⟩, trivial⟩⟩
      · refine M.go rfl ?_
        have hyc : (seqY d k).cs = [.int .i64 11, .int .i64 1, .int .i64 (100 + id), .int .i64 0, .int .i64 want.sq, .int .i64 0, .int .i64 0, .tz true 4 [] none, .bs true, .int .i64 0, .tz true 1 [] none, .tz false 1 (byP [9]) none, .int .i64 0, .int .i64 0, .int .i64 0] := by
          rw [seqY, if_neg k0, if_neg k1, if_neg k2]
          simp only [PMsg.cs, hdid, hdsq, ← hwsq]; rfl
        rw [hyc, hmc]
        exact M.done ⟨rfl, Sh.freezeR (b0 := 11) (o := 11) (b := 12) rfl rfl rfl rfl rfl rfl (Sh.ren [(0, 0), (1, 9), (2, 11)] rfl (by repeat' (first | exact True.intro | refine ⟨⟨_, _, rfl, rfl, Wk.rfl⟩, ?_⟩ | refine ⟨⟨_, _, accV_ren rfl, rfl, Wk.rfl⟩, ?_⟩ | refine ⟨⟨_, _, accV_ren rfl, rfl, Wk.acc0⟩, ?_⟩ | refine ⟨⟨_, _, rfl, rfl, Wk.uncap⟩, ?_⟩ | refine ⟨⟨_, _, rfl, rfl, Wk.nil⟩, ?_⟩)) ⟨⟨_, _, _, rfl, rfl, rfl, WkO.row ⟨Wk.rfl, Wk.rfl, Wk.rfl, Wk.rfl, Wk.rfl, Wk.rfl, Wk.rfl, Wk.nil, Wk.b1 rfl, Wk.rfl, Wk.nil, Wk.uncap, Wk.rfl, Wk.rfl, Wk.rfl, trivial⟩⟩, ⟨_, _, _, rfl, rfl, rfl, WkO.row ⟨Wk.rfl, Wk.rfl, Wk.rfl, Wk.rfl, Wk.rfl, Wk.rfl, Wk.rfl, Wk.nil, Wk.b1 rfl, Wk.rfl, Wk.nil, Wk.rfl, Wk.rfl, Wk.rfl, Wk.rfl, trivial⟩⟩, ⟨_, _, _, rfl, rfl, rfl, WkO.rfl⟩, trivial⟩)⟩
    obtain ⟨y, hye⟩ : ∃ y, y = seqY d k := ⟨_, rfl⟩
    obtain ⟨m, hme⟩ : ∃ m, m = seqM d := ⟨_, rfl⟩
    rw [← hye] at hy hyd ⊢
    rw [← hme] at hm hmd ⊢
    obtain ⟨d2, hd2⟩ : ∃ d2, d2 = (⟨d.id, d.sq, false, d.cm, d.hint⟩ : PCl) := ⟨_, rfl⟩
    have hd2o : d2.ok := by rw [hd2]; exact ⟨hdo.id, hdo.sq, hdo.cm⟩
    have hh1 := clhear_spec (base := base) d hdo y hyd.1 hyd.2
    rw [show (if d.hears y = true then y.rep.1 else PRep.zero) = PRep.zero by rw [hy.1]; rfl, hy.1, hy.2] at hh1
    have hh2 := clhear_spec (base := base) d hdo m hmd.1 hmd.2
    rw [show (if d.hears m = true then m.rep.1 else PRep.zero) = m.rep.1 from if_pos hm.1, hm.1, hm.2, ← hd2] at hh2
    have hnf : ¬ d2.fits m := fun f => by have := f.1; rw [hd2] at this; cases this
    have hh3 := clhear_spec (base := base) d2 hd2o m hmd.1 hmd.2
    have n1 : d2.hears m = false := by simp [PCl.hears, hnf]
    have n2 : d2.heard m = d2 := by rw [PCl.heard, if_neg hnf]
    rw [show (if d2.hears m = true then m.rep.1 else PRep.zero) = PRep.zero by rw [n1]; rfl, n1, n2] at hh3
    have hop2 : d2.op = false := by rw [hd2]
    have hco := clopen_spec (base := base) d2
    rw [hop2] at hco
    refine M.go rfl ?_
    refine M.use (by first | exact True.intro | exact rfl) (hh1) [(0, 0)] rfl rfl rfl (by repeat' (first | exact True.intro | refine ⟨⟨_, _, _, rfl, rfl, rfl, WkO.rfl⟩, ?_⟩ | refine HeapOK.acc rfl rfl ?_ | refine HeapOK.es rfl rfl ?_)) rfl rfl ?_
    refine M.go rfl ?_
    refine M.use (by first | exact True.intro | exact rfl) (hh2) [(0, 0)] rfl rfl rfl (by repeat' (first | exact True.intro | refine ⟨⟨_, _, _, rfl, rfl, rfl, WkO.rfl⟩, ?_⟩ | refine HeapOK.acc rfl rfl ?_ | refine HeapOK.es rfl rfl ?_)) rfl rfl ?_
    refine M.go rfl ?_
    refine M.use (by first | exact True.intro | exact rfl) (hh3) [(0, 0)] rfl rfl rfl (by repeat' (first | exact True.intro | refine ⟨⟨_, _, _, rfl, rfl, rfl, WkO.rfl⟩, ?_⟩ | refine HeapOK.acc rfl rfl ?_ | refine HeapOK.es rfl rfl ?_)) rfl rfl ?_
    refine M.go rfl ?_
    refine M.decB rfl (fun h => by cases h) (fun _ => ?_)
    refine M.go rfl ?_
    refine M.decB rfl (fun h => by cases h) (fun _ => ?_)
    refine M.go rfl ?_
    refine M.decB rfl (fun h => by cases h) (fun _ => ?_)
    refine M.go rfl ?_
    refine M.use (by first | exact True.intro | exact rfl) (hco) [(0, 0)] rfl rfl rfl (by repeat' (first | exact True.intro | refine ⟨⟨_, _, _, rfl, rfl, rfl, WkO.rfl⟩, ?_⟩ | refine HeapOK.acc rfl rfl ?_ | refine HeapOK.es rfl rfl ?_)) rfl rfl ?_
    refine M.go rfl ?_
    refine M.condB rfl (fun h => by cases h) (fun _ => ?_)
    refine M.go rfl ?_
    rw [hw2]
    exact M.again (XH.ren [(0, 0)] (ih (pre ++ [o]) d2 (by rw [hp]; simp) hd2o (by rw [hd2, hd]) hop2 (by rw [hd2, hd, hln, hsq])) rfl (by repeat' (first | exact True.intro | refine ⟨⟨_, _, rfl, rfl, Wk.rfl⟩, ?_⟩ | refine ⟨⟨_, _, accV_ren rfl, rfl, Wk.rfl⟩, ?_⟩ | refine ⟨⟨_, _, accV_ren rfl, rfl, Wk.acc0⟩, ?_⟩ | refine ⟨⟨_, _, rfl, rfl, Wk.uncap⟩, ?_⟩ | refine ⟨⟨_, _, rfl, rfl, Wk.nil⟩, ?_⟩)) (by repeat' (first | exact True.intro | refine ⟨⟨_, _, _, rfl, rfl, rfl, WkO.rfl⟩, ?_⟩ | refine HeapOK.acc rfl rfl ?_ | refine HeapOK.es rfl rfl ?_)))
theorem ClientSeq_spec (id : Int) (z : Bool) (ws : List Int) (hl : ws.length ≤ 100000000000000) : CallS Try.prog base 12 [.c (.p (.int .i64 id)), .c (.p (.tz z 1 (inP ws) none))] ⟨[], 0⟩ (.c (.p (.bool true))) ⟨[], 0⟩ := by
  refine CallS.of noNG lCS.2 rfl (M.start (M.go rfl ?_))
  refine M.use0 trivial begun25_spec rfl rfl rfl ?_
  refine M.go rfl ?_
  refine M.op trivial (SOp.rem rfl rfl (by omega)) ?_
  refine M.go rfl ?_
  obtain ⟨g1, g2, g3⟩ := tmod_wr id 8 (by omega) (by omega)
  rw [g1]
  refine M.op trivial (SOp.rem rfl rfl (by omega)) ?_
  refine M.go rfl ?_
  rw [wr64 (n := 1 + (id.tmod 8 + 8).tmod 8) (by omega) (by omega)]
  obtain ⟨v, hv⟩ : ∃ v, v = 1 + (id.tmod 8 + 8).tmod 8 := ⟨_, rfl⟩
  rw [← hv]
  refine M.use (by first | exact True.intro | exact rfl) (clnew_yes v (by omega)) [] rfl rfl rfl (by repeat' (first | exact True.intro | refine ⟨⟨_, _, _, rfl, rfl, rfl, WkO.rfl⟩, ?_⟩ | refine HeapOK.acc rfl rfl ?_ | refine HeapOK.es rfl rfl ?_)) rfl rfl ?_
  refine M.go rfl ?_
  refine M.loop (XH.ren [(0, 0)] (cs_loop z ws hl v (by omega) _ ?_ ws [] ⟨v, 0, false, PCmd.zero, 0⟩ rfl ⟨by simp only; omega, by simp, PCmd.zero_good⟩ rfl rfl rfl) rfl (by repeat' (first | exact True.intro | refine ⟨⟨_, _, rfl, rfl, Wk.rfl⟩, ?_⟩ | refine ⟨⟨_, _, rfl, rfl, Wk.b1 rfl⟩, ?_⟩ | refine ⟨⟨_, _, rfl, rfl, Wk.nil⟩, ?_⟩)) (by repeat' (first | exact True.intro | refine ⟨⟨_, _, _, rfl, rfl, rfl, WkO.rfl⟩, ?_⟩ | refine HeapOK.acc rfl rfl ?_ | refine HeapOK.es rfl rfl ?_)))
  refine M.q (M.go rfl ?_)
  exact M.ret (M.go rfl (M.done (finQ.ret [] rfl rfl rfl (by first | exact Wk.rfl | exact Wk.uncap | exact Wk.nil | exact Wk.b1 rfl | exact Wk.t2 Wk.rfl (Wk.b1 rfl)) (by repeat' (first | exact True.intro | refine ⟨⟨_, _, _, rfl, rfl, rfl, WkO.rfl⟩, ?_⟩ | refine HeapOK.acc rfl rfl ?_ | refine HeapOK.es rfl rfl ?_)))))
theorem ClientSeq_law {p0 p1 : PC} (h0 : Is (.int .i64) p0) (h1 : Is (.sl 1 8 (.int .i64)) p1) : CallS Try.prog base 12 [xvP p0, xvP p1] ⟨[], 0⟩ (.c (.p (.bool true))) ⟨[], 0⟩ := by
  obtain ⟨id, rfl, -⟩ := h0.i64
  obtain ⟨z, l, rfl, c1, c2⟩ := h1.ints
  exact ClientSeq_spec id z l (by omega)
end Go.Proofs.Yteegdhfekemhmaa
