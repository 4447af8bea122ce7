/- The plain machine beside the model's: operation by operation (first part). No program in sight. -/
import Derived.Test.YtgaaffanoegbhaaSimH
import Derived.Laws.Tables
import Derived.Great.BuildSlice
namespace Go.Proofs.Ytgaaffanoegbhaa.Sim
open Go Go.RowKit
set_option linter.unusedSimpArgs false
set_option linter.unusedVariables false

/-- The slots. -/
structure TR (φ : Ph) (t : SF) (a : Act) : Prop where
  n : t.n = a.tmps.size
  at_ : ∀ i v, t.get i = some v → i < a.tmps.size ∧ VR φ v (a.tmps.getD i undef)
theorem VR.undef (φ : Ph) : VR φ (.tup []) undef := ⟨#[], rfl, trivial⟩
theorem TR.mono {φ ψ : Ph} {t : SF} {a : Act} (h : TR φ t a) (hle : Le φ ψ) : TR ψ t a := ⟨h.n, fun i v hi => ⟨(h.at_ i v hi).1, (h.at_ i v hi).2.mono hle⟩⟩
theorem TR.put {φ : Ph} {t : SF} {a : Act} (h : TR φ t a) {v : SV} {v' : Value} (hv : VR φ v v') (d : Option Tmp) : TR φ (t.put d v) (a.put d v') := by
  cases d with
  | none => exact h
  | some d =>
    refine ⟨by simp [Act.put, h.n], fun i x hi => ?_⟩
    rw [SF.get_put] at hi
    by_cases e : i = d ∧ d < t.n
    · rw [if_pos e] at hi
      cases hi
      obtain ⟨rfl, hd⟩ := e
      rw [h.n] at hd
      simp [Act.put, hd, Array.getD, hv]
    · rw [if_neg e] at hi
      obtain ⟨h1, h2⟩ := h.at_ i x hi
      have hne : i ≠ d := fun e' => e ⟨e', by rw [h.n, ← e']; exact h1⟩
      refine ⟨by simpa [Act.put] using h1, ?_⟩
      rw [Array.getD_eq_getD_getElem?] at h2 ⊢
      simp only [Act.put]
      rw [Array.getElem?_setIfInBounds_ne (fun e' => hne e'.symm)]
      exact h2
theorem ofC_sound {φ : Ph} : ∀ {v : Value} {x : SC}, ofC v = some x → CR φ x v
  | .bool b, x, h => by simp only [ofC, Option.some.injEq] at h; subst h; exact rfl
  | .int k n, x, h => by simp only [ofC, Option.some.injEq] at h; subst h; exact rfl
  | .string s, x, h => by simp only [ofC, Option.some.injEq] at h; subst h; exact ⟨s, rfl, rfl⟩
  | .pointer none, x, h => by simp only [ofC, Option.some.injEq] at h; subst h; exact rfl
  | .pointer (some _), x, h => by simp [ofC] at h
  | .slice none 0 0, x, h => by simp only [ofC, Option.some.injEq] at h; subst h; exact rfl
  | .slice none (_ + 1) _, x, h => by simp [ofC] at h
  | .slice none 0 (_ + 1), x, h => by simp [ofC] at h
  | .slice (some _) _ _, x, h => by simp [ofC] at h
  | .map none, x, h => by simp only [ofC, Option.some.injEq] at h; subst h; exact rfl
  | .map (some _), x, h => by simp [ofC] at h
  | .float _ _, x, h => by simp [ofC] at h
  | .complex _ _ _, x, h => by simp [ofC] at h
  | .chan _, x, h => by simp [ofC] at h
  | .func _ _ _, x, h => by simp [ofC] at h
  | .nilFunc, x, h => by simp [ofC] at h
  | .iface _ _, x, h => by simp [ofC] at h
  | .nilIface, x, h => by simp [ofC] at h
  | .agg _, x, h => by simp [ofC] at h
  | .tuple _, x, h => by simp [ofC] at h
theorem ofCs_sound {φ : Ph} : ∀ {l : List Value} {r : List SC}, ofCs l = some r → All2 (CR φ) r l
  | [], r, h => by simp only [ofCs, Option.some.injEq] at h; subst h; trivial
  | v :: l, r, h => by
    simp only [ofCs] at h
    cases hv : ofC v with
    | none => simp [hv] at h
    | some x =>
      cases hl : ofCs l with
      | none => simp [hv, hl] at h
      | some y =>
        simp only [hv, hl, Option.some.injEq] at h
        subst h
        exact ⟨ofC_sound hv, ofCs_sound hl⟩
theorem ofV_sound {φ : Ph} {v : Value} {x : SV} (h : ofV v = some x) : VR φ x v := by
  unfold ofV at h
  split at h
  · rename_i cs
    cases hl : ofCs cs.toList with
    | none => simp [hl] at h
    | some y => simp only [hl, Option.map_some, Option.some.injEq] at h; subst h; exact ⟨cs, rfl, ofCs_sound hl⟩
  · rename_i cs
    split at h
    · rename_i h0
      simp only [Option.some.injEq] at h
      subst h
      have : cs = #[] := by simpa using h0
      subst this
      exact VR.undef φ
    · cases h
  · cases hl : ofC v with
    | none => simp [hl] at h
    | some y => simp only [hl, Option.map_some, Option.some.injEq] at h; subst h; exact ofC_sound hl
theorem ev_sound {φ : Ph} {t : SF} {a : Act} (h : TR φ t a) {x : Operand} {v : SV} (hv : ev t x = some v) : VR φ v (a.eval x) := by
  cases x with
  | tmp i => exact (h.at_ i v hv).2
  | const c => exact ofV_sound hv
  | global g => simp [ev] at hv
  | func f => simp [ev] at hv
theorem evs_sound {φ : Ph} {t : SF} {a : Act} (h : TR φ t a) : ∀ {l : List Operand} {r : List SV}, evs t l = some r → All2 (VR φ) r (l.map a.eval)
  | [], r, hr => by simp only [evs, Option.some.injEq] at hr; subst hr; trivial
  | x :: l, r, hr => by
    simp only [evs] at hr
    cases hv : ev t x with
    | none => simp [hv] at hr
    | some v =>
      cases hl : evs t l with
      | none => simp [hv, hl] at hr
      | some y =>
        simp only [hv, hl, Option.some.injEq] at hr
        subst hr
        exact ⟨ev_sound h hv, evs_sound h hl⟩
theorem evps_sound {φ : Ph} {t : SF} {a : Act} (h : TR φ t a) : ∀ {l : List (Nat × Operand)} {r : List (Nat × SV)}, evps t l = some r → All2 (fun p q => p.1 = q.1 ∧ VR φ p.2 q.2) r (l.map fun p => (p.1, a.eval p.2))
  | [], r, hr => by simp only [evps, Option.some.injEq] at hr; subst hr; trivial
  | (i, x) :: l, r, hr => by
    simp only [evps] at hr
    cases hv : ev t x with
    | none => simp [hv] at hr
    | some v =>
      cases hl : evps t l with
      | none => simp [hv, hl] at hr
      | some y =>
        simp only [hv, hl, Option.some.injEq] at hr
        subst hr
        exact ⟨⟨rfl, ev_sound h hv⟩, evps_sound h hl⟩
theorem VR.c {φ : Ph} {x : SC} {v : Value} (h : VR φ (.c x) v) : CR φ x v := h

/-! ### Parts -/
theorem rep_len (z : List SC) (n : Nat) : (rep z n).length = n * z.length := by
  induction n with
  | zero => simp [rep]
  | succ n ih => simp only [rep, List.length_append, ih, Nat.succ_mul]; omega
theorem rep_get (z : List SC) : ∀ (n i : Nat), i < n * z.length → (rep z n)[i]? = z[i % z.length]?
  | 0, i, h => by simp at h
  | n + 1, i, h => by
    simp only [rep]
    by_cases hi : i < z.length
    · rw [List.getElem?_append_left hi, Nat.mod_eq_of_lt hi]
    · rw [Nat.succ_mul] at h
      rw [List.getElem?_append_right (by omega), rep_get z n (i - z.length) (by omega)]
      congr 1
      conv => rhs; rw [show i = (i - z.length) + z.length by omega, Nat.add_mod_right]
theorem rep_sound {φ : Ph} {z : List SC} {vs : Array Value} (h : All2 (CR φ) z vs.toList) (n k : Nat) (hk : k = n * z.length) (hz : 0 < z.length) :
    All2 (CR φ) (rep z n) ((Array.range k).map (vs[· % vs.size]!)).toList := by
  have hl := h.length
  refine All2.mk (by simp [rep_len, hk]) fun i a b ha hb => ?_
  have hi : i < n * z.length := by
    rw [← rep_len]
    exact (List.getElem?_eq_some_iff.1 ha).1
  rw [rep_get z n i hi] at ha
  obtain ⟨c, hc, hr⟩ := h.get ha
  have hb' : b = vs[i % vs.size]! := by
    simp [show i < k by omega] at hb
    exact hb.symm
  have hs : vs.size = z.length := by simpa using hl.symm
  rw [hb', hs]
  have : vs[i % z.length]? = some c := by simpa using hc
  simp [getElem!_def, this, hr]
theorem setRange_len (cs : List SC) (o : Nat) (vs : List SC) (h : o + vs.length ≤ cs.length) : (setRange cs o vs).length = cs.length := by
  simp only [setRange, List.length_append, List.length_take, List.length_drop]; omega
theorem foldl_put (off : Nat) : ∀ (vs : List Value) (k : Nat) (arr : Array Value), off + k + vs.length ≤ arr.size →
    ((vs.zipIdx k).foldl (fun cs (x : Value × Nat) => cs.setIfInBounds (off + x.2) x.1) arr).toList = arr.toList.take (off + k) ++ vs ++ arr.toList.drop (off + k + vs.length)
  | [], k, arr, h => by simp
  | v :: vs, k, arr, h => by
    simp only [List.zipIdx_cons, List.foldl_cons]
    simp only [List.length_cons] at h
    rw [foldl_put off vs (k + 1) _ (by simp; omega)]
    have e := list_seg_step arr.toList (off + k) v vs (by simp; omega)
    rw [Array.toList_setIfInBounds]
    rw [show off + (k + 1) = off + k + 1 by omega, e, List.length_cons]
theorem partsIn_sound {φ : Ph} {place : Nat → Option (Nat × Nat)} : ∀ {parts : List (Nat × SV)} {parts' : List (Nat × Value)} {cells : List SC} {vs : Array Value} {r : List SC},
    All2 (fun p q => p.1 = q.1 ∧ VR φ p.2 q.2) parts parts' → All2 (CR φ) cells vs.toList → partsIn place cells parts = some r → ∃ r', Instr.fill place vs parts' = some r' ∧ All2 (CR φ) r r'.toList
  | [], [], cells, vs, r, _, hc, h => by simp only [partsIn, Option.some.injEq] at h; subst h; exact ⟨vs, rfl, hc⟩
  | (i, v) :: rest, (j, v') :: rest', cells, vs, r, hp, hc, h => by
    obtain ⟨⟨hij, hv⟩, hrest⟩ := hp
    simp only at hij
    subst hij
    simp only [partsIn] at h
    cases hpl : place i with
    | none => simp [hpl] at h
    | some q =>
      obtain ⟨off, size⟩ := q
      cases hcs : v.cells with
      | none => simp [hpl, hcs] at h
      | some cs =>
        simp only [hpl, hcs] at h
        split at h
        · rename_i hif
          obtain ⟨h1, h2⟩ := hif
          have hvc := hv.cells hcs
          have hl := hvc.length
          have hlc := hc.length
          simp only [Array.length_toList] at hl hlc
          have hall : All2 (CR φ) (setRange cells off cs) (v'.cells.zipIdx.foldl (fun cs (x : Value × Nat) => cs.setIfInBounds (off + x.2) x.1) vs).toList := by
            rw [← Array.foldl_toList, Array.toList_zipIdx]
            rw [foldl_put off _ 0 vs (by simp; omega)]
            simp only [setRange, Nat.add_zero]
            refine ((hc.take off).app hvc).app ?_
            rw [show off + v'.cells.toList.length = off + cs.length by rw [hvc.length]]
            exact hc.drop _
          obtain ⟨r', hr', hr⟩ := partsIn_sound hrest hall h
          refine ⟨r', ?_, hr⟩
          unfold Instr.fill
          simp only [hpl]
          rw [if_neg (by simp; omega)]
          exact hr'
        · cases h
end Go.Proofs.Ytgaaffanoegbhaa.Sim
