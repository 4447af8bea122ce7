/- Texts of this claim, several in one: SimO, SimP, SimQ, SimR. -/
import Derived.Test.YtjlfojgacnphmaaMgKeepVotes2
import Derived.Laws.Tables
import Derived.Great.BuildSlice
namespace Go.Proofs.Ytjlfojgacnphmaa.Sim
open Go Go.RowKit
set_option linter.unusedSimpArgs false
set_option linter.unusedVariables false

structure TR (φ : Ph) (t : SF) (a : Act) : Prop where
  n : t.n = a.tmps.size
  at_ : ∀ i v, t.get i = some v → i < a.tmps.size ∧ VR φ v (a.tmps.getD i undef)
theorem VR.undef (φ : Ph) : VR φ (.tup []) undef := ⟨#[], rfl, trivial⟩
theorem TR.mono {φ ψ : Ph} {t : SF} {a : Act} (h : TR φ t a) (hle : Le φ ψ) : TR ψ t a := ⟨h.n, fun i v hi => ⟨(h.at_ i v hi).1, (h.at_ i v hi).2.mono hle⟩⟩
theorem TR.put {φ : Ph} {t : SF} {a : Act} (h : TR φ t a) {v : SV} {v' : Value} (hv : VR φ v v') (d : Option Tmp) : TR φ (t.put d v) (a.put d v') := by
  cases d with
  | none => exact h
  | some d =>
    refine ⟨by simp [Act.put, h.n], fun i x hi => ?_⟩
    rw [SF.get_put] at hi
    by_cases e : i = d ∧ d < t.n
    · rw [if_pos e] at hi
      cases hi
      obtain ⟨rfl, hd⟩ := e
      rw [h.n] at hd
      simp [Act.put, hd, Array.getD, hv]
    · rw [if_neg e] at hi
      obtain ⟨h1, h2⟩ := h.at_ i x hi
      have hne : i ≠ d := fun e' => e ⟨e', by rw [h.n, ← e']; exact h1⟩
      refine ⟨by simpa [Act.put] using h1, ?_⟩
      rw [Array.getD_eq_getD_getElem?] at h2 ⊢
      simp only [Act.put]
      rw [Array.getElem?_setIfInBounds_ne (fun e' => hne e'.symm)]
      exact h2
theorem ofC_sound {φ : Ph} : ∀ {v : Value} {x : SC}, ofC v = some x → CR φ x v
  | .bool b, x, h => by simp only [ofC, Option.some.injEq] at h; subst h; exact rfl
  | .int k n, x, h => by simp only [ofC, Option.some.injEq] at h; subst h; exact rfl
  | .string s, x, h => by simp only [ofC, Option.some.injEq] at h; subst h; exact ⟨s, rfl, rfl⟩
  | .pointer none, x, h => by simp only [ofC, Option.some.injEq] at h; subst h; exact rfl
  | .pointer (some _), x, h => by simp [ofC] at h
  | .slice none 0 0, x, h => by simp only [ofC, Option.some.injEq] at h; subst h; exact rfl
  | .slice none (_ + 1) _, x, h => by simp [ofC] at h
  | .slice none 0 (_ + 1), x, h => by simp [ofC] at h
  | .slice (some _) _ _, x, h => by simp [ofC] at h
  | .map none, x, h => by simp only [ofC, Option.some.injEq] at h; subst h; exact rfl
  | .map (some _), x, h => by simp [ofC] at h
  | .float _ _, x, h => by simp [ofC] at h
  | .complex _ _ _, x, h => by simp [ofC] at h
  | .chan _, x, h => by simp [ofC] at h
  | .func _ _ _, x, h => by simp [ofC] at h
  | .nilFunc, x, h => by simp [ofC] at h
  | .iface _ _, x, h => by simp [ofC] at h
  | .nilIface, x, h => by simp [ofC] at h
  | .agg _, x, h => by simp [ofC] at h
  | .tuple _, x, h => by simp [ofC] at h
theorem ofCs_sound {φ : Ph} : ∀ {l : List Value} {r : List SC}, ofCs l = some r → All2 (CR φ) r l
  | [], r, h => by simp only [ofCs, Option.some.injEq] at h; subst h; trivial
  | v :: l, r, h => by
    simp only [ofCs] at h
    cases hv : ofC v with
    | none => simp [hv] at h
    | some x =>
      cases hl : ofCs l with
      | none => simp [hv, hl] at h
      | some y =>
        simp only [hv, hl, Option.some.injEq] at h
        subst h
        exact ⟨ofC_sound hv, ofCs_sound hl⟩
theorem ofV_sound {φ : Ph} {v : Value} {x : SV} (h : ofV v = some x) : VR φ x v := by
  unfold ofV at h
  split at h
  · rename_i cs
    cases hl : ofCs cs.toList with
    | none => simp [hl] at h
    | some y => simp only [hl, Option.map_some, Option.some.injEq] at h; subst h; exact ⟨cs, rfl, ofCs_sound hl⟩
  · rename_i cs
    split at h
    · rename_i h0
      simp only [Option.some.injEq] at h
      subst h
      have : cs = #[] := by simpa using h0
      subst this
      exact VR.undef φ
    · cases h
  · cases hl : ofC v with
    | none => simp [hl] at h
    | some y => simp only [hl, Option.map_some, Option.some.injEq] at h; subst h; exact ofC_sound hl
theorem ev_sound {φ : Ph} {t : SF} {a : Act} (h : TR φ t a) {x : Operand} {v : SV} (hv : ev t x = some v) : VR φ v (a.eval x) := by
  cases x with
  | tmp i => exact (h.at_ i v hv).2
  | const c => exact ofV_sound hv
  | global g => simp [ev] at hv
  | func f =>
    simp only [ev, Option.some.injEq] at hv
    subst hv
    simp only [VR, VR1, CR]
    exact ⟨#[], #[], rfl, by simp [CRl], by simp [CRl]⟩
theorem evs_sound {φ : Ph} {t : SF} {a : Act} (h : TR φ t a) : ∀ {l : List Operand} {r : List SV}, evs t l = some r → All2 (VR φ) r (l.map a.eval)
  | [], r, hr => by simp only [evs, Option.some.injEq] at hr; subst hr; trivial
  | x :: l, r, hr => by
    simp only [evs] at hr
    cases hv : ev t x with
    | none => simp [hv] at hr
    | some v =>
      cases hl : evs t l with
      | none => simp [hv, hl] at hr
      | some y =>
        simp only [hv, hl, Option.some.injEq] at hr
        subst hr
        exact ⟨ev_sound h hv, evs_sound h hl⟩
theorem evps_sound {φ : Ph} {t : SF} {a : Act} (h : TR φ t a) : ∀ {l : List (Nat × Operand)} {r : List (Nat × SV)}, evps t l = some r → All2 (fun p q => p.1 = q.1 ∧ VR φ p.2 q.2) r (l.map fun p => (p.1, a.eval p.2))
  | [], r, hr => by simp only [evps, Option.some.injEq] at hr; subst hr; trivial
  | (i, x) :: l, r, hr => by
    simp only [evps] at hr
    cases hv : ev t x with
    | none => simp [hv] at hr
    | some v =>
      cases hl : evps t l with
      | none => simp [hv, hl] at hr
      | some y =>
        simp only [hv, hl, Option.some.injEq] at hr
        subst hr
        exact ⟨⟨rfl, ev_sound h hv⟩, evps_sound h hl⟩
theorem VR.c {φ : Ph} {x : SC} {v : Value} (h : VR φ (.c x) v) : CR φ x v := h

/-! ### Parts -/
theorem rep_len (z : List SC) (n : Nat) : (rep z n).length = n * z.length := by
  induction n with
  | zero => simp [rep]
  | succ n ih => simp only [rep, List.length_append, ih, Nat.succ_mul]; omega
theorem rep_get (z : List SC) : ∀ (n i : Nat), i < n * z.length → (rep z n)[i]? = z[i % z.length]?
  | 0, i, h => by simp at h
  | n + 1, i, h => by
    simp only [rep]
    by_cases hi : i < z.length
    · rw [List.getElem?_append_left hi, Nat.mod_eq_of_lt hi]
    · rw [Nat.succ_mul] at h
      rw [List.getElem?_append_right (by omega), rep_get z n (i - z.length) (by omega)]
      congr 1
      conv => rhs; rw [show i = (i - z.length) + z.length by omega, Nat.add_mod_right]
theorem rep_sound {φ : Ph} {z : List SC} {vs : Array Value} (h : All2 (CR φ) z vs.toList) (n k : Nat) (hk : k = n * z.length) (hz : 0 < z.length) :
    All2 (CR φ) (rep z n) ((Array.range k).map (vs[· % vs.size]!)).toList := by
  have hl := h.length
  refine All2.mk (by simp [rep_len, hk]) fun i a b ha hb => ?_
  have hi : i < n * z.length := by
    rw [← rep_len]
    exact (List.getElem?_eq_some_iff.1 ha).1
  rw [rep_get z n i hi] at ha
  obtain ⟨c, hc, hr⟩ := h.get ha
  have hb' : b = vs[i % vs.size]! := by
    simp [show i < k by omega] at hb
    exact hb.symm
  have hs : vs.size = z.length := by simpa using hl.symm
  rw [hb', hs]
  have : vs[i % z.length]? = some c := by simpa using hc
  simp [getElem!_def, this, hr]
theorem setRange_len (cs : List SC) (o : Nat) (vs : List SC) (h : o + vs.length ≤ cs.length) : (setRange cs o vs).length = cs.length := by
  simp only [setRange, List.length_append, List.length_take, List.length_drop]; omega
theorem foldl_put (off : Nat) : ∀ (vs : List Value) (k : Nat) (arr : Array Value), off + k + vs.length ≤ arr.size →
    ((vs.zipIdx k).foldl (fun cs (x : Value × Nat) => cs.setIfInBounds (off + x.2) x.1) arr).toList = arr.toList.take (off + k) ++ vs ++ arr.toList.drop (off + k + vs.length)
  | [], k, arr, h => by simp
  | v :: vs, k, arr, h => by
    simp only [List.zipIdx_cons, List.foldl_cons]
    simp only [List.length_cons] at h
    rw [foldl_put off vs (k + 1) _ (by simp; omega)]
    have e := list_seg_step arr.toList (off + k) v vs (by simp; omega)
    rw [Array.toList_setIfInBounds]
    rw [show off + (k + 1) = off + k + 1 by omega, e, List.length_cons]
theorem partsIn_sound {φ : Ph} {place : Nat → Option (Nat × Nat)} : ∀ {parts : List (Nat × SV)} {parts' : List (Nat × Value)} {cells : List SC} {vs : Array Value} {r : List SC},
    All2 (fun p q => p.1 = q.1 ∧ VR φ p.2 q.2) parts parts' → All2 (CR φ) cells vs.toList → partsIn place cells parts = some r → ∃ r', Instr.fill place vs parts' = some r' ∧ All2 (CR φ) r r'.toList
  | [], [], cells, vs, r, _, hc, h => by simp only [partsIn, Option.some.injEq] at h; subst h; exact ⟨vs, rfl, hc⟩
  | (i, v) :: rest, (j, v') :: rest', cells, vs, r, hp, hc, h => by
    obtain ⟨⟨hij, hv⟩, hrest⟩ := hp
    simp only at hij
    subst hij
    simp only [partsIn] at h
    cases hpl : place i with
    | none => simp [hpl] at h
    | some q =>
      obtain ⟨off, size⟩ := q
      cases hcs : v.cells with
      | none => simp [hpl, hcs] at h
      | some cs =>
        simp only [hpl, hcs] at h
        split at h
        · rename_i hif
          obtain ⟨h1, h2⟩ := hif
          have hvc := hv.cells hcs
          have hl := hvc.length
          have hlc := hc.length
          simp only [Array.length_toList] at hl hlc
          have hall : All2 (CR φ) (setRange cells off cs) (v'.cells.zipIdx.foldl (fun cs (x : Value × Nat) => cs.setIfInBounds (off + x.2) x.1) vs).toList := by
            rw [← Array.foldl_toList, Array.toList_zipIdx]
            rw [foldl_put off _ 0 vs (by simp; omega)]
            simp only [setRange, Nat.add_zero]
            refine ((hc.take off).app hvc).app ?_
            rw [show off + v'.cells.toList.length = off + cs.length by rw [hvc.length]]
            exact hc.drop _
          obtain ⟨r', hr', hr⟩ := partsIn_sound hrest hall h
          refine ⟨r', ?_, hr⟩
          unfold Instr.fill
          simp only [hpl]
          rw [if_neg (by simp; omega)]
          exact hr'
        · cases h
end Go.Proofs.Ytjlfojgacnphmaa.Sim

namespace Go.Proofs.Ytjlfojgacnphmaa.Sim
open Go Go.RowKit
set_option linter.unusedSimpArgs false
set_option linter.unusedVariables false

def Fits (base : Nat) (φ : Ph) (h : SH) (w : World) (v : SV) (h' : SH) (r : Result Value) : Prop :=
  ∃ v' w' φ', r = .ok v' w' ∧ VR φ' v v' ∧ HR base φ' h' w' ∧ Mv φ h w φ' h' w'
theorem Fits.pure {base : Nat} {φ : Ph} {h : SH} {w : World} {v : SV} {v' : Value} {r : Result Value} (hr : HR base φ h w) (e : r = .ok v' w) (hv : VR φ v v') : Fits base φ h w v h r :=
  ⟨v', w, φ, e, hv, hr, Mv.refl _ _ _⟩

theorem eqL_iff : ∀ (x y : List Nat), eqL x y = decide (x = y)
  | [], [] => by simp [eqL]
  | [], _ :: _ => by simp [eqL]
  | _ :: _, [] => by simp [eqL]
  | a :: x, b :: y => by
    simp only [eqL, eqL_iff x y, List.cons.injEq, Bool.decide_and]
    congr 1
    rw [Bool.eq_iff_iff]; simp
theorem map_toNat_inj : ∀ {x y : List UInt8}, x.map UInt8.toNat = y.map UInt8.toNat → x = y
  | [], [], _ => rfl
  | [], _ :: _, h => by simp at h
  | _ :: _, [], h => by simp at h
  | a :: x, b :: y, h => by
    simp only [List.map_cons, List.cons.injEq] at h
    rw [UInt8.toNat_inj.1 h.1, map_toNat_inj h.2]
theorem less_nat : ∀ (x y : List UInt8), Op.bytesLess x y = sBytesLess (x.map UInt8.toNat) (y.map UInt8.toNat)
  | [], [] => by simp [Op.bytesLess, sBytesLess]
  | [], _ :: _ => by simp [Op.bytesLess, sBytesLess]
  | _ :: _, [] => by simp [Op.bytesLess, sBytesLess]
  | a :: x, b :: y => by
    simp only [Op.bytesLess, sBytesLess, List.map_cons, less_nat x y]
    congr 1
    · rw [Bool.eq_iff_iff]; simp [UInt8.lt_iff_toNat_lt]
    · congr 1
      rw [Bool.eq_iff_iff]; simp [UInt8.toNat_inj]
theorem eq_nat (x y : ByteArray) : (x.toList == y.toList) = eqL (x.data.toList.map UInt8.toNat) (y.data.toList.map UInt8.toNat) := by
  rw [eqL_iff, ByteArray.toList_eq, ByteArray.toList_eq, Bool.eq_iff_iff]
  simp only [beq_iff_eq, decide_eq_true_eq]
  exact ⟨fun h => by rw [h], map_toNat_inj⟩


theorem guard_one {P : Program} (op : BinOp) (ty : TypeId) (X Y : Operand) {a b : Value} (ha : a.oneCell' = true) (h0 : a ≠ .nilIface) (w : World) : (eqGuard op ty X Y a b).run P w = .ok () w := by
  unfold eqGuard
  cases a <;> simp_all [Value.oneCell'] <;> (cases op <;> simp)
theorem CR.noIface {φ : Ph} {x : SC} {v : Value} (r : CR φ x v) : v ≠ .nilIface := by
  cases x with
  | mp b => cases b with
    | none => simp only [CR] at r; subst r; simp
    | some b => simp only [CR] at r; obtain ⟨_, _, rfl⟩ := r; simp
  | bool b => simp only [CR] at r; subst r; simp
  | int k n => simp only [CR] at r; subst r; simp
  | str l => simp only [CR] at r; obtain ⟨_, rfl, _⟩ := r; simp
  | nilp => simp only [CR] at r; subst r; simp
  | ptr b o => simp only [CR] at r; obtain ⟨_, _, rfl⟩ := r; simp
  | nils => simp only [CR] at r; subst r; simp
  | em => simp only [CR] at r; obtain ⟨_, _, rfl, _⟩ := r; simp
  | sl b o n s c => simp only [CR] at r; obtain ⟨_, _, _, _, rfl, _⟩ := r; simp
  | fz n s l c => simp only [CR] at r; obtain ⟨_, _, _, rfl, _⟩ := r; simp
  | fp l o => simp only [CR] at r; obtain ⟨_, rfl, _⟩ := r; simp
  | cl f x y => simp only [CR] at r; obtain ⟨_, _, rfl, _⟩ := r; simp
  | ifc t x => simp only [CR] at r; obtain ⟨_, rfl, _⟩ := r; simp
theorem sInt_sound {P : Program} {φ : Ph} (op : BinOp) (ty : TypeId) {k : IntKind} {a b : Int} {z : SC} (hop : op ≠ .shl ∧ op ≠ .shr) (h : sInt op k a b = some z) (w : World) :
    ∃ v, (binOp op ty (.int k a) (.int k b)).run P w = .ok v w ∧ CR φ z v := by
  cases op <;> simp only [sInt, sCmp, Option.some.injEq, reduceCtorEq] at h <;> try (simp at hop; done)
  case quo =>
    split at h
    · cases h
    · rename_i hb
      simp only [Option.some.injEq] at h
      subst h
      exact ⟨_, by simp [binOp, Op.intDiv, hb], rfl⟩
  case rem =>
    split at h
    · cases h
    · rename_i hb
      simp only [Option.some.injEq] at h
      subst h
      exact ⟨_, by simp [binOp, Op.intDiv, hb], rfl⟩
  all_goals
    subst h
    simp only [binOp, ne_eq, not_true_eq_false, if_false, Op.intArith, Op.intCmp, intBits_and, intBits_or, intBits_xor, intBits_andNot]
    refine ⟨_, rfl, ?_⟩
    first
      | rfl
      | (simp only [CR, Value.bool.injEq]; rw [Bool.eq_iff_iff]; simp)
theorem sStr_sound {P : Program} {φ : Ph} (op : BinOp) (ty : TypeId) {x y : ByteArray} {z : SC} (h : sStr op (x.data.toList.map UInt8.toNat) (y.data.toList.map UInt8.toNat) = some z) (w : World) :
    ∃ v, (binOp op ty (.string x) (.string y)).run P w = .ok v w ∧ CR φ z v := by
  have he := eq_nat x y
  have hl := less_nat x.toList y.toList
  rw [ByteArray.toList_eq, ByteArray.toList_eq] at hl he
  cases op <;> simp only [sStr, Option.some.injEq, reduceCtorEq] at h
  case add =>
    split at h
    · rename_i hb
      simp only [Option.some.injEq] at h
      subst h
      have hb' : ¬ (((x.size + y.size : Nat) : Int) > IntKind.i64.max) := by
        have h1 : x.size = x.data.toList.length := rfl
        have h2 : y.size = y.data.toList.length := rfl
        simp only [List.length_map] at hb
        have : IntKind.i64.max = 9223372036854775807 := rfl
        omega
      refine ⟨.string (x ++ y), ?_, x ++ y, rfl, by simp⟩
      simp only [binOp, Op.stringOp, if_neg hb']
      rfl
    · cases h
  all_goals
    subst h
    refine ⟨_, by simp only [binOp, Op.stringOp]; rfl, ?_⟩
    simp only [CR, Value.bool.injEq, ByteArray.toList_eq, he, hl]
theorem sNil_sound {P : Program} {φ : Ph} (ty : TypeId) {d : TypeDesc} {x y : SC} {r : Bool} {a b : Value} (hx : CR φ x a) (hy : CR φ y b) (hd : P.underlying ty = some d) (h : sNil d x y = some r) (w : World) :
    (Op.equal ty a b).run P w = .ok r w := by
  suffices hn : ∀ n, (Op.equalIn (n + 1) ty a b).run P w = .ok r w from hn 9999
  intro n
  unfold sNil at h
  split at h <;> simp only [Option.some.injEq, reduceCtorEq] at h <;> subst h <;> simp only [CR] at hx hy
  all_goals
    first
      | subst hx
      | (obtain ⟨_, rfl, _⟩ := hx)
      | (obtain ⟨_, _, rfl⟩ := hx)
      | (obtain ⟨_, _, rfl, _⟩ := hx)
      | (obtain ⟨_, _, _, rfl, _⟩ := hx)
      | (obtain ⟨_, _, _, _, rfl, _⟩ := hx)
  all_goals
    first
      | subst hy
      | (obtain ⟨_, rfl, _⟩ := hy)
      | (obtain ⟨_, _, rfl⟩ := hy)
      | (obtain ⟨_, _, rfl, _⟩ := hy)
      | (obtain ⟨_, _, _, rfl, _⟩ := hy)
      | (obtain ⟨_, _, _, _, rfl, _⟩ := hy)
  all_goals simp [Op.equalIn, run_underlying hd]
theorem eq_of_equal {P : Program} (ty : TypeId) {a b : Value} {r : Bool} {w : World} (ha : ∀ k n, a ≠ .int k n) (hs : ∀ s, a ≠ .string s) (hf : ∀ k n, a ≠ .float k n) (hc : ∀ k n m, a ≠ .complex k n m) (h : (Op.equal ty a b).run P w = .ok r w) :
    (binOp .eql ty a b).run P w = .ok (.bool r) w ∧ (binOp .neq ty a b).run P w = .ok (.bool (!r)) w := by
  constructor
  · have : binOp .eql ty a b = (do pure (.bool (← Op.equal ty a b)) : Sem Value) := by
      unfold binOp
      cases a <;> cases b <;> first | rfl | simp_all
    rw [this]; simp [h]
  · have : binOp .neq ty a b = (do pure (.bool (!(← Op.equal ty a b))) : Sem Value) := by
      unfold binOp
      cases a <;> cases b <;> first | rfl | simp_all
    rw [this]; simp [h]
theorem sNil_kind {φ : Ph} {d : TypeDesc} {x y : SC} {r : Bool} {a : Value} (h : sNil d x y = some r) (hx : CR φ x a) : (∀ k n, a ≠ .int k n) ∧ (∀ s, a ≠ .string s) ∧ (∀ k n, a ≠ .float k n) ∧ (∀ k n m, a ≠ .complex k n m) := by
  cases x with
  | int k n => simp [sNil] at h
  | str l => simp [sNil] at h
  | bool b => simp only [CR] at hx; subst hx; simp
  | nilp => simp only [CR] at hx; subst hx; simp
  | ptr b o => simp only [CR] at hx; obtain ⟨L, _, rfl⟩ := hx; simp
  | nils => simp only [CR] at hx; subst hx; simp
  | em => simp only [CR] at hx; obtain ⟨_, _, rfl, _⟩ := hx; simp
  | sl b o n s c => simp only [CR] at hx; obtain ⟨_, _, _, _, rfl, _⟩ := hx; simp
  | fz n s l c => simp only [CR] at hx; obtain ⟨_, _, _, rfl, _⟩ := hx; simp
  | fp l o => simp only [CR] at hx; obtain ⟨_, rfl, _⟩ := hx; simp
  | cl f x y => simp only [CR] at hx; obtain ⟨_, _, rfl, _⟩ := hx; simp
  | ifc t x => simp only [CR] at hx; obtain ⟨_, rfl, _⟩ := hx; simp
  | mp b => cases b with
    | none => simp only [CR] at hx; subst hx; simp
    | some b => simp only [CR] at hx; obtain ⟨L, _, rfl⟩ := hx; simp
theorem sBin_sound {P : Program} {φ : Ph} (op : BinOp) (ty : TypeId) (X Y : Operand) {x y z : SC} {a b : Value} (hx : CR φ x a) (hy : CR φ y b) (h : sBin (P.underlying ty) op x y = some z) (w : World) :
    ∃ v, (do eqGuard op ty X Y a b; binOp op ty a b : Sem Value).run P w = .ok v w ∧ CR φ z v := by
  have hg := guard_one (P := P) op ty X Y (b := b) hx.one hx.noIface w
  have key : ∃ v, (binOp op ty a b).run P w = .ok v w ∧ CR φ z v := by
    unfold sBin at h
    split at h
    · rename_i k n k' n'
      simp only [CR] at hx hy
      subst hx hy
      split at h
      · split at h
        · cases h
        · rename_i hb
          simp only [Option.some.injEq] at h
          subst h
          exact ⟨_, by simp [binOp, Op.shift, hb], rfl⟩
      · split at h
        · cases h
        · rename_i hb
          simp only [Option.some.injEq] at h
          subst h
          exact ⟨_, by simp [binOp, Op.shift, hb], rfl⟩
      · rename_i h1 h2
        split at h
        · rename_i hk
          subst hk
          exact sInt_sound op ty ⟨h1, h2⟩ h w
        · cases h
    · obtain ⟨s, rfl, hs⟩ := hx
      obtain ⟨s', rfl, hs'⟩ := hy
      subst hs hs'
      exact sStr_sound op ty h w
    · rename_i h1 h2
      cases hd : P.underlying ty with
      | none => simp [hd] at h
      | some d =>
        simp only [hd] at h
        cases hn : sNil d x y with
        | none => split at h <;> simp [hn] at h
        | some r =>
          obtain ⟨k1, k2, k3, k4⟩ := sNil_kind hn hx
          have he := eq_of_equal (P := P) ty k1 k2 k3 k4 (sNil_sound (P := P) ty hx hy hd hn w)
          split at h
          · simp only [hn, Option.map_some, Option.some.injEq] at h
            subst h
            exact ⟨_, he.1, rfl⟩
          · simp only [hn, Option.map_some, Option.some.injEq] at h
            subst h
            exact ⟨_, he.2, rfl⟩
          · cases h
  obtain ⟨v, h1, h2⟩ := key
  exact ⟨v, by simp [hg, h1], h2⟩
end Go.Proofs.Ytjlfojgacnphmaa.Sim

namespace Go.Proofs.Ytjlfojgacnphmaa.Sim
open Go Go.RowKit
set_option linter.unusedSimpArgs false
set_option linter.unusedVariables false
variable {P : Program}

theorem sUn_sound {φ : Ph} (op : UnOp) {x z : SC} {a : Value} (hx : CR φ x a) (h : sUn op x = some z) (w : World) : ∃ v, (Op.unary op a).run P w = .ok v w ∧ CR φ z v := by
  unfold sUn at h
  split at h
  · simp only [CR] at hx; subst hx
    simp only [Option.some.injEq] at h; subst h
    exact ⟨_, rfl, rfl⟩
  · simp only [CR] at hx; subst hx
    simp only [Option.some.injEq] at h; subst h
    exact ⟨_, rfl, rfl⟩
  · simp only [CR] at hx; subst hx
    simp only [Option.some.injEq] at h; subst h
    exact ⟨_, rfl, rfl⟩
  · cases h
theorem info_of_sz {t : TypeId} {n : Nat} (h : szOf P t = some n) : ∃ i, P.info? t = some i ∧ i.size = n := by
  unfold szOf at h
  cases hi : P.info? t with
  | none => simp [hi] at h
  | some i => simp only [hi, Option.some.injEq] at h; exact ⟨i, rfl, h⟩
theorem run_sizeOf {t : TypeId} {n : Nat} (h : szOf P t = some n) (w : World) : (sizeOf t).run P w = .ok n w := by
  obtain ⟨i, hi, rfl⟩ := info_of_sz h
  simp [sizeOf, typeInfo, hi]
theorem run_isAg {t : TypeId} {b : Bool} (h : isAg P t = some b) (w : World) : (isAgg t).run P w = .ok b w := by
  unfold isAg at h
  cases hd : P.underlying t with
  | none => simp [hd] at h
  | some d => cases d <;> simp only [hd, Option.some.injEq] at h <;> subst h <;> simp [isAgg, run_underlying hd]
theorem zero_of {t : TypeId} {z : List SC} (h : zeroOf P t = some z) : ∃ i v, P.info? t = some i ∧ i.zero = some v ∧ ∀ φ, All2 (CR φ) z v.cells.toList := by
  unfold zeroOf at h
  cases hi : P.info? t with
  | none => simp [hi] at h
  | some i =>
    cases hz : i.zero with
    | none => simp [hi, hz] at h
    | some v =>
      cases hv : ofV v with
      | none => simp [hi, hz, hv] at h
      | some s =>
        simp only [hi, hz, hv] at h
        exact ⟨i, v, rfl, hz, fun φ => (ofV_sound hv).cells h⟩
theorem run_zero {t : TypeId} {i : TypeInfo} {v : Value} (hi : P.info? t = some i) (hz : i.zero = some v) (w : World) : (zeroValue t).run P w = .ok v w := by
  simp [zeroValue, typeInfo, hi, hz]
def AllocForm (φ : Ph) (n : Nat) (w : World) (v : SV) (q : List SC) (r : Result Value) : Prop :=
  ∃ (cs : Array Value) (E : TypeId) (v' : Value), r = .ok v' { w with heap := w.heap.push (.cells cs E (0, 0)) } ∧ (∀ (i : Nat) (x : SC), q[i]? = some x → ∃ u, cs[i]? = some u ∧ CR φ x u) ∧
    ∀ ψ : Ph, ψ n = some ⟨w.heap.size, 0, cs.size, q.length⟩ → VR ψ v v'
theorem newVar_form {φ : Ph} {w : World} (n : Nat) (t : TypeId) {cs : List SC} {v : Value} (hv : All2 (CR φ) cs v.cells.toList) :
    AllocForm φ n w (.c (.ptr n 0)) cs ((do pure (.pointer (some (← newVar t v))) : Sem Value).run P w) :=
  ⟨v.cells, t, .pointer (some ⟨w.heap.size, 0, none⟩), by simp [newVar, newRow], fun i x hx => by obtain ⟨b, hb, hr⟩ := hv.get hx; exact ⟨b, by simpa using hb, hr⟩, fun ψ hψ => ⟨_, hψ, rfl⟩⟩
theorem alloc_form {φ : Ph} {w : World} (n : Nat) {t : TypeId} {z : List SC} (hz : zeroOf P t = some z) : AllocForm φ n w (.c (.ptr n 0)) z ((Instr.alloc t true (.tuple #[])).run P w) := by
  obtain ⟨i, v, hi, hv, hz⟩ := zero_of hz
  have := newVar_form (P := P) (w := w) n t (v := v) (hz φ)
  simpa [Instr.alloc, run_zero hi hv] using this
theorem newVar_fits {base : Nat} {φ : Ph} {h : SH} {w : World} (r : HR base φ h w) (t : TypeId) {cs : List SC} {v : Value} (hv : All2 (CR φ) cs v.cells.toList) :
    Fits base φ h w (.c (.ptr h.next 0)) (h.new cs) ((do pure (.pointer (some (← newVar t v))) : Sem Value).run P w) := by
  obtain ⟨h1, h2, h3⟩ := r.alloc (w' := { w with heap := w.heap.push (.cells v.cells t) }) cs v.cells t (0, 0) (by simp) (fun k hk => by simp [Array.getElem?_push, Nat.ne_of_lt hk]) (by simp)
    (fun i x hx => by obtain ⟨b, hb, hr⟩ := hv.get hx; exact ⟨b, by simpa using hb, hr⟩) (.inl rfl) rfl rfl rfl
  exact ⟨.pointer (some ⟨w.heap.size, 0, none⟩), _, _, by simp [newVar, newRow], ⟨_, h3, rfl⟩, h1, h2⟩
theorem alloc_fits {base : Nat} {φ : Ph} {h : SH} {w : World} (r : HR base φ h w) {t : TypeId} {z : List SC} (hz : zeroOf P t = some z) :
    Fits base φ h w (.c (.ptr h.next 0)) (h.new z) ((Instr.alloc t true (.tuple #[])).run P w) := by
  obtain ⟨i, v, hi, hv, hz⟩ := zero_of hz
  have := newVar_fits (P := P) r t (v := v) (hz φ)
  simpa [Instr.alloc, run_zero hi hv] using this
theorem box_fits {base : Nat} {φ : Ph} {h : SH} {w : World} (r : HR base φ h w) (t : TypeId) {x : SV} {v : Value} {cs : List SC} (hv : VR φ x v) (hc : x.cells = some cs) :
    Fits base φ h w (.c (.ptr h.next 0)) (h.new cs) ((Instr.box t v).run P w) := newVar_fits (P := P) r t (hv.cells hc)
theorem box_form {φ : Ph} {w : World} (n : Nat) (t : TypeId) {x : SV} {v : Value} {cs : List SC} (hv : VR φ x v) (hc : x.cells = some cs) :
    AllocForm φ n w (.c (.ptr n 0)) cs ((Instr.box t v).run P w) := newVar_form (P := P) n t (hv.cells hc)
theorem HR.row {base : Nat} {φ : Ph} {h : SH} {w : World} (r : HR base φ h w) {b : Nat} {q : List SC} {own : Bool} (hb : h.get b = some (.row q own)) :
    ∃ L cs E fr, φ b = some L ∧ w.heap[L.m]? = some (.cells cs E fr) ∧ L.len = q.length ∧ (∀ (i : Nat) (x : SC), q[i]? = some x → ∃ v, cs[L.m0 + i]? = some v ∧ CR φ x v) ∧
      (own = true → base ≤ L.m ∧ cs.size = L.sz ∧ L.m0 + q.length ≤ cs.size ∧ (fr.1 = fr.2 ∨ cs.size ≤ fr.1)) := by
  obtain ⟨L, h1, h2, cs, E, fr, h3, h4, h5⟩ := r.live b _ hb
  exact ⟨L, cs, E, fr, h1, h3, h2, h4, h5⟩
theorem read_all2 {base : Nat} {φ : Ph} {h : SH} {w : World} (r : HR base φ h w) {b o n : Nat} {cs : List SC} (hr : h.read b o n = some cs) {L : Loc} (hL : φ b = some L) :
    ∃ vs : List Value, vs.length = n ∧ All2 (CR φ) cs vs ∧ ∀ j v, vs[j]? = some v → w.cell? ((⟨L.m, L.m0 + o, none⟩ : Addr).add j) = some v := by
  unfold SH.read at hr
  split at hr
  · rename_i q own hb
    split at hr
    · rename_i hle
      simp only [Option.some.injEq] at hr
      subst hr
      obtain ⟨L', ws, E, fr, h1, h2, h3, h4, -⟩ := r.row hb
      rw [hL] at h1
      cases h1
      have hcell : ∀ i, i < n → ∃ v x, q[o + i]? = some x ∧ ws[L.m0 + (o + i)]? = some v ∧ CR φ x v := fun i hi => by
        have hx : q[o + i]? = some q[o + i] := List.getElem?_eq_getElem (by omega)
        obtain ⟨v, a, b⟩ := h4 _ _ hx
        exact ⟨v, _, hx, a, b⟩
      refine ⟨(List.range n).map fun i => ws.getD (L.m0 + (o + i)) undef, by simp, All2.mk (by simp; omega) fun i x v hx hv => ?_, fun j v hv => ?_⟩
      · rw [List.getElem?_take] at hx
        split at hx
        · rename_i hi
          rw [List.getElem?_drop] at hx
          obtain ⟨v', x', a, b, c⟩ := hcell i hi
          rw [hx] at a; cases a
          simp [hi, Array.getD_eq_getD_getElem?, b] at hv
          subst hv
          exact c
        · cases hx
      · have hj : j < n := by
          have := (List.getElem?_eq_some_iff.1 hv).1
          simpa using this
        obtain ⟨v', x', a, b, c⟩ := hcell j hj
        simp [hj, Array.getD_eq_getD_getElem?, b] at hv
        subst hv
        rw [Addr.add_lit]
        simp only [World.cell?, h2]
        rw [Nat.add_assoc]
        exact b
    · cases hr
  · cases hr
theorem load_sound {base : Nat} {φ : Ph} {h : SH} {w : World} (r : HR base φ h w) {t : TypeId} {b o : Nat} {v : SV} {a : Value} (ha : CR φ (.ptr b o) a) (hl : sLoad P t h b o = some v) :
    ∃ v', (Instr.loadAt t a).run P w = .ok v' w ∧ VR φ v v' := by
  obtain ⟨L, hL, rfl⟩ := ha
  unfold sLoad at hl
  split at hl
  · rename_i n hag hn
    cases hr : h.read b o n with
    | none => simp [hr] at hl
    | some cs =>
      simp only [hr, Option.map_some, Option.some.injEq] at hl
      subst hl
      obtain ⟨vs, h1, h2, h3⟩ := read_all2 r hr hL
      have hc := run_loadCells_list (P := P) w _ vs h3
      rw [h1] at hc
      exact ⟨.agg vs.toArray, by simp [Instr.loadAt, Instr.sureAddr, loadVar, run_isAg hag, run_sizeOf hn, hc], _, rfl, by simpa using h2⟩
  · rename_i n hag hn
    split at hl
    · rename_i x hr
      simp only [Option.some.injEq] at hl
      subst hl
      obtain ⟨vs, h1, h2, h3⟩ := read_all2 r hr hL
      match vs, h1 with
      | [u], _ =>
        have hu := h3 0 u rfl
        have e0 : (⟨L.m, L.m0 + o, none⟩ : Addr).add 0 = ⟨L.m, L.m0 + o, none⟩ := rfl
        rw [e0] at hu
        exact ⟨u, by simp [Instr.loadAt, Instr.sureAddr, loadVar, run_isAg hag, hu], h2.1⟩
    · cases hl
  · cases hl
theorem load_fits {base : Nat} {φ : Ph} {h : SH} {w : World} (r : HR base φ h w) {t : TypeId} {b o : Nat} {v : SV} {a : Value} (ha : CR φ (.ptr b o) a) (hl : sLoad P t h b o = some v) :
    Fits base φ h w v h ((Instr.loadAt t a).run P w) := by
  obtain ⟨v', h1, h2⟩ := load_sound (P := P) r ha hl
  exact Fits.pure r h1 h2
theorem run_storeFree (g o : Nat) (t : TypeId) (fz : Nat × Nat) : ∀ (vs : List Value) (i : Nat) (cur : Array Value) (w : World), w.heap[g]? = some (.cells cur t fz) → (fz.1 = fz.2 ∨ cur.size ≤ fz.1) → o + i + vs.length ≤ cur.size → (∀ v ∈ vs, v.oneCell' = true) →
    (storeCells ⟨g, o, none⟩ vs i).run P w = .ok () (w.setRow g (cur.toList.take (o + i) ++ vs ++ cur.toList.drop (o + i + vs.length)).toArray)
  | [], i, cur, w, hg, _, _, _ => by
    simp only [storeCells, List.append_nil, List.length_nil, Nat.add_zero, List.take_append_drop, Array.toArray_toList]
    rw [setRow_self w g cur t fz hg]
    rfl
  | v :: rest, i, cur, w, hg, hfz, hl, h1 => by
    have hi : o + i < cur.size := by simp at hl; omega
    have hadd : (⟨g, o, none⟩ : Addr).add i = ⟨g, o + i, none⟩ := by unfold Addr.add; split <;> simp_all
    have hcell : w.cell? ⟨g, o + i, none⟩ = some cur[o + i] := by simp [World.cell?, hg, hi]
    have hfro : w.frozen? ⟨g, o + i, none⟩ = false := by
      have := hfz
      obtain ⟨lo, hi'⟩ := fz
      simp only [World.frozen?, hg, Bool.and_eq_false_iff, decide_eq_false_iff_not]
      simp only at this
      omega
    have hst : (store ((⟨g, o, none⟩ : Addr).add i) v).run P w = .ok () (w.setRow g (cur.setIfInBounds (o + i) v)) := by
      rw [hadd, run_store P w _ v _ (h1 v (by simp)), hcell]
      simp [hfro, setCell_eq_setRow w g (o + i) cur t fz v hg]
    have ih := run_storeFree g o t fz rest (i + 1) (cur.setIfInBounds (o + i) v) (w.setRow g (cur.setIfInBounds (o + i) v)) (setRow_heap w g cur _ t _ hg) (by simpa using hfz) (by simp at hl ⊢; omega) (fun x hx => h1 x (by simp [hx]))
    simp only [storeCells, Sem.run_bind, hst, Result.andThen_ok, ih, setRow_setRow]
    congr 3
    have e := list_seg_step cur.toList (o + i) v rest (by simp at hl ⊢; omega)
    simpa [Array.toList_setIfInBounds, Nat.add_assoc] using e
theorem setRow_size (w : World) (g : Nat) (cs : Array Value) : (w.setRow g cs).heap.size = w.heap.size := by simp [World.setRow]
theorem seg_get {α : Type} (l : List α) (k : Nat) (vs : List α) (i : Nat) (h : k + vs.length ≤ l.length) : (l.take k ++ vs ++ l.drop (k + vs.length))[i]? = if i < k then l[i]? else if i < k + vs.length then vs[i - k]? else l[i]? := by
  by_cases h1 : i < k
  · rw [if_pos h1, List.append_assoc, List.getElem?_append_left (by simp; omega), List.getElem?_take, if_pos h1]
  · rw [if_neg h1]
    by_cases h2 : i < k + vs.length
    · rw [if_pos h2, List.append_assoc, List.getElem?_append_right (by simp; omega), List.getElem?_append_left (by simp; omega)]
      congr 1; simp; omega
    · rw [if_neg h2, List.getElem?_append_right (by simp; omega), List.getElem?_drop]
      congr 1; simp; omega
theorem write_fits {base : Nat} {φ : Ph} {h h' : SH} {w : World} (r : HR base φ h w) {b o : Nat} {cs : List SC} (hw : h.write b o cs = some h') {L : Loc} (hL : φ b = some L) {vs : List Value} (hv : All2 (CR φ) cs vs) :
    ∃ w', (storeCells ⟨L.m, L.m0 + o, none⟩ vs).run P w = .ok () w' ∧ HR base φ h' w' ∧ Mv φ h w φ h' w' := by
  unfold SH.write at hw
  split at hw
  · rename_i q hb
    split at hw
    · rename_i hle
      simp only [Option.some.injEq] at hw
      subst hw
      obtain ⟨L', ws, E, fr, h1, h2, h3, h4, h5⟩ := r.row hb
      rw [hL] at h1
      cases h1
      obtain ⟨k1, k2, hbig, k3⟩ := h5 rfl
      have hlen := hv.length
      refine ⟨_, run_storeFree (P := P) L.m (L.m0 + o) E fr vs 0 ws w h2 k3 (by omega) (fun v hvm => ?_), ?_⟩
      · obtain ⟨i, hi, rfl⟩ := List.mem_iff_getElem.1 hvm
        have hx : cs[i]? = some cs[i] := List.getElem?_eq_getElem (by omega)
        obtain ⟨v, a, b⟩ := hv.get hx
        rw [List.getElem?_eq_getElem hi] at a
        cases a
        exact b.one
      · have hheap := setRow_heap w L.m ws (ws.toList.take (L.m0 + o + 0) ++ vs ++ ws.toList.drop (L.m0 + o + 0 + vs.length)).toArray E fr h2
        refine r.change ⟨_, hb, rfl, hL⟩ _ (setRow_size _ _ _) (fun k hk => setRow_other w L.m k _ hk) ⟨by rw [setRange_len _ _ _ hle]; exact h3, _, E, fr, hheap, fun i x hx => ?_, fun _ => ⟨k1, ?_, ?_, ?_⟩⟩ rfl rfl rfl
        · simp only [setRange] at hx
          rw [seg_get _ _ _ _ hle] at hx
          simp only [Nat.add_zero, List.getElem?_toArray]
          rw [seg_get _ _ _ _ (by simp; omega)]
          by_cases c1 : i < o
          · rw [if_pos c1] at hx
            rw [if_pos (by omega)]
            obtain ⟨v, a, b⟩ := h4 i x hx
            exact ⟨v, by simpa using a, b⟩
          · rw [if_neg c1] at hx
            rw [if_neg (by omega)]
            by_cases c2 : i < o + cs.length
            · rw [if_pos c2] at hx
              rw [if_pos (by omega)]
              obtain ⟨v, a, b⟩ := hv.get hx
              exact ⟨v, by rw [← a]; congr 1; omega, b⟩
            · rw [if_neg c2] at hx
              rw [if_neg (by omega)]
              obtain ⟨v, a, b⟩ := h4 i x hx
              exact ⟨v, by simpa using a, b⟩
        · simp; omega
        · rw [setRange_len _ _ _ hle]; simp; omega
        · rcases k3 with k3 | k3
          · exact .inl k3
          · exact .inr (by simp; omega)
    · cases hw
  · cases hw
theorem store_fits {base : Nat} {φ : Ph} {h h' : SH} {w : World} (r : HR base φ h w) {t : TypeId} {b o n : Nat} {x : SV} {cs : List SC} {a v : Value} (ha : CR φ (.ptr b o) a) (hv : VR φ x v) (hn : szOf P t = some n) (hc : x.cells = some cs) (hl : cs.length = n) (hw : h.write b o cs = some h') :
    ∃ w', (Instr.storeAt t a v).run P w = .ok () w' ∧ HR base φ h' w' ∧ Mv φ h w φ h' w' := by
  obtain ⟨L, hL, rfl⟩ := ha
  have hvc := hv.cells hc
  obtain ⟨w', h1, h2⟩ := write_fits (P := P) r hw hL hvc
  have hsz : v.cells.size = n := by have := hvc.length; simp at this; omega
  exact ⟨w', by simp [Instr.storeAt, Instr.sureAddr, storeVar, run_sizeOf hn, hsz, h1], h2⟩
end Go.Proofs.Ytjlfojgacnphmaa.Sim

namespace Go.Proofs.Ytjlfojgacnphmaa.Sim
open Go Go.RowKit
set_option linter.unusedSimpArgs false
set_option linter.unusedVariables false
variable {P : Program}

theorem build_sound {φ : Ph} {ty : TypeId} {parts : List (Nat × SV)} {parts' : Array (Nat × Value)} {x : SV} (hp : All2 (fun p q => p.1 = q.1 ∧ VR φ p.2 q.2) parts parts'.toList) (h : sBuild P ty parts = some x) (w : World) :
    ∃ v, (Instr.build ty parts').run P w = .ok v w ∧ VR φ x v := by
  unfold sBuild at h
  split at h
  · rename_i fs z hu hz
    obtain ⟨i, v, hi, hv, hz⟩ := zero_of hz
    split at h
    · rename_i places hpl
      cases hq : partsIn (places.toArray[·]?) z parts with
      | none => rw [hq] at h; cases h
      | some r =>
        rw [hq] at h
        simp only [Option.map_some, Option.some.injEq] at h
        subst h
        obtain ⟨r', h1, h2⟩ := partsIn_sound hp (hz φ) hq
        have hb : P.built ty parts'.toList = some r' := by
          unfold Program.built
          simp only [hi, hu, hv, hpl]
          exact h1
        exact ⟨_, run_build w ty parts' r' hb, r', rfl, h2⟩
    · cases h
  · rename_i n e z hu hz
    obtain ⟨i, v, hi, hv, hz⟩ := zero_of hz
    split at h
    · rename_i s hs
      obtain ⟨ie, hie, rfl⟩ := info_of_sz hs
      cases hq : partsIn (fun i => some (i * ie.size, ie.size)) z parts with
      | none => simp [hq] at h
      | some r =>
        simp only [hq, Option.map_some, Option.some.injEq] at h
        subst h
        obtain ⟨r', h1, h2⟩ := partsIn_sound hp (hz φ) hq
        have hb : P.built ty parts'.toList = some r' := by
          unfold Program.built
          simp only [hi, hu, hv, hie]
          exact h1
        exact ⟨_, run_build w ty parts' r' hb, r', rfl, h2⟩
    · cases h
  · cases h
theorem partsIn_len {place : Nat → Option (Nat × Nat)} : ∀ {parts : List (Nat × SV)} {cells r : List SC}, partsIn place cells parts = some r → r.length = cells.length
  | [], cells, r, h => by simp only [partsIn, Option.some.injEq] at h; rw [h]
  | (i, v) :: rest, cells, r, h => by
    simp only [partsIn] at h
    cases hpl : place i with
    | none => simp [hpl] at h
    | some q =>
      obtain ⟨off, size⟩ := q
      cases hcs : v.cells with
      | none => simp [hpl, hcs] at h
      | some cs =>
        simp only [hpl, hcs] at h
        split at h
        · rename_i hif
          rw [partsIn_len h, setRange_len _ _ _ (by omega)]
        · cases h
theorem elem_of {t e : TypeId} (h : elemOf' P t = some e) : P.underlying t = some (.slice e) := by
  unfold elemOf' at h
  cases hd : P.underlying t with
  | none => simp [hd] at h
  | some d => cases d <;> simp [hd] at h; subst h; rfl
theorem push_fits {base : Nat} {φ : Ph} {h : SH} {w : World} (r : HR base φ h w) (e : TypeId) {q : List SC} {cs : Array Value} (hq : ∀ (i : Nat) (x : SC), q[i]? = some x → ∃ v, cs[i]? = some v ∧ CR φ x v)
    (fr : Nat × Nat) (hfr : fr.1 = fr.2 ∨ cs.size ≤ fr.1) (d : Nat) :
    ∃ φ', HR base φ' (h.new q) { w with heap := w.heap.push (.cells cs e fr), drawn := d } ∧ Mv φ h w φ' (h.new q) { w with heap := w.heap.push (.cells cs e fr), drawn := d } ∧ φ' h.next = some ⟨w.heap.size, 0, cs.size, q.length⟩ := by
  obtain ⟨h1, h2, h3⟩ := r.alloc (w' := { w with heap := w.heap.push (.cells cs e fr), drawn := d }) q cs e fr (by simp) (fun k hk => by simp [Array.getElem?_push, Nat.ne_of_lt hk]) (by simp) hq hfr rfl rfl rfl
  exact ⟨_, h1, h2, h3⟩
theorem all2_get {φ : Ph} {q : List SC} {cs : Array Value} (h : All2 (CR φ) q cs.toList) : ∀ (i : Nat) (x : SC), q[i]? = some x → ∃ v, cs[i]? = some v ∧ CR φ x v := fun i x hx => by
  obtain ⟨b, hb, hr⟩ := h.get hx
  exact ⟨b, by simpa using hb, hr⟩
theorem buildSlice_form {φ : Ph} {h h' : SH} {w : World} {ty : TypeId} {n : Nat} {parts : List (Nat × SV)} {parts' : Array (Nat × Value)} {x : SV} (hp : All2 (fun p q => p.1 = q.1 ∧ VR φ p.2 q.2) parts parts'.toList)
    (hs : sBuildSlice P ty n parts h = some (x, h')) : ∃ q, h' = h.new q ∧ AllocForm φ h.next w x q ((Instr.buildSlice ty n parts').run P w) := by
  unfold sBuildSlice at hs
  split at hs
  · rename_i e he
    have hu := elem_of he
    split at hs
    · rename_i s z hsz hz
      obtain ⟨ie, hie, rfl⟩ := info_of_sz hsz
      obtain ⟨i, v, hi, hv, hz⟩ := zero_of hz
      rw [hie] at hi
      cases hi
      split at hs
      · rename_i hc
        obtain ⟨c1, c2, c3⟩ := hc
        split at hs
        · rename_i cs hcs
          simp only [Option.some.injEq, Prod.mk.injEq] at hs
          obtain ⟨rfl, rfl⟩ := hs
          have hsmall : ¬ n * ie.size > 2 ^ 24 := by simp; omega
          have key : ∃ cells, (Instr.buildSlice ty n parts').run P w = .ok (.slice (some ⟨w.heap.size, 0, none⟩) n n) { w with heap := w.heap.push (.cells cells e (0, 0)), drawn := w.drawn } ∧ All2 (CR φ) cs cells.toList ∧ cells.size = n * ie.size := by
            by_cases hn : n = 0
            · subst hn
              obtain ⟨r', h1, h2⟩ := partsIn_sound (vs := #[]) hp (show All2 (CR φ) (rep z 0) (#[] : Array Value).toList from trivial) hcs
              have hl : cs.length = 0 := partsIn_len hcs
              have e0 : ∀ (f : Nat → Value), (Array.range 0).map f = #[] := fun f => by simp [Array.range]
              refine ⟨r', ?_, h2, by have := h2.length; simp at this; omega⟩
              simp [Instr.buildSlice, run_underlying hu, sizeOf, typeInfo, hie, e0, h1, newRow]
            · have hpos : ¬ n * ie.size = 0 := by
                have := Nat.mul_pos (show 0 < n by omega) c3
                omega
              have hz' := rep_sound (hz φ) n (n * ie.size) (by rw [c2]) (by omega)
              obtain ⟨r', h1, h2⟩ := partsIn_sound hp hz' hcs
              refine ⟨r', run_buildSlice w ty e n parts' r' ie v hu hie hv hsmall hpos h1, h2, ?_⟩
              have hfl : ∀ (pl : Nat → Option (Nat × Nat)) (l : List (Nat × Value)) (c c' : Array Value), Instr.fill pl c l = some c' → c'.size = c.size := by
                intro pl l
                induction l with
                | nil => intro c c' h; simp only [Instr.fill, Option.some.injEq] at h; rw [h]
                | cons p l ih =>
                  intro c c' h
                  obtain ⟨i, v⟩ := p
                  unfold Instr.fill at h
                  split at h
                  · cases h
                  · rename_i off size _
                    split at h
                    · cases h
                    · rename_i hc
                      rw [ih _ _ h, ← Array.length_toList, ← Array.foldl_toList, Array.toList_zipIdx]
                      simp only [Bool.or_eq_true, decide_eq_true_eq, not_or, ne_eq, Decidable.not_not, gt_iff_lt, Nat.not_lt] at hc
                      rw [foldl_put off _ 0 c (by simp; omega)]
                      simp; omega
              rw [hfl _ _ _ _ h1]; simp
          obtain ⟨cells, h1, h2, h3⟩ := key
          refine ⟨cs, rfl, cells, e, _, h1, all2_get h2, fun ψ hψ => ⟨_, _, n, hψ, rfl, fun _ => rfl, Nat.le_refl _, ?_, by simp only; omega, rfl⟩⟩
          have := Nat.le_mul_of_pos_right n c3
          simp only [maxLen]; omega
        · cases hs
      · cases hs
    · cases hs
  · cases hs
theorem buildSlice_fits {base : Nat} {φ : Ph} {h h' : SH} {w : World} (r : HR base φ h w) {ty : TypeId} {n : Nat} {parts : List (Nat × SV)} {parts' : Array (Nat × Value)} {x : SV} (hp : All2 (fun p q => p.1 = q.1 ∧ VR φ p.2 q.2) parts parts'.toList)
    (hs : sBuildSlice P ty n parts h = some (x, h')) : Fits base φ h w x h' ((Instr.buildSlice ty n parts').run P w) := by
  obtain ⟨q, rfl, cs, E, v', h1, h2, h3⟩ := buildSlice_form (P := P) (φ := φ) (w := w) hp hs
  obtain ⟨φ', k1, k2, k3⟩ := push_fits r E h2 (0, 0) (.inl rfl) w.drawn
  exact ⟨_, _, φ', h1, h3 φ' k3, k1, k2⟩
theorem VR1.vr {φ : Ph} : ∀ {x : SV} {v : Value}, VR1 φ x v → VR φ x v
  | .c _, _, h => h
  | .agg _, _, h => h
  | .tup _, _, h => h.elim
theorem extract_sound {φ : Ph} {l : List SV} {a : Value} {i : Nat} {x : SV} (ha : VR φ (.tup l) a) (hx : l[i]? = some x) (w : World) : ∃ v, (Instr.extract a i).run P w = .ok v w ∧ VR φ x v := by
  obtain ⟨vs, rfl, h⟩ := ha
  obtain ⟨v, h1, h2⟩ := h.get hx
  have h1' : vs[i]? = some v := by simpa using h1
  exact ⟨v, by simp [Instr.extract, h1'], h2.vr⟩
theorem Addr.add_plus (a : Addr) (m n : Nat) : (a.add m).add n = a.add (m + n) := by
  unfold Addr.add
  by_cases hm : m = 0
  · subst hm; simp
  · by_cases hn : n = 0
    · subst hn; simp
    · rw [if_neg hm, if_neg hn, if_neg (by omega)]
      simp [Nat.add_assoc]
theorem fieldAddr_sound {φ : Ph} {ty : TypeId} {x y : SV} {a : Value} {f : Nat} (ha : VR φ x a) (h : sFieldAddr P ty x f = some y) (w : World) : ∃ v, (Instr.fieldAt ty a f).run P w = .ok v w ∧ VR φ y v := by
  unfold sFieldAddr at h
  split at h
  · rename_i fs b o hu
    obtain ⟨L, hL, rfl⟩ := ha
    split at h
    · rename_i fd hf
      split at h
      · rename_i s hs
        split at h
        · cases h
        · rename_i h0
          simp only [Option.some.injEq] at h
          subst h
          refine ⟨.pointer (some ⟨L.m, L.m0 + (o + fd.offset), none⟩), ?_, L, hL, rfl⟩
          simp [Instr.fieldAt, run_underlying hu, hf, Instr.sureAddr, fieldPlace, run_sizeOf hs, h0, Addr.add_lit, Nat.add_assoc]
      · cases h
    · cases h
  · rename_i fs l o hu
    obtain ⟨a0, rfl, hc⟩ := ha
    split at h
    · rename_i fd hf
      split at h
      · rename_i s hs
        split at h
        · cases h
        · rename_i h0
          simp only [Option.some.injEq] at h
          subst h
          refine ⟨.pointer (some (a0.add (o + fd.offset))), ?_, a0, rfl, hc⟩
          simp [Instr.fieldAt, run_underlying hu, hf, Instr.sureAddr, fieldPlace, run_sizeOf hs, h0, Addr.add_plus]
      · cases h
    · cases h
  · cases h
theorem part_sound {φ : Ph} {ty : TypeId} {cs : List SC} {vs : Array Value} {o : Nat} {y : SV} (hc : All2 (CR φ) cs vs.toList) (h : sPart P ty cs o = some y) (w : World) : ∃ v, (part ty vs o).run P w = .ok v w ∧ VR φ y v := by
  unfold sPart at h
  split at h
  · rename_i s hag hs
    simp only [Option.some.injEq] at h
    subst h
    refine ⟨.agg (vs.extract o (o + s)), by simp [part, run_isAg hag, run_sizeOf hs], _, rfl, ?_⟩
    have := (hc.drop o).take s
    simpa [Array.toList_extract, List.extract_eq_take_drop] using this
  · rename_i s hag hs
    split at h
    · rename_i x hx
      simp only [Option.some.injEq] at h
      subst h
      obtain ⟨v, h1, h2⟩ := hc.get hx
      have h1' : vs[o]? = some v := by simpa using h1
      exact ⟨v, by simp [part, run_isAg hag, h1'], h2⟩
    · cases h
  · cases h
theorem field_sound {φ : Ph} {ty : TypeId} {x y : SV} {a : Value} {f : Nat} (ha : VR φ x a) (h : sField P ty x f = some y) (w : World) : ∃ v, (Instr.field ty a f).run P w = .ok v w ∧ VR φ y v := by
  unfold sField at h
  split at h
  · rename_i fs cs hu
    obtain ⟨vs, rfl, hc⟩ := ha
    split at h
    · rename_i fd hf
      obtain ⟨v, h1, h2⟩ := part_sound hc h w
      exact ⟨v, by simp [Instr.field, run_underlying hu, hf, asAgg, h1], h2⟩
    · cases h
  · cases h
theorem idx_of {φ : Ph} {x : SV} {a : Value} {i : Int} (ha : VR φ x a) (h : idx x = some i) : ∃ k, a = .int k i := by
  unfold idx at h
  split at h
  · rename_i k n
    simp only [Option.some.injEq] at h
    subst h
    exact ⟨k, ha⟩
  · cases h
theorem indexAddr_sound {φ : Ph} {ty : TypeId} {x i y : SV} {a ai : Value} (ha : VR φ x a) (hai : VR φ i ai) (h : sIndexAddr P ty x i = some y) (w : World) : ∃ v, (Instr.indexAt ty a ai).run P w = .ok v w ∧ VR φ y v := by
  unfold sIndexAddr at h
  split at h
  · rename_i e b o n s' c j hu hj
    obtain ⟨k, rfl⟩ := idx_of hai hj
    split at h
    · rename_i s hs
      split at h
      · rename_i hc
        obtain ⟨h0, h1, h2⟩ := hc
        simp only [Option.some.injEq] at h
        subst h
        obtain ⟨L, ad, cap, hL, rfl, hat, hn, -⟩ := ha
        have := hat (by omega)
        subst this
        refine ⟨.pointer (some ⟨L.m, L.m0 + (o + j.toNat * s), none⟩), ?_, L, hL, rfl⟩
        simp [Instr.indexAt, asIntOf, run_underlying hu, h0, h1, run_sizeOf hs, Addr.add_lit, Nat.add_assoc]
      · cases h
    · cases h
  · rename_i e n s' l c j hu hj
    obtain ⟨k, rfl⟩ := idx_of hai hj
    split at h
    · rename_i s hs
      split at h
      · rename_i hc
        obtain ⟨h0, h1, h2⟩ := hc
        simp only [Option.some.injEq] at h
        subst h
        obtain ⟨hl, a0, cap, rfl, hn, hcm, hcc, hcr⟩ := ha
        refine ⟨.pointer (some (a0.add (j.toNat * s))), ?_, a0, rfl, hcr⟩
        simp [Instr.indexAt, asIntOf, run_underlying hu, h0, h1, run_sizeOf hs]
      · cases h
    · cases h
  · rename_i n e b o j hu hj
    obtain ⟨k, rfl⟩ := idx_of hai hj
    split at h
    · rename_i s hs
      split at h
      · rename_i hc
        obtain ⟨h0, h1⟩ := hc
        simp only [Option.some.injEq] at h
        subst h
        obtain ⟨L, hL, rfl⟩ := ha
        refine ⟨.pointer (some ⟨L.m, L.m0 + (o + j.toNat * s), none⟩), ?_, L, hL, rfl⟩
        simp [Instr.indexAt, asIntOf, run_underlying hu, Instr.sureAddr, h0, h1, run_sizeOf hs, Addr.add_lit, Nat.add_assoc]
      · cases h
    · cases h
  · cases h
theorem index_sound {φ : Ph} {ty : TypeId} {x i y : SV} {a ai : Value} (ha : VR φ x a) (hai : VR φ i ai) (h : sIndex P ty x i = some y) (w : World) : ∃ v, (Instr.index ty a ai).run P w = .ok v w ∧ VR φ y v := by
  unfold sIndex at h
  split at h
  · rename_i l j hu hj
    obtain ⟨k, rfl⟩ := idx_of hai hj
    obtain ⟨s, rfl, hs⟩ := ha
    split at h
    · rename_i h0
      split at h
      · rename_i b hb
        simp only [Option.some.injEq] at h
        subst h hs
        rw [List.getElem?_map] at hb
        cases hq : s.data.toList[j.toNat]? with
        | none => simp [hq] at hb
        | some c =>
          simp only [hq, Option.map_some, Option.some.injEq] at hb
          subst hb
          have hlt : j.toNat < s.data.toList.length := (List.getElem?_eq_some_iff.1 hq).1
          have hlt' : j.toNat < s.size := hlt
          have hc : s[j.toNat]? = some c := by
            rw [getElem?_pos s j.toNat hlt']
            congr 1
            have := (List.getElem?_eq_some_iff.1 hq).2
            have h3 : s.data[j.toNat]'hlt' = c := by simpa using this
            exact h3
          refine ⟨.int .u8 c.toNat, by simp [Instr.index, asIntOf, run_underlying hu, h0, hc], rfl⟩
      · cases h
    · cases h
  · rename_i n e cs j hu hj
    obtain ⟨k, rfl⟩ := idx_of hai hj
    obtain ⟨vs, rfl, hc⟩ := ha
    split at h
    · rename_i s hs hag
      split at h
      · rename_i hcnd
        obtain ⟨h0, h1⟩ := hcnd
        obtain ⟨v, k1, k2⟩ := part_sound (P := P) (ty := e) (o := j.toNat * s) (y := y) hc (by simp [sPart, hag, hs]; simpa using h) w
        exact ⟨v, by simp [Instr.index, asIntOf, run_underlying hu, h0, h1, run_sizeOf hs, k1], k2⟩
      · cases h
    · rename_i s hs hag
      split at h
      · rename_i hcnd
        obtain ⟨h0, h1⟩ := hcnd
        obtain ⟨v, k1, k2⟩ := part_sound (P := P) (ty := e) (o := j.toNat * s) (y := y) hc (by simp [sPart, hag, hs]; exact h) w
        exact ⟨v, by simp [Instr.index, asIntOf, run_underlying hu, h0, h1, run_sizeOf hs, k1], k2⟩
      · cases h
    · cases h
  · cases h
end Go.Proofs.Ytjlfojgacnphmaa.Sim
