/- The plain machine beside the model's: operation by operation (second part). No program in sight. -/
import Derived.Test.YtgaaffanoegbhaaSimO
namespace Go.Proofs.Ytgaaffanoegbhaa.Sim
open Go Go.RowKit
set_option linter.unusedSimpArgs false
set_option linter.unusedVariables false

/-- A run of the model's goes with the plain one's. -/
def Fits (base : Nat) (φ : Ph) (h : SH) (w : World) (v : SV) (h' : SH) (r : Result Value) : Prop :=
  ∃ v' w' φ', r = .ok v' w' ∧ VR φ' v v' ∧ HR base φ' h' w' ∧ Mv φ h w φ' h' w'
theorem Fits.pure {base : Nat} {φ : Ph} {h : SH} {w : World} {v : SV} {v' : Value} {r : Result Value} (hr : HR base φ h w) (e : r = .ok v' w) (hv : VR φ v v') : Fits base φ h w v h r :=
  ⟨v', w, φ, e, hv, hr, Mv.refl _ _ _⟩

theorem eqL_iff : ∀ (x y : List Nat), eqL x y = decide (x = y)
  | [], [] => by simp [eqL]
  | [], _ :: _ => by simp [eqL]
  | _ :: _, [] => by simp [eqL]
  | a :: x, b :: y => by
    simp only [eqL, eqL_iff x y, List.cons.injEq, Bool.decide_and]
    congr 1
    rw [Bool.eq_iff_iff]; simp
theorem map_toNat_inj : ∀ {x y : List UInt8}, x.map UInt8.toNat = y.map UInt8.toNat → x = y
  | [], [], _ => rfl
  | [], _ :: _, h => by simp at h
  | _ :: _, [], h => by simp at h
  | a :: x, b :: y, h => by
    simp only [List.map_cons, List.cons.injEq] at h
    rw [UInt8.toNat_inj.1 h.1, map_toNat_inj h.2]
theorem less_nat : ∀ (x y : List UInt8), Op.bytesLess x y = sBytesLess (x.map UInt8.toNat) (y.map UInt8.toNat)
  | [], [] => by simp [Op.bytesLess, sBytesLess]
  | [], _ :: _ => by simp [Op.bytesLess, sBytesLess]
  | _ :: _, [] => by simp [Op.bytesLess, sBytesLess]
  | a :: x, b :: y => by
    simp only [Op.bytesLess, sBytesLess, List.map_cons, less_nat x y]
    congr 1
    · rw [Bool.eq_iff_iff]; simp [UInt8.lt_iff_toNat_lt]
    · congr 1
      rw [Bool.eq_iff_iff]; simp [UInt8.toNat_inj]
theorem eq_nat (x y : ByteArray) : (x.toList == y.toList) = eqL (x.data.toList.map UInt8.toNat) (y.data.toList.map UInt8.toNat) := by
  rw [eqL_iff, ByteArray.toList_eq, ByteArray.toList_eq, Bool.eq_iff_iff]
  simp only [beq_iff_eq, decide_eq_true_eq]
  exact ⟨fun h => by rw [h], map_toNat_inj⟩


theorem guard_one {P : Program} (op : BinOp) (ty : TypeId) (X Y : Operand) {a b : Value} (ha : a.oneCell' = true) (h0 : a ≠ .nilIface) (w : World) : (eqGuard op ty X Y a b).run P w = .ok () w := by
  unfold eqGuard
  cases a <;> simp_all [Value.oneCell'] <;> (cases op <;> simp)
theorem CR.noIface {φ : Ph} {x : SC} {v : Value} (r : CR φ x v) : v ≠ .nilIface := by
  cases x with
  | mp b => cases b with
    | none => simp only [CR] at r; subst r; simp
    | some b => simp only [CR] at r; obtain ⟨_, _, rfl⟩ := r; simp
  | bool b => simp only [CR] at r; subst r; simp
  | int k n => simp only [CR] at r; subst r; simp
  | str l => simp only [CR] at r; obtain ⟨_, rfl, _⟩ := r; simp
  | nilp => simp only [CR] at r; subst r; simp
  | ptr b o => simp only [CR] at r; obtain ⟨_, _, rfl⟩ := r; simp
  | nils => simp only [CR] at r; subst r; simp
  | em => simp only [CR] at r; obtain ⟨_, _, rfl, _⟩ := r; simp
  | sl b o n s c => simp only [CR] at r; obtain ⟨_, _, _, _, rfl, _⟩ := r; simp
  | fz n s l c => simp only [CR] at r; obtain ⟨_, _, _, rfl, _⟩ := r; simp
  | fp l o => simp only [CR] at r; obtain ⟨_, rfl, _⟩ := r; simp
  | cl f x y => simp only [CR] at r; obtain ⟨_, _, rfl, _⟩ := r; simp
  | ifc t x => simp only [CR] at r; obtain ⟨_, rfl, _⟩ := r; simp
theorem sInt_sound {P : Program} {φ : Ph} (op : BinOp) (ty : TypeId) {k : IntKind} {a b : Int} {z : SC} (hop : op ≠ .shl ∧ op ≠ .shr) (h : sInt op k a b = some z) (w : World) :
    ∃ v, (binOp op ty (.int k a) (.int k b)).run P w = .ok v w ∧ CR φ z v := by
  cases op <;> simp only [sInt, sCmp, Option.some.injEq, reduceCtorEq] at h <;> try (simp at hop; done)
  case quo =>
    split at h
    · cases h
    · rename_i hb
      simp only [Option.some.injEq] at h
      subst h
      exact ⟨_, by simp [binOp, Op.intDiv, hb], rfl⟩
  case rem =>
    split at h
    · cases h
    · rename_i hb
      simp only [Option.some.injEq] at h
      subst h
      exact ⟨_, by simp [binOp, Op.intDiv, hb], rfl⟩
  all_goals
    subst h
    simp only [binOp, ne_eq, not_true_eq_false, if_false, Op.intArith, Op.intCmp, intBits_and, intBits_or, intBits_xor, intBits_andNot]
    refine ⟨_, rfl, ?_⟩
    first
      | rfl
      | (simp only [CR, Value.bool.injEq]; rw [Bool.eq_iff_iff]; simp)
theorem sStr_sound {P : Program} {φ : Ph} (op : BinOp) (ty : TypeId) {x y : ByteArray} {z : SC} (h : sStr op (x.data.toList.map UInt8.toNat) (y.data.toList.map UInt8.toNat) = some z) (w : World) :
    ∃ v, (binOp op ty (.string x) (.string y)).run P w = .ok v w ∧ CR φ z v := by
  have he := eq_nat x y
  have hl := less_nat x.toList y.toList
  rw [ByteArray.toList_eq, ByteArray.toList_eq] at hl he
  cases op <;> simp only [sStr, Option.some.injEq, reduceCtorEq] at h
  case add =>
    split at h
    · rename_i hb
      simp only [Option.some.injEq] at h
      subst h
      have hb' : ¬ (((x.size + y.size : Nat) : Int) > IntKind.i64.max) := by
        have h1 : x.size = x.data.toList.length := rfl
        have h2 : y.size = y.data.toList.length := rfl
        simp only [List.length_map] at hb
        have : IntKind.i64.max = 9223372036854775807 := rfl
        omega
      refine ⟨.string (x ++ y), ?_, x ++ y, rfl, by simp⟩
      simp only [binOp, Op.stringOp, if_neg hb']
      rfl
    · cases h
  all_goals
    subst h
    refine ⟨_, by simp only [binOp, Op.stringOp]; rfl, ?_⟩
    simp only [CR, Value.bool.injEq, ByteArray.toList_eq, he, hl]
theorem sNil_sound {P : Program} {φ : Ph} (ty : TypeId) {d : TypeDesc} {x y : SC} {r : Bool} {a b : Value} (hx : CR φ x a) (hy : CR φ y b) (hd : P.underlying ty = some d) (h : sNil d x y = some r) (w : World) :
    (Op.equal ty a b).run P w = .ok r w := by
  suffices hn : ∀ n, (Op.equalIn (n + 1) ty a b).run P w = .ok r w from hn 9999
  intro n
  unfold sNil at h
  split at h <;> simp only [Option.some.injEq, reduceCtorEq] at h <;> subst h <;> simp only [CR] at hx hy
  all_goals
    first
      | subst hx
      | (obtain ⟨_, rfl, _⟩ := hx)
      | (obtain ⟨_, _, rfl⟩ := hx)
      | (obtain ⟨_, _, rfl, _⟩ := hx)
      | (obtain ⟨_, _, _, rfl, _⟩ := hx)
      | (obtain ⟨_, _, _, _, rfl, _⟩ := hx)
  all_goals
    first
      | subst hy
      | (obtain ⟨_, rfl, _⟩ := hy)
      | (obtain ⟨_, _, rfl⟩ := hy)
      | (obtain ⟨_, _, rfl, _⟩ := hy)
      | (obtain ⟨_, _, _, rfl, _⟩ := hy)
      | (obtain ⟨_, _, _, _, rfl, _⟩ := hy)
  all_goals simp [Op.equalIn, run_underlying hd]
theorem eq_of_equal {P : Program} (ty : TypeId) {a b : Value} {r : Bool} {w : World} (ha : ∀ k n, a ≠ .int k n) (hs : ∀ s, a ≠ .string s) (hf : ∀ k n, a ≠ .float k n) (hc : ∀ k n m, a ≠ .complex k n m) (h : (Op.equal ty a b).run P w = .ok r w) :
    (binOp .eql ty a b).run P w = .ok (.bool r) w ∧ (binOp .neq ty a b).run P w = .ok (.bool (!r)) w := by
  constructor
  · have : binOp .eql ty a b = (do pure (.bool (← Op.equal ty a b)) : Sem Value) := by
      unfold binOp
      cases a <;> cases b <;> first | rfl | simp_all
    rw [this]; simp [h]
  · have : binOp .neq ty a b = (do pure (.bool (!(← Op.equal ty a b))) : Sem Value) := by
      unfold binOp
      cases a <;> cases b <;> first | rfl | simp_all
    rw [this]; simp [h]
theorem sNil_kind {φ : Ph} {d : TypeDesc} {x y : SC} {r : Bool} {a : Value} (h : sNil d x y = some r) (hx : CR φ x a) : (∀ k n, a ≠ .int k n) ∧ (∀ s, a ≠ .string s) ∧ (∀ k n, a ≠ .float k n) ∧ (∀ k n m, a ≠ .complex k n m) := by
  cases x with
  | int k n => simp [sNil] at h
  | str l => simp [sNil] at h
  | bool b => simp only [CR] at hx; subst hx; simp
  | nilp => simp only [CR] at hx; subst hx; simp
  | ptr b o => simp only [CR] at hx; obtain ⟨L, _, rfl⟩ := hx; simp
  | nils => simp only [CR] at hx; subst hx; simp
  | em => simp only [CR] at hx; obtain ⟨_, _, rfl, _⟩ := hx; simp
  | sl b o n s c => simp only [CR] at hx; obtain ⟨_, _, _, _, rfl, _⟩ := hx; simp
  | fz n s l c => simp only [CR] at hx; obtain ⟨_, _, _, rfl, _⟩ := hx; simp
  | fp l o => simp only [CR] at hx; obtain ⟨_, rfl, _⟩ := hx; simp
  | cl f x y => simp only [CR] at hx; obtain ⟨_, _, rfl, _⟩ := hx; simp
  | ifc t x => simp only [CR] at hx; obtain ⟨_, rfl, _⟩ := hx; simp
  | mp b => cases b with
    | none => simp only [CR] at hx; subst hx; simp
    | some b => simp only [CR] at hx; obtain ⟨L, _, rfl⟩ := hx; simp
theorem sBin_sound {P : Program} {φ : Ph} (op : BinOp) (ty : TypeId) (X Y : Operand) {x y z : SC} {a b : Value} (hx : CR φ x a) (hy : CR φ y b) (h : sBin (P.underlying ty) op x y = some z) (w : World) :
    ∃ v, (do eqGuard op ty X Y a b; binOp op ty a b : Sem Value).run P w = .ok v w ∧ CR φ z v := by
  have hg := guard_one (P := P) op ty X Y (b := b) hx.one hx.noIface w
  have key : ∃ v, (binOp op ty a b).run P w = .ok v w ∧ CR φ z v := by
    unfold sBin at h
    split at h
    · rename_i k n k' n'
      simp only [CR] at hx hy
      subst hx hy
      split at h
      · split at h
        · cases h
        · rename_i hb
          simp only [Option.some.injEq] at h
          subst h
          exact ⟨_, by simp [binOp, Op.shift, hb], rfl⟩
      · split at h
        · cases h
        · rename_i hb
          simp only [Option.some.injEq] at h
          subst h
          exact ⟨_, by simp [binOp, Op.shift, hb], rfl⟩
      · rename_i h1 h2
        split at h
        · rename_i hk
          subst hk
          exact sInt_sound op ty ⟨h1, h2⟩ h w
        · cases h
    · obtain ⟨s, rfl, hs⟩ := hx
      obtain ⟨s', rfl, hs'⟩ := hy
      subst hs hs'
      exact sStr_sound op ty h w
    · rename_i h1 h2
      cases hd : P.underlying ty with
      | none => simp [hd] at h
      | some d =>
        simp only [hd] at h
        cases hn : sNil d x y with
        | none => split at h <;> simp [hn] at h
        | some r =>
          obtain ⟨k1, k2, k3, k4⟩ := sNil_kind hn hx
          have he := eq_of_equal (P := P) ty k1 k2 k3 k4 (sNil_sound (P := P) ty hx hy hd hn w)
          split at h
          · simp only [hn, Option.map_some, Option.some.injEq] at h
            subst h
            exact ⟨_, he.1, rfl⟩
          · simp only [hn, Option.map_some, Option.some.injEq] at h
            subst h
            exact ⟨_, he.2, rfl⟩
          · cases h
  obtain ⟨v, h1, h2⟩ := key
  exact ⟨v, by simp [hg, h1], h2⟩
end Go.Proofs.Ytgaaffanoegbhaa.Sim
