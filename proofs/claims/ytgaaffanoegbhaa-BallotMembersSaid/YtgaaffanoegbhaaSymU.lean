/- Rules as they are used (second part): what grows within a row; numbers, bytes. No program in sight. -/
import Derived.Test.YtgaaffanoegbhaaSymT
namespace Go.Proofs.Ytgaaffanoegbhaa.Sym
open Go Go.RowKit Go.Proofs.Ytgaaffanoegbhaa.Sim
set_option linter.unusedSimpArgs false
set_option linter.unusedVariables false
section
variable {P : Program} {base n k : Nat} {e : Env} {h : HS} {Q : QX} {K : List Fr}
theorem wkH_HR {b0 : Nat} {o o' : XO} (h0 : h.get b0 = some o) (ho : o.so.own = true) (hw : WkO o o') {φ : Ph} {w : World} (hr : HR base φ h.sh w) : HR base φ (h.put b0 (some o')).sh w ∧ Mo k φ φ h.sh w (h.put b0 (some o')).sh w := by
  have hg : h.sh.get b0 = some o.so := by rw [HS.get_sh, h0]; rfl
  obtain ⟨L, g1, g2⟩ := hr.live b0 _ hg
  obtain ⟨f1, f2⟩ := hr.change ⟨_, hg, ho, g1⟩ o'.so rfl (fun _ _ => rfl) (hw.2 _ _ _ _ g2) rfl rfl rfl
  exact ⟨f1, .of f2⟩
theorem M.goN (m : Nat) {f f' : Fo} {K' : List Fr} {e' : Env} {h' : HS} (hr : Sym.go m f K e h = .st f' K' e' h') (hx : M P base n k f' K' e' h' Q) : M P base n k f K e h Q := go_ok m hr hx
theorem MD.goN (m : Nat) {cs : List Rec} {l l' : List LOp} {e' : Env} {h' : HS} (hr : goD m l e h = .st (.ops l') [] e' h') (hx : MD P base n k l' K e' h' cs Q) : MD P base n k l K e h cs Q := goD_ok m hr hx
theorem MF.goN (m : Nat) {fl : List (Nat × List Nat)} {cs : List Rec} {tr tr' : List TX} {l l' : List LOp} {e' : Env} {h' : HS} (hr : goF m l e h tr = .st l' e' h' tr') (hx : MF P base n k fl l' K e' h' cs tr' Q) : MF P base n k fl l K e h cs tr Q := goF_ok m hr hx
/-- A comparison whose answer is known. -/
theorem SOp.binT {nk : NK} {op : BinOp} {x y : LX} {u v : XC} {t : Bool} (hx : xev e x = some (.c u)) (hy : xev e y = some (.c v)) (hr : binX nk op u v = some (.bs t)) (ht : t = true) : SOp P n (.bin nk op x y) e h (.c (.p (.bool true))) h := by subst ht; exact (SOp.bin hx hy hr).sv rfl
theorem SOp.binF {nk : NK} {op : BinOp} {x y : LX} {u v : XC} {t : Bool} (hx : xev e x = some (.c u)) (hy : xev e y = some (.c v)) (hr : binX nk op u v = some (.bs t)) (ht : t = false) : SOp P n (.bin nk op x y) e h (.c (.p (.bool false))) h := by subst ht; exact (SOp.bin hx hy hr).sv rfl
/-- A flag in a slot is decided ahead. -/
theorem M.decC {s : Nat} {b : Bool} {c : LC} (hg : look e s = some (.c (.p (.bs b)))) (ht : b = true → M P base n k (.code c) K ((s, .c (.p (.bool true))) :: e) h Q) (hf : b = false → M P base n k (.code c) K ((s, .c (.p (.bool false))) :: e) h Q) : M P base n k (.code c) K e h Q := by
  cases b with
  | true => exact M.wk hg (v' := .c (.p (.bool true))) (Wk.of rfl) (ht rfl)
  | false => exact M.wk hg (v' := .c (.p (.bool false))) (Wk.of rfl) (hf rfl)
/-- An object of one's own is also that. -/
theorem M.wkH {b0 : Nat} {o o' : XO} {c : LC} (h0 : h.get b0 = some o) (ho : o.so.own = true) (hw : WkO o o') (hx : M P base n k (.code c) K e (h.put b0 (some o')) Q) : M P base n k (.code c) K e h Q := ⟨⟨fun code hl φ a w ht hr => by
  obtain ⟨f1, f2⟩ := wkH_HR (k := k) h0 ho hw hr
  exact wp_mono (hx.run.run code hl φ a w ht f1) fun ex a' w' hp => hp.of f2⟩⟩
theorem WkL.refl : ∀ l : List XC, WkL l l
  | [] => trivial
  | _ :: l => ⟨Wk.rfl, WkL.refl l⟩
theorem WkL.set : ∀ {l r : List XC} {o : Nat} {x y : XC}, getN l o 1 = some [x] → setN l o [y] = some r → Wk (.c x) (.c y) → WkL l r
  | [], r, o, x, y, h, _, _ => by cases o <;> simp [getN, dropS, takeS] at h
  | z :: l, r, 0, x, y, h, hs, hw => by
    have : z = x := by simpa [getN, dropS, takeS] using h
    subst this
    cases l with
    | nil => simp [setN, putS] at hs; subst hs; exact ⟨hw, trivial⟩
    | cons a l => simp [setN, putS] at hs; subst hs; exact ⟨hw, WkL.refl _⟩
  | z :: l, r, o + 1, x, y, h, hs, hw => by
    simp only [setN] at hs
    split at hs
    · rename_i q hq
      simp only [Option.some.injEq] at hs
      subst hs
      exact ⟨Wk.rfl, WkL.set (o := o) (by simpa [getN, dropS] using h) hq hw⟩
    · cases hs
theorem setN_other : ∀ {r : List XC} {o : Nat} {a b : XC} {q : List XC}, setN r o [a] = some q → ∃ q', setN r o [b] = some q'
  | [], o, a, b, q, h => by cases o <;> simp [setN, putS] at h
  | y :: r, 0, a, b, q, h => by cases r <;> exact ⟨_, rfl⟩
  | y :: r, o + 1, a, b, q, h => by
    simp only [setN] at h ⊢
    split at h
    · rename_i q0 hq0
      obtain ⟨q', hq'⟩ := setN_other (b := b) hq0
      exact ⟨y :: q', by rw [hq']⟩
    · cases h
theorem getN_setN : ∀ {r : List XC} {o : Nat} {a : XC} {q : List XC}, setN r o [a] = some q → getN q o 1 = some [a]
  | [], o, a, q, h => by cases o <;> simp [setN, putS] at h
  | y :: r, 0, a, q, h => by cases r <;> (simp [setN, putS] at h; subst h; rfl)
  | y :: r, o + 1, a, q, h => by
    simp only [setN] at h
    split at h
    · rename_i q0 hq0
      simp only [Option.some.injEq] at h
      subst h
      simpa [getN, dropS] using getN_setN hq0
    · cases h
theorem setN_setN : ∀ {r : List XC} {o : Nat} {a b : XC} {q q' : List XC}, setN r o [a] = some q → setN r o [b] = some q' → setN q o [b] = some q'
  | [], o, a, b, q, q', h, _ => by cases o <;> simp [setN, putS] at h
  | y :: r, 0, a, b, q, q', h, h' => by cases r <;> (simp [setN, putS] at h h'; subst h h'; rfl)
  | y :: r, o + 1, a, b, q, q', h, h' => by
    simp only [setN] at h h'
    split at h
    · rename_i q0 hq0
      split at h'
      · rename_i q1 hq1
        simp only [Option.some.injEq] at h h'
        subst h h'
        simp only [setN, setN_setN hq0 hq1]
      · cases h'
    · cases h
/-- What grew from nil on, within a row, is frozen. -/
theorem M.accFR {b0 o b s : Nat} {el : List PC} {r r' : List XC} {q : LC} (h0 : h.get b0 = some (.row r true)) (hne : Nat.beq b b0 = false) (hi : getN r o 1 = some [.acc b s el]) (hr' : setN r o [.p (.tz true s el none)] = some r') (hb : look h.l b = some (accO s el))
    (hx : M P base n k (.code q) K e ((h.put b none).put b0 (some (.row r' true))) Q) : M P base n k (.code q) K e h Q := by
  have hne' : Nat.beq b0 b = false := by rw [Bool.eq_false_iff]; intro e; have := Nat.eq_of_beq_eq_true e; subst this; simp at hne
  cases el with
  | nil =>
    refine M.forgetC (h' := h.put b none) (fun d o hd => ?_) rfl (M.wkH (b0 := b0) (o := .row r true) (o' := .row r' true) ?_ rfl (WkO.row (WkL.set hi hr' (Wk.of rfl))) hx)
    · have h1 : HS.get ⟨(b, none) :: h.l, h.next⟩ d = some o := hd
      rw [get_cons] at h1
      cases hbd : Nat.beq (b, (none : Option XO)).1 d
      · rw [hbd] at h1; exact h1
      · rw [hbd] at h1; cases h1
    · show HS.get ⟨(b, none) :: h.l, h.next⟩ b0 = _
      rw [get_cons, hne, cond_false]
      exact h0
  | cons x l =>
    obtain ⟨r0, hr0⟩ := setN_other (b := XC.sl b 0 (x :: l).length s none) hr'
    obtain ⟨r1, hr1⟩ := setN_other (b := XC.p (.tz false s (x :: l) none)) hr'
    have hb' : h.get b = some (.els s (x :: l)) := by simp only [HS.get, hb, accO]
    refine M.wkH h0 rfl (WkO.row (WkL.set hi hr0 (Wk.of rfl))) (M.freezeR (b0 := b0) (r := r0) (el := x :: l) ?_ hne (getN_setN hr0) (setN_setN hr0 hr1) ?_ rfl (M.wkH (b0 := b0) (o := .row r1 true) (o' := .row r' true) ?_ rfl (WkO.row (WkL.set (getN_setN hr1) (setN_setN hr1 hr') (Wk.some (by simp)))) ?_))
    · show HS.get ⟨(b0, some (.row r0 true)) :: h.l, h.next⟩ b0 = _
      rw [get_cons]; simp
    · show HS.get ⟨(b0, some (.row r0 true)) :: h.l, h.next⟩ b = _
      rw [get_cons, hne', cond_false]; exact hb'
    · show HS.get ⟨(b0, some (.row r1 true)) :: (b, none) :: (b0, some (.row r0 true)) :: h.l, h.next⟩ b0 = _
      rw [get_cons]; simp
    · refine M.forgetC (h' := (h.put b none).put b0 (some (.row r' true))) (fun d o hd => ?_) rfl hx
      have h1 : HS.get ⟨(b0, some (.row r' true)) :: (b, none) :: h.l, h.next⟩ d = some o := hd
      show HS.get ⟨(b0, some (.row r' true)) :: (b0, some (.row r1 true)) :: (b, none) :: (b0, some (.row r0 true)) :: h.l, h.next⟩ d = some o
      rw [get_cons] at h1 ⊢
      cases hbd : Nat.beq b0 d
      · rw [hbd] at h1
        simp only [cond_false] at h1 ⊢
        rw [get_cons, hbd, cond_false]
        rw [get_cons] at h1 ⊢
        cases hbe : Nat.beq b d
        · rw [hbe] at h1
          simp only [cond_false] at h1 ⊢
          rw [get_cons, hbd, cond_false]
          exact h1
        · rw [hbe] at h1; exact h1
      · rw [hbd] at h1
        exact h1
end
theorem Wk.acc0 {b s s' : Nat} {c : Option Nat} : Wk (.c (.p (.tz true s [] c))) (accV b s' []) := Wk.of (Eq.refl _)
theorem Wk.b1 {t t' : Bool} (h : t' = t) : Wk (.c (.p (.bool t))) (.c (.p (.bs t'))) := Wk.of (by rw [h]; rfl)
theorem Wk.b2 {t t' : Bool} (h : t' = t) : Wk (.c (.p (.bs t))) (.c (.p (.bs t'))) := Wk.of (by rw [h])
theorem Wk.agg {l r : List XC} (h : WkL l r) : Wk (.agg l) (.agg r) := fun φ x hx => by
  obtain ⟨h1, h2⟩ := h.get
  simp only [XV.sv, VR, VR1] at hx ⊢
  obtain ⟨cs, e, ha⟩ := hx
  refine ⟨cs, e, All2.mk (by have := ha.length; simp only [List.length_map] at this ⊢; omega) fun i a b hi hb => ?_⟩
  rw [List.getElem?_map, Option.map_eq_some_iff] at hi
  obtain ⟨y, hy, rfl⟩ := hi
  obtain ⟨x, hx, hw⟩ := h2 i y hy
  obtain ⟨u, hu, hr⟩ := ha.get (i := i) (a := x.sc) (by rw [List.getElem?_map, hx]; rfl)
  rw [hb] at hu; cases hu
  exact hw φ b hr
theorem VR_flat {φ : Ph} {a : XV} {v : Value} (h : a.flat = true) : VR φ a.sv v ↔ VR1 φ a.sv v := by
  cases a with
  | c x => simp only [XV.sv, VR]
  | agg l => simp only [XV.sv, VR]
  | tup l => cases h
theorem Wk.t2 {a b a' b' : XV} (h1 : Wk a a') (h2 : Wk b b') (f1 : a.flat = true := by rfl) (f2 : b.flat = true := by rfl) (f3 : a'.flat = true := by rfl) (f4 : b'.flat = true := by rfl) : Wk (.tup [a, b]) (.tup [a', b']) := fun φ x hx => by
  simp only [XV.sv, XV.svs, VR] at hx ⊢
  obtain ⟨vs, e, h⟩ := hx
  refine ⟨vs, e, ?_⟩
  match hv : vs.toList, h with
  | [u, v], h => exact ⟨(VR_flat f3).1 (h1 φ u ((VR_flat f1).2 h.1)), (VR_flat f4).1 (h2 φ v ((VR_flat f2).2 h.2.1)), trivial⟩
theorem wr64 {n : Int} (h : -9223372036854775808 ≤ n) (h' : n ≤ 9223372036854775807) : IntKind.i64.wrap n = n := by
  have hs : IntKind.i64.signed = true := rfl
  have hb : IntKind.i64.bits = 64 := rfl
  unfold IntKind.wrap
  simp only [hs, hb, Bool.true_and, decide_eq_true_eq]
  split <;> omega
def byP (l : List Nat) : List PC := l.map fun (b : Nat) => .int .u8 b
def inP (l : List Int) : List PC := l.map fun i => .int .i64 i
theorem at_app {α β : Type} (f : α → β) (pre rest : List α) (b : α) : ((pre ++ b :: rest).map f)[((pre.length : Int)).toNat]? = some (f b) := by simp
/-- The flags of two numbers. -/
theorem minI_eq (a b : Int) : minI a b = min a b := by unfold minI; omega
theorem maxI_eq (a b : Int) : maxI a b = max a b := by unfold maxI; omega
end Go.Proofs.Ytgaaffanoegbhaa.Sym
