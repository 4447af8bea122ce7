/- Texts of this claim, several in one: SimM, SimX. -/
import Derived.Test.YtjlfojgacnphmaaMgKeepVotes5
import Derived.Laws.StructEq
import Derived.ChangeKeysEq
namespace Go.Proofs.Ytjlfojgacnphmaa.Sim
open Go Go.RowKit
set_option linter.unusedSimpArgs false
set_option linter.unusedVariables false
variable {P : Program}

def isObj : Obj → Bool
  | .cells _ _ _ => false
  | _ => true
theorem run_get {w : World} {r : Nat} {o : Obj} (hn : isObj o = true) (h : w.heap[r]? = some o) : (getObj r).run P w = .ok o w := by
  cases o <;> first | (cases hn; done) | simp [getObj, Sem.run, h]
theorem run_set {w : World} {r : Nat} {o : Obj} (q : Obj) (hn : isObj o = true) (h : w.heap[r]? = some o) : (setObj r q).run P w = .ok () { w with heap := w.heap.setIfInBounds r q } := by
  cases o <;> first | (cases hn; done) | simp [setObj, Sem.run, h]
/-! ### Keys -/
theorem str_eq (x y : ByteArray) : (x == y) = eqL (x.data.toList.map UInt8.toNat) (y.data.toList.map UInt8.toNat) := by
  rw [eqL_iff]
  have h0 : (x == y) = (x.data == y.data) := rfl
  rw [h0]
  by_cases h : x.data = y.data
  · rw [h]; simp
  · have : ¬ (x.data.toList.map UInt8.toNat = y.data.toList.map UInt8.toNat) := fun e => h (Array.toList_inj.1 (map_toNat_inj e))
    rw [decide_eq_false this]
    exact beq_eq_false_iff_ne.2 h
theorem keyEq_sound {φ : Ph} {kt : TypeId} {d : TypeDesc} {k x : SC} {a b : Value} {r : Bool} (hd : P.underlying kt = some d) (hk : keyKind P kt k = true) (ha : CR φ k a) (hb : CR φ x b) (h : keyEq k x = some r) :
    Instr.sameNow d a b = some r ∧ (r = true → Instr.sameBits 10000 b a = true) := by
  unfold keyKind at hk
  rw [hd] at hk
  unfold keyEq at h
  split at h
  · rename_i k1 n1 k2 n2
    simp only [CR] at ha hb
    subst ha hb
    split at h
    · rename_i hkk
      subst hkk
      simp only [Option.some.injEq] at h
      subst h
      cases d <;> simp at hk
      refine ⟨by simp only [Instr.sameNow, if_true]; by_cases e : n1 = n2 <;> simp [e], fun h => ?_⟩
      simp only [decide_eq_true_eq] at h
      subst h
      simp [Instr.sameBits]
    · cases h
  · obtain ⟨s1, rfl, h1⟩ := ha
    obtain ⟨s2, rfl, h2⟩ := hb
    simp only [Option.some.injEq] at h
    subst h
    cases d <;> simp at hk
    refine ⟨by simp only [Instr.sameNow]; rw [str_eq, h1, h2], fun h => ?_⟩
    simp only [Instr.sameBits]
    rw [str_eq, h1, h2, eqL_iff]
    rw [eqL_iff] at h
    have := of_decide_eq_true h
    simp [this]
  · simp only [CR] at ha hb
    subst ha hb
    simp only [Option.some.injEq] at h
    subst h
    cases d <;> simp at hk
    refine ⟨by simp [Instr.sameNow], fun h => ?_⟩
    simp only [beq_iff_eq] at h
    subst h
    simp [Instr.sameBits]
  · cases h
theorem check_run' {φ : Ph} {kt : TypeId} {k : SC} {a : Value} (hk : keyKind P kt k = true) (ha : CR φ k a) (e : Bool) (n : Nat) (w : World) : ∃ d, P.underlying kt = some d ∧ (Instr.checkKey e (n + 1) kt a).run P w = .ok () w := by
  unfold keyKind at hk
  split at hk
  · rename_i h; simp only [CR] at ha; subst ha; exact ⟨_, h, by simp [Instr.checkKey, run_underlying h]⟩
  · rename_i h; obtain ⟨s, rfl, _⟩ := ha; exact ⟨_, h, by simp [Instr.checkKey, run_underlying h]⟩
  · rename_i h; simp only [CR] at ha; subst ha; exact ⟨_, h, by simp [Instr.checkKey, run_underlying h]⟩
  · cases hk
theorem check_run {φ : Ph} {kt : TypeId} {k : SC} {a : Value} (hk : keyKind P kt k = true) (ha : CR φ k a) (e : Bool) (w : World) : ∃ d, P.underlying kt = some d ∧ (Instr.checkKey e 10000 kt a).run P w = .ok () w := check_run' hk ha e 9999 w
theorem find_sound {φ : Ph} {kt : TypeId} {d : TypeDesc} {k : SC} {a : Value} (hd : P.underlying kt = some d) (hk : keyKind P kt k = true) (ha : CR φ k a) : ∀ {es : List (Nat × SC × SV)} {l : List MapEntry} {i : Nat} {r : Option (Nat × SV)}, All2 (ER φ) es l → findS k es i = some r →
    (r = none ∧ Instr.findNow d a l i = some none) ∨ ∃ j v u e, r = some (i + j, v) ∧ Instr.findNow d a l i = some (some (i + j, u)) ∧ VR1 φ v u ∧ l[j]? = some e ∧ Instr.sameBits 10000 e.key a = true
  | [], [], i, r, _, h => by
    simp only [findS, Option.some.injEq] at h
    subst h
    exact .inl ⟨rfl, rfl⟩
  | p :: es, e :: l, i, r, hl, h => by
    simp only [findS] at h
    split at h
    · rename_i hq
      obtain ⟨h1, h2⟩ := keyEq_sound hd hk ha hl.1.2.1 hq
      simp only [Option.some.injEq] at h
      subst h
      exact .inr ⟨0, _, e.val, e, rfl, by simp [Instr.findNow, h1], hl.1.2.2, rfl, h2 rfl⟩
    · rename_i hq
      obtain ⟨h1, -⟩ := keyEq_sound hd hk ha hl.1.2.1 hq
      rcases find_sound hd hk ha hl.2 h with ⟨h3, h4⟩ | ⟨j, v, u, e', h3, h4, h5, h6, h7⟩
      · exact .inl ⟨h3, by simp [Instr.findNow, h1, h4]⟩
      · refine .inr ⟨j + 1, v, u, e', by rw [h3, Nat.add_assoc, Nat.add_comm 1 j], ?_, h5, by simpa using h6, h7⟩
        simp only [Instr.findNow, h1, h4]
        rw [Nat.add_assoc, Nat.add_comm 1 j]
    · cases h
theorem findKey_run {kt : TypeId} {d : TypeDesc} {a : Value} {l : List MapEntry} {r : Option (Nat × Value)} (hd : P.underlying kt = some d) (h : Instr.findNow d a l 0 = some r) (w : World) : (Instr.findKey kt a l).run P w = .ok r w := by
  simp [Instr.findKey, run_underlying hd, h]
theorem HR.map {base : Nat} {φ : Ph} {h : SH} {w : World} (r : HR base φ h w) {b : Nat} {es : List (Nat × SC × SV)} {clock : Nat} (hb : h.get b = some (.map es clock)) {L : Loc} (hL : φ b = some L) :
    base ≤ L.m ∧ ∃ vs : Array MapEntry, w.heap[L.m]? = some (.map vs clock) ∧ All2 (ER φ) es vs.toList := by
  obtain ⟨L', h1, h2⟩ := r.live b _ hb
  rw [hL] at h1
  cases h1
  exact h2
theorem lookRes_vr {φ : Ph} {v : SV} {u : Value} (h : VR1 φ v u) (ok b : Bool) : VR φ (lookRes ok v b) (if ok then .tuple #[u, .bool b] else u) := by
  cases ok
  · exact VR1.vr h
  · exact ⟨_, rfl, h, rfl, trivial⟩
theorem zeroVal_sound {φ : Ph} {t : TypeId} {z : SV} (h : zeroVal P t = some z) : ∃ i v, P.info? t = some i ∧ i.zero = some v ∧ VR1 φ z v := by
  unfold zeroVal at h
  split at h
  · rename_i i hi
    split at h
    · rename_i v hv
      split at h
      · cases h
      · rename_i r hn
        have := ofV_sound (φ := φ) h
        refine ⟨i, v, hi, hv, ?_⟩
        cases z with
        | c x => exact this
        | agg l => exact this
        | tup l => exact absurd h (hn l)
    · cases h
  · cases h
theorem lookup_sound {base : Nat} {φ : Ph} {h : SH} {w : World} (r : HR base φ h w) {xt : TypeId} {x k y : SV} {a b : Value} {ok : Bool} (hx : VR φ x a) (hk : VR φ k b) (hs : sLookup P xt h x k ok = some y) : Fits base φ h w y h ((Instr.lookup xt a b ok).run P w) := by
  unfold sLookup at hs
  split at hs
  · rename_i kt et k ht
    split at hs
    · rename_i hkk
      split at hs
      · rename_i es he
        have hes : ∃ vs : Array MapEntry, All2 (ER φ) es vs.toList ∧ ((a = .map none ∧ vs = #[]) ∨ ∃ m clock, a = .map (some m) ∧ w.heap[m]? = some (.map vs clock)) := by
          unfold entriesOf at he
          split at he
          · simp only [Option.some.injEq] at he
            subst he
            simp only [VR, VR1, CR] at hx
            subst hx
            exact ⟨#[], trivial, .inl ⟨rfl, rfl⟩⟩
          · split at he
            · rename_i es' clock hb
              simp only [Option.some.injEq] at he
              subst he
              obtain ⟨L, hL, rfl⟩ := hx
              obtain ⟨-, vs, h1, h2⟩ := r.map hb hL
              exact ⟨vs, h2, .inr ⟨_, _, rfl, h1⟩⟩
            · cases he
          · cases he
        obtain ⟨vs, g1, g2⟩ := hes
        obtain ⟨d, hd, hck⟩ := check_run hkk hk vs.isEmpty w
        have hgo : ∀ u bb r', (Instr.findKey kt b vs.toList).run P w = .ok r' w → ((∃ i, r' = some (i, u) ∧ bb = true) ∨ (r' = none ∧ bb = false ∧ (zeroValue et).run P w = .ok u w)) →
            (Instr.lookup xt a b ok).run P w = .ok (if ok then .tuple #[u, .bool bb] else u) w := by
          intro u bb r' hr hu
          rcases g2 with ⟨rfl, rfl⟩ | ⟨m, clock, rfl, hm⟩
          · rcases hu with ⟨i, rfl, rfl⟩ | ⟨rfl, rfl, hz⟩
            · simp only [Array.toList_empty] at hr
              simp only [Array.isEmpty_empty] at hck
              simp [Instr.lookup, run_underlying ht, hck, hr]
            · simp only [Array.toList_empty] at hr
              simp only [Array.isEmpty_empty] at hck
              simp [Instr.lookup, run_underlying ht, hck, hr, hz]
          · rcases hu with ⟨i, rfl, rfl⟩ | ⟨rfl, rfl, hz⟩
            · simp [Instr.lookup, run_underlying ht, run_get rfl hm, hck, hr]
            · simp [Instr.lookup, run_underlying ht, run_get rfl hm, hck, hr, hz]
        split at hs
        · rename_i i v hfd
          simp only [Option.some.injEq] at hs
          subst hs
          rcases find_sound hd hkk hk g1 hfd with ⟨h3, _⟩ | ⟨j, v', u, e, h3, h4, h5, _⟩
          · cases h3
          · cases h3
            exact Fits.pure r (hgo u true _ (findKey_run hd h4 w) (.inl ⟨_, rfl, rfl⟩)) (lookRes_vr h5 ok true)
        · rename_i hfd
          split at hs
          · rename_i z hz
            simp only [Option.some.injEq] at hs
            subst hs
            obtain ⟨i, v, hi, hv, hzv⟩ := zeroVal_sound (φ := φ) hz
            rcases find_sound hd hkk hk g1 hfd with ⟨_, h4⟩ | ⟨j, v', u, e, h3, _⟩
            · exact Fits.pure r (hgo v false _ (findKey_run hd h4 w) (.inr ⟨rfl, rfl, run_zero hi hv w⟩)) (lookRes_vr hzv ok false)
            · cases h3
          · cases hs
        · cases hs
      · cases hs
    · cases hs
  · cases hs
theorem Fits.set {base : Nat} {φ : Ph} {h : SH} {w : World} (r : HR base φ h w) {b : Nat} {L : Loc} {q : SO} {o : Obj} (hb : Owns φ h b L) (hlt : L.m < w.heap.size) (hq : ∀ w' : World, w'.heap[L.m]? = some o → Live base φ w' L q) :
    HR base φ (h.put b (some q)) { w with heap := w.heap.setIfInBounds L.m o } ∧ Mv φ h w φ (h.put b (some q)) { w with heap := w.heap.setIfInBounds L.m o } :=
  r.change hb q (by simp) (fun k hk => by simp only [Array.getElem?_setIfInBounds]; rw [if_neg (fun e => hk e.symm)]) (hq _ (by simp [Array.getElem?_setIfInBounds, hlt])) rfl rfl rfl
theorem setAt_all2 {φ : Ph} {k : SC} {v : SV} {a u : Value} (ha : CR φ k a) (hu : VR1 φ v u) : ∀ {es : List (Nat × SC × SV)} {l : List MapEntry} (i : Nat), All2 (ER φ) es l → All2 (ER φ) (setAt k v es i) (l.modify i fun e => { e with key := a, val := u })
  | [], [], i, _ => by cases i <;> simp [setAt, All2]
  | p :: es, e :: l, 0, h => by simp only [setAt, List.modify_zero_cons]; exact ⟨⟨h.1.1, ha, hu⟩, h.2⟩
  | p :: es, e :: l, i + 1, h => by simp only [setAt, List.modify_succ_cons]; exact ⟨h.1, setAt_all2 ha hu i h.2⟩
theorem eraseAt_all2 {φ : Ph} : ∀ {es : List (Nat × SC × SV)} {l : List MapEntry} (i : Nat), All2 (ER φ) es l → All2 (ER φ) (eraseAt es i) (l.eraseIdx i)
  | [], [], i, _ => by cases i <;> simp [eraseAt, All2]
  | p :: es, e :: l, 0, h => h.2
  | p :: es, e :: l, i + 1, h => ⟨h.1, eraseAt_all2 i h.2⟩
theorem vr1_of {φ : Ph} {v : SV} {u : Value} (h : VR φ v u) (hf : isFlat v = true) : VR1 φ v u := by
  cases v with
  | c x => exact h
  | agg l => exact h
  | tup l => simp [isFlat] at hf
def FitsU (base : Nat) (φ : Ph) (h : SH) (w : World) (h' : SH) (r : Result Unit) : Prop := ∃ w' φ', r = .ok () w' ∧ HR base φ' h' w' ∧ Mv φ h w φ' h' w'
theorem update_sound {base : Nat} {φ : Ph} {h h' : SH} {w : World} (r : HR base φ h w) {mt : TypeId} {m k v : SV} {a b u : Value} (hm : VR φ m a) (hk : VR φ k b) (hv : VR φ v u) (hs : sUpdate P mt h m k v = some h') : FitsU base φ h w h' ((Instr.mapUpdate mt a b u).run P w) := by
  unfold sUpdate at hs
  split at hs
  · rename_i kt et bb k ht
    split at hs
    · rename_i hc
      obtain ⟨hkk, hfl⟩ := hc
      have hv1 := vr1_of hv hfl
      obtain ⟨L, hL, rfl⟩ := hm
      split at hs
      · rename_i es clock hb
        obtain ⟨hbase, vs, h1, h2⟩ := r.map hb hL
        have hlt : L.m < w.heap.size := (Array.getElem?_eq_some_iff.1 h1).1
        obtain ⟨d, hd, hck⟩ := check_run hkk hk false w
        split at hs
        · rename_i i v0 hfd
          simp only [Option.some.injEq] at hs
          subst hs
          rcases find_sound hd hkk hk h2 hfd with ⟨h3, _⟩ | ⟨j, v', u', e, h3, h4, h5, h6, h7⟩
          · cases h3
          · cases h3
            simp only [Nat.zero_add] at h4 ⊢
            have hj : vs[j]? = some e := by simpa using h6
            obtain ⟨g1, g2⟩ := Fits.set (base := base) (o := .map (vs.modify j fun e => { e with key := b, val := u }) clock) (q := .map (setAt k v es j) clock) r ⟨_, hb, rfl, hL⟩ hlt (fun w' hw => ⟨hbase, _, hw, by
              rw [Array.toList_modify]
              exact setAt_all2 hk hv1 j h2⟩)
            refine ⟨_, φ, ?_, g1, g2⟩
            simp [Instr.mapUpdate, run_underlying ht, run_get rfl h1, hck, findKey_run hd h4, Instr.keyThatStays, hj, h7, run_set _ rfl h1]
        · rename_i hfd
          simp only [Option.some.injEq] at hs
          subst hs
          rcases find_sound hd hkk hk h2 hfd with ⟨_, h4⟩ | ⟨j, v', u', e, h3, _⟩
          · obtain ⟨g1, g2⟩ := Fits.set (base := base) (o := .map (vs.push { key := b, val := u, born := clock }) (clock + 1)) (q := .map (es ++ [(clock, k, v)]) (clock + 1)) r ⟨_, hb, rfl, hL⟩ hlt (fun w' hw => ⟨hbase, _, hw, by
              rw [Array.toList_push]
              exact h2.app ⟨⟨rfl, hk, hv1⟩, trivial⟩⟩)
            refine ⟨_, φ, ?_, g1, g2⟩
            simp [Instr.mapUpdate, run_underlying ht, run_get rfl h1, hck, findKey_run hd h4, run_set _ rfl h1]
          · cases h3
        · cases hs
      · cases hs
    · cases hs
  · cases hs
theorem put_same {base : Nat} {φ : Ph} {h : SH} {w w' : World} {b : Nat} {q : SO} (hb : h.get b = some q) (r : HR base φ (h.put b (some q)) w') (m : Mv φ h w φ (h.put b (some q)) w') : HR base φ h w' ∧ Mv φ h w φ h w' := by
  have hgo : ∀ j, (h.put b (some q)).get j = h.get j := fun j => by
    rw [SH.get_put]
    split
    · rename_i e; rw [e, hb]
    · rfl
  have how : ∀ c M, Owns φ h c M ↔ Owns φ (h.put b (some q)) c M := fun c M => by simp only [Owns, hgo]
  exact ⟨⟨r.dom, r.lo, fun c o hc => r.live c o (by rw [hgo]; exact hc), fun m o hm => ⟨(r.froz m o hm).1, fun c M hc => (r.froz m o hm).2 c M ((how _ _).1 hc)⟩, fun c c' o M M' h1 h2 h3 h4 => r.inj c c' o M M' ((how _ _).1 h1) (by rw [hgo]; exact h2) h3 h4⟩,
    ⟨m.le, m.os, m.tape, m.output, m.size, m.keep, fun c M hc => m.own c M ((how _ _).1 hc), fun c q M hc hM => m.has c q M (by rw [hgo]; exact hc) hM, m.fm, m.nx, m.nw⟩⟩
theorem delete_sound {base : Nat} {φ : Ph} {h h' : SH} {w : World} (r : HR base φ h w) {mt : TypeId} {m k : SV} {a b : Value} (hm : VR φ m a) (hk : VR φ k b) (hs : sDelete P mt h m k = some h') (ts : Array TypeId) (ht0 : ts[0]? = some mt) (ty : TypeId) : Fits base φ h w (.tup []) h' ((Builtin.delete_ ts ty #[a, b]).run P w) := by
  unfold sDelete at hs
  split at hs
  · rename_i kt et k ht
    split at hs
    · rename_i hkk
      simp only [Option.some.injEq] at hs
      subst hs
      simp only [VR, VR1, CR] at hm
      subst hm
      obtain ⟨d, hd, hck⟩ := check_run hkk hk true w
      exact Fits.pure r (v' := .tuple #[]) (by simp [Builtin.delete_, ht0, run_underlying ht, hck]) ⟨#[], rfl, trivial⟩
    · cases hs
  · rename_i kt et bb k ht
    split at hs
    · rename_i hkk
      obtain ⟨L, hL, rfl⟩ := hm
      split at hs
      · rename_i es clock hb
        obtain ⟨hbase, vs, h1, h2⟩ := r.map hb hL
        have hlt : L.m < w.heap.size := (Array.getElem?_eq_some_iff.1 h1).1
        obtain ⟨d, hd, hck⟩ := check_run hkk hk vs.isEmpty w
        split at hs
        · rename_i i v0 hfd
          simp only [Option.some.injEq] at hs
          subst hs
          rcases find_sound hd hkk hk h2 hfd with ⟨h3, _⟩ | ⟨j, v', u', e, h3, h4, h5, h6, h7⟩
          · cases h3
          · cases h3
            simp only [Nat.zero_add] at h4 ⊢
            have hj := (List.getElem?_eq_some_iff.1 h6).1
            obtain ⟨g1, g2⟩ := Fits.set (base := base) (o := .map (vs.eraseIdxIfInBounds j) clock) (q := .map (eraseAt es j) clock) r ⟨_, hb, rfl, hL⟩ hlt (fun w' hw => ⟨hbase, _, hw, by
              have : (vs.eraseIdxIfInBounds j).toList = vs.toList.eraseIdx j := by
                rw [Array.length_toList] at hj
                simp [Array.eraseIdxIfInBounds, hj]
              rw [this]
              exact eraseAt_all2 j h2⟩)
            refine ⟨.tuple #[], _, φ, ?_, ⟨#[], rfl, trivial⟩, g1, g2⟩
            simp [Builtin.delete_, ht0, run_underlying ht, run_get rfl h1, hck, findKey_run hd h4, run_set _ rfl h1]
        · rename_i hfd
          simp only [Option.some.injEq] at hs
          subst hs
          rcases find_sound hd hkk hk h2 hfd with ⟨_, h4⟩ | ⟨j, v', u', e, h3, _⟩
          · obtain ⟨g1, g2⟩ := Fits.set (base := base) (o := .map vs clock) (q := .map es clock) r ⟨_, hb, rfl, hL⟩ hlt (fun w' hw => ⟨hbase, _, hw, h2⟩)
            obtain ⟨g1, g2⟩ := put_same hb g1 g2
            refine ⟨.tuple #[], _, φ, ?_, ⟨#[], rfl, trivial⟩, g1, g2⟩
            simp [Builtin.delete_, ht0, run_underlying ht, run_get rfl h1, hck, findKey_run hd h4, run_set _ rfl h1]
          · cases h3
        · cases hs
      · cases hs
    · cases hs
  · cases hs
theorem Fits.newO {base : Nat} {φ : Ph} {h : SH} {w : World} (r : HR base φ h w) {q : SO} {o : Obj} (hq : q.own = true) (hl : ∀ ψ (w' : World), Le φ ψ → w'.heap[w.heap.size]? = some o → Live base ψ w' ⟨w.heap.size, 0, 0, 0⟩ q) :
    ∃ φ', HR base φ' (h.newO q) { w with heap := w.heap.push o } ∧ Mv φ h w φ' (h.newO q) { w with heap := w.heap.push o } ∧ φ' h.next = some ⟨w.heap.size, 0, 0, 0⟩ := by
  obtain ⟨g1, g2, g3⟩ := r.allocO (w' := { w with heap := w.heap.push o }) q o hq (by simp) (fun k hk => by simp [Array.getElem?_push, show k ≠ w.heap.size by omega]) (by simp) (fun ψ hle => hl ψ _ hle (by simp)) rfl rfl rfl
  exact ⟨_, g1, g2, g3⟩
theorem makeMap_sound {base : Nat} {φ : Ph} {h : SH} {w : World} (r : HR base φ h w) : ∃ φ', HR base φ' (h.newO (.map [] 0)) { w with heap := w.heap.push (.map #[] 0) } ∧ Mv φ h w φ' (h.newO (.map [] 0)) { w with heap := w.heap.push (.map #[] 0) } ∧ VR φ' (.c (.mp (some h.next))) (.map (some w.heap.size)) := by
  obtain ⟨φ', g1, g2, g3⟩ := Fits.newO (base := base) (q := .map [] 0) (o := .map #[] 0) r rfl (fun ψ w' _ hw => ⟨r.lo, #[], hw, trivial⟩)
  exact ⟨φ', g1, g2, _, g3, rfl⟩
theorem range_sound {base : Nat} {φ : Ph} {h h' : SH} {w : World} (r : HR base φ h w) {xt : TypeId} {x v : SV} {a : Value} (hx : VR φ x a) (hs : sRange P xt h x = some (v, h')) : Fits base φ h w v h' ((Instr.range xt a).run P w) := by
  unfold sRange at hs
  split at hs
  · rename_i kt et ht
    simp only [VR, VR1, CR] at hx
    subst hx
    simp only [Option.some.injEq, Prod.mk.injEq] at hs
    obtain ⟨rfl, rfl⟩ := hs
    obtain ⟨φ', g1, g2, g3⟩ := Fits.newO (base := base) (q := .iter none 0 [] 0) (o := .mapIter none 0 #[] 0) r rfl (fun ψ w' _ hw => ⟨r.lo, rfl, none, hw, rfl⟩)
    exact ⟨_, _, φ', by simp [Instr.range, run_underlying ht]; try exact ⟨rfl, rfl⟩, ⟨_, g3, rfl⟩, g1, g2⟩
  · rename_i kt et b ht
    obtain ⟨L, hL, rfl⟩ := hx
    split at hs
    · rename_i es clock hb
      simp only [Option.some.injEq, Prod.mk.injEq] at hs
      obtain ⟨rfl, rfl⟩ := hs
      obtain ⟨hbase, vs, h1, h2⟩ := r.map hb hL
      obtain ⟨φ', g1, g2, g3⟩ := Fits.newO (base := base) (q := .iter (some b) clock [] clock) (o := .mapIter (some L.m) clock #[] clock) r rfl (fun ψ w' hle hw => ⟨r.lo, rfl, _, hw, L, hle.f _ _ hL, rfl⟩)
      exact ⟨_, _, φ', by simp [Instr.range, run_underlying ht, run_get rfl h1]; try exact ⟨rfl, rfl⟩, ⟨_, g3, rfl⟩, g1, g2⟩
    · cases hs
  · cases hs
theorem filter_all2 {φ : Ph} {p : Nat × SC × SV → Bool} {q : MapEntry → Bool} : ∀ {es : List (Nat × SC × SV)} {l : List MapEntry}, All2 (ER φ) es l → (∀ x e, ER φ x e → p x = q e) → All2 (ER φ) (es.filter p) (l.filter q)
  | [], [], _, _ => trivial
  | x :: es, e :: l, h, hpq => by
    have ih := filter_all2 h.2 hpq
    have := hpq x e h.1
    by_cases hp : p x = true
    · rw [List.filter_cons_of_pos hp, List.filter_cons_of_pos (by rw [← this]; exact hp)]
      exact ⟨h.1, ih⟩
    · rw [List.filter_cons_of_neg hp, List.filter_cons_of_neg (by rw [← this]; exact hp)]
      exact ih
theorem all2_one' {α β : Type} {R : α → β → Prop} {x : α} {l : List β} (h : All2 R [x] l) : ∃ y, l = [y] ∧ R x y := by
  match l, h with
  | [y], h => exact ⟨y, rfl, h.1⟩
theorem nbeq (a b : Nat) : Nat.beq a b = (a == b) := by
  rw [Bool.eq_iff_iff, Nat.beq_eq]; simp
theorem nblt (a b : Nat) : Nat.blt a b = decide (a < b) := by
  rw [Bool.eq_iff_iff]
  show (Nat.ble (a + 1) b = true) ↔ _
  rw [Nat.ble_eq]; simp; omega
theorem nble (a b : Nat) : Nat.ble a b = decide (a ≤ b) := by
  rw [Bool.eq_iff_iff, Nat.ble_eq]; simp
theorem any_beq (a : Nat) : ∀ l : List Nat, l.any (Nat.beq a) = l.contains a
  | [] => rfl
  | y :: l => by rw [List.any_cons, List.contains_cons, any_beq a l, nbeq]
theorem ptr_at {base : Nat} {φ : Ph} {h : SH} {w : World} (r : HR base φ h w) {b : Nat} {q : SO} (hb : h.get b = some q) {L : Loc} (hL : φ b = some L) : Live base φ w L q := by
  obtain ⟨L', h1, h2⟩ := r.live b q hb
  rw [hL] at h1
  cases h1
  exact h2
theorem all2_all {φ : Ph} {p : Nat × SC × SV → Bool} {q : MapEntry → Bool} : ∀ {es : List (Nat × SC × SV)} {l : List MapEntry}, All2 (ER φ) es l → (∀ x e, ER φ x e → p x = q e) → es.all p = l.all q
  | [], [], _, _ => rfl
  | x :: es, e :: l, h, hpq => by simp only [List.all_cons]; rw [hpq x e h.1, all2_all h.2 hpq]
theorem next_sound {base : Nat} {φ : Ph} {h h' : SH} {w : World} (r : HR base φ h w) {x v : SV} {a : Value} (hx : VR φ x a) (hs : sNext h x = some (v, h')) (ty : TypeId) : Fits base φ h w v h' ((Instr.next a false ty).run P w) := by
  unfold sNext at hs
  split at hs
  · rename_i rb
    obtain ⟨LI, hLI, rfl⟩ := hx
    split at hs
    · rename_i since seen last hi
      obtain ⟨k1, k2, m', k3, k4⟩ := ptr_at r hi hLI
      have k4 : m' = none := k4
      subst k4
      simp only [Option.some.injEq, Prod.mk.injEq] at hs
      obtain ⟨rfl, rfl⟩ := hs
      refine Fits.pure r (v' := .tuple #[.bool false]) ?_ ⟨_, rfl, rfl, trivial⟩
      simp [Instr.next, k2, run_get rfl k3]
    · rename_i b since seen last hi
      obtain ⟨k1, k2, m', k3, k4⟩ := ptr_at r hi hLI
      obtain ⟨L, hL, rfl⟩ := k4
      split at hs
      · rename_i es clock hb
        obtain ⟨hbase, vs, h1, h2⟩ := r.map hb hL
        split at hs
        · cases hs
        · rename_i hcond
          have hcnd : (!(seen.toArray).isEmpty && !vs.isEmpty && vs.all (fun e => decide (e.born ≥ last))) = false := by
            have e1 : es.all (fun e => Nat.ble last e.1) = vs.toList.all (fun e => decide (e.born ≥ last)) := all2_all h2 (fun x e hxe => by
              rw [hxe.1]
              by_cases hle : last ≤ x.1
              · rw [Nat.ble_eq_true_of_le hle]; simp [hle]
              · have : Nat.ble last x.1 = false := by
                  cases hq : Nat.ble last x.1 with
                  | false => rfl
                  | true => exact absurd (Nat.le_of_ble_eq_true hq) hle
                rw [this]; simp; omega)
            have e2 : es.isEmpty = vs.isEmpty := by
              have := h2.length
              cases es with
              | nil => simp at this; simp [Array.isEmpty, ← this]
              | cons _ _ => simp at this; simp [Array.isEmpty, ← this]
            rw [e1, e2] at hcond
            simpa using hcond
          have f1 := filter_all2 (p := fun e => !(seen.any (Nat.beq e.1)) && Nat.blt e.1 since) (q := fun e => !(seen.toArray.contains e.born) && decide (e.born < since)) h2 (fun x e hxe => by
            rw [hxe.1, any_beq, nblt, List.contains_toArray])
          have f2 := filter_all2 (p := fun e => !(seen.any (Nat.beq e.1)) && !(Nat.blt e.1 since)) (q := fun e => !(seen.toArray.contains e.born) && decide (e.born ≥ since)) h2 (fun x e hxe => by
            rw [hxe.1, any_beq, nblt, List.contains_toArray]
            by_cases hlt : x.1 < since
            · simp [hlt]
            · simp [hlt]; omega)
          have hold : ((vs.filter fun e => !(seen.toArray.contains e.born)).filter fun e => decide (e.born < since)) = (vs.toList.filter fun e => !(seen.toArray.contains e.born) && decide (e.born < since)).toArray := by
            apply Array.ext'; simp [List.filter_filter, Bool.and_comm]
          have hnew : ((vs.filter fun e => !(seen.toArray.contains e.born)).filter fun e => decide (e.born ≥ since)) = (vs.toList.filter fun e => !(seen.toArray.contains e.born) && decide (e.born ≥ since)).toArray := by
            apply Array.ext'; simp [List.filter_filter, Bool.and_comm]
          split at hs
          · rename_i g1 g2
            rw [g1] at f1
            rw [g2] at f2
            simp only [Option.some.injEq, Prod.mk.injEq] at hs
            obtain ⟨rfl, rfl⟩ := hs
            have n1 : vs.toList.filter (fun e => !(seen.toArray.contains e.born) && decide (e.born < since)) = [] := by
              have := f1.length; simpa using this.symm
            have n2 : vs.toList.filter (fun e => !(seen.toArray.contains e.born) && decide (e.born ≥ since)) = [] := by
              have := f2.length; simpa using this.symm
            rw [n1] at hold
            rw [n2] at hnew
            refine Fits.pure r (v' := .tuple #[.bool false]) ?_ ⟨_, rfl, rfl, trivial⟩
            simp only [Instr.next, k2, Nat.zero_add, Sem.run_bind, run_get rfl k3, run_get rfl h1, Result.andThen_ok, hcnd, hold, hnew, Bool.false_eq_true, if_false]
            simp [Question.forced, choose, Sem.run]
          · rename_i e g1 g2
            rw [g1] at f1
            rw [g2] at f2
            simp only [Option.some.injEq, Prod.mk.injEq] at hs
            obtain ⟨rfl, rfl⟩ := hs
            obtain ⟨e', n1, r1, r2, r3⟩ := all2_one' f1
            have n2 : vs.toList.filter (fun e => !(seen.toArray.contains e.born) && decide (e.born ≥ since)) = [] := by
              have := f2.length; simpa using this.symm
            rw [n1] at hold
            rw [n2] at hnew
            have hlt : LI.m < w.heap.size := (Array.getElem?_eq_some_iff.1 k3).1
            obtain ⟨q1, q2⟩ := Fits.set (base := base) (o := .mapIter (some L.m) since (seen.toArray.push e'.born) clock) (q := .iter (some b) since (seen ++ [e.1]) clock) r ⟨_, hi, rfl, hLI⟩ hlt (fun w' hw => ⟨k1, k2, _, by rw [hw, r1]; simp, L, hL, rfl⟩)
            refine ⟨.tuple #[.bool true, e'.key, e'.val], _, φ, ?_, ⟨_, rfl, rfl, r2, r3, trivial⟩, q1, q2⟩
            simp only [Instr.next, k2, Nat.zero_add, Sem.run_bind, run_get rfl k3, run_get rfl h1, Result.andThen_ok, hcnd, hold, hnew, Bool.false_eq_true, if_false]
            simp [Question.forced, choose, Sem.run, run_set _ rfl k3]
          · cases hs
      · cases hs
    · cases hs
  · cases hs
theorem lastOf_eq : ∀ l : List Nat, lastOf l = l.getLast?
  | [] => rfl
  | [x] => rfl
  | _ :: y :: r => by rw [lastOf, lastOf_eq (y :: r)]; simp
theorem findBorn_sound {φ : Ph} {k : Nat} {x : Nat × SC × SV} : ∀ {es : List (Nat × SC × SV)} {l : List MapEntry}, All2 (ER φ) es l → findBorn k es = some x → ∃ e, l.find? (fun e => e.born == k) = some e ∧ ER φ x e
  | [], [], _, h => by cases h
  | p :: es, e :: l, hl, h => by
    simp only [findBorn, nbeq] at h
    rw [List.find?_cons, hl.1.1]
    by_cases hp : (p.1 == k) = true
    · rw [if_pos hp] at h
      cases h
      rw [hp]
      exact ⟨e, rfl, hl.1⟩
    · rw [if_neg hp] at h
      have : (p.1 == k) = false := by simpa using hp
      rw [this]
      exact findBorn_sound hl.2 h
theorem entry_sound {base : Nat} {φ : Ph} {h : SH} {w : World} (r : HR base φ h w) {x v : SV} {a : Value} (hx : VR φ x a) (hs : sEntry h x = some v) : Fits base φ h w v h ((Instr.entry a).run P w) := by
  unfold sEntry at hs
  split at hs
  · rename_i rb
    obtain ⟨LI, hLI, rfl⟩ := hx
    split at hs
    · rename_i b since seen last hi
      obtain ⟨k1, k2, m', k3, k4⟩ := ptr_at r hi hLI
      obtain ⟨L, hL, rfl⟩ := k4
      split at hs
      · rename_i k es clock hk hb
        obtain ⟨hbase, vs, h1, h2⟩ := r.map hb hL
        split at hs
        · rename_i hc
          subst hc
          split at hs
          · rename_i e he
            simp only [Option.some.injEq] at hs
            subst hs
            obtain ⟨e', g1, g2⟩ := findBorn_sound h2 he
            have hbk : seen.toArray.back? = some k := by rw [lastOf_eq] at hk; simp [hk]
            have hf : vs.find? (fun e => e.born == k) = some e' := by rw [← g1]; simp
            refine Fits.pure r (v' := .tuple #[e'.key, e'.val]) ?_ ⟨_, rfl, g2.2.1, g2.2.2, trivial⟩
            simp [Instr.entry, k2, run_get rfl k3, run_get rfl h1, hbk, hf]
          · cases hs
        · cases hs
      · cases hs
    · cases hs
  · cases hs
/-! ### Functions of Go's library without a body -/
theorem clone_row {fn : Func} (h1 : fn.name = "maps.clone") (h2 : fn.origin = "maps.clone" ∨ fn.origin = "") : Extern.findNext fn = none ∧ Extern.find fn = some Extern.MapsClone.clone := by
  have e1 : Extern.allNextRows.lookup "maps.clone" = none := by rfl
  have e2 : Extern.allNextRows.lookup "" = none := by rfl
  have e3 : Extern.allGenericRows.lookup "maps.clone" = none := by rfl
  have e4 : Extern.allTypedRows.lookup "maps.clone" = none := by rfl
  have e5 : Extern.allRows.lookup "maps.clone" = some Extern.MapsClone.clone := by rfl
  constructor
  · unfold Extern.findNext
    rw [h1]
    rcases h2 with h2 | h2 <;> simp [h2, e1, e2]
  · unfold Extern.find
    rw [h1]
    simp [e3, e4, e5]
theorem clone_at (t : TypeId) (r : Nat) : Extern.MapsClone.clone #[.iface t (.map (some r))] = (getObj r >>= fun o => match o with
    | .map entries clock => newObj (.map entries clock) >>= fun q => pure (.iface t (.map (some q)))
    | _ => stuck "maps.clone: a map expected") := rfl
theorem extern_sound {base : Nat} {φ : Ph} {h h' : SH} {w : World} (r : HR base φ h w) {f : FuncId} {args : List SV} {v : SV} {l : List Value} (ha : All2 (VR φ) args l) (hs : sExtern P f args h = some (v, h')) :
    ∃ v' w' φ', (callFunc f l.toArray).run P w = .ok (.value v') w' ∧ VR φ' v v' ∧ HR base φ' h' w' ∧ Mv φ h w φ' h' w' := by
  unfold sExtern at hs
  split at hs
  · rename_i fn hfn
    split at hs
    · cases hs
    · rename_i hbody
      split at hs
      · rename_i hname
        simp only [Bool.and_eq_true, Bool.or_eq_true, beq_iff_eq] at hname
        obtain ⟨g1, g2⟩ := clone_row hname.1 hname.2
        split at hs
        · rename_i t b
          match l, ha with
          | [u], hu =>
            have hu := hu.1
            simp only [VR, VR1, CR] at hu
            obtain ⟨u', rfl, L, hL, rfl⟩ := hu
            split at hs
            · rename_i es clock hb
              simp only [Option.some.injEq, Prod.mk.injEq] at hs
              obtain ⟨rfl, rfl⟩ := hs
              obtain ⟨hbase, vs, h1, h2⟩ := r.map hb hL
              obtain ⟨φ', q1, q2, q3⟩ := Fits.newO (base := base) (q := .map es clock) (o := .map vs clock) r rfl (fun ψ w' hle hw => ⟨r.lo, vs, hw, h2.mono fun _ _ x => x.mono hle⟩)
              refine ⟨.iface t (.map (some w.heap.size)), _, φ', ?_, ?_, q1, q2⟩
              · simp [callFunc, hfn, hname.1, hbody, g1, g2, clone_at, run_get rfl h1]
              · simp only [VR, VR1, CR]
                exact ⟨_, rfl, _, q3, rfl⟩
            · cases hs
        · cases hs
      · cases hs
  · cases hs
theorem ones_all2 {φ : Ph} : ∀ {l : List SV} {r : List SC} {vs : List Value}, onesOf l = some r → All2 (VR φ) l vs → All2 (CR φ) r vs
  | [], r, [], h, _ => by simp only [onesOf, Option.some.injEq] at h; subst h; trivial
  | .c x :: l, r, v :: vs, h, hv => by
    simp only [onesOf] at h
    split at h
    · rename_i r' hr
      simp only [Option.some.injEq] at h
      subst h
      exact ⟨hv.1, ones_all2 hr hv.2⟩
    · cases h
  | .agg _ :: _, _, _, h, _ => by simp [onesOf] at h
  | .tup _ :: _, _, _, h, _ => by simp [onesOf] at h
theorem all2_c {φ : Ph} : ∀ {r : List SC} {vs : List Value}, All2 (CR φ) r vs → All2 (VR φ) (r.map SV.c) vs
  | [], [], _ => trivial
  | _ :: _, _ :: _, h => ⟨h.1, all2_c h.2⟩
/-! ### Structs that are compared -/
theorem keyEq_run {φ : Ph} {kt : TypeId} {k x : SC} {a b : Value} {r : Bool} (hk : keyKind P kt k = true) (ha : CR φ k a) (hb : CR φ x b) (h : keyEq k x = some r) (d : Nat) (w : World) : (Op.equalIn (d + 1) kt a b).run P w = .ok r w := by
  unfold keyKind at hk
  unfold keyEq at h
  split at h
  · rename_i k1 n1 k2 n2
    simp only [CR] at ha hb
    subst ha hb
    split at h
    · rename_i hkk
      subst hkk
      simp only [Option.some.injEq] at h
      subst h
      cases hu : P.underlying kt with
      | none => rw [hu] at hk; simp at hk
      | some dd =>
        rw [hu] at hk
        cases dd <;> simp at hk
        rw [run_equalIn_int w d kt k1 _ n1 n2 hu]
        by_cases e : n1 = n2 <;> simp [e]
    · cases h
  · obtain ⟨s1, rfl, h1⟩ := ha
    obtain ⟨s2, rfl, h2⟩ := hb
    simp only [Option.some.injEq] at h
    subst h
    cases hu : P.underlying kt with
    | none => rw [hu] at hk; simp at hk
    | some dd =>
      rw [hu] at hk
      cases dd <;> simp at hk
      rw [run_equalIn_string w d kt s1 s2 hu, eq_nat, h1, h2]
  · simp only [CR] at ha hb
    subst ha hb
    simp only [Option.some.injEq] at h
    subst h
    cases hu : P.underlying kt with
    | none => rw [hu] at hk; simp at hk
    | some dd =>
      rw [hu] at hk
      cases dd <;> simp at hk
      rw [run_equalIn_bool' w d kt _ _ hu]
  · cases h
theorem eqFields_run {φ : Ph} {x y : List SC} {xs ys : Array Value} (hx : All2 (CR φ) x xs.toList) (hy : All2 (CR φ) y ys.toList) (d : Nat) (w : World) : ∀ {fs : List Field} {r : Bool}, eqFields P fs x y = some r → (Op.eqFields (d + 1) xs ys fs).run P w = .ok r w
  | [], r, h => by simp only [eqFields, Option.some.injEq] at h; subst h; simp [Op.eqFields]
  | f :: fs, r, h => by
    simp only [eqFields] at h
    split at h
    · cases h
    · rename_i hnm
      split at h
      · rename_i a b ha hb
        split at h
        · rename_i hk
          split at h
          · rename_i u v hu hv
            simp only [Option.some.injEq] at h
            subst h
            obtain ⟨va, q1, q2⟩ := part_sound (P := P) hx ha w
            obtain ⟨vb, q3, q4⟩ := part_sound (P := P) hy hb w
            have q5 := keyEq_run hk q2 q4 hu d w
            have q6 := eqFields_run hx hy d w hv
            cases u <;> simp [Op.eqFields, hnm, q1, q3, q5, q6]
          · cases h
        · cases h
      · cases h
theorem eqElems_run {φ : Ph} {x y : List SC} {xs ys : Array Value} (hx : All2 (CR φ) x xs.toList) (hy : All2 (CR φ) y ys.toList) (d : Nat) (w : World) (e : TypeId) (c : Nat) : ∀ {is : List Nat} {r : Bool}, eqElems P e c is x y = some r → (Op.eqItems (d + 1) e c xs ys is).run P w = .ok r w
  | [], r, h => by simp only [eqElems, Option.some.injEq] at h; subst h; simp [Op.eqItems]
  | i :: is, r, h => by
    simp only [eqElems] at h
    split at h
    · rename_i a b ha hb
      split at h
      · rename_i hk
        split at h
        · rename_i u v hu hv
          simp only [Option.some.injEq] at h
          subst h
          obtain ⟨va, q1, q2⟩ := part_sound (P := P) hx ha w
          obtain ⟨vb, q3, q4⟩ := part_sound (P := P) hy hb w
          have q5 := keyEq_run hk q2 q4 hu d w
          have q6 := eqElems_run hx hy d w e c hv
          cases u <;> simp [Op.eqItems, q1, q3, q5, q6]
        · cases h
      · cases h
    · cases h
theorem binAgg_sound {φ : Ph} (op : BinOp) (ty : TypeId) (X Y : Operand) {x y : List SC} {z : SC} {a b : Value} (hx : VR φ (.agg x) a) (hy : VR φ (.agg y) b) (h : sBinAgg P ty op x y = some z) (w : World) :
    ∃ v, (do eqGuard op ty X Y a b; Go.binOp op ty a b : Sem Value).run P w = .ok v w ∧ CR φ z v := by
  obtain ⟨xs, rfl, hx⟩ := hx
  obtain ⟨ys, rfl, hy⟩ := hy
  unfold sBinAgg at h
  split at h
  · rename_i fs hu
    split at h
    · rename_i hc
      simp only [Bool.and_eq_true, Bool.not_eq_true'] at hc
      have ht : P.underlying ty = some (.struct (P.fieldsOf ty)) := by rw [hu]; simp [Program.fieldsOf, hu]
      have hg := run_eqGuard_agg (P := P) w op ty X Y xs ys hc.2
      split at h
      · cases hq : eqFields P (P.fieldsOf ty).toList x y with
        | none => simp [hq] at h
        | some r =>
          simp only [hq, Option.map_some, Option.some.injEq] at h
          subst h
          have h1 := eqFields_run hx hy 9998 w hq
          refine ⟨.bool r, ?_, rfl⟩
          rw [Sem.run_bind, hg]
          simp only [Result.andThen_ok]
          rw [run_eql_struct, run_equalIn_struct w 9999 ty xs ys ht hc.1, h1]
          rfl
      · cases hq : eqFields P (P.fieldsOf ty).toList x y with
        | none => simp [hq] at h
        | some r =>
          simp only [hq, Option.map_some, Option.some.injEq] at h
          subst h
          have h1 := eqFields_run hx hy 9998 w hq
          refine ⟨.bool (!r), ?_, rfl⟩
          rw [Sem.run_bind, hg]
          simp only [Result.andThen_ok]
          rw [run_neq_struct, run_equalIn_struct w 9999 ty xs ys ht hc.1, h1]
          rfl
      · cases h
    · cases h
  · rename_i n e hu
    split at h
    · rename_i hc
      simp only [Bool.and_eq_true, Bool.not_eq_true'] at hc
      obtain ⟨i, hi⟩ := Option.isSome_iff_exists.1 hc.2
      have hg := run_eqGuard_agg (P := P) w op ty X Y xs ys hc.1
      split at h
      · cases hq : eqElems P e (P.cellsOf e) (List.range n) x y with
        | none => simp [hq] at h
        | some r =>
          simp only [hq, Option.map_some, Option.some.injEq] at h
          subst h
          have h1 := eqElems_run hx hy 9998 w e (P.cellsOf e) hq
          refine ⟨.bool r, ?_, rfl⟩
          rw [Sem.run_bind, hg]
          simp only [Result.andThen_ok]
          rw [run_eql_struct, run_equalIn_array w 9999 xs ys hu hi, h1]
          rfl
      · cases hq : eqElems P e (P.cellsOf e) (List.range n) x y with
        | none => simp [hq] at h
        | some r =>
          simp only [hq, Option.map_some, Option.some.injEq] at h
          subst h
          have h1 := eqElems_run hx hy 9998 w e (P.cellsOf e) hq
          refine ⟨.bool (!r), ?_, rfl⟩
          rw [Sem.run_bind, hg]
          simp only [Result.andThen_ok]
          rw [run_neq_struct, run_equalIn_array w 9999 xs ys hu hi, h1]
          rfl
      · cases h
    · cases h
  · cases h
end Go.Proofs.Ytjlfojgacnphmaa.Sim

namespace Go.Proofs.Ytjlfojgacnphmaa.Sim
open Go Go.RowKit
set_option linter.unusedSimpArgs false
set_option linter.unusedVariables false
variable {P : Program}

def CallOK (P : Program) (base : Nat) (call : FuncId → List SV → SH → Option (SV × SH)) : Prop :=
  ∀ f args h v h', call f args h = some (v, h') → (∃ fn, P.funcs[f]? = some fn ∧ fn.body.isSome = true ∧ (fn.name == "runtime.NumGoroutine") = false) ∧
    ∀ φ (args' : List Value) w, All2 (VR φ) args args' → HR base φ h w → Calls P f args'.toArray w fun e w' => ∃ v' φ', e = .returned v' ∧ VR φ' v v' ∧ HR base φ' h' w' ∧ Mv φ h w φ' h' w'
section
variable {base : Nat} {φ : Ph} {t : SF} {h h' : SH} {w : World} {o : Oper} {a : Act} {K : Act → World → Prop} {Q : Exit → Act → World → Prop} {v : SV}
theorem wp_fits {r : Sem Value} (e : execOp a.eval o = (do pure (.value (← r)))) (hf : Fits base φ h w v h' (r.run P w))
    (hK : ∀ v' w' φ', VR φ' v v' → HR base φ' h' w' → Mv φ h w φ' h' w' → K (a.put o.dst v') w') : o.wp P a w K Q := by
  obtain ⟨v', w', φ', h1, h2, h3, h4⟩ := hf
  unfold Oper.wp
  rw [e]
  simp only [Sem.run_bind, h1, Result.andThen_ok, Sem.run_pure]
  exact hK v' w' φ' h2 h3 h4
theorem wp_quiet {v1 : Value} {r : Sem Value} (hr : HR base φ h w) (e : execOp a.eval o = (do pure (.value (← r)))) (h1 : r.run P w = .ok v1 w) (hv : VR φ v v1)
    (hK : ∀ v' w' φ', VR φ' v v' → HR base φ' h w' → Mv φ h w φ' h w' → K (a.put o.dst v') w') : o.wp P a w K Q :=
  wp_fits e (Fits.pure hr h1 hv) hK
theorem all2_one {α β : Type} {R : α → β → Prop} {x : α} {l : List β} (h : All2 R [x] l) : ∃ y, l = [y] ∧ R x y := by
  match l, h with
  | [y], h => exact ⟨y, rfl, h.1⟩
theorem all2_two {α β : Type} {R : α → β → Prop} {x x' : α} {l : List β} (h : All2 R [x, x'] l) : ∃ y y', l = [y, y'] ∧ R x y ∧ R x' y' := by
  match l, h with
  | [y, y'], h => exact ⟨y, y', rfl, h.1, h.2.1⟩
theorem builtin_sound {c : Call} {b : Builtin} {args : List SV} (hop : o.op = .call c) (hcal : c.callee = .builtin b) (hr : HR base φ h w) (hargs : All2 (VR φ) args (c.args.toList.map a.eval)) (hs : sBuiltin P b c.argTypes h args = some (v, h'))
    (hK : ∀ v' w' φ', VR φ' v v' → HR base φ' h' w' → Mv φ h w φ' h' w' → K (a.put o.dst v') w') : o.wp P a w K Q := by
  have arr : ∀ l : List Value, c.args.toList.map a.eval = l → c.args.map a.eval = l.toArray := fun l hl => by
    apply Array.ext'
    simpa using hl
  have ex : ∀ (l : List Value) (r : Sem Value), c.args.toList.map a.eval = l → (∀ (ts : Array Bool), builtin b c.argTypes o.type ts l.toArray = (do pure (.value (← r)))) → execOp a.eval o = (do pure (.value (← r))) := fun l r hl hb => by
    simp only [execOp, hop, resolve, hcal, arr l hl]
    exact Eq.trans (show _ = invoke (.builtin b c.argTypes o.type (c.args.map fun | .const _ => true | _ => false)) l.toArray from rfl) (hb _)
  unfold sBuiltin at hs
  split at hs
  · rename_i x
    obtain ⟨y, hl, hxy⟩ := all2_one hargs
    split at hs
    · rename_i t0 ht0
      split at hs
      · rename_i d hd
        cases hq : sLen d h x with
        | none => simp [hq] at hs
        | some n =>
          simp only [hq, Option.map_some, Option.some.injEq, Prod.mk.injEq] at hs
          obtain ⟨rfl, rfl⟩ := hs
          exact wp_quiet (r := Builtin.len_ c.argTypes o.type #[y]) hr (ex _ _ hl fun _ => rfl) (len_sound hr hd hxy hq c.argTypes ht0 o.type) (show VR φ (.c (.int .i64 n)) _ from rfl) hK
      · cases hs
    · cases hs
  · rename_i x x'
    obtain ⟨y, y', hl, hxy, hxy'⟩ := all2_two hargs
    split at hs
    · rename_i t0 u0 ht0 hu0
      have happ : ∀ d, P.underlying u0 = some d → (∀ k, d ≠ .int k) → sAppend P t0 h x x' = some (v, h') → o.wp P a w K Q := by
        intro d hd hdi hs
        have hf := append_fits (t := t0) hr hd hdi hxy hxy' hs o.type
        have hta : ∀ ts : Array TypeId, ts[0]? = some t0 → ts[1]? = some u0 → Builtin.append_ ts o.type #[y, y'] = Builtin.append_ #[t0, u0] o.type #[y, y'] := by
          intro ts h0 h1
          simp [Builtin.append_, h0, h1]
        refine wp_fits (r := Builtin.append_ c.argTypes o.type #[y, y']) (ex _ _ hl fun _ => rfl) ?_ hK
        rw [hta _ ht0 hu0]
        exact hf
      split at hs
      · cases hs
      · rename_i d hdi hd
        exact happ d hd (fun k e => hdi k e) hs
      · cases hs
    · cases hs
  · rename_i k p k' q
    obtain ⟨y, y', hl, hxy, hxy'⟩ := all2_two hargs
    simp only [VR, VR1, CR] at hxy hxy'
    subst hxy hxy'
    simp only [Option.some.injEq, Prod.mk.injEq] at hs
    obtain ⟨rfl, rfl⟩ := hs
    exact wp_quiet (r := Builtin.min_ c.argTypes o.type #[.int k p, .int k' q]) hr (ex _ _ hl fun _ => rfl) (v1 := .int k (if q < p then q else p)) (by simp [Builtin.min_, Builtin.min2]) (show VR φ (.c (.int k _)) _ from rfl) hK
  · rename_i k p k' q
    obtain ⟨y, y', hl, hxy, hxy'⟩ := all2_two hargs
    simp only [VR, VR1, CR] at hxy hxy'
    subst hxy hxy'
    simp only [Option.some.injEq, Prod.mk.injEq] at hs
    obtain ⟨rfl, rfl⟩ := hs
    exact wp_quiet (r := Builtin.max_ c.argTypes o.type #[.int k p, .int k' q]) hr (ex _ _ hl fun _ => rfl) (v1 := .int k (if p < q then q else p)) (by simp [Builtin.max_, Builtin.max2]) (show VR φ (.c (.int k _)) _ from rfl) hK
  · rename_i x x'
    obtain ⟨y, y', hl, hxy, hxy'⟩ := all2_two hargs
    split at hs
    · rename_i t0 ht0
      cases hq : sDelete P t0 h x x' with
      | none => simp [hq] at hs
      | some h1 =>
        simp only [hq, Option.map_some, Option.some.injEq, Prod.mk.injEq] at hs
        obtain ⟨rfl, rfl⟩ := hs
        exact wp_fits (r := Builtin.delete_ c.argTypes o.type #[y, y']) (ex _ _ hl fun _ => rfl) (delete_sound hr hxy hxy' hq c.argTypes ht0 o.type) hK
    · cases hs
  · rename_i x
    obtain ⟨y, hl, hxy⟩ := all2_one hargs
    split at hs
    · rename_i t0 ht0
      split at hs
      · rename_i e he
        refine wp_fits (r := Builtin.clear_ c.argTypes o.type #[y]) (ex _ _ hl fun _ => rfl) ?_ hK
        unfold sClear at hs
        split at hs
        · simp only [VR, VR1, CR] at hxy
          subst hxy
          simp only [Option.some.injEq, Prod.mk.injEq] at hs
          obtain ⟨rfl, rfl⟩ := hs
          exact Fits.pure hr (v' := .tuple #[]) (by simp [Builtin.clear_, ht0, run_underlying (elem_of he)]) ⟨#[], rfl, trivial⟩
        · obtain ⟨ad, c0, rfl, _⟩ := hxy
          simp only [Option.some.injEq, Prod.mk.injEq] at hs
          obtain ⟨rfl, rfl⟩ := hs
          exact Fits.pure hr (v' := .tuple #[]) (by simp [Builtin.clear_, ht0, run_underlying (elem_of he)]) ⟨#[], rfl, trivial⟩
        · rename_i b0 o0 n0 s0 c0
          split at hs
          · rename_i h0
            subst h0
            obtain ⟨L, ad, cap, _, rfl, _⟩ := hxy
            simp only [Option.some.injEq, Prod.mk.injEq] at hs
            obtain ⟨rfl, rfl⟩ := hs
            exact Fits.pure hr (v' := .tuple #[]) (by simp [Builtin.clear_, ht0, run_underlying (elem_of he)]) ⟨#[], rfl, trivial⟩
          · rename_i h0
            split at hs
            · rename_i z hz
              split at hs
              · rename_i hzc
                cases hw : h.write b0 o0 (rep z n0) with
                | none => simp [hw] at hs
                | some h1 =>
                  simp only [hw, Option.map_some, Option.some.injEq, Prod.mk.injEq] at hs
                  obtain ⟨rfl, rfl⟩ := hs
                  obtain ⟨w', g1, g2, g3⟩ := clear_fits (P := P) hr he hz hzc.1 hzc.2 hxy hw (by omega) c.argTypes ht0 o.type
                  exact ⟨_, w', φ, g1, ⟨#[], rfl, trivial⟩, g2, g3⟩
              · cases hs
            · cases hs
        · cases hs
      · cases hs
    · cases hs
  · cases hs
set_option maxHeartbeats 1000000 in
theorem step_sound {call : FuncId → List SV → SH → Option (SV × SH)} (hc : CallOK P base call) (ht : TR φ t a) (hr : HR base φ h w) (hs : step P call t h o = some (v, h'))
    (hK : ∀ v' w' φ', VR φ' v v' → HR base φ' h' w' → Mv φ h w φ' h' w' → K (a.put o.dst v') w') : o.wp P a w K Q := by
  cases hop : o.op with
  | move x =>
    simp only [step, hop] at hs
    cases hv : ev t x with
    | none => simp [hv] at hs
    | some q =>
      simp only [hv, Option.map_some, Option.some.injEq, Prod.mk.injEq] at hs
      obtain ⟨rfl, rfl⟩ := hs
      exact wp_quiet (r := pure (a.eval x)) hr (by simp [execOp, hop]) rfl (ev_sound ht hv) hK
  | assign x =>
    simp only [step, hop] at hs
    cases hv : ev t x with
    | none => simp [hv] at hs
    | some q =>
      simp only [hv, Option.map_some, Option.some.injEq, Prod.mk.injEq] at hs
      obtain ⟨rfl, rfl⟩ := hs
      exact wp_quiet (r := pure (a.eval x)) hr (by simp [execOp, hop]) rfl (ev_sound ht hv) hK
  | pick c x y =>
    simp only [step, hop] at hs
    split at hs
    · rename_i hcv
      have hcv := ev_sound ht hcv
      simp only [VR, VR1, CR] at hcv
      cases hv : ev t x with
      | none => simp [hv] at hs
      | some q =>
        simp only [hv, Option.map_some, Option.some.injEq, Prod.mk.injEq] at hs
        obtain ⟨rfl, rfl⟩ := hs
        exact wp_quiet (r := pure (a.eval x)) hr (by simp [execOp, hop, hcv, asBool]) rfl (ev_sound ht hv) hK
    · rename_i hcv
      have hcv := ev_sound ht hcv
      simp only [VR, VR1, CR] at hcv
      cases hv : ev t y with
      | none => simp [hv] at hs
      | some q =>
        simp only [hv, Option.map_some, Option.some.injEq, Prod.mk.injEq] at hs
        obtain ⟨rfl, rfl⟩ := hs
        exact wp_quiet (r := pure (a.eval y)) hr (by simp [execOp, hop, hcv, asBool]) rfl (ev_sound ht hv) hK
    · cases hs
  | alloc e =>
    simp only [step, hop] at hs
    split at hs
    · rename_i z hz
      simp only [Option.some.injEq, Prod.mk.injEq] at hs
      obtain ⟨rfl, rfl⟩ := hs
      exact wp_fits (r := Instr.alloc e true (.tuple #[])) (by simp [execOp, hop]) (alloc_fits hr hz) hK
    · cases hs
  | box e x =>
    simp only [step, hop] at hs
    split at hs
    · rename_i q hq
      split at hs
      · rename_i cs hcs
        simp only [Option.some.injEq, Prod.mk.injEq] at hs
        obtain ⟨rfl, rfl⟩ := hs
        exact wp_fits (r := Instr.box e (a.eval x)) (by simp [execOp, hop]) (box_fits hr e (ev_sound ht hq) hcs) hK
      · cases hs
    · cases hs
  | build ty ps =>
    simp only [step, hop] at hs
    split at hs
    · rename_i l hl
      cases hb : sBuild P ty l with
      | none => simp [hb] at hs
      | some q =>
        simp only [hb, Option.map_some, Option.some.injEq, Prod.mk.injEq] at hs
        obtain ⟨rfl, rfl⟩ := hs
        have hp := evps_sound ht hl
        obtain ⟨v1, h1, h2⟩ := build_sound (P := P) (parts' := ps.map fun (i, x) => (i, a.eval x)) (by simpa using hp) hb w
        exact wp_quiet (r := Instr.build ty (ps.map fun (i, x) => (i, a.eval x))) hr (by simp [execOp, hop]) h1 h2 hK
    · cases hs
  | buildSlice ty n ps =>
    simp only [step, hop] at hs
    split at hs
    · rename_i l hl
      have hp := evps_sound ht hl
      exact wp_fits (r := Instr.buildSlice ty n (ps.map fun (i, x) => (i, a.eval x))) (by simp [execOp, hop]) (buildSlice_fits (P := P) hr (by simpa using hp) hs) hK
    · cases hs
  | load ty x =>
    simp only [step, hop] at hs
    split at hs
    · rename_i b q hq
      cases hl : sLoad P ty h b q with
      | none => simp [hl] at hs
      | some y =>
        simp only [hl, Option.map_some, Option.some.injEq, Prod.mk.injEq] at hs
        obtain ⟨rfl, rfl⟩ := hs
        exact wp_fits (r := Instr.loadAt ty (a.eval x)) (by simp [execOp, hop]) (load_fits hr (ev_sound ht hq) hl) hK
    · rename_i l q hq
      cases hl : sLoadL P ty l q with
      | none => simp [hl] at hs
      | some y =>
        simp only [hl, Option.map_some, Option.some.injEq, Prod.mk.injEq] at hs
        obtain ⟨rfl, rfl⟩ := hs
        exact wp_fits (r := Instr.loadAt ty (a.eval x)) (by simp [execOp, hop]) (loadL_sound hr (ev_sound ht hq) hl) hK
    · cases hs
  | store ty x y =>
    simp only [step, hop] at hs
    split at hs
    · rename_i b q v1 s hx hy hz
      split at hs
      · rename_i cs hcs
        split at hs
        · rename_i hlen
          cases hw : h.write b q cs with
          | none => simp [hw] at hs
          | some h1 =>
            simp only [hw, Option.map_some, Option.some.injEq, Prod.mk.injEq] at hs
            obtain ⟨rfl, rfl⟩ := hs
            obtain ⟨w', g1, g2, g3⟩ := store_fits (P := P) hr (ev_sound ht hx) (ev_sound ht hy) hz hcs hlen hw
            unfold Oper.wp
            simp only [execOp, hop, Sem.run_bind, g1, Result.andThen_ok, Sem.run_pure]
            exact hK undef w' φ (VR.undef φ) g2 g3
        · cases hs
      · cases hs
    · cases hs
  | nilCheck x =>
    simp only [step, hop] at hs
    split at hs
    · rename_i b q hq
      simp only [Option.some.injEq, Prod.mk.injEq] at hs
      obtain ⟨rfl, rfl⟩ := hs
      have hv := ev_sound ht hq
      obtain ⟨L, hL, he⟩ := hv
      exact wp_quiet (r := pure (a.eval x)) hr (by simp [execOp, hop, he]) rfl (show VR φ (.c (.ptr b q)) _ from ⟨L, hL, he⟩) hK
    · rename_i l q hq
      simp only [Option.some.injEq, Prod.mk.injEq] at hs
      obtain ⟨rfl, rfl⟩ := hs
      have hv := ev_sound ht hq
      have hv0 := hv
      simp only [VR, VR1, CR] at hv
      obtain ⟨ad, he, hc⟩ := hv
      exact wp_quiet (r := pure (a.eval x)) hr (by simp [execOp, hop, he]) rfl hv0 hK
    · cases hs
  | binOp op ty x y yt =>
    simp only [step, hop] at hs
    split at hs
    · rename_i p q hx hy
      cases hb : sBin (P.underlying ty) op p q with
      | none => simp [hb] at hs
      | some z =>
        simp only [hb, Option.map_some, Option.some.injEq, Prod.mk.injEq] at hs
        obtain ⟨rfl, rfl⟩ := hs
        obtain ⟨v1, h1, h2⟩ := sBin_sound (P := P) op ty x y (ev_sound ht hx) (ev_sound ht hy) hb w
        exact wp_quiet (r := (do eqGuard op ty x y (a.eval x) (a.eval y); Go.binOp op ty (a.eval x) (a.eval y))) hr (by simp [execOp, hop]) h1 (show VR φ (.c z) v1 from h2) hK
    · rename_i p q hx hy
      cases hb : sBinAgg P ty op p q with
      | none => simp [hb] at hs
      | some z =>
        simp only [hb, Option.map_some, Option.some.injEq, Prod.mk.injEq] at hs
        obtain ⟨rfl, rfl⟩ := hs
        obtain ⟨v1, h1, h2⟩ := binAgg_sound (P := P) op ty x y (ev_sound ht hx) (ev_sound ht hy) hb w
        exact wp_quiet (r := (do eqGuard op ty x y (a.eval x) (a.eval y); Go.binOp op ty (a.eval x) (a.eval y))) hr (by simp [execOp, hop]) h1 (show VR φ (.c z) v1 from h2) hK
    · cases hs
  | unOp op ty x =>
    simp only [step, hop] at hs
    split at hs
    · rename_i p hx
      cases hb : sUn op p with
      | none => simp [hb] at hs
      | some z =>
        simp only [hb, Option.map_some, Option.some.injEq, Prod.mk.injEq] at hs
        obtain ⟨rfl, rfl⟩ := hs
        obtain ⟨v1, h1, h2⟩ := sUn_sound (P := P) op (ev_sound ht hx) hb w
        exact wp_quiet (r := Op.unary op (a.eval x)) hr (by simp [execOp, hop]) h1 (show VR φ (.c z) v1 from h2) hK
    · cases hs
  | convert s d x =>
    simp only [step, hop] at hs
    split at hs
    · rename_i q hq
      exact wp_fits (r := Go.convert s d (a.eval x)) (by simp [execOp, hop]) (convert_fits hr (ev_sound ht hq) hs) hK
    · cases hs
  | makeSlice ty l c =>
    simp only [step, hop] at hs
    split at hs
    · rename_i p q hp hq
      exact wp_fits (r := Instr.makeSlice ty (a.eval l) (a.eval c)) (by simp [execOp, hop]) (make_fits hr (ev_sound ht hp) (ev_sound ht hq) hs) hK
    · cases hs
  | slice ty x lo hi mx =>
    simp only [step, hop] at hs
    split at hs
    · rename_i q hq
      cases hb : sSlice P t h ty q lo hi mx with
      | none => simp [hb] at hs
      | some z =>
        simp only [hb, Option.map_some, Option.some.injEq, Prod.mk.injEq] at hs
        obtain ⟨rfl, rfl⟩ := hs
        obtain ⟨v1, h1, h2⟩ := slice_sound (P := P) hr ht (ev_sound ht hq) hb
        exact wp_quiet (r := Instr.sliceAt ty (a.eval x) (lo.map a.eval) (hi.map a.eval) (mx.map a.eval)) hr (by simp [execOp, hop]) h1 h2 hK
    · cases hs
  | fieldAddr ty x f =>
    simp only [step, hop] at hs
    split at hs
    · rename_i q hq
      cases hb : sFieldAddr P ty q f with
      | none => simp [hb] at hs
      | some z =>
        simp only [hb, Option.map_some, Option.some.injEq, Prod.mk.injEq] at hs
        obtain ⟨rfl, rfl⟩ := hs
        obtain ⟨v1, h1, h2⟩ := fieldAddr_sound (P := P) (ev_sound ht hq) hb w
        exact wp_quiet (r := Instr.fieldAt ty (a.eval x) f) hr (by simp [execOp, hop]) h1 h2 hK
    · cases hs
  | field ty x f =>
    simp only [step, hop] at hs
    split at hs
    · rename_i q hq
      cases hb : sField P ty q f with
      | none => simp [hb] at hs
      | some z =>
        simp only [hb, Option.map_some, Option.some.injEq, Prod.mk.injEq] at hs
        obtain ⟨rfl, rfl⟩ := hs
        obtain ⟨v1, h1, h2⟩ := field_sound (P := P) (ev_sound ht hq) hb w
        exact wp_quiet (r := Instr.field ty (a.eval x) f) hr (by simp [execOp, hop]) h1 h2 hK
    · cases hs
  | indexAddr ty x i =>
    simp only [step, hop] at hs
    split at hs
    · rename_i p q hp hq
      cases hb : sIndexAddr P ty p q with
      | none => simp [hb] at hs
      | some z =>
        simp only [hb, Option.map_some, Option.some.injEq, Prod.mk.injEq] at hs
        obtain ⟨rfl, rfl⟩ := hs
        obtain ⟨v1, h1, h2⟩ := indexAddr_sound (P := P) (ev_sound ht hp) (ev_sound ht hq) hb w
        exact wp_quiet (r := Instr.indexAt ty (a.eval x) (a.eval i)) hr (by simp [execOp, hop]) h1 h2 hK
    · cases hs
  | index ty x i =>
    simp only [step, hop] at hs
    split at hs
    · rename_i p q hp hq
      cases hb : sIndex P ty p q with
      | none => simp [hb] at hs
      | some z =>
        simp only [hb, Option.map_some, Option.some.injEq, Prod.mk.injEq] at hs
        obtain ⟨rfl, rfl⟩ := hs
        obtain ⟨v1, h1, h2⟩ := index_sound (P := P) (ev_sound ht hp) (ev_sound ht hq) hb w
        exact wp_quiet (r := Instr.index ty (a.eval x) (a.eval i)) hr (by simp [execOp, hop]) h1 h2 hK
    · cases hs
  | extract x i =>
    simp only [step, hop] at hs
    split at hs
    · rename_i l hl
      split at hs
      · rename_i q hq
        simp only [Option.some.injEq, Prod.mk.injEq] at hs
        obtain ⟨rfl, rfl⟩ := hs
        obtain ⟨v1, h1, h2⟩ := extract_sound (P := P) (ev_sound ht hl) hq w
        exact wp_quiet (r := Instr.extract (a.eval x) i) hr (by simp [execOp, hop]) h1 h2 hK
      · cases hs
    · cases hs
  | call c =>
    simp only [step, hop] at hs
    split at hs
    · rename_i args hargs
      have hargs := evs_sound ht hargs
      have hmap : (c.args.map a.eval).toList = c.args.toList.map a.eval := by simp
      split at hs
      · rename_i b hcal
        exact builtin_sound hop hcal hr hargs hs hK
      · rename_i f hcal
        have harr : c.args.map a.eval = (c.args.toList.map a.eval).toArray := by apply Array.ext'; simp
        split at hs
        · rename_i p hex
          simp only [Option.some.injEq] at hs
          subst hs
          obtain ⟨v', w', φ', g1, g2, g3, g4⟩ := extern_sound hr hargs hex
          have hrun : (execOp a.eval o).run P w = .ok (.value v') w' := by
            simp only [execOp, hop, resolve, hcal, Act.eval, Deferred.ofValue, invoke, harr, Sem.run_bind, Sem.run_pure, Result.andThen_ok]
            simpa using g1
          unfold Oper.wp
          rw [hrun]
          exact hK v' w' φ' g2 g3 g4
        · obtain ⟨⟨fn, k1, k2, k3⟩, k4⟩ := hc f args h v h' hs
          have k5 := k4 φ (c.args.toList.map a.eval) w hargs hr
          unfold Oper.wp
          have hn : fn.body.isNone = false := by
            cases hb : fn.body with
            | none => simp [hb] at k2
            | some _ => rfl
          have hrun : (execOp a.eval o).run P w = .ok (.enter f (c.args.toList.map a.eval).toArray) w := by
            have hname : ¬ fn.name = "runtime.NumGoroutine" := by simpa using k3
            have hbn : ¬ fn.body = none := fun e => by rw [e] at k2; cases k2
            simp [execOp, hop, resolve, hcal, Act.eval, Deferred.ofValue, invoke, callFunc, k1, hname, hbn, harr]
          rw [hrun]
          refine Calls.mono k5 fun e w' he => ?_
          obtain ⟨v', φ', rfl, g1, g2, g3⟩ := he
          exact hK v' w' φ' g1 g2 g3
      · rename_i i hcal
        have harr : c.args.map a.eval = (c.args.toList.map a.eval).toArray := by apply Array.ext'; simp
        split at hs
        · rename_i f x y hfx
          have hf := ev_sound ht (x := .tmp i) (show ev t (.tmp i) = some _ from hfx)
          simp only [VR, VR1, CR] at hf
          obtain ⟨X, Y, hval, hX, hY⟩ := hf
          obtain ⟨⟨fn, k1, k2, k3⟩, k4⟩ := hc f _ h v h' hs
          have hall : All2 (VR φ) (x.map SV.c ++ args ++ y.map SV.c) (X.toList ++ c.args.toList.map a.eval ++ Y.toList) := ((all2_c hX.all2).app hargs).app (all2_c hY.all2)
          have k5 := k4 φ _ w hall hr
          unfold Oper.wp
          have hrun : (execOp a.eval o).run P w = .ok (.enter f (X.toList ++ c.args.toList.map a.eval ++ Y.toList).toArray) w := by
            have hname : ¬ fn.name = "runtime.NumGoroutine" := by simpa using k3
            have hbn : ¬ fn.body = none := fun e => by rw [e] at k2; cases k2
            simp [execOp, hop, resolve, hcal, hval, Deferred.ofValue, invoke, callFunc, k1, hname, hbn, harr]
          rw [hrun]
          refine Calls.mono k5 fun e w' he => ?_
          obtain ⟨v', φ', rfl, g1, g2, g3⟩ := he
          exact hK v' w' φ' g1 g2 g3
        · cases hs
      · cases hs
    · cases hs
  | makeMap ty rv =>
    simp only [step, hop] at hs
    obtain ⟨φ1, m1, m2, m3⟩ := makeMap_sound hr
    split at hs
    · rename_i kt et ht0
      simp only [Option.some.injEq, Prod.mk.injEq] at hs
      obtain ⟨rfl, rfl⟩ := hs
      exact wp_fits (r := Instr.makeMap ty none) (by simp [execOp, hop]) ⟨_, _, φ1, by simp [Instr.makeMap], m3, m1, m2⟩ hK
    · rename_i kt et x ht0
      split at hs
      · rename_i kd n hx
        have hv := ev_sound ht hx
        simp only [VR, VR1, CR] at hv
        simp only [Option.some.injEq, Prod.mk.injEq] at hs
        obtain ⟨rfl, rfl⟩ := hs
        exact wp_fits (r := Instr.makeMap ty (some (a.eval x))) (by simp [execOp, hop]) ⟨_, _, φ1, by simp [Instr.makeMap, run_underlying ht0, hv, asInt, asIntOf], m3, m1, m2⟩ hK
      · cases hs
    · cases hs
  | lookup ty x k ok =>
    simp only [step, hop] at hs
    split at hs
    · rename_i p q hp hq
      cases hl : sLookup P ty h p q ok with
      | none => simp [hl] at hs
      | some z =>
        simp only [hl, Option.map_some, Option.some.injEq, Prod.mk.injEq] at hs
        obtain ⟨rfl, rfl⟩ := hs
        exact wp_fits (r := Instr.lookup ty (a.eval x) (a.eval k) ok) (by simp [execOp, hop]) (lookup_sound hr (ev_sound ht hp) (ev_sound ht hq) hl) hK
    · cases hs
  | mapUpdate ty m k x =>
    simp only [step, hop] at hs
    split at hs
    · rename_i p q z hp hq hz
      cases hu : sUpdate P ty h p q z with
      | none => simp [hu] at hs
      | some h1 =>
        simp only [hu, Option.map_some, Option.some.injEq, Prod.mk.injEq] at hs
        obtain ⟨rfl, rfl⟩ := hs
        obtain ⟨w', φ', g1, g2, g3⟩ := update_sound hr (ev_sound ht hp) (ev_sound ht hq) (ev_sound ht hz) hu
        unfold Oper.wp
        simp only [execOp, hop, Sem.run_bind, g1, Result.andThen_ok, Sem.run_pure]
        exact hK undef w' φ' (VR.undef φ') g2 g3
    · cases hs
  | insert ty m k x =>
    simp only [step, hop] at hs
    split at hs
    · rename_i p q z hp hq hz
      cases hu : sUpdate P ty h p q z with
      | none => simp [hu] at hs
      | some h1 =>
        simp only [hu, Option.map_some, Option.some.injEq, Prod.mk.injEq] at hs
        obtain ⟨rfl, rfl⟩ := hs
        obtain ⟨w', φ', g1, g2, g3⟩ := update_sound hr (ev_sound ht hp) (ev_sound ht hq) (ev_sound ht hz) hu
        unfold Oper.wp
        simp only [execOp, hop, Sem.run_bind, g1, Result.andThen_ok, Sem.run_pure]
        exact hK undef w' φ' (VR.undef φ') g2 g3
    · cases hs
  | range ty x =>
    simp only [step, hop] at hs
    split at hs
    · rename_i q hq
      exact wp_fits (r := Instr.range ty (a.eval x)) (by simp [execOp, hop]) (range_sound hr (ev_sound ht hq) hs) hK
    · cases hs
  | next it isS =>
    cases isS with
    | true => simp [step, hop] at hs
    | false =>
      simp only [step, hop] at hs
      split at hs
      · rename_i q hq
        exact wp_fits (r := Instr.next (a.eval it) false o.type) (by simp [execOp, hop]) (next_sound hr (ev_sound ht hq) hs o.type) hK
      · cases hs
  | entry it =>
    simp only [step, hop] at hs
    split at hs
    · rename_i q hq
      cases he : sEntry h q with
      | none => simp [he] at hs
      | some z =>
        simp only [he, Option.map_some, Option.some.injEq, Prod.mk.injEq] at hs
        obtain ⟨rfl, rfl⟩ := hs
        exact wp_fits (r := Instr.entry (a.eval it)) (by simp [execOp, hop]) (entry_sound hr (ev_sound ht hq) he) hK
    · cases hs
  | makeInterface ty x =>
    simp only [step, hop] at hs
    split at hs
    · cases hs
    · rename_i d x' hn hd hq
      simp only [Option.some.injEq, Prod.mk.injEq] at hs
      obtain ⟨rfl, rfl⟩ := hs
      have hv := ev_sound ht hq
      refine wp_quiet (r := Instr.makeInterface ty (a.eval x)) hr (by simp [execOp, hop]) (v1 := .iface ty (a.eval x)) ?_ (show VR φ (.c (.ifc ty x')) _ by simp only [VR, VR1, CR]; exact ⟨_, rfl, hv⟩) hK
      cases d <;> first | exact (hn _ hd).elim | exact (hn _ rfl).elim | exact (hn _ _ rfl rfl).elim | simp [Instr.makeInterface, run_underlying hd]
    · cases hs
  | typeAssert x xt ty ok =>
    simp only [step, hop] at hs
    split at hs
    · cases hs
    · rename_i d dt x' hn hd hq
      split at hs
      · rename_i he
        subst he
        simp only [Option.some.injEq, Prod.mk.injEq] at hs
        obtain ⟨rfl, rfl⟩ := hs
        have hv := ev_sound ht hq
        simp only [VR, VR1, CR] at hv
        obtain ⟨u, hu, hcr⟩ := hv
        refine wp_quiet (r := Instr.typeAssert (a.eval x) xt dt ok) hr (by simp [execOp, hop]) ?_ (lookRes_vr (v := .c x') (u := u) hcr ok true) hK
        rw [hu]
        cases d <;> first | exact (hn _ hd).elim | exact (hn _ rfl).elim | exact (hn _ _ rfl rfl).elim | (cases ok <;> simp [Instr.typeAssert, run_underlying hd])
      · cases hs
    · cases hs
  | makeFunc fn xs ys =>
    cases fn with
    | func f =>
      simp only [step, hop] at hs
      split at hs
      · rename_i p q hp hq
        split at hs
        · rename_i p' q' hp' hq'
          simp only [Option.some.injEq, Prod.mk.injEq] at hs
          obtain ⟨rfl, rfl⟩ := hs
          have h1 := ones_all2 hp' (evs_sound ht hp)
          have h2 := ones_all2 hq' (evs_sound ht hq)
          exact wp_quiet (r := Instr.makeFunc (.func f) (xs.map a.eval) (ys.map a.eval)) hr (by simp [execOp, hop]) (v1 := .func (.func f) (xs.map a.eval) (ys.map a.eval)) (by simp [Instr.makeFunc])
            (show VR φ (.c (.cl f p' q')) _ by simp only [VR, VR1, CR]; exact ⟨_, _, rfl, CRl.of (by simpa using h1), CRl.of (by simpa using h2)⟩) hK
        · cases hs
      · cases hs
    | _ => simp [step, hop] at hs
  | _ => simp [step, hop] at hs
end
end Go.Proofs.Ytjlfojgacnphmaa.Sim
