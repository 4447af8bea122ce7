/- The plain machine beside the model's: operation by operation (fourth part: parts, addresses, slices). No program in sight. -/
import Derived.Test.YtgaaffanoegbhaaSimQ
namespace Go.Proofs.Ytgaaffanoegbhaa.Sim
open Go Go.RowKit
set_option linter.unusedSimpArgs false
set_option linter.unusedVariables false
variable {P : Program}

theorem build_sound {φ : Ph} {ty : TypeId} {parts : List (Nat × SV)} {parts' : Array (Nat × Value)} {x : SV} (hp : All2 (fun p q => p.1 = q.1 ∧ VR φ p.2 q.2) parts parts'.toList) (h : sBuild P ty parts = some x) (w : World) :
    ∃ v, (Instr.build ty parts').run P w = .ok v w ∧ VR φ x v := by
  unfold sBuild at h
  split at h
  · rename_i fs z hu hz
    obtain ⟨i, v, hi, hv, hz⟩ := zero_of hz
    split at h
    · rename_i places hpl
      cases hq : partsIn (places.toArray[·]?) z parts with
      | none => rw [hq] at h; cases h
      | some r =>
        rw [hq] at h
        simp only [Option.map_some, Option.some.injEq] at h
        subst h
        obtain ⟨r', h1, h2⟩ := partsIn_sound hp (hz φ) hq
        have hb : P.built ty parts'.toList = some r' := by
          unfold Program.built
          simp only [hi, hu, hv, hpl]
          exact h1
        exact ⟨_, run_build w ty parts' r' hb, r', rfl, h2⟩
    · cases h
  · rename_i n e z hu hz
    obtain ⟨i, v, hi, hv, hz⟩ := zero_of hz
    split at h
    · rename_i s hs
      obtain ⟨ie, hie, rfl⟩ := info_of_sz hs
      cases hq : partsIn (fun i => some (i * ie.size, ie.size)) z parts with
      | none => simp [hq] at h
      | some r =>
        simp only [hq, Option.map_some, Option.some.injEq] at h
        subst h
        obtain ⟨r', h1, h2⟩ := partsIn_sound hp (hz φ) hq
        have hb : P.built ty parts'.toList = some r' := by
          unfold Program.built
          simp only [hi, hu, hv, hie]
          exact h1
        exact ⟨_, run_build w ty parts' r' hb, r', rfl, h2⟩
    · cases h
  · cases h
theorem partsIn_len {place : Nat → Option (Nat × Nat)} : ∀ {parts : List (Nat × SV)} {cells r : List SC}, partsIn place cells parts = some r → r.length = cells.length
  | [], cells, r, h => by simp only [partsIn, Option.some.injEq] at h; rw [h]
  | (i, v) :: rest, cells, r, h => by
    simp only [partsIn] at h
    cases hpl : place i with
    | none => simp [hpl] at h
    | some q =>
      obtain ⟨off, size⟩ := q
      cases hcs : v.cells with
      | none => simp [hpl, hcs] at h
      | some cs =>
        simp only [hpl, hcs] at h
        split at h
        · rename_i hif
          rw [partsIn_len h, setRange_len _ _ _ (by omega)]
        · cases h
theorem elem_of {t e : TypeId} (h : elemOf' P t = some e) : P.underlying t = some (.slice e) := by
  unfold elemOf' at h
  cases hd : P.underlying t with
  | none => simp [hd] at h
  | some d => cases d <;> simp [hd] at h; subst h; rfl
/-- A new row in the model. -/
theorem push_fits {base : Nat} {φ : Ph} {h : SH} {w : World} (r : HR base φ h w) (e : TypeId) {q : List SC} {cs : Array Value} (hq : ∀ (i : Nat) (x : SC), q[i]? = some x → ∃ v, cs[i]? = some v ∧ CR φ x v)
    (fr : Nat × Nat) (hfr : fr.1 = fr.2 ∨ cs.size ≤ fr.1) (d : Nat) :
    ∃ φ', HR base φ' (h.new q) { w with heap := w.heap.push (.cells cs e fr), drawn := d } ∧ Mv φ h w φ' (h.new q) { w with heap := w.heap.push (.cells cs e fr), drawn := d } ∧ φ' h.next = some ⟨w.heap.size, 0, cs.size, q.length⟩ := by
  obtain ⟨h1, h2, h3⟩ := r.alloc (w' := { w with heap := w.heap.push (.cells cs e fr), drawn := d }) q cs e fr (by simp) (fun k hk => by simp [Array.getElem?_push, Nat.ne_of_lt hk]) (by simp) hq hfr rfl rfl rfl
  exact ⟨_, h1, h2, h3⟩
theorem all2_get {φ : Ph} {q : List SC} {cs : Array Value} (h : All2 (CR φ) q cs.toList) : ∀ (i : Nat) (x : SC), q[i]? = some x → ∃ v, cs[i]? = some v ∧ CR φ x v := fun i x hx => by
  obtain ⟨b, hb, hr⟩ := h.get hx
  exact ⟨b, by simpa using hb, hr⟩
theorem buildSlice_form {φ : Ph} {h h' : SH} {w : World} {ty : TypeId} {n : Nat} {parts : List (Nat × SV)} {parts' : Array (Nat × Value)} {x : SV} (hp : All2 (fun p q => p.1 = q.1 ∧ VR φ p.2 q.2) parts parts'.toList)
    (hs : sBuildSlice P ty n parts h = some (x, h')) : ∃ q, h' = h.new q ∧ AllocForm φ h.next w x q ((Instr.buildSlice ty n parts').run P w) := by
  unfold sBuildSlice at hs
  split at hs
  · rename_i e he
    have hu := elem_of he
    split at hs
    · rename_i s z hsz hz
      obtain ⟨ie, hie, rfl⟩ := info_of_sz hsz
      obtain ⟨i, v, hi, hv, hz⟩ := zero_of hz
      rw [hie] at hi
      cases hi
      split at hs
      · rename_i hc
        obtain ⟨c1, c2, c3⟩ := hc
        split at hs
        · rename_i cs hcs
          simp only [Option.some.injEq, Prod.mk.injEq] at hs
          obtain ⟨rfl, rfl⟩ := hs
          have hsmall : ¬ n * ie.size > 2 ^ 24 := by simp; omega
          have key : ∃ cells, (Instr.buildSlice ty n parts').run P w = .ok (.slice (some ⟨w.heap.size, 0, none⟩) n n) { w with heap := w.heap.push (.cells cells e (0, 0)), drawn := w.drawn } ∧ All2 (CR φ) cs cells.toList ∧ cells.size = n * ie.size := by
            by_cases hn : n = 0
            · subst hn
              obtain ⟨r', h1, h2⟩ := partsIn_sound (vs := #[]) hp (show All2 (CR φ) (rep z 0) (#[] : Array Value).toList from trivial) hcs
              have hl : cs.length = 0 := partsIn_len hcs
              have e0 : ∀ (f : Nat → Value), (Array.range 0).map f = #[] := fun f => by simp [Array.range]
              refine ⟨r', ?_, h2, by have := h2.length; simp at this; omega⟩
              simp [Instr.buildSlice, run_underlying hu, sizeOf, typeInfo, hie, e0, h1, newRow]
            · have hpos : ¬ n * ie.size = 0 := by
                have := Nat.mul_pos (show 0 < n by omega) c3
                omega
              have hz' := rep_sound (hz φ) n (n * ie.size) (by rw [c2]) (by omega)
              obtain ⟨r', h1, h2⟩ := partsIn_sound hp hz' hcs
              refine ⟨r', run_buildSlice w ty e n parts' r' ie v hu hie hv hsmall hpos h1, h2, ?_⟩
              have hfl : ∀ (pl : Nat → Option (Nat × Nat)) (l : List (Nat × Value)) (c c' : Array Value), Instr.fill pl c l = some c' → c'.size = c.size := by
                intro pl l
                induction l with
                | nil => intro c c' h; simp only [Instr.fill, Option.some.injEq] at h; rw [h]
                | cons p l ih =>
                  intro c c' h
                  obtain ⟨i, v⟩ := p
                  unfold Instr.fill at h
                  split at h
                  · cases h
                  · rename_i off size _
                    split at h
                    · cases h
                    · rename_i hc
                      rw [ih _ _ h, ← Array.length_toList, ← Array.foldl_toList, Array.toList_zipIdx]
                      simp only [Bool.or_eq_true, decide_eq_true_eq, not_or, ne_eq, Decidable.not_not, gt_iff_lt, Nat.not_lt] at hc
                      rw [foldl_put off _ 0 c (by simp; omega)]
                      simp; omega
              rw [hfl _ _ _ _ h1]; simp
          obtain ⟨cells, h1, h2, h3⟩ := key
          refine ⟨cs, rfl, cells, e, _, h1, all2_get h2, fun ψ hψ => ⟨_, _, n, hψ, rfl, fun _ => rfl, Nat.le_refl _, ?_, by simp only; omega, rfl⟩⟩
          have := Nat.le_mul_of_pos_right n c3
          simp only [maxLen]; omega
        · cases hs
      · cases hs
    · cases hs
  · cases hs
theorem buildSlice_fits {base : Nat} {φ : Ph} {h h' : SH} {w : World} (r : HR base φ h w) {ty : TypeId} {n : Nat} {parts : List (Nat × SV)} {parts' : Array (Nat × Value)} {x : SV} (hp : All2 (fun p q => p.1 = q.1 ∧ VR φ p.2 q.2) parts parts'.toList)
    (hs : sBuildSlice P ty n parts h = some (x, h')) : Fits base φ h w x h' ((Instr.buildSlice ty n parts').run P w) := by
  obtain ⟨q, rfl, cs, E, v', h1, h2, h3⟩ := buildSlice_form (P := P) (φ := φ) (w := w) hp hs
  obtain ⟨φ', k1, k2, k3⟩ := push_fits r E h2 (0, 0) (.inl rfl) w.drawn
  exact ⟨_, _, φ', h1, h3 φ' k3, k1, k2⟩
theorem VR1.vr {φ : Ph} : ∀ {x : SV} {v : Value}, VR1 φ x v → VR φ x v
  | .c _, _, h => h
  | .agg _, _, h => h
  | .tup _, _, h => h.elim
theorem extract_sound {φ : Ph} {l : List SV} {a : Value} {i : Nat} {x : SV} (ha : VR φ (.tup l) a) (hx : l[i]? = some x) (w : World) : ∃ v, (Instr.extract a i).run P w = .ok v w ∧ VR φ x v := by
  obtain ⟨vs, rfl, h⟩ := ha
  obtain ⟨v, h1, h2⟩ := h.get hx
  have h1' : vs[i]? = some v := by simpa using h1
  exact ⟨v, by simp [Instr.extract, h1'], h2.vr⟩
theorem Addr.add_plus (a : Addr) (m n : Nat) : (a.add m).add n = a.add (m + n) := by
  unfold Addr.add
  by_cases hm : m = 0
  · subst hm; simp
  · by_cases hn : n = 0
    · subst hn; simp
    · rw [if_neg hm, if_neg hn, if_neg (by omega)]
      simp [Nat.add_assoc]
theorem fieldAddr_sound {φ : Ph} {ty : TypeId} {x y : SV} {a : Value} {f : Nat} (ha : VR φ x a) (h : sFieldAddr P ty x f = some y) (w : World) : ∃ v, (Instr.fieldAt ty a f).run P w = .ok v w ∧ VR φ y v := by
  unfold sFieldAddr at h
  split at h
  · rename_i fs b o hu
    obtain ⟨L, hL, rfl⟩ := ha
    split at h
    · rename_i fd hf
      split at h
      · rename_i s hs
        split at h
        · cases h
        · rename_i h0
          simp only [Option.some.injEq] at h
          subst h
          refine ⟨.pointer (some ⟨L.m, L.m0 + (o + fd.offset), none⟩), ?_, L, hL, rfl⟩
          simp [Instr.fieldAt, run_underlying hu, hf, Instr.sureAddr, fieldPlace, run_sizeOf hs, h0, Addr.add_lit, Nat.add_assoc]
      · cases h
    · cases h
  · rename_i fs l o hu
    obtain ⟨a0, rfl, hc⟩ := ha
    split at h
    · rename_i fd hf
      split at h
      · rename_i s hs
        split at h
        · cases h
        · rename_i h0
          simp only [Option.some.injEq] at h
          subst h
          refine ⟨.pointer (some (a0.add (o + fd.offset))), ?_, a0, rfl, hc⟩
          simp [Instr.fieldAt, run_underlying hu, hf, Instr.sureAddr, fieldPlace, run_sizeOf hs, h0, Addr.add_plus]
      · cases h
    · cases h
  · cases h
theorem part_sound {φ : Ph} {ty : TypeId} {cs : List SC} {vs : Array Value} {o : Nat} {y : SV} (hc : All2 (CR φ) cs vs.toList) (h : sPart P ty cs o = some y) (w : World) : ∃ v, (part ty vs o).run P w = .ok v w ∧ VR φ y v := by
  unfold sPart at h
  split at h
  · rename_i s hag hs
    simp only [Option.some.injEq] at h
    subst h
    refine ⟨.agg (vs.extract o (o + s)), by simp [part, run_isAg hag, run_sizeOf hs], _, rfl, ?_⟩
    have := (hc.drop o).take s
    simpa [Array.toList_extract, List.extract_eq_take_drop] using this
  · rename_i s hag hs
    split at h
    · rename_i x hx
      simp only [Option.some.injEq] at h
      subst h
      obtain ⟨v, h1, h2⟩ := hc.get hx
      have h1' : vs[o]? = some v := by simpa using h1
      exact ⟨v, by simp [part, run_isAg hag, h1'], h2⟩
    · cases h
  · cases h
theorem field_sound {φ : Ph} {ty : TypeId} {x y : SV} {a : Value} {f : Nat} (ha : VR φ x a) (h : sField P ty x f = some y) (w : World) : ∃ v, (Instr.field ty a f).run P w = .ok v w ∧ VR φ y v := by
  unfold sField at h
  split at h
  · rename_i fs cs hu
    obtain ⟨vs, rfl, hc⟩ := ha
    split at h
    · rename_i fd hf
      obtain ⟨v, h1, h2⟩ := part_sound hc h w
      exact ⟨v, by simp [Instr.field, run_underlying hu, hf, asAgg, h1], h2⟩
    · cases h
  · cases h
theorem idx_of {φ : Ph} {x : SV} {a : Value} {i : Int} (ha : VR φ x a) (h : idx x = some i) : ∃ k, a = .int k i := by
  unfold idx at h
  split at h
  · rename_i k n
    simp only [Option.some.injEq] at h
    subst h
    exact ⟨k, ha⟩
  · cases h
theorem indexAddr_sound {φ : Ph} {ty : TypeId} {x i y : SV} {a ai : Value} (ha : VR φ x a) (hai : VR φ i ai) (h : sIndexAddr P ty x i = some y) (w : World) : ∃ v, (Instr.indexAt ty a ai).run P w = .ok v w ∧ VR φ y v := by
  unfold sIndexAddr at h
  split at h
  · rename_i e b o n s' c j hu hj
    obtain ⟨k, rfl⟩ := idx_of hai hj
    split at h
    · rename_i s hs
      split at h
      · rename_i hc
        obtain ⟨h0, h1, h2⟩ := hc
        simp only [Option.some.injEq] at h
        subst h
        obtain ⟨L, ad, cap, hL, rfl, hat, hn, -⟩ := ha
        have := hat (by omega)
        subst this
        refine ⟨.pointer (some ⟨L.m, L.m0 + (o + j.toNat * s), none⟩), ?_, L, hL, rfl⟩
        simp [Instr.indexAt, asIntOf, run_underlying hu, h0, h1, run_sizeOf hs, Addr.add_lit, Nat.add_assoc]
      · cases h
    · cases h
  · rename_i e n s' l c j hu hj
    obtain ⟨k, rfl⟩ := idx_of hai hj
    split at h
    · rename_i s hs
      split at h
      · rename_i hc
        obtain ⟨h0, h1, h2⟩ := hc
        simp only [Option.some.injEq] at h
        subst h
        obtain ⟨hl, a0, cap, rfl, hn, hcm, hcc, hcr⟩ := ha
        refine ⟨.pointer (some (a0.add (j.toNat * s))), ?_, a0, rfl, hcr⟩
        simp [Instr.indexAt, asIntOf, run_underlying hu, h0, h1, run_sizeOf hs]
      · cases h
    · cases h
  · rename_i n e b o j hu hj
    obtain ⟨k, rfl⟩ := idx_of hai hj
    split at h
    · rename_i s hs
      split at h
      · rename_i hc
        obtain ⟨h0, h1⟩ := hc
        simp only [Option.some.injEq] at h
        subst h
        obtain ⟨L, hL, rfl⟩ := ha
        refine ⟨.pointer (some ⟨L.m, L.m0 + (o + j.toNat * s), none⟩), ?_, L, hL, rfl⟩
        simp [Instr.indexAt, asIntOf, run_underlying hu, Instr.sureAddr, h0, h1, run_sizeOf hs, Addr.add_lit, Nat.add_assoc]
      · cases h
    · cases h
  · cases h
theorem index_sound {φ : Ph} {ty : TypeId} {x i y : SV} {a ai : Value} (ha : VR φ x a) (hai : VR φ i ai) (h : sIndex P ty x i = some y) (w : World) : ∃ v, (Instr.index ty a ai).run P w = .ok v w ∧ VR φ y v := by
  unfold sIndex at h
  split at h
  · rename_i l j hu hj
    obtain ⟨k, rfl⟩ := idx_of hai hj
    obtain ⟨s, rfl, hs⟩ := ha
    split at h
    · rename_i h0
      split at h
      · rename_i b hb
        simp only [Option.some.injEq] at h
        subst h hs
        rw [List.getElem?_map] at hb
        cases hq : s.data.toList[j.toNat]? with
        | none => simp [hq] at hb
        | some c =>
          simp only [hq, Option.map_some, Option.some.injEq] at hb
          subst hb
          have hlt : j.toNat < s.data.toList.length := (List.getElem?_eq_some_iff.1 hq).1
          have hlt' : j.toNat < s.size := hlt
          have hc : s[j.toNat]? = some c := by
            rw [getElem?_pos s j.toNat hlt']
            congr 1
            have := (List.getElem?_eq_some_iff.1 hq).2
            have h3 : s.data[j.toNat]'hlt' = c := by simpa using this
            exact h3
          refine ⟨.int .u8 c.toNat, by simp [Instr.index, asIntOf, run_underlying hu, h0, hc], rfl⟩
      · cases h
    · cases h
  · rename_i n e cs j hu hj
    obtain ⟨k, rfl⟩ := idx_of hai hj
    obtain ⟨vs, rfl, hc⟩ := ha
    split at h
    · rename_i s hs hag
      split at h
      · rename_i hcnd
        obtain ⟨h0, h1⟩ := hcnd
        obtain ⟨v, k1, k2⟩ := part_sound (P := P) (ty := e) (o := j.toNat * s) (y := y) hc (by simp [sPart, hag, hs]; simpa using h) w
        exact ⟨v, by simp [Instr.index, asIntOf, run_underlying hu, h0, h1, run_sizeOf hs, k1], k2⟩
      · cases h
    · rename_i s hs hag
      split at h
      · rename_i hcnd
        obtain ⟨h0, h1⟩ := hcnd
        obtain ⟨v, k1, k2⟩ := part_sound (P := P) (ty := e) (o := j.toNat * s) (y := y) hc (by simp [sPart, hag, hs]; exact h) w
        exact ⟨v, by simp [Instr.index, asIntOf, run_underlying hu, h0, h1, run_sizeOf hs, k1], k2⟩
      · cases h
    · cases h
  · cases h
end Go.Proofs.Ytgaaffanoegbhaa.Sim
