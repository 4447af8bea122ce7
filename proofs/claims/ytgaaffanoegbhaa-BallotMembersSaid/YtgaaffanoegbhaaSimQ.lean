/- The plain machine beside the model's: operation by operation (third part: memory). No program in sight. -/
import Derived.Test.YtgaaffanoegbhaaSimP
namespace Go.Proofs.Ytgaaffanoegbhaa.Sim
open Go Go.RowKit
set_option linter.unusedSimpArgs false
set_option linter.unusedVariables false
variable {P : Program}

theorem sUn_sound {φ : Ph} (op : UnOp) {x z : SC} {a : Value} (hx : CR φ x a) (h : sUn op x = some z) (w : World) : ∃ v, (Op.unary op a).run P w = .ok v w ∧ CR φ z v := by
  unfold sUn at h
  split at h
  · simp only [CR] at hx; subst hx
    simp only [Option.some.injEq] at h; subst h
    exact ⟨_, rfl, rfl⟩
  · simp only [CR] at hx; subst hx
    simp only [Option.some.injEq] at h; subst h
    exact ⟨_, rfl, rfl⟩
  · simp only [CR] at hx; subst hx
    simp only [Option.some.injEq] at h; subst h
    exact ⟨_, rfl, rfl⟩
  · cases h
theorem info_of_sz {t : TypeId} {n : Nat} (h : szOf P t = some n) : ∃ i, P.info? t = some i ∧ i.size = n := by
  unfold szOf at h
  cases hi : P.info? t with
  | none => simp [hi] at h
  | some i => simp only [hi, Option.some.injEq] at h; exact ⟨i, rfl, h⟩
theorem run_sizeOf {t : TypeId} {n : Nat} (h : szOf P t = some n) (w : World) : (sizeOf t).run P w = .ok n w := by
  obtain ⟨i, hi, rfl⟩ := info_of_sz h
  simp [sizeOf, typeInfo, hi]
theorem run_isAg {t : TypeId} {b : Bool} (h : isAg P t = some b) (w : World) : (isAgg t).run P w = .ok b w := by
  unfold isAg at h
  cases hd : P.underlying t with
  | none => simp [hd] at h
  | some d => cases d <;> simp only [hd, Option.some.injEq] at h <;> subst h <;> simp [isAgg, run_underlying hd]
theorem zero_of {t : TypeId} {z : List SC} (h : zeroOf P t = some z) : ∃ i v, P.info? t = some i ∧ i.zero = some v ∧ ∀ φ, All2 (CR φ) z v.cells.toList := by
  unfold zeroOf at h
  cases hi : P.info? t with
  | none => simp [hi] at h
  | some i =>
    cases hz : i.zero with
    | none => simp [hi, hz] at h
    | some v =>
      cases hv : ofV v with
      | none => simp [hi, hz, hv] at h
      | some s =>
        simp only [hi, hz, hv] at h
        exact ⟨i, v, rfl, hz, fun φ => (ofV_sound hv).cells h⟩
theorem run_zero {t : TypeId} {i : TypeInfo} {v : Value} (hi : P.info? t = some i) (hz : i.zero = some v) (w : World) : (zeroValue t).run P w = .ok v w := by
  simp [zeroValue, typeInfo, hi, hz]
/-- An operation that only makes a new row, out of what stands in slots. -/
def AllocForm (φ : Ph) (n : Nat) (w : World) (v : SV) (q : List SC) (r : Result Value) : Prop :=
  ∃ (cs : Array Value) (E : TypeId) (v' : Value), r = .ok v' { w with heap := w.heap.push (.cells cs E (0, 0)) } ∧ (∀ (i : Nat) (x : SC), q[i]? = some x → ∃ u, cs[i]? = some u ∧ CR φ x u) ∧
    ∀ ψ : Ph, ψ n = some ⟨w.heap.size, 0, cs.size, q.length⟩ → VR ψ v v'
theorem newVar_form {φ : Ph} {w : World} (n : Nat) (t : TypeId) {cs : List SC} {v : Value} (hv : All2 (CR φ) cs v.cells.toList) :
    AllocForm φ n w (.c (.ptr n 0)) cs ((do pure (.pointer (some (← newVar t v))) : Sem Value).run P w) :=
  ⟨v.cells, t, .pointer (some ⟨w.heap.size, 0, none⟩), by simp [newVar, newRow], fun i x hx => by obtain ⟨b, hb, hr⟩ := hv.get hx; exact ⟨b, by simpa using hb, hr⟩, fun ψ hψ => ⟨_, hψ, rfl⟩⟩
theorem alloc_form {φ : Ph} {w : World} (n : Nat) {t : TypeId} {z : List SC} (hz : zeroOf P t = some z) : AllocForm φ n w (.c (.ptr n 0)) z ((Instr.alloc t true (.tuple #[])).run P w) := by
  obtain ⟨i, v, hi, hv, hz⟩ := zero_of hz
  have := newVar_form (P := P) (w := w) n t (v := v) (hz φ)
  simpa [Instr.alloc, run_zero hi hv] using this
theorem newVar_fits {base : Nat} {φ : Ph} {h : SH} {w : World} (r : HR base φ h w) (t : TypeId) {cs : List SC} {v : Value} (hv : All2 (CR φ) cs v.cells.toList) :
    Fits base φ h w (.c (.ptr h.next 0)) (h.new cs) ((do pure (.pointer (some (← newVar t v))) : Sem Value).run P w) := by
  obtain ⟨h1, h2, h3⟩ := r.alloc (w' := { w with heap := w.heap.push (.cells v.cells t) }) cs v.cells t (0, 0) (by simp) (fun k hk => by simp [Array.getElem?_push, Nat.ne_of_lt hk]) (by simp)
    (fun i x hx => by obtain ⟨b, hb, hr⟩ := hv.get hx; exact ⟨b, by simpa using hb, hr⟩) (.inl rfl) rfl rfl rfl
  exact ⟨.pointer (some ⟨w.heap.size, 0, none⟩), _, _, by simp [newVar, newRow], ⟨_, h3, rfl⟩, h1, h2⟩
theorem alloc_fits {base : Nat} {φ : Ph} {h : SH} {w : World} (r : HR base φ h w) {t : TypeId} {z : List SC} (hz : zeroOf P t = some z) :
    Fits base φ h w (.c (.ptr h.next 0)) (h.new z) ((Instr.alloc t true (.tuple #[])).run P w) := by
  obtain ⟨i, v, hi, hv, hz⟩ := zero_of hz
  have := newVar_fits (P := P) r t (v := v) (hz φ)
  simpa [Instr.alloc, run_zero hi hv] using this
theorem box_fits {base : Nat} {φ : Ph} {h : SH} {w : World} (r : HR base φ h w) (t : TypeId) {x : SV} {v : Value} {cs : List SC} (hv : VR φ x v) (hc : x.cells = some cs) :
    Fits base φ h w (.c (.ptr h.next 0)) (h.new cs) ((Instr.box t v).run P w) := newVar_fits (P := P) r t (hv.cells hc)
theorem box_form {φ : Ph} {w : World} (n : Nat) (t : TypeId) {x : SV} {v : Value} {cs : List SC} (hv : VR φ x v) (hc : x.cells = some cs) :
    AllocForm φ n w (.c (.ptr n 0)) cs ((Instr.box t v).run P w) := newVar_form (P := P) n t (hv.cells hc)
/-- What a block holds. -/
theorem HR.row {base : Nat} {φ : Ph} {h : SH} {w : World} (r : HR base φ h w) {b : Nat} {q : List SC} {own : Bool} (hb : h.get b = some (.row q own)) :
    ∃ L cs E fr, φ b = some L ∧ w.heap[L.m]? = some (.cells cs E fr) ∧ L.len = q.length ∧ (∀ (i : Nat) (x : SC), q[i]? = some x → ∃ v, cs[L.m0 + i]? = some v ∧ CR φ x v) ∧
      (own = true → base ≤ L.m ∧ cs.size = L.sz ∧ L.m0 + q.length ≤ cs.size ∧ (fr.1 = fr.2 ∨ cs.size ≤ fr.1)) := by
  obtain ⟨L, h1, h2, cs, E, fr, h3, h4, h5⟩ := r.live b _ hb
  exact ⟨L, cs, E, fr, h1, h3, h2, h4, h5⟩
/-- Cells are read. -/
theorem read_all2 {base : Nat} {φ : Ph} {h : SH} {w : World} (r : HR base φ h w) {b o n : Nat} {cs : List SC} (hr : h.read b o n = some cs) {L : Loc} (hL : φ b = some L) :
    ∃ vs : List Value, vs.length = n ∧ All2 (CR φ) cs vs ∧ ∀ j v, vs[j]? = some v → w.cell? ((⟨L.m, L.m0 + o, none⟩ : Addr).add j) = some v := by
  unfold SH.read at hr
  split at hr
  · rename_i q own hb
    split at hr
    · rename_i hle
      simp only [Option.some.injEq] at hr
      subst hr
      obtain ⟨L', ws, E, fr, h1, h2, h3, h4, -⟩ := r.row hb
      rw [hL] at h1
      cases h1
      have hcell : ∀ i, i < n → ∃ v x, q[o + i]? = some x ∧ ws[L.m0 + (o + i)]? = some v ∧ CR φ x v := fun i hi => by
        have hx : q[o + i]? = some q[o + i] := List.getElem?_eq_getElem (by omega)
        obtain ⟨v, a, b⟩ := h4 _ _ hx
        exact ⟨v, _, hx, a, b⟩
      refine ⟨(List.range n).map fun i => ws.getD (L.m0 + (o + i)) undef, by simp, All2.mk (by simp; omega) fun i x v hx hv => ?_, fun j v hv => ?_⟩
      · rw [List.getElem?_take] at hx
        split at hx
        · rename_i hi
          rw [List.getElem?_drop] at hx
          obtain ⟨v', x', a, b, c⟩ := hcell i hi
          rw [hx] at a; cases a
          simp [hi, Array.getD_eq_getD_getElem?, b] at hv
          subst hv
          exact c
        · cases hx
      · have hj : j < n := by
          have := (List.getElem?_eq_some_iff.1 hv).1
          simpa using this
        obtain ⟨v', x', a, b, c⟩ := hcell j hj
        simp [hj, Array.getD_eq_getD_getElem?, b] at hv
        subst hv
        rw [Addr.add_lit]
        simp only [World.cell?, h2]
        rw [Nat.add_assoc]
        exact b
    · cases hr
  · cases hr
theorem load_sound {base : Nat} {φ : Ph} {h : SH} {w : World} (r : HR base φ h w) {t : TypeId} {b o : Nat} {v : SV} {a : Value} (ha : CR φ (.ptr b o) a) (hl : sLoad P t h b o = some v) :
    ∃ v', (Instr.loadAt t a).run P w = .ok v' w ∧ VR φ v v' := by
  obtain ⟨L, hL, rfl⟩ := ha
  unfold sLoad at hl
  split at hl
  · rename_i n hag hn
    cases hr : h.read b o n with
    | none => simp [hr] at hl
    | some cs =>
      simp only [hr, Option.map_some, Option.some.injEq] at hl
      subst hl
      obtain ⟨vs, h1, h2, h3⟩ := read_all2 r hr hL
      have hc := run_loadCells_list (P := P) w _ vs h3
      rw [h1] at hc
      exact ⟨.agg vs.toArray, by simp [Instr.loadAt, Instr.sureAddr, loadVar, run_isAg hag, run_sizeOf hn, hc], _, rfl, by simpa using h2⟩
  · rename_i n hag hn
    split at hl
    · rename_i x hr
      simp only [Option.some.injEq] at hl
      subst hl
      obtain ⟨vs, h1, h2, h3⟩ := read_all2 r hr hL
      match vs, h1 with
      | [u], _ =>
        have hu := h3 0 u rfl
        have e0 : (⟨L.m, L.m0 + o, none⟩ : Addr).add 0 = ⟨L.m, L.m0 + o, none⟩ := rfl
        rw [e0] at hu
        exact ⟨u, by simp [Instr.loadAt, Instr.sureAddr, loadVar, run_isAg hag, hu], h2.1⟩
    · cases hl
  · cases hl
theorem load_fits {base : Nat} {φ : Ph} {h : SH} {w : World} (r : HR base φ h w) {t : TypeId} {b o : Nat} {v : SV} {a : Value} (ha : CR φ (.ptr b o) a) (hl : sLoad P t h b o = some v) :
    Fits base φ h w v h ((Instr.loadAt t a).run P w) := by
  obtain ⟨v', h1, h2⟩ := load_sound (P := P) r ha hl
  exact Fits.pure r h1 h2
/-- Storing cell by cell, where nothing is frozen. -/
theorem run_storeFree (g o : Nat) (t : TypeId) (fz : Nat × Nat) : ∀ (vs : List Value) (i : Nat) (cur : Array Value) (w : World), w.heap[g]? = some (.cells cur t fz) → (fz.1 = fz.2 ∨ cur.size ≤ fz.1) → o + i + vs.length ≤ cur.size → (∀ v ∈ vs, v.oneCell' = true) →
    (storeCells ⟨g, o, none⟩ vs i).run P w = .ok () (w.setRow g (cur.toList.take (o + i) ++ vs ++ cur.toList.drop (o + i + vs.length)).toArray)
  | [], i, cur, w, hg, _, _, _ => by
    simp only [storeCells, List.append_nil, List.length_nil, Nat.add_zero, List.take_append_drop, Array.toArray_toList]
    rw [setRow_self w g cur t fz hg]
    rfl
  | v :: rest, i, cur, w, hg, hfz, hl, h1 => by
    have hi : o + i < cur.size := by simp at hl; omega
    have hadd : (⟨g, o, none⟩ : Addr).add i = ⟨g, o + i, none⟩ := by unfold Addr.add; split <;> simp_all
    have hcell : w.cell? ⟨g, o + i, none⟩ = some cur[o + i] := by simp [World.cell?, hg, hi]
    have hfro : w.frozen? ⟨g, o + i, none⟩ = false := by
      have := hfz
      obtain ⟨lo, hi'⟩ := fz
      simp only [World.frozen?, hg, Bool.and_eq_false_iff, decide_eq_false_iff_not]
      simp only at this
      omega
    have hst : (store ((⟨g, o, none⟩ : Addr).add i) v).run P w = .ok () (w.setRow g (cur.setIfInBounds (o + i) v)) := by
      rw [hadd, run_store P w _ v _ (h1 v (by simp)), hcell]
      simp [hfro, setCell_eq_setRow w g (o + i) cur t fz v hg]
    have ih := run_storeFree g o t fz rest (i + 1) (cur.setIfInBounds (o + i) v) (w.setRow g (cur.setIfInBounds (o + i) v)) (setRow_heap w g cur _ t _ hg) (by simpa using hfz) (by simp at hl ⊢; omega) (fun x hx => h1 x (by simp [hx]))
    simp only [storeCells, Sem.run_bind, hst, Result.andThen_ok, ih, setRow_setRow]
    congr 3
    have e := list_seg_step cur.toList (o + i) v rest (by simp at hl ⊢; omega)
    simpa [Array.toList_setIfInBounds, Nat.add_assoc] using e
theorem setRow_size (w : World) (g : Nat) (cs : Array Value) : (w.setRow g cs).heap.size = w.heap.size := by simp [World.setRow]
theorem seg_get {α : Type} (l : List α) (k : Nat) (vs : List α) (i : Nat) (h : k + vs.length ≤ l.length) : (l.take k ++ vs ++ l.drop (k + vs.length))[i]? = if i < k then l[i]? else if i < k + vs.length then vs[i - k]? else l[i]? := by
  by_cases h1 : i < k
  · rw [if_pos h1, List.append_assoc, List.getElem?_append_left (by simp; omega), List.getElem?_take, if_pos h1]
  · rw [if_neg h1]
    by_cases h2 : i < k + vs.length
    · rw [if_pos h2, List.append_assoc, List.getElem?_append_right (by simp; omega), List.getElem?_append_left (by simp; omega)]
      congr 1; simp; omega
    · rw [if_neg h2, List.getElem?_append_right (by simp; omega), List.getElem?_drop]
      congr 1; simp; omega
/-- Cells are written. -/
theorem write_fits {base : Nat} {φ : Ph} {h h' : SH} {w : World} (r : HR base φ h w) {b o : Nat} {cs : List SC} (hw : h.write b o cs = some h') {L : Loc} (hL : φ b = some L) {vs : List Value} (hv : All2 (CR φ) cs vs) :
    ∃ w', (storeCells ⟨L.m, L.m0 + o, none⟩ vs).run P w = .ok () w' ∧ HR base φ h' w' ∧ Mv φ h w φ h' w' := by
  unfold SH.write at hw
  split at hw
  · rename_i q hb
    split at hw
    · rename_i hle
      simp only [Option.some.injEq] at hw
      subst hw
      obtain ⟨L', ws, E, fr, h1, h2, h3, h4, h5⟩ := r.row hb
      rw [hL] at h1
      cases h1
      obtain ⟨k1, k2, hbig, k3⟩ := h5 rfl
      have hlen := hv.length
      refine ⟨_, run_storeFree (P := P) L.m (L.m0 + o) E fr vs 0 ws w h2 k3 (by omega) (fun v hvm => ?_), ?_⟩
      · obtain ⟨i, hi, rfl⟩ := List.mem_iff_getElem.1 hvm
        have hx : cs[i]? = some cs[i] := List.getElem?_eq_getElem (by omega)
        obtain ⟨v, a, b⟩ := hv.get hx
        rw [List.getElem?_eq_getElem hi] at a
        cases a
        exact b.one
      · have hheap := setRow_heap w L.m ws (ws.toList.take (L.m0 + o + 0) ++ vs ++ ws.toList.drop (L.m0 + o + 0 + vs.length)).toArray E fr h2
        refine r.change ⟨_, hb, rfl, hL⟩ _ (setRow_size _ _ _) (fun k hk => setRow_other w L.m k _ hk) ⟨by rw [setRange_len _ _ _ hle]; exact h3, _, E, fr, hheap, fun i x hx => ?_, fun _ => ⟨k1, ?_, ?_, ?_⟩⟩ rfl rfl rfl
        · simp only [setRange] at hx
          rw [seg_get _ _ _ _ hle] at hx
          simp only [Nat.add_zero, List.getElem?_toArray]
          rw [seg_get _ _ _ _ (by simp; omega)]
          by_cases c1 : i < o
          · rw [if_pos c1] at hx
            rw [if_pos (by omega)]
            obtain ⟨v, a, b⟩ := h4 i x hx
            exact ⟨v, by simpa using a, b⟩
          · rw [if_neg c1] at hx
            rw [if_neg (by omega)]
            by_cases c2 : i < o + cs.length
            · rw [if_pos c2] at hx
              rw [if_pos (by omega)]
              obtain ⟨v, a, b⟩ := hv.get hx
              exact ⟨v, by rw [← a]; congr 1; omega, b⟩
            · rw [if_neg c2] at hx
              rw [if_neg (by omega)]
              obtain ⟨v, a, b⟩ := h4 i x hx
              exact ⟨v, by simpa using a, b⟩
        · simp; omega
        · rw [setRange_len _ _ _ hle]; simp; omega
        · rcases k3 with k3 | k3
          · exact .inl k3
          · exact .inr (by simp; omega)
    · cases hw
  · cases hw
theorem store_fits {base : Nat} {φ : Ph} {h h' : SH} {w : World} (r : HR base φ h w) {t : TypeId} {b o n : Nat} {x : SV} {cs : List SC} {a v : Value} (ha : CR φ (.ptr b o) a) (hv : VR φ x v) (hn : szOf P t = some n) (hc : x.cells = some cs) (hl : cs.length = n) (hw : h.write b o cs = some h') :
    ∃ w', (Instr.storeAt t a v).run P w = .ok () w' ∧ HR base φ h' w' ∧ Mv φ h w φ h' w' := by
  obtain ⟨L, hL, rfl⟩ := ha
  have hvc := hv.cells hc
  obtain ⟨w', h1, h2⟩ := write_fits (P := P) r hw hL hvc
  have hsz : v.cells.size = n := by have := hvc.length; simp at this; omega
  exact ⟨w', by simp [Instr.storeAt, Instr.sureAddr, storeVar, run_sizeOf hn, hsz, h1], h2⟩
end Go.Proofs.Ytgaaffanoegbhaa.Sim
