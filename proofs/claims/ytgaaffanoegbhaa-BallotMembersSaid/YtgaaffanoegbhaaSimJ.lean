/- Regions in which allocations float: names ahead. No program in sight. -/
import Derived.Test.YtgaaffanoegbhaaSimK
namespace Go.Proofs.Ytgaaffanoegbhaa.Sim
open Go Go.RowKit
set_option linter.unusedSimpArgs false
set_option linter.unusedVariables false
variable {P : Program}

theorem inOrder3_sound (ops : Array Oper) (ms : List Nat) (L : List Oper) : ∀ (r : List Oper) (j : Nat) (seen : List (Oper × Nat)) (pre : List Oper), L = pre ++ r → pre.length = j → (∀ i p, i < j → L[i]? = some p → (p, i) ∈ seen) → inOrder3 P ops ms r j seen = true →
    ∀ k o, j ≤ k → L[k]? = some o → (∀ p ∈ predsOf o, p < k) ∧ ∀ i p, i < k → L[i]? = some p → (clash ops p o = true ∨ (cls P p = 2 ∧ isEff P o = true)) → (ms.getD k 0).testBit i = true
  | [], j, seen, pre, hL, hl, _, _, k, o, hjk, hk => by
    have : k < L.length := (List.getElem?_eq_some_iff.1 hk).1
    simp [hL] at this
    omega
  | q :: r, j, seen, pre, hL, hl, hs, h, k, o, hjk, hk => by
    simp only [inOrder3, Bool.and_eq_true] at h
    obtain ⟨⟨h1, h2⟩, h3⟩ := h
    have hq : L[j]? = some q := by rw [hL, ← hl]; simp
    by_cases hkj : k = j
    · subst hkj
      rw [hq] at hk
      cases hk
      refine ⟨fun p hp => ?_, fun i p hi hp hc => ?_⟩
      · have := List.all_eq_true.1 h1 p hp
        simpa [Nat.blt_eq] using this
      · have := List.all_eq_true.1 h2 (p, i) (hs i p hi hp)
        simp only [Bool.or_eq_true, Bool.not_eq_true', Bool.or_eq_false_iff, Bool.and_eq_false_iff] at this
        rcases this with ⟨a, b⟩ | this
        · rcases hc with hc | ⟨c1, c2⟩
          · rw [hc] at a; cases a
          · rcases b with b | b
            · rw [c1] at b; cases b
            · rw [c2] at b; cases b
        · exact this
    · refine inOrder3_sound ops ms L r (j + 1) ((q, j) :: seen) (pre ++ [q]) (by simp [hL]) (by simp [hl]) (fun i p hi hp => ?_) h3 k o (by omega) hk
      by_cases hij : i = j
      · subst hij
        rw [hq] at hp
        cases hp
        simp
      · exact List.mem_cons_of_mem _ (hs i p (by omega) hp)
theorem trace_textN {call : FuncId → List SV → SH → Option (SV × SH)} (ops : Array Oper) : ∀ (r : List Oper) (n : Nat) (t t' : SF) (h h' : SH) (l : List Tr), traceN P call ops r n t h = some (l, t', h') →
    ∃ (T : Nat → SF) (H : Nat → SH) (V : Nat → SV) (W : Nat → Bool), T 0 = t ∧ H 0 = h ∧ T r.length = t' ∧ H r.length = h' ∧ l.length = r.length ∧
      ∀ i o, r[i]? = some o → wantedS ops (T i) o = some (W i) ∧ T (i + 1) = (T i).put o.dst (V i) ∧ (W i = true → stepN P call (n + i) (T i) (H i) o = some (V i, H (i + 1))) ∧ (W i = false → V i = .tup [] ∧ H (i + 1) = H i) ∧ l[i]? = some ⟨T i, H i, V i, W i⟩
  | [], n, t, t', h, h', l, hs => by
    simp only [traceN, Option.some.injEq, Prod.mk.injEq] at hs
    obtain ⟨rfl, rfl, rfl⟩ := hs
    exact ⟨fun _ => t, fun _ => h, fun _ => .tup [], fun _ => false, rfl, rfl, rfl, rfl, rfl, by simp⟩
  | o :: r, n, t, t', h, h', l, hs => by
    simp only [traceN] at hs
    have key : ∀ (v : SV) (b : Bool) (h1 : SH) (l1 : List Tr), wantedS ops t o = some b → (b = true → stepN P call n t h o = some (v, h1)) → (b = false → v = .tup [] ∧ h1 = h) → traceN P call ops r (n + 1) (t.put o.dst v) h1 = some (l1, t', h') → l = ⟨t, h, v, b⟩ :: l1 →
        ∃ (T : Nat → SF) (H : Nat → SH) (V : Nat → SV) (W : Nat → Bool), T 0 = t ∧ H 0 = h ∧ T (o :: r).length = t' ∧ H (o :: r).length = h' ∧ l.length = (o :: r).length ∧
          ∀ i p, (o :: r)[i]? = some p → wantedS ops (T i) p = some (W i) ∧ T (i + 1) = (T i).put p.dst (V i) ∧ (W i = true → stepN P call (n + i) (T i) (H i) p = some (V i, H (i + 1))) ∧ (W i = false → V i = .tup [] ∧ H (i + 1) = H i) ∧ l[i]? = some ⟨T i, H i, V i, W i⟩ := by
      intro v b h1 l1 hw hd hn hr hl
      obtain ⟨T, H, V, W, e1, e2, e3, e4, e5, e6⟩ := trace_textN ops r _ _ _ _ _ _ hr
      refine ⟨fun i => match i with | 0 => t | i + 1 => T i, fun i => match i with | 0 => h | i + 1 => H i, fun i => match i with | 0 => v | i + 1 => V i, fun i => match i with | 0 => b | i + 1 => W i, rfl, rfl, by simpa using e3, by simpa using e4, by rw [hl]; simp [e5], fun i p hp => ?_⟩
      cases i with
      | zero =>
        simp only [List.getElem?_cons_zero, Option.some.injEq] at hp
        subst hp
        refine ⟨hw, e1, fun hb => by show stepN P call n t h _ = some (v, H 0); rw [hd hb, e2], fun hb => ⟨(hn hb).1, by show H 0 = h; rw [e2]; exact (hn hb).2⟩, by rw [hl]; rfl⟩
      | succ i =>
        simp only [List.getElem?_cons_succ] at hp
        obtain ⟨g1, g2, g3, g4, g5⟩ := e6 i p hp
        exact ⟨g1, g2, fun hb => by rw [show n + (i + 1) = n + 1 + i by omega]; exact g3 hb, g4, by rw [hl]; exact g5⟩
    split at hs
    · rename_i hw
      split at hs
      · rename_i v h1 hst
        split at hs
        · rename_i l1 q hr
          simp only [Option.some.injEq, Prod.mk.injEq] at hs
          obtain ⟨rfl, rfl⟩ := hs
          exact key v true h1 l1 hw (fun _ => hst) (fun e => by cases e) hr rfl
        · cases hs
      · cases hs
    · rename_i hw
      split at hs
      · rename_i l1 q hr
        simp only [Option.some.injEq, Prod.mk.injEq] at hs
        obtain ⟨rfl, rfl⟩ := hs
        exact key (.tup []) false h l1 hw (fun e => by cases e) (fun _ => ⟨rfl, rfl⟩) hr rfl
      · cases hs
    · cases hs
section
variable {call : FuncId → List SV → SH → Option (SV × SH)} {ops : Array Oper} {T : Nat → SF} {H : Nat → SH} {V : Nat → SV} {W : Nat → Bool}
def Slots (ops : Array Oper) (T : Nat → SF) (V : Nat → SV) : Prop := ∀ i o, ops[i]? = some o → T (i + 1) = (T i).put o.dst (V i)
def Clear (ops : Array Oper) : Prop := ∀ i j p o, i < j → ops[i]? = some p → ops[j]? = some o → clash ops p o = true → Anc ops.toList i j
theorem slots_n (hn : Slots ops T V) : ∀ m, m ≤ ops.size → (T m).n = (T 0).n
  | 0, _ => rfl
  | m + 1, h => by rw [hn m ops[m] (Array.getElem?_eq_getElem (by omega)), SF.n_put, slots_n hn m (by omega)]
theorem reads_sameN (hn : Slots ops T V) (hcl : Clear ops) {D : Nat → Bool} (hD : Closed ops D) {j : Nat} {o : Oper} (ho : ops[j]? = some o) (hj : D j = false) (hp : ∀ p ∈ predsOf o, D p = true) {s : Nat} (hs : s ∈ readsOf ops o) :
    ∀ m, m ≤ ops.size → (cur ops (T 0) V D m).get s = (T (min m j)).get s
  | 0, _ => by simp [cur]
  | m + 1, hm => by
    have ih := reads_sameN hn hcl hD ho hj hp hs m (by omega)
    have hq : ops[m]? = some ops[m] := Array.getElem?_eq_getElem (by omega)
    simp only [cur, hq, Option.bind_some]
    by_cases hmj : m < j
    · rw [show min (m + 1) j = m + 1 by omega, hn m _ hq]
      rw [show min m j = m by omega] at ih
      by_cases hd : ops[m].dst = some s
      · have hDm : D m = true := hD.anc (hcl m j _ o hmj hq ho (by unfold clash; rw [hd, (hasB_iff _ _).2 hs]; rfl)) (fun o' ho' p hp' => by rw [ho] at ho'; cases ho'; exact hp p hp')
        rw [if_pos hDm, SF.get_put', SF.get_put', cur_n, slots_n hn m (by omega), ih]
      · have : ((T m).put ops[m].dst (V m)).get s = (T m).get s := by rw [SF.get_put', if_neg (fun e => hd e.1)]
        rw [this]
        split
        · rw [SF.get_put', if_neg (fun e => hd e.1), ih]
        · exact ih
    · rw [show min (m + 1) j = j by omega]
      rw [show min m j = j by omega] at ih
      split
      · rename_i hDm
        have hne : m ≠ j := fun e => by subst e; rw [hj] at hDm; cases hDm
        have hd : ops[m].dst ≠ some s := fun e => by
          have := hD.anc (hcl j m o _ (by omega) ho hq (by unfold clash; rw [e, (hasB_iff _ _).2 hs]; simp)) (fun o' ho' p hp' => hD m o' ho' hDm p hp')
          rw [hj] at this
          cases this
        rw [SF.get_put', if_neg (fun e => hd e.1), ih]
      · exact ih
theorem also_putN (hcl : Clear ops) {D : Nat → Bool} (hD : Closed ops D) {j : Nat} {o : Oper} (ho : ops[j]? = some o) (hj : D j = false) (t : SF) : ∀ (d : Nat), j + 1 + d ≤ ops.size → ∀ s, (cur ops t V (also D j) (j + 1 + d)).get s = ((cur ops t V D (j + 1 + d)).put o.dst (V j)).get s
  | 0, _, s => by
    simp only [Nat.add_zero, cur, also_eq, if_true, hj, Bool.false_eq_true, if_false, ho, Option.bind_some]
    rw [cur_low t j fun i hi => also_ne (by omega)]
  | d + 1, hd, s => by
    have ih := also_putN hcl hD ho hj t d (by omega)
    have hm : ops[j + 1 + d]? = some ops[j + 1 + d] := Array.getElem?_eq_getElem (by omega)
    rw [show j + 1 + (d + 1) = (j + 1 + d) + 1 by omega]
    simp only [cur, also_ne (D := D) (show j + 1 + d ≠ j by omega), hm, Option.bind_some]
    split
    · rename_i hDm
      have hdd : ∀ s, ops[j + 1 + d].dst = some s → o.dst = some s → False := fun s h1 h2 => by
        have := hD.anc (hcl j (j + 1 + d) o _ (by omega) ho hm (by unfold clash; rw [h1, h2]; simp [hasB])) (fun o' ho' p hp' => hD _ o' ho' hDm p hp')
        rw [hj] at this
        cases this
      rw [SF.get_put', SF.get_put', SF.get_put', SF.n_put, cur_n, cur_n, ih s, SF.get_put', cur_n]
      by_cases h1 : ops[j + 1 + d].dst = some s ∧ s < t.n
      · rw [if_pos h1, if_neg (fun e => hdd s h1.1 e.1), if_pos h1]
      · rw [if_neg h1]
        by_cases h2 : o.dst = some s ∧ s < t.n
        · simp only [if_pos h2]
        · simp only [if_neg h2, if_neg h1]
    · exact ih s
theorem cur_allN (hn : Slots ops T V) {D : Nat → Bool} (hD : ∀ i, i < ops.size → D i = true) : ∀ m, m ≤ ops.size → cur ops (T 0) V D m = T m
  | 0, _ => rfl
  | m + 1, h => by
    have hm : ops[m]? = some ops[m] := Array.getElem?_eq_getElem (by omega)
    simp only [cur, hD m (by omega), if_true, hm, Option.bind_some]
    rw [cur_allN hn hD m (by omega), hn m _ hm]
end
end Go.Proofs.Ytgaaffanoegbhaa.Sim
