/- Regions that draw their order: every order comes to the same. No program in sight. -/
import Derived.Test.YtgaaffanoegbhaaSimZ
namespace Go.Proofs.Ytgaaffanoegbhaa.Sim
open Go Go.RowKit
set_option linter.unusedSimpArgs false
set_option linter.unusedVariables false
variable {P : Program}

/-- Operation i stands ahead of operation j. -/
inductive Anc (L : List Oper) : Nat → Nat → Prop where
  | direct {i j : Nat} {o : Oper} (ho : L[j]? = some o) (hp : i ∈ predsOf o) : Anc L i j
  | trans {i p j : Nat} {o : Oper} (ho : L[j]? = some o) (hp : p ∈ predsOf o) (h : Anc L i p) : Anc L i j
theorem maskOf_bit (acc : List Nat) (o : Oper) (i : Nat) (h : (maskOf acc o).testBit i = true) : ∃ p ∈ predsOf o, i = p ∨ (acc.getD p 0).testBit i = true := by
  unfold maskOf at h
  have key : ∀ l : List Nat, (l.foldr (fun p s => s ||| 2 ^ p ||| acc.getD p 0) 0).testBit i = true → ∃ p ∈ l, i = p ∨ (acc.getD p 0).testBit i = true := by
    intro l
    induction l with
    | nil => intro h; simp at h
    | cons p l ih =>
      intro h
      simp only [List.foldr_cons, Nat.testBit_or, Bool.or_eq_true] at h
      rcases h with (h | h) | h
      · obtain ⟨q, h1, h2⟩ := ih h
        exact ⟨q, by simp [h1], h2⟩
      · rw [Nat.testBit_two_pow] at h
        exact ⟨p, by simp, .inl (by simpa using h : p = i).symm⟩
      · exact ⟨p, by simp, .inr h⟩
  exact key _ h
theorem masks_len : ∀ (r : List Oper) (acc : List Nat), (masks r acc).length = acc.length + r.length
  | [], acc => by simp [masks]
  | o :: r, acc => by simp only [masks]; rw [masks_len r]; simp; omega
theorem masks_sound (L : List Oper) : ∀ (r : List Oper) (acc : List Nat) (pre : List Oper), L = pre ++ r → acc.length = pre.length → (∀ j i, (acc.getD j 0).testBit i = true → Anc L i j) →
    ∀ j i, ((masks r acc).getD j 0).testBit i = true → Anc L i j
  | [], acc, pre, _, _, h, j, i, hb => h j i (by simpa [masks] using hb)
  | o :: r, acc, pre, hL, hlen, h, j, i, hb => by
    simp only [masks] at hb
    refine masks_sound L r (acc ++ [maskOf acc o]) (pre ++ [o]) (by simp [hL]) (by simp [hlen]) (fun j i hb => ?_) j i hb
    by_cases hj : j < acc.length
    · rw [List.getD_eq_getElem?_getD, List.getElem?_append_left hj, ← List.getD_eq_getElem?_getD] at hb
      exact h j i hb
    · rw [List.getD_eq_getElem?_getD, List.getElem?_append_right (by omega)] at hb
      by_cases hj2 : j = acc.length
      · subst hj2
        simp only [Nat.sub_self, List.getElem?_cons_zero, Option.getD_some] at hb
        have ho : L[acc.length]? = some o := by rw [hL, hlen]; simp
        obtain ⟨p, hp, hor⟩ := maskOf_bit acc o i hb
        rcases hor with rfl | hor
        · exact .direct ho hp
        · exact .trans ho hp (h p i hor)
      · rw [List.getElem?_eq_none (by simp; omega)] at hb
        simp at hb
/-- What is listed bears all that stands ahead of it. -/
theorem Anc.closed {L : List Oper} {D : Nat → Prop} (hD : ∀ j o, L[j]? = some o → D j → ∀ p ∈ predsOf o, D p) : ∀ {i j : Nat}, Anc L i j → (∀ o, L[j]? = some o → ∀ p ∈ predsOf o, D p) → D i := by
  intro i j h
  induction h with
  | direct ho hp => intro hj; exact hj _ ho _ hp
  | trans ho hp h ih =>
    intro hj
    exact ih fun o' ho' q hq => hD _ o' ho' (hj _ ho _ hp) q hq
theorem inOrder_sound (ops : Array Oper) (ms : List Nat) (L : List Oper) : ∀ (r : List Oper) (j : Nat) (seen : List (Oper × Nat)) (pre : List Oper), L = pre ++ r → pre.length = j → (∀ i p, i < j → L[i]? = some p → (p, i) ∈ seen) → inOrder P ops ms r j seen = true →
    ∀ k o, j ≤ k → L[k]? = some o → (∀ p ∈ predsOf o, p < k) ∧ ∀ i p, i < k → L[i]? = some p → (clash ops p o = true ∨ (cls P p = 2 ∧ cls P o = 2)) → (ms.getD k 0).testBit i = true
  | [], j, seen, pre, hL, hl, _, _, k, o, hjk, hk => by
    have : k < L.length := (List.getElem?_eq_some_iff.1 hk).1
    simp [hL] at this
    omega
  | q :: r, j, seen, pre, hL, hl, hs, h, k, o, hjk, hk => by
    simp only [inOrder, Bool.and_eq_true] at h
    obtain ⟨⟨h1, h2⟩, h3⟩ := h
    have hq : L[j]? = some q := by rw [hL, ← hl]; simp
    by_cases hkj : k = j
    · subst hkj
      rw [hq] at hk
      cases hk
      refine ⟨fun p hp => ?_, fun i p hi hp hc => ?_⟩
      · have := List.all_eq_true.1 h1 p hp
        simpa [Nat.blt_eq] using this
      · have := List.all_eq_true.1 h2 (p, i) (hs i p hi hp)
        simp only [Bool.or_eq_true, Bool.not_eq_true', Bool.or_eq_false_iff, Bool.and_eq_false_iff] at this
        rcases this with ⟨a, b⟩ | this
        · rcases hc with hc | ⟨c1, c2⟩
          · rw [hc] at a; cases a
          · rcases b with b | b
            · rw [c1] at b; cases b
            · rw [c2] at b; cases b
        · exact this
    · refine inOrder_sound ops ms L r (j + 1) ((q, j) :: seen) (pre ++ [q]) (by simp [hL]) (by simp [hl]) (fun i p hi hp => ?_) h3 k o (by omega) hk
      by_cases hij : i = j
      · subst hij
        rw [hq] at hp
        cases hp
        simp
      · exact List.mem_cons_of_mem _ (hs i p (by omega) hp)
theorem idxs_mem (c : Nat) (L : List Oper) : ∀ (r : List Oper) (j : Nat) (pre : List Oper), L = pre ++ r → pre.length = j → ∀ k o, j ≤ k → L[k]? = some o → cls P o = c → k ∈ idxs P c r j
  | [], j, pre, hL, hl, k, o, hjk, hk, _ => by
    have : k < L.length := (List.getElem?_eq_some_iff.1 hk).1
    simp [hL] at this
    omega
  | q :: r, j, pre, hL, hl, k, o, hjk, hk, hc => by
    have hq : L[j]? = some q := by rw [hL, ← hl]; simp
    simp only [idxs]
    by_cases hkj : k = j
    · subst hkj
      rw [hq] at hk
      cases hk
      rw [if_pos (by rw [hc]; simp)]
      simp
    · have := idxs_mem c L r (j + 1) (pre ++ [q]) (by simp [hL]) (by simp [hl]) k o (by omega) hk hc
      split
      · exact List.mem_cons_of_mem _ this
      · exact this
/-- The text's own order, step by step. -/
structure Text (P : Program) (call : FuncId → List SV → SH → Option (SV × SH)) (ops : Array Oper) (T : Nat → SF) (H : Nat → SH) (V : Nat → SV) (W : Nat → Bool) : Prop where
  wanted : ∀ i o, ops[i]? = some o → wantedS ops (T i) o = some (W i)
  next : ∀ i o, ops[i]? = some o → T (i + 1) = (T i).put o.dst (V i)
  does : ∀ i o, ops[i]? = some o → W i = true → step P call (T i) (H i) o = some (V i, H (i + 1))
  not : ∀ i o, ops[i]? = some o → W i = false → V i = .tup [] ∧ H (i + 1) = H i
theorem trace_text {call : FuncId → List SV → SH → Option (SV × SH)} (ops : Array Oper) : ∀ (r : List Oper) (t t' : SF) (h h' : SH) (l : List Tr), traceS P call ops r t h = some (l, t', h') →
    ∃ (T : Nat → SF) (H : Nat → SH) (V : Nat → SV) (W : Nat → Bool), T 0 = t ∧ H 0 = h ∧ T r.length = t' ∧ H r.length = h' ∧ l.length = r.length ∧
      ∀ i o, r[i]? = some o → wantedS ops (T i) o = some (W i) ∧ T (i + 1) = (T i).put o.dst (V i) ∧ (W i = true → step P call (T i) (H i) o = some (V i, H (i + 1))) ∧ (W i = false → V i = .tup [] ∧ H (i + 1) = H i) ∧ l[i]? = some ⟨T i, H i, V i, W i⟩
  | [], t, t', h, h', l, hs => by
    simp only [traceS, Option.some.injEq, Prod.mk.injEq] at hs
    obtain ⟨rfl, rfl, rfl⟩ := hs
    exact ⟨fun _ => t, fun _ => h, fun _ => .tup [], fun _ => false, rfl, rfl, rfl, rfl, rfl, by simp⟩
  | o :: r, t, t', h, h', l, hs => by
    simp only [traceS] at hs
    have key : ∀ (v : SV) (b : Bool) (h1 : SH) (l1 : List Tr), wantedS ops t o = some b → (b = true → step P call t h o = some (v, h1)) → (b = false → v = .tup [] ∧ h1 = h) → traceS P call ops r (t.put o.dst v) h1 = some (l1, t', h') → l = ⟨t, h, v, b⟩ :: l1 →
        ∃ (T : Nat → SF) (H : Nat → SH) (V : Nat → SV) (W : Nat → Bool), T 0 = t ∧ H 0 = h ∧ T (o :: r).length = t' ∧ H (o :: r).length = h' ∧ l.length = (o :: r).length ∧
          ∀ i p, (o :: r)[i]? = some p → wantedS ops (T i) p = some (W i) ∧ T (i + 1) = (T i).put p.dst (V i) ∧ (W i = true → step P call (T i) (H i) p = some (V i, H (i + 1))) ∧ (W i = false → V i = .tup [] ∧ H (i + 1) = H i) ∧ l[i]? = some ⟨T i, H i, V i, W i⟩ := by
      intro v b h1 l1 hw hd hn hr hl
      obtain ⟨T, H, V, W, e1, e2, e3, e4, e5, e6⟩ := trace_text ops r _ _ _ _ _ hr
      refine ⟨fun i => match i with | 0 => t | i + 1 => T i, fun i => match i with | 0 => h | i + 1 => H i, fun i => match i with | 0 => v | i + 1 => V i, fun i => match i with | 0 => b | i + 1 => W i, rfl, rfl, by simpa using e3, by simpa using e4, by rw [hl]; simp [e5], fun i p hp => ?_⟩
      cases i with
      | zero =>
        simp only [List.getElem?_cons_zero, Option.some.injEq] at hp
        subst hp
        refine ⟨hw, e1, fun hb => by show _ = some (v, H 0); rw [hd hb, e2], fun hb => ⟨(hn hb).1, by show H 0 = h; rw [e2]; exact (hn hb).2⟩, by rw [hl]; rfl⟩
      | succ i =>
        simp only [List.getElem?_cons_succ] at hp
        obtain ⟨g1, g2, g3, g4, g5⟩ := e6 i p hp
        exact ⟨g1, g2, g3, g4, by rw [hl]; exact g5⟩
    split at hs
    · rename_i hw
      split at hs
      · rename_i v h1 hst
        split at hs
        · rename_i l1 q hr
          simp only [Option.some.injEq, Prod.mk.injEq] at hs
          obtain ⟨rfl, rfl⟩ := hs
          exact key v true h1 l1 hw (fun _ => hst) (fun e => by cases e) hr rfl
        · cases hs
      · cases hs
    · rename_i hw
      split at hs
      · rename_i l1 q hr
        simp only [Option.some.injEq, Prod.mk.injEq] at hs
        obtain ⟨rfl, rfl⟩ := hs
        exact key (.tup []) false h l1 hw (fun e => by cases e) (fun _ => ⟨rfl, rfl⟩) hr rfl
      · cases hs
    · cases hs
theorem steps_trace {call : FuncId → List SV → SH → Option (SV × SH)} (ops : Array Oper) : ∀ (r : List Oper) (t t' : SF) (h h' : SH), stepsS P call ops r t h = some (t', h') → ∃ l, traceS P call ops r t h = some (l, t', h')
  | [], t, t', h, h', hs => by
    simp only [stepsS, Option.some.injEq, Prod.mk.injEq] at hs
    obtain ⟨rfl, rfl⟩ := hs
    exact ⟨[], rfl⟩
  | o :: r, t, t', h, h', hs => by
    simp only [stepsS] at hs
    simp only [traceS]
    split at hs
    · rename_i hw
      split at hs
      · rename_i v h1 hst
        obtain ⟨l, hl⟩ := steps_trace ops r _ _ _ _ hs
        exact ⟨⟨t, h, v, true⟩ :: l, by simp only [hst, hl]⟩
      · cases hs
    · rename_i hw
      obtain ⟨l, hl⟩ := steps_trace ops r _ _ _ _ hs
      exact ⟨⟨t, h, .tup [], false⟩ :: l, by simp only [hl]⟩
    · cases hs
end Go.Proofs.Ytgaaffanoegbhaa.Sim
