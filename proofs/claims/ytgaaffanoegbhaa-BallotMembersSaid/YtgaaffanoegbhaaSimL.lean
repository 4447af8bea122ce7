/- Regions in which allocations float: rows that the model has and the plain machine has not yet. No program in sight. -/
import Derived.Test.YtgaaffanoegbhaaSimJ
namespace Go.Proofs.Ytgaaffanoegbhaa.Sim
open Go Go.RowKit
set_option linter.unusedSimpArgs false
set_option linter.unusedVariables false
variable {P : Program}

/-- A row under a name that was kept for it. -/
def SH.putR (h : SH) (n : Nat) (q : List SC) : SH := ⟨h.m.put n (some (.row q true)), h.next⟩
theorem SH.get_putR (h : SH) (n : Nat) (q : List SC) (j : Nat) : (h.putR n q).get j = if j = n then some (.row q true) else h.get j := T.get_put _ _ _ _
structure Pend (base : Nat) (φ : Ph) (h : SH) (w w0 : World) (n : Nat) (q : List SC) (L : Loc) : Prop where
  at_ : φ n = some L
  lo : base ≤ L.m
  new : w0.heap.size ≤ L.m
  cont : ∃ (cs : Array Value) (E : TypeId), w.heap[L.m]? = some (.cells cs E (0, 0)) ∧ L.m0 = 0 ∧ L.sz = cs.size ∧ L.len = q.length ∧ ∀ (i : Nat) (x : SC), q[i]? = some x → ∃ u, cs[i]? = some u ∧ CR φ x u
  fm : φ.fm L.m = none
  alone : ∀ b q' L', h.get b = some q' → φ b = some L' → L'.m ≠ L.m
theorem Pend.lt {base : Nat} {φ : Ph} {h : SH} {w w0 : World} {n : Nat} {q : List SC} {L : Loc} (p : Pend base φ h w w0 n q L) : L.m < w.heap.size := by
  obtain ⟨cs, E, h1, _⟩ := p.cont
  exact (Array.getElem?_eq_some_iff.1 h1).1
theorem Pend.mv {base : Nat} {φ φ' : Ph} {h h' : SH} {w w' w0 : World} {n : Nat} {q : List SC} {L : Loc} (p : Pend base φ h w w0 n q L) (m : Mv φ h w φ' h' w') : Pend base φ' h' w' w0 n q L := by
  have hlt := p.lt
  have hno : ∀ b L', Owns φ h b L' → L'.m ≠ L.m := fun b L' ⟨q', h1, _, h2⟩ => p.alone b q' L' h1 h2
  obtain ⟨cs, E, h1, h2, h3, h4, h5⟩ := p.cont
  refine ⟨m.le.f _ _ p.at_, p.lo, p.new, ⟨cs, E, (m.keep _ hlt hno).trans h1, h2, h3, h4, fun i x hx => let ⟨u, a, b⟩ := h5 i x hx; ⟨u, a, b.mono m.le⟩⟩, ?_, fun b q' L' hb hL' e => ?_⟩
  · cases hf : φ'.fm L.m with
    | none => rfl
    | some o =>
      rcases m.fm _ _ hf with h | h | ⟨b, L', h6, h7⟩
      · rw [p.fm] at h; cases h
      · omega
      · exact absurd h7 (hno _ _ h6)
  · rcases m.has b q' L' hb hL' with h | ⟨b0, q0, L0, h6, h7, h8⟩
    · omega
    · exact p.alone b0 q0 L0 h6 h7 (h8.trans e)
theorem HR.merge {base : Nat} {φ : Ph} {h : SH} {w w0 : World} {n : Nat} {q : List SC} {L : Loc} (r : HR base φ h w) (p : Pend base φ h w w0 n q L) : HR base φ (h.putR n q) w := by
  have hno : ∀ b L', Owns φ h b L' → L'.m ≠ L.m := fun b L' ⟨q', h1, _, h2⟩ => p.alone b q' L' h1 h2
  obtain ⟨cs, E, h1, h2, h3, h4, h5⟩ := p.cont
  have hlen : q.length ≤ cs.size := by
    rcases Nat.eq_zero_or_pos q.length with h0 | h0
    · omega
    · obtain ⟨v, hv, _⟩ := h5 (q.length - 1) q[q.length - 1] (List.getElem?_eq_getElem (by omega))
      have := (Array.getElem?_eq_some_iff.1 hv).1
      omega
  refine ⟨r.dom, r.lo, fun b o hb => ?_, fun m o hm => ⟨(r.froz m o hm).1, fun b L' hb => ?_⟩, ?_⟩
  · rw [SH.get_putR] at hb
    by_cases e : b = n
    · rw [if_pos e] at hb; cases hb; subst e
      exact ⟨L, p.at_, h4, cs, E, (0, 0), h1, fun i x hx => by rw [h2, Nat.zero_add]; exact h5 i x hx, fun _ => ⟨p.lo, h3.symm, by omega, .inl rfl⟩⟩
    · rw [if_neg e] at hb; exact r.live b o hb
  · obtain ⟨q1, hb1, ho, hL⟩ := hb
    rw [SH.get_putR] at hb1
    by_cases e : b = n
    · subst e; rw [p.at_] at hL; cases hL
      intro e; rw [← e, p.fm] at hm; cases hm
    · rw [if_neg e] at hb1; exact (r.froz m o hm).2 b L' ⟨q1, hb1, ho, hL⟩
  · rintro b b' o M M' ⟨o1, hb, ho, hM⟩ hb' hM' hbb
    rw [SH.get_putR] at hb hb'
    by_cases e : b = n
    · subst e
      rw [p.at_] at hM; cases hM
      rw [if_neg (fun e => hbb e.symm)] at hb'
      exact fun e => p.alone b' o M' hb' hM' e.symm
    · rw [if_neg e] at hb
      by_cases e' : b' = n
      · subst e'
        rw [p.at_] at hM'; cases hM'
        exact p.alone b o1 M hb hM
      · rw [if_neg e'] at hb'
        exact r.inj b b' o M M' ⟨o1, hb, ho, hM⟩ hb' hM' hbb
theorem Mv.merge {base : Nat} {φ0 φ : Ph} {h0 h : SH} {w w0 : World} {n : Nat} {q : List SC} {L : Loc} (m : Mv φ0 h0 w0 φ h w) (p : Pend base φ h w w0 n q L) : Mv φ0 h0 w0 φ (h.putR n q) w := by
  refine ⟨m.le, m.os, m.tape, m.output, m.size, m.keep, fun b L' hb => ?_, fun b o L' hb hL => ?_, m.fm, m.nx, m.nw⟩
  · obtain ⟨q1, hb1, ho, hL⟩ := hb
    rw [SH.get_putR] at hb1
    by_cases e : b = n
    · subst e; rw [p.at_] at hL; cases hL; exact .inl p.new
    · rw [if_neg e] at hb1; exact m.own b L' ⟨q1, hb1, ho, hL⟩
  · rw [SH.get_putR] at hb
    by_cases e : b = n
    · subst e; rw [p.at_] at hL; cases hL; exact .inl p.new
    · rw [if_neg e] at hb; exact m.has b o L' hb hL
theorem Pend.merge {base : Nat} {φ : Ph} {h : SH} {w w0 : World} {n n' : Nat} {q q' : List SC} {L L' : Loc} (p' : Pend base φ h w w0 n' q' L') (p : Pend base φ h w w0 n q L) (hne : L.m ≠ L'.m) : Pend base φ (h.putR n q) w w0 n' q' L' := by
  refine ⟨p'.at_, p'.lo, p'.new, p'.cont, p'.fm, fun b o M hb hM => ?_⟩
  rw [SH.get_putR] at hb
  by_cases e : b = n
  · subst e; rw [p.at_] at hM; cases hM; exact hne
  · rw [if_neg e] at hb; exact p'.alone b o M hb hM
/-- The model makes a row; the plain machine keeps a name for it. -/
theorem bind_row {base : Nat} {φ0 φ : Ph} {h0 h : SH} {w w0 : World} (r : HR base φ h w) (m : Mv φ0 h0 w0 φ h w) {n : Nat} (hn : φ n = none) (hlt : n < h.next) (hle : h0.next ≤ n) (q : List SC) (cs : Array Value) (E : TypeId) (hq : ∀ (i : Nat) (x : SC), q[i]? = some x → ∃ u, cs[i]? = some u ∧ CR φ x u) :
    HR base (φ.add n ⟨w.heap.size, 0, cs.size, q.length⟩) h { w with heap := w.heap.push (.cells cs E (0, 0)) } ∧ Mv φ0 h0 w0 (φ.add n ⟨w.heap.size, 0, cs.size, q.length⟩) h { w with heap := w.heap.push (.cells cs E (0, 0)) } ∧
      Pend base (φ.add n ⟨w.heap.size, 0, cs.size, q.length⟩) h { w with heap := w.heap.push (.cells cs E (0, 0)) } w0 n q ⟨w.heap.size, 0, cs.size, q.length⟩ ∧
      ∀ n' q' L', Pend base φ h w w0 n' q' L' → Pend base (φ.add n ⟨w.heap.size, 0, cs.size, q.length⟩) h { w with heap := w.heap.push (.cells cs E (0, 0)) } w0 n' q' L' := by
  have hle' : Le φ (φ.add n ⟨w.heap.size, 0, cs.size, q.length⟩) := Ph.le_add hn
  have hat : (φ.add n ⟨w.heap.size, 0, cs.size, q.length⟩) n = some ⟨w.heap.size, 0, cs.size, q.length⟩ := by simp [Ph.add]
  have hne : ∀ b, b ≠ n → (φ.add n ⟨w.heap.size, 0, cs.size, q.length⟩) b = φ b := fun b hb => by simp [Ph.add, hb]
  have hno : ∀ b o, h.get b = some o → b ≠ n := fun b o hb e => by
    obtain ⟨L, h1, _⟩ := r.live b o hb
    rw [e, hn] at h1; cases h1
  have hold : ∀ k, k < w.heap.size → ({ w with heap := w.heap.push (.cells cs E (0, 0)) } : World).heap[k]? = w.heap[k]? := fun k hk => by simp [Array.getElem?_push, Nat.ne_of_lt hk]
  have hsz : ({ w with heap := w.heap.push (.cells cs E (0, 0)) } : World).heap.size = w.heap.size + 1 := by simp
  have how : ∀ b L, Owns (φ.add n ⟨w.heap.size, 0, cs.size, q.length⟩) h b L → Owns φ h b L := fun b L ⟨o, h1, h2, h3⟩ => ⟨o, h1, h2, by rw [hne b (hno b o h1)] at h3; exact h3⟩
  have hlive : ∀ b o L, h.get b = some o → (φ.add n ⟨w.heap.size, 0, cs.size, q.length⟩) b = some L → L.m < w.heap.size := fun b o L hb hL => by
    rw [hne b (hno b o hb)] at hL
    obtain ⟨L', h1, h2⟩ := r.live b o hb
    rw [hL] at h1; cases h1
    exact h2.lt
  refine ⟨⟨fun b L hb => ?_, by rw [hsz]; have := r.lo; omega, fun b o hb => ?_, fun k o hk => ?_, fun b b' o L L' h1 h2 h3 h4 => ?_⟩, ⟨m.le.trans hle', m.os, m.tape, m.output, by rw [hsz]; have := m.size; omega, fun k hk h1 => ?_, fun b L hb => m.own b L (how b L hb), fun b o L hb hL => ?_, m.fm, m.nx, fun b L hb => ?_⟩, ⟨hat, r.lo, m.size, ⟨cs, E, by simp, rfl, rfl, rfl, fun i x hx => let ⟨u, a, b⟩ := hq i x hx; ⟨u, a, b.mono hle'⟩⟩, ?_, fun b o L hb hL => ?_⟩, fun n' q' L' p => ?_⟩
  · by_cases e : b = n
    · rw [e]; exact hlt
    · rw [hne b e] at hb; exact r.dom _ _ hb
  · obtain ⟨L, h1, h2⟩ := r.live b o hb
    exact ⟨L, hle'.f _ _ h1, h2.mono hle' (hold _ h2.lt)⟩
  · obtain ⟨g1, g2⟩ := r.froz k o hk
    exact ⟨(hold k (Array.getElem?_eq_some_iff.1 g1).1).trans g1, fun b L hb => g2 b L (how b L hb)⟩
  · rw [hne b' (hno b' o h2)] at h3
    exact r.inj b b' o L L' (how b L h1) h2 h3 h4
  · exact (hold k (by have := m.size; omega)).trans (m.keep k hk h1)
  · rw [hne b (hno b o hb)] at hL; exact m.has b o L hb hL
  · by_cases e : b = n
    · right; omega
    · rw [hne b e] at hb; exact m.nw b L hb
  · cases hf : φ.fm w.heap.size with
    | none => exact hf
    | some o =>
      have := (Array.getElem?_eq_some_iff.1 (r.froz _ _ hf).1).1
      omega
  · have := hlive b o L hb hL
    simp only; omega
  · obtain ⟨cs', E', g1, g2, g3, g4, g5⟩ := p.cont
    exact ⟨hle'.f _ _ p.at_, p.lo, p.new, ⟨cs', E', (hold _ p.lt).trans g1, g2, g3, g4, fun i x hx => let ⟨u, a, b⟩ := g5 i x hx; ⟨u, a, b.mono hle'⟩⟩, p.fm, fun b o M hb hM => by
      rw [hne b (hno b o hb)] at hM; exact p.alone b o M hb hM⟩
/-- What an operation that only makes a row does. -/
theorem new_form {call : FuncId → List SV → SH → Option (SV × SH)} {t : SF} {h h' : SH} {o : Oper} {v : SV} (hn : isNew o = true) (hs : step P call t h o = some (v, h')) :
    ∃ q, h' = h.new q ∧ ∀ (φ : Ph) (a : Act) (w : World), TR φ t a → ∃ r : Sem Value, execOp a.eval o = (do pure (.value (← r))) ∧ AllocForm φ h.next w v q (r.run P w) := by
  unfold isNew at hn
  split at hn
  · rename_i e hop
    simp only [step, hop] at hs
    split at hs
    · rename_i z hz
      simp only [Option.some.injEq, Prod.mk.injEq] at hs
      obtain ⟨rfl, rfl⟩ := hs
      exact ⟨z, rfl, fun φ a w ht => ⟨_, by simp only [execOp, hop], alloc_form h.next hz⟩⟩
    · cases hs
  · rename_i e x hop
    simp only [step, hop] at hs
    split at hs
    · rename_i y hy
      split at hs
      · rename_i z hz
        simp only [Option.some.injEq, Prod.mk.injEq] at hs
        obtain ⟨rfl, rfl⟩ := hs
        exact ⟨z, rfl, fun φ a w ht => ⟨_, by simp only [execOp, hop], box_form h.next e (ev_sound ht hy) hz⟩⟩
      · cases hs
    · cases hs
  · rename_i ty n ps hop
    simp only [step, hop] at hs
    split at hs
    · rename_i l hl
      have hq : ∃ q, h' = h.new q := by
        have hs := hs
        unfold sBuildSlice at hs
        repeat' split at hs
        all_goals first | (cases hs; done) | skip
        all_goals
          simp only [Option.some.injEq, Prod.mk.injEq] at hs
          exact ⟨_, hs.2.symm⟩
      obtain ⟨q, rfl⟩ := hq
      refine ⟨q, rfl, fun φ a w ht => ⟨Instr.buildSlice ty n (ps.map fun (i, x) => (i, a.eval x)), by simp [execOp, hop], ?_⟩⟩
      have hp := evps_sound ht hl
      obtain ⟨q', e1, e2⟩ := buildSlice_form (P := P) (φ := φ) (w := w) (parts' := ps.map fun (i, x) => (i, a.eval x)) (by simpa using hp) hs
      have : q = q' := by
        have h1 := SH.get_new h q h.next
        rw [e1, SH.get_new] at h1
        simp only [if_true, Option.some.injEq, SO.row.injEq, and_true] at h1
        exact h1.symm
      rw [this]
      exact e2
    · cases hs
  · cases hn
/-- The text's own order, where rows have names ahead. -/
structure TextN (P : Program) (call : FuncId → List SV → SH → Option (SV × SH)) (ops : Array Oper) (nb : Nat) (T : Nat → SF) (H : Nat → SH) (V : Nat → SV) (W : Nat → Bool) : Prop where
  wanted : ∀ i o, ops[i]? = some o → wantedS ops (T i) o = some (W i)
  next : Slots ops T V
  does : ∀ i o, ops[i]? = some o → W i = true → stepN P call (nb + i) (T i) (H i) o = some (V i, H (i + 1))
  not : ∀ i o, ops[i]? = some o → W i = false → V i = .tup [] ∧ H (i + 1) = H i
section
variable {call : FuncId → List SV → SH → Option (SV × SH)} {ops : Array Oper} {T : Nat → SF} {H : Nat → SH} {V : Nat → SV} {W : Nat → Bool} {nb : Nat}
theorem eff_or {o : Oper} : isNew o = true ∨ (isNew o = false ∧ isEff P o = false ∧ cls P o ≠ 2) ∨ (isNew o = false ∧ isEff P o = true ∧ cls P o = 2) := by
  cases hn : isNew o with
  | true => exact .inl rfl
  | false =>
    right
    by_cases hc : cls P o = 2
    · right; simp [isEff, hn, hc]
    · left
      refine ⟨rfl, ?_, hc⟩
      have : Nat.beq (cls P o) 2 = false := by rw [Bool.eq_false_iff]; simpa using hc
      simp [isEff, this]
theorem new_two {o : Oper} (h : isNew o = true) : cls P o = 2 := by
  unfold isNew at h
  split at h
  · rename_i hop; simp [cls, hop]
  · rename_i hop; simp [cls, hop]
  · rename_i hop; simp [cls, hop]
  · cases h
theorem TextN.old (x : TextN P call ops nb T H V W) {i : Nat} {o : Oper} (ho : ops[i]? = some o) (hn : isNew o = false) (hw : W i = true) : step P call (T i) (H i) o = some (V i, H (i + 1)) := by
  have := x.does i o ho hw
  unfold stepN at this
  rw [hn] at this
  exact this
theorem TextN.keeps (x : TextN P call ops nb T H V W) {i : Nat} {o : Oper} (ho : ops[i]? = some o) (hn : isNew o = false) (hc : cls P o ≠ 2) : H (i + 1) = H i := by
  cases hw : W i with
  | false => exact (x.not i o ho hw).2
  | true =>
    have := x.old ho hn hw
    rcases cls_le (P := P) o with h | h | h
    · exact (cls0 h this).1
    · exact cls1 h this
    · exact absurd h hc
theorem TextN.new (x : TextN P call ops nb T H V W) {i : Nat} {o : Oper} (ho : ops[i]? = some o) (hn : isNew o = true) (hw : W i = true) :
    ∃ q, H (i + 1) = (H i).putR (nb + i) q ∧ step P call (T i) ⟨(H i).m, nb + i⟩ o = some (V i, (⟨(H i).m, nb + i⟩ : SH).new q) := by
  have := x.does i o ho hw
  unfold stepN at this
  rw [hn] at this
  simp only at this
  split at this
  · rename_i v h' hst
    simp only [Option.some.injEq, Prod.mk.injEq] at this
    obtain ⟨rfl, hh⟩ := this
    obtain ⟨q, rfl, _⟩ := new_form hn hst
    exact ⟨q, by rw [← hh]; rfl, hst⟩
  · cases this
/-- What is so at a time: c is the place behind the last effect that is done. -/
structure Inv (base : Nat) (φ0 : Ph) (h0 : SH) (w0 : World) (ops : Array Oper) (nb : Nat) (H : Nat → SH) (W : Nat → Bool) (D : Nat → Bool) (c : Nat) (φ : Ph) (w : World) : Prop where
  hr : HR base φ (H c) w
  mv : Mv φ0 h0 w0 φ (H c) w
  hi : nb + ops.size ≤ (H c).next
  pend : ∀ j o q, ops[j]? = some o → isNew o = true → W j = true → D j = true → c ≤ j → H (j + 1) = (H j).putR (nb + j) q → ∃ L, Pend base φ (H c) w w0 (nb + j) q L
  dist : ∀ j j' o o' L L', ops[j]? = some o → isNew o = true → W j = true → D j = true → c ≤ j → ops[j']? = some o' → isNew o' = true → W j' = true → D j' = true → c ≤ j' → j ≠ j' → φ (nb + j) = some L → φ (nb + j') = some L' → L.m ≠ L'.m
/-- Rows that the model has come to the plain machine. -/
theorem Inv.up {base : Nat} {φ0 : Ph} {h0 : SH} {w0 : World} {D : Nat → Bool} (x : TextN P call ops nb T H V W) {c : Nat} {φ : Ph} {w : World} (v : Inv base φ0 h0 w0 ops nb H W D c φ w) :
    ∀ d, c + d ≤ ops.size → (∀ j o, c ≤ j → j < c + d → ops[j]? = some o → isEff P o = false ∧ (isNew o = true → D j = true)) → Inv base φ0 h0 w0 ops nb H W D (c + d) φ w
  | 0, _, _ => v
  | d + 1, hd, hj => by
    have ih := v.up x d (by omega) fun j o h1 h2 h3 => hj j o h1 (by omega) h3
    have ho : ops[c + d]? = some ops[c + d] := Array.getElem?_eq_getElem (by omega)
    obtain ⟨e1, e2⟩ := hj (c + d) _ (by omega) (by omega) ho
    generalize ops[c + d] = o at ho e1 e2
    have same : H (c + d + 1) = H (c + d) → Inv base φ0 h0 w0 ops nb H W D (c + d + 1) φ w := fun hs =>
      ⟨by rw [hs]; exact ih.hr, by rw [hs]; exact ih.mv, by rw [hs]; exact ih.hi, fun j o q g1 g2 g3 g4 g5 g6 => by rw [hs]; exact ih.pend j o q g1 g2 g3 g4 (by omega) g6,
        fun j j' o o' L L' a1 a2 a3 a4 a5 b1 b2 b3 b4 b5 hne => ih.dist j j' o o' L L' a1 a2 a3 a4 (by omega) b1 b2 b3 b4 (by omega) hne⟩
    rcases eff_or (P := P) (o := o) with hn | ⟨hn, _, hc⟩ | ⟨_, hn, _⟩
    · cases hw : W (c + d) with
      | false => exact same (x.not _ _ ho hw).2
      | true =>
        obtain ⟨q, hq, -⟩ := x.new ho hn hw
        obtain ⟨L, p⟩ := ih.pend _ o q ho hn hw (e2 hn) (Nat.le_refl _) hq
        show Inv base φ0 h0 w0 ops nb H W D (c + d + 1) φ w
        refine ⟨by rw [hq]; exact ih.hr.merge p, by rw [hq]; exact ih.mv.merge p, by rw [hq]; exact ih.hi, fun j o' q' g1 g2 g3 g4 g5 g6 => ?_,
          fun j j' o o' L L' a1 a2 a3 a4 a5 b1 b2 b3 b4 b5 hne => ih.dist j j' o o' L L' a1 a2 a3 a4 (by omega) b1 b2 b3 b4 (by omega) hne⟩
        obtain ⟨L', p'⟩ := ih.pend j o' q' g1 g2 g3 g4 (by omega) g6
        exact ⟨L', by rw [hq]; exact p'.merge p (ih.dist _ _ _ _ L L' ho hn hw (e2 hn) (Nat.le_refl _) g1 g2 g3 g4 (by omega) (by omega) p.at_ p'.at_)⟩
    · exact same (x.keeps ho hn hc)
    · rw [e1] at hn; cases hn
/-- A step of the model's that leaves the plain place where it is, or brings it further. -/
theorem Inv.mv' {base : Nat} {φ0 : Ph} {h0 : SH} {w0 : World} {D D' : Nat → Bool} {c c' : Nat} {φ φ' : Ph} {w w' : World} (v : Inv base φ0 h0 w0 ops nb H W D c φ w) (hc : c ≤ c') (hr : HR base φ' (H c') w') (m : Mv φ (H c) w φ' (H c') w')
    (hD : ∀ j o, ops[j]? = some o → isNew o = true → W j = true → D' j = D j) : Inv base φ0 h0 w0 ops nb H W D' c' φ' w' := by
  refine ⟨hr, v.mv.trans m, Nat.le_trans v.hi m.nx, fun j o q g1 g2 g3 g4 g5 g6 => ?_, fun j j' o o' L L' a1 a2 a3 a4 a5 b1 b2 b3 b4 b5 hne hL hL' => ?_⟩
  · rw [hD j o g1 g2 g3] at g4
    obtain ⟨L, p⟩ := v.pend j o q g1 g2 g3 g4 (by omega) g6
    exact ⟨L, p.mv m⟩
  · rw [hD j o a1 a2 a3] at a4
    rw [hD j' o' b1 b2 b3] at b4
    have back : ∀ n M, n < (H c).next → φ' n = some M → φ n = some M := fun n M hn hM => by
      rcases m.nw n M hM with h | h
      · exact h
      · omega
    have s1 := (Array.getElem?_eq_some_iff.1 a1).1
    have s2 := (Array.getElem?_eq_some_iff.1 b1).1
    have := v.hi
    exact v.dist j j' o o' L L' a1 a2 a3 a4 (by omega) b1 b2 b3 b4 (by omega) hne (back _ _ (by omega) hL) (back _ _ (by omega) hL')
end
end Go.Proofs.Ytgaaffanoegbhaa.Sim
