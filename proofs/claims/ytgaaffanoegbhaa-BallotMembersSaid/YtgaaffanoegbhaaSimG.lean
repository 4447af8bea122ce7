/- Regions in which allocations float: the theorem. No program in sight. -/
import Derived.Test.YtgaaffanoegbhaaSimL
namespace Go.Proofs.Ytgaaffanoegbhaa.Sim
open Go Go.RowKit
set_option linter.unusedSimpArgs false
set_option linter.unusedVariables false
variable {P : Program}

structure Ord3 (P : Program) (ops : Array Oper) : Prop where
  back : ∀ k o, ops[k]? = some o → ∀ p ∈ predsOf o, p < k
  clr : Clear ops
  anc : ∀ i j p o, i < j → ops[i]? = some p → ops[j]? = some o → cls P p = 2 → isEff P o = true → Anc ops.toList i j
theorem ord3_of {ops : Array Oper} (h : inOrder3 P ops (masks ops.toList []) ops.toList 0 [] = true) : Ord3 P ops := by
  have hs := inOrder3_sound (P := P) ops (masks ops.toList []) ops.toList ops.toList 0 [] [] rfl rfl (fun i p hi _ => absurd hi (Nat.not_lt_zero _)) h
  have hm := masks_sound ops.toList ops.toList [] [] rfl rfl (fun j i hb => by simp at hb)
  exact ⟨fun k o hk => (hs k o (Nat.zero_le _) (by simpa using hk)).1, fun i j p o hij hp ho hc => hm j i ((hs j o (Nat.zero_le _) (by simpa using ho)).2 i p hij (by simpa using hp) (.inl hc)),
    fun i j p o hij hp ho h1 h2 => hm j i ((hs j o (Nat.zero_le _) (by simpa using ho)).2 i p hij (by simpa using hp) (.inr ⟨h1, h2⟩))⟩
theorem effs_at (L : List Oper) : ∀ (r : List Oper) (j : Nat) (pre : List Oper), L = pre ++ r → pre.length = j → ∀ k ∈ effs P r j, ∃ o, L[k]? = some o ∧ isEff P o = true
  | [], j, pre, _, _, k, h => by cases h
  | q :: r, j, pre, hL, hl, k, h => by
    have hq : L[j]? = some q := by rw [hL, ← hl]; simp
    simp only [effs] at h
    split at h
    · rename_i he
      rcases List.mem_cons.1 h with rfl | h
      · exact ⟨q, hq, he⟩
      · exact effs_at L r (j + 1) (pre ++ [q]) (by simp [hL]) (by simp [hl]) k h
    · exact effs_at L r (j + 1) (pre ++ [q]) (by simp [hL]) (by simp [hl]) k h
theorem effs_mem (L : List Oper) : ∀ (r : List Oper) (j : Nat) (pre : List Oper), L = pre ++ r → pre.length = j → ∀ k o, j ≤ k → L[k]? = some o → isEff P o = true → k ∈ effs P r j
  | [], j, pre, hL, hl, k, o, hjk, hk, _ => by
    have : k < L.length := (List.getElem?_eq_some_iff.1 hk).1
    simp [hL] at this
    omega
  | q :: r, j, pre, hL, hl, k, o, hjk, hk, hc => by
    have hq : L[j]? = some q := by rw [hL, ← hl]; simp
    simp only [effs]
    by_cases hkj : k = j
    · subst hkj
      rw [hq] at hk
      cases hk
      rw [if_pos hc]
      simp
    · have := effs_mem L r (j + 1) (pre ++ [q]) (by simp [hL]) (by simp [hl]) k o (by omega) hk hc
      split
      · exact List.mem_cons_of_mem _ this
      · exact this
section
variable {call : FuncId → List SV → SH → Option (SV × SH)} {ops : Array Oper} {T : Nat → SF} {H : Nat → SH} {V : Nat → SV} {W : Nat → Bool} {nb : Nat}
def Canon (P : Program) (ops : Array Oper) (c : Nat) : Prop := c = 0 ∨ ∃ e q, ops[e]? = some q ∧ isEff P q = true ∧ c = e + 1
/-- Where the reading operations find the same. -/
def Steady3 (P : Program) (ops : Array Oper) (T : Nat → SF) (H : Nat → SH) (V : Nat → SV) (W : Nat → Bool) : Prop :=
  ∀ i o, ops[i]? = some o → cls P o = 1 → W i = true → ∀ c, Canon P ops c → (∀ e q, ops[e]? = some q → isEff P q = true → e < c → ¬ Anc ops.toList i e) → (∀ e q, ops[e]? = some q → isEff P q = true → c ≤ e → ¬ Anc ops.toList e i) →
    ∃ h2, step P (fun _ _ _ => none) (T i) (H c) o = some (V i, h2)
theorem reads3_le : ∀ p ∈ reads3 P ops, ∀ k ∈ p.2, k ≤ ops.size := by
  intro p hp k hk
  unfold reads3 at hp
  simp only at hp
  obtain ⟨i, hi, rfl⟩ := List.mem_map.1 hp
  obtain ⟨h1, _⟩ := List.mem_filter.1 hk
  rcases List.mem_cons.1 h1 with rfl | h1
  · exact Nat.zero_le _
  · obtain ⟨e, he, rfl⟩ := List.mem_map.1 h1
    obtain ⟨o, h2, _⟩ := effs_at (P := P) ops.toList ops.toList 0 [] rfl rfl e he
    have := (List.getElem?_eq_some_iff.1 h2).1
    simp at this
    omega
theorem steady3_of {l : List Tr} {h' : SH} (hl : ∀ (i : Nat) (o : Oper), ops[i]? = some o → l[i]? = some (⟨T i, H i, V i, W i⟩ : Tr)) (hlen : l.length = ops.size) (hh : H ops.size = h') (hs : stable P ops l h' (reads3 P ops) = true) : Steady3 P ops T H V W := by
  intro i o ho hc hw c hcan h1 h2
  have hm := masks_sound ops.toList ops.toList [] [] rfl rfl (fun j i hb => by simp at hb)
  have hi := idxs_mem (P := P) 1 ops.toList ops.toList 0 [] rfl rfl i o (Nat.zero_le _) (by simpa using ho) hc
  refine stable_sound hl hlen hh (reads3 P ops) reads3_le hs i _ (List.mem_map.2 ⟨i, hi, rfl⟩) o ho hw c (List.mem_filter.2 ⟨?_, ?_⟩)
  · rcases hcan with rfl | ⟨e, q, g1, g2, rfl⟩
    · simp
    · exact List.mem_cons_of_mem _ (List.mem_map.2 ⟨e, effs_mem (P := P) ops.toList ops.toList 0 [] rfl rfl e q (Nat.zero_le _) (by simpa using g1) g2, rfl⟩)
  · unfold needAt
    simp only [Bool.and_eq_true, List.all_eq_true]
    constructor
    · intro e he
      obtain ⟨q, g1, g2⟩ := effs_at (P := P) ops.toList ops.toList 0 [] rfl rfl e he
      by_cases hec : e < c
      · cases hb : Nat.testBit ((masks ops.toList []).getD e 0) i with
        | false => simp
        | true => exact absurd (hm e i hb) (h1 e q (by simpa using g1) g2 hec)
      · rw [nblt, decide_eq_false hec]; rfl
    · intro e he
      obtain ⟨q, g1, g2⟩ := effs_at (P := P) ops.toList ops.toList 0 [] rfl rfl e he
      by_cases hec : c ≤ e
      · cases hb : Nat.testBit ((masks ops.toList []).getD i 0) e with
        | false => simp
        | true => exact absurd (hm i e hb) (h2 e q (by simpa using g1) g2 hec)
      · rw [nble, decide_eq_false hec]; rfl
/-- Every order. -/
theorem any3_sound {base : Nat} {Q : Exit → Act → World → Prop} {φ0 : Ph} {h0 : SH} {w0 : World} (hc : CallOK P base call) (x : TextN P call ops nb T H V W) (hO : Ord3 P ops) (hst : Steady3 P ops T H V W) (hnb : h0.next ≤ nb) :
    ∀ (fuel : Nat) (listed : Array Bool) (a : Act) (w : World) (φ : Ph) (c : Nat), listed.size = ops.size → listed.toList.count false ≤ fuel → Closed ops (fun i => listed.getD i false) → c ≤ ops.size → Canon P ops c →
      (∀ e q, ops[e]? = some q → isEff P q = true → (listed.getD e false = true ↔ e < c)) → Inv base φ0 h0 w0 ops nb H W (fun i => listed.getD i false) c φ w →
      (∀ j o, ops[j]? = some o → isNew o = true → W j = true → listed.getD j false = false → φ (nb + j) = none) → TR φ (cur ops (T 0) V (fun i => listed.getD i false) ops.size) a →
      (∀ a' w' φ', TR φ' (T ops.size) a' → a'.defers = a.defers → HR base φ' (H ops.size) w' → Mv φ0 h0 w0 φ' (H ops.size) w' → Q .normal a' w') → wpAny P .any ops Q fuel listed a w := by
  have fin : ∀ (listed : Array Bool) (a : Act) (w : World) (φ : Ph) (c : Nat), listed.size = ops.size → c ≤ ops.size → (∀ e q, ops[e]? = some q → isEff P q = true → (listed.getD e false = true ↔ e < c)) → Inv base φ0 h0 w0 ops nb H W (fun i => listed.getD i false) c φ w → TR φ (cur ops (T 0) V (fun i => listed.getD i false) ops.size) a →
      (∀ a' w' φ', TR φ' (T ops.size) a' → a'.defers = a.defers → HR base φ' (H ops.size) w' → Mv φ0 h0 w0 φ' (H ops.size) w' → Q .normal a' w') → Region.ready .any ops listed = [] → Q .normal a w := by
    intro listed a w φ c hsz hk hE hv ht hQ hnil
    have hall : ∀ i, i < ops.size → listed.getD i false = true := by
      intro i
      induction i using Nat.strongRecOn with
      | _ i ih =>
        intro hi
        cases hl : listed.getD i false with
        | true => rfl
        | false =>
          have hmem : i ∈ Region.ready .any ops listed := ready_iff.2 ⟨hi, by
            rw [Array.getD_eq_getD_getElem?, Array.getElem?_eq_getElem (by omega)] at hl ⊢
            exact hl, fun o ho p hp => ih p (hO.back i o ho p hp) (by have := hO.back i o ho p hp; omega)⟩
          rw [hnil] at hmem
          cases hmem
    have hT := cur_allN x.next hall ops.size (Nat.le_refl _)
    rw [hT] at ht
    have hup := hv.up x (ops.size - c) (by omega) fun j o h1 h2 h3 => ⟨by
      cases he : isEff P o with
      | false => rfl
      | true => have := (hE j o h3 he).1 (hall j (by omega)); omega, fun _ => hall j (by omega)⟩
    rw [show c + (ops.size - c) = ops.size by omega] at hup
    exact hQ a w φ ht rfl hup.hr hup.mv
  intro fuel
  induction fuel with
  | zero =>
    intro listed a w φ c hsz hcnt hD hk hcan hE hv hfree ht hQ
    have hnil : Region.ready .any ops listed = [] := by
      cases hrd : Region.ready .any ops listed with
      | nil => rfl
      | cons i l =>
        have hi : i ∈ Region.ready .any ops listed := by rw [hrd]; simp
        obtain ⟨h1, h2, _⟩ := ready_iff.1 hi
        have hlt : i < listed.toList.length := by simp; omega
        have hf : listed.toList[i] = false := by
          rw [Array.getD_eq_getD_getElem?, Array.getElem?_eq_getElem (by omega)] at h2
          simpa using h2
        have : 0 < listed.toList.count false := List.count_pos_iff.2 (by rw [← hf]; exact List.getElem_mem hlt)
        omega
    exact ⟨hnil, fin listed a w φ c hsz hk hE hv ht hQ hnil⟩
  | succ fuel ih =>
    intro listed a w φ c hsz hcnt hD hk hcan hE hv hfree ht hQ
    refine ⟨fin listed a w φ c hsz hk hE hv ht hQ, fun i hi => ?_⟩
    obtain ⟨h1, h2, h3⟩ := ready_iff.1 hi
    have ho : ops[i]? = some ops[i] := Array.getElem?_eq_getElem h1
    generalize ops[i] = o at ho
    have hp := h3 o ho
    have hlt : i < listed.size := by omega
    have hli : listed[i] = false := by
      rw [Array.getD_eq_getD_getElem?, Array.getElem?_eq_getElem hlt] at h2
      simpa using h2
    have hDi : listed.getD i false = false := by
      rw [Array.getD_eq_getD_getElem?, Array.getElem?_eq_getElem hlt]
      simpa using hli
    -- what is listed then
    have hnew : ∀ j, (listed.setIfInBounds i true).getD j false = also (fun i => listed.getD i false) i j := by
      intro j
      by_cases hj : j = i
      · subst hj
        rw [also_eq, Array.getD_eq_getD_getElem?, Array.getElem?_setIfInBounds_self_of_lt hlt]
        rfl
      · rw [also_ne hj, Array.getD_eq_getD_getElem?, Array.getElem?_setIfInBounds_ne (fun e => hj e.symm), ← Array.getD_eq_getD_getElem?]
    have hnewf : (fun j => (listed.setIfInBounds i true).getD j false) = also (fun i => listed.getD i false) i := funext hnew
    have hcl : Closed ops (also (fun i => listed.getD i false) i) := fun j q hq hjq p hpq => by
      by_cases hj : j = i
      · subst hj
        rw [ho] at hq
        cases hq
        by_cases hpj : p = j
        · subst hpj; exact also_eq
        · rw [also_ne hpj]; exact hp p hpq
      · rw [also_ne hj] at hjq
        have := hD j q hq hjq p hpq
        by_cases hpi : p = i
        · subst hpi; exact also_eq
        · rw [also_ne hpi]; exact this
    have hcnt' : (listed.setIfInBounds i true).toList.count false ≤ fuel := by
      rw [Array.toList_setIfInBounds, List.count_set (by simpa using hlt)]
      have hf : listed.toList[i]'(by simpa using hlt) = false := by simpa using hli
      rw [hf]
      show listed.toList.count false - 1 + 0 ≤ fuel
      omega
    have hlook := fun hh => looks_congr (P := P) (call := call) (ops := ops) (h := hh) (t := cur ops (T 0) V (fun i => listed.getD i false) ops.size) (t' := T i) (o := o) (fun s hs => by
      have := reads_sameN x.next hO.clr hD ho hDi hp hs ops.size (Nat.le_refl _)
      rwa [show min ops.size i = i by omega] at this)
    have hwt : wantedS ops (cur ops (T 0) V (fun i => listed.getD i false) ops.size) o = some (W i) := by rw [(hlook (H c)).1]; exact x.wanted i o ho
    have next : ∀ (c' : Nat) (v' : Value) (w' : World) (φ' : Ph), c' ≤ ops.size → Canon P ops c' → (∀ e q, ops[e]? = some q → isEff P q = true → (also (fun i => listed.getD i false) i e = true ↔ e < c')) → VR φ' (V i) v' → Inv base φ0 h0 w0 ops nb H W (also (fun i => listed.getD i false) i) c' φ' w' →
        (∀ j o, ops[j]? = some o → isNew o = true → W j = true → also (fun i => listed.getD i false) i j = false → φ' (nb + j) = none) → Le φ φ' → wpAny P .any ops Q fuel (listed.setIfInBounds i true) (a.put o.dst v') w' := by
      intro c' v' w' φ' hk' hcan' hE' hv' hr' hfree' hm
      refine ih _ _ _ φ' c' (by simp [hsz]) hcnt' (by rw [hnewf]; exact hcl) hk' hcan' (fun e q hq hqc => by rw [hnew]; exact hE' e q hq hqc) (by rw [hnewf]; exact hr') (fun j q g1 g2 g3 g4 => hfree' j q g1 g2 g3 (by rw [← hnew]; exact g4)) ?_ (fun a2 w2 φ2 g1 g2 g3 g4 => hQ a2 w2 φ2 g1 (by rw [g2, put_defers]) g3 g4)
      rw [hnewf]
      refine ((ht.mono hm).put hv' o.dst).of_get (fun s => ?_) (by rw [cur_n, SF.n_put, cur_n])
      have := also_putN (V := V) hO.clr hD ho hDi (T 0) (ops.size - (i + 1)) (by omega) s
      rwa [show i + 1 + (ops.size - (i + 1)) = ops.size by omega] at this
    -- what stays so
    have hsame : isEff P o = false → ∀ e q, ops[e]? = some q → isEff P q = true → (also (fun i => listed.getD i false) i e = true ↔ e < c) := fun hn e q hq hqc => by
      rw [also_ne (fun e' => by subst e'; rw [ho] at hq; cases hq; rw [hn] at hqc; cases hqc)]
      exact hE e q hq hqc
    have hDsame : (isNew o = false ∨ W i = false) → ∀ j q, ops[j]? = some q → isNew q = true → W j = true → also (fun i => listed.getD i false) i j = listed.getD j false := fun hor j q g1 g2 g3 =>
      also_ne (fun e => by subst e; rw [ho] at g1; cases g1; rcases hor with h | h; · rw [h] at g2; cases g2
                           · rw [h] at g3; cases g3)
    have hfree2 : (isNew o = false ∨ W i = false) → ∀ (φ' : Ph) (h h' : SH) (w' : World), nb + ops.size ≤ h.next → Mv φ h w φ' h' w' → ∀ j q, ops[j]? = some q → isNew q = true → W j = true → also (fun i => listed.getD i false) i j = false → φ' (nb + j) = none := fun hor φ' h h' w' hnx m j q g1 g2 g3 g4 => by
      rw [hDsame hor j q g1 g2 g3] at g4
      cases hf : φ' (nb + j) with
      | none => rfl
      | some L =>
        have := (Array.getElem?_eq_some_iff.1 g1).1
        rcases m.nw _ _ hf with h | h
        · rw [hfree j q g1 g2 g3 g4] at h; cases h
        · omega
    -- up to an effect
    have upTo : isEff P o = true → cls P o = 2 → c ≤ i ∧ Inv base φ0 h0 w0 ops nb H W (fun i => listed.getD i false) i φ w ∧ ∀ e q, ops[e]? = some q → isEff P q = true → (also (fun i => listed.getD i false) i e = true ↔ e < i + 1) := fun hn hc2 => by
      have hci : c ≤ i := by
        rcases Nat.lt_or_ge i c with h | h
        · have := (hE i o ho hn).2 h
          rw [hDi] at this
          cases this
        · exact h
      have hlow : ∀ e q, e < i → ops[e]? = some q → cls P q = 2 → listed.getD e false = true := fun e q he hq hqc =>
        hD.anc (hO.anc e i q o he hq ho hqc hn) fun o' ho' p hp' => by rw [ho] at ho'; cases ho'; exact hp p hp'
      have hup := hv.up x (i - c) (by omega) fun j q g1 g2 g3 => ⟨by
        cases he : isEff P q with
        | false => rfl
        | true =>
          have hq2 : cls P q = 2 := by
            simp only [isEff, Bool.and_eq_true] at he
            exact Nat.eq_of_beq_eq_true he.1
          have := (hE j q g3 he).1 (hlow j q (by omega) g3 hq2)
          omega, fun hnq => hlow j q (by omega) g3 (new_two hnq)⟩
      rw [show c + (i - c) = i by omega] at hup
      refine ⟨hci, hup, fun e q hq hqc => ?_⟩
      have hq2 : cls P q = 2 := by
        simp only [isEff, Bool.and_eq_true] at hqc
        exact Nat.eq_of_beq_eq_true hqc.1
      by_cases he : e = i
      · subst he; simp [also_eq]
      · rw [also_ne he, hE e q hq hqc]
        constructor
        · intro h; omega
        · intro h
          exact (hE e q hq hqc).1 (hlow e q (by omega) hq hq2)
    unfold wpOp
    rw [ho]
    simp only
    rw [wanted_sound ht hwt]
    cases hw : W i with
    | true =>
      rw [if_pos rfl]
      left
      rcases eff_or (P := P) (o := o) with hn | ⟨hn, hne, hc2⟩ | ⟨hn, hne, hc2⟩
      · obtain ⟨q, hq, hstep⟩ := x.new ho hn hw
        have hst2 : step P call (cur ops (T 0) V (fun i => listed.getD i false) ops.size) ⟨(H i).m, nb + i⟩ o = some (V i, (⟨(H i).m, nb + i⟩ : SH).new q) := by
          rw [(hlook _).2]; exact hstep
        obtain ⟨q', e1, form⟩ := new_form hn hst2
        have hqq : q = q' := by
          have h1 := SH.get_new ⟨(H i).m, nb + i⟩ q (nb + i)
          rw [e1, SH.get_new] at h1
          simp only [if_true, Option.some.injEq, SO.row.injEq, and_true] at h1
          exact h1.symm
        subst hqq
        obtain ⟨r, er, cs, E, v', e2, e3, e4⟩ := form φ a w ht
        have hnone := hfree i o ho hn hw hDi
        have hhi := hv.hi
        obtain ⟨b1, b2, b3, b4⟩ := bind_row hv.hr hv.mv hnone (by omega) (by omega) q cs E e3
        have hnei : isEff P o = false := by simp [isEff, hn]
        have hadd : ∀ j, j ≠ i → (φ.add (nb + i) ⟨w.heap.size, 0, cs.size, q.length⟩) (nb + j) = φ (nb + j) := fun j hj => by simp only [Ph.add]; rw [if_neg (by omega)]
        have hati : (φ.add (nb + i) ⟨w.heap.size, 0, cs.size, q.length⟩) (nb + i) = some ⟨w.heap.size, 0, cs.size, q.length⟩ := by simp [Ph.add]
        have hlow : ∀ j p L, j ≠ i → ops[j]? = some p → isNew p = true → W j = true → also (fun i => listed.getD i false) i j = true → c ≤ j → (φ.add (nb + i) ⟨w.heap.size, 0, cs.size, q.length⟩) (nb + j) = some L → φ (nb + j) = some L ∧ L.m < w.heap.size := fun j p L hj g1 g2 g3 g4 g5 g6 => by
          rw [also_ne hj] at g4
          rw [hadd j hj] at g6
          obtain ⟨qj, k1, _⟩ := x.new g1 g2 g3
          obtain ⟨L2, p2⟩ := hv.pend j p qj g1 g2 g3 g4 g5 k1
          have := p2.at_
          rw [g6] at this
          cases this
          exact ⟨g6, p2.lt⟩
        unfold Oper.wp
        rw [er]
        simp only [Sem.run_bind, e2, Result.andThen_ok, Sem.run_pure]
        refine next c v' _ _ hk hcan (hsame hnei) (e4 _ hati) ⟨b1, b2, hhi, fun j p qj g1 g2 g3 g4 g5 g6 => ?_, fun j j' p p' L L' a1 a2 a3 a4 a5 c1 c2 c3 c4 c5 hne hL hL' => ?_⟩ (fun j p g1 g2 g3 g4 => ?_) (Ph.le_add hnone)
        · by_cases hj : j = i
          · subst hj
            have : q = qj := by
              have h1 := SH.get_putR (H j) (nb + j) q (nb + j)
              rw [← hq, g6, SH.get_putR] at h1
              simp only [if_true, Option.some.injEq, SO.row.injEq, and_true] at h1
              exact h1.symm
            subst this
            exact ⟨_, b3⟩
          · rw [also_ne hj] at g4
            obtain ⟨L, p⟩ := hv.pend j p qj g1 g2 g3 g4 g5 g6
            exact ⟨L, b4 _ _ _ p⟩
        · by_cases hj : j = i
          · subst hj
            rw [hati] at hL
            cases hL
            obtain ⟨_, hlt⟩ := hlow j' p' L' (fun e => hne e.symm) c1 c2 c3 c4 c5 hL'
            simp only; omega
          · obtain ⟨hL, hlt⟩ := hlow j p L hj a1 a2 a3 a4 a5 hL
            by_cases hj' : j' = i
            · subst hj'
              rw [hati] at hL'
              cases hL'
              simp only; omega
            · obtain ⟨hL', _⟩ := hlow j' p' L' hj' c1 c2 c3 c4 c5 hL'
              rw [also_ne hj] at a4
              rw [also_ne hj'] at c4
              exact hv.dist j j' p p' L L' a1 a2 a3 a4 a5 c1 c2 c3 c4 c5 hne hL hL'
        · by_cases hj : j = i
          · subst hj; rw [also_eq] at g4; cases g4
          · rw [also_ne hj] at g4
            rw [hadd j hj]
            exact hfree j p g1 g2 g3 g4
      · have hstep : step P call (cur ops (T 0) V (fun i => listed.getD i false) ops.size) (H c) o = some (V i, H c) := by
          have hdo := x.old ho hn hw
          rw [(hlook (H c)).2]
          rcases cls_le (P := P) o with h0 | h1 | h2
          · exact (cls0 h0 hdo).2 _
          · obtain ⟨h2, hh⟩ := hst i o ho h1 hw c hcan (fun e q g1 g2 g3 ha => by
                have := hD.anc ha fun o' ho' p hp' => hD e o' ho' ((hE e q g1 g2).2 g3) p hp'
                rw [hDi] at this
                cases this) (fun e q g1 g2 g3 ha => by
                have := (hE e q g1 g2).1 (hD.anc ha fun o' ho' p hp' => by rw [ho] at ho'; cases ho'; exact hp p hp')
                omega)
            rw [cls1_call h1 (call2 := call)] at hh
            have := cls1 h1 hh
            subst this
            exact hh
          · exact absurd h2 hc2
        exact step_sound hc ht hv.hr hstep fun v' w' φ' hv' hr' hm => next c v' w' φ' hk hcan (hsame hne) hv' (hv.mv' (Nat.le_refl _) hr' hm fun j q g1 g2 g3 => hDsame (.inl hn) j q g1 g2 g3) (hfree2 (.inl hn) φ' _ _ w' hv.hi hm) hm.le
      · obtain ⟨hci, hv2, hE2⟩ := upTo hne hc2
        have hstep : step P call (cur ops (T 0) V (fun i => listed.getD i false) ops.size) (H i) o = some (V i, H (i + 1)) := by
          rw [(hlook (H i)).2]; exact x.old ho hn hw
        exact step_sound hc ht hv2.hr hstep fun v' w' φ' hv' hr' hm => next (i + 1) v' w' φ' (by omega) (.inr ⟨i, o, ho, hne, rfl⟩) hE2 hv' (hv2.mv' (Nat.le_succ _) hr' hm fun j q g1 g2 g3 => hDsame (.inl hn) j q g1 g2 g3) (hfree2 (.inl hn) φ' _ _ w' hv2.hi hm) hm.le
    | false =>
      rw [if_neg (by simp)]
      obtain ⟨hvi, hH⟩ := x.not i o ho hw
      cases hne : isEff P o with
      | false => exact next c undef w φ hk hcan (hsame hne) (by rw [hvi]; exact VR.undef φ) (hv.mv' (Nat.le_refl _) hv.hr (Mv.refl _ _ _) fun j q g1 g2 g3 => hDsame (.inr hw) j q g1 g2 g3) (hfree2 (.inr hw) φ _ _ w hv.hi (Mv.refl φ (H c) w)) (Le.refl _)
      | true =>
        have hc2 : cls P o = 2 := by
          simp only [isEff, Bool.and_eq_true] at hne
          exact Nat.eq_of_beq_eq_true hne.1
        obtain ⟨hci, hv2, hE2⟩ := upTo hne hc2
        exact next (i + 1) undef w φ (by omega) (.inr ⟨i, o, ho, hne, rfl⟩) hE2 (by rw [hvi]; exact VR.undef φ) (hv2.mv' (Nat.le_succ _) (by rw [hH]; exact hv2.hr) (by rw [hH]; exact Mv.refl _ _ _) fun j q g1 g2 g3 => hDsame (.inr hw) j q g1 g2 g3) (hfree2 (.inr hw) φ _ _ w hv2.hi (Mv.refl φ (H i) w)) (Le.refl _)
end
end Go.Proofs.Ytgaaffanoegbhaa.Sim
