/- Regions that draw their order: the theorem. No program in sight. -/
import Derived.Test.YtgaaffanoegbhaaSimW
namespace Go.Proofs.Ytgaaffanoegbhaa.Sim
open Go Go.RowKit
set_option linter.unusedSimpArgs false
set_option linter.unusedVariables false
variable {P : Program}

theorem SF.get_put' (t : SF) (d : Option Nat) (s : Nat) (v : SV) : (t.put d v).get s = if d = some s ∧ s < t.n then some v else t.get s := by
  cases d with
  | none => simp [SF.put]
  | some d =>
    rw [SF.get_put]
    by_cases h : s = d
    · subst h; simp
    · rw [if_neg (fun e => h e.1), if_neg (fun e => h (by have := e.1; simp at this; exact this.symm))]
theorem hasB_iff (l : List Nat) (s : Nat) : hasB l (some s) = true ↔ s ∈ l := by
  simp only [hasB, List.any_eq_true]
  constructor
  · rintro ⟨x, hx, he⟩
    have : s = x := by simpa using he
    rwa [this]
  · intro h; exact ⟨s, h, by simp⟩
theorem cls_le (o : Oper) : cls P o = 0 ∨ cls P o = 1 ∨ cls P o = 2 := by
  unfold cls
  repeat' split
  all_goals simp
/-- The slots behind those operations that are listed. -/
def cur (ops : Array Oper) (t : SF) (V : Nat → SV) (D : Nat → Bool) : Nat → SF
  | 0 => t
  | i + 1 => if D i = true then (cur ops t V D i).put ((ops[i]?).bind (·.dst)) (V i) else cur ops t V D i
section
variable {call : FuncId → List SV → SH → Option (SV × SH)} {ops : Array Oper} {T : Nat → SF} {H : Nat → SH} {V : Nat → SV} {W : Nat → Bool}
theorem cur_n (t : SF) (D : Nat → Bool) (m : Nat) : (cur ops t V D m).n = t.n := by
  induction m with
  | zero => rfl
  | succ m ih => simp only [cur]; split <;> simp [ih]
theorem Text.n (x : Text P call ops T H V W) : ∀ m, m ≤ ops.size → (T m).n = (T 0).n
  | 0, _ => rfl
  | m + 1, h => by rw [x.next m ops[m] (Array.getElem?_eq_getElem (by omega)), SF.n_put, x.n m (by omega)]
theorem Text.keeps (x : Text P call ops T H V W) {i : Nat} {o : Oper} (ho : ops[i]? = some o) (hc : cls P o ≠ 2) : H (i + 1) = H i := by
  cases hw : W i with
  | false => exact (x.not i o ho hw).2
  | true =>
    have := x.does i o ho hw
    rcases cls_le (P := P) o with h | h | h
    · exact (cls0 h this).1
    · exact cls1 h this
    · exact absurd h hc
theorem Text.range (x : Text P call ops T H V W) : ∀ (d k : Nat), k + d ≤ ops.size → (∀ i o, k ≤ i → i < k + d → ops[i]? = some o → cls P o ≠ 2) → H (k + d) = H k
  | 0, k, _, _ => rfl
  | d + 1, k, hk, h => by
    have hi : k + d < ops.size := by omega
    rw [show k + (d + 1) = k + d + 1 by omega, x.keeps (Array.getElem?_eq_getElem hi) (h (k + d) _ (by omega) (by omega) (Array.getElem?_eq_getElem hi))]
    exact x.range d k (by omega) fun i o h1 h2 => h i o h1 (by omega)
/-- The facts about the order. -/
structure Ord (P : Program) (ops : Array Oper) : Prop where
  back : ∀ k o, ops[k]? = some o → ∀ p ∈ predsOf o, p < k
  anc : ∀ i j p o, i < j → ops[i]? = some p → ops[j]? = some o → (clash ops p o = true ∨ (cls P p = 2 ∧ cls P o = 2)) → Anc ops.toList i j
theorem ord_of (h : inOrder P ops (masks ops.toList []) ops.toList 0 [] = true) : Ord P ops := by
  have hs := inOrder_sound (P := P) ops (masks ops.toList []) ops.toList ops.toList 0 [] [] rfl rfl (fun i p hi _ => absurd hi (Nat.not_lt_zero _)) h
  have hm := masks_sound ops.toList ops.toList [] [] rfl rfl (fun j i hb => by simp at hb)
  refine ⟨fun k o hk => (hs k o (Nat.zero_le _) (by simpa using hk)).1, fun i j p o hij hp ho hc => hm j i ((hs j o (Nat.zero_le _) (by simpa using ho)).2 i p hij (by simpa using hp) hc)⟩
def Closed (ops : Array Oper) (D : Nat → Bool) : Prop := ∀ j o, ops[j]? = some o → D j = true → ∀ p ∈ predsOf o, D p = true
theorem Closed.anc {D : Nat → Bool} (hD : Closed ops D) {i j : Nat} (h : Anc ops.toList i j) (hj : ∀ o, ops[j]? = some o → ∀ p ∈ predsOf o, D p = true) : D i = true :=
  Anc.closed (D := fun i => D i = true) (fun j o ho => hD j o (by simpa using ho)) h fun o ho => hj o (by simpa using ho)
theorem reads_same (x : Text P call ops T H V W) (hO : Ord P ops) {D : Nat → Bool} (hD : Closed ops D) {j : Nat} {o : Oper} (ho : ops[j]? = some o) (hj : D j = false) (hp : ∀ p ∈ predsOf o, D p = true) {s : Nat} (hs : s ∈ readsOf ops o) :
    ∀ m, m ≤ ops.size → (cur ops (T 0) V D m).get s = (T (min m j)).get s
  | 0, _ => by simp [cur]
  | m + 1, hm => by
    have ih := reads_same x hO hD ho hj hp hs m (by omega)
    have hq : ops[m]? = some ops[m] := Array.getElem?_eq_getElem (by omega)
    simp only [cur, hq, Option.bind_some]
    by_cases hmj : m < j
    · rw [show min (m + 1) j = m + 1 by omega, x.next m _ hq]
      rw [show min m j = m by omega] at ih
      by_cases hd : ops[m].dst = some s
      · have hDm : D m = true := hD.anc (hO.anc m j _ o hmj hq ho (.inl (by unfold clash; rw [hd, (hasB_iff _ _).2 hs]; rfl))) (fun o' ho' p hp' => by rw [ho] at ho'; cases ho'; exact hp p hp')
        rw [if_pos hDm, SF.get_put', SF.get_put', cur_n, x.n m (by omega), ih]
      · have : ((T m).put ops[m].dst (V m)).get s = (T m).get s := by rw [SF.get_put', if_neg (fun e => hd e.1)]
        rw [this]
        split
        · rw [SF.get_put', if_neg (fun e => hd e.1), ih]
        · exact ih
    · rw [show min (m + 1) j = j by omega]
      rw [show min m j = j by omega] at ih
      split
      · rename_i hDm
        have hne : m ≠ j := fun e => by subst e; rw [hj] at hDm; cases hDm
        have hd : ops[m].dst ≠ some s := fun e => by
          have := hD.anc (hO.anc j m o _ (by omega) ho hq (.inl (by unfold clash; rw [e, (hasB_iff _ _).2 hs]; simp))) (fun o' ho' p hp' => hD m o' ho' hDm p hp')
          rw [hj] at this
          cases this
        rw [SF.get_put', if_neg (fun e => hd e.1), ih]
      · exact ih
def also (D : Nat → Bool) (j : Nat) : Nat → Bool := fun i => D i || Nat.beq i j
theorem also_ne {D : Nat → Bool} {i j : Nat} (h : i ≠ j) : also D j i = D i := by
  have : Nat.beq i j = false := by rw [Bool.eq_false_iff]; simpa using h
  simp [also, this]
theorem also_eq {D : Nat → Bool} {j : Nat} : also D j j = true := by simp [also]
theorem cur_low {D D' : Nat → Bool} (t : SF) : ∀ m, (∀ i, i < m → D' i = D i) → cur ops t V D' m = cur ops t V D m
  | 0, _ => rfl
  | m + 1, h => by simp only [cur, h m (Nat.lt_succ_self m), cur_low t m fun i hi => h i (by omega)]
theorem also_put (hO : Ord P ops) {D : Nat → Bool} (hD : Closed ops D) {j : Nat} {o : Oper} (ho : ops[j]? = some o) (hj : D j = false) (t : SF) : ∀ (d : Nat), j + 1 + d ≤ ops.size → ∀ s, (cur ops t V (also D j) (j + 1 + d)).get s = ((cur ops t V D (j + 1 + d)).put o.dst (V j)).get s
  | 0, _, s => by
    simp only [Nat.add_zero, cur, also_eq, if_true, hj, Bool.false_eq_true, if_false, ho, Option.bind_some]
    rw [cur_low t j fun i hi => also_ne (by omega)]
  | d + 1, hd, s => by
    have ih := also_put hO hD ho hj t d (by omega)
    have hm : ops[j + 1 + d]? = some ops[j + 1 + d] := Array.getElem?_eq_getElem (by omega)
    rw [show j + 1 + (d + 1) = (j + 1 + d) + 1 by omega]
    simp only [cur, also_ne (D := D) (show j + 1 + d ≠ j by omega), hm, Option.bind_some]
    split
    · rename_i hDm
      have hdd : ∀ s, ops[j + 1 + d].dst = some s → o.dst = some s → False := fun s h1 h2 => by
        have := hD.anc (hO.anc j (j + 1 + d) o _ (by omega) ho hm (.inl (by unfold clash; rw [h1, h2]; simp [hasB]))) (fun o' ho' p hp' => hD _ o' ho' hDm p hp')
        rw [hj] at this
        cases this
      rw [SF.get_put', SF.get_put', SF.get_put', SF.n_put, cur_n, cur_n, ih s, SF.get_put', cur_n]
      by_cases h1 : ops[j + 1 + d].dst = some s ∧ s < t.n
      · rw [if_pos h1, if_neg (fun e => hdd s h1.1 e.1), if_pos h1]
      · rw [if_neg h1]
        by_cases h2 : o.dst = some s ∧ s < t.n
        · simp only [if_pos h2]
        · simp only [if_neg h2, if_neg h1]
    · exact ih s
theorem cur_all (x : Text P call ops T H V W) {D : Nat → Bool} (hD : ∀ i, i < ops.size → D i = true) : ∀ m, m ≤ ops.size → cur ops (T 0) V D m = T m
  | 0, _ => rfl
  | m + 1, h => by
    have hm : ops[m]? = some ops[m] := Array.getElem?_eq_getElem (by omega)
    simp only [cur, hD m (by omega), if_true, hm, Option.bind_some]
    rw [cur_all x hD m (by omega), x.next m _ hm]
theorem TR.of_get {φ : Ph} {t t' : SF} {a : Act} (h : TR φ t a) (hg : ∀ s, t'.get s = t.get s) (hn : t'.n = t.n) : TR φ t' a := ⟨hn.trans h.n, fun i v hi => h.at_ i v (by rw [← hg]; exact hi)⟩
/-- Where the reading operations find the same. -/
def Steady (P : Program) (ops : Array Oper) (T : Nat → SF) (H : Nat → SH) (V : Nat → SV) (W : Nat → Bool) : Prop :=
  ∀ i ks, (i, ks) ∈ floats P ops → ∀ o, ops[i]? = some o → W i = true → ∀ k ∈ ks, ∃ h2, step P (fun _ _ _ => none) (T i) (H k) o = some (V i, h2)
theorem largest {p : Nat → Prop} (k : Nat) : ∀ d, (∃ e, k ≤ e ∧ e < k + d ∧ p e) → ∃ e, k ≤ e ∧ e < k + d ∧ p e ∧ ∀ i, e < i → i < k + d → ¬ p i
  | 0, ⟨e, h1, h2, _⟩ => by omega
  | d + 1, ⟨e, h1, h2, h3⟩ => by
    by_cases hp : p (k + d)
    · exact ⟨k + d, by omega, by omega, hp, fun i h4 h5 => by omega⟩
    · have hne : e ≠ k + d := fun x => hp (x ▸ h3)
      obtain ⟨e', g1, g2, g3, g4⟩ := largest k d ⟨e, h1, by omega, h3⟩
      refine ⟨e', g1, by omega, g3, fun i h4 h5 hpi => ?_⟩
      by_cases hi : i = k + d
      · subst hi; exact hp hpi
      · exact g4 i h4 (by omega) hpi
theorem smallest {p : Nat → Prop} : ∀ (d k : Nat), (∃ e, k ≤ e ∧ e < k + d ∧ p e) → ∃ e, k ≤ e ∧ e < k + d ∧ p e ∧ ∀ i, k ≤ i → i < e → ¬ p i
  | 0, k, ⟨e, h1, h2, _⟩ => by omega
  | d + 1, k, ⟨e, h1, h2, h3⟩ => by
    by_cases hp : p k
    · exact ⟨k, Nat.le_refl _, by omega, hp, fun i h4 h5 => by omega⟩
    · have hne : e ≠ k := fun x => hp (x ▸ h3)
      obtain ⟨e', g1, g2, g3, g4⟩ := smallest d (k + 1) ⟨e, by omega, by omega, h3⟩
      refine ⟨e', by omega, by omega, g3, fun i h4 h5 hpi => ?_⟩
      by_cases hi : i = k
      · subst hi; exact hp hpi
      · exact g4 i (by omega) h5 hpi
theorem float_mem {i e k : Nat} {o q : Oper} (ho : ops[i]? = some o) (hc : cls P o = 1) (hq : ops[e]? = some q) (hqc : cls P q = 2)
    (h : (i < e ∧ (((masks ops.toList []).getD e 0).testBit i) = false ∧ k = e + 1) ∨ (¬ i < e ∧ (((masks ops.toList []).getD i 0).testBit e) = false ∧ k = e)) : ∃ ks, (i, ks) ∈ floats P ops ∧ k ∈ ks := by
  have he := idxs_mem (P := P) 2 ops.toList ops.toList 0 [] rfl rfl e q (Nat.zero_le _) (by simpa using hq) hqc
  have hi := idxs_mem (P := P) 1 ops.toList ops.toList 0 [] rfl rfl i o (Nat.zero_le _) (by simpa using ho) hc
  have hk : k ∈ floatsOf (masks ops.toList []) (idxs P 2 ops.toList 0) i := by
    unfold floatsOf
    refine List.mem_filterMap.2 ⟨e, he, ?_⟩
    rcases h with ⟨h1, h2, rfl⟩ | ⟨h1, h2, rfl⟩
    · rw [if_pos (by simpa [Nat.blt_eq] using h1), h2]; rfl
    · rw [if_neg (by simpa [Nat.blt_eq] using h1), h2]; rfl
  refine ⟨_, ?_, hk⟩
  unfold floats
  simp only
  refine List.mem_filter.2 ⟨List.mem_map.2 ⟨i, hi, rfl⟩, ?_⟩
  cases hf : floatsOf (masks ops.toList []) (idxs P 2 ops.toList 0) i with
  | nil => rw [hf] at hk; cases hk
  | cons _ _ => rfl
/-- What a listed operation does at its own time, whatever that is. -/
theorem at_time (x : Text P call ops T H V W) (hO : Ord P ops) (hst : Steady P ops T H V W) {D : Nat → Bool} (hD : Closed ops D) {i k : Nat} {o : Oper} (ho : ops[i]? = some o) (hi : D i = false) (hp : ∀ p ∈ predsOf o, D p = true) (hw : W i = true) (hk : k ≤ ops.size)
    (hE : ∀ e q, ops[e]? = some q → cls P q = 2 → (D e = true ↔ e < k)) :
    ∃ k', k' ≤ ops.size ∧ step P call (cur ops (T 0) V D ops.size) (H k) o = some (V i, H k') ∧ ∀ e q, ops[e]? = some q → cls P q = 2 → (also D i e = true ↔ e < k') := by
  have hin : i < ops.size := (Array.getElem?_eq_some_iff.1 ho).1
  have hlook := fun hh => looks_congr (P := P) (call := call) (ops := ops) (h := hh) (t := cur ops (T 0) V D ops.size) (t' := T i) (o := o)
  have hsame : ∀ s ∈ readsOf ops o, (cur ops (T 0) V D ops.size).get s = (T i).get s := fun s hs => by
    have := reads_same x hO hD ho hi hp hs ops.size (Nat.le_refl _)
    rwa [show min ops.size i = i by omega] at this
  have hdo := x.does i o ho hw
  have hns : ∀ c, cls P o = c → c ≠ 2 → ∀ e q, ops[e]? = some q → cls P q = 2 → (also D i e = true ↔ e < k) := fun c hc hc2 e q hq hqc => by
    rw [also_ne (fun e' => by subst e'; rw [ho] at hq; cases hq; exact hc2 (hc.symm.trans hqc))]
    exact hE e q hq hqc
  rcases cls_le (P := P) o with h0 | h1 | h2
  · refine ⟨k, hk, ?_, hns 0 h0 (by omega)⟩
    rw [(hlook (H k) hsame).2]
    exact (cls0 h0 hdo).2 _
  · refine ⟨k, hk, ?_, hns 1 h1 (by omega)⟩
    rw [(hlook (H k) hsame).2]
    have hHi : H (i + 1) = H i := cls1 h1 hdo
    have done : ∀ h2, step P (fun _ _ _ => none) (T i) (H k) o = some (V i, h2) → step P call (T i) (H k) o = some (V i, H k) := fun h2 hh => by
      rw [cls1_call h1 (call2 := call)] at hh
      have := cls1 h1 hh
      subst this
      exact hh
    by_cases hki : i < k
    · by_cases hex : ∃ e, i ≤ e ∧ e < i + (k - i) ∧ (∃ q, ops[e]? = some q ∧ cls P q = 2)
      · obtain ⟨e, g1, g2, ⟨q, g3, g4⟩, g5⟩ := largest i (k - i) hex
        have hei : e ≠ i := fun e' => by subst e'; rw [ho] at g3; cases g3; rw [h1] at g4; cases g4
        have hHk : H k = H (e + 1) := by
          have := x.range (k - (e + 1)) (e + 1) (by omega) fun j q' h3 h4 h5 h6 => g5 j (by omega) (by omega) ⟨q', h5, h6⟩
          rwa [show e + 1 + (k - (e + 1)) = k by omega] at this
        have hDe : D e = true := (hE e q g3 g4).2 (by omega)
        have hbit : (((masks ops.toList []).getD e 0).testBit i) = false := by
          cases hb : (((masks ops.toList []).getD e 0).testBit i) with
          | false => rfl
          | true =>
            have ha := masks_sound ops.toList ops.toList [] [] rfl rfl (fun j i hb => by simp at hb) e i hb
            have := hD.anc ha fun o' ho' p hp' => hD e o' ho' hDe p hp'
            rw [hi] at this
            cases this
        obtain ⟨ks, m1, m2⟩ := float_mem (P := P) ho h1 g3 g4 (k := e + 1) (.inl ⟨by omega, hbit, rfl⟩)
        obtain ⟨h2, hh⟩ := hst i ks m1 o ho hw (e + 1) m2
        rw [← hHk] at hh
        exact done h2 hh
      · have hHk : H k = H i := by
          have := x.range (k - i) i (by omega) fun j q' h3 h4 h5 h6 => hex ⟨j, h3, h4, q', h5, h6⟩
          rwa [show i + (k - i) = k by omega] at this
        rw [hHk, ← hHi, hHi, hdo, hHi]
    · by_cases hex : ∃ e, k ≤ e ∧ e < k + (i - k) ∧ (∃ q, ops[e]? = some q ∧ cls P q = 2)
      · obtain ⟨e, g1, g2, ⟨q, g3, g4⟩, g5⟩ := smallest (i - k) k hex
        have hHk : H k = H e := by
          have := x.range (e - k) k (by omega) fun j q' h3 h4 h5 h6 => g5 j h3 (by omega) ⟨q', h5, h6⟩
          rw [show k + (e - k) = e by omega] at this
          exact this.symm
        have hDe : D e ≠ true := fun h => by have := (hE e q g3 g4).1 h; omega
        have hbit : (((masks ops.toList []).getD i 0).testBit e) = false := by
          cases hb : (((masks ops.toList []).getD i 0).testBit e) with
          | false => rfl
          | true =>
            have ha := masks_sound ops.toList ops.toList [] [] rfl rfl (fun j i hb => by simp at hb) i e hb
            exact absurd (hD.anc ha fun o' ho' p hp' => by rw [ho] at ho'; cases ho'; exact hp p hp') hDe
        obtain ⟨ks, m1, m2⟩ := float_mem (P := P) ho h1 g3 g4 (k := e) (.inr ⟨by omega, hbit, rfl⟩)
        obtain ⟨h2, hh⟩ := hst i ks m1 o ho hw e m2
        rw [← hHk] at hh
        exact done h2 hh
      · have hHk : H i = H k := by
          have := x.range (i - k) k (by omega) fun j q' h3 h4 h5 h6 => hex ⟨j, h3, h4, q', h5, h6⟩
          rwa [show k + (i - k) = i by omega] at this
        rw [← hHk, hdo, hHi]
  · have hki : k ≤ i := by
      rcases Nat.lt_or_ge i k with h | h
      · have := (hE i o ho h2).2 h
        rw [hi] at this
        cases this
      · exact h
    have hlow : ∀ e q, e < i → ops[e]? = some q → cls P q = 2 → D e = true := fun e q he hq hqc =>
      hD.anc (hO.anc e i q o he hq ho (.inr ⟨hqc, h2⟩)) fun o' ho' p hp' => by rw [ho] at ho'; cases ho'; exact hp p hp'
    have hHk : H i = H k := by
      have := x.range (i - k) k (by omega) fun j q' h3 h4 h5 h6 => by
        have h7 := (hE j q' h5 h6).1 (hlow j q' (by omega) h5 h6)
        omega
      rwa [show k + (i - k) = i by omega] at this
    refine ⟨i + 1, by omega, ?_, fun e q hq hqc => ?_⟩
    · rw [(hlook (H k) hsame).2, ← hHk]
      exact hdo
    · by_cases he : e = i
      · subst he; simp [also_eq]
      · rw [also_ne he, hE e q hq hqc]
        constructor
        · intro h; omega
        · intro h
          exact (hE e q hq hqc).1 (hlow e q (by omega) hq hqc)
theorem ready_iff {listed : Array Bool} {i : Nat} : i ∈ Region.ready .any ops listed ↔ i < ops.size ∧ listed.getD i true = false ∧ ∀ o, ops[i]? = some o → ∀ p ∈ predsOf o, listed.getD p false = true := by
  unfold Region.ready
  simp only [List.mem_filter, List.mem_range, Bool.and_eq_true, Bool.not_eq_true']
  constructor
  · rintro ⟨h1, h2, h3⟩
    refine ⟨h1, h2, fun o ho p hp => ?_⟩
    rw [ho] at h3
    simp only [Option.map_some, Option.getD_some] at h3
    obtain ⟨e, he, hpe⟩ := List.mem_filterMap.1 hp
    split at hpe
    · rename_i hb
      simp only [Option.some.injEq] at hpe
      subst hpe
      have := Array.all_eq_true'.1 h3 e (by simpa using he)
      simpa [hb] using this
    · cases hpe
  · rintro ⟨h1, h2, h3⟩
    refine ⟨h1, h2, ?_⟩
    have ho : ops[i]? = some ops[i] := Array.getElem?_eq_getElem h1
    rw [ho]
    simp only [Option.map_some, Option.getD_some]
    refine Array.all_eq_true'.2 fun e he => ?_
    cases hb : Region.binds .any e with
    | false => rfl
    | true =>
      have := h3 _ ho e.on (List.mem_filterMap.2 ⟨e, by simpa using he, by rw [if_pos hb]⟩)
      simp [this]
/-- Every order. -/
theorem any_sound {base : Nat} {Q : Exit → Act → World → Prop} (hc : CallOK P base call) (x : Text P call ops T H V W) (hO : Ord P ops) (hst : Steady P ops T H V W) :
    ∀ (fuel : Nat) (listed : Array Bool) (a : Act) (w : World) (φ : Ph) (k : Nat), listed.size = ops.size → listed.toList.count false ≤ fuel → Closed ops (fun i => listed.getD i false) → k ≤ ops.size →
      (∀ e q, ops[e]? = some q → cls P q = 2 → (listed.getD e false = true ↔ e < k)) → HR base φ (H k) w → TR φ (cur ops (T 0) V (fun i => listed.getD i false) ops.size) a →
      (∀ a' w' φ', TR φ' (T ops.size) a' → a'.defers = a.defers → HR base φ' (H ops.size) w' → Mv φ (H k) w φ' (H ops.size) w' → Q .normal a' w') → wpAny P .any ops Q fuel listed a w := by
  have fin : ∀ (listed : Array Bool) (a : Act) (w : World) (φ : Ph) (k : Nat), listed.size = ops.size → k ≤ ops.size → (∀ e q, ops[e]? = some q → cls P q = 2 → (listed.getD e false = true ↔ e < k)) → HR base φ (H k) w → TR φ (cur ops (T 0) V (fun i => listed.getD i false) ops.size) a →
      (∀ a' w' φ', TR φ' (T ops.size) a' → a'.defers = a.defers → HR base φ' (H ops.size) w' → Mv φ (H k) w φ' (H ops.size) w' → Q .normal a' w') → Region.ready .any ops listed = [] → Q .normal a w := by
    intro listed a w φ k hsz hk hE hr ht hQ hnil
    have hall : ∀ i, i < ops.size → listed.getD i false = true := by
      intro i
      induction i using Nat.strongRecOn with
      | _ i ih =>
        intro hi
        cases hl : listed.getD i false with
        | true => rfl
        | false =>
          have hmem : i ∈ Region.ready .any ops listed := ready_iff.2 ⟨hi, by
            rw [Array.getD_eq_getD_getElem?, Array.getElem?_eq_getElem (by omega)] at hl ⊢
            exact hl, fun o ho p hp => ih p (hO.back i o ho p hp) (by have := hO.back i o ho p hp; omega)⟩
          rw [hnil] at hmem
          cases hmem
    have hT := cur_all x hall ops.size (Nat.le_refl _)
    rw [hT] at ht
    have hH : H ops.size = H k := by
      have := x.range (ops.size - k) k (by omega) fun i o h1 h2 h3 h4 => by
        have := (hE i o h3 h4).1 (hall i (Array.getElem?_eq_some_iff.1 h3).1)
        omega
      rwa [show k + (ops.size - k) = ops.size by omega] at this
    exact hQ a w φ ht rfl (by rw [hH]; exact hr) (by rw [hH]; exact Mv.refl _ _ _)
  intro fuel
  induction fuel with
  | zero =>
    intro listed a w φ k hsz hcnt hD hk hE hr ht hQ
    have hnil : Region.ready .any ops listed = [] := by
      cases hrd : Region.ready .any ops listed with
      | nil => rfl
      | cons i l =>
        have hi : i ∈ Region.ready .any ops listed := by rw [hrd]; simp
        obtain ⟨h1, h2, _⟩ := ready_iff.1 hi
        have hlt : i < listed.toList.length := by simp; omega
        have hf : listed.toList[i] = false := by
          rw [Array.getD_eq_getD_getElem?, Array.getElem?_eq_getElem (by omega)] at h2
          simpa using h2
        have : 0 < listed.toList.count false := List.count_pos_iff.2 (by rw [← hf]; exact List.getElem_mem hlt)
        omega
    exact ⟨hnil, fin listed a w φ k hsz hk hE hr ht hQ hnil⟩
  | succ fuel ih =>
    intro listed a w φ k hsz hcnt hD hk hE hr ht hQ
    refine ⟨fin listed a w φ k hsz hk hE hr ht hQ, fun i hi => ?_⟩
    obtain ⟨h1, h2, h3⟩ := ready_iff.1 hi
    have ho : ops[i]? = some ops[i] := Array.getElem?_eq_getElem h1
    generalize ops[i] = o at ho
    have hp := h3 o ho
    have hlt : i < listed.size := by omega
    have hli : listed[i] = false := by
      rw [Array.getD_eq_getD_getElem?, Array.getElem?_eq_getElem hlt] at h2
      simpa using h2
    have hDi : listed.getD i false = false := by
      rw [Array.getD_eq_getD_getElem?, Array.getElem?_eq_getElem hlt]
      simpa using hli
    -- what is listed then
    have hnew : ∀ j, (listed.setIfInBounds i true).getD j false = also (fun i => listed.getD i false) i j := by
      intro j
      by_cases hj : j = i
      · subst hj
        rw [also_eq, Array.getD_eq_getD_getElem?, Array.getElem?_setIfInBounds_self_of_lt hlt]
        rfl
      · rw [also_ne hj, Array.getD_eq_getD_getElem?, Array.getElem?_setIfInBounds_ne (fun e => hj e.symm), ← Array.getD_eq_getD_getElem?]
    have hnewf : (fun j => (listed.setIfInBounds i true).getD j false) = also (fun i => listed.getD i false) i := funext hnew
    have hcl : Closed ops (also (fun i => listed.getD i false) i) := fun j q hq hjq p hpq => by
      by_cases hj : j = i
      · subst hj
        rw [ho] at hq
        cases hq
        by_cases hpj : p = j
        · subst hpj; exact also_eq
        · rw [also_ne hpj]; exact hp p hpq
      · rw [also_ne hj] at hjq
        have := hD j q hq hjq p hpq
        by_cases hpi : p = i
        · subst hpi; exact also_eq
        · rw [also_ne hpi]; exact this
    have hcnt' : (listed.setIfInBounds i true).toList.count false ≤ fuel := by
      rw [Array.toList_setIfInBounds, List.count_set (by simpa using hlt)]
      have hf : listed.toList[i]'(by simpa using hlt) = false := by simpa using hli
      rw [hf]
      show listed.toList.count false - 1 + 0 ≤ fuel
      omega
    have hlook := fun hh => looks_congr (P := P) (call := call) (ops := ops) (h := hh) (t := cur ops (T 0) V (fun i => listed.getD i false) ops.size) (t' := T i) (o := o) (fun s hs => by
      have := reads_same x hO hD ho hDi hp hs ops.size (Nat.le_refl _)
      rwa [show min ops.size i = i by omega] at this)
    have hwt : wantedS ops (cur ops (T 0) V (fun i => listed.getD i false) ops.size) o = some (W i) := by rw [(hlook (H k)).1]; exact x.wanted i o ho
    have next : ∀ (k' : Nat) (v' : Value) (w' : World) (φ' : Ph), k' ≤ ops.size → (∀ e q, ops[e]? = some q → cls P q = 2 → (also (fun i => listed.getD i false) i e = true ↔ e < k')) → VR φ' (V i) v' → HR base φ' (H k') w' → Mv φ (H k) w φ' (H k') w' →
        wpAny P .any ops Q fuel (listed.setIfInBounds i true) (a.put o.dst v') w' := by
      intro k' v' w' φ' hk' hE' hv hr' hm
      refine ih _ _ _ φ' k' (by simp [hsz]) hcnt' (by rw [hnewf]; exact hcl) hk' (fun e q hq hqc => by rw [hnew]; exact hE' e q hq hqc) hr' ?_ (fun a2 w2 φ2 g1 g2 g3 g4 => hQ a2 w2 φ2 g1 (by rw [g2, put_defers]) g3 (hm.trans g4))
      rw [hnewf]
      refine ((ht.mono hm.le).put hv o.dst).of_get (fun s => ?_) (by rw [cur_n, SF.n_put, cur_n])
      have := also_put (V := V) hO hD ho hDi (T 0) (ops.size - (i + 1)) (by omega) s
      rwa [show i + 1 + (ops.size - (i + 1)) = ops.size by omega] at this
    unfold wpOp
    rw [ho]
    simp only
    rw [wanted_sound ht hwt]
    cases hw : W i with
    | true =>
      rw [if_pos rfl]
      left
      obtain ⟨k', g1, g2, g3⟩ := at_time x hO hst hD ho hDi hp hw hk hE
      exact step_sound hc ht hr g2 fun v' w' φ' hv hr' hm => next k' v' w' φ' g1 g3 hv hr' hm
    | false =>
      rw [if_neg (by simp)]
      obtain ⟨hv, hH⟩ := x.not i o ho hw
      by_cases hc2 : cls P o = 2
      · have hki : k ≤ i := by
          rcases Nat.lt_or_ge i k with h | h
          · have := (hE i o ho hc2).2 h
            rw [hDi] at this
            cases this
          · exact h
        have hlow : ∀ e q, e < i → ops[e]? = some q → cls P q = 2 → listed.getD e false = true := fun e q he hq hqc =>
          hD.anc (hO.anc e i q o he hq ho (.inr ⟨hqc, hc2⟩)) fun o' ho' p hp' => by rw [ho] at ho'; cases ho'; exact hp p hp'
        have hHk : H i = H k := by
          have := x.range (i - k) k (by omega) fun j q' h3 h4 h5 h6 => by
            have h7 := (hE j q' h5 h6).1 (hlow j q' (by omega) h5 h6)
            omega
          rwa [show k + (i - k) = i by omega] at this
        refine next (i + 1) undef w φ (by omega) (fun e q hq hqc => ?_) (by rw [hv]; exact VR.undef φ) (by rw [hH, hHk]; exact hr) (by rw [hH, hHk]; exact Mv.refl _ _ _)
        by_cases he : e = i
        · subst he; simp [also_eq]
        · rw [also_ne he, hE e q hq hqc]
          constructor
          · intro h; omega
          · intro h
            exact (hE e q hq hqc).1 (hlow e q (by omega) hq hqc)
      · refine next k undef w φ hk (fun e q hq hqc => ?_) (by rw [hv]; exact VR.undef φ) hr (Mv.refl _ _ _)
        rw [also_ne (fun e' => by subst e'; rw [ho] at hq; cases hq; exact hc2 hqc)]
        exact hE e q hq hqc
end
theorem eqC_eq {x y : SC} (h : eqC x y = true) : x = y := by
  unfold eqC at h
  split at h
  · rw [eq_of_beq h]
  · simp only [Bool.and_eq_true, decide_eq_true_eq] at h; rw [h.1, h.2]
  · rw [eqL_iff] at h; rw [of_decide_eq_true h]
  · rfl
  · simp only [Bool.and_eq_true] at h; rw [Nat.eq_of_beq_eq_true h.1, Nat.eq_of_beq_eq_true h.2]
  · rfl
  · rfl
  · simp only [Bool.and_eq_true, decide_eq_true_eq] at h
    obtain ⟨⟨⟨⟨h1, h2⟩, h3⟩, h4⟩, h5⟩ := h
    rw [Nat.eq_of_beq_eq_true h1, Nat.eq_of_beq_eq_true h2, Nat.eq_of_beq_eq_true h3, Nat.eq_of_beq_eq_true h4, h5]
  · simp only [decide_eq_true_eq] at h; rw [h]
  · cases h
theorem eqCs_eq : ∀ {x y : List SC}, eqCs x y = true → x = y
  | [], [], _ => rfl
  | [], _ :: _, h => by simp [eqCs] at h
  | _ :: _, [], h => by simp [eqCs] at h
  | x :: l, y :: r, h => by
    simp only [eqCs, Bool.and_eq_true] at h
    rw [eqC_eq h.1, eqCs_eq h.2]
theorem eqv_eq {x y : SV} (h : eqv x y = true) : x = y := by
  unfold eqv at h
  split at h
  · rw [eqC_eq h]
  · rw [eqCs_eq h]
  · cases h
theorem stable_sound {ops : Array Oper} {T : Nat → SF} {H : Nat → SH} {V : Nat → SV} {W : Nat → Bool} {l : List Tr} {h' : SH} (hl : ∀ (i : Nat) (o : Oper), ops[i]? = some o → l[i]? = some (⟨T i, H i, V i, W i⟩ : Tr)) (hlen : l.length = ops.size) (hh : H ops.size = h') :
    ∀ fl : List (Nat × List Nat), (∀ p ∈ fl, ∀ k ∈ p.2, k ≤ ops.size) → stable P ops l h' fl = true → ∀ i ks, (i, ks) ∈ fl → ∀ o, ops[i]? = some o → W i = true → ∀ k ∈ ks, ∃ h2, step P (fun _ _ _ => none) (T i) (H k) o = some (V i, h2)
  | [], _, _, i, ks, hm, _, _, _, _, _ => by cases hm
  | (i0, ks0) :: r, hle, hs, i, ks, hm, o, ho, hw, k, hk => by
    simp only [stable, Bool.and_eq_true] at hs
    rcases List.mem_cons.1 hm with e | hm
    · obtain ⟨rfl, rfl⟩ := Prod.mk.inj e
      rw [hl i o ho, ho] at hs
      have h1 := hs.1
      simp only [hw, Bool.not_true, Bool.false_or, List.all_eq_true] at h1
      have h2 := h1 k hk
      have hat : heapAt l h' k = H k := by
        unfold heapAt
        have hkn := hle (i, ks) (by simp) k hk
        by_cases hkl : k < ops.size
        · rw [hl k _ (Array.getElem?_eq_getElem hkl)]
        · rw [List.getElem?_eq_none (by omega)]
          have : k = ops.size := by omega
          rw [this, hh]
      rw [hat] at h2
      split at h2
      · rename_i v h3 hst
        exact ⟨h3, by rw [hst, eqv_eq h2]⟩
      · cases h2
    · exact stable_sound hl hlen hh r (fun p hp => hle p (List.mem_cons_of_mem _ hp)) hs.2 i ks hm o ho hw k hk
theorem idxs_lt (c : Nat) : ∀ (r : List Oper) (j : Nat), ∀ k ∈ idxs P c r j, k < j + r.length
  | [], j, k, h => by cases h
  | q :: r, j, k, h => by
    simp only [idxs] at h
    split at h
    · rcases List.mem_cons.1 h with rfl | h
      · simp
      · have := idxs_lt c r (j + 1) k h; simp; omega
    · have := idxs_lt c r (j + 1) k h; simp; omega
theorem floats_le {ops : Array Oper} : ∀ p ∈ floats P ops, ∀ k ∈ p.2, k ≤ ops.size := by
  intro p hp k hk
  unfold floats at hp
  obtain ⟨h1, _⟩ := List.mem_filter.1 hp
  obtain ⟨i, hi, rfl⟩ := List.mem_map.1 h1
  unfold floatsOf at hk
  obtain ⟨e, he, hek⟩ := List.mem_filterMap.1 hk
  have := idxs_lt (P := P) 2 ops.toList 0 e he
  simp only [Nat.zero_add, Array.length_toList] at this
  split at hek
  · split at hek
    · cases hek
    · simp only [Option.some.injEq] at hek; omega
  · split at hek
    · cases hek
    · simp only [Option.some.injEq] at hek; omega
end Go.Proofs.Ytgaaffanoegbhaa.Sim
