/- Texts of this claim, several in one: Rl21. -/
import Derived.Test.YteegdhfekemhmaaMgLogAll10
/- delphilaw20.LogAll: what keeps two logs the same. -/
namespace Go.Proofs.Yteegdhfekemhmaa
open Go.RowKit Sim Go Sym
set_option maxRecDepth 100000
set_option linter.unusedVariables false
set_option linter.unusedSimpArgs false
variable {base : Nat} {B : Nat} {L R : PLog}
structure Ent.raw (e : Ent) : Prop where
  ix : I64 e.ix
  tm : I64 e.tm
  kd : I64 e.kd
  d : ∀ b ∈ e.d, b < 256
structure Snp.raw (s : Snp) : Prop where
  ix : I64 s.ix
  tm : I64 s.tm
  cf : s.cf.length ≤ 100000000000000 ∧ ∀ i ∈ s.cf, I64 i
  d : ∀ b ∈ s.d, b < 256
theorem Ent.raw.cut {e : Ent} (h : e.raw) : e.cut.ok := ⟨h.ix, h.tm, h.kd, by simp [Ent.cut]; omega, fun b hb => h.d b (List.mem_of_mem_take hb)⟩
theorem cutEs_ok {l : List Ent} {n : Nat} (h : ∀ e ∈ l, e.raw) : ∀ e ∈ cutEs l n, e.ok := by
  intro e he
  obtain ⟨x, hx, rfl⟩ := List.mem_map.1 he
  exact (h x (List.mem_of_mem_take hx)).cut
theorem cutEs_len (l : List Ent) (n : Nat) : (cutEs l n).length ≤ n := by simp [cutEs]; omega
theorem mayI_len {l : List Int} (h : mayI l = true) : l.length ≤ 7 := by
  have := incB_len l 0 (by decide) (by simpa using (Bool.and_eq_true _ _ ▸ h : _ ∧ _).1)
  omega
theorem Snp.raw.cut {s : Snp} (h : s.raw) : s.cut.ok := by
  unfold Snp.cut
  split
  · rename_i hm
    have := mayI_len hm
    exact ⟨h.ix, h.tm, ⟨by simp only; omega, h.cf.2⟩, by simp; omega, fun b hb => h.d b (List.mem_of_mem_take hb)⟩
  · exact ⟨h.ix, h.tm, ⟨by simp, by simp⟩, by simp; omega, fun b hb => h.d b (List.mem_of_mem_take hb)⟩
theorem Snp.cut_ix (s : Snp) : s.cut.ix = s.ix := by unfold Snp.cut; split <;> rfl
theorem Snp.cut_tm (s : Snp) : s.cut.tm = s.tm := by unfold Snp.cut; split <;> rfl
theorem new_eq (s : Snp) (l : List Ent) (h : s.ix ≤ 1125899906842624) (hl : l.length ≤ 20) : newOk s l = rnewOk s l := by
  unfold newOk rnewOk
  by_cases h0 : s.ix < 0
  · simp [h0]
  · rw [may_good l s.ix s.tm (by omega) (by omega)]
theorem Rel.new (s : Snp) (hs : s.ok) (l : List Ent) (h : s.ix ≤ 1125899906842624) (hl : l.length ≤ 20) (hok : ∀ e ∈ l, e.ok) (hy : rnewOk s l = true) : Rel 20 ⟨s.own, l.map Ent.own, true, none⟩ ⟨s, l, true, none⟩ := by
  have h0 : 0 ≤ s.ix := by
    rcases Int.lt_or_le s.ix 0 with h | h
    · simp [rnewOk, h] at hy
    · exact h
  have hg : goodF s.ix s.tm l = true := by
    simp [rnewOk] at hy
    exact hy.2.2
  refine ⟨⟨⟨hs.ix, hs.tm, hs.cf, hs.d⟩, h0, by simp [PLog.last, Snp.own]; omega, by simp; omega, fun e he => ?_⟩, ⟨hs, h0, by simp [PLog.last]; omega, by simp; omega, hok⟩, rfl, rfl, rfl, rfl, keys_own l, fun j hj => ?_, by simpa using hl, by simp [PLog.last, Snp.own]; omega⟩
  · obtain ⟨x, hx, rfl⟩ := List.mem_map.1 he
    have := hok x hx
    exact ⟨this.ix, this.tm, this.kd, this.d⟩
  · have hj' : j < l.length := by simpa using hj
    have := good_seq (by omega) (by omega) hg j hj'
    simp [List.getD, hj'] at this ⊢
    exact this
theorem Rel.mono {B' : Nat} (h : Rel B L R) (hB : B ≤ B') : Rel B' L R := ⟨h.hL, h.hR, h.ix, h.tm, h.cf, h.d, h.E, h.seq, Nat.le_trans h.len hB, by have := h.top; omega⟩
theorem Rel.putE (h : Rel B L R) (hB : B ≤ 1000) (e : Ent) (l : List Ent) (hl : (e :: l).length ≤ 8) : L.putOk (e :: l) = R.rputOk (e :: l) := by
  have htop := h.top
  have hix := h.hL.ix
  rw [PLog.putOk, PLog.rputOk, h.lastE, ← h.ix, h.term]
  by_cases h1 : L.S.ix < e.ix
  · by_cases h2 : e.ix ≤ L.last + 1
    · rw [may_good _ _ _ (by omega) (by omega)]
    · simp [h2]
  · simp [h1]
theorem getD_app {l r : List Ent} {j : Nat} : (l ++ r).getD j default = if j < l.length then l.getD j default else r.getD (j - l.length) default := by
  simp only [List.getD]
  split
  · rename_i h; rw [List.getElem?_append_left h]
  · rename_i h; rw [List.getElem?_append_right (by omega)]
theorem getD_take {l : List Ent} {j k : Nat} (h : j < k) : (l.take k).getD j default = l.getD j default := by
  simp only [List.getD, List.getElem?_take, if_pos h]
theorem getD_own (l : List Ent) (j : Nat) : ((l.map Ent.own).getD j default).ix = (l.getD j default).ix := by
  simp only [List.getD, List.getElem?_map]
  cases l[j]? <;> rfl
theorem Rel.put (h : Rel B L R) (hB : B ≤ 1000) (e : Ent) (l : List Ent) (hl : (e :: l).length ≤ 8) (hok : ∀ x ∈ e :: l, x.ok) (hy : R.rputOk (e :: l) = true) : Rel (B + 8) (L.put (e :: l)) (R.rput (e :: l)) := by
  have htop := h.top
  have hix := h.hL.ix
  have hlen := h.len
  rw [PLog.rputOk, h.lastE, ← h.ix] at hy
  simp only [Bool.and_eq_true, decide_eq_true_eq] at hy
  obtain ⟨y1, y2, y3⟩ := hy
  obtain ⟨k, hk⟩ : ∃ k : Nat, (k : Int) = e.ix - L.S.ix - 1 := ⟨(e.ix - L.S.ix - 1).toNat, by omega⟩
  have hk' : (e.ix - L.S.ix - 1).toNat = k := by omega
  have hkl : k ≤ L.E.length := by unfold PLog.last at y2; omega
  have eL : L.put (e :: l) = ⟨L.S, L.E.take k ++ (e :: l).map Ent.own, true, none⟩ := by rw [PLog.put, List.headD_cons, hk']
  have eR : R.rput (e :: l) = ⟨R.S, R.E.take k ++ (e :: l), true, none⟩ := by rw [PLog.rput, List.headD_cons, ← h.ix, hk']
  have lL : (L.E.take k ++ (e :: l).map Ent.own).length = k + (e :: l).length := by rw [List.length_append, List.length_take, List.length_map, Nat.min_eq_left hkl]
  have lR : (R.E.take k ++ (e :: l)).length = k + (e :: l).length := by rw [List.length_append, List.length_take, h.lenE, Nat.min_eq_left hkl]
  unfold PLog.last at htop
  rw [eL, eR]
  refine ⟨⟨h.hL.S, hix, ?_, ?_, ?_⟩, ⟨h.hR.S, by rw [← h.ix]; exact hix, ?_, ?_, ?_⟩, h.ix, h.tm, h.cf, h.d, ?_, ?_, ?_, ?_⟩
  · simp only [PLog.last, lL]; omega
  · rw [lL]; omega
  · intro x hx
    simp only [List.mem_append] at hx
    rcases hx with hx | hx
    · exact h.hL.E x (List.mem_of_mem_take hx)
    · obtain ⟨y, hy, rfl⟩ := List.mem_map.1 hx
      have := hok y hy
      exact ⟨this.ix, this.tm, this.kd, this.d⟩
  · simp only [PLog.last, lR, ← h.ix]; omega
  · rw [lR]; omega
  · intro x hx
    simp only [List.mem_append] at hx
    rcases hx with hx | hx
    · exact h.hR.E x (List.mem_of_mem_take hx)
    · exact hok x hx
  · rw [List.map_append, List.map_append, keys_own, List.map_take, List.map_take, h.E]
  · intro j hj
    rw [lL] at hj
    have ht : (L.E.take k).length = k := by rw [List.length_take, Nat.min_eq_left hkl]
    rw [getD_app, ht]
    split
    · rename_i hjk
      rw [getD_take hjk]
      exact h.seq j (by omega)
    · rename_i hjk
      rw [getD_own, good_seq (by omega) (by omega) y3 (j - k) (by omega)]
      show _ = L.S.ix + (j : Int) + 1
      omega
  · rw [lL]; omega
  · simp only [PLog.last, lL]; push_cast; omega
theorem term_I64 (hL : L.ok) (i : Int) : I64 (L.term i).1 := by
  rw [PLog.term]
  split
  · exact hL.S.tm
  · split
    · exact ⟨by decide, by decide⟩
    · obtain ⟨j, -, -, h, -⟩ := PLog.at_get (L := L) (i := i) (by omega) (by omega)
      exact (hL.at_ h).tm
theorem incB_rng : ∀ (l : List Int) (p : Int), 0 ≤ p → incB p l = true → ∀ i ∈ l, I64 i
  | [], _, _, _, i, hi => by cases hi
  | b :: l, p, hp, h, i, hi => by
    simp only [incB, Bool.and_eq_true, decide_eq_true_eq] at h
    rcases List.mem_cons.1 hi with rfl | hi
    · exact ⟨by omega, by omega⟩
    · exact incB_rng l b (by omega) h.2 i hi
theorem selI_I64 (l : List Int) : ∀ i ∈ selI l, I64 i := by
  unfold selI mayI
  split
  · rename_i h; exact incB_rng l 0 (by omega) (by simpa using (Bool.and_eq_true _ _ ▸ h : _ ∧ _).1)
  · simp
theorem confAt_I64 (hL : L.ok) (i : Int) : ∀ x ∈ (L.confAt i).2, I64 x := by
  rw [PLog.confAt]
  generalize (min i L.last - L.S.ix).toNat = n
  induction n with
  | zero => exact hL.S.cf.2
  | succ n ih =>
    rw [PLog.confN]
    split
    · rw [natI_mem]; exact selI_I64 _
    · exact ih
theorem Rel.compact (h : Rel B L R) (hB : B ≤ 1000) (i : Int) (dz : Bool) (d : List Nat) (hd : okB d) (h1 : L.S.ix < i) (h2 : i ≤ L.last) : Rel B (L.compact i dz d) (R.rcompact i d) := by
  have htop := h.top
  have hix := h.hL.ix
  have hlen := h.len
  obtain ⟨k, hk⟩ : ∃ k : Nat, (k : Int) = i - L.S.ix := ⟨(i - L.S.ix).toNat, by omega⟩
  have hk' : (i - L.S.ix).toNat = k := by omega
  have hkl : k ≤ L.E.length := by unfold PLog.last at h2; omega
  have eL : L.compact i dz d = ⟨⟨i, (L.term i).1, (L.confAt i).1, (L.confAt i).2, none, dz, d, none⟩, L.E.drop k, L.z && (entP L.E).isEmpty, none⟩ := by rw [PLog.compact, hk']
  have eR : R.rcompact i d = ⟨⟨i, (R.term i).1, (R.rconf i).1, (R.rconf i).2.1, (R.rconf i).2.2, true, d, none⟩, R.E.drop k, true, none⟩ := by rw [PLog.rcompact, ← h.ix, hk']
  have hcf : (L.confAt i).2.length ≤ 100000000000 ∧ ∀ x ∈ (L.confAt i).2, I64 x := ⟨confAt_len h.hL i, confAt_I64 h.hL i⟩
  unfold PLog.last at htop h2
  rw [eL, eR]
  refine ⟨⟨⟨⟨by simp only; omega, by simp only; omega⟩, term_I64 h.hL i, hcf, hd⟩, by simp only; omega, ?_, ?_, ?_⟩, ⟨⟨⟨by simp only; omega, by simp only; omega⟩, term_I64 h.hR i, h.conf i ▸ hcf, hd⟩, by simp only; omega, ?_, ?_, ?_⟩, rfl, by simp only [h.term], h.conf i, rfl, ?_, ?_, ?_, ?_⟩
  · simp only [PLog.last, List.length_drop]; omega
  · simp only [List.length_drop]; omega
  · exact fun x hx => h.hL.E x (List.mem_of_mem_drop hx)
  · simp only [PLog.last, List.length_drop, h.lenE]; omega
  · simp only [List.length_drop, h.lenE]; omega
  · exact fun x hx => h.hR.E x (List.mem_of_mem_drop hx)
  · simp only [List.map_drop, h.E]
  · intro j hj
    simp only [List.length_drop] at hj
    have := h.seq (k + j) (by omega)
    simp only [List.getD, List.getElem?_drop] at this ⊢
    rw [this]; omega
  · simp only [List.length_drop]; omega
  · simp only [PLog.last, List.length_drop]; omega
theorem Rel.reset (h : Rel B L R) (hB : B ≤ 1000) (s : Snp) (hs : s.ok) (h0 : 0 ≤ s.ix) (h1 : s.ix ≤ 1125899906842624) : Rel B (L.reset s) (R.rreset s) := by
  have htop := h.top
  have hix := h.hL.ix
  have hlen := h.len
  have hso : s.own.ok := ⟨hs.ix, hs.tm, hs.cf, hs.d⟩
  rw [PLog.reset, PLog.rreset, h.keeps]
  split
  · rename_i hk
    have hk1 : (L.term s.ix).2 = true ∧ L.S.ix < s.ix := by
      rw [PLog.keeps, ← h.term, ← h.ix] at hk
      simp only [Bool.and_eq_true, decide_eq_true_eq] at hk
      exact ⟨hk.1, hk.2.1⟩
    have hl := PLog.term_true hk1.1 hk1.2
    have h2 := hk1.2
    obtain ⟨k, hk2⟩ : ∃ k : Nat, (k : Int) = s.ix - L.S.ix := ⟨(s.ix - L.S.ix).toNat, by omega⟩
    have hk' : (s.ix - L.S.ix).toNat = k := by omega
    unfold PLog.last at htop hl
    rw [← h.ix, hk']
    refine ⟨⟨hso, h0, ?_, ?_, ?_⟩, ⟨hs, h0, ?_, ?_, ?_⟩, rfl, rfl, rfl, rfl, ?_, ?_, ?_, ?_⟩
    · simp only [PLog.last, List.length_drop, Snp.own]; omega
    · simp only [List.length_drop]; omega
    · exact fun x hx => h.hL.E x (List.mem_of_mem_drop hx)
    · simp only [PLog.last, List.length_drop, h.lenE]; omega
    · simp only [List.length_drop, h.lenE]; omega
    · exact fun x hx => h.hR.E x (List.mem_of_mem_drop hx)
    · simp only [List.map_drop, h.E]
    · intro j hj
      simp only [List.length_drop] at hj
      have := h.seq (k + j) (by omega)
      simp only [List.getD, List.getElem?_drop, Snp.own] at this ⊢
      rw [this]; omega
    · simp only [List.length_drop]; omega
    · simp only [PLog.last, List.length_drop, Snp.own]; omega
  · refine ⟨⟨hso, h0, ?_, by simp, by simp⟩, ⟨hs, h0, ?_, by simp, by simp⟩, rfl, rfl, rfl, rfl, rfl, fun j hj => by simp at hj, by simp, ?_⟩
    · simp [PLog.last, Snp.own]; omega
    · simp [PLog.last]; omega
    · simp [PLog.last, Snp.own]; omega
end Go.Proofs.Yteegdhfekemhmaa
