/- Texts of this claim, several in one: Open. -/
import Derived.Test.YtjlfojgacnphmaaMgKeepVotes4
import Derived.ProofKit
import Derived.SizedLaws
import Derived.Deep.Slices
namespace Go.Proofs.Ytjlfojgacnphmaa
open Go.RowKit Go.Deep

section
variable {H : Type} {enc : TypeId × Value → H} {P : Program} {w : World} {base : Nat} {held : Bool}
theorem cells_each {a : Addr} {n : Nat} {cs : List Value} (h : w.cells? base a n = some cs) : cs.length = n ∧ ∀ k, k < n → w.cell? (a.add k) = cs[k]? := by
  unfold World.cells? at h
  split at h
  · have key : ∀ (n : Nat) (f : Nat → Option Value) (cs : List Value), (List.range n).mapM f = some cs → cs.length = n ∧ ∀ k, k < n → f k = cs[k]? := by
      intro n
      induction n with
      | zero => intro f cs h; simp at h; subst h; simp
      | succ n ih =>
        intro f cs h
        rw [List.range_succ, List.mapM_append] at h
        simp only [List.mapM_cons, List.mapM_nil] at h
        cases h1 : (List.range n).mapM f with
        | none => rw [h1] at h; simp at h
        | some l =>
          rw [h1] at h
          cases h2 : f n with
          | none => rw [h2] at h; simp at h
          | some v =>
            rw [h2] at h
            simp at h
            subst h
            obtain ⟨i1, i2⟩ := ih f l h1
            refine ⟨by simp [i1], fun k hk => ?_⟩
            by_cases hkn : k < n
            · rw [i2 k hkn, List.getElem?_append_left (by omega)]
            · obtain rfl : k = n := by omega
              rw [h2, List.getElem?_append_right (by omega)]
              simp [i1]
    exact key n _ cs h
  · cases h

theorem flatten_get {css : List (List Value)} {s : Nat} (hs : 0 < s) (hl : ∀ c ∈ css, c.length = s) (j : Nat) : css.flatten[j]? = (css[j / s]?).bind fun c => c[j % s]? := by
  induction css generalizing j with
  | nil => simp
  | cons c css ih =>
    have hc : c.length = s := hl c (by simp)
    rw [List.flatten_cons]
    by_cases hj : j < s
    · rw [List.getElem?_append_left (by omega), Nat.div_eq_of_lt hj, Nat.mod_eq_of_lt hj]
      simp
    · rw [List.getElem?_append_right (by omega), hc, ih (fun x hx => hl x (by simp [hx]))]
      have h1 : j / s = (j - s) / s + 1 := by
        rw [← Nat.add_div_right (j - s) hs]; congr 1; omega
      have h2 : j % s = (j - s) % s := by
        conv => lhs; rw [show j = (j - s) + s by omega, Nat.add_mod_right]
      rw [h1, h2]
      simp
theorem flatten_len {css : List (List Value)} {s : Nat} (hl : ∀ c ∈ css, c.length = s) : css.flatten.length = css.length * s := by
  induction css with
  | nil => simp
  | cons c css ih =>
    rw [List.flatten_cons, List.length_append, ih (fun x hx => hl x (by simp [hx])), hl c (by simp), List.length_cons, Nat.add_mul]
    omega

theorem weightsAll_mem {e : TypeId} {l : List (DataW H)} {d : DataW H} (hd : d ∈ l) : ∀ n ∈ d.weights P e, n ∈ DataW.weightsAll P e l := by
  induction l with
  | nil => cases hd
  | cons x l ih =>
    intro n hn
    simp only [DataW.weightsAll, List.mem_append]
    rcases List.mem_cons.1 hd with rfl | hd
    · exact .inl hn
    · exact .inr (ih hd n hn)

theorem openL_slice {t e : TypeId} {s fuel : Nat} {v : Value} {x : DataW H × List MemPlace} (ht : P.underlying t = some (.slice e)) (hc : P.cellsOf e = s) (hs : 0 < s) (hb : 0 < P.bytesOf e)
    (h : DataW.trod enc P w base (fun _ => true) held fuel t [v] = some x) (hw : ∀ n ∈ x.1.weights P t, n ≤ reachBytes) :
    ∃ css : List (List Value), Rd w (fun _ => True) v css.length s css.flatten ∧ css.length * P.bytesOf e ≤ 140737488351232 ∧ ∀ c ∈ css, c.length = s ∧ ∃ m y, DataW.trod enc P w base (fun _ => true) held m e c = some y ∧ ∀ n ∈ y.1.weights P e, n ≤ reachBytes := by
  rcases open_slice ht h with ⟨hv, rfl⟩ | ⟨a, len, cap, m, n, D, Pl, hv, _, hlc, hcm, hmc, rfl, hel⟩
  · simp at hv
    subst hv
    exact ⟨[], Rd.nil _ _ _ hs, by simp, by simp⟩
  · simp at hv
    subst hv
    have hmc : m = cap := by simpa using hmc
    subst hmc
    obtain ⟨f, hf⟩ := choose_lt hel
    have hsz : (len + (m - len)) * P.bytesOf e ≤ reachBytes := by
      apply hw
      simp [DataW.weights, ht]
    have hcap : m * P.bytesOf e ≤ 140737488351232 := by
      rw [show len + (m - len) = m by omega] at hsz
      simpa [reachBytes] using hsz
    have hlb : len * P.bytesOf e ≤ 140737488351232 := Nat.le_trans (Nat.mul_le_mul_right _ hlc) hcap
    have hlen : len ≤ 140737488355328 := by
      have := Nat.le_mul_of_pos_right len hb
      omega
    have hall : ∀ c ∈ (List.range len).map f, c.length = s := by
      intro c hcm
      obtain ⟨i, hi, rfl⟩ := List.mem_map.1 hcm
      have := (hf i (by have := List.mem_range.1 hi; omega)).1
      rw [hc] at this
      exact (cells_each this).1
    refine ⟨(List.range len).map f, ?_, by simpa using hlb, ?_⟩
    · rw [show ((List.range len).map f).length = len by simp]
      refine ⟨hs, by rw [flatten_len hall]; simp, hlen, .inr ⟨a, m, rfl, hlc, hcm, fun _ => trivial, fun j u hu => ?_⟩⟩
      rw [flatten_get hs hall] at hu
      have hj : j / s < len := by
        rcases Nat.lt_or_ge (j / s) len with h | h
        · exact h
        · rw [List.getElem?_eq_none (by simpa using h)] at hu; cases hu
      simp [hj] at hu
      have h1 := (hf (j / s) (by omega)).1
      rw [hc] at h1
      have h2 := (cells_each h1).2 (j % s) (Nat.mod_lt _ hs)
      rw [add_add, hu] at h2
      rwa [show j / s * s + j % s = j from by rw [Nat.mul_comm]; exact Nat.div_add_mod j s] at h2
    · intro c hcm
      refine ⟨hall c hcm, ?_⟩
      obtain ⟨i, hi, rfl⟩ := List.mem_map.1 hcm
      have hi := List.mem_range.1 hi
      refine ⟨n, _, (hf i (by omega)).2, fun k hk => hw k ?_⟩
      simp only [DataW.weights, ht, List.mem_cons, List.mem_append]
      exact .inr (.inl (weightsAll_mem (List.mem_map.2 ⟨i, List.mem_range.2 hi, rfl⟩) k hk))

def ints (k : IntKind) (xs : List Int) : List Value := xs.map (Value.int k)
@[simp] theorem ints_length (k : IntKind) (xs : List Int) : (ints k xs).length = xs.length := by simp [ints]
def WfAll (k : IntKind) (xs : List Int) : Prop := ∀ x ∈ xs, (Lit.int k x).wf = true
def RdI (k : IntKind) (w : World) (N : Nat → Prop) (v : Value) (xs : List Int) : Prop := Rd w N v xs.length 1 (ints k xs) ∧ WfAll k xs

theorem weightsEach_mem {ts : List TypeId} {ds : List (DataW H)} {j : Nat} {t : TypeId} {d : DataW H} (ht : ts[j]? = some t) (hd : ds[j]? = some d) : ∀ n ∈ d.weights P t, n ∈ DataW.weightsEach P ts ds := DataW.weights_mem_each ht hd
theorem openL_struct {t : TypeId} {fs : Array Field} {fuel : Nat} {cs : List Value} {x : DataW H × List MemPlace} (ht : P.underlying t = some (.struct fs))
    (h : DataW.trod enc P w base (fun _ => true) held fuel t cs = some x) (hw : ∀ n ∈ x.1.weights P t, n ≤ reachBytes) :
    cs.length = P.cellsOf t ∧ ∀ (i : Nat) (f : Field), fs[i]? = some f → ∃ m y, DataW.trod enc P w base (fun _ => true) held m f.type ((cs.drop f.offset).take (P.cellsOf f.type)) = some y ∧ ∀ n ∈ y.1.weights P f.type, n ≤ reachBytes := by
  obtain ⟨xs, n, _, rfl, hl, hlen, hf⟩ := DataW.trod_struct ht h
  refine ⟨hl, fun i f hi => ?_⟩
  have h1 := hf i f hi
  have hi' : i < fs.size := (Array.getElem?_eq_some_iff.1 hi).1
  have hx : xs[i]? = some xs[i] := List.getElem?_eq_getElem (by omega)
  rw [hx] at h1
  refine ⟨n, _, h1, fun k hk => hw k ?_⟩
  simp only [DataW.weights, ht]
  refine weightsEach_mem (j := i) (t := f.type) ?_ ?_ k hk
  · rw [List.getElem?_map, Array.getElem?_toList, hi]; rfl
  · rw [List.getElem?_map, hx]; rfl
end
end Go.Proofs.Ytjlfojgacnphmaa
