/- A string's bytes as numbers; '[]byte(s)' and 'string(b)'. -/
import Derived.Test.YteegdhfekemhmaaBinW
import Derived.Laws.IdiomStrings
import Derived.Lib.SlicesS
namespace Go.Proofs.Yteegdhfekemhmaa
open Go.RowKit
set_option linter.unusedSimpArgs false
set_option linter.unusedVariables false

/-- A string's bytes. -/
def sNums (s : ByteArray) : List Int := s.data.toList.map fun b => (b.toNat : Int)
theorem sNums_len (s : ByteArray) : (sNums s).length = s.size := by unfold sNums; rw [List.length_map]; rfl
theorem sNums_bytes (s : ByteArray) : Bytes (sNums s) := by
  intro x hx
  obtain ⟨b, _, rfl⟩ := List.mem_map.1 hx
  have := b.toNat_lt
  omega
theorem strOfNums_sNums (s : ByteArray) : strOfNums (sNums s) = s := by
  have h : ∀ l : List UInt8, (l.map fun b => (b.toNat : Int)).map (fun n => UInt8.ofNat n.toNat) = l := by
    intro l
    induction l with
    | nil => rfl
    | cons b l ih => simp [ih]
  unfold strOfNums sNums
  rw [h]
theorem sNums_strOfNums {xs : List Int} (h : Bytes xs) : sNums (strOfNums xs) = xs :=
  strOfNums_inj (sNums_bytes _) h (strOfNums_sNums _)
theorem strOfNums_len (xs : List Int) : (strOfNums xs).size = xs.length := strOfNums_size xs
/-- '[]byte(s)'. -/
theorem str_bytes {P : Program} (w : World) (s : ByteArray) (hl : s.size ≤ 140737488355328) {src dst e : TypeId} (hs : P.underlying src = some .string) (hd : P.underlying dst = some (.slice e)) (he : P.underlying e = some (.int .u8)) :
    ∃ A cap W, (convert src dst (.string s)).run P w = .ok (.slice A s.size cap) W ∧ RdB W (fun k => w.heap.size ≤ k) (.slice A s.size cap) (sNums s) ∧ Below w.heap.size w W := by
  refine ⟨_, _, _, run_bytes_of_string w src dst e s hs hd he, ?_, ?_⟩
  · have hg := grownCap_ge w s.size 0 e
    have hm := grownCap_le_maxLen w s.size 0 e (by simp [maxLen]; omega)
    simp only [maxLen] at hm
    generalize grownCap w s.size 0 e = c at hg hm
    rw [← sNums_len s]
    refine RdB.mk (by rw [sNums_len]; exact hl) (by rw [sNums_len]; exact hg) hm (fun _ => Nat.le_refl _) (fun j hj => ?_) (sNums_bytes s)
    rw [sNums_len] at hj
    have h1 := bytesRow_at s c j hj
    have hj' : j < s.data.toList.length := hj
    have h2 : (sNums s).getD j 0 = (s.data[j].toNat : Int) := by
      unfold sNums
      rw [List.getD_eq_getElem?_getD, List.getElem?_map, List.getElem?_eq_getElem hj']
      rfl
    rw [Nat.zero_add, h2]
    show World.cell? _ ⟨w.drew.heap.size, j, none⟩ = _
    rw [cell_of_row _ _ _ _ _ _ (heap_alloc_new w.drew _)]
    exact h1
  · exact (below_drewN' (Below.refl w.heap.size w) 1).alloc (Nat.le_refl _) _
/-- A row of bytes that was just made. -/
theorem RdB.lit (w : World) (e : TypeId) (xs : List Int) (hm : xs.length ≤ 140737488355328) (hB : Bytes xs) (N : Nat → Prop) (hN : N w.heap.size) (fr : Nat × Nat) : RdB (w.alloc (.cells (u8s xs).toArray e fr)) N (.slice (some ⟨w.heap.size, 0, none⟩) xs.length xs.length) xs := by
  refine RdB.mk hm (Nat.le_refl _) (by omega) (fun _ => hN) (fun j hj => ?_) hB
  rw [cell_of_row _ _ _ _ _ _ (heap_alloc_new w _)]
  simpa using u8s_get xs j hj
theorem bytes_set {xs : List Int} (hB : Bytes xs) {k : Nat} {d : Int} (h0 : 0 ≤ d) (h1 : d ≤ 255) : Bytes (xs.set k d) := by
  intro y hy
  rcases List.mem_or_eq_of_mem_set hy with h | h
  · exact hB y h
  · omega
theorem u8s_set (xs : List Int) (k : Nat) (d : Int) : (u8s xs).set k (.int .u8 d) = u8s (xs.set k d) := by simp [u8s, List.map_set]

theorem conv_drewN {P : Program} {w : World} {N : Nat → Prop} {v : Value} {xs : List Int} (h : RdL w N v xs) (n : Nat) {s : ByteArray} (hs0 : strOfNums xs = s) {src dst e : TypeId} (hs : P.underlying src = some (.slice e)) (he : P.underlying e = some (.int .u8)) (hd : P.underlying dst = some .string) :
    (convert src dst v).run P (w.drewN n) = .ok (.string s) (w.drewN n) := by
  rw [← hs0]
  exact RdL.conv (show RdL (w.drewN n) N v xs from h) hs he hd
theorem owns_base {w : World} {b b' : Nat} {e : TypeId} {s n : Nat} {v : Value} {xs : List Value} (h : w.ownsRow b e s v n xs) (hb : b' ≤ b) : w.ownsRow b' e s v n xs := by
  obtain ⟨h1, h2 | ⟨g, cap, cur, k1, k2, k3⟩⟩ := h
  · exact ⟨h1, .inl h2⟩
  · exact ⟨h1, .inr ⟨g, cap, cur, k1, Nat.le_trans hb k2, k3⟩⟩
/-- New since an elder world. -/
theorem NewB.since {e : TypeId} {w w1 w' : World} {v : Value} {xs : List Int} (h : NewB e w1 w' v xs) (hb : Below w.heap.size w w1) : NewB e w w' v xs :=
  ⟨owns_base h.1 hb.size, h.2.1, h.2.2.1, below_then' hb hb.size h.2.2.2⟩
end Go.Proofs.Yteegdhfekemhmaa
