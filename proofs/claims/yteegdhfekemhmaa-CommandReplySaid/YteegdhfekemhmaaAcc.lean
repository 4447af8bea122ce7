/- Bytes that are appended, piece by piece, to a slice of one's own (colour 1), as one word. -/
import Derived.Test.YteegdhfekemhmaaReg
import Derived.Test.YteegdhfekemhmaaStr
namespace Go.Proofs.Yteegdhfekemhmaa
open Go.RowKit
set_option linter.unusedSimpArgs false
set_option linter.unusedVariables false

/-- An own slice of bytes that is being written. -/
structure Acc (e : TypeId) (w0 w : World) (col : Col) (v : Value) (xs : List Int) : Prop where
  own : Ow w col 1 e 1 v xs.length (u8s xs)
  bytes : Bytes xs
  ext : Ext [1] w0 (fun _ => 0) w col
theorem Acc.nil (e : TypeId) {w0 w : World} {col : Col} (h : Ext [1] w0 (fun _ => 0) w col) : Acc e w0 w col (.slice none 0 0) [] := ⟨Ow.nil _ _ _ _ _, Bytes.nil, h⟩
theorem Acc.go {e : TypeId} {w0 w w' : World} {col col' : Col} {v : Value} {xs : List Int} (h : Acc e w0 w col v xs) (hx : Ext [] w col w' col') : Acc e w0 w' col' v xs :=
  ⟨h.own.ext hx (by simp), h.bytes, h.ext.trans (hx.mono (by simp))⟩
theorem Acc.rd {e : TypeId} {w0 w : World} {col : Col} {v : Value} {xs : List Int} (h : Acc e w0 w col v xs) (hm : xs.length ≤ 140737488355328) : RdB w (In col 1) v xs := h.own.rdB hm h.bytes
theorem Acc.slice {e : TypeId} {w0 w : World} {col : Col} {v : Value} {xs : List Int} (h : Acc e w0 w col v xs) : ∃ A cap, v = .slice A xs.length cap := own_slice' h.own.1

section
variable {P : Program} {ops : Array Oper} {Q : Exit → Act → World → Prop} {o : Oper} {a : Act}
theorem acc_app {e : TypeId} {w0 w w1 : World} {col : Col} {v v1 : Value} {xs ys : List Int} {n : Nat} (h : Acc e w0 w col v xs) (hy : Bytes ys) (hown : w1.ownsRow 0 e 1 v1 n (u8s xs ++ u8s ys)) (hn : n = (xs ++ ys).length) (hg : w.grownBy w1 v.ownBlock)
    (hat : v1.ownBlock = v.ownBlock ∨ ∃ g, v1.ownBlock = some g ∧ w.heap.size ≤ g) : Acc e w0 w1 (newcol w col 1) v1 (xs ++ ys) ∧ Ext [1] w col w1 (newcol w col 1) := by
  obtain ⟨h1, h2⟩ := h.own.app hg hown hat
  rw [← u8s_append, hn] at h1
  exact ⟨⟨h1, h.bytes.app hy, h.ext.trans h2⟩, h2⟩
/-- append(v, y...) at a step of a region that draws its order. -/
theorem step_acc {K : Act → World → Prop} {E : Prop} (hgd : o.guard = none) (s x : Operand) (t e : TypeId) (ho : o.op = .call { callee := .builtin .append, args := #[s, x], argTypes := #[t, t] })
    (ht : P.underlying t = some (.slice e)) {z : Value} {bytes : Nat} (hinfo : (P.info? e).map (fun i => (i.zero, i.size, i.bytes)) = some (some z, 1, bytes)) (hzc : z.cells.size = 1) (hb0 : 0 < bytes)
    {w0 w : World} {col : Col} {v : Value} {xs : List Int} (hs : a.eval s = v) (hacc : Acc e w0 w col v xs) {N : Nat → Prop} (y : Value) (ys : List Int) (hx : a.eval x = y) (hy : RdL w N y ys)
    (hlen : (xs.length + ys.length) * bytes ≤ 140737488355328)
    (h : ∀ A cap w', Acc e w0 w' (newcol w col 1) (.slice A (xs ++ ys).length cap) (xs ++ ys) → Ext [1] w col w' (newcol w col 1) → K (a.put o.dst (.slice A (xs ++ ys).length cap)) w') :
    if Region.wanted o (yielded ops a.tmps) = true then Oper.wp P o a w K Q else E := by
  refine step_pushs hgd s x t e ho ht hinfo hzc hb0 0 v _ _ hs hacc.own.1 (Nat.zero_le _) y _ _ hx hy.1 (u8s_oneCell _) hlen ?_
  intro A cap w' hown hg hat
  rw [← List.length_append] at hown hat ⊢
  obtain ⟨k1, k2⟩ := acc_app hacc hy.2 hown rfl hg hat
  exact h A cap w' k1 k2
variable {rest : List Oper}
/-- append(v, y...) at the head of what is left of a region. -/
theorem push_acc (hgd : o.guard = none) (s x : Operand) (t e : TypeId) (ho : o.op = .call { callee := .builtin .append, args := #[s, x], argTypes := #[t, t] })
    (ht : P.underlying t = some (.slice e)) {z : Value} {bytes : Nat} (hinfo : (P.info? e).map (fun i => (i.zero, i.size, i.bytes)) = some (some z, 1, bytes)) (hzc : z.cells.size = 1) (hb0 : 0 < bytes)
    {w0 w : World} {col : Col} {v : Value} {xs : List Int} (hs : a.eval s = v) (hacc : Acc e w0 w col v xs) {N : Nat → Prop} (y : Value) (ys : List Int) (hx : a.eval x = y) (hy : RdL w N y ys)
    (hlen : (xs.length + ys.length) * bytes ≤ 140737488355328)
    (h : ∀ A cap w', Acc e w0 w' (newcol w col 1) (.slice A (xs ++ ys).length cap) (xs ++ ys) → Ext [1] w col w' (newcol w col 1) → wpList P ops Q rest (a.put o.dst (.slice A (xs ++ ys).length cap)) w') :
    wpList P ops Q (o :: rest) a w := by
  refine pushs hgd s x t e ho ht hinfo hzc hb0 0 v _ _ hs hacc.own.1 (Nat.zero_le _) y _ _ hx hy.1 (u8s_oneCell _) hlen ?_
  intro A cap w' hown hg hat
  rw [← List.length_append] at hown hat ⊢
  obtain ⟨k1, k2⟩ := acc_app hacc hy.2 hown rfl hg hat
  exact h A cap w' k1 k2
end
end Go.Proofs.Yteegdhfekemhmaa
