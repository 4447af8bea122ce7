/- Texts of this claim, several in one: Own, SimH, BinM, BinM2, NumP, NumQ, FrameM, FrameQ. -/
import Derived.Test.YtjlfojgacnphmaaMgKeepVotes1
import Derived.WalkKit
import Derived.WalkSpells
import Derived.WalkLawsBesides
import Derived.Maps.AppendAt
import Derived.Laws.BytesArg
import Derived.Lib.ConvBytes
import Derived.Deep.QuietTactic
import Derived.BigQuiet
import Derived.Lib.Hide
import Derived.Lib.SlBytesConst
namespace Go.Proofs.Ytjlfojgacnphmaa
open Go.RowKit

abbrev Col := Nat → Nat
abbrev In (col : Col) (c : Nat) : Nat → Prop := fun k => col k = c
def newcol (w : World) (col : Col) (c : Nat) : Col := fun k => if k < w.heap.size then col k else c

structure Ext (S : List Nat) (w : World) (col : Col) (w' : World) (col' : Col) : Prop where
  os : w'.os = w.os
  tape : w'.tape = w.tape
  output : w'.output = w.output
  size : w.heap.size ≤ w'.heap.size
  block : ∀ k, k < w.heap.size → col k ∉ S → w'.heap[k]? = w.heap[k]?
  col : ∀ k, k < w.heap.size → col' k = col k

theorem Ext.refl (S : List Nat) (w : World) (col : Col) : Ext S w col w col := ⟨rfl, rfl, rfl, Nat.le_refl _, fun _ _ _ => rfl, fun _ _ => rfl⟩
theorem Ext.trans {S : List Nat} {w w1 w2 : World} {c c1 c2 : Col} (h : Ext S w c w1 c1) (k : Ext S w1 c1 w2 c2) : Ext S w c w2 c2 :=
  ⟨k.os.trans h.os, k.tape.trans h.tape, k.output.trans h.output, Nat.le_trans h.size k.size,
    fun i hi hc => (k.block i (Nat.lt_of_lt_of_le hi h.size) (by rw [h.col i hi]; exact hc)).trans (h.block i hi hc),
    fun i hi => (k.col i (Nat.lt_of_lt_of_le hi h.size)).trans (h.col i hi)⟩
theorem Ext.mono {S T : List Nat} {w w' : World} {c c' : Col} (h : Ext S w c w' c') (hST : ∀ x ∈ S, x ∈ T) : Ext T w c w' c' :=
  ⟨h.os, h.tape, h.output, h.size, fun i hi hc => h.block i hi (fun hx => hc (hST _ hx)), h.col⟩
theorem Ext.of_below {S : List Nat} {w w' : World} {c c' : Col} (h : Below w.heap.size w w') (hc : ∀ k, k < w.heap.size → c' k = c k) : Ext S w c w' c' :=
  ⟨h.os, h.tape, h.output, h.size, fun k hk _ => h.block k hk, hc⟩
theorem newcol_old {w : World} {col : Col} {c k : Nat} (h : k < w.heap.size) : newcol w col c k = col k := by simp [newcol, h]
theorem newcol_new {w : World} {col : Col} {c k : Nat} (h : w.heap.size ≤ k) : newcol w col c k = c := by simp [newcol, Nat.not_lt.2 h]
theorem Ext.newc {S : List Nat} {w w' : World} {col : Col} (h : Below w.heap.size w w') (c : Nat) : Ext S w col w' (newcol w col c) := Ext.of_below h fun _ hk => newcol_old hk
/-! ### What is read -/
def Rd (w : World) (N : Nat → Prop) (v : Value) (n s : Nat) (cs : List Value) : Prop :=
  0 < s ∧ cs.length = n * s ∧ n ≤ 140737488355328 ∧ ((v = .slice none 0 0 ∧ n = 0) ∨
    ∃ a cap, v = .slice (some a) n cap ∧ n ≤ cap ∧ cap ≤ maxLen ∧ (0 < n → N a.block) ∧ ∀ j u, cs[j]? = some u → w.cell? (a.add j) = some u)

theorem addr_add_block (a : Addr) (j : Nat) : (a.add j).block = a.block := by unfold Addr.add; split <;> rfl
theorem Rd.keeps {w w' : World} {N N' : Nat → Prop} {v : Value} {n s : Nat} {cs : List Value} (h : Rd w N v n s cs)
    (hk : ∀ b, N b → b < w.heap.size → w'.heap[b]? = w.heap[b]? ∧ N' b) : Rd w' N' v n s cs := by
  obtain ⟨hs, hl, hm, h⟩ := h
  refine ⟨hs, hl, hm, ?_⟩
  rcases h with h | ⟨a, cap, rfl, h1, h2, h3, h4⟩
  · exact .inl h
  · by_cases hn : 0 < n
    · have hlen : 0 < cs.length := by rw [hl]; exact Nat.mul_pos hn hs
      have hb : a.block < w.heap.size := by
        have := World.block_lt_of_cell? w _ (h4 0 cs[0] (by simp [hlen]))
        rwa [addr_add_block] at this
      refine .inr ⟨a, cap, rfl, h1, h2, fun hp => (hk a.block (h3 hp) hb).2, fun j u hu => ?_⟩
      rw [World.cell?_of_block (w := w) (by rw [addr_add_block]; exact (hk a.block (h3 hn) hb).1)]
      exact h4 j u hu
    · have hnil : cs = [] := by
        apply List.eq_nil_of_length_eq_zero
        rw [hl, show n = 0 by omega]
        simp
      subst hnil
      exact .inr ⟨a, cap, rfl, h1, h2, fun hp => absurd hp hn, fun j u hu => by simp at hu⟩
theorem Rd.weaken {w : World} {N N' : Nat → Prop} {v : Value} {n s : Nat} {cs : List Value} (h : Rd w N v n s cs) (hN : ∀ b, N b → b < w.heap.size → N' b) : Rd w N' v n s cs :=
  h.keeps fun b hb hl => ⟨rfl, hN b hb hl⟩
theorem Rd.any {w : World} {N : Nat → Prop} {v : Value} {n s : Nat} {cs : List Value} (h : Rd w N v n s cs) : Rd w (fun _ => True) v n s cs := h.weaken fun _ _ _ => trivial
theorem Rd.ext {S : List Nat} {w w' : World} {col col' : Col} {c : Nat} {v : Value} {n s : Nat} {cs : List Value} (h : Rd w (In col c) v n s cs) (hx : Ext S w col w' col') (hc : c ∉ S) : Rd w' (In col' c) v n s cs :=
  h.keeps fun b hN hl => ⟨hx.block b hl (by rw [hN]; exact hc), by show col' b = c; rw [hx.col b hl]; exact hN⟩
theorem Rd.nil (w : World) (N : Nat → Prop) (s : Nat) (hs : 0 < s) : Rd w N (.slice none 0 0) 0 s [] := ⟨hs, by simp, by omega, .inl ⟨rfl, rfl⟩⟩
theorem Rd.slice {w : World} {N : Nat → Prop} {v : Value} {n s : Nat} {cs : List Value} (h : Rd w N v n s cs) : ∃ A cap, v = .slice A n cap ∧ n ≤ cap ∧ cap ≤ maxLen := by
  rcases h.2.2.2 with ⟨rfl, rfl⟩ | ⟨a, cap, rfl, h1, h2, _⟩
  · exact ⟨_, _, rfl, Nat.le_refl _, by simp [maxLen]⟩
  · exact ⟨_, _, rfl, h1, h2⟩
theorem Rd.pos {w : World} {N : Nat → Prop} {v : Value} {n s : Nat} {cs : List Value} (h : Rd w N v n s cs) (hn : 0 < n) :
    ∃ b o cap, v = .slice (some ⟨b, o, none⟩) n cap ∧ n ≤ cap ∧ cap ≤ maxLen ∧ N b ∧ b < w.heap.size ∧ ∀ j u, cs[j]? = some u → w.cell? ⟨b, o + j, none⟩ = some u := by
  rcases h.2.2.2 with ⟨rfl, rfl⟩ | ⟨a, cap, rfl, h1, h2, h3, h4⟩
  · omega
  · have hlen : 0 < cs.length := by rw [h.2.1]; exact Nat.mul_pos hn h.1
    have h0 := h4 0 cs[0] (by simp [hlen])
    have hb := World.block_lt_of_cell? w _ h0
    rw [addr_add_block] at hb
    have hsp : a.spot = none := by
      cases hsp : a.spot with
      | none => rfl
      | some sp =>
        have hs2 : (a.add 0).spot.isSome = true := by unfold Addr.add; split <;> simp_all
        unfold World.cell? at h0
        split at h0
        · rw [hs2] at h0; simp at h0
        · cases h0
    obtain ⟨b, o, sp⟩ := a
    simp only at hsp
    subst hsp
    exact ⟨b, o, cap, rfl, h1, h2, h3 hn, hb, fun j u hu => by have := h4 j u hu; rwa [Addr.add_lit] at this⟩
theorem Rd.of_owns {w : World} {base : Nat} {e : TypeId} {s n : Nat} {v : Value} {cs : List Value} (h : w.ownsRow base e s v n cs) (hs : 0 < s) (hm : n ≤ 140737488355328) (N : Nat → Prop) (hN : ∀ g, v.ownBlock = some g → base ≤ g → N g) : Rd w N v n s cs := by
  refine ⟨hs, h.1, hm, ?_⟩
  rcases h.2 with ⟨rfl, rfl⟩ | ⟨g, cap, cur, rfl, h1, h2, h3, h4, h5, h6⟩
  · exact .inl ⟨rfl, rfl⟩
  · exact .inr ⟨⟨g, 0, none⟩, cap, rfl, h3, h4, fun _ => hN g rfl h1, fun j u hu => h.cells (g := g) rfl j u hu⟩

def u8s (xs : List Int) : List Value := xs.map (Value.int .u8)
@[simp] theorem u8s_length (xs : List Int) : (u8s xs).length = xs.length := by simp [u8s]
theorem u8s_get (xs : List Int) (j : Nat) (h : j < xs.length) : (u8s xs)[j]? = some (.int .u8 (xs.getD j 0)) := by simp [u8s, h, List.getD]
def Bytes (xs : List Int) : Prop := ∀ x ∈ xs, 0 ≤ x ∧ x ≤ 255
theorem Bytes.app {xs ys : List Int} (h : Bytes xs) (k : Bytes ys) : Bytes (xs ++ ys) := by
  intro x hx; rcases List.mem_append.1 hx with hx | hx
  · exact h x hx
  · exact k x hx
theorem Bytes.take {xs : List Int} (h : Bytes xs) (n : Nat) : Bytes (xs.take n) := fun x hx => h x (List.mem_of_mem_take hx)
theorem Bytes.drop {xs : List Int} (h : Bytes xs) (n : Nat) : Bytes (xs.drop n) := fun x hx => h x (List.mem_of_mem_drop hx)
theorem Bytes.nil : Bytes [] := by intro x hx; simp at hx
theorem Bytes.one {x : Int} (h0 : 0 ≤ x) (h1 : x ≤ 255) : Bytes [x] := by intro y hy; simp at hy; subst hy; exact ⟨h0, h1⟩
theorem Bytes.at {xs : List Int} (h : Bytes xs) (j : Nat) : 0 ≤ xs.getD j 0 ∧ xs.getD j 0 ≤ 255 := by
  by_cases hj : j < xs.length
  · have : xs.getD j 0 = xs[j] := by simp [List.getD, hj]
    rw [this]; exact h _ (List.getElem_mem hj)
  · simp [List.getD, Nat.not_lt.1 hj]
def RdL (w : World) (N : Nat → Prop) (v : Value) (xs : List Int) : Prop := Rd w N v xs.length 1 (u8s xs) ∧ Bytes xs
def Plain (v : Value) : Prop := v = .slice none 0 0 ∨ ∃ b o n c, v = .slice (some ⟨b, o, none⟩) n c
def RdB (w : World) (N : Nat → Prop) (v : Value) (xs : List Int) : Prop := RdL w N v xs ∧ Plain v
theorem RdL.keeps {w w' : World} {N N' : Nat → Prop} {v : Value} {xs : List Int} (h : RdL w N v xs) (hk : ∀ b, N b → b < w.heap.size → w'.heap[b]? = w.heap[b]? ∧ N' b) : RdL w' N' v xs := ⟨h.1.keeps hk, h.2⟩
theorem RdB.keeps {w w' : World} {N N' : Nat → Prop} {v : Value} {xs : List Int} (h : RdB w N v xs) (hk : ∀ b, N b → b < w.heap.size → w'.heap[b]? = w.heap[b]? ∧ N' b) : RdB w' N' v xs := ⟨h.1.keeps hk, h.2⟩
theorem RdL.weaken {w : World} {N N' : Nat → Prop} {v : Value} {xs : List Int} (h : RdL w N v xs) (hN : ∀ b, N b → b < w.heap.size → N' b) : RdL w N' v xs := ⟨h.1.weaken hN, h.2⟩
theorem RdB.weaken {w : World} {N N' : Nat → Prop} {v : Value} {xs : List Int} (h : RdB w N v xs) (hN : ∀ b, N b → b < w.heap.size → N' b) : RdB w N' v xs := ⟨h.1.weaken hN, h.2⟩
theorem RdL.any {w : World} {N : Nat → Prop} {v : Value} {xs : List Int} (h : RdL w N v xs) : RdL w (fun _ => True) v xs := ⟨h.1.any, h.2⟩
theorem RdB.any {w : World} {N : Nat → Prop} {v : Value} {xs : List Int} (h : RdB w N v xs) : RdB w (fun _ => True) v xs := ⟨h.1.any, h.2⟩
theorem RdL.ext {S : List Nat} {w w' : World} {col col' : Col} {c : Nat} {v : Value} {xs : List Int} (h : RdL w (In col c) v xs) (hx : Ext S w col w' col') (hc : c ∉ S) : RdL w' (In col' c) v xs := ⟨h.1.ext hx hc, h.2⟩
theorem RdB.ext {S : List Nat} {w w' : World} {col col' : Col} {c : Nat} {v : Value} {xs : List Int} (h : RdB w (In col c) v xs) (hx : Ext S w col w' col') (hc : c ∉ S) : RdB w' (In col' c) v xs := ⟨h.1.ext hx hc, h.2⟩
theorem RdB.nil (w : World) (N : Nat → Prop) : RdB w N (.slice none 0 0) [] := ⟨⟨Rd.nil w N 1 (by omega), Bytes.nil⟩, .inl rfl⟩
theorem RdL.len {w : World} {N : Nat → Prop} {v : Value} {xs : List Int} (h : RdL w N v xs) : xs.length ≤ 140737488355328 := h.1.2.2.1
theorem RdL.slice {w : World} {N : Nat → Prop} {v : Value} {xs : List Int} (h : RdL w N v xs) : ∃ A cap, v = .slice A xs.length cap ∧ xs.length ≤ cap ∧ cap ≤ maxLen := h.1.slice
theorem RdL.form {w : World} {N : Nat → Prop} {v : Value} {xs : List Int} (h : RdL w N v xs) :
    xs.length ≤ 140737488355328 ∧ ((v = .slice none 0 0 ∧ xs = []) ∨ (∃ a cap, v = .slice (some a) 0 cap ∧ xs = [] ∧ cap ≤ 9223372036854775807) ∨ ∃ b o cap, v = .slice (some ⟨b, o, none⟩) xs.length cap ∧ 0 < xs.length ∧ xs.length ≤ cap ∧ cap ≤ 9223372036854775807 ∧ N b ∧ b < w.heap.size ∧
      ∀ j, j < xs.length → w.cell? ⟨b, o + j, none⟩ = some (.int .u8 (xs.getD j 0))) := by
  refine ⟨h.1.2.2.1, ?_⟩
  by_cases hp : 0 < xs.length
  · obtain ⟨b, o, cap, rfl, h1, h2, h3, h4, h5⟩ := h.1.pos hp
    exact .inr (.inr ⟨b, o, cap, rfl, hp, h1, by simpa [maxLen] using h2, h3, h4, fun j hj => h5 j _ (u8s_get xs j hj)⟩)
  · have hnil : xs = [] := List.eq_nil_of_length_eq_zero (by omega)
    rcases h.1.2.2.2 with ⟨rfl, h0⟩ | ⟨a, cap, rfl, h1, h2, h3, h4⟩
    · exact .inl ⟨rfl, hnil⟩
    · exact .inr (.inl ⟨a, cap, by rw [hnil]; rfl, hnil, by simpa [maxLen] using h2⟩)
theorem RdB.form {w : World} {N : Nat → Prop} {v : Value} {xs : List Int} (h : RdB w N v xs) :
    xs.length ≤ 140737488355328 ∧ ((v = .slice none 0 0 ∧ xs = []) ∨ ∃ b o cap, v = .slice (some ⟨b, o, none⟩) xs.length cap ∧ xs.length ≤ cap ∧ cap ≤ 9223372036854775807 ∧ (0 < xs.length → N b ∧ b < w.heap.size) ∧
      ∀ j, j < xs.length → w.cell? ⟨b, o + j, none⟩ = some (.int .u8 (xs.getD j 0))) := by
  obtain ⟨hm, h1 | ⟨a, cap, rfl, rfl, hc⟩ | ⟨b, o, cap, rfl, hp, h1, h2, h3, h4, h5⟩⟩ := h.1.form
  · exact ⟨hm, .inl h1⟩
  · rcases h.2 with h2 | ⟨b, o, n, c, h2⟩
    · cases h2
    · simp at h2
      obtain ⟨rfl, rfl, rfl⟩ := h2
      exact ⟨hm, .inr ⟨b, o, cap, rfl, by simp, hc, fun hp => by simp at hp, fun j hj => by simp at hj⟩⟩
  · exact ⟨hm, .inr ⟨b, o, cap, rfl, h1, h2, fun _ => ⟨h3, h4⟩, h5⟩⟩
theorem RdB.mk {w : World} {N : Nat → Prop} {b o cap : Nat} {xs : List Int} (hm : xs.length ≤ 140737488355328) (h1 : xs.length ≤ cap) (h2 : cap ≤ 9223372036854775807) (h3 : 0 < xs.length → N b)
    (h4 : ∀ j, j < xs.length → w.cell? ⟨b, o + j, none⟩ = some (.int .u8 (xs.getD j 0))) (hB : Bytes xs) : RdB w N (.slice (some ⟨b, o, none⟩) xs.length cap) xs := by
  refine ⟨⟨⟨by omega, by simp, hm, .inr ⟨⟨b, o, none⟩, cap, rfl, h1, by simpa [maxLen] using h2, h3, fun j u hu => ?_⟩⟩, hB⟩, .inr ⟨b, o, _, cap, rfl⟩⟩
  have hj : j < xs.length := by
    rcases Nat.lt_or_ge j xs.length with h | h
    · exact h
    · rw [List.getElem?_eq_none (by simpa using h)] at hu; cases hu
  rw [u8s_get xs j hj] at hu
  cases hu
  rw [Addr.add_lit]
  exact h4 j hj
theorem RdB.of_owns {w : World} {base : Nat} {e : TypeId} {n : Nat} {v : Value} {xs : List Int} (h : w.ownsRow base e 1 v n (u8s xs)) (hm : n ≤ 140737488355328) (hB : Bytes xs) (N : Nat → Prop) (hN : ∀ g, v.ownBlock = some g → base ≤ g → N g) : RdB w N v xs := by
  have hn : xs.length = n := by have := h.1; simpa using this
  subst hn
  refine ⟨⟨Rd.of_owns h (by omega) hm N hN, hB⟩, ?_⟩
  rcases h.2 with ⟨rfl, _⟩ | ⟨g, cap, cur, rfl, _⟩
  · exact .inl rfl
  · exact .inr ⟨_, _, _, _, rfl⟩
theorem RdL.conv {P : Program} {w : World} {N : Nat → Prop} {v : Value} {xs : List Int} (h : RdL w N v xs) {src dst e : TypeId} (hs : P.underlying src = some (.slice e)) (he : P.underlying e = some (.int .u8)) (hd : P.underlying dst = some .string) :
    (convert src dst v).run P w = .ok (.string (strOfNums xs)) w := by
  rcases h.1.2.2.2 with ⟨rfl, h0⟩ | ⟨a, cap, rfl, _, _, _, hc⟩
  · obtain rfl : xs = [] := List.eq_nil_of_length_eq_zero h0
    exact run_convert_bytes_nil w src e hs he 0 0 dst hd
  · have hl : (loadCells a xs.length).run P w = .ok (u8s xs).toArray w := by
      have := run_loadCells_list (P := P) w a (u8s xs) hc
      simpa using this
    rw [run_convert_bytes_string w src dst e _ xs.length cap hs he hd, run_bytesToString w _ xs.length cap xs hl, foldl_push_bytes]
    simp [strOfNums, ByteArray.empty, ByteArray.emptyWithCapacity]
    rfl
theorem RdB.conv {P : Program} {w : World} {N : Nat → Prop} {v : Value} {xs : List Int} (h : RdB w N v xs) {src dst e : TypeId} (hs : P.underlying src = some (.slice e)) (he : P.underlying e = some (.int .u8)) (hd : P.underlying dst = some .string) :
    (convert src dst v).run P w = .ok (.string (strOfNums xs)) w := h.1.conv hs he hd
/-! ### Worlds: one step more -/
/-! ### append at an operation -/
section
variable {P : Program} {ops : Array Oper} {rest : List Oper} {o : Oper} {a : Act} {Q : Exit → Act → World → Prop}
end
abbrev Out (col : Col) (S : List Nat) : Nat → Prop := fun k => col k ∉ S
theorem Rd.out {S : List Nat} {w w' : World} {col col' : Col} {v : Value} {n s : Nat} {cs : List Value} (h : Rd w (Out col S) v n s cs) (hx : Ext S w col w' col') : Rd w' (Out col' S) v n s cs :=
  h.keeps fun b hN hl => ⟨hx.block b hl hN, by show col' b ∉ S; rw [hx.col b hl]; exact hN⟩
theorem RdB.out {S : List Nat} {w w' : World} {col col' : Col} {v : Value} {xs : List Int} (h : RdB w (Out col S) v xs) (hx : Ext S w col w' col') : RdB w' (Out col' S) v xs := ⟨⟨h.1.1.out hx, h.1.2⟩, h.2⟩
theorem RdL.out {S : List Nat} {w w' : World} {col col' : Col} {v : Value} {xs : List Int} (h : RdL w (Out col S) v xs) (hx : Ext S w col w' col') : RdL w' (Out col' S) v xs := ⟨h.1.out hx, h.2⟩
def NewB (e : TypeId) (w w' : World) (v : Value) (xs : List Int) : Prop := w'.ownsRow w.heap.size e 1 v xs.length (u8s xs) ∧ xs.length ≤ 140737488355328 ∧ Bytes xs ∧ Below w.heap.size w w'
theorem NewB.rd {e : TypeId} {w w' : World} {v : Value} {xs : List Int} (h : NewB e w w' v xs) : RdB w' (fun k => w.heap.size ≤ k) v xs := RdB.of_owns h.1 h.2.1 h.2.2.1 _ fun _ _ hg => hg
theorem RdB.newc {w w' : World} {v : Value} {xs : List Int} (h : RdB w' (fun k => w.heap.size ≤ k) v xs) (col : Col) (c : Nat) : RdB w' (In (newcol w col c) c) v xs :=
  h.weaken fun _ hb _ => newcol_new hb
theorem RdB.len {w : World} {N : Nat → Prop} {v : Value} {xs : List Int} (h : RdB w N v xs) : xs.length ≤ 140737488355328 := h.1.1.2.2.1
theorem RdB.slice {w : World} {N : Nat → Prop} {v : Value} {xs : List Int} (h : RdB w N v xs) : ∃ A cap, v = .slice A xs.length cap ∧ xs.length ≤ cap ∧ cap ≤ maxLen := h.1.1.slice
theorem getD_drop (xs : List Int) (i j : Nat) : (xs.drop i).getD j 0 = xs.getD (i + j) 0 := by simp [List.getD]
theorem RdB.cut {w : World} {N : Nat → Prop} {b o cap : Nat} {xs : List Int} (h : RdB w N (.slice (some ⟨b, o, none⟩) xs.length cap) xs) {i : Nat} (hi : i ≤ xs.length) (b2 o2 n2 cap2 : Nat)
    (hn : n2 = xs.length - i) (hc : n2 ≤ cap2) (hm : cap2 ≤ 9223372036854775807) (hb : i < xs.length → b2 = b ∧ o2 = o + i) : RdB w N (.slice (some ⟨b2, o2, none⟩) n2 cap2) (xs.drop i) := by
  have hlen := h.len
  rcases h.form with ⟨_, ⟨h0, _⟩ | ⟨b1, o1, cap1, he, h1, h2, h3, h4⟩⟩
  · simp at h0
  · simp at he
    obtain ⟨⟨rfl, rfl⟩, rfl⟩ := he
    have hl : (xs.drop i).length = n2 := by rw [hn]; exact List.length_drop
    rw [← hl]
    refine RdB.mk (by omega) (by omega) (by omega) (fun hp => ?_) (fun j hj => ?_) (h.1.2.drop i)
    · obtain ⟨rfl, _⟩ := hb (by omega)
      exact (h3 (by omega)).1
    · obtain ⟨rfl, rfl⟩ := hb (by omega)
      rw [getD_drop, Nat.add_assoc]
      exact h4 (i + j) (by omega)
def Ret (S : List Nat) (w : World) (col : Col) (K : Value → World → Col → Prop) (e : Ending) (w' : World) : Prop := ∃ v col', e = .returned v ∧ K v w' col' ∧ Ext S w col w' col'
theorem Ret.mk {S : List Nat} {w w' : World} {col col' : Col} {K : Value → World → Col → Prop} {e : Ending} {v : Value} (h : e = .returned v) (hK : K v w' col') (hx : Ext S w col w' col') : Ret S w col K e w' := ⟨v, col', h, hK, hx⟩
def RetN (w : World) (K : Value → World → Prop) (e : Ending) (w' : World) : Prop := ∃ v, e = .returned v ∧ K v w' ∧ Below w.heap.size w w'
theorem RetN.mk {w w' : World} {K : Value → World → Prop} {e : Ending} {v : Value} (h : e = .returned v) (hK : K v w') (hx : Below w.heap.size w w') : RetN w K e w' := ⟨v, h, hK, hx⟩
theorem Ext.alloc {S : List Nat} {w w' : World} {col col' : Col} (h : Ext S w col w' col') (o : Obj) (c : Nat) : Ext S w col (w'.alloc o) (newcol w' col' c) :=
  h.trans (Ext.newc ((Below.refl _ _).alloc (Nat.le_refl _) o) c)
def RetV (w : World) (K : Value → Prop) (e : Ending) (w' : World) : Prop := ∃ v, e = .returned v ∧ K v ∧ w = w'
theorem RetV.mk {w : World} {K : Value → Prop} {e : Ending} {v : Value} (h : e = .returned v) (hK : K v) : RetV w K e w := ⟨v, h, hK, rfl⟩
def Ow (w : World) (col : Col) (c : Nat) (E : TypeId) (s : Nat) (v : Value) (n : Nat) (xs : List Value) : Prop := w.ownsRow 0 E s v n xs ∧ ∀ g, v.ownBlock = some g → col g = c
theorem Ow.nil (w : World) (col : Col) (c : Nat) (E : TypeId) (s : Nat) : Ow w col c E s (.slice none 0 0) 0 [] := ⟨World.ownsRow_nil _ _ _ _, fun g hg => by simp [Value.ownBlock] at hg⟩
theorem owns_keeps {w w' : World} {base : Nat} {E : TypeId} {s : Nat} {v : Value} {n : Nat} {xs : List Value} (h : w.ownsRow base E s v n xs) (hk : ∀ g, v.ownBlock = some g → w'.heap[g]? = w.heap[g]?) : w'.ownsRow base E s v n xs := by
  refine ⟨h.1, ?_⟩
  rcases h.2 with h | ⟨g, cap, cur, rfl, hbg, hg, r⟩
  · exact .inl h
  · exact .inr ⟨g, cap, cur, rfl, hbg, by rw [hk g rfl]; exact hg, r⟩
theorem Ow.ext {S : List Nat} {w w' : World} {col col' : Col} {c : Nat} {E : TypeId} {s : Nat} {v : Value} {n : Nat} {xs : List Value} (h : Ow w col c E s v n xs) (hx : Ext S w col w' col') (hc : c ∉ S) : Ow w' col' c E s v n xs :=
  ⟨owns_keeps h.1 fun g hg => hx.block g (h.1.lt g hg).2 (by rw [h.2 g hg]; exact hc), fun g hg => by rw [hx.col g (h.1.lt g hg).2]; exact h.2 g hg⟩
theorem Ow.app {w w1 : World} {col : Col} {c : Nat} {E : TypeId} {s : Nat} {v v1 : Value} {n n1 : Nat} {xs xs1 : List Value} (h : Ow w col c E s v n xs) (hg : w.grownBy w1 v.ownBlock) (hown1 : w1.ownsRow 0 E s v1 n1 xs1)
    (hat : v1.ownBlock = v.ownBlock ∨ ∃ g, v1.ownBlock = some g ∧ w.heap.size ≤ g) : Ow w1 (newcol w col c) c E s v1 n1 xs1 ∧ Ext [c] w col w1 (newcol w col c) := by
  refine ⟨⟨hown1, fun g hg1 => ?_⟩, ⟨hg.os, hg.tape, hg.output, hg.size, fun k hk hc => hg.block k hk ?_, fun k hk => newcol_old hk⟩⟩
  · by_cases hk : g < w.heap.size
    · rw [newcol_old hk]
      rcases hat with h1 | ⟨g', h1, hgs⟩
      · exact h.2 g (by rw [← h1]; exact hg1)
      · rw [h1] at hg1; cases hg1; omega
    · exact newcol_new (by omega)
  · intro e
    exact hc (by simp [h.2 k e.symm])
theorem Ow.rd {w : World} {col : Col} {c : Nat} {E : TypeId} {s : Nat} {v : Value} {n : Nat} {xs : List Value} (h : Ow w col c E s v n xs) (hs : 0 < s) (hm : n ≤ 140737488355328) : Rd w (In col c) v n s xs := Rd.of_owns h.1 hs hm _ fun g hg _ => h.2 g hg
end Go.Proofs.Ytjlfojgacnphmaa

namespace Go.Proofs.Ytjlfojgacnphmaa.Sim
open Go
set_option linter.unusedSimpArgs false
set_option linter.unusedVariables false

namespace T
variable {α : Type}
@[simp] theorem get_e (j : Nat) : (T.e : T α).get j = none := by simp [get]
theorem get_putF (x : Option α) : ∀ (f : Nat) (t : T α) (k j : Nat), k < f → (putF f t k x).get j = if j = k then x else t.get j
  | 0, _, _, _, h => by omega
  | f + 1, t, k, j, h => by
    cases t with
    | e =>
      simp only [putF]
      by_cases h0 : k = 0
      · subst h0
        by_cases hj : j = 0
        · simp [get, hj]
        · simp [get, hj]
      · rw [if_neg h0]
        by_cases h1 : k % 2 = 1
        · rw [if_pos h1]
          have ih := get_putF x f .e (k / 2) (j / 2) (by omega)
          by_cases hj : j = 0
          · simp [get, hj, show ¬ (0 = k) by omega]
          · by_cases hj1 : j % 2 = 1
            · simp only [get, if_neg hj, if_pos hj1, ih, get_e]
              by_cases hjk : j = k
              · subst hjk; simp
              · simp [hjk, show ¬ (j / 2 = k / 2) by omega]
            · simp [get, hj, hj1, show ¬ (j = k) by omega]
        · rw [if_neg h1]
          have ih := get_putF x f .e (k / 2 - 1) (j / 2 - 1) (by omega)
          by_cases hj : j = 0
          · simp [get, hj, show ¬ (0 = k) by omega]
          · by_cases hj1 : j % 2 = 1
            · simp [get, hj, hj1, show ¬ (j = k) by omega]
            · simp only [get, if_neg hj, if_neg hj1, ih, get_e]
              by_cases hjk : j = k
              · subst hjk; simp
              · simp [hjk, show ¬ (j / 2 - 1 = k / 2 - 1) by omega]
    | n v l r =>
      simp only [putF]
      by_cases h0 : k = 0
      · subst h0
        by_cases hj : j = 0
        · simp [get, hj]
        · simp [get, hj]
      · rw [if_neg h0]
        by_cases h1 : k % 2 = 1
        · rw [if_pos h1]
          have ih := get_putF x f l (k / 2) (j / 2) (by omega)
          by_cases hj : j = 0
          · simp [get, hj, show ¬ (0 = k) by omega]
          · by_cases hj1 : j % 2 = 1
            · simp only [get, if_neg hj, if_pos hj1, ih]
              by_cases hjk : j = k
              · subst hjk; simp
              · simp [hjk, show ¬ (j / 2 = k / 2) by omega]
            · simp [get, hj, hj1, show ¬ (j = k) by omega]
        · rw [if_neg h1]
          have ih := get_putF x f r (k / 2 - 1) (j / 2 - 1) (by omega)
          by_cases hj : j = 0
          · simp [get, hj, show ¬ (0 = k) by omega]
          · by_cases hj1 : j % 2 = 1
            · simp [get, hj, hj1, show ¬ (j = k) by omega]
            · simp only [get, if_neg hj, if_neg hj1, ih]
              by_cases hjk : j = k
              · subst hjk; simp
              · simp [hjk, show ¬ (j / 2 - 1 = k / 2 - 1) by omega]
theorem get_put (t : T α) (k j : Nat) (x : Option α) : (t.put k x).get j = if j = k then x else t.get j := get_putF x (k + 1) t k j (Nat.lt_succ_self k)
end T
theorem SH.get_put (h : SH) (b j : Nat) (o : Option SO) : (h.put b o).get j = if j = b then o else h.get j := T.get_put _ _ _ _
theorem SH.get_new (h : SH) (cs : List SC) (j : Nat) : (h.new cs).get j = if j = h.next then some (.row cs true) else h.get j := T.get_put _ _ _ _
theorem SH.get_newO (h : SH) (o : SO) (j : Nat) : (h.newO o).get j = if j = h.next then some o else h.get j := T.get_put _ _ _ _
@[simp] theorem SH.next_newO (h : SH) (o : SO) : (h.newO o).next = h.next + 1 := rfl
@[simp] theorem SH.next_put (h : SH) (b : Nat) (o : Option SO) : (h.put b o).next = h.next := rfl
@[simp] theorem SH.next_new (h : SH) (cs : List SC) : (h.new cs).next = h.next + 1 := rfl
@[simp] theorem SF.n_put (t : SF) (d : Option Nat) (v : SV) : (t.put d v).n = t.n := by
  unfold SF.put; split
  · split <;> rfl
  · rfl
theorem SF.get_put (t : SF) (d j : Nat) (v : SV) : (t.put (some d) v).get j = if j = d ∧ d < t.n then some v else t.get j := by
  unfold SF.put SF.get
  by_cases h : d < t.n
  · simp only [h, if_true, T.get_put, and_true]
  · simp [h]

def All2 {α β : Type} (R : α → β → Prop) : List α → List β → Prop
  | [], [] => True
  | a :: x, b :: y => R a b ∧ All2 R x y
  | _, _ => False
theorem All2.length {α β : Type} {R : α → β → Prop} : ∀ {x : List α} {y : List β}, All2 R x y → x.length = y.length
  | [], [], _ => rfl
  | _ :: _, _ :: _, h => by simp [h.2.length]
theorem All2.get {α β : Type} {R : α → β → Prop} : ∀ {x : List α} {y : List β}, All2 R x y → ∀ {i : Nat} {a : α}, x[i]? = some a → ∃ b, y[i]? = some b ∧ R a b
  | [], [], _, i, a, h => by simp at h
  | a :: x, b :: y, h, 0, c, hc => by simp at hc; subst hc; exact ⟨b, rfl, h.1⟩
  | a :: x, b :: y, h, i + 1, c, hc => by simpa using h.2.get (by simpa using hc)
theorem All2.mk {α β : Type} {R : α → β → Prop} : ∀ {x : List α} {y : List β}, x.length = y.length → (∀ (i : Nat) (a : α) (b : β), x[i]? = some a → y[i]? = some b → R a b) → All2 R x y
  | [], [], _, _ => trivial
  | [], _ :: _, h, _ => by simp at h
  | _ :: _, [], h, _ => by simp at h
  | a :: x, b :: y, h, k => ⟨k 0 a b rfl rfl, All2.mk (by simpa using h) fun i c d hc hd => k (i + 1) c d (by simpa using hc) (by simpa using hd)⟩
theorem All2.mono {α β : Type} {R S : α → β → Prop} : ∀ {x : List α} {y : List β}, All2 R x y → (∀ a b, R a b → S a b) → All2 S x y
  | [], [], _, _ => trivial
  | _ :: _, _ :: _, h, k => ⟨k _ _ h.1, h.2.mono k⟩
theorem All2.app {α β : Type} {R : α → β → Prop} : ∀ {x : List α} {y : List β} {x' : List α} {y' : List β}, All2 R x y → All2 R x' y' → All2 R (x ++ x') (y ++ y')
  | [], [], _, _, _, h => h
  | _ :: _, _ :: _, _, _, h, k => ⟨h.1, h.2.app k⟩
theorem All2.take {α β : Type} {R : α → β → Prop} : ∀ {x : List α} {y : List β}, All2 R x y → ∀ n, All2 R (x.take n) (y.take n)
  | [], [], _, n => by simp; trivial
  | _ :: _, _ :: _, h, 0 => by simp; trivial
  | _ :: _, _ :: _, h, n + 1 => ⟨h.1, h.2.take n⟩
theorem All2.drop {α β : Type} {R : α → β → Prop} : ∀ {x : List α} {y : List β}, All2 R x y → ∀ n, All2 R (x.drop n) (y.drop n)
  | [], [], _, n => by simp; trivial
  | a :: x, b :: y, h, 0 => h
  | _ :: _, _ :: _, h, n + 1 => h.2.drop n

structure Loc where
  m : Nat
  m0 : Nat
  sz : Nat
  len : Nat
structure Ph where
  f : Nat → Option Loc
  fm : Nat → Option Obj
instance : CoeFun Ph (fun _ => Nat → Option Loc) := ⟨Ph.f⟩
def Ph.cell (φ : Ph) (a : Addr) : Option Value :=
  match φ.fm a.block with
  | some (.cells c _ _) => if a.spot.isSome then none else c[a.off]?
  | _ => none

mutual
def CR (φ : Ph) : SC → Value → Prop
  | .bool b, v => v = .bool b
  | .int k n, v => v = .int k n
  | .str l, v => ∃ s : ByteArray, v = .string s ∧ s.data.toList.map UInt8.toNat = l
  | .nilp, v => v = .pointer none
  | .ptr b o, v => ∃ L, φ b = some L ∧ v = .pointer (some ⟨L.m, L.m0 + o, none⟩)
  | .nils, v => v = .slice none 0 0
  | .em, v => ∃ a c, v = .slice (some a) 0 c ∧ c ≤ maxLen
  | .sl b o n s c, v => ∃ L a cap, φ b = some L ∧ v = .slice (some a) n cap ∧ (0 < cap → a = ⟨L.m, L.m0 + o, none⟩) ∧ n ≤ cap ∧ cap ≤ maxLen ∧ L.m0 + o + cap * s ≤ L.sz ∧
      (match c with | some c => c = cap | none => L.len ≤ o + cap * s)
  | .mp none, v => v = .map none
  | .mp (some b), v => ∃ L, φ b = some L ∧ v = .map (some L.m)
  | .fz n s l c, v => l.length = n * s ∧ ∃ a cap, v = .slice (some a) n cap ∧ n ≤ cap ∧ cap ≤ maxLen ∧ (∀ c', c = some c' → c' = cap) ∧ CRs φ a 0 l
  | .fp l o, v => ∃ a, v = .pointer (some (a.add o)) ∧ CRs φ a 0 l
  | .cl f x y, v => ∃ a b : Array Value, v = .func (.func f) a b ∧ CRl φ x a.toList ∧ CRl φ y b.toList
  | .ifc t x, v => ∃ u, v = .iface t u ∧ CR φ x u
def CRl (φ : Ph) : List SC → List Value → Prop
  | [], l => l = []
  | x :: l, r => ∃ u r', r = u :: r' ∧ CR φ x u ∧ CRl φ l r'
def CRs (φ : Ph) (a : Addr) : Nat → List SC → Prop
  | _, [] => True
  | i, x :: l => (∃ u, φ.cell (a.add i) = some u ∧ CR φ x u) ∧ CRs φ a (i + 1) l
end
theorem CRl.all2 {φ : Ph} : ∀ {l : List SC} {r : List Value}, CRl φ l r → All2 (CR φ) l r
  | [], r, h => by simp only [CRl] at h; subst h; trivial
  | x :: l, r, h => by
    simp only [CRl] at h
    obtain ⟨u, r', rfl, h1, h2⟩ := h
    exact ⟨h1, CRl.all2 h2⟩
theorem CRl.of {φ : Ph} : ∀ {l : List SC} {r : List Value}, All2 (CR φ) l r → CRl φ l r
  | [], [], _ => by simp only [CRl]
  | x :: l, u :: r, h => by
    simp only [CRl]
    exact ⟨u, r, rfl, h.1, CRl.of h.2⟩
theorem CRs.get {φ : Ph} {a : Addr} : ∀ {l : List SC} {i : Nat}, CRs φ a i l → ∀ {j : Nat} {x : SC}, l[j]? = some x → ∃ u, φ.cell (a.add (i + j)) = some u ∧ CR φ x u
  | [], i, _, j, x, h => by simp at h
  | y :: l, i, h, 0, x, hx => by
    simp only [List.getElem?_cons_zero, Option.some.injEq] at hx
    subst hx
    simp only [CRs] at h
    exact h.1
  | y :: l, i, h, j + 1, x, hx => by
    simp only [List.getElem?_cons_succ] at hx
    simp only [CRs] at h
    have := CRs.get h.2 hx
    rwa [show i + 1 + j = i + (j + 1) by omega] at this
theorem CRs.mk {φ : Ph} {a : Addr} : ∀ {l : List SC} {i : Nat}, (∀ (j : Nat) (x : SC), l[j]? = some x → ∃ u, φ.cell (a.add (i + j)) = some u ∧ CR φ x u) → CRs φ a i l
  | [], i, _ => by simp [CRs]
  | y :: l, i, h => by
    simp only [CRs]
    exact ⟨h 0 y rfl, CRs.mk fun j x hx => by
      have := h (j + 1) x (by simpa using hx)
      rwa [show i + (j + 1) = i + 1 + j by omega] at this⟩
def VR1 (φ : Ph) : SV → Value → Prop
  | .c x, v => CR φ x v
  | .agg l, v => ∃ cs : Array Value, v = .agg cs ∧ All2 (CR φ) l cs.toList
  | .tup _, _ => False
def VR (φ : Ph) : SV → Value → Prop
  | .tup l, v => ∃ vs : Array Value, v = .tuple vs ∧ All2 (VR1 φ) l vs.toList
  | x, v => VR1 φ x v
structure Le (φ ψ : Ph) : Prop where
  f : ∀ b L, φ b = some L → ψ b = some L
  fm : ∀ m o, φ.fm m = some o → ψ.fm m = some o
theorem Le.refl (φ : Ph) : Le φ φ := ⟨fun _ _ h => h, fun _ _ h => h⟩
theorem Le.trans {φ ψ χ : Ph} (h : Le φ ψ) (k : Le ψ χ) : Le φ χ := ⟨fun b L hb => k.f b L (h.f b L hb), fun m o hm => k.fm m o (h.fm m o hm)⟩
theorem Le.cell {φ ψ : Ph} (h : Le φ ψ) {a : Addr} {u : Value} (hu : φ.cell a = some u) : ψ.cell a = some u := by
  unfold Ph.cell at hu ⊢
  cases hm : φ.fm a.block with
  | none => simp [hm] at hu
  | some o => rw [h.fm _ _ hm]; rw [hm] at hu; exact hu
mutual
theorem CR.mono {φ ψ : Ph} (h : Le φ ψ) : ∀ {x : SC} {v : Value}, CR φ x v → CR ψ x v
  | .bool _, _, r => by simpa only [CR] using r
  | .int _ _, _, r => by simpa only [CR] using r
  | .str _, _, r => by simpa only [CR] using r
  | .nilp, _, r => by simpa only [CR] using r
  | .ptr _ _, _, r => by simp only [CR] at r ⊢; obtain ⟨L, h1, h2⟩ := r; exact ⟨L, h.f _ _ h1, h2⟩
  | .nils, _, r => by simpa only [CR] using r
  | .em, _, r => by simpa only [CR] using r
  | .sl _ _ _ _ _, _, r => by simp only [CR] at r ⊢; obtain ⟨L, a, cap, h1, h2⟩ := r; exact ⟨L, a, cap, h.f _ _ h1, h2⟩
  | .mp none, _, r => by simpa only [CR] using r
  | .mp (some _), _, r => by simp only [CR] at r ⊢; obtain ⟨L, h1, h2⟩ := r; exact ⟨L, h.f _ _ h1, h2⟩
  | .fz _ _ _ _, _, r => by simp only [CR] at r ⊢; obtain ⟨h0, a, cap, h1, h2, h3, h4, h5⟩ := r; exact ⟨h0, a, cap, h1, h2, h3, h4, CRs.mono h h5⟩
  | .fp _ _, _, r => by simp only [CR] at r ⊢; obtain ⟨a, h1, h2⟩ := r; exact ⟨a, h1, CRs.mono h h2⟩
  | .cl _ _ _, _, r => by simp only [CR] at r ⊢; obtain ⟨a, b, h1, h2, h3⟩ := r; exact ⟨a, b, h1, CRl.mono h h2, CRl.mono h h3⟩
  | .ifc _ _, _, r => by simp only [CR] at r ⊢; obtain ⟨u, h1, h2⟩ := r; exact ⟨u, h1, CR.mono h h2⟩
theorem CRl.mono {φ ψ : Ph} (h : Le φ ψ) : ∀ {l : List SC} {r : List Value}, CRl φ l r → CRl ψ l r
  | [], _, r => by simpa only [CRl] using r
  | x :: l, _, r => by
    simp only [CRl] at r ⊢
    obtain ⟨u, r', h1, h2, h3⟩ := r
    exact ⟨u, r', h1, CR.mono h h2, CRl.mono h h3⟩
theorem CRs.mono {φ ψ : Ph} (h : Le φ ψ) {a : Addr} : ∀ {l : List SC} {i : Nat}, CRs φ a i l → CRs ψ a i l
  | [], _, _ => by simp [CRs]
  | x :: l, i, r => by
    simp only [CRs] at r ⊢
    obtain ⟨⟨u, h1, h2⟩, h3⟩ := r
    exact ⟨⟨u, h.cell h1, CR.mono h h2⟩, CRs.mono h h3⟩
end
theorem VR1.mono {φ ψ : Ph} (h : Le φ ψ) : ∀ {x : SV} {v : Value}, VR1 φ x v → VR1 ψ x v
  | .c _, _, r => CR.mono h r
  | .agg _, _, ⟨cs, h1, h2⟩ => ⟨cs, h1, h2.mono fun _ _ r => r.mono h⟩
  | .tup _, _, r => r
theorem VR.mono {φ ψ : Ph} (h : Le φ ψ) : ∀ {x : SV} {v : Value}, VR φ x v → VR ψ x v
  | .c _, _, r => CR.mono h r
  | .agg l, v, r => VR1.mono (x := .agg l) h r
  | .tup _, _, ⟨vs, h1, h2⟩ => ⟨vs, h1, h2.mono fun _ _ r => r.mono h⟩
theorem CR.one {φ : Ph} {x : SC} {v : Value} (r : CR φ x v) : v.oneCell' = true := by
  cases x with
  | mp b => cases b with
    | none => simp only [CR] at r; subst r; rfl
    | some b => simp only [CR] at r; obtain ⟨_, _, rfl⟩ := r; rfl
  | bool b => simp only [CR] at r; subst r; rfl
  | int k n => simp only [CR] at r; subst r; rfl
  | str l => simp only [CR] at r; obtain ⟨_, rfl, _⟩ := r; rfl
  | nilp => simp only [CR] at r; subst r; rfl
  | ptr b o => simp only [CR] at r; obtain ⟨_, _, rfl⟩ := r; rfl
  | nils => simp only [CR] at r; subst r; rfl
  | em => simp only [CR] at r; obtain ⟨_, _, rfl, _⟩ := r; rfl
  | sl b o n s c => simp only [CR] at r; obtain ⟨_, _, _, _, rfl, _⟩ := r; rfl
  | fz n s l c => simp only [CR] at r; obtain ⟨_, _, _, rfl, _⟩ := r; rfl
  | fp l o => simp only [CR] at r; obtain ⟨_, rfl, _⟩ := r; rfl
  | cl f x y => simp only [CR] at r; obtain ⟨_, _, rfl, _⟩ := r; rfl
  | ifc t x => simp only [CR] at r; obtain ⟨_, rfl, _⟩ := r; rfl
theorem CR.cells {φ : Ph} {x : SC} {v : Value} (h : CR φ x v) : v.cells = #[v] := by
  have := h.one
  cases v <;> simp_all [Value.oneCell', Value.cells]
theorem VR.cells {φ : Ph} : ∀ {x : SV} {v : Value} {cs : List SC}, VR φ x v → x.cells = some cs → All2 (CR φ) cs v.cells.toList
  | .c x, v, cs, r, h => by
    simp only [SV.cells, Option.some.injEq] at h
    subst h
    rw [CR.cells r]
    exact ⟨r, trivial⟩
  | .agg l, v, cs, ⟨a, h1, h2⟩, h => by
    simp only [SV.cells, Option.some.injEq] at h
    subst h h1
    exact h2
  | .tup _, _, _, _, h => by simp [SV.cells] at h

def ER (φ : Ph) (p : Nat × SC × SV) (e : MapEntry) : Prop := e.born = p.1 ∧ CR φ p.2.1 e.key ∧ VR1 φ p.2.2 e.val
def MR (φ : Ph) : Option Nat → Option Nat → Prop
  | none, m => m = none
  | some b, m => ∃ L, φ b = some L ∧ m = some L.m
theorem ER.mono {φ ψ : Ph} (h : Le φ ψ) {p : Nat × SC × SV} {e : MapEntry} (r : ER φ p e) : ER ψ p e := ⟨r.1, r.2.1.mono h, r.2.2.mono h⟩
theorem MR.mono {φ ψ : Ph} (h : Le φ ψ) : ∀ {b m : Option Nat}, MR φ b m → MR ψ b m
  | none, _, r => r
  | some _, _, ⟨L, h1, h2⟩ => ⟨L, h.f _ _ h1, h2⟩
def Live (base : Nat) (φ : Ph) (w : World) (L : Loc) : SO → Prop
  | .row q own => L.len = q.length ∧ ∃ (cs : Array Value) (E : TypeId) (fr : Nat × Nat), w.heap[L.m]? = some (.cells cs E fr) ∧
      (∀ (i : Nat) (x : SC), q[i]? = some x → ∃ v, cs[L.m0 + i]? = some v ∧ CR φ x v) ∧
      (own = true → base ≤ L.m ∧ cs.size = L.sz ∧ L.m0 + q.length ≤ cs.size ∧ (fr.1 = fr.2 ∨ cs.size ≤ fr.1))
  | .map es clock => base ≤ L.m ∧ ∃ (vs : Array MapEntry), w.heap[L.m]? = some (.map vs clock) ∧ All2 (ER φ) es vs.toList
  | .iter m since seen last => base ≤ L.m ∧ L.m0 = 0 ∧ ∃ m', w.heap[L.m]? = some (.mapIter m' since seen.toArray last) ∧ MR φ m m'
def SO.own : SO → Bool
  | .row _ b => b
  | .map _ _ => true
  | .iter _ _ _ _ => true
def Owns (φ : Ph) (h : SH) (b : Nat) (L : Loc) : Prop := ∃ q, h.get b = some q ∧ q.own = true ∧ φ b = some L
structure HR (base : Nat) (φ : Ph) (h : SH) (w : World) : Prop where
  dom : ∀ b L, φ b = some L → b < h.next
  lo : base ≤ w.heap.size
  live : ∀ b q, h.get b = some q → ∃ L, φ b = some L ∧ Live base φ w L q
  froz : ∀ m o, φ.fm m = some o → w.heap[m]? = some o ∧ ∀ b L, Owns φ h b L → L.m ≠ m
  inj : ∀ b b' q L L', Owns φ h b L → h.get b' = some q → φ b' = some L' → b ≠ b' → L.m ≠ L'.m
structure Mv (φ : Ph) (h : SH) (w : World) (φ' : Ph) (h' : SH) (w' : World) : Prop where
  le : Le φ φ'
  os : w'.os = w.os
  tape : w'.tape = w.tape
  output : w'.output = w.output
  size : w.heap.size ≤ w'.heap.size
  keep : ∀ k, k < w.heap.size → (∀ b L, Owns φ h b L → L.m ≠ k) → w'.heap[k]? = w.heap[k]?
  own : ∀ b L, Owns φ' h' b L → w.heap.size ≤ L.m ∨ ∃ b0 L0, Owns φ h b0 L0 ∧ L0.m = L.m
  has : ∀ b q L, h'.get b = some q → φ' b = some L → w.heap.size ≤ L.m ∨ ∃ b0 q0 L0, h.get b0 = some q0 ∧ φ b0 = some L0 ∧ L0.m = L.m
  fm : ∀ m o, φ'.fm m = some o → φ.fm m = some o ∨ w.heap.size ≤ m ∨ ∃ b L, Owns φ h b L ∧ L.m = m
  nx : h.next ≤ h'.next
  nw : ∀ b L, φ' b = some L → φ b = some L ∨ h.next ≤ b
theorem Mv.refl (φ : Ph) (h : SH) (w : World) : Mv φ h w φ h w := ⟨Le.refl _, rfl, rfl, rfl, Nat.le_refl _, fun _ _ _ => rfl, fun b L hb => .inr ⟨b, L, hb, rfl⟩, fun b q L hb hL => .inr ⟨b, q, L, hb, hL, rfl⟩, fun _ _ h => .inl h, Nat.le_refl _, fun _ _ h => .inl h⟩
theorem Mv.trans {φ φ1 φ2 : Ph} {h h1 h2 : SH} {w w1 w2 : World} (a : Mv φ h w φ1 h1 w1) (b : Mv φ1 h1 w1 φ2 h2 w2) : Mv φ h w φ2 h2 w2 := by
  refine ⟨a.le.trans b.le, b.os.trans a.os, b.tape.trans a.tape, b.output.trans a.output, Nat.le_trans a.size b.size, fun k hk hn => ?_, fun c L hc => ?_, fun c q L hc hL => ?_, fun m o hm => ?_, Nat.le_trans a.nx b.nx, fun c L hc => ?_⟩
  · refine (b.keep k (Nat.lt_of_lt_of_le hk a.size) fun c L hc => ?_).trans (a.keep k hk hn)
    rcases a.own c L hc with h1 | ⟨b0, L0, h1, h2⟩
    · omega
    · rw [← h2]; exact hn _ _ h1
  · rcases b.own c L hc with h1 | ⟨b0, L0, h1, h2⟩
    · exact .inl (Nat.le_trans a.size h1)
    · rw [← h2]; exact a.own _ _ h1
  · rcases b.has c q L hc hL with h1 | ⟨b0, q0, L0, h1, h2, h3⟩
    · exact .inl (Nat.le_trans a.size h1)
    · rw [← h3]; exact a.has _ _ _ h1 h2
  · rcases b.fm m o hm with h1 | h1 | ⟨c, L, h1, h2⟩
    · exact a.fm m o h1
    · exact .inr (.inl (Nat.le_trans a.size h1))
    · rcases a.own _ _ h1 with h3 | ⟨b0, L0, h3, h4⟩
      · exact .inr (.inl (by omega))
      · exact .inr (.inr ⟨b0, L0, h3, h4.trans h2⟩)
  · rcases b.nw c L hc with h1 | h1
    · exact a.nw c L h1
    · exact .inr (Nat.le_trans a.nx h1)
theorem HR.same {base : Nat} {φ : Ph} {h : SH} {w w' : World} (r : HR base φ h w) (e : w'.heap = w.heap) : HR base φ h w' := by
  refine ⟨r.dom, by rw [e]; exact r.lo, fun b q hb => ?_, fun m o hm => by rw [e]; exact r.froz m o hm, r.inj⟩
  obtain ⟨L, h1, h2⟩ := r.live b q hb
  refine ⟨L, h1, ?_⟩
  cases q with
  | row q own => simpa only [Live, e] using h2
  | map es clock => simpa only [Live, e] using h2
  | iter m s n l => simpa only [Live, e] using h2
theorem Mv.same {φ : Ph} {h : SH} {w w' : World} (e : w'.heap = w.heap) (os : w'.os = w.os) (tape : w'.tape = w.tape) (output : w'.output = w.output) : Mv φ h w φ h w' :=
  ⟨Le.refl _, os, tape, output, by rw [e]; exact Nat.le_refl _, fun _ _ _ => by rw [e], fun b L hb => .inr ⟨b, L, hb, rfl⟩, fun b q L hb hL => .inr ⟨b, q, L, hb, hL, rfl⟩, fun _ _ h => .inl h, Nat.le_refl _, fun _ _ h => .inl h⟩
theorem Live.mono {base : Nat} {φ ψ : Ph} {w w' : World} {L : Loc} {q : SO} (hle : Le φ ψ) (hw : w'.heap[L.m]? = w.heap[L.m]?) (h : Live base φ w L q) : Live base ψ w' L q := by
  cases q with
  | row q own =>
    obtain ⟨h1, cs, E, fr, h2, h3, h4⟩ := h
    exact ⟨h1, cs, E, fr, hw.trans h2, fun i x hx => let ⟨v, a, b⟩ := h3 i x hx; ⟨v, a, b.mono hle⟩, h4⟩
  | map es clock =>
    obtain ⟨h1, vs, h2, h3⟩ := h
    exact ⟨h1, vs, hw.trans h2, h3.mono fun _ _ r => r.mono hle⟩
  | iter m s n l =>
    obtain ⟨h1, h2, m', h3, h4⟩ := h
    exact ⟨h1, h2, m', hw.trans h3, h4.mono hle⟩
theorem Live.lt {base : Nat} {φ : Ph} {w : World} {L : Loc} {q : SO} (h : Live base φ w L q) : L.m < w.heap.size := by
  cases q with
  | row q own => obtain ⟨_, cs, E, fr, h2, _⟩ := h; exact (Array.getElem?_eq_some_iff.1 h2).1
  | map es clock => obtain ⟨_, vs, h2, _⟩ := h; exact (Array.getElem?_eq_some_iff.1 h2).1
  | iter m s n l => obtain ⟨_, _, m', h2, _⟩ := h; exact (Array.getElem?_eq_some_iff.1 h2).1
theorem Live.base {base : Nat} {φ : Ph} {w : World} {L : Loc} {q : SO} (h : Live base φ w L q) (ho : q.own = true) : base ≤ L.m := by
  cases q with
  | row q own => obtain ⟨_, cs, E, fr, _, _, h4⟩ := h; exact (h4 ho).1
  | map es clock => exact h.1
  | iter m s n l => exact h.1
def Ph.add (φ : Ph) (b : Nat) (L : Loc) : Ph := { φ with f := fun j => if j = b then some L else φ j }
theorem Ph.le_add {φ : Ph} {b : Nat} {L : Loc} (h : φ b = none) : Le φ (φ.add b L) := by
  refine ⟨fun j M hj => ?_, fun m o hm => hm⟩
  unfold Ph.add
  by_cases e : j = b
  · subst e; rw [h] at hj; cases hj
  · simp [e, hj]
theorem Ph.add_new {φ : Ph} {n c : Nat} {L M : Loc} (h : (φ.add n L) c = some M) : φ c = some M ∨ n ≤ c := by
  by_cases e : c = n
  · exact .inr (by omega)
  · left; simpa [Ph.add, e] using h
theorem HR.fresh {base : Nat} {φ : Ph} {h : SH} {w : World} (r : HR base φ h w) : φ h.next = none := by
  cases e : φ h.next with
  | none => rfl
  | some L => exact absurd (r.dom _ _ e) (Nat.lt_irrefl _)
theorem HR.old {base : Nat} {φ : Ph} {h : SH} {w : World} (r : HR base φ h w) {b : Nat} {q : SO} (hb : h.get b = some q) : b < h.next := by
  obtain ⟨L, h1, _⟩ := r.live b q hb
  exact r.dom _ _ h1
theorem HR.alloc {base : Nat} {φ : Ph} {h : SH} {w w' : World} (r : HR base φ h w) (q : List SC) (cs : Array Value) (E : TypeId) (fr : Nat × Nat)
    (hsz : w'.heap.size = w.heap.size + 1) (hold : ∀ k, k < w.heap.size → w'.heap[k]? = w.heap[k]?) (hnew : w'.heap[w.heap.size]? = some (.cells cs E fr))
    (hq : ∀ (i : Nat) (x : SC), q[i]? = some x → ∃ v, cs[i]? = some v ∧ CR φ x v) (hfr : (fr.1 = fr.2 ∨ cs.size ≤ fr.1))
    (os : w'.os = w.os) (tape : w'.tape = w.tape) (output : w'.output = w.output) :
    HR base (φ.add h.next ⟨w.heap.size, 0, cs.size, q.length⟩) (h.new q) w' ∧ Mv φ h w (φ.add h.next ⟨w.heap.size, 0, cs.size, q.length⟩) (h.new q) w' ∧
      (φ.add h.next ⟨w.heap.size, 0, cs.size, q.length⟩) h.next = some ⟨w.heap.size, 0, cs.size, q.length⟩ := by
  have hle : Le φ (φ.add h.next ⟨w.heap.size, 0, cs.size, q.length⟩) := Ph.le_add r.fresh
  have hat : (φ.add h.next ⟨w.heap.size, 0, cs.size, q.length⟩) h.next = some ⟨w.heap.size, 0, cs.size, q.length⟩ := by simp [Ph.add]
  have hne : ∀ b, b ≠ h.next → (φ.add h.next ⟨w.heap.size, 0, cs.size, q.length⟩) b = φ b := fun b hb => by simp [Ph.add, hb]
  have hql : 0 + q.length ≤ cs.size := by
    rcases Nat.eq_zero_or_pos q.length with h0 | h0
    · omega
    · obtain ⟨v, hv, _⟩ := hq (q.length - 1) q[q.length - 1] (List.getElem?_eq_getElem (by omega))
      have := (Array.getElem?_eq_some_iff.1 hv).1
      omega
  refine ⟨⟨fun b L hb => ?_, by have := r.lo; omega, fun b o hb => ?_, fun m o hm => ?_, ?_⟩, ⟨hle, os, tape, output, by omega, fun k hk _ => hold k hk, ?_, ?_, fun _ _ h => .inl h, Nat.le_succ _, fun c M hc => Ph.add_new hc⟩, hat⟩
  · by_cases e : b = h.next
    · subst e; simp
    · rw [hne b e] at hb; have := r.dom _ _ hb; simp; omega
  · rw [SH.get_new] at hb
    by_cases e : b = h.next
    · rw [if_pos e] at hb
      cases hb
      subst e
      exact ⟨_, hat, rfl, cs, E, fr, hnew, fun i x hx => let ⟨v, a, b⟩ := hq i x hx; ⟨v, by simpa using a, b.mono hle⟩, fun _ => ⟨r.lo, rfl, hql, hfr⟩⟩
    · rw [if_neg e] at hb
      obtain ⟨L, h1, h2⟩ := r.live b o hb
      exact ⟨L, hle.f _ _ h1, h2.mono hle (hold _ h2.lt)⟩
  · obtain ⟨g1, g2⟩ := r.froz m o hm
    have hlt : m < w.heap.size := (Array.getElem?_eq_some_iff.1 g1).1
    refine ⟨(hold m hlt).trans g1, ?_⟩
    rintro b L ⟨q1, hb, ho, hL⟩
    rw [SH.get_new] at hb
    by_cases e : b = h.next
    · subst e
      rw [hat] at hL; cases hL
      simp only; omega
    · rw [if_neg e] at hb
      rw [hne b e] at hL
      exact g2 b L ⟨q1, hb, ho, hL⟩
  · rintro b b' o L L' ⟨o1, hb, ho, hL⟩ hb' hL' hbb
    rw [SH.get_new] at hb hb'
    by_cases e : b = h.next
    · subst e
      rw [hat] at hL; cases hL
      rw [if_neg (fun e => hbb e.symm)] at hb'
      obtain ⟨M, h1, h2⟩ := r.live b' o hb'
      rw [hle.f _ _ h1] at hL'
      cases hL'
      have := h2.lt
      simp only
      omega
    · rw [if_neg e] at hb
      rw [hne b e] at hL
      by_cases e' : b' = h.next
      · subst e'
        rw [hat] at hL'; cases hL'
        obtain ⟨M, h1, h2⟩ := r.live b o1 hb
        rw [h1] at hL
        cases hL
        have := h2.lt
        simp only
        omega
      · rw [if_neg e'] at hb'
        rw [hne b' e'] at hL'
        exact r.inj b b' o L L' ⟨o1, hb, ho, hL⟩ hb' hL' hbb
  · rintro b L ⟨o, hb, ho, hL⟩
    rw [SH.get_new] at hb
    by_cases e : b = h.next
    · subst e
      rw [hat] at hL; cases hL
      exact .inl (Nat.le_refl _)
    · rw [if_neg e] at hb
      rw [hne b e] at hL
      exact .inr ⟨b, L, ⟨o, hb, ho, hL⟩, rfl⟩
  · intro b o L hb hL
    rw [SH.get_new] at hb
    by_cases e : b = h.next
    · subst e
      rw [hat] at hL; cases hL
      exact .inl (Nat.le_refl _)
    · rw [if_neg e] at hb
      rw [hne b e] at hL
      exact .inr ⟨b, o, L, hb, hL, rfl⟩
theorem HR.allocO {base : Nat} {φ : Ph} {h : SH} {w w' : World} (r : HR base φ h w) (q : SO) (o : Obj) (hnr : q.own = true)
    (hsz : w'.heap.size = w.heap.size + 1) (hold : ∀ k, k < w.heap.size → w'.heap[k]? = w.heap[k]?) (hnew : w'.heap[w.heap.size]? = some o)
    (hq : ∀ ψ, Le φ ψ → Live base ψ w' ⟨w.heap.size, 0, 0, 0⟩ q)
    (os : w'.os = w.os) (tape : w'.tape = w.tape) (output : w'.output = w.output) :
    HR base (φ.add h.next ⟨w.heap.size, 0, 0, 0⟩) (h.newO q) w' ∧ Mv φ h w (φ.add h.next ⟨w.heap.size, 0, 0, 0⟩) (h.newO q) w' ∧
      (φ.add h.next ⟨w.heap.size, 0, 0, 0⟩) h.next = some ⟨w.heap.size, 0, 0, 0⟩ := by
  have hle : Le φ (φ.add h.next ⟨w.heap.size, 0, 0, 0⟩) := Ph.le_add r.fresh
  have hat : (φ.add h.next ⟨w.heap.size, 0, 0, 0⟩) h.next = some ⟨w.heap.size, 0, 0, 0⟩ := by simp [Ph.add]
  have hne : ∀ b, b ≠ h.next → (φ.add h.next ⟨w.heap.size, 0, 0, 0⟩) b = φ b := fun b hb => by simp [Ph.add, hb]
  refine ⟨⟨fun b L hb => ?_, by have := r.lo; omega, fun b o hb => ?_, fun m o hm => ?_, ?_⟩, ⟨hle, os, tape, output, by omega, fun k hk _ => hold k hk, ?_, ?_, fun _ _ h => .inl h, Nat.le_succ _, fun c M hc => Ph.add_new hc⟩, hat⟩
  · by_cases e : b = h.next
    · subst e; simp
    · rw [hne b e] at hb; have := r.dom _ _ hb; simp; omega
  · rw [SH.get_newO] at hb
    by_cases e : b = h.next
    · rw [if_pos e] at hb
      cases hb
      subst e
      exact ⟨_, hat, hq _ hle⟩
    · rw [if_neg e] at hb
      obtain ⟨L, h1, h2⟩ := r.live b o hb
      exact ⟨L, hle.f _ _ h1, h2.mono hle (hold _ h2.lt)⟩
  · obtain ⟨g1, g2⟩ := r.froz m o hm
    have hlt : m < w.heap.size := (Array.getElem?_eq_some_iff.1 g1).1
    refine ⟨(hold m hlt).trans g1, ?_⟩
    rintro b L ⟨q1, hb, ho, hL⟩
    rw [SH.get_newO] at hb
    by_cases e : b = h.next
    · subst e
      rw [hat] at hL; cases hL
      simp only; omega
    · rw [if_neg e] at hb
      rw [hne b e] at hL
      exact g2 b L ⟨q1, hb, ho, hL⟩
  · rintro b b' o L L' ⟨o1, hb, ho, hL⟩ hb' hL' hbb
    rw [SH.get_newO] at hb hb'
    by_cases e : b = h.next
    · subst e
      rw [hat] at hL; cases hL
      rw [if_neg (fun e => hbb e.symm)] at hb'
      obtain ⟨M, h1, h2⟩ := r.live b' o hb'
      rw [hle.f _ _ h1] at hL'
      cases hL'
      have := h2.lt
      simp only
      omega
    · rw [if_neg e] at hb
      rw [hne b e] at hL
      by_cases e' : b' = h.next
      · subst e'
        rw [hat] at hL'; cases hL'
        obtain ⟨M, h1, h2⟩ := r.live b o1 hb
        rw [h1] at hL
        cases hL
        have := h2.lt
        simp only
        omega
      · rw [if_neg e'] at hb'
        rw [hne b' e'] at hL'
        exact r.inj b b' o L L' ⟨o1, hb, ho, hL⟩ hb' hL' hbb
  · rintro b L ⟨o, hb, ho, hL⟩
    rw [SH.get_newO] at hb
    by_cases e : b = h.next
    · subst e
      rw [hat] at hL; cases hL
      exact .inl (Nat.le_refl _)
    · rw [if_neg e] at hb
      rw [hne b e] at hL
      exact .inr ⟨b, L, ⟨o, hb, ho, hL⟩, rfl⟩
  · intro b o L hb hL
    rw [SH.get_newO] at hb
    by_cases e : b = h.next
    · subst e
      rw [hat] at hL; cases hL
      exact .inl (Nat.le_refl _)
    · rw [if_neg e] at hb
      rw [hne b e] at hL
      exact .inr ⟨b, o, L, hb, hL, rfl⟩
theorem HR.forget {base : Nat} {φ : Ph} {h h' : SH} {w : World} (r : HR base φ h w) (hn : h.next ≤ h'.next) (hs : ∀ b q, h'.get b = some q → h.get b = some q) : HR base φ h' w ∧ Mv φ h w φ h' w := by
  have ho : ∀ b L, Owns φ h' b L → Owns φ h b L := fun b L ⟨q, a, b, c⟩ => ⟨q, hs _ _ a, b, c⟩
  exact ⟨⟨fun b L hb => Nat.lt_of_lt_of_le (r.dom b L hb) hn, r.lo, fun b q hb => r.live b q (hs b q hb), fun m o hm => ⟨(r.froz m o hm).1, fun b L hb => (r.froz m o hm).2 b L (ho _ _ hb)⟩, fun b b' q L L' h1 h2 h3 h4 => r.inj b b' q L L' (ho _ _ h1) (hs _ _ h2) h3 h4⟩,
    ⟨Le.refl _, rfl, rfl, rfl, Nat.le_refl _, fun _ _ _ => rfl, fun b L hb => .inr ⟨b, L, ho _ _ hb, rfl⟩, fun b q L hb hL => .inr ⟨b, q, L, hs _ _ hb, hL, rfl⟩, fun _ _ h => .inl h, hn, fun _ _ h => .inl h⟩⟩
theorem HR.change {base : Nat} {φ : Ph} {h : SH} {w w' : World} (r : HR base φ h w) {b : Nat} {L : Loc} (hb : Owns φ h b L) (q : SO) (hsz : w'.heap.size = w.heap.size)
    (hold : ∀ k, k ≠ L.m → w'.heap[k]? = w.heap[k]?) (hq : Live base φ w' L q) (os : w'.os = w.os) (tape : w'.tape = w.tape) (output : w'.output = w.output) :
    HR base φ (h.put b (some q)) w' ∧ Mv φ h w φ (h.put b (some q)) w' := by
  obtain ⟨q0, hg, ho, hL⟩ := hb
  refine ⟨⟨r.dom, by rw [hsz]; exact r.lo, fun c o hc => ?_, fun m o hm => ?_, ?_⟩, ⟨Le.refl _, os, tape, output, by omega, fun k hk hn => ?_, ?_, ?_, fun _ _ h => .inl h, Nat.le_refl _, fun _ _ h => .inl h⟩⟩
  · rw [SH.get_put] at hc
    by_cases e : c = b
    · rw [if_pos e] at hc
      cases hc
      subst e
      exact ⟨L, hL, hq⟩
    · rw [if_neg e] at hc
      obtain ⟨M, h1, h2⟩ := r.live c o hc
      exact ⟨M, h1, h2.mono (Le.refl _) (hold _ (fun e' => r.inj b c o L M ⟨q0, hg, ho, hL⟩ hc h1 (fun e'' => e e''.symm) e'.symm))⟩
  · obtain ⟨g1, g2⟩ := r.froz m o hm
    refine ⟨(hold m (fun e => g2 b L ⟨q0, hg, ho, hL⟩ e.symm)).trans g1, ?_⟩
    rintro c M ⟨q1, hc, hoc, hM⟩
    rw [SH.get_put] at hc
    by_cases e : c = b
    · subst e
      rw [hL] at hM; cases hM
      exact g2 c L ⟨q0, hg, ho, hL⟩
    · rw [if_neg e] at hc
      exact g2 c M ⟨q1, hc, hoc, hM⟩
  · rintro c c' o M M' ⟨o1, hc, hoc, hM⟩ hc' hM' hcc
    rw [SH.get_put] at hc hc'
    by_cases e : c = b
    · subst e
      rw [hL] at hM; cases hM
      rw [if_neg (fun e => hcc e.symm)] at hc'
      exact r.inj c c' o L M' ⟨q0, hg, ho, hL⟩ hc' hM' hcc
    · rw [if_neg e] at hc
      by_cases e' : c' = b
      · subst e'
        exact r.inj c c' q0 M M' ⟨o1, hc, hoc, hM⟩ hg hM' hcc
      · rw [if_neg e'] at hc'
        exact r.inj c c' o M M' ⟨o1, hc, hoc, hM⟩ hc' hM' hcc
  · exact hold k (fun e => hn b L ⟨q0, hg, ho, hL⟩ e.symm)
  · rintro c M ⟨o, hc, hoc, hM⟩
    rw [SH.get_put] at hc
    by_cases e : c = b
    · subst e
      exact .inr ⟨c, L, ⟨q0, hg, ho, hL⟩, by rw [hL] at hM; cases hM; rfl⟩
    · rw [if_neg e] at hc
      exact .inr ⟨c, M, ⟨o, hc, hoc, hM⟩, rfl⟩
  · intro c o M hc hM
    rw [SH.get_put] at hc
    by_cases e : c = b
    · subst e
      exact .inr ⟨c, q0, L, hg, hL, by rw [hL] at hM; cases hM; rfl⟩
    · rw [if_neg e] at hc
      exact .inr ⟨c, o, M, hc, hM, rfl⟩
theorem HR.rename {base : Nat} {φ : Ph} {h : SH} {w w' : World} (r : HR base φ h w) {b : Nat} {L : Loc} (hb : Owns φ h b L) (q : List SC) (L' : Loc) (hm' : L'.m = L.m) (hq : Live base φ w' L' (.row q true))
    (hsz : w'.heap.size = w.heap.size) (hold : ∀ k, k ≠ L.m → w'.heap[k]? = w.heap[k]?) (os : w'.os = w.os) (tape : w'.tape = w.tape) (output : w'.output = w.output) :
    HR base (φ.add h.next L') ((h.put b none).new q) w' ∧ Mv φ h w (φ.add h.next L') ((h.put b none).new q) w' ∧ (φ.add h.next L') h.next = some L' := by
  obtain ⟨q0, hg, ho, hL⟩ := hb
  have hle : Le φ (φ.add h.next L') := Ph.le_add r.fresh
  have hat : (φ.add h.next L') h.next = some L' := by simp [Ph.add]
  have hne : ∀ j, j ≠ h.next → (φ.add h.next L') j = φ j := fun j hj => by simp [Ph.add, hj]
  have hget : ∀ j o, ((h.put b none).new q).get j = some o → (j = h.next ∧ o = .row q true) ∨ (j ≠ h.next ∧ j ≠ b ∧ h.get j = some o) := by
    intro j o hj
    rw [SH.get_new] at hj
    by_cases e : j = h.next
    · rw [if_pos (by simpa using e)] at hj; cases hj; exact .inl ⟨e, rfl⟩
    · rw [if_neg (by simpa using e), SH.get_put] at hj
      by_cases e' : j = b
      · rw [if_pos e'] at hj; cases hj
      · rw [if_neg e'] at hj; exact .inr ⟨e, e', hj⟩
  refine ⟨⟨fun j M hj => ?_, by rw [hsz]; exact r.lo, fun j o hj => ?_, fun m o hm => ?_, ?_⟩, ⟨hle, os, tape, output, by omega, fun k hk hn => hold k (fun e => hn b L ⟨q0, hg, ho, hL⟩ e.symm), ?_, ?_, fun _ _ h => .inl h, Nat.le_succ _, fun c M hc => Ph.add_new hc⟩, hat⟩
  · by_cases e : j = h.next
    · subst e; simp
    · rw [hne j e] at hj; have := r.dom _ _ hj; simp; omega
  · rcases hget j o hj with ⟨e, rfl⟩ | ⟨e, e', hj⟩
    · subst e; exact ⟨_, hat, hq.mono hle rfl⟩
    · obtain ⟨M, h1, h2⟩ := r.live j o hj
      exact ⟨M, hle.f _ _ h1, h2.mono hle (hold _ (fun e'' => r.inj b j o L M ⟨q0, hg, ho, hL⟩ hj h1 (fun x => e' x.symm) e''.symm))⟩
  · obtain ⟨g1, g2⟩ := r.froz m o hm
    refine ⟨(hold m (fun e => g2 b L ⟨q0, hg, ho, hL⟩ e.symm)).trans g1, ?_⟩
    rintro c M ⟨q1, hc, hoc, hM⟩
    rcases hget c q1 hc with ⟨e, rfl⟩ | ⟨e, e1, hc⟩
    · subst e
      rw [hat] at hM; cases hM
      rw [hm']
      exact g2 b L ⟨q0, hg, ho, hL⟩
    · rw [hne c e] at hM
      exact g2 c M ⟨q1, hc, hoc, hM⟩
  · rintro c c' o M M' ⟨o1, hc, hoc, hM⟩ hc' hM' hcc
    rcases hget c o1 hc with ⟨e, rfl⟩ | ⟨e, e1, hc⟩
    · subst e
      rw [hat] at hM; cases hM
      rcases hget c' o hc' with ⟨e', _⟩ | ⟨e', e1', hc'⟩
      · exact absurd e'.symm hcc
      · rw [hne c' e'] at hM'
        rw [hm']
        exact r.inj b c' o L M' ⟨q0, hg, ho, hL⟩ hc' hM' (fun e => e1' e.symm)
    · rw [hne c e] at hM
      rcases hget c' o hc' with ⟨e', rfl⟩ | ⟨e', e1', hc'⟩
      · subst e'
        rw [hat] at hM'; cases hM'
        rw [hm']
        exact r.inj c b q0 M L ⟨o1, hc, hoc, hM⟩ hg hL e1
      · rw [hne c' e'] at hM'
        exact r.inj c c' o M M' ⟨o1, hc, hoc, hM⟩ hc' hM' hcc
  · rintro c M ⟨o, hc, hoc, hM⟩
    rcases hget c o hc with ⟨e, rfl⟩ | ⟨e, e1, hc⟩
    · subst e
      rw [hat] at hM; cases hM
      exact .inr ⟨b, L, ⟨q0, hg, ho, hL⟩, hm'.symm⟩
    · rw [hne c e] at hM
      exact .inr ⟨c, M, ⟨o, hc, hoc, hM⟩, rfl⟩
  · intro c o M hc hM
    rcases hget c o hc with ⟨e, rfl⟩ | ⟨e, e1, hc⟩
    · subst e
      rw [hat] at hM; cases hM
      exact .inr ⟨b, q0, L, hg, hL, hm'.symm⟩
    · rw [hne c e] at hM
      exact .inr ⟨c, o, M, hc, hM, rfl⟩
end Go.Proofs.Ytjlfojgacnphmaa.Sim

namespace Go.Proofs.Ytjlfojgacnphmaa
open Go.RowKit

def uvar (u : Nat) : List Int := if u > 127 then ((u % 128 + 128 : Nat) : Int) :: uvar (u / 128) else [(u : Int)]
termination_by u
decreasing_by omega
theorem uvar_big {u : Nat} (h : 127 < u) : uvar u = ((u % 128 + 128 : Nat) : Int) :: uvar (u / 128) := by
  rw [uvar]; simp [h]
theorem uvar_small {u : Nat} (h : u ≤ 127) : uvar u = [(u : Int)] := by
  rw [uvar]; simp [Nat.not_lt.2 h]
theorem uvar_pos (u : Nat) : 1 ≤ (uvar u).length := by
  by_cases h : 127 < u
  · rw [uvar_big h]; simp
  · rw [uvar_small (by omega)]; simp
theorem uvar_len (k : Nat) : ∀ u : Nat, u < 128 ^ k → (uvar u).length ≤ k ∨ k = 0 := by
  induction k with
  | zero => intro u _; exact .inr rfl
  | succ k ih =>
    intro u hu
    left
    by_cases h : 127 < u
    · rw [uvar_big h]
      have h1 : u / 128 < 128 ^ k := by rw [Nat.div_lt_iff_lt_mul (by omega)]; rwa [Nat.pow_succ] at hu
      rcases ih _ h1 with h2 | h2
      · simp; omega
      · subst h2; simp at h1; omega
    · rw [uvar_small (by omega)]; simp
theorem uvar_len64 {u : Nat} (h : u < 18446744073709551616) : (uvar u).length ≤ 10 := by
  rcases uvar_len 10 u (by omega) with h1 | h1
  · exact h1
  · omega
theorem uvar_bytes (k : Nat) : ∀ u : Nat, u < k → Bytes (uvar u) := by
  induction k with
  | zero => intro u h; omega
  | succ k ih =>
    intro u hu
    by_cases h : 127 < u
    · rw [uvar_big h]
      intro x hx
      rcases List.mem_cons.1 hx with rfl | hx
      · omega
      · exact ih (u / 128) (by omega) x hx
    · rw [uvar_small (by omega)]
      exact Bytes.one (by omega) (by omega)
def zz (n : Int) : Nat := if 0 ≤ n then (2 * n).toNat else (-2 * n - 1).toNat
theorem zz_lt {n : Int} (h0 : -9223372036854775808 ≤ n) (h1 : n < 9223372036854775808) : zz n < 18446744073709551616 := by
  unfold zz; split <;> omega
def unzz (u : Nat) : Int := if u % 2 = 0 then (u / 2 : Nat) else -1 - (u / 2 : Nat)
theorem unzz_zz (n : Int) : unzz (zz n) = n := by
  unfold unzz zz; split <;> split <;> omega
theorem zz_unzz (u : Nat) : zz (unzz u) = u := by
  unfold unzz zz; split <;> split <;> omega
def numB (n : Int) : List Int := uvar (zz n)
theorem numB_bytes (n : Int) : Bytes (numB n) := uvar_bytes _ _ (Nat.lt_succ_self _)
theorem numB_pos (n : Int) : 1 ≤ (numB n).length := uvar_pos _
theorem numB_len {n : Int} (h0 : -9223372036854775808 ≤ n) (h1 : n < 9223372036854775808) : (numB n).length ≤ 10 := uvar_len64 (zz_lt h0 h1)
def textB (xs : List Int) : List Int := numB xs.length ++ xs
def flagB (f : Bool) : List Int := [if f then 1 else 0]
theorem flagB_bytes (f : Bool) : Bytes (flagB f) := Bytes.one (by split <;> omega) (by split <;> omega)
/-! ### Reading -/
def rdU : Nat → Nat → List Int → Option (Nat × List Int)
  | _, _, [] => none
  | i, u, x :: rest => if 10 ≤ i then none else if 127 < x then rdU (i + 1) (u + x.toNat % 128 * 128 ^ i) rest
    else if (0 < i ∧ x = 0) ∨ (i = 9 ∧ 1 < x) then none else some (u + x.toNat * 128 ^ i, rest)
def rnum (xs : List Int) : Option (Int × List Int) := (rdU 0 0 xs).map fun p => (unzz p.1, p.2)
theorem rdU_10 (i u : Nat) (xs : List Int) (h : 10 ≤ i) : rdU i u xs = none := by
  cases xs with
  | nil => rfl
  | cons x r => simp [rdU, h]
theorem drop_cons {xs : List Int} {i : Nat} (h : i < xs.length) : xs.drop i = xs.getD i 0 :: xs.drop (i + 1) := by
  rw [List.drop_eq_getElem_cons h]; simp [List.getD, h]
theorem rdU_more {xs : List Int} {i u : Nat} (h : i < xs.length) (h9 : i ≤ 9) (hx : 127 < xs.getD i 0) : rdU i u (xs.drop i) = rdU (i + 1) (u + (xs.getD i 0).toNat % 128 * 128 ^ i) (xs.drop (i + 1)) := by
  rw [drop_cons h, rdU, if_neg (by omega), if_pos hx]
theorem rdU_bad {xs : List Int} {i u : Nat} (h : i < xs.length) (hx : ¬ 127 < xs.getD i 0) (hb : (0 < i ∧ xs.getD i 0 = 0) ∨ (i = 9 ∧ 1 < xs.getD i 0)) : rdU i u (xs.drop i) = none := by
  rw [drop_cons h, rdU, if_neg hx, if_pos hb]; simp
theorem rdU_end {xs : List Int} {i u : Nat} (h : i < xs.length) (h9 : i ≤ 9) (hx : ¬ 127 < xs.getD i 0) (hb : ¬ ((0 < i ∧ xs.getD i 0 = 0) ∨ (i = 9 ∧ 1 < xs.getD i 0))) :
    rdU i u (xs.drop i) = some (u + (xs.getD i 0).toNat * 128 ^ i, xs.drop (i + 1)) := by
  rw [drop_cons h, rdU, if_neg (by omega), if_neg hx, if_neg hb]
theorem add_lt {u i x : Nat} (hu : u < 128 ^ i) (hx : x < 128) : u + x * 128 ^ i < 128 ^ (i + 1) := by
  have h1 : x * 128 ^ i ≤ 127 * 128 ^ i := Nat.mul_le_mul_right _ (by omega)
  have h2 : 128 ^ (i + 1) = 128 * 128 ^ i := by rw [Nat.pow_succ]; omega
  omega
theorem pow_two_seven (i : Nat) : (2 : Int) ^ (7 * i) = ((128 ^ i : Nat) : Int) := by
  rw [Int.pow_mul]; norm_cast
theorem or_step {i m : Nat} {x : Int} (hm : m < 128 ^ i) (h0 : 0 ≤ x) (h1 : x ≤ 255) (h : x.toNat % 128 * 128 ^ i < 18446744073709551616) (hm2 : m < 18446744073709551616) :
    bits .or .u64 (m : Int) (IntKind.u64.wrap (IntKind.u64.wrap (bits .and .u8 x 127) * 2 ^ (7 * i))) = ((m + x.toNat % 128 * 128 ^ i : Nat) : Int) := by
  obtain ⟨y, rfl⟩ := Int.eq_ofNat_of_zero_le h0
  rw [show (127 : Int) = ((127 : Nat) : Int) from rfl, u8_and_nat _ _ (by omega) (by omega), nat_mask7, pow_two_seven]
  simp only [IntKind.wrap_u64, Int.toNat_natCast] at h ⊢
  have e1 : ((y % 128 : Nat) : Int) % 18446744073709551616 * ((128 ^ i : Nat) : Int) = ((y % 128 * 128 ^ i : Nat) : Int) := by
    rw [Int.emod_eq_of_lt (by omega) (by omega)]; simp
  rw [e1, Int.emod_eq_of_lt (by omega) (by omega), bits_or_u64_nat _ _ hm2 h, Nat.or_comm, nat_join (7 * i) _ _ (by rw [Nat.pow_mul]; simp) (by rw [Nat.pow_mul]; exact hm), Nat.add_comm]
theorem pow_le9 {i : Nat} (h : i ≤ 9) : 128 ^ i ≤ 9223372036854775808 := by
  have := Nat.pow_le_pow_right (n := 128) (by omega) h
  omega
theorem pow_le8 {i : Nat} (h : i ≤ 8) : 128 ^ i ≤ 72057594037927936 := by
  have := Nat.pow_le_pow_right (n := 128) (by omega) h
  omega
theorem bits_u64_range (op : BinOp) (x y : Int) : ∃ u : Nat, bits op .u64 x y = (u : Int) ∧ u < 18446744073709551616 := by
  have h : ∃ z, bits op .u64 x y = IntKind.u64.wrap z := by
    unfold bits
    exact ⟨_, rfl⟩
  obtain ⟨z, hz⟩ := h
  rw [hz, IntKind.wrap_u64]
  exact ⟨(z % 18446744073709551616).toNat, by omega, by omega⟩
theorem ofInt_neg1 : (BitVec.ofInt 64 (-1)).toNat = 2 ^ 64 - 1 := by decide
theorem xor_ones (a : Nat) (h : a < 2 ^ 64) : a ^^^ (2 ^ 64 - 1) = 2 ^ 64 - (a + 1) := by
  apply Nat.eq_of_testBit_eq
  intro i
  rw [Nat.testBit_xor, Nat.testBit_two_pow_sub_one, Nat.testBit_two_pow_sub_succ h]
  by_cases hi : i < 64
  · simp [hi]
  · have : a.testBit i = false := Nat.testBit_lt_two_pow (Nat.lt_of_lt_of_le h (Nat.pow_le_pow_right (by omega) (by omega)))
    simp [hi, this]
theorem bits_unzz {u : Nat} (h : u < 18446744073709551616) : bits .xor .i64 ((u : Int) / 2) (wrap64 (-wrap64 (bits .and .u64 (u : Int) 1))) = unzz u := by
  have e1 : bits .and .u64 (u : Int) 1 = ((u % 2 : Nat) : Int) := by
    rw [show (1 : Int) = ((1 : Nat) : Int) from rfl, bits_and_u64_nat _ _ h (by omega), nat_mask1]
  have e2 : (u : Int) / 2 = ((u / 2 : Nat) : Int) := by omega
  have e3 : IntKind.i64.bits = 64 := rfl
  have e4 : (BitVec.ofInt 64 ((u / 2 : Nat) : Int)).toNat = u / 2 := ofInt_u64 _ (by omega)
  rw [e1, e2]
  unfold unzz
  by_cases h2 : u % 2 = 0
  · rw [if_pos h2, h2]
    have e5 : wrap64 (-wrap64 ((0 : Nat) : Int)) = 0 := by unfold wrap64; omega
    rw [e5]
    show IntKind.i64.wrap (((BitVec.ofInt 64 ((u / 2 : Nat) : Int)) ^^^ (BitVec.ofInt 64 0)).toNat : Int) = _
    rw [BitVec.toNat_xor, e4]
    have e6 : (BitVec.ofInt 64 0).toNat = 0 := by decide
    rw [e6, Nat.xor_zero, IntKind.wrap_i64]
    omega
  · rw [if_neg h2, show u % 2 = 1 by omega]
    have e5 : wrap64 (-wrap64 ((1 : Nat) : Int)) = -1 := by unfold wrap64; omega
    rw [e5]
    show IntKind.i64.wrap (((BitVec.ofInt 64 ((u / 2 : Nat) : Int)) ^^^ (BitVec.ofInt 64 (-1))).toNat : Int) = _
    rw [BitVec.toNat_xor, e4, ofInt_neg1]
    rw [xor_ones _ (by omega), IntKind.wrap_i64]
    omega
def rflag (xs : List Int) : Option (Bool × List Int) := match xs with | x :: r => if x ≤ 1 then some (decide (x = 1), r) else none | [] => none
end Go.Proofs.Ytjlfojgacnphmaa

namespace Go.Proofs.Ytjlfojgacnphmaa
open Go.RowKit

def val : List Int → Nat
  | [] => 0
  | x :: r => x.toNat % 128 + 128 * val r
theorem val_snoc (l : List Int) (x : Int) : val (l ++ [x]) = val l + x.toNat % 128 * 128 ^ l.length := by
  induction l with
  | nil => simp [val]
  | cons y l ih =>
    simp only [List.cons_append, val, ih, List.length_cons, Nat.pow_succ, Nat.mul_add]
    have : 128 * (x.toNat % 128 * 128 ^ l.length) = x.toNat % 128 * (128 ^ l.length * 128) := by
      rw [← Nat.mul_assoc, Nat.mul_comm 128, Nat.mul_assoc, Nat.mul_comm 128]
    omega
theorem val_lt (l : List Int) : val l < 128 ^ l.length := by
  induction l with
  | nil => simp [val]
  | cons x l ih => simp only [val, List.length_cons, Nat.pow_succ]; omega
theorem val_take_succ {xs : List Int} {i : Nat} (h : i < xs.length) : val (xs.take (i + 1)) = val (xs.take i) + (xs.getD i 0).toNat % 128 * 128 ^ i := by
  rw [List.take_succ_eq_append_getElem h, val_snoc]
  simp [List.getD, h, Nat.min_eq_left (Nat.le_of_lt h)]
theorem rdU_reach {xs : List Int} {p : Nat} (hp : p ≤ 10) (hl : p ≤ xs.length) (hb : ∀ j, j < p → 127 < xs.getD j 0) : ∀ i, i ≤ p → rdU 0 0 xs = rdU i (val (xs.take i)) (xs.drop i) := by
  intro i
  induction i with
  | zero => intro _; simp [val]
  | succ i ih =>
    intro hi
    rw [ih (by omega), rdU_more (by omega) (by omega) (hb i (by omega)), val_take_succ (by omega)]
def mid (xs : List Int) (i k : Nat) : List Int := (xs.take k).drop i
theorem mid_end (xs : List Int) (k : Nat) (_ : k ≤ xs.length) : mid xs k k = [] := by simp [mid]
theorem mid_len {xs : List Int} {i k : Nat} (hk : k ≤ xs.length) : (mid xs i k).length = k - i := by simp [mid, Nat.min_eq_left hk]
theorem val_ok {xs : List Int} {p : Nat} (hp : p ≤ 9) (hl : p < xs.length) (hx0 : 0 ≤ xs.getD p 0) (hx : ¬ 127 < xs.getD p 0) : val (mid xs 1 (p + 1)) < 144115188075855872 ↔ ¬ (p = 9 ∧ 1 < xs.getD p 0) := by
  rcases Nat.eq_zero_or_pos p with rfl | h0
  · have : mid xs 1 (0 + 1) = [] := mid_end xs 1 (by omega)
    rw [this]; simp [val]
  · have hm : mid xs 1 (p + 1) = mid xs 1 p ++ [xs.getD p 0] := by
      unfold mid
      rw [List.take_succ_eq_append_getElem hl, List.drop_append_of_le_length (by simp; omega)]
      simp [List.getD, hl]
    rw [hm, val_snoc, mid_len (by omega)]
    have hv := val_lt (mid xs 1 p)
    rw [mid_len (by omega)] at hv
    have hmod : (xs.getD p 0).toNat % 128 = (xs.getD p 0).toNat := by omega
    rw [hmod]
    by_cases h9 : p = 9
    · subst h9
      simp only [Nat.reduceSub, Nat.reducePow] at hv ⊢
      constructor
      · intro h ⟨_, h2⟩; omega
      · intro h
        have : ¬ 1 < xs.getD 9 0 := fun h2 => h ⟨trivial, h2⟩
        omega
    · have hpow : 128 ^ (p - 1) ≤ 128 ^ 7 := Nat.pow_le_pow_right (by omega) (by omega)
      have h1 : (xs.getD p 0).toNat * 128 ^ (p - 1) ≤ 127 * 128 ^ (p - 1) := Nat.mul_le_mul_right _ (by omega)
      constructor
      · intro _ ⟨h2, _⟩; exact h9 h2
      · intro _; simp only [Nat.reducePow] at hpow; omega
theorem rdU_at {xs : List Int} {p : Nat} (hp : p ≤ 9) (hl : p < xs.length) (hb : ∀ j, j < p → 127 < xs.getD j 0) (hx0 : 0 ≤ xs.getD p 0) (hx : ¬ 127 < xs.getD p 0) :
    ((¬ val (mid xs 1 (p + 1)) < 144115188075855872 ∨ (0 < p ∧ xs.getD p 0 = 0)) → rdU 0 0 xs = none) ∧
    (val (mid xs 1 (p + 1)) < 144115188075855872 → ¬ (0 < p ∧ xs.getD p 0 = 0) → rdU 0 0 xs = some (val (xs.take (p + 1)), xs.drop (p + 1))) := by
  have hr := rdU_reach (by omega) (by omega) hb p (Nat.le_refl _)
  have hok := val_ok hp hl hx0 hx
  constructor
  · intro h
    rw [hr]
    refine rdU_bad hl hx ?_
    rcases h with h | h
    · right
      by_cases h2 : p = 9 ∧ 1 < xs.getD p 0
      · exact h2
      · exact absurd (hok.2 h2) h
    · exact .inl h
  · intro h1 h2
    rw [hr, rdU_end hl hp hx ?_, val_take_succ hl]
    · have : (xs.getD p 0).toNat % 128 = (xs.getD p 0).toNat := by omega
      rw [this]
    · rintro (h | h)
      · exact h2 h
      · exact hok.1 h1 h
end Go.Proofs.Ytjlfojgacnphmaa

namespace Go.Proofs.Ytjlfojgacnphmaa
open Go.RowKit
set_option linter.unusedSimpArgs false
set_option linter.unusedVariables false
def InI64 (n : Int) : Prop := -9223372036854775808 ≤ n ∧ n < 9223372036854775808
theorem rdU_uvar (k : Nat) : ∀ (u i m : Nat) (r : List Int), u < k → i ≤ 9 → u * 128 ^ i < 18446744073709551616 → (0 < i → 0 < u) → rdU i m (uvar u ++ r) = some (m + u * 128 ^ i, r) := by
  induction k with
  | zero => intro u i m r h; omega
  | succ k ih =>
    intro u i m r hu hi h64 hpos
    have hp := Nat.two_pow_pos 1
    have hpp : 0 < 128 ^ i := Nat.pow_pos (by omega)
    by_cases h : 127 < u
    · have hi8 : i + 1 ≤ 9 := by
        rcases Nat.lt_or_ge i 9 with h9 | h9
        · omega
        · obtain rfl : i = 9 := by omega
          have : 128 * 128 ^ 9 ≤ u * 128 ^ 9 := Nat.mul_le_mul_right _ (by omega)
          omega
      rw [uvar_big h]
      simp only [List.cons_append, rdU]
      rw [if_neg (by omega), if_pos (by omega)]
      have h1 : u / 128 * 128 ^ (i + 1) ≤ u * 128 ^ i := by
        rw [Nat.pow_succ, Nat.mul_comm (128 ^ i) 128, ← Nat.mul_assoc]
        exact Nat.mul_le_mul_right _ (Nat.div_mul_le_self u 128)
      rw [ih (u / 128) (i + 1) _ r (by omega) hi8 (by omega) (fun _ => by omega)]
      have h2 : ((u % 128 + 128 : Nat) : Int).toNat % 128 = u % 128 := by omega
      rw [h2]
      have h3 : u / 128 * 128 ^ (i + 1) + u % 128 * 128 ^ i = u * 128 ^ i := by
        rw [Nat.pow_succ, Nat.mul_comm (128 ^ i) 128, ← Nat.mul_assoc, ← Nat.add_mul]
        congr 1
        omega
      congr 2
      omega
    · rw [uvar_small (by omega)]
      simp only [List.cons_append, List.nil_append, rdU]
      have h9 : i = 9 → u ≤ 1 := by
        rintro rfl
        rcases Nat.lt_or_ge u 2 with h | h
        · omega
        · have : 2 * 128 ^ 9 ≤ u * 128 ^ 9 := Nat.mul_le_mul_right _ h
          omega
      rw [if_neg (by omega), if_neg (by omega), if_neg]
      · simp
      · rintro (⟨h1, h2⟩ | ⟨h1, h2⟩)
        · have := hpos h1; omega
        · have := h9 h1; omega
theorem rnum_numB {n : Int} (h0 : -9223372036854775808 ≤ n) (h1 : n < 9223372036854775808) (r : List Int) : rnum (numB n ++ r) = some (n, r) := by
  rw [rnum, numB, rdU_uvar _ (zz n) 0 0 r (Nat.lt_succ_self _) (by omega) (by have := zz_lt h0 h1; simpa using this) (by omega)]
  simp [unzz_zz]
end Go.Proofs.Ytjlfojgacnphmaa

namespace Go.Proofs.Ytjlfojgacnphmaa
open Go.RowKit
set_option linter.unusedSimpArgs false
set_option linter.unusedVariables false

theorem rdU_inv : ∀ (xs : List Int) (i u : Nat) {v : Nat} {r : List Int}, Bytes xs → u < 128 ^ i → rdU i u xs = some (v, r) →
    ∃ m, v = u + m * 128 ^ i ∧ xs = uvar m ++ r ∧ (0 < i → 0 < m) ∧ v < 18446744073709551616 := by
  intro xs
  induction xs with
  | nil => intro i u v r _ _ h; simp [rdU] at h
  | cons x rest ih =>
    intro i u v r hB hu h
    have hx := hB x (by simp)
    have hB' : Bytes rest := fun y hy => hB y (by simp [hy])
    rw [rdU] at h
    by_cases h10 : 10 ≤ i
    · rw [if_pos h10] at h; cases h
    · rw [if_neg h10] at h
      by_cases h127 : 127 < x
      · rw [if_pos h127] at h
        have hlt : u + x.toNat % 128 * 128 ^ i < 128 ^ (i + 1) := add_lt hu (by omega)
        obtain ⟨m, h1, h2, h3, h4⟩ := ih (i + 1) _ hB' hlt h
        have hm := h3 (by omega)
        refine ⟨x.toNat % 128 + 128 * m, ?_, ?_, fun _ => by omega, h4⟩
        · rw [h1, Nat.pow_succ, Nat.add_mul, Nat.mul_comm (128 ^ i) 128, ← Nat.mul_assoc m 128, Nat.mul_comm m 128, Nat.add_assoc]
        · rw [uvar_big (by omega), show (x.toNat % 128 + 128 * m) % 128 + 128 = x.toNat by omega, show (x.toNat % 128 + 128 * m) / 128 = m by omega, h2]
          simp
          omega
      · rw [if_neg h127] at h
        by_cases hb : (0 < i ∧ x = 0) ∨ (i = 9 ∧ 1 < x)
        · rw [if_pos hb] at h; cases h
        · rw [if_neg hb] at h
          simp only [Option.some.injEq, Prod.mk.injEq] at h
          obtain ⟨h1, h2⟩ := h
          refine ⟨x.toNat, h1.symm, ?_, fun hi => ?_, ?_⟩
          · rw [uvar_small (by omega), ← h2]
            simp
            omega
          · have : x ≠ 0 := fun e => hb (.inl ⟨hi, e⟩)
            omega
          · rw [← h1]
            by_cases h9 : i = 9
            · subst h9
              have : ¬ 1 < x := fun e => hb (.inr ⟨rfl, e⟩)
              have h2 : x.toNat * 128 ^ 9 ≤ 1 * 128 ^ 9 := Nat.mul_le_mul_right _ (by omega)
              omega
            · have h8 : i ≤ 8 := by omega
              have h3 := add_lt (x := x.toNat) hu (by omega)
              have h4 := pow_le9 (i := i + 1) (by omega)
              omega
theorem unzz_range {v : Nat} (h : v < 18446744073709551616) : InI64 (unzz v) := by
  unfold InI64 unzz; split <;> omega
theorem rnum_inv {xs r : List Int} {n : Int} (hB : Bytes xs) (h : rnum xs = some (n, r)) : xs = numB n ++ r ∧ InI64 n ∧ Bytes r := by
  unfold rnum at h
  cases hq : rdU 0 0 xs with
  | none => rw [hq] at h; simp at h
  | some p =>
    obtain ⟨v, r'⟩ := p
    rw [hq] at h
    simp only [Option.map_some, Option.some.injEq, Prod.mk.injEq] at h
    obtain ⟨rfl, rfl⟩ := h
    obtain ⟨m, h1, h2, _, h4⟩ := rdU_inv xs 0 0 hB (by simp) hq
    have : m = v := by simp at h1; omega
    subst this
    refine ⟨by rw [numB, zz_unzz]; exact h2, unzz_range h4, fun y hy => hB y (by rw [h2]; simp [hy])⟩
theorem rflag_inv {xs r : List Int} {f : Bool} (hB : Bytes xs) (h : rflag xs = some (f, r)) : xs = flagB f ++ r ∧ Bytes r := by
  cases xs with
  | nil => simp [rflag] at h
  | cons x l =>
    have hx := hB x (by simp)
    unfold rflag at h
    simp only at h
    split at h
    · simp only [Option.some.injEq, Prod.mk.injEq] at h
      obtain ⟨rfl, rfl⟩ := h
      refine ⟨?_, fun y hy => hB y (by simp [hy])⟩
      unfold flagB
      by_cases h1 : x = 1
      · simp [h1]
      · have : x = 0 := by omega
        simp [this]
    · cases h
end Go.Proofs.Ytjlfojgacnphmaa

namespace Go.Proofs.Ytjlfojgacnphmaa
open Go.RowKit

def step1 (x : Nat) : Nat := if x % 2 = 1 then (x / 2) ^^^ 3988292384 else x / 2
def step8 (x : Nat) : Nat := step1 (step1 (step1 (step1 (step1 (step1 (step1 (step1 x)))))))
def stpN : Nat → Nat → Nat
  | 0, x => x
  | k + 1, x => stpN k (step1 x)
def crcB (x : Nat) (c : Int) : Nat := step8 (x ^^^ c.toNat)
def crc (x : Nat) (xs : List Int) : Nat := xs.foldl crcB x
theorem crc_append (x : Nat) (a b : List Int) : crc x (a ++ b) = crc (crc x a) b := by simp [crc]
theorem step1_lt {x : Nat} (h : x < 4294967296) : step1 x < 4294967296 := by
  unfold step1
  split
  · exact Nat.xor_lt_two_pow (n := 32) (by omega) (by omega)
  · omega
theorem stpN_lt (k : Nat) {x : Nat} (h : x < 4294967296) : stpN k x < 4294967296 := by
  induction k generalizing x with
  | zero => exact h
  | succ k ih => exact ih (step1_lt h)
theorem crcB_lt {x : Nat} {c : Int} (h : x < 4294967296) (h0 : 0 ≤ c) (h1 : c ≤ 255) : crcB x c < 4294967296 := by
  have : x ^^^ c.toNat < 2 ^ 32 := Nat.xor_lt_two_pow (by omega) (by omega)
  exact stpN_lt 8 this
theorem crc_lt {x : Nat} {xs : List Int} (h : x < 4294967296) (hB : Bytes xs) : crc x xs < 4294967296 := by
  induction xs generalizing x with
  | nil => exact h
  | cons c xs ih =>
    have hc := hB c (by simp)
    exact ih (crcB_lt h hc.1 hc.2) (fun y hy => hB y (by simp [hy]))
def sumB (xs : List Int) : Nat := 4294967295 - crc 4294967295 xs
theorem sumB_lt (xs : List Int) : sumB xs < 4294967296 := by unfold sumB; omega
def four (n : Nat) : List Int := [((n % 256 : Nat) : Int), ((n / 256 % 256 : Nat) : Int), ((n / 65536 % 256 : Nat) : Int), ((n / 16777216 % 256 : Nat) : Int)]
theorem four_bytes (n : Nat) : Bytes (four n) := by
  intro x hx
  simp [four] at hx
  omega
def getB (xs : List Int) : Nat := (xs.getD 0 0).toNat + (xs.getD 1 0).toNat * 256 + (xs.getD 2 0).toNat * 65536 + (xs.getD 3 0).toNat * 16777216
theorem getB_four {n : Nat} (h : n < 4294967296) (r : List Int) : getB (four n ++ r) = n := by simp [getB, four]; omega
theorem getB_lt {xs : List Int} (hB : Bytes xs) : getB xs < 4294967296 := by
  have h0 := hB.at 0
  have h1 := hB.at 1
  have h2 := hB.at 2
  have h3 := hB.at 3
  unfold getB
  omega
def sealB (xs : List Int) : List Int := if xs.length ≤ 65536 then four xs.length ++ four (sumB (four xs.length ++ xs)) ++ xs else []
def firstB (xs : List Int) : Option (List Int) :=
  if xs.length < 8 then none
  else if 65536 < getB xs ∨ xs.length - 8 < getB xs then none
  else if getB (xs.drop 4) = sumB (xs.take 4 ++ (xs.drop 8).take (getB xs)) then some ((xs.drop 8).take (getB xs)) else none
theorem firstB_len {xs x : List Int} (h : firstB xs = some x) : 8 + x.length ≤ xs.length ∧ x.length = getB xs ∧ x.length ≤ 65536 := by
  unfold firstB at h
  split at h
  · cases h
  · split at h
    · cases h
    · split at h
      · simp at h; subst h; simp; omega
      · cases h
def scanB (fuel : Nat) (xs : List Int) : List (List Int) × Nat :=
  match fuel with
  | 0 => ([], 0)
  | fuel + 1 => match firstB xs with
    | none => ([], 0)
    | some x => let r := scanB fuel (xs.drop (8 + x.length)); (x :: r.1, 8 + x.length + r.2)
end Go.Proofs.Ytjlfojgacnphmaa

namespace Go.Proofs.Ytjlfojgacnphmaa
open Go.RowKit
theorem bits_step (x : Nat) (h : x < 4294967296) : bits .xor .u32 ((x : Int) / 2) (bits .and .u32 3988292384 (-(bits .and .u32 (x : Int) 1) % 4294967296)) = ((step1 x : Nat) : Int) := by
  have e1 : bits .and .u32 (x : Int) 1 = ((x % 2 : Nat) : Int) := by
    rw [show (1 : Int) = ((1 : Nat) : Int) from rfl, u32_and_nat _ _ h (by omega), nat_mask1]
  rw [e1]
  have e2 : (x : Int) / 2 = ((x / 2 : Nat) : Int) := by omega
  rw [e2]
  unfold step1
  by_cases ho : x % 2 = 1
  · rw [if_pos ho, ho]
    have e3 : (-((1 : Nat) : Int)) % 4294967296 = ((4294967295 : Nat) : Int) := by decide
    rw [e3, show (3988292384 : Int) = ((3988292384 : Nat) : Int) from rfl, u32_and_nat _ _ (by omega) (by omega)]
    have e4 : (3988292384 : Nat) &&& 4294967295 = 3988292384 := by decide
    rw [e4, u32_xor_nat _ _ (by omega) (by omega)]
  · rw [if_neg ho, show x % 2 = 0 by omega]
    have e3 : (-((0 : Nat) : Int)) % 4294967296 = ((0 : Nat) : Int) := by decide
    rw [e3, show (3988292384 : Int) = ((3988292384 : Nat) : Int) from rfl, u32_and_nat _ _ (by omega) (by omega)]
    have e4 : (3988292384 : Nat) &&& 0 = 0 := by decide
    rw [e4, u32_xor_nat _ _ (by omega) (by omega), Nat.xor_zero]
theorem bits_byte (x : Nat) (c : Int) (h : x < 4294967296) (h0 : 0 ≤ c) (h1 : c ≤ 255) : bits .xor .u32 (x : Int) c = ((x ^^^ c.toNat : Nat) : Int) := by
  obtain ⟨y, rfl⟩ := Int.eq_ofNat_of_zero_le h0
  rw [u32_xor_nat _ _ h (by omega)]
  rfl

theorem xor_ones32 (a : Nat) (h : a < 2 ^ 32) : (2 ^ 32 - 1) ^^^ a = 2 ^ 32 - (a + 1) := by
  apply Nat.eq_of_testBit_eq
  intro i
  rw [Nat.testBit_xor, Nat.testBit_two_pow_sub_one, Nat.testBit_two_pow_sub_succ h]
  by_cases hi : i < 32
  · simp [hi]
  · have : a.testBit i = false := Nat.testBit_lt_two_pow (Nat.lt_of_lt_of_le h (Nat.pow_le_pow_right (by omega) (by omega)))
    simp [hi, this]
theorem bits_not {c : Nat} (h : c < 4294967296) : bits .xor .u32 IntKind.u32.max (c : Int) = ((4294967295 - c : Nat) : Int) := by
  have e : IntKind.u32.max = ((4294967295 : Nat) : Int) := by decide
  rw [e, u32_xor_nat _ _ (by omega) h]
  have := xor_ones32 c (by omega)
  simp only [Nat.reducePow, Nat.reduceSub] at this
  rw [this]
  omega
theorem or_join (a b : Nat) (k : Nat) (ha : a < 2 ^ k) (hb : b < 256) (hk : k ≤ 24) : bits .or .u32 (a : Int) ((b * 2 ^ k : Nat) : Int) = ((a + b * 2 ^ k : Nat) : Int) := by
  have hp : 2 ^ k ≤ 2 ^ 24 := Nat.pow_le_pow_right (by omega) hk
  have h1 : b * 2 ^ k ≤ 255 * 2 ^ k := Nat.mul_le_mul_right _ (by omega)
  rw [u32_or_nat _ _ (by omega) (by omega), Nat.or_comm, nat_join k _ _ (by simp) ha, Nat.add_comm]
def scan (xs : List Int) : List (List Int) × Nat := scanB (xs.length + 1) xs
theorem scanB_fuel (xs : List Int) : ∀ (f g : Nat), xs.length < f → xs.length < g → scanB f xs = scanB g xs := by
  generalize hn : xs.length = n
  induction n using Nat.strongRecOn generalizing xs with
  | ind n ih =>
    intro f g hf hg
    cases f with
    | zero => omega
    | succ f =>
      cases g with
      | zero => omega
      | succ g =>
        simp only [scanB]
        cases h : firstB xs with
        | none => rfl
        | some x =>
          have hl := firstB_len h
          have := ih (xs.length - (8 + x.length)) (by omega) (xs.drop (8 + x.length)) (by simp) f g (by omega) (by omega)
          simp only [this]
theorem scan_none {xs : List Int} (h : firstB xs = none) : scan xs = ([], 0) := by simp [scan, scanB, h]
theorem scan_some {xs x : List Int} (h : firstB xs = some x) : scan xs = (x :: (scan (xs.drop (8 + x.length))).1, 8 + x.length + (scan (xs.drop (8 + x.length))).2) := by
  have hl := firstB_len h
  have := scanB_fuel (xs.drop (8 + x.length)) xs.length ((xs.drop (8 + x.length)).length + 1) (by simp; omega) (by omega)
  show scanB (xs.length + 1) xs = _
  rw [scanB]
  simp only [h]
  rw [this]
  rfl
theorem scan_step {xs x : List Int} {acc : List (List Int)} {j : Nat} (h : scan xs = (acc ++ (scan (xs.drop j)).1, j + (scan (xs.drop j)).2)) (hf : firstB (xs.drop j) = some x) :
    scan xs = ((acc ++ [x]) ++ (scan (xs.drop (j + (8 + x.length)))).1, j + (8 + x.length) + (scan (xs.drop (j + (8 + x.length)))).2) := by
  rw [scan_some hf] at h
  rw [h]
  simp [List.drop_drop, Nat.add_assoc]
theorem scan_end {xs : List Int} {acc : List (List Int)} {j : Nat} (h : scan xs = (acc ++ (scan (xs.drop j)).1, j + (scan (xs.drop j)).2)) (hf : firstB (xs.drop j) = none) : scan xs = (acc, j) := by
  rw [scan_none hf] at h
  rw [h]; simp
theorem seal_eq {xs : List Int} (h : xs.length ≤ 65536) : sealB xs = four xs.length ++ four (sumB (four xs.length ++ xs)) ++ xs := by rw [sealB, if_pos h]
theorem seal_len {xs : List Int} (h : xs.length ≤ 65536) : (sealB xs).length = 8 + xs.length := by rw [seal_eq h]; simp [four]; omega
theorem seal_bytes {xs : List Int} (hB : Bytes xs) : Bytes (sealB xs) := by
  unfold sealB
  split
  · exact ((four_bytes _).app (four_bytes _)).app hB
  · exact Bytes.nil
theorem take4 (n : Nat) (r : List Int) : (four n ++ r).take 4 = four n := List.take_left' rfl
theorem drop4 (n : Nat) (r : List Int) : (four n ++ r).drop 4 = r := List.drop_left' rfl
theorem drop8 (n m : Nat) (r : List Int) : (four n ++ four m ++ r).drop 8 = r := List.drop_left' rfl
theorem first_seal {xs : List Int} (h : xs.length ≤ 65536) (r : List Int) : firstB (sealB xs ++ r) = some xs := by
  have hlen := seal_len h
  have e1 : getB (sealB xs ++ r) = xs.length := by rw [seal_eq h, List.append_assoc, List.append_assoc, getB_four (by omega)]
  have e2 : getB ((sealB xs ++ r).drop 4) = sumB (four xs.length ++ xs) := by rw [seal_eq h, List.append_assoc, List.append_assoc, drop4, getB_four (sumB_lt _)]
  have e3 : (sealB xs ++ r).take 4 = four xs.length := by rw [seal_eq h, List.append_assoc, List.append_assoc, take4]
  have e4 : ((sealB xs ++ r).drop 8).take xs.length = xs := by rw [seal_eq h, List.append_assoc, drop8, List.take_left' rfl]
  have e5 : (sealB xs ++ r).length = 8 + xs.length + r.length := by simp [hlen]
  unfold firstB
  rw [e1, e2, e3, e4, if_neg (by omega), if_neg (by omega), if_pos rfl]
end Go.Proofs.Ytjlfojgacnphmaa
