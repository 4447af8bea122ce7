/- Package command: replies written. The reference: the same reply? Replies cut to a length. -/
import Derived.Test.YteegdhfekemhmaaRepP
import Derived.Test.YteegdhfekemhmaaSnapV
import Derived.Test.YteegdhfekemhmaaCmdR
namespace Go.Proofs.Yteegdhfekemhmaa
open Go.RowKit
set_option linter.unusedSimpArgs false
set_option linter.unusedVariables false

/-- v is a slice of strings, which are ss. -/
def RdS (w : World) (N : Nat → Prop) (v : Value) (ss : List ByteArray) : Prop := Rd w N v ss.length 1 (ss.map Value.string)
theorem RdS.below {w w' : World} {N : Nat → Prop} {v : Value} {ss : List ByteArray} (h : RdS w N v ss) (hb : Below w.heap.size w w') : RdS w' N v ss := Rd.below h hb
theorem RdS.ext {S : List Nat} {w w' : World} {col col' : Col} {c : Nat} {v : Value} {ss : List ByteArray} (h : RdS w (In col c) v ss) (hx : Ext S w col w' col') (hc : c ∉ S) : RdS w' (In col' c) v ss := Rd.ext h hx hc
theorem RdS.weaken {w : World} {N N' : Nat → Prop} {v : Value} {ss : List ByteArray} (h : RdS w N v ss) (hN : ∀ b, N b → b < w.heap.size → N' b) : RdS w N' v ss := Rd.weaken h hN
theorem RdS.any {w : World} {N : Nat → Prop} {v : Value} {ss : List ByteArray} (h : RdS w N v ss) : RdS w (fun _ => True) v ss := Rd.any h
theorem RdS.slice {w : World} {N : Nat → Prop} {v : Value} {ss : List ByteArray} (h : RdS w N v ss) : ∃ A cap, v = .slice A ss.length cap ∧ ss.length ≤ cap ∧ cap ≤ maxLen := Rd.slice h
theorem RdS.len {w : World} {N : Nat → Prop} {v : Value} {ss : List ByteArray} (h : RdS w N v ss) : ss.length ≤ 140737488355328 := h.2.2.1
theorem RdS.at {w : World} {N : Nat → Prop} {A : Option Addr} {n cap : Nat} {ss : List ByteArray} (h : RdS w N (.slice A n cap) ss) {j : Nat} (hj : j < ss.length) :
    ∃ b o, A = some ⟨b, o, none⟩ ∧ w.cell? ⟨b, o + j, none⟩ = some (.string ss[j]) := by
  obtain ⟨b, o, cap1, he, _, _, _, _, hc⟩ := Rd.pos h (by omega)
  simp at he
  exact ⟨b, o, he.1, hc j _ (by simp [hj])⟩
theorem RdS.nil (w : World) (N : Nat → Prop) : RdS w N (.slice none 0 0) [] := Rd.nil w N 1 (by omega)
def repV (e : Int) (c : Bool) (vr : Value) : Value := .agg #[.int .i64 e, .bool c, vr]

set_option maxHeartbeats 2000000 in
set_option maxRecDepth 100000 in
theorem putreply_calls (w : World) (col : Col) (c b : Nat) (bs : List Int) (p : RepD) (vr : Value) (hc0 : c ≠ 0) (hW : Wr w col c b bs) (hv : RdS w (In col 0) vr p.r) (hp : p.ok) (hbs : bs.length ≤ 1000000000) :
    Calls Try.prog 101 #[.pointer (some ⟨b, 0, none⟩), repV p.e p.c vr] w fun e w' => e = .returned (.tuple #[]) ∧ ∃ col', Wr w' col' c b (bs ++ repB p) ∧ Ext [c] w col w' col' := by
  obtain ⟨e, ch, l⟩ := p
  obtain ⟨he0, he1, hl, hs⟩ := hp
  simp only at he0 he1 hl hs hv
  have h0c : 0 ∉ [c] := by simp; omega
  obtain ⟨A, cap, rfl, -, -⟩ := hv.slice
  have HB := Lib.hid (show repB ⟨e, ch, l⟩ = numB e ++ flagB ch ++ numB l.length ++ rowsB l from rfl)
  generalize repB ⟨e, ch, l⟩ = RB at *
  have le := numB_len (n := e) (by omega) (by omega)
  have ln := numB_len (n := l.length) (by omega) (by omega)
  have HL := Lib.hid (fun j (_ : j ≤ l.length) => (show (rowsB (l.take j)).length ≤ 1100000000 from by
    have h1 := rowsB_len (l.take j) 1000000 (by omega) fun s h => hs s (List.mem_of_mem_take h)
    have h2 : (l.take j).length ≤ 1000 := by simp; omega
    have h3 : (1000000 + 10) * (l.take j).length ≤ (1000000 + 10) * 1000 := Nat.mul_le_mul_left _ h2
    omega))
  have Hs := Lib.hid hs
  have hx1 : Ext [c] w col (w.alloc (.cells #[.int .i64 e, .bool ch, .slice A l.length cap] 72)) (newcol w col 0) := (Ext.refl _ _ _).alloc _ 0
  have hx10 : Ext [] w col (w.alloc (.cells #[.int .i64 e, .bool ch, .slice A l.length cap] 72)) (newcol w col 0) := (Ext.refl _ _ _).alloc _ 0
  have hbox := heap_alloc_new w (.cells [.int .i64 e, .bool ch, .slice A l.length cap].toArray 72)
  have hW1 := hW.ext hx10 (by simp)
  have hv1 := hv.ext hx10 (by simp)
  have hcol1 : newcol w col 0 w.heap.size ∉ [c] := by rw [newcol_new (Nat.le_refl _)]; exact h0c
  generalize hcc : newcol w col 0 = col1 at *
  obtain ⟨w1, hw1⟩ : ∃ W, w.alloc (.cells #[.int .i64 e, .bool ch, .slice A l.length cap] 72) = W := ⟨_, rfl⟩
  have hw1' : w.alloc (.cells [.int .i64 e, .bool ch, .slice A l.length cap].toArray 72) = w1 := hw1
  rw [hw1'] at hbox
  rw [hw1] at hx1 hW1 hv1
  clear hw1' hx10 hW hv hs hcc
  have HC := Lib.hid (fun (W : World) (col' : Col) (hx : Ext [c] w1 col1 W col') => (show W.cell? ⟨w.heap.size, 0, none⟩ = some (.int .i64 e) ∧ W.cell? ⟨w.heap.size, 1, none⟩ = some (.bool ch) ∧ W.cell? ⟨w.heap.size, 2, none⟩ = some (.slice A l.length cap) from
    ⟨(cell_row ((hx.block _ (heap_lt hbox) hcol1).trans hbox) (j := 0) rfl).1, (cell_row ((hx.block _ (heap_lt hbox) hcol1).trans hbox) (j := 1) rfl).1, (cell_row ((hx.block _ (heap_lt hbox) hcol1).trans hbox) (j := 2) rfl).1⟩))
  obtain ⟨k0, -, -⟩ := HC.out _ _ (Ext.refl _ _ _)
  clear hbox hcol1
  unfold repV
  go_enter Try.func101, Try.ntmps101
  go_wp2_with fail
  clear hw1
  refine (num_calls _ _ c _ _ e hW1 (by omega) (by omega) (by omega)).mono ?_
  rintro e1 w2 ⟨rfl, col2, hW2, hx2⟩
  obtain ⟨-, k1, -⟩ := HC.out _ _ hx2
  clear k0 hW1
  go_wp2_with fail
  refine (wflag_calls _ _ c _ _ ch hW2 (by simp; omega)).mono ?_
  rintro e2 w3 ⟨rfl, col3, hW3, hx3⟩
  have hx3' := hx2.trans hx3
  obtain ⟨-, -, k2⟩ := HC.out _ _ hx3'
  clear k1 hW2 hx2 hx3
  go_wp2_with fail
  refine (num_calls _ _ c _ _ l.length hW3 (by simp [flagB]; omega) (by omega) (by omega)).mono ?_
  rintro e3 w4 ⟨rfl, col4, hW4, hx4⟩
  have hx4' := hx3'.trans hx4
  obtain ⟨-, -, k2'⟩ := HC.out _ _ hx4'
  clear k2 hW3 hx3' hx4
  go_wp2_with fail
  go_loopw [22] (fun i wr => ∃ (j : Nat) (colr : Col), i = .int .i64 j ∧ j ≤ l.length ∧ Wr wr colr c b (bs ++ numB e ++ flagB ch ++ numB l.length ++ rowsB (l.take j)) ∧ Ext [c] w1 col1 wr colr) (fun i _ => l.length - (intOf i).toNat)
  case atStart => exact ⟨0, col4, rfl, by omega, by simpa [rowsB] using hW4, hx4'⟩
  case round =>
    obtain ⟨j, colr, rfl, hj, hWr, hx⟩ := hrel
    by_cases hc : j < l.length
    · obtain ⟨b1, o1, rfl, hcell⟩ := (hv1.ext hx h0c).at hc
      have hss := Hs.out _ (List.getElem_mem hc)
      have hst := rowsB_snoc (l.take j) l[j]
      rw [← List.take_succ_eq_append_getElem hc] at hst
      have Hst := Lib.hid hst
      have hlen2 : (bs ++ numB e ++ flagB ch ++ numB l.length ++ rowsB (l.take j)).length ≤ 2200000000 := by
        have := HL.out j hj
        simp only [List.length_append, flagB, List.length_cons, List.length_nil]; omega
      generalize l[j] = s at hcell hss Hst
      clear hst
      obtain ⟨As, caps, Ws, hcv, hrs, hbs2⟩ := str_bytes (P := Try.prog) wr s (by omega) Try.underlying9 Try.underlying24 Try.underlying5
      have hxs : Ext [] wr colr Ws (newcol wr colr 0) := Ext.newc hbs2 0
      have hWs := hWr.ext hxs (by simp)
      have hrs' := (hrs.newc colr 0).to_out (S := [c]) h0c
      have hns := sNums_len s
      have hxx := hx.trans (hxs.mono (by simp))
      rw [← hns] at hcv hrs'
      have hsn : (sNums s).length ≤ 1000000 := by omega
      clear hns hrs hWr hxs hx hbs2
      go_wp2_with fail
      refine (wtext_calls _ _ c _ _ _ (sNums s) hWs hrs'.1 (by omega)).mono ?_
      rintro e5 w5 ⟨rfl, col5, hW5, hx5⟩
      rw [List.append_assoc _ (rowsB _) _, ← Hst.out] at hW5
      go_wp2
      go_roundw
      case rel => exact ⟨j + 1, col5, by go_num, by omega, hW5, hxx.trans hx5⟩
      case measure => simp [intOf]; omega
    · obtain rfl : j = l.length := by omega
      rw [List.take_length] at hWr
      have e6 : bs ++ numB e ++ flagB ch ++ numB l.length ++ rowsB l = bs ++ RB := by rw [HB.out]; simp
      rw [e6] at hWr
      clear e6
      go_wp2
      go_end0
      exact ⟨rfl, colr, hWr, hx1.trans hx⟩

theorem repB_len {p : RepD} (hp : p.ok) : (repB p).length ≤ 1100000000 := by
  obtain ⟨h0, h1, h2, h3⟩ := hp
  have a1 := numB_len (n := p.e) (by omega) (by omega)
  have a2 := numB_len (n := p.r.length) (by omega) (by omega)
  have a3 := rowsB_len p.r 1000000 (by omega) h3
  have a4 : (1000000 + 10) * p.r.length ≤ (1000000 + 10) * 1000 := Nat.mul_le_mul_left _ h2
  simp only [repB, List.length_append, flagB, List.length_cons, List.length_nil]
  omega

set_option maxHeartbeats 2000000 in
set_option maxRecDepth 100000 in
theorem reply_calls (w : World) (N : Nat → Prop) (p : RepD) (vr : Value) (hv : RdS w N vr p.r) (hp : p.ok) :
    Calls Try.prog 47 #[repV p.e p.c vr] w fun e w' => ∃ v', e = .returned v' ∧ NewB 5 w w' v' (repB p) := by
  have hlen := repB_len hp
  obtain ⟨e, ch, l⟩ := p
  have hb := (Below.refl w.heap.size w).alloc (Nat.le_refl _) (.cells #[.int .i64 e, .bool ch, vr] 72)
  have hv1 : RdS _ (In (fun _ => 0) 0) vr l := (hv.below hb).weaken fun _ _ _ => rfl
  have hbox := heap_alloc_new w (.cells [.int .i64 e, .bool ch, vr].toArray 72)
  obtain ⟨w1, hw1⟩ : ∃ W, w.alloc (.cells #[.int .i64 e, .bool ch, vr] 72) = W := ⟨_, rfl⟩
  have hw1' : w.alloc (.cells [.int .i64 e, .bool ch, vr].toArray 72) = w1 := hw1
  rw [hw1'] at hbox
  rw [hw1] at hb hv1
  clear hw1' hv
  have hx1 : Ext [1] w1 (fun _ => 0) (w1.alloc (.cells #[.slice none 0 0] 130)) (newcol w1 (fun _ => 0) 1) := (Ext.refl _ _ _).alloc _ 1
  have hW1 := Wr.new w1 (fun _ => 0) 1
  have hbox2 := (hx1.block _ (heap_lt hbox) (by decide)).trans hbox
  obtain ⟨k0, -⟩ := cell_row hbox2 (j := 0) rfl
  obtain ⟨k1, -⟩ := cell_row hbox2 (j := 1) rfl
  obtain ⟨k2, -⟩ := cell_row hbox2 (j := 2) rfl
  have hP := putreply_calls _ _ 1 _ _ ⟨e, ch, l⟩ vr (by omega) hW1 (hv1.ext hx1 (by decide)) hp (by simp)
  simp only [List.nil_append] at hP
  generalize repB ⟨e, ch, l⟩ = RB at *
  clear hbox hbox2 hp hW1 hv1
  unfold repV at *
  go_enter Try.func47, Try.ntmps47
  go_wp2_with fail
  clear hw1
  refine hP.mono ?_
  rintro e1 w2 ⟨rfl, col2, hW2, hx2⟩
  have hx2' := hx1.trans hx2
  clear hP k0 k1 k2 hx1 hx2
  go_wp2_with fail
  refine (wbytes_calls _ _ 1 _ _ hW2 (by omega)).mono ?_
  rintro e2 w3 ⟨v3, rfl, hn3⟩
  obtain ⟨A3, cap3, rfl⟩ := own_slice' hn3.1
  have hfin := hn3.since (below_then' hb hb.size (hx2'.below0 (by decide)))
  go_wp2
  go_ret
  exact ⟨_, rfl, hfin⟩
end Go.Proofs.Yteegdhfekemhmaa
