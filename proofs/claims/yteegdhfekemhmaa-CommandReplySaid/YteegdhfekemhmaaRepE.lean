/- Replies: the same? cut to a length; read whole. -/
import Derived.Test.YteegdhfekemhmaaRepR
import Derived.Test.YteegdhfekemhmaaAcc
namespace Go.Proofs.Yteegdhfekemhmaa
open Go.RowKit
set_option linter.unusedSimpArgs false
set_option linter.unusedVariables false

set_option maxHeartbeats 2000000 in
set_option maxRecDepth 100000 in
/-- Replies that are the same are the same. -/
theorem eqreply_calls (w : World) (N1 N2 : Nat → Prop) (e : Int) (ch : Bool) (v1 v2 : Value) (ss : List ByteArray) (h1 : RdS w N1 v1 ss) (h2 : RdS w N2 v2 ss) :
    Calls Try.prog 49 #[repV e ch v1, repV e ch v2] w fun e w' => e = .returned (.bool true) ∧ Below w.heap.size w w' := by
  obtain ⟨A1, cap1, rfl, -, -⟩ := h1.slice
  obtain ⟨A2, cap2, rfl, -, -⟩ := h2.slice
  have hl1 := h1.len
  have hb1 := (Below.refl w.heap.size w).alloc (Nat.le_refl _) (.cells #[.int .i64 e, .bool ch, .slice A1 ss.length cap1] 72)
  have hb2 := hb1.alloc hb1.size (.cells #[.int .i64 e, .bool ch, .slice A2 ss.length cap2] 72)
  have ha := heap_alloc_new w (.cells [.int .i64 e, .bool ch, .slice A1 ss.length cap1].toArray 72)
  have hb := heap_alloc_new (w.alloc (.cells [.int .i64 e, .bool ch, .slice A1 ss.length cap1].toArray 72)) (.cells [.int .i64 e, .bool ch, .slice A2 ss.length cap2].toArray 72)
  have ha2 := (((Below.refl (w.alloc (.cells [.int .i64 e, .bool ch, .slice A1 ss.length cap1].toArray 72)).heap.size _).alloc (Nat.le_refl _) (.cells [.int .i64 e, .bool ch, .slice A2 ss.length cap2].toArray 72)).block _ (heap_lt ha)).trans ha
  have hsz : (w.alloc (.cells [.int .i64 e, .bool ch, .slice A1 ss.length cap1].toArray 72)).heap.size = w.heap.size + 1 := by show (w.heap.push _).size = _; simp
  rw [hsz] at hb
  have h1' := h1.below hb2
  have h2' := h2.below hb2
  obtain ⟨w2, hw2⟩ : ∃ W, (w.alloc (.cells #[.int .i64 e, .bool ch, .slice A1 ss.length cap1] 72)).alloc (.cells #[.int .i64 e, .bool ch, .slice A2 ss.length cap2] 72) = W := ⟨_, rfl⟩
  have hw2' : (w.alloc (.cells [.int .i64 e, .bool ch, .slice A1 ss.length cap1].toArray 72)).alloc (.cells [.int .i64 e, .bool ch, .slice A2 ss.length cap2].toArray 72) = w2 := hw2
  rw [hw2'] at hb ha2
  rw [hw2] at hb2 h1' h2'
  clear hw2' ha hsz hb1 h1 h2
  obtain ⟨k0, -⟩ := cell_row ha2 (j := 0) rfl
  obtain ⟨k1, -⟩ := cell_row ha2 (j := 1) rfl
  obtain ⟨k2, -⟩ := cell_row ha2 (j := 2) rfl
  obtain ⟨m0, -⟩ := cell_row hb (j := 0) rfl
  obtain ⟨m1, -⟩ := cell_row hb (j := 1) rfl
  obtain ⟨m2, -⟩ := cell_row hb (j := 2) rfl
  unfold repV
  go_enter Try.func49, Try.ntmps49
  go_wp2_with fail
  clear hw2
  go_loopw [5] (fun i wr => ∃ j : Nat, i = .int .i64 j ∧ j ≤ ss.length ∧ Below w2.heap.size w2 wr) (fun i _ => ss.length - (intOf i).toNat)
  case atStart => exact ⟨0, rfl, by omega, Below.refl _ _⟩
  case round =>
    obtain ⟨j, rfl, hj, hbr⟩ := hrel
    have p2 := (cell_row ((hbr.block _ (heap_lt ha2)).trans ha2) (j := 2) rfl).1
    have q2 := (cell_row ((hbr.block _ (heap_lt hb)).trans hb) (j := 2) rfl).1
    by_cases hc : j < ss.length
    · obtain ⟨b1, o1, rfl, c1⟩ := (h1'.below hbr).at hc
      obtain ⟨b2, o2, rfl, c2⟩ := (h2'.below hbr).at hc
      generalize ss[j] = s at c1 c2
      clear k0 k1 k2 m0 m1 m2
      go_wp2_with fail
      go_quiet (fail)
      go_wp2
      go_roundw
      case rel => exact ⟨j + 1, by go_num, by omega, below_drewN' hbr _⟩
      case measure => simp [intOf]; omega
    · obtain rfl : j = ss.length := by omega
      go_wp2
      go_ret
      exact ⟨rfl, below_then' hb2 hb2.size hbr⟩

theorem RdS.front {w : World} {N : Nat → Prop} {A : Option Addr} {n cap : Nat} {ss : List ByteArray} (h : RdS w N (.slice A n cap) ss) {i : Nat} (hi : i ≤ ss.length) : RdS w N (.slice A i cap) (ss.take i) := by
  have hl : (ss.take i).length = i := by simp; omega
  have hlen := h.len
  unfold RdS
  rw [hl]
  refine ⟨by omega, by simp; omega, by omega, ?_⟩
  rcases h.2.2.2 with ⟨h0, hx⟩ | ⟨a, cap1, he, h1, h2, h3, h4⟩
  · simp at h0
    obtain ⟨rfl, rfl, rfl⟩ := h0
    obtain rfl : i = 0 := by omega
    exact .inl ⟨rfl, rfl⟩
  · simp at he
    obtain ⟨rfl, rfl, rfl⟩ := he
    refine .inr ⟨a, _, rfl, by omega, h2, fun hp => h3 (by omega), fun j u hu => h4 j u ?_⟩
    have hj : j < i := by
      rcases Nat.lt_or_ge j i with h | h
      · exact h
      · rw [List.getElem?_eq_none (by simp; omega)] at hu; cases hu
    rw [← hu]
    simp [hj]

/-- What 'ReadReply' gives. -/
def RepPost (w : World) (xs : List Int) (e : Ending) (w' : World) : Prop :=
  ∃ pe pc vr er, e = .returned (.tuple #[repV pe pc vr, .int .i64 er]) ∧ Below w.heap.size w w' ∧
    ((POK xs ∧ er = 0 ∧ pe = (pD xs).e ∧ pc = (pD xs).c ∧ RdS w' (fun _ => True) vr (pD xs).r) ∨ (¬ POK xs ∧ er = 3 ∧ pe = 0 ∧ vr = .slice none 0 0))

set_option maxHeartbeats 4000000 in
set_option maxRecDepth 100000 in
theorem readreply_calls (w : World) (N : Nat → Prop) (v : Value) (xs : List Int) (hv : RdL w N v xs) (hl : xs.length ≤ 1000000) :
    Calls Try.prog 48 #[v] w (RepPost w xs) := by
  obtain ⟨A, cap, rfl, -, -⟩ := hv.slice
  have HS := Lib.hid (show POK xs ↔ (PIn xs ∧ pb4 xs = false ∧ px4 xs = []) from Iff.rfl)
  have hb0 := (Below.refl w.heap.size w).alloc (Nat.le_refl _) (.cells #[.int .i64 0, .bool false, .slice none 0 0] 72)
  have hv0 := hv.below hb0
  have hz0 := heap_alloc_new w (.cells [.int .i64 0, .bool false, .slice none 0 0].toArray 72)
  have hcz : newcol w (fun _ => 0) 3 w.heap.size = 3 := newcol_new (Nat.le_refl _)
  have hold : ∀ k, k < w.heap.size → newcol w (fun _ => 0) 3 k ∉ [1] := fun k hk => by rw [newcol_old hk]; decide
  generalize newcol w (fun _ => 0) 3 = col0 at *
  obtain ⟨w0, hw0⟩ : ∃ W, w.alloc (.cells #[.int .i64 0, .bool false, .slice none 0 0] 72) = W := ⟨_, rfl⟩
  have hw0' : w.alloc (.cells [.int .i64 0, .bool false, .slice none 0 0].toArray 72) = w0 := hw0
  rw [hw0'] at hz0
  rw [hw0] at hb0 hv0
  clear hw0' hv
  go_enter Try.func48, Try.ntmps48
  go_wp2_with fail
  clear hw0
  refine (read_calls _ _ _ xs col0 1 hv0).mono ?_
  rintro e w1 ⟨b, col1, rfl, hR1, hx1⟩
  clear hv0
  go_wp2_with fail
  refine (getreply_calls _ _ 1 b _ (by omega) hR1 hl).mono ?_
  rintro e w2 ⟨col2, pe, pc, vr, ok, rfl, hx2, hcase⟩
  have hx2' := (hx1.mono (T := [1]) (by simp)).trans hx2
  have hz2 := (hx2'.block _ (heap_lt hz0) (by rw [hcz]; decide)).trans hz0
  have hcz2 : col2 w.heap.size = 3 := (hx2'.col _ (heap_lt hz0)).trans hcz
  have hb2 := hb0.trans (hx2'.belowB (B := w.heap.size) hb0.size hold)
  clear hR1 hx1 hx2 hx2' hold hz0 hcz
  unfold repV
  rcases hcase with ⟨rfl, hPI, hpb, rfl, rfl, hvr, hR2⟩ | ⟨rfl, hno, rfl, rfl, rfl⟩
  · obtain ⟨Ar, capr, rfl, -, -⟩ := hvr.slice
    have hx3 : Ext [] w2 col2 (w2.alloc (.cells #[.int .i64 (pn xs), .bool (rF (px1 xs)), .slice Ar (pD xs).r.length capr] 72)) (newcol w2 col2 0) := (Ext.refl _ _ _).alloc _ 0
    have hp3 := heap_alloc_new w2 (.cells [.int .i64 (pn xs), .bool (rF (px1 xs)), .slice Ar (pD xs).r.length capr].toArray 72)
    obtain ⟨w3, hw3⟩ : ∃ W, w2.alloc (.cells #[.int .i64 (pn xs), .bool (rF (px1 xs)), .slice Ar (pD xs).r.length capr] 72) = W := ⟨_, rfl⟩
    have hw3' : w2.alloc (.cells [.int .i64 (pn xs), .bool (rF (px1 xs)), .slice Ar (pD xs).r.length capr].toArray 72) = w3 := hw3
    rw [hw3'] at hp3
    rw [hw3] at hx3
    have hR3 := hR2.ext hx3 (by simp) (by simp)
    have hvr3 := hvr.ext hx3 (by simp)
    have hz3 := (hx3.block _ (heap_lt hz2) (by simp)).trans hz2
    have hcz3 : newcol w2 col2 0 w.heap.size = 3 := (hx3.col _ (heap_lt hz2)).trans hcz2
    have hb3 := below_then' hb2 hb2.size hx3.below
    clear hw3' hx3 hR2 hvr hz2 hcz2 hb2
    have HD := Lib.hid (show (pD xs).e = pn xs ∧ (pD xs).c = rF (px1 xs) from ⟨rfl, rfl⟩)
    have hwh := whole_calls w3 _ 1 b _ _ hR3
    have HPI := Lib.hid (And.intro hPI hpb)
    clear hPI hpb hR3
    obtain ⟨nn, hnn⟩ : ∃ n, (pD xs).r.length = n := ⟨_, rfl⟩
    have Hnn := Lib.hid hnn
    rw [hnn] at hp3 hw3 hvr3 ⊢
    clear hnn
    generalize pn xs = n at *
    generalize rF (px1 xs) = fl at *
    obtain ⟨k0, e0⟩ := cell_row hz3 (j := 0) rfl
    obtain ⟨k1, e1⟩ := cell_row hz3 (j := 1) rfl
    obtain ⟨k2, e2⟩ := cell_row hz3 (j := 2) rfl
    obtain ⟨m0, -⟩ := cell_row hp3 (j := 0) rfl
    obtain ⟨m1, -⟩ := cell_row hp3 (j := 1) rfl
    obtain ⟨m2, -⟩ := cell_row hp3 (j := 2) rfl
    by_cases hw : px4 xs = []
    · have HSok := Lib.hid (HS.out.2 ⟨HPI.out.1, HPI.out.2, hw⟩)
      rw [hw, show (!false && ([] : List Int).isEmpty) = true from rfl] at hwh
      clear HS hw
      have hz8 := setCell_row (setCell_row (setCell_row hz3 0 (.int .i64 n)) 1 (.bool fl)) 2 (.slice Ar nn capr)
      have hb8 := ((hb3.setCell (p := ⟨w.heap.size, 0, none⟩) (Nat.le_refl _) (.int .i64 n)).setCell (p := ⟨w.heap.size, 1, none⟩) (Nat.le_refl _) (.bool fl)).setCell (p := ⟨w.heap.size, 2, none⟩) (Nat.le_refl _) (.slice Ar nn capr)
      have hx8 := (((Ext.refl [3] w3 (newcol w2 col2 0)).setCell (p := ⟨w.heap.size, 0, none⟩) (by simp [hcz3]) (.int .i64 n)).setCell (p := ⟨w.heap.size, 1, none⟩) (by simp [hcz3]) (.bool fl)).setCell (p := ⟨w.heap.size, 2, none⟩) (by simp [hcz3]) (.slice Ar nn capr)
      obtain ⟨q0, -⟩ := cell_row hz8 (j := 0) (v := .int .i64 n) rfl
      obtain ⟨q1, -⟩ := cell_row hz8 (j := 1) (v := .bool fl) rfl
      obtain ⟨q2, -⟩ := cell_row hz8 (j := 2) (v := .slice Ar nn capr) rfl
      have Hv8 := Lib.hid (hvr3.ext hx8 (by decide)).any
      have Hb8 := Lib.hid hb8
      clear hz8 hb8 hx8 hb3 hz3 hp3 hcz3 hvr3
      go_wp2_with fail
      clear hw3
      refine hwh.mono ?_
      rintro e _ ⟨rfl, rfl⟩
      go_wp2
      refine bodyPost_ret (v := .tuple #[.agg #[.int .i64 n, .bool fl, .slice Ar nn capr], .int .i64 0]) (by simp [results, Try.results48, go_sem, q0, q1, q2]) rfl ?_
      exact ⟨_, _, _, _, rfl, Hb8.out, .inl ⟨HSok.out, rfl, HD.out.1.symm, HD.out.2.symm, Hv8.out⟩⟩
    · have HNo := Lib.hid (show ¬ POK xs from fun h => hw (HS.out.1 h).2.2)
      rw [show (!false && (px4 xs).isEmpty) = false by cases hq : px4 xs with | nil => exact absurd hq hw | cons a l => rfl] at hwh
      clear HS hw
      have hz8 := setCell_row (setCell_row (setCell_row hz3 0 (.int .i64 0)) 1 (.bool false)) 2 (.slice none 0 0)
      have hb8 := ((hb3.setCell (p := ⟨w.heap.size, 0, none⟩) (Nat.le_refl _) (.int .i64 0)).setCell (p := ⟨w.heap.size, 1, none⟩) (Nat.le_refl _) (.bool false)).setCell (p := ⟨w.heap.size, 2, none⟩) (Nat.le_refl _) (.slice none 0 0)
      obtain ⟨q0, -⟩ := cell_row hz8 (j := 0) (v := .int .i64 0) rfl
      obtain ⟨q1, -⟩ := cell_row hz8 (j := 1) (v := .bool false) rfl
      obtain ⟨q2, -⟩ := cell_row hz8 (j := 2) (v := .slice none 0 0) rfl
      have Hb8 := Lib.hid hb8
      clear hz8 hb8 hb3 hz3 hp3 hcz3 hvr3
      go_wp2_with fail
      clear hw3
      refine hwh.mono ?_
      rintro e _ ⟨rfl, rfl⟩
      go_wp2
      refine bodyPost_ret (v := .tuple #[.agg #[.int .i64 0, .bool false, .slice none 0 0], .int .i64 3]) (by simp [results, Try.results48, go_sem, q0, q1, q2]) rfl ?_
      exact ⟨_, _, _, _, rfl, Hb8.out, .inr ⟨HNo.out, rfl, rfl, rfl⟩⟩
  · have HNo := Lib.hid (show ¬ POK xs from fun h => hno ⟨h.1, h.2.1⟩)
    clear hno HS
    have hx3 : Ext [] w2 col2 (w2.alloc (.cells #[.int .i64 0, .bool false, .slice none 0 0] 72)) (newcol w2 col2 0) := (Ext.refl _ _ _).alloc _ 0
    have hz3 := (hx3.block _ (heap_lt hz2) (by simp)).trans hz2
    have hb3 := below_then' hb2 hb2.size hx3.below
    obtain ⟨k0, e0⟩ := cell_row hz3 (j := 0) rfl
    obtain ⟨k1, e1⟩ := cell_row hz3 (j := 1) rfl
    obtain ⟨k2, e2⟩ := cell_row hz3 (j := 2) rfl
    have hz8 := setCell_row (setCell_row (setCell_row hz3 0 (.int .i64 0)) 1 (.bool false)) 2 (.slice none 0 0)
    have hb8 := ((hb3.setCell (p := ⟨w.heap.size, 0, none⟩) (Nat.le_refl _) (.int .i64 0)).setCell (p := ⟨w.heap.size, 1, none⟩) (Nat.le_refl _) (.bool false)).setCell (p := ⟨w.heap.size, 2, none⟩) (Nat.le_refl _) (.slice none 0 0)
    obtain ⟨q0, -⟩ := cell_row hz8 (j := 0) (v := .int .i64 0) rfl
    obtain ⟨q1, -⟩ := cell_row hz8 (j := 1) (v := .bool false) rfl
    obtain ⟨q2, -⟩ := cell_row hz8 (j := 2) (v := .slice none 0 0) rfl
    have Hb8 := Lib.hid hb8
    clear hz8 hb8 hb3 hz3 hx3 hz2 hcz2 hb2
    go_wp2
    refine bodyPost_ret (v := .tuple #[.agg #[.int .i64 0, .bool false, .slice none 0 0], .int .i64 3]) (by simp [results, Try.results48, go_sem, q0, q1, q2]) rfl ?_
    exact ⟨_, _, _, _, rfl, Hb8.out, .inr ⟨HNo.out, rfl, rfl, rfl⟩⟩
end Go.Proofs.Yteegdhfekemhmaa
