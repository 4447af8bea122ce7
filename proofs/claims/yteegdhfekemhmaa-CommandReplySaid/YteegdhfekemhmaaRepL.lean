/- The statement CommandReply of layer 17. -/
import Derived.Test.YteegdhfekemhmaaRepC
import Derived.Test.YteegdhfekemhmaaRef1
import Derived.Test.YteegdhfekemhmaaSnapE
import Derived.WideShapes
import Derived.Deep.RegionHeld3
import Derived.Deep.DeepCutAuto
import Derived.Deep.CutBlock
namespace Go.Proofs.Yteegdhfekemhmaa
open Go.RowKit
set_option linter.unusedSimpArgs false
set_option linter.unusedVariables false

/-- A reply as an argument. -/
def RdRep (W : World) (N : Nat → Prop) (v : Value) (p : RepD) : Prop := ∃ vr, v = repV p.e p.c vr ∧ InI64 p.e ∧ RdS W N vr p.r
theorem openL_strs {H : Type} {enc : TypeId × Value → H} {P : Program} {w : World} {base : Nat} {held : Bool} {t e : TypeId} {fuel : Nat} {v : Value} {x : DataW H × List MemPlace} (ht : P.underlying t = some (.slice e)) (he : P.underlying e = some .string) (hc : P.cellsOf e = 1) (hb : 0 < P.bytesOf e)
    (h : DataW.trod enc P w base (fun _ => true) held fuel t [v] = some x) (hw : ∀ n ∈ x.1.weights P t, n ≤ reachBytes) : ∃ ss, RdS w (fun _ => True) v ss := by
  obtain ⟨css, hr, _, hel⟩ := openL_slice ht hc (by omega) hb h hw
  have key : ∀ css : List (List Value), (∀ c ∈ css, ∃ s : ByteArray, c = [.string s]) → ∃ ss : List ByteArray, css.flatten = ss.map Value.string ∧ ss.length = css.length := by
    intro css
    induction css with
    | nil => intro _; exact ⟨[], rfl, rfl⟩
    | cons c css ih =>
      intro h
      obtain ⟨s, rfl⟩ := h c (by simp)
      obtain ⟨ss, h1, h2⟩ := ih fun c hc => h c (by simp [hc])
      exact ⟨s :: ss, by simp at h1 ⊢; exact h1, by simp [h2]⟩
  obtain ⟨ss, h1, h2⟩ := key css fun c hc => by
    obtain ⟨_, m, y, hy, _⟩ := hel c hc
    obtain ⟨s, rfl, _⟩ := DataW.trod_string he hy
    exact ⟨s, rfl⟩
  rw [h1, ← h2] at hr
  exact ⟨ss, hr⟩
set_option maxRecDepth 100000 in
theorem openL_Rep {H : Type} {enc : TypeId × Value → H} {W : World} {b0 : Nat} {v : Value} {d : DataW H} {ps : List MemPlace} (hval : Value.okWide Try.prog W .any b0 72 v)
    (h : DataW.Trod enc Try.prog W 0 (fun _ => true) true 72 v d ps) (hw : ∀ n ∈ d.weights Try.prog 72, n ≤ reachBytes) : ∃ x, RdRep W (fun _ => True) v x := by
  obtain ⟨cs, rfl, hcs⟩ := WideShapes.okWide_struct Try.underlying72 hval
  obtain ⟨fuel, hf⟩ := h
  obtain ⟨hl, hfs⟩ := openL_struct Try.underlying72 hf hw
  have n4 : Try.prog.cellsOf 72 = 3 := by kernel_rfl
  have c2 : Try.prog.cellsOf 27 = 1 := by kernel_rfl
  have c4 : Try.prog.cellsOf 4 = 1 := by kernel_rfl
  have c70 : Try.prog.cellsOf 70 = 1 := by kernel_rfl
  rw [n4] at hcs
  obtain ⟨l⟩ := cs
  simp only [Value.cells] at hfs
  match l, hcs with
  | [a0, a1, a2], _ =>
    obtain ⟨m0, y0, t0, _⟩ := hfs 0 _ rfl
    obtain ⟨m1, y1, t1, _⟩ := hfs 1 _ rfl
    obtain ⟨m2, y2, t2, w2⟩ := hfs 2 _ rfl
    simp [c2] at t0
    simp [c4] at t1
    simp [c70] at t2 w2
    obtain ⟨q0, e0, _, hq0⟩ := DataW.trod_int Try.underlying27 t0
    obtain ⟨q1, e1, _⟩ := DataW.trod_bool Try.underlying4 t1
    obtain ⟨ss, hss⟩ := openL_strs Try.underlying70 Try.underlying9 (by kernel_rfl) (of_decide_eq_true (by kernel_rfl)) t2 w2
    simp at e0 e1
    subst e0 e1
    exact ⟨⟨q0, q1, ss⟩, a2, rfl, wf64' hq0, hss⟩
theorem RdS.setNe {W : World} {N : Nat → Prop} {v u : Value} {ss : List ByteArray} (h : RdS W N v ss) {p : Addr} (hp : ∀ b, N b → b ≠ p.block) : RdS (W.setCell p u) N v ss :=
  Rd.keeps h fun b hb _ => ⟨heap_setCell_other _ _ _ _ (hp b hb), hb⟩
theorem below_undrew1' {w W : World} (h : Below w.drew.heap.size w.drew W) : Below w.heap.size w W := ⟨h.os, h.tape, h.output, h.size, h.block⟩
theorem Acc.ofNew {e : TypeId} {w w' : World} {v : Value} {xs : List Int} (h : NewB e w w' v xs) : Acc e w w' (newcol w (fun _ => 0) 1) v xs :=
  ⟨⟨owns_base h.1 (Nat.zero_le _), fun g hg => newcol_new ((h.1.lt g hg).1)⟩, h.2.2.1, Ext.newc h.2.2.2 1⟩
theorem acc_app1 {e : TypeId} {w0 w w1 : World} {o : Obj} {col : Col} {v v1 : Value} {xs : List Int} {y : Int} {n : Nat} (h : Acc e w0 w col v xs) (hy : 0 ≤ y ∧ y ≤ 255) (hown : w1.ownsRow 0 e 1 v1 n (u8s xs ++ [.int .u8 y])) (hn : n = (xs ++ [y]).length) (hg : (w.alloc o).grownBy w1 v.ownBlock)
    (hat : v1.ownBlock = v.ownBlock ∨ ∃ g, v1.ownBlock = some g ∧ w.heap.size ≤ g) : Acc e w0 w1 (newcol w col 1) v1 (xs ++ [y]) := by
  obtain ⟨h1, h2⟩ := h.own.app1 hg hown hat
  have e1 : u8s xs ++ [.int .u8 y] = u8s (xs ++ [y]) := by simp [u8s]
  rw [e1, hn] at h1
  exact ⟨h1, h.bytes.app (Bytes.one hy.1 hy.2), h.ext.trans h2⟩
theorem tL_size (j : Nat) (xs : List Int) : ∀ s ∈ tL j xs, s.size ≤ xs.length := by
  have hr : ∀ ys : List Int, (rT ys).length ≤ ys.length ∧ (rTRest ys).length ≤ ys.length := by
    intro ys
    unfold rT rTRest
    cases hq : rtext ys with
    | none => simp
    | some p =>
      obtain ⟨t, r⟩ := p
      unfold rtext at hq
      cases hn : rnum ys with
      | none => rw [hn] at hq; simp at hq
      | some p =>
        obtain ⟨n, r'⟩ := p
        rw [hn] at hq
        simp only at hq
        have h1 := rRest_len ys
        rw [rRest, hn] at h1
        simp only at h1
        split at hq
        · simp only [Option.some.injEq, Prod.mk.injEq] at hq
          rw [← hq.1, ← hq.2]
          simp; omega
        · cases hq
  have hR : ∀ i, (tR i xs).length ≤ xs.length := by
    intro i
    induction i with
    | zero => exact Nat.le_refl _
    | succ i ih => exact Nat.le_trans (hr _).2 ih
  induction j with
  | zero => intro s hs; simp [tL] at hs
  | succ j ih =>
    intro s hs
    rw [tL] at hs
    rcases List.mem_append.1 hs with h | h
    · exact ih s h
    · simp at h
      subst h
      rw [strOfNums_len]
      exact Nat.le_trans (hr _).1 (hR j)
theorem pD_size (xs : List Int) : ∀ s ∈ (pD xs).r, s.size ≤ xs.length := by
  intro s hs
  have h := tL_size _ _ s hs
  have h1 := rRest_len xs
  have hf : (rFRest (px1 xs)).length ≤ (px1 xs).length := by
    unfold rFRest
    cases hq : rflag (px1 xs) with
    | none => simp
    | some p =>
      obtain ⟨f, r⟩ := p
      unfold rflag at hq
      cases hp : px1 xs with
      | nil => rw [hp] at hq; simp at hq
      | cons a l =>
        rw [hp] at hq
        simp only at hq
        split at hq
        · simp at hq; rw [← hq.2]; simp
        · cases hq
  have h3 := rRest_len (px2 xs)
  exact Nat.le_trans h (Nat.le_trans h3 (Nat.le_trans hf h1))

set_option maxHeartbeats 20000000 in
set_option maxRecDepth 100000 in
theorem commandreply_calls (w : World) (v : Value) (p : RepD) (at0 x : Int) (hv : RdRep w (fun _ => True) v p) (hat0 : (Lit.int .i64 at0).wf = true) (hx0 : (Lit.int .u8 x).wf = true) :
    Calls Try.prog 9 #[v, .int .i64 at0, .int .u8 x] w fun e w' => e = .returned (.bool true) ∧ Below w.heap.size w w' := by
  have hat := wf64' hat0
  unfold InI64 at hat
  have hx : 0 ≤ x ∧ x ≤ 255 := by simp [Lit.wf, IntKind.min, IntKind.max, IntKind.signed, IntKind.bits] at hx0; omega
  clear hat0 hx0
  obtain ⟨e, ch, ss0⟩ := p
  obtain ⟨vr0, rfl, he64, hv0⟩ := hv
  simp only at he64 hv0
  have hb0 := (Below.refl w.heap.size w).alloc (Nat.le_refl _) (.cells #[.int .i64 e, .bool ch, vr0] 72)
  have hbox := heap_alloc_new w (.cells [.int .i64 e, .bool ch, vr0].toArray 72)
  have hv0' := hv0.below hb0
  unfold repV
  go_enter Try.func9, Try.ntmps9
  go_wp2_with fail
  refine (begun17_calls _).mono ?_
  rintro e1 w1 ⟨rfl, hb1⟩
  have hbox1 := (hb1.block _ (heap_lt hbox)).trans hbox
  have hb1' := below_then' hb0 hb0.size hb1
  have hv1 := hv0'.below hb1
  obtain ⟨k0, -⟩ := cell_row hbox1 (j := 0) rfl
  obtain ⟨k1, -⟩ := cell_row hbox1 (j := 1) rfl
  obtain ⟨k2, -⟩ := cell_row hbox1 (j := 2) rfl
  have hcut := cutreply_calls w1 _ e ch vr0 ss0 hv1
  unfold repV at hcut
  clear hbox hb1 hv0 hv0' hb0
  go_wp2_with fail
  refine hcut.mono ?_
  rintro e2 w2 ⟨vr, ss, rfl, hl, hs, hv2, hb2⟩
  obtain ⟨Av, capv, rfl, -, -⟩ := hv2.slice
  have hlt1 := heap_lt hbox1
  have hbox2 := (hb2.block _ (heap_lt hbox1)).trans hbox1
  have hb2' := below_then' hb1' hb1'.size hb2
  clear hcut k0 k1 k2 hv1 hbox1 hb2 hb1'
  obtain ⟨k0, e0⟩ := cell_row hbox2 (j := 0) rfl
  obtain ⟨k1, e1⟩ := cell_row hbox2 (j := 1) rfl
  obtain ⟨k2, e2⟩ := cell_row hbox2 (j := 2) rfl
  go_upto_region 5 with fail
  have hne : ∀ b, w1.heap.size ≤ b → b ≠ w.heap.size := fun b hb => by omega
  have hz3 := setCell_row (setCell_row (setCell_row hbox2 0 (.int .i64 e)) 1 (.bool ch)) 2 (.slice Av ss.length capv)
  have hb3 := ((hb2'.setCell (p := ⟨w.heap.size, 0, none⟩) (Nat.le_refl _) (.int .i64 e)).setCell (p := ⟨w.heap.size, 1, none⟩) (Nat.le_refl _) (.bool ch)).setCell (p := ⟨w.heap.size, 2, none⟩) (Nat.le_refl _) (.slice Av ss.length capv)
  have hv3 := ((hv2.setNe (p := ⟨w.heap.size, 0, none⟩) (u := .int .i64 e) hne).setNe (p := ⟨w.heap.size, 1, none⟩) (u := .bool ch) hne).setNe (p := ⟨w.heap.size, 2, none⟩) (u := .slice Av ss.length capv) hne
  generalize (((w2.setCell ⟨w.heap.size, 0, none⟩ (.int .i64 e)).setCell ⟨w.heap.size, 1, none⟩ (.bool ch)).setCell ⟨w.heap.size, 2, none⟩ (.slice Av ss.length capv)) = w3 at hz3 hb3 hv3 ⊢
  have hz3' : w3.heap[w.heap.size]? = some (.cells [.int .i64 e, .bool ch, .slice Av ss.length capv].toArray 72 (0, 0)) := hz3
  clear hz3 hbox2 hb2' k0 e0 k1 e1 k2 e2 hne hv2 hlt1
  have HC := Lib.hid (fun (W : World) (hW : Below w3.heap.size w3 W) => (show W.cell? ⟨w.heap.size, 0, none⟩ = some (.int .i64 e) ∧ W.cell? ⟨w.heap.size, 1, none⟩ = some (.bool ch) ∧ W.cell? ⟨w.heap.size, 2, none⟩ = some (.slice Av ss.length capv) from
    ⟨(cell_row ((hW.block _ (heap_lt hz3')).trans hz3') (j := 0) rfl).1, (cell_row ((hW.block _ (heap_lt hz3')).trans hz3') (j := 1) rfl).1, (cell_row ((hW.block _ (heap_lt hz3')).trans hz3') (j := 2) rfl).1⟩))
  obtain ⟨a0, a1, a2⟩ := HC.out _ (Below.refl _ _)
  by_cases hE : e < 0
  · go_wp2
    go_ret
    exact ⟨rfl, hb3⟩
  by_cases hE2 : 14 < e
  · go_wp2
    go_ret
    exact ⟨rfl, hb3⟩
  have hok : RepD.ok ⟨e, ch, ss⟩ := ⟨by show 0 ≤ e; omega, by show e ≤ 14; omega, by show ss.length ≤ 1000; omega, fun s h => by have := hs s h; omega⟩
  have hR := reply_calls w3 _ ⟨e, ch, ss⟩ (.slice Av ss.length capv) hv3 hok
  unfold repV at hR
  have HOK := Lib.hid (rep_read hok)
  have le := numB_len he64.1 he64.2
  have ln := numB_len (n := ss.length) (by omega) (by omega)
  have HLt := Lib.hid (fun j => (show (rowsB (ss.take j)).length ≤ 500 from by
    have h1 := rowsB_len (ss.take j) 40 (by omega) fun s h => hs s (List.mem_of_mem_take h)
    have h2 : (ss.take j).length ≤ 10 := by simp; omega
    omega))
  have HRB := Lib.hid (show repB ⟨e, ch, ss⟩ = numB e ++ flagB ch ++ numB ss.length ++ rowsB ss from rfl)
  have hRl : (repB ⟨e, ch, ss⟩).length ≤ 1000 := by
    have := HLt.out ss.length
    rw [List.take_length] at this
    rw [HRB.out]; simp only [List.length_append, flagB, List.length_cons, List.length_nil]; omega
  have HRp := Lib.hid (show 1 ≤ (repB ⟨e, ch, ss⟩).length by have := numB_pos e; rw [HRB.out]; simp only [List.length_append]; omega)
  generalize repB ⟨e, ch, ss⟩ = RB at *
  have Hs := Lib.hid hs
  clear hok hs hz3'
  go_wp2_with fail
  refine hR.mono ?_
  rintro e3 w4 ⟨v4, rfl, hn4⟩
  have hr4 : RdB w4 (In (fun _ => 0) 0) v4 RB := hn4.rd.weaken fun _ _ _ => rfl
  obtain ⟨A4, cap4, rfl⟩ := own_slice' hn4.1
  have hb34 := hn4.2.2.2
  have hb4 := below_then' hb3 hb3.size hb34
  clear hR hn4 a0 a1 a2
  obtain ⟨a0, a1, a2⟩ := HC.out _ hb34
  go_wp2_with fail
  refine (num1_new w4 e he64.1 he64.2).mono ?_
  rintro e4 w5 ⟨v5, rfl, hn5⟩
  have hA5 := Acc.ofNew hn5
  generalize hNE : numB e = NE at hA5 hn5 le
  have HNE := Lib.hid hNE
  clear hNE
  obtain ⟨A5, cap5, rfl⟩ := own_slice' hn5.1
  have hb35 := below_then' hb34 hb34.size hn5.2.2.2
  clear a0 a1 a2 hn5
  obtain ⟨a0, a1, a2⟩ := HC.out _ hb35
  go_upto_if 34 with fail
  go_cut [9] (fun l wz => ∃ (A : Option Addr) (cap : Nat) (col : Col) (L : List Int), l = .slice A L.length cap ∧ L.length ≤ 11 ∧ Hid (L = NE ++ flagB ch) ∧ Hid (Acc 5 w4 wz col l L))
  case first =>
    have hown := hA5.own.1
    clear hx hat
    cases ch
    all_goals
      go_wp2_with (at_builtin; refine push1 rfl _ _ 24 5 rfl Try.underlying24 Try.infoU8 rfl (by omega) 0 _ _ _ rfl hown (by omega) _ rfl rfl (by omega) ?_)
      intro A6 cap6 w6 hown6 hgrow6 hat6
      first | (have hA6 := acc_app1 hA5 (y := 0) (by omega) hown6 (by simp) hgrow6 hat6) | (have hA6 := acc_app1 hA5 (y := 1) (by omega) hown6 (by simp) hgrow6 hat6)
      have HA6 := Lib.hid hA6
      clear hA6 hown6 hgrow6 hat6 hown hA5
      go_wp2_with fail
      go_meet
      exact ⟨A6, cap6, _, _, by rw [List.length_append]; rfl, by simp [flagB]; omega, rfl, HA6⟩
  case rest =>
  obtain ⟨A6, cap6, col6, L, rfl, hLl, HL, HA6⟩ := hcut
  have hbw4c : Below w4.heap.size w4 wc := HA6.out.ext.below0 (by decide)
  have hb3c := below_then' hb34 hb34.size hbw4c
  clear a0 a1 a2 hA5 hb35
  obtain ⟨a0, a1, a2⟩ := HC.out _ hb3c
  go_wp2_with fail
  refine (num1_new wc ss.length (by omega) (by omega)).mono ?_
  rintro e6 w7 ⟨v7, rfl, hn7⟩
  have hx7 := Ext.newc (S := []) (col := col6) hn7.2.2.2 0
  have hA7 := HA6.out.go hx7
  have hr7 := hn7.rd.1
  obtain ⟨A7, cap7, rfl⟩ := own_slice' hn7.1
  go_wp2_with (at_builtin; refine push_acc rfl _ _ 24 5 rfl Try.underlying24 Try.infoU8 rfl (by omega) rfl hA7 _ _ rfl hr7 (by omega) ?_)
  intro A8 cap8 w8 hA8 hx8
  obtain ⟨L8, hL8, hL8l⟩ : ∃ L', L ++ numB ss.length = L' ∧ L'.length ≤ 21 := ⟨_, rfl, by simp only [List.length_append]; omega⟩
  rw [hL8] at hA8
  first | rw [← List.length_append, hL8] at hA8 | skip
  rw [← List.length_append, hL8]
  have HL8 := Lib.hid (show L8 = NE ++ flagB ch ++ numB ss.length by rw [← hL8, HL.out])
  clear hL8 HL hLl hx8 hA7 hx7 hr7 hn7 HA6 a0 a1 a2 hb3c hbw4c
  have Hv3 := Lib.hid hv3
  clear hv3
  go_upto_block 0 with fail
  go_cut [9] (fun l wz => ∃ (A : Option Addr) (cap : Nat) (col : Col) (M : List Int), l = .slice A M.length cap ∧ Hid (M = RB) ∧ Hid (Acc 5 w4 wz col l M))
  case first =>
    clear hx hat
    go_wp2_with fail
    go_loopw [9, 10] (fun l i wr => ∃ (j : Nat) (colr : Col) (M : List Int), i = .int .i64 j ∧ j ≤ ss.length ∧ Hid (M = L8 ++ rowsB (ss.take j)) ∧ M.length ≤ 600 ∧ Acc 5 w4 wr colr l M) (fun _ i _ => ss.length - (intOf i).toNat)
    case atStart => exact ⟨0, _, L8, rfl, by omega, by show _ = _; simp [rowsB], by omega, hA8⟩
    case round =>
      obtain ⟨j, colr, M, rfl, hj, HM, hMl, hA⟩ := hrel
      obtain ⟨Am, capm, rfl⟩ := hA.slice
      have hbr : Below w4.heap.size w4 wr := hA.ext.below0 (by decide)
      have hb3r := below_then' hb34 hb34.size hbr
      obtain ⟨a0, a1, a2⟩ := HC.out _ hb3r
      by_cases hc : j < ss.length
      · obtain ⟨b1, o1, hAv, hcell⟩ := (Hv3.out.below hb3r).at hc
        subst hAv
        have hss := Hs.out _ (List.getElem_mem hc)
        have hst := rowsB_snoc (ss.take j) ss[j]
        rw [← List.take_succ_eq_append_getElem hc] at hst
        have Hst := Lib.hid hst
        generalize ss[j] = s at hcell hss Hst
        clear hst hbr
        obtain ⟨As, caps, Ws, hcv, hrs, hbs2⟩ := str_bytes (P := Try.prog) wr s (by omega) Try.underlying9 Try.underlying24 Try.underlying5
        have hxs : Ext [] wr colr Ws (newcol wr colr 0) := Ext.newc hbs2 0
        have hAs := hA.go hxs
        have hns := sNums_len s
        rw [← hns] at hcv hrs
        have hsn : (sNums s).length ≤ 40 := by omega
        have hts := textB_len (xs := sNums s) (by omega)
        clear hns hA hxs hbs2
        go_wp2_with fail
        refine (text1_calls _ _ _ (sNums s) hrs.1 (by omega)).mono ?_
        rintro e5 w5 ⟨v5, rfl, hn5⟩
        have hx5 := Ext.newc (S := []) (col := newcol wr colr 0) hn5.2.2.2 0
        have hA5 := hAs.go hx5
        have hr5 := hn5.rd.1
        obtain ⟨A5, cap5, rfl⟩ := own_slice' hn5.1
        clear hAs hx5 hn5 hcv hrs
        go_wp2_with (at_builtin; refine push_acc rfl _ _ 24 5 rfl Try.underlying24 Try.infoU8 rfl (by omega) rfl hA5 _ _ rfl hr5 (by omega) ?_)
        intro A9 cap9 w9 hA9 hx9
        obtain ⟨M9, hM9⟩ : ∃ M', M ++ textB (sNums s) = M' := ⟨_, rfl⟩
        rw [hM9] at hA9
        first | rw [← List.length_append, hM9] at hA9 | skip
        rw [← List.length_append, hM9]
        have HM9 : Hid (M9 = L8 ++ rowsB (ss.take (j + 1))) := by show _ = _; rw [← hM9, HM.out, Hst.out, List.append_assoc]
        have hM9l : M9.length ≤ 600 := by rw [HM9.out, List.length_append]; have := HLt.out (j + 1); omega
        clear hM9 hx9 hA5 hr5
        go_wp2
        go_roundw
        case rel => exact ⟨j + 1, _, M9, by go_num, by omega, HM9, hM9l, hA9⟩
        case measure => simp [intOf]; omega
      · obtain rfl : j = ss.length := by omega
        have HMf : Hid (M = RB) := by show _ = _; rw [HM.out, HL8.out, List.take_length, HRB.out, HNE.out]
        go_wp2
        go_meet
        exact ⟨_, _, colr, M, rfl, HMf, hA⟩
  case rest =>
  obtain ⟨Am, capm, colm, M, rfl, HM, HAm⟩ := hcut
  have hM := HM.out
  subst hM
  have hrm := HAm.out.rd (by omega)
  have hrb := hr4.ext HAm.out.ext (by decide)
  have hb4c : Below w4.heap.size w4 wc := HAm.out.ext.below0 (by decide)
  have hb3c := below_then' hb34 hb34.size hb4c
  have hbc := below_then' hb4 hb4.size hb4c
  have hvc := Hv3.out.below hb3c
  obtain ⟨a0, a1, a2⟩ := HC.out _ hb3c
  clear hA8 HAm HM hr4 hb4c hb4 Hs HL8 HLt
  go_wp2_with fail
  refine (readreply_calls wc _ _ M hrb.1 (by omega)).mono ?_
  rintro e7 w7 ⟨pe, pc, vr7, er, rfl, hb7, hcase⟩
  rcases hcase with ⟨_, rfl, hpe, hpc, hv7⟩ | ⟨hno, _⟩
  case inr => exact absurd HOK.out.1 hno
  rw [HOK.out.2] at hpe hpc hv7
  simp only at hpe hpc hv7
  subst hpe hpc
  unfold repV
  obtain ⟨A7, cap7, rfl, -, -⟩ := hv7.slice
  have hb77 := (Below.refl w7.heap.size w7).alloc (Nat.le_refl _) (.cells #[.int .i64 pe, .bool pc, .slice A7 ss.length cap7] 72)
  have hb7c := below_then' hb7 hb7.size hb77
  have hrm7 := hrm.below hb7c
  have hrb7 := hrb.below hb7c
  have hvc7 := hvc.below hb7c
  have hv77 := hv7.below hb77
  have hb3d := below_then' hb3c hb3c.size hb7c
  have hbd := below_then' hbc hbc.size hb7c
  have hc1 := RdB.conv (P := Try.prog) hrm7 Try.underlying24 Try.underlying5 Try.underlying9
  have hc2 := RdB.conv (P := Try.prog) hrb7 Try.underlying24 Try.underlying5 Try.underlying9
  obtain ⟨sM, hsM⟩ : ∃ s, strOfNums M = s := ⟨_, rfl⟩
  rw [hsM] at hc1 hc2
  clear a0 a1 a2 hsM hrm hrb hvc hv7 hb7 hb7c hb77 hrm7 hb3c hbc
  obtain ⟨a0, a1, a2⟩ := HC.out _ hb3d
  have hEq := eqreply_calls _ _ _ pe pc _ _ ss hvc7 hv77
  unfold repV at hEq
  go_wp2_with fail
  refine hEq.mono ?_
  rintro e8 w9 ⟨rfl, hb9⟩
  have hr9 := hrb7.below hb9
  have hbx := below_then' hbd hbd.size hb9
  clear a0 a1 a2 hc1 hc2 hEq hb9 hrb7 hvc7 hv77 hb3d hbd HC HOK HRB Hv3 HNE
  have hA0 : Acc 5 w9 w9 (fun _ => 0) (.slice none 0 0) [] := Acc.nil _ (Ext.refl _ _ _)
  go_wp2_with (at_builtin; refine push_acc rfl _ _ 24 5 rfl Try.underlying24 Try.infoU8 rfl (by omega) rfl hA0 _ _ rfl hr9.1 (by (try simp only [List.length_nil]); omega) ?_)
  intro A9 cap9 wA hacc hxA
  try simp only [List.nil_append] at hacc
  try simp only [List.nil_append]
  have hYp := HRp.out
  clear hA0 hxA hr9
  go_upto_if 86 with fail
  go_cut [13] (fun l wz => ∃ (zs : List Int) (A : Option Addr) (cap : Nat), l = .slice A zs.length cap ∧ zs.length ≤ 1000 ∧ Hid (RdB wz (fun _ => True) l zs) ∧ Hid (Below w.heap.size w wz))
  case first =>
    by_cases hc2 : 0 ≤ at0
    case' neg =>
      go_wp2_with fail
      go_meet
      exact ⟨M, _, _, rfl, hRl, Lib.hid (hacc.rd (by omega)).any, Lib.hid (below_then' hbx hbx.size (hacc.ext.below0 (by decide)))⟩
    obtain ⟨a, rfl⟩ := Int.eq_ofNat_of_zero_le hc2
    have hk : a % M.length < M.length := Nat.mod_lt _ hYp
    have hmod1 : (a : Int) % (M.length : Int) = ((a % M.length : Nat) : Int) := by omega
    have hmod2 : (a : Int).tmod (M.length : Int) = ((a % M.length : Nat) : Int) := by rw [Int.tmod_eq_emod_of_nonneg (by omega)]; omega
    have hx00 : ((M.length : Int) == 0) = false := by simp only [beq_eq_false_iff_ne]; omega
    generalize a % M.length = k1 at hk hmod1 hmod2
    have hr0 := hacc.bytes.at k1
    obtain ⟨dd, hdd, hd0, hd1⟩ : ∃ d, bits .xor .u8 (M.getD k1 0) x = d ∧ 0 ≤ d ∧ d ≤ 255 := by
      refine ⟨_, rfl, ?_⟩
      rw [u8_xor _ x hr0.1 (by omega) hx.1 (by omega)]
      have h1 : (M.getD k1 0).toNat ^^^ x.toNat < 2 ^ 8 := Nat.xor_lt_two_pow (by omega) (by omega)
      omega
    have hown := hacc.own.1
    obtain ⟨g, cap2, he, hg1, hg2⟩ := hown.form (by omega)
    simp at he
    obtain ⟨rfl, rfl⟩ := he
    have hcell := hown.cellAt k1 (by omega)
    rw [u8s_get _ _ hk] at hcell
    have hfz := hown.frozenAt k1
    have hst := hown.stored k1 (.int .u8 dd)
    rw [u8s_set] at hst
    obtain ⟨hO7, hx7⟩ := hacc.own.app hst.2 hst.1 (.inl rfl)
    have hw7 := below_then' hbx hbx.size ((hacc.ext.trans hx7).below0 (by decide))
    generalize M.getD k1 0 = c at hcell hdd hr0
    have hr7 : RdB _ (In _ 1) _ (M.set k1 dd) := Ow.rdB (by simpa using hO7) (by omega) (bytes_set hacc.bytes hd0 hd1)
    have Hr7 := Lib.hid hr7.any
    have Hw7 := Lib.hid hw7
    clear hr7 hw7 hst hO7 hx7 hown
    go_wp2_with fail
    go_meet
    exact ⟨M.set k1 dd, some ⟨g, 0, none⟩, cap9, by rw [List.length_set], by simpa using hRl, Hr7, Hw7⟩
  case rest =>
  obtain ⟨zs, Az, capz, rfl, hzl, Hrz, Hbz⟩ := hcut
  clear hacc hbx hx hat hYp hRl HRp
  go_wp2_with fail
  refine (readreply_calls _ _ _ zs Hrz.out.1 (by omega)).mono ?_
  rintro e9 w9 ⟨e4, c4, vr4, er, rfl, hb9, hcase⟩
  have hbz9 := below_then' Hbz.out Hbz.out.size hb9
  have hrz9 := Hrz.out.below hb9
  clear hb9 Hbz
  unfold repV
  rcases hcase with ⟨hpok, rfl, hi4, hc4, hv4⟩ | ⟨_, rfl, rfl, rfl⟩
  case inr =>
    have hfin := hbz9.alloc hbz9.size (.cells #[.int .i64 0, .bool c4, .slice none 0 0] 72)
    go_wp2
    go_ret
    exact ⟨ret_bool (by simp), hfin⟩
  have hinv := rep_inv Hrz.out.1.2 hpok
  have hsz4 := pD_size zs
  have hokD : (pD zs).ok := ⟨hinv.2.1, hinv.2.2.1, hinv.2.2.2, fun s h => by have := hsz4 s h; omega⟩
  obtain ⟨Ar4, cpr4, rfl, -, -⟩ := hv4.slice
  obtain ⟨sZ, hsZ⟩ : ∃ s, strOfNums zs = s := ⟨_, rfl⟩
  have HsZ := Lib.hid hsZ
  have Hinv := Lib.hid hinv.1
  have HokD := Lib.hid hokD
  have Hi4 := Lib.hid hi4
  have Hc4 := Lib.hid hc4
  clear hpok hinv hokD hi4 hc4 hsZ Hrz hsz4
  have hz := heap_alloc_new w9 (.cells [.int .i64 e4, .bool c4, .slice Ar4 (pD zs).r.length cpr4].toArray 72)
  have hb67 := (Below.refl w9.heap.size w9).alloc (Nat.le_refl _) (.cells #[.int .i64 e4, .bool c4, .slice Ar4 (pD zs).r.length cpr4] 72)
  obtain ⟨w7, hw7⟩ : ∃ W, w9.alloc (.cells #[.int .i64 e4, .bool c4, .slice Ar4 (pD zs).r.length cpr4] 72) = W := ⟨_, rfl⟩
  have hw7' : w9.alloc (.cells [.int .i64 e4, .bool c4, .slice Ar4 (pD zs).r.length cpr4].toArray 72) = w7 := hw7
  rw [hw7'] at hz
  rw [hw7] at hb67
  clear hw7'
  have hrz := hrz9.below hb67
  have hv7 := hv4.below hb67
  have hbz := below_then' hbz9 hbz9.size hb67
  have Hsn := Lib.hid (fun (W : World) (hW : Below w7.heap.size w7 W) => (show Calls Try.prog 47 #[.agg #[.int .i64 e4, .bool c4, .slice Ar4 (pD zs).r.length cpr4]] W (fun e w' => ∃ v', e = .returned v' ∧ NewB 5 W w' v' zs) from by
    have h := reply_calls W _ (pD zs) _ (hv7.below hW) HokD.out
    rw [← Hinv.out, ← Hi4.out, ← Hc4.out] at h
    exact h))
  have HC := Lib.hid (fun (W : World) (hW : Below w7.heap.size w7 W) => (show W.cell? ⟨w9.heap.size, 0, none⟩ = some (.int .i64 e4) ∧ W.cell? ⟨w9.heap.size, 1, none⟩ = some (.bool c4) ∧ W.cell? ⟨w9.heap.size, 2, none⟩ = some (.slice Ar4 (pD zs).r.length cpr4) ∧ (convert 24 9 (.slice Az zs.length capz)).run Try.prog W = .ok (.string sZ) W from
    ⟨(cell_row ((hW.block _ (heap_lt hz)).trans hz) (j := 0) rfl).1, (cell_row ((hW.block _ (heap_lt hz)).trans hz) (j := 1) rfl).1, (cell_row ((hW.block _ (heap_lt hz)).trans hz) (j := 2) rfl).1, by rw [← HsZ.out]; exact RdB.conv (hrz.below hW) Try.underlying24 Try.underlying5 Try.underlying9⟩))
  have hd0 : Below w7.heap.size w7 w7.drew := (Below.refl _ _).drew
  clear hrz9 hbz9 hb67 hv4 hv7 hrz hz HokD Hinv Hi4 Hc4
  generalize (pD zs).r.length = nr at *
  go_upto_region 26 with fail
  clear hw7
  refine wp_region_noPanic ?_
  refine wp_region_held_drew (S := fun W => W.cell? ⟨w9.heap.size, 0, none⟩ = some (.int .i64 e4) ∧ W.cell? ⟨w9.heap.size, 1, none⟩ = some (.bool c4) ∧ W.cell? ⟨w9.heap.size, 2, none⟩ = some (.slice Ar4 nr cpr4) ∧ (convert 24 9 (.slice Az zs.length capz)).run Try.prog W = .ok (.string sZ) W) (by kernel_rfl) (HC.out _ hd0) (fun hH0 => ?_)
  refine' takeH 0 rfl (by kernel_rfl) (by kernel_rfl) (by kernel_rfl) (fun _ _ _ h => h) (by rfl) (by assumption) ?gyq10 ?grq10
  case gyq10 => intro W hSW; obtain ⟨s0, s1, s2, cA⟩ := hSW; go_simp; try with_reducible rfl
  try simp only [Act.put, List.setIfInBounds_toArray, List.set_cons_zero, List.set_cons_succ]
  refine' takeH 3 rfl (by kernel_rfl) (by kernel_rfl) (by kernel_rfl) (fun _ _ _ h => h) (by rfl) (by assumption) ?gyq23 ?grq23
  case gyq23 => intro W hSW; go_simp; try with_reducible rfl
  try simp only [Act.put, List.setIfInBounds_toArray, List.set_cons_zero, List.set_cons_succ]
  refine' takeH 4 rfl (by kernel_rfl) (by kernel_rfl) (by kernel_rfl) (fun _ _ _ h => h) (by rfl) (by assumption) ?gyq34 ?grq34
  case gyq34 => intro W hSW; obtain ⟨s0, s1, s2, cA⟩ := hSW; go_simp; try with_reducible rfl
  try simp only [Act.put, List.setIfInBounds_toArray, List.set_cons_zero, List.set_cons_succ]
  refine wpAnyH_ready (rs := [1]) (by kernel_rfl) (by simp) ?_
  refine AllReadyH.cons rfl (fun K hK => ?_) AllReadyH.nil
  go_simp
  refine (Hsn.out _ hd0).mono ?_
  rintro e wa ⟨va, rfl, hna⟩
  have hba := below_undrew1' hna.2.2.2
  have hra := hna.rd
  obtain ⟨Aa, capa, rfl⟩ := own_slice' hna.1
  have hca := RdB.conv (P := Try.prog) hra Try.underlying24 Try.underlying5 Try.underlying9
  rw [HsZ.out] at hca
  try dsimp only
  refine hK.out _ _ (HC.out _ hba) (fun hH4 => ?_)
  clear hK K
  try simp only [Act.put, List.getElem_toArray, List.getElem_cons_succ, List.getElem_cons_zero, List.setIfInBounds_toArray, List.set_cons_zero, List.set_cons_succ]
  refine wpAnyH_ready (rs := [2]) (by kernel_rfl) (by simp) ?_
  refine AllReadyH.cons rfl (fun K hK => ?_) AllReadyH.nil
  go_simp
  try dsimp only
  refine hK.out _ _ (HC.out _ hba) (fun hH5 => ?_)
  clear hK K
  try simp only [Act.put, List.getElem_toArray, List.getElem_cons_succ, List.getElem_cons_zero, List.setIfInBounds_toArray, List.set_cons_zero, List.set_cons_succ]
  refine' takeH 5 rfl (by kernel_rfl) (by kernel_rfl) (by kernel_rfl) (fun _ _ _ h => h) (by rfl) (by assumption) ?gyq65 ?grq65
  case gyq65 => intro W hSW; go_simp; try with_reducible rfl
  try simp only [Act.put, List.setIfInBounds_toArray, List.set_cons_zero, List.set_cons_succ]
  refine' takeH 6 rfl (by kernel_rfl) (by kernel_rfl) (by kernel_rfl) (fun _ _ _ h => h) (by rfl) (by assumption) ?gyq66 ?grq66
  case gyq66 => intro W hSW; go_simp; try with_reducible rfl
  try simp only [Act.put, List.setIfInBounds_toArray, List.set_cons_zero, List.set_cons_succ]
  refine wpAnyH_done (by kernel_rfl) ?_ _
  refine NoPanic.normal ?_
  go_wp2
  go_ret
  exact ⟨ret_bool (by simp), below_then' hbz hbz.size hba⟩
end Go.Proofs.Yteegdhfekemhmaa
