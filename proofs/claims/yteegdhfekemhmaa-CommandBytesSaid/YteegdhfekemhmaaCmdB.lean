/- The statement CommandBytes of layer 17. -/
import Derived.Test.YteegdhfekemhmaaCmdR
import Derived.Test.YteegdhfekemhmaaAcc
import Derived.Test.YteegdhfekemhmaaRef1
import Derived.Test.YteegdhfekemhmaaRefU
import Derived.Test.YteegdhfekemhmaaShort
import Derived.Deep.RegionHeld3
import Derived.Deep.RegionWith
import Derived.Deep.DeepCutAuto
import Derived.Deep.CutBlock
namespace Go.Proofs.Yteegdhfekemhmaa
open Go.RowKit

set_option maxHeartbeats 20000000 in
set_option maxRecDepth 100000 in
theorem commandbytes_calls (w : World) (v : Value) (d : CmdD) (at0 x : Int) (vr : Value) (rest : List Int) (hv : RdCmd w (fun _ => True) v d) (hat0 : (Lit.int .i64 at0).wf = true) (hx0 : (Lit.int .u8 x).wf = true) (hr : RdL w (fun _ => True) vr rest) :
    Calls Try.prog 3 #[v, .int .i64 at0, .int .u8 x, vr] w fun e w' => e = .returned (.bool true) ∧ Below w.heap.size w w' := by
  have hat := wf64' hat0
  unfold InI64 at hat
  have hx : 0 ≤ x ∧ x ≤ 255 := by simp [Lit.wf, IntKind.min, IntKind.max, IntKind.signed, IntKind.bits] at hx0; omega
  clear hat0 hx0
  obtain ⟨rfl, hk, hcl, hq⟩ := hv
  obtain ⟨k, c, q, s0⟩ := d
  simp only at hk hcl hq
  unfold cmdV
  go_enter Try.func3, Try.ntmps3
  have hbw := (Below.refl w.heap.size w).alloc (Nat.le_refl _) (.cells #[.int .i64 k, .int .i64 c, .int .i64 q, .string s0] 23)
  have hbox := heap_alloc_new w (.cells #[.int .i64 k, .int .i64 c, .int .i64 q, .string s0] 23)
  go_wp2_with fail
  refine (begun17_calls _).mono ?_
  rintro e w1 ⟨rfl, hb1⟩
  have hbox1 := (hb1.block _ (heap_lt hbox)).trans hbox
  have hb1' := below_then' hbw hbw.size hb1
  obtain ⟨k0, e0⟩ := cell_row (cs := [.int .i64 k, .int .i64 c, .int .i64 q, .string s0]) hbox1 (j := 0) rfl
  obtain ⟨k1, e1⟩ := cell_row (cs := [.int .i64 k, .int .i64 c, .int .i64 q, .string s0]) hbox1 (j := 1) rfl
  obtain ⟨k2, e2⟩ := cell_row (cs := [.int .i64 k, .int .i64 c, .int .i64 q, .string s0]) hbox1 (j := 2) rfl
  obtain ⟨k3, e3⟩ := cell_row (cs := [.int .i64 k, .int .i64 c, .int .i64 q, .string s0]) hbox1 (j := 3) rfl
  clear hbw hbox hb1
  have hcut := cut17_calls w1 k c q s0
  unfold cmdV at hcut
  go_wp2_with fail
  refine hcut.mono ?_
  rintro e w2 ⟨s, rfl, hs, hb2⟩
  clear hcut k0 e0 k1 e1 k2 e2 k3 e3
  have hbox2 := (hb2.block _ (heap_lt hbox1)).trans hbox1
  have hb2' := below_then' hb1' hb1'.size hb2
  obtain ⟨k0, e0⟩ := cell_row (cs := [.int .i64 k, .int .i64 c, .int .i64 q, .string s0]) hbox2 (j := 0) rfl
  obtain ⟨k1, e1⟩ := cell_row (cs := [.int .i64 k, .int .i64 c, .int .i64 q, .string s0]) hbox2 (j := 1) rfl
  obtain ⟨k2, e2⟩ := cell_row (cs := [.int .i64 k, .int .i64 c, .int .i64 q, .string s0]) hbox2 (j := 2) rfl
  obtain ⟨k3, e3⟩ := cell_row (cs := [.int .i64 k, .int .i64 c, .int .i64 q, .string s0]) hbox2 (j := 3) rfl
  clear hb2 hbox1 hb1'
  go_wp2_with fail
  have hz := setCell_row (setCell_row (setCell_row (setCell_row hbox2 0 (.int .i64 k)) 1 (.int .i64 c)) 2 (.int .i64 q)) 3 (.string s)
  have hbz := (((hb2'.setCell (p := ⟨w.heap.size, 0, none⟩) (Nat.le_refl _) (.int .i64 k)).setCell (p := ⟨w.heap.size, 1, none⟩) (Nat.le_refl _) (.int .i64 c)).setCell (p := ⟨w.heap.size, 2, none⟩) (Nat.le_refl _) (.int .i64 q)).setCell (p := ⟨w.heap.size, 3, none⟩) (Nat.le_refl _) (.string s)
  generalize ((((w2.setCell { block := w.heap.size, off := 0 } (Value.int IntKind.i64 k)).setCell { block := w.heap.size, off := 1 } (Value.int IntKind.i64 c)).setCell { block := w.heap.size, off := 2 } (Value.int IntKind.i64 q)).setCell { block := w.heap.size, off := 3 } (Value.string s)) = w0 at hz hbz ⊢
  clear hbox2 hb2' k0 e0 k1 e1 k2 e2 k3 e3
  have hz' : w0.heap[w.heap.size]? = some (.cells [.int .i64 k, .int .i64 c, .int .i64 q, .string s].toArray 23 (0, 0)) := hz
  clear hz
  by_cases hM : MayC k c q s
  case neg =>
    have hE := encode_no w0 k c q s hM
    have hF := fun w => maycmd_calls w k c q s
    rw [show decide (MayC k c q s) = false by simpa using hM] at hF
    unfold cmdV at hE hF
    refine hE.mono ?_
    rintro e w3 ⟨rfl, hb3⟩
    have hz3 := (hb3.block _ (heap_lt hz')).trans hz'
    obtain ⟨k0, -⟩ := cell_row hz3 (j := 0) rfl
    obtain ⟨k1, -⟩ := cell_row hz3 (j := 1) rfl
    obtain ⟨k2, -⟩ := cell_row hz3 (j := 2) rfl
    obtain ⟨k3, -⟩ := cell_row hz3 (j := 3) rfl
    have hb3' := below_then' hbz hbz.size hb3
    go_wp2_with fail
    refine (hF w3).mono ?_
    rintro e w4 ⟨rfl, hb4⟩
    go_wp2
    go_ret
    exact ⟨rfl, below_then' hb3' hb3'.size hb4⟩
  case pos =>
  have hE := encode_yes w0 k c q s hM
  have hF := fun w => maycmd_calls w k c q s
  rw [show decide (MayC k c q s) = true by simpa using hM] at hF
  unfold cmdV at hE hF
  have hBl := cmdB_len hM
  have HBe := Lib.hid (show [] ++ numB k ++ numB c ++ numB q ++ textB (sNums s) = cmdB k c q s by simp [cmdB])
  have HBp := Lib.hid (show 1 ≤ (cmdB k c q s).length by have := numB_pos k; simp [cmdB]; omega)
  have HBB := Lib.hid (cmdB_bytes k c q s)
  generalize cmdB k c q s = B at hE hBl HBe HBp HBB
  refine hE.mono ?_
  rintro e w3 ⟨v3, rfl, hn3⟩
  clear hE hM
  have hz3 := (hn3.2.2.2.block _ (heap_lt hz')).trans hz'
  obtain ⟨k0, -⟩ := cell_row hz3 (j := 0) rfl
  obtain ⟨k1, -⟩ := cell_row hz3 (j := 1) rfl
  obtain ⟨k2, -⟩ := cell_row hz3 (j := 2) rfl
  obtain ⟨k3, -⟩ := cell_row hz3 (j := 3) rfl
  have hb3' := below_then' hbz hbz.size hn3.2.2.2
  have hr3 := hn3.rd
  obtain ⟨A3, cap3, rfl⟩ := own_slice' hn3.1
  clear hz' hn3 hbz
  go_wp2_with fail
  refine (hF w3).mono ?_
  rintro e w4 ⟨rfl, hb4⟩
  have hz4 := (hb4.block _ (heap_lt hz3)).trans hz3
  have hlt := heap_lt hz4
  have hb4' := below_then' hb3' hb3'.size hb4
  have hr4 : RdB w4 (In (fun _ => 0) 0) (.slice A3 B.length cap3) B := (hr3.below hb4).weaken fun _ _ _ => rfl
  have HC0 := Lib.hid (fun (W : World) (col' : Col) (hx : Ext [1] w4 (fun _ => 0) W col') => (show W.heap[w.heap.size]? = some (.cells [.int .i64 k, .int .i64 c, .int .i64 q, .string s].toArray 23 (0, 0)) from (hx.block w.heap.size hlt (by decide)).trans hz4))
  have HC := Lib.hid (fun (W : World) (col' : Col) (hx : Ext [1] w4 (fun _ => 0) W col') => (show W.cell? ⟨w.heap.size, 0, none⟩ = some (.int .i64 k) ∧ W.cell? ⟨w.heap.size, 1, none⟩ = some (.int .i64 c) ∧ W.cell? ⟨w.heap.size, 2, none⟩ = some (.int .i64 q) ∧ W.cell? ⟨w.heap.size, 3, none⟩ = some (.string s) from
    ⟨(cell_row (HC0.out W col' hx) (j := 0) rfl).1, (cell_row (HC0.out W col' hx) (j := 1) rfl).1, (cell_row (HC0.out W col' hx) (j := 2) rfl).1, (cell_row (HC0.out W col' hx) (j := 3) rfl).1⟩))
  have lk := numB_len hk.1 hk.2
  have lc := numB_len hcl.1 hcl.2
  have lq := numB_len hq.1 hq.2
  have lt := textB_len (xs := sNums s) (by rw [sNums_len]; omega)
  rw [sNums_len] at lt
  clear k0 k1 k2 k3 hz3 hz4 hr3 hb3' hb4 hF HC0
  go_upto_region 9 with fail
  go_cut [12] (fun l wz => ∃ (A : Option Addr) (cap : Nat) (col : Col) (L : List Int), l = .slice A L.length cap ∧ Hid (L = B) ∧ Hid (Acc 5 w4 wz col l L))
  case first =>
    have hx4 : Ext [1] w4 (fun _ => 0) w4 (fun _ => 0) := Ext.refl _ _ _
    clear hb4' hr4 HBp HBB hx hat hr
    refine wp_region_noPanic ?_
    refine wp_region_held_drew (S := fun W => W.cell? ⟨w.heap.size, 0, none⟩ = some (.int .i64 k) ∧ W.cell? ⟨w.heap.size, 1, none⟩ = some (.int .i64 c) ∧ W.cell? ⟨w.heap.size, 2, none⟩ = some (.int .i64 q) ∧ W.cell? ⟨w.heap.size, 3, none⟩ = some (.string s)) (by kernel_rfl) (HC.out _ _ (hx4.drewN 1)) (fun hH => ?_)
    have hacc0 : Acc 5 w4 w4.drew (fun _ => 0) (.slice none 0 0) [] := Acc.nil _ (hx4.drewN 1)
    clear hx4
    generalize w4.drew = wd at hacc0 hH ⊢
    refine' takeH 0 rfl (by kernel_rfl) (by kernel_rfl) (by kernel_rfl) (fun _ _ _ h => h) (by rfl) (by assumption) ?gya0 ?gra0
    case gya0 => intro W hSW; go_simp; try with_reducible rfl
    try simp only [Act.put, List.setIfInBounds_toArray, List.set_cons_zero, List.set_cons_succ]
    refine' takeH 1 rfl (by kernel_rfl) (by kernel_rfl) (by kernel_rfl) (fun _ _ _ h => h) (by rfl) (by assumption) ?gya1 ?gra1
    case gya1 => intro W hSW; go_simp; try with_reducible rfl
    try simp only [Act.put, List.setIfInBounds_toArray, List.set_cons_zero, List.set_cons_succ]
    refine' takeH 2 rfl (by kernel_rfl) (by kernel_rfl) (by kernel_rfl) (fun _ _ _ h => h) (by rfl) (by assumption) ?gya2 ?gra2
    case gya2 => intro W hSW; obtain ⟨hs0, hs1, hs2, hs3⟩ := hSW; go_simp; try with_reducible rfl
    try simp only [Act.put, List.setIfInBounds_toArray, List.set_cons_zero, List.set_cons_succ]
    refine' takeH 5 rfl (by kernel_rfl) (by kernel_rfl) (by kernel_rfl) (fun _ _ _ h => h) (by rfl) (by assumption) ?gya5 ?gra5
    case gya5 => intro W hSW; go_simp; try with_reducible rfl
    try simp only [Act.put, List.setIfInBounds_toArray, List.set_cons_zero, List.set_cons_succ]
    refine' takeH 6 rfl (by kernel_rfl) (by kernel_rfl) (by kernel_rfl) (fun _ _ _ h => h) (by rfl) (by assumption) ?gya6 ?gra6
    case gya6 => intro W hSW; obtain ⟨hs0, hs1, hs2, hs3⟩ := hSW; go_simp; try with_reducible rfl
    try simp only [Act.put, List.setIfInBounds_toArray, List.set_cons_zero, List.set_cons_succ]
    refine' takeH 9 rfl (by kernel_rfl) (by kernel_rfl) (by kernel_rfl) (fun _ _ _ h => h) (by rfl) (by assumption) ?gya9 ?gra9
    case gya9 => intro W hSW; go_simp; try with_reducible rfl
    try simp only [Act.put, List.setIfInBounds_toArray, List.set_cons_zero, List.set_cons_succ]
    refine' takeH 10 rfl (by kernel_rfl) (by kernel_rfl) (by kernel_rfl) (fun _ _ _ h => h) (by rfl) (by assumption) ?gya10 ?gra10
    case gya10 => intro W hSW; obtain ⟨hs0, hs1, hs2, hs3⟩ := hSW; go_simp; try with_reducible rfl
    try simp only [Act.put, List.setIfInBounds_toArray, List.set_cons_zero, List.set_cons_succ]
    refine' takeH 13 rfl (by kernel_rfl) (by kernel_rfl) (by kernel_rfl) (fun _ _ _ h => h) (by rfl) (by assumption) ?gya13 ?gra13
    case gya13 => intro W hSW; go_simp; try with_reducible rfl
    try simp only [Act.put, List.setIfInBounds_toArray, List.set_cons_zero, List.set_cons_succ]
    refine' takeH 14 rfl (by kernel_rfl) (by kernel_rfl) (by kernel_rfl) (fun _ _ _ h => h) (by rfl) (by assumption) ?gya14 ?gra14
    case gya14 => intro W hSW; obtain ⟨hs0, hs1, hs2, hs3⟩ := hSW; go_simp; try with_reducible rfl
    try simp only [Act.put, List.setIfInBounds_toArray, List.set_cons_zero, List.set_cons_succ]
    refine wpAnyH_ready (rs := [3, 15]) (by kernel_rfl) (by simp) ?_
    refine AllReadyH.cons rfl (fun K hK => ?_) (AllReadyH.cons rfl (fun K hK => ?_) AllReadyH.nil)
    ·
      go_simp
      refine (num1_new _ k hk.1 hk.2).mono ?_
      rintro e w1z ⟨v1z, rfl, hn1z⟩
      have hx1z := Ext.newc (S := []) (col := (fun _ => 0)) hn1z.2.2.2 0
      have hy1z := hn1z.rd.newc ((fun _ => 0)) 0
      have hacc1z := hacc0.go hx1z
      try dsimp only
      refine hK.out _ _ (HC.out _ _ hacc1z.ext) (fun hH1z => ?_)
      clear hK K
      try simp only [Act.put, List.getElem_toArray, List.getElem_cons_succ, List.getElem_cons_zero, List.setIfInBounds_toArray, List.set_cons_zero, List.set_cons_succ]
      refine wpAnyH_ready (rs := [4, 15]) (by kernel_rfl) (by simp) ?_
      refine AllReadyH.cons rfl (fun K hK => ?_) (AllReadyH.cons rfl (fun K hK => ?_) AllReadyH.nil)
      ·
        refine step_acc rfl _ _ 24 5 rfl Try.underlying24 Try.infoU8 rfl (by omega) rfl hacc1z _ _ rfl hy1z.1 (by (try simp only [List.length_nil]); omega) ?_
        intro A2z cap2z w2z hacc2z hx2z
        obtain ⟨L2z, hL2z, hl2z⟩ : ∃ L, [] ++ numB k = L ∧ L.length ≤ 10 := ⟨_, rfl, by simp only [List.length_append, List.length_nil]; omega⟩
        rw [hL2z] at hacc2z ⊢
        have HL2z := Lib.hid hL2z
        clear hL2z
        try dsimp only
        refine hK.out _ _ (HC.out _ _ hacc2z.ext) (fun hH2z => ?_)
        clear hK K
        try simp only [Act.put, List.getElem_toArray, List.getElem_cons_succ, List.getElem_cons_zero, List.setIfInBounds_toArray, List.set_cons_zero, List.set_cons_succ]
        refine wpAnyH_ready (rs := [7, 15]) (by kernel_rfl) (by simp) ?_
        refine AllReadyH.cons rfl (fun K hK => ?_) (AllReadyH.cons rfl (fun K hK => ?_) AllReadyH.nil)
        ·
          go_simp
          refine (num1_new _ c hcl.1 hcl.2).mono ?_
          rintro e w3z ⟨v3z, rfl, hn3z⟩
          have hx3z := Ext.newc (S := []) (col := newcol w1z (newcol wd ((fun _ => 0)) 0) 1) hn3z.2.2.2 0
          have hy3z := hn3z.rd.newc (newcol w1z (newcol wd ((fun _ => 0)) 0) 1) 0
          have hacc3z := hacc2z.go hx3z
          try dsimp only
          refine hK.out _ _ (HC.out _ _ hacc3z.ext) (fun hH3z => ?_)
          clear hK K
          try simp only [Act.put, List.getElem_toArray, List.getElem_cons_succ, List.getElem_cons_zero, List.setIfInBounds_toArray, List.set_cons_zero, List.set_cons_succ]
          refine wpAnyH_ready (rs := [8, 15]) (by kernel_rfl) (by simp) ?_
          refine AllReadyH.cons rfl (fun K hK => ?_) (AllReadyH.cons rfl (fun K hK => ?_) AllReadyH.nil)
          ·
            refine step_acc rfl _ _ 24 5 rfl Try.underlying24 Try.infoU8 rfl (by omega) rfl hacc3z _ _ rfl hy3z.1 (by (try simp only [List.length_nil]); omega) ?_
            intro A4z cap4z w4z hacc4z hx4z
            obtain ⟨L4z, hL4z, hl4z⟩ : ∃ L, L2z ++ numB c = L ∧ L.length ≤ 20 := ⟨_, rfl, by simp only [List.length_append, List.length_nil]; omega⟩
            rw [hL4z] at hacc4z ⊢
            have HL4z := Lib.hid hL4z
            clear hL4z
            try dsimp only
            refine hK.out _ _ (HC.out _ _ hacc4z.ext) (fun hH4z => ?_)
            clear hK K
            try simp only [Act.put, List.getElem_toArray, List.getElem_cons_succ, List.getElem_cons_zero, List.setIfInBounds_toArray, List.set_cons_zero, List.set_cons_succ]
            refine wpAnyH_ready (rs := [11, 15]) (by kernel_rfl) (by simp) ?_
            refine AllReadyH.cons rfl (fun K hK => ?_) (AllReadyH.cons rfl (fun K hK => ?_) AllReadyH.nil)
            ·
              go_simp
              refine (num1_new _ q hq.1 hq.2).mono ?_
              rintro e w5z ⟨v5z, rfl, hn5z⟩
              have hx5z := Ext.newc (S := []) (col := newcol w3z (newcol w2z (newcol w1z (newcol wd ((fun _ => 0)) 0) 1) 0) 1) hn5z.2.2.2 0
              have hy5z := hn5z.rd.newc (newcol w3z (newcol w2z (newcol w1z (newcol wd ((fun _ => 0)) 0) 1) 0) 1) 0
              have hacc5z := hacc4z.go hx5z
              try dsimp only
              refine hK.out _ _ (HC.out _ _ hacc5z.ext) (fun hH5z => ?_)
              clear hK K
              try simp only [Act.put, List.getElem_toArray, List.getElem_cons_succ, List.getElem_cons_zero, List.setIfInBounds_toArray, List.set_cons_zero, List.set_cons_succ]
              refine wpAnyH_ready (rs := [12, 15]) (by kernel_rfl) (by simp) ?_
              refine AllReadyH.cons rfl (fun K hK => ?_) (AllReadyH.cons rfl (fun K hK => ?_) AllReadyH.nil)
              ·
                refine step_acc rfl _ _ 24 5 rfl Try.underlying24 Try.infoU8 rfl (by omega) rfl hacc5z _ _ rfl hy5z.1 (by (try simp only [List.length_nil]); omega) ?_
                intro A6z cap6z w6z hacc6z hx6z
                obtain ⟨L6z, hL6z, hl6z⟩ : ∃ L, L4z ++ numB q = L ∧ L.length ≤ 30 := ⟨_, rfl, by simp only [List.length_append, List.length_nil]; omega⟩
                rw [hL6z] at hacc6z ⊢
                have HL6z := Lib.hid hL6z
                clear hL6z
                try dsimp only
                refine hK.out _ _ (HC.out _ _ hacc6z.ext) (fun hH6z => ?_)
                clear hK K
                try simp only [Act.put, List.getElem_toArray, List.getElem_cons_succ, List.getElem_cons_zero, List.setIfInBounds_toArray, List.set_cons_zero, List.set_cons_succ]
                refine wpAnyH_ready (rs := [15]) (by kernel_rfl) (by simp) ?_
                refine AllReadyH.cons rfl (fun K hK => ?_) AllReadyH.nil
                obtain ⟨Ac7, capc7, w7z, hcq7, hcr7, hcb7⟩ := str_bytes (P := Try.prog) w6z s (by omega) Try.underlying9 Try.underlying24 Try.underlying5
                go_simp
                have hx7z := Ext.newc (S := []) (col := newcol w5z (newcol w4z (newcol w3z (newcol w2z (newcol w1z (newcol wd ((fun _ => 0)) 0) 1) 0) 1) 0) 1) hcb7 0
                have hcv7z := hcr7.newc (newcol w5z (newcol w4z (newcol w3z (newcol w2z (newcol w1z (newcol wd ((fun _ => 0)) 0) 1) 0) 1) 0) 1) 0
                have hacc7z := hacc6z.go hx7z
                try dsimp only
                refine hK.out _ _ (HC.out _ _ hacc7z.ext) (fun hH7z => ?_)
                clear hK K
                try simp only [Act.put, List.getElem_toArray, List.getElem_cons_succ, List.getElem_cons_zero, List.setIfInBounds_toArray, List.set_cons_zero, List.set_cons_succ]
                refine wpAnyH_ready (rs := [16]) (by kernel_rfl) (by simp) ?_
                refine AllReadyH.cons rfl (fun K hK => ?_) AllReadyH.nil
                go_simp
                refine (text1_calls _ _ _ (sNums s) hcv7z.1 (by rw [sNums_len]; omega)).mono ?_
                rintro e w8z ⟨v8z, rfl, hn8z⟩
                have hx8z := Ext.newc (S := []) (col := newcol w6z (newcol w5z (newcol w4z (newcol w3z (newcol w2z (newcol w1z (newcol wd ((fun _ => 0)) 0) 1) 0) 1) 0) 1) 0) hn8z.2.2.2 0
                have hy8z := hn8z.rd.newc (newcol w6z (newcol w5z (newcol w4z (newcol w3z (newcol w2z (newcol w1z (newcol wd ((fun _ => 0)) 0) 1) 0) 1) 0) 1) 0) 0
                have hacc8z := hacc7z.go hx8z
                try dsimp only
                refine hK.out _ _ (HC.out _ _ hacc8z.ext) (fun hH8z => ?_)
                clear hK K
                try simp only [Act.put, List.getElem_toArray, List.getElem_cons_succ, List.getElem_cons_zero, List.setIfInBounds_toArray, List.set_cons_zero, List.set_cons_succ]
                refine wpAnyH_ready (rs := [17]) (by kernel_rfl) (by simp) ?_
                refine AllReadyH.cons rfl (fun K hK => ?_) AllReadyH.nil
                refine step_acc rfl _ _ 24 5 rfl Try.underlying24 Try.infoU8 rfl (by omega) rfl hacc8z _ _ rfl hy8z.1 (by (try simp only [List.length_nil]); omega) ?_
                intro A9z cap9z w9z hacc9z hx9z
                obtain ⟨L9z, hL9z, hl9z⟩ : ∃ L, L6z ++ textB (sNums s) = L ∧ L.length ≤ 250 := ⟨_, rfl, by simp only [List.length_append, List.length_nil]; omega⟩
                rw [hL9z] at hacc9z ⊢
                have HL9z := Lib.hid hL9z
                clear hL9z
                try dsimp only
                refine hK.out _ _ (HC.out _ _ hacc9z.ext) (fun hH9z => ?_)
                clear hK K
                try simp only [Act.put, List.getElem_toArray, List.getElem_cons_succ, List.getElem_cons_zero, List.setIfInBounds_toArray, List.set_cons_zero, List.set_cons_succ]
                refine' takeH 18 rfl (by kernel_rfl) (by kernel_rfl) (by kernel_rfl) (fun _ _ _ h => h) (by rfl) (by assumption) ?gye918 ?gre918
                case gye918 => intro W hSW; go_simp; try with_reducible rfl
                try simp only [Act.put, List.setIfInBounds_toArray, List.set_cons_zero, List.set_cons_succ]
                refine wpAnyH_done (by kernel_rfl) ?_ _
                refine NoPanic.normal ?_
                go_wp2
                go_meet
                exact ⟨_, _, _, _, rfl, Lib.hid (by rw [← HL9z.out, ← HL6z.out, ← HL4z.out, ← HL2z.out]; exact HBe.out), Lib.hid hacc9z⟩
              ·
                obtain ⟨Ac11, capc11, w11z, hcq11, hcr11, hcb11⟩ := str_bytes (P := Try.prog) w5z s (by omega) Try.underlying9 Try.underlying24 Try.underlying5
                go_simp
                have hx11z := Ext.newc (S := []) (col := newcol w4z (newcol w3z (newcol w2z (newcol w1z (newcol wd ((fun _ => 0)) 0) 1) 0) 1) 0) hcb11 0
                have hcv11z := hcr11.newc (newcol w4z (newcol w3z (newcol w2z (newcol w1z (newcol wd ((fun _ => 0)) 0) 1) 0) 1) 0) 0
                have hy11z := hy5z.ext hx11z (by simp)
                have hacc11z := hacc5z.go hx11z
                try dsimp only
                refine hK.out _ _ (HC.out _ _ hacc11z.ext) (fun hH11z => ?_)
                clear hK K
                try simp only [Act.put, List.getElem_toArray, List.getElem_cons_succ, List.getElem_cons_zero, List.setIfInBounds_toArray, List.set_cons_zero, List.set_cons_succ]
                refine wpAnyH_ready (rs := [12]) (by kernel_rfl) (by simp) ?_
                refine AllReadyH.cons rfl (fun K hK => ?_) AllReadyH.nil
                refine step_acc rfl _ _ 24 5 rfl Try.underlying24 Try.infoU8 rfl (by omega) rfl hacc11z _ _ rfl hy11z.1 (by (try simp only [List.length_nil]); omega) ?_
                intro A12z cap12z w12z hacc12z hx12z
                obtain ⟨L12z, hL12z, hl12z⟩ : ∃ L, L4z ++ numB q = L ∧ L.length ≤ 30 := ⟨_, rfl, by simp only [List.length_append, List.length_nil]; omega⟩
                rw [hL12z] at hacc12z ⊢
                have HL12z := Lib.hid hL12z
                clear hL12z
                have hcv12z := hcv11z.ext hx12z (by simp)
                try dsimp only
                refine hK.out _ _ (HC.out _ _ hacc12z.ext) (fun hH12z => ?_)
                clear hK K
                try simp only [Act.put, List.getElem_toArray, List.getElem_cons_succ, List.getElem_cons_zero, List.setIfInBounds_toArray, List.set_cons_zero, List.set_cons_succ]
                refine wpAnyH_ready (rs := [16]) (by kernel_rfl) (by simp) ?_
                refine AllReadyH.cons rfl (fun K hK => ?_) AllReadyH.nil
                go_simp
                refine (text1_calls _ _ _ (sNums s) hcv12z.1 (by rw [sNums_len]; omega)).mono ?_
                rintro e w13z ⟨v13z, rfl, hn13z⟩
                have hx13z := Ext.newc (S := []) (col := newcol w11z (newcol w5z (newcol w4z (newcol w3z (newcol w2z (newcol w1z (newcol wd ((fun _ => 0)) 0) 1) 0) 1) 0) 0) 1) hn13z.2.2.2 0
                have hy13z := hn13z.rd.newc (newcol w11z (newcol w5z (newcol w4z (newcol w3z (newcol w2z (newcol w1z (newcol wd ((fun _ => 0)) 0) 1) 0) 1) 0) 0) 1) 0
                have hacc13z := hacc12z.go hx13z
                try dsimp only
                refine hK.out _ _ (HC.out _ _ hacc13z.ext) (fun hH13z => ?_)
                clear hK K
                try simp only [Act.put, List.getElem_toArray, List.getElem_cons_succ, List.getElem_cons_zero, List.setIfInBounds_toArray, List.set_cons_zero, List.set_cons_succ]
                refine wpAnyH_ready (rs := [17]) (by kernel_rfl) (by simp) ?_
                refine AllReadyH.cons rfl (fun K hK => ?_) AllReadyH.nil
                refine step_acc rfl _ _ 24 5 rfl Try.underlying24 Try.infoU8 rfl (by omega) rfl hacc13z _ _ rfl hy13z.1 (by (try simp only [List.length_nil]); omega) ?_
                intro A14z cap14z w14z hacc14z hx14z
                obtain ⟨L14z, hL14z, hl14z⟩ : ∃ L, L12z ++ textB (sNums s) = L ∧ L.length ≤ 250 := ⟨_, rfl, by simp only [List.length_append, List.length_nil]; omega⟩
                rw [hL14z] at hacc14z ⊢
                have HL14z := Lib.hid hL14z
                clear hL14z
                try dsimp only
                refine hK.out _ _ (HC.out _ _ hacc14z.ext) (fun hH14z => ?_)
                clear hK K
                try simp only [Act.put, List.getElem_toArray, List.getElem_cons_succ, List.getElem_cons_zero, List.setIfInBounds_toArray, List.set_cons_zero, List.set_cons_succ]
                refine' takeH 18 rfl (by kernel_rfl) (by kernel_rfl) (by kernel_rfl) (fun _ _ _ h => h) (by rfl) (by assumption) ?gye1418 ?gre1418
                case gye1418 => intro W hSW; go_simp; try with_reducible rfl
                try simp only [Act.put, List.setIfInBounds_toArray, List.set_cons_zero, List.set_cons_succ]
                refine wpAnyH_done (by kernel_rfl) ?_ _
                refine NoPanic.normal ?_
                go_wp2
                go_meet
                exact ⟨_, _, _, _, rfl, Lib.hid (by rw [← HL14z.out, ← HL12z.out, ← HL4z.out, ← HL2z.out]; exact HBe.out), Lib.hid hacc14z⟩
            ·
              obtain ⟨Ac16, capc16, w16z, hcq16, hcr16, hcb16⟩ := str_bytes (P := Try.prog) w4z s (by omega) Try.underlying9 Try.underlying24 Try.underlying5
              go_simp
              have hx16z := Ext.newc (S := []) (col := newcol w3z (newcol w2z (newcol w1z (newcol wd ((fun _ => 0)) 0) 1) 0) 1) hcb16 0
              have hcv16z := hcr16.newc (newcol w3z (newcol w2z (newcol w1z (newcol wd ((fun _ => 0)) 0) 1) 0) 1) 0
              have hacc16z := hacc4z.go hx16z
              try dsimp only
              refine hK.out _ _ (HC.out _ _ hacc16z.ext) (fun hH16z => ?_)
              clear hK K
              try simp only [Act.put, List.getElem_toArray, List.getElem_cons_succ, List.getElem_cons_zero, List.setIfInBounds_toArray, List.set_cons_zero, List.set_cons_succ]
              refine wpAnyH_ready (rs := [11]) (by kernel_rfl) (by simp) ?_
              refine AllReadyH.cons rfl (fun K hK => ?_) AllReadyH.nil
              go_simp
              refine (num1_new _ q hq.1 hq.2).mono ?_
              rintro e w17z ⟨v17z, rfl, hn17z⟩
              have hx17z := Ext.newc (S := []) (col := newcol w4z (newcol w3z (newcol w2z (newcol w1z (newcol wd ((fun _ => 0)) 0) 1) 0) 1) 0) hn17z.2.2.2 0
              have hy17z := hn17z.rd.newc (newcol w4z (newcol w3z (newcol w2z (newcol w1z (newcol wd ((fun _ => 0)) 0) 1) 0) 1) 0) 0
              have hcv17z := hcv16z.ext hx17z (by simp)
              have hacc17z := hacc16z.go hx17z
              try dsimp only
              refine hK.out _ _ (HC.out _ _ hacc17z.ext) (fun hH17z => ?_)
              clear hK K
              try simp only [Act.put, List.getElem_toArray, List.getElem_cons_succ, List.getElem_cons_zero, List.setIfInBounds_toArray, List.set_cons_zero, List.set_cons_succ]
              refine wpAnyH_ready (rs := [12]) (by kernel_rfl) (by simp) ?_
              refine AllReadyH.cons rfl (fun K hK => ?_) AllReadyH.nil
              refine step_acc rfl _ _ 24 5 rfl Try.underlying24 Try.infoU8 rfl (by omega) rfl hacc17z _ _ rfl hy17z.1 (by (try simp only [List.length_nil]); omega) ?_
              intro A18z cap18z w18z hacc18z hx18z
              obtain ⟨L18z, hL18z, hl18z⟩ : ∃ L, L4z ++ numB q = L ∧ L.length ≤ 30 := ⟨_, rfl, by simp only [List.length_append, List.length_nil]; omega⟩
              rw [hL18z] at hacc18z ⊢
              have HL18z := Lib.hid hL18z
              clear hL18z
              have hcv18z := hcv17z.ext hx18z (by simp)
              try dsimp only
              refine hK.out _ _ (HC.out _ _ hacc18z.ext) (fun hH18z => ?_)
              clear hK K
              try simp only [Act.put, List.getElem_toArray, List.getElem_cons_succ, List.getElem_cons_zero, List.setIfInBounds_toArray, List.set_cons_zero, List.set_cons_succ]
              refine wpAnyH_ready (rs := [16]) (by kernel_rfl) (by simp) ?_
              refine AllReadyH.cons rfl (fun K hK => ?_) AllReadyH.nil
              go_simp
              refine (text1_calls _ _ _ (sNums s) hcv18z.1 (by rw [sNums_len]; omega)).mono ?_
              rintro e w19z ⟨v19z, rfl, hn19z⟩
              have hx19z := Ext.newc (S := []) (col := newcol w17z (newcol w16z (newcol w4z (newcol w3z (newcol w2z (newcol w1z (newcol wd ((fun _ => 0)) 0) 1) 0) 1) 0) 0) 1) hn19z.2.2.2 0
              have hy19z := hn19z.rd.newc (newcol w17z (newcol w16z (newcol w4z (newcol w3z (newcol w2z (newcol w1z (newcol wd ((fun _ => 0)) 0) 1) 0) 1) 0) 0) 1) 0
              have hacc19z := hacc18z.go hx19z
              try dsimp only
              refine hK.out _ _ (HC.out _ _ hacc19z.ext) (fun hH19z => ?_)
              clear hK K
              try simp only [Act.put, List.getElem_toArray, List.getElem_cons_succ, List.getElem_cons_zero, List.setIfInBounds_toArray, List.set_cons_zero, List.set_cons_succ]
              refine wpAnyH_ready (rs := [17]) (by kernel_rfl) (by simp) ?_
              refine AllReadyH.cons rfl (fun K hK => ?_) AllReadyH.nil
              refine step_acc rfl _ _ 24 5 rfl Try.underlying24 Try.infoU8 rfl (by omega) rfl hacc19z _ _ rfl hy19z.1 (by (try simp only [List.length_nil]); omega) ?_
              intro A20z cap20z w20z hacc20z hx20z
              obtain ⟨L20z, hL20z, hl20z⟩ : ∃ L, L18z ++ textB (sNums s) = L ∧ L.length ≤ 250 := ⟨_, rfl, by simp only [List.length_append, List.length_nil]; omega⟩
              rw [hL20z] at hacc20z ⊢
              have HL20z := Lib.hid hL20z
              clear hL20z
              try dsimp only
              refine hK.out _ _ (HC.out _ _ hacc20z.ext) (fun hH20z => ?_)
              clear hK K
              try simp only [Act.put, List.getElem_toArray, List.getElem_cons_succ, List.getElem_cons_zero, List.setIfInBounds_toArray, List.set_cons_zero, List.set_cons_succ]
              refine' takeH 18 rfl (by kernel_rfl) (by kernel_rfl) (by kernel_rfl) (fun _ _ _ h => h) (by rfl) (by assumption) ?gye2018 ?gre2018
              case gye2018 => intro W hSW; go_simp; try with_reducible rfl
              try simp only [Act.put, List.setIfInBounds_toArray, List.set_cons_zero, List.set_cons_succ]
              refine wpAnyH_done (by kernel_rfl) ?_ _
              refine NoPanic.normal ?_
              go_wp2
              go_meet
              exact ⟨_, _, _, _, rfl, Lib.hid (by rw [← HL20z.out, ← HL18z.out, ← HL4z.out, ← HL2z.out]; exact HBe.out), Lib.hid hacc20z⟩
          ·
            obtain ⟨Ac22, capc22, w22z, hcq22, hcr22, hcb22⟩ := str_bytes (P := Try.prog) w3z s (by omega) Try.underlying9 Try.underlying24 Try.underlying5
            go_simp
            have hx22z := Ext.newc (S := []) (col := newcol w2z (newcol w1z (newcol wd ((fun _ => 0)) 0) 1) 0) hcb22 0
            have hcv22z := hcr22.newc (newcol w2z (newcol w1z (newcol wd ((fun _ => 0)) 0) 1) 0) 0
            have hy22z := hy3z.ext hx22z (by simp)
            have hacc22z := hacc3z.go hx22z
            try dsimp only
            refine hK.out _ _ (HC.out _ _ hacc22z.ext) (fun hH22z => ?_)
            clear hK K
            try simp only [Act.put, List.getElem_toArray, List.getElem_cons_succ, List.getElem_cons_zero, List.setIfInBounds_toArray, List.set_cons_zero, List.set_cons_succ]
            refine wpAnyH_ready (rs := [8]) (by kernel_rfl) (by simp) ?_
            refine AllReadyH.cons rfl (fun K hK => ?_) AllReadyH.nil
            refine step_acc rfl _ _ 24 5 rfl Try.underlying24 Try.infoU8 rfl (by omega) rfl hacc22z _ _ rfl hy22z.1 (by (try simp only [List.length_nil]); omega) ?_
            intro A23z cap23z w23z hacc23z hx23z
            obtain ⟨L23z, hL23z, hl23z⟩ : ∃ L, L2z ++ numB c = L ∧ L.length ≤ 20 := ⟨_, rfl, by simp only [List.length_append, List.length_nil]; omega⟩
            rw [hL23z] at hacc23z ⊢
            have HL23z := Lib.hid hL23z
            clear hL23z
            have hcv23z := hcv22z.ext hx23z (by simp)
            try dsimp only
            refine hK.out _ _ (HC.out _ _ hacc23z.ext) (fun hH23z => ?_)
            clear hK K
            try simp only [Act.put, List.getElem_toArray, List.getElem_cons_succ, List.getElem_cons_zero, List.setIfInBounds_toArray, List.set_cons_zero, List.set_cons_succ]
            refine wpAnyH_ready (rs := [11]) (by kernel_rfl) (by simp) ?_
            refine AllReadyH.cons rfl (fun K hK => ?_) AllReadyH.nil
            go_simp
            refine (num1_new _ q hq.1 hq.2).mono ?_
            rintro e w24z ⟨v24z, rfl, hn24z⟩
            have hx24z := Ext.newc (S := []) (col := newcol w22z (newcol w3z (newcol w2z (newcol w1z (newcol wd ((fun _ => 0)) 0) 1) 0) 0) 1) hn24z.2.2.2 0
            have hy24z := hn24z.rd.newc (newcol w22z (newcol w3z (newcol w2z (newcol w1z (newcol wd ((fun _ => 0)) 0) 1) 0) 0) 1) 0
            have hcv24z := hcv23z.ext hx24z (by simp)
            have hacc24z := hacc23z.go hx24z
            try dsimp only
            refine hK.out _ _ (HC.out _ _ hacc24z.ext) (fun hH24z => ?_)
            clear hK K
            try simp only [Act.put, List.getElem_toArray, List.getElem_cons_succ, List.getElem_cons_zero, List.setIfInBounds_toArray, List.set_cons_zero, List.set_cons_succ]
            refine wpAnyH_ready (rs := [12]) (by kernel_rfl) (by simp) ?_
            refine AllReadyH.cons rfl (fun K hK => ?_) AllReadyH.nil
            refine step_acc rfl _ _ 24 5 rfl Try.underlying24 Try.infoU8 rfl (by omega) rfl hacc24z _ _ rfl hy24z.1 (by (try simp only [List.length_nil]); omega) ?_
            intro A25z cap25z w25z hacc25z hx25z
            obtain ⟨L25z, hL25z, hl25z⟩ : ∃ L, L23z ++ numB q = L ∧ L.length ≤ 30 := ⟨_, rfl, by simp only [List.length_append, List.length_nil]; omega⟩
            rw [hL25z] at hacc25z ⊢
            have HL25z := Lib.hid hL25z
            clear hL25z
            have hcv25z := hcv24z.ext hx25z (by simp)
            try dsimp only
            refine hK.out _ _ (HC.out _ _ hacc25z.ext) (fun hH25z => ?_)
            clear hK K
            try simp only [Act.put, List.getElem_toArray, List.getElem_cons_succ, List.getElem_cons_zero, List.setIfInBounds_toArray, List.set_cons_zero, List.set_cons_succ]
            refine wpAnyH_ready (rs := [16]) (by kernel_rfl) (by simp) ?_
            refine AllReadyH.cons rfl (fun K hK => ?_) AllReadyH.nil
            go_simp
            refine (text1_calls _ _ _ (sNums s) hcv25z.1 (by rw [sNums_len]; omega)).mono ?_
            rintro e w26z ⟨v26z, rfl, hn26z⟩
            have hx26z := Ext.newc (S := []) (col := newcol w24z (newcol w23z (newcol w22z (newcol w3z (newcol w2z (newcol w1z (newcol wd ((fun _ => 0)) 0) 1) 0) 0) 1) 0) 1) hn26z.2.2.2 0
            have hy26z := hn26z.rd.newc (newcol w24z (newcol w23z (newcol w22z (newcol w3z (newcol w2z (newcol w1z (newcol wd ((fun _ => 0)) 0) 1) 0) 0) 1) 0) 1) 0
            have hacc26z := hacc25z.go hx26z
            try dsimp only
            refine hK.out _ _ (HC.out _ _ hacc26z.ext) (fun hH26z => ?_)
            clear hK K
            try simp only [Act.put, List.getElem_toArray, List.getElem_cons_succ, List.getElem_cons_zero, List.setIfInBounds_toArray, List.set_cons_zero, List.set_cons_succ]
            refine wpAnyH_ready (rs := [17]) (by kernel_rfl) (by simp) ?_
            refine AllReadyH.cons rfl (fun K hK => ?_) AllReadyH.nil
            refine step_acc rfl _ _ 24 5 rfl Try.underlying24 Try.infoU8 rfl (by omega) rfl hacc26z _ _ rfl hy26z.1 (by (try simp only [List.length_nil]); omega) ?_
            intro A27z cap27z w27z hacc27z hx27z
            obtain ⟨L27z, hL27z, hl27z⟩ : ∃ L, L25z ++ textB (sNums s) = L ∧ L.length ≤ 250 := ⟨_, rfl, by simp only [List.length_append, List.length_nil]; omega⟩
            rw [hL27z] at hacc27z ⊢
            have HL27z := Lib.hid hL27z
            clear hL27z
            try dsimp only
            refine hK.out _ _ (HC.out _ _ hacc27z.ext) (fun hH27z => ?_)
            clear hK K
            try simp only [Act.put, List.getElem_toArray, List.getElem_cons_succ, List.getElem_cons_zero, List.setIfInBounds_toArray, List.set_cons_zero, List.set_cons_succ]
            refine' takeH 18 rfl (by kernel_rfl) (by kernel_rfl) (by kernel_rfl) (fun _ _ _ h => h) (by rfl) (by assumption) ?gye2718 ?gre2718
            case gye2718 => intro W hSW; go_simp; try with_reducible rfl
            try simp only [Act.put, List.setIfInBounds_toArray, List.set_cons_zero, List.set_cons_succ]
            refine wpAnyH_done (by kernel_rfl) ?_ _
            refine NoPanic.normal ?_
            go_wp2
            go_meet
            exact ⟨_, _, _, _, rfl, Lib.hid (by rw [← HL27z.out, ← HL25z.out, ← HL23z.out, ← HL2z.out]; exact HBe.out), Lib.hid hacc27z⟩
        ·
          obtain ⟨Ac29, capc29, w29z, hcq29, hcr29, hcb29⟩ := str_bytes (P := Try.prog) w2z s (by omega) Try.underlying9 Try.underlying24 Try.underlying5
          go_simp
          have hx29z := Ext.newc (S := []) (col := newcol w1z (newcol wd ((fun _ => 0)) 0) 1) hcb29 0
          have hcv29z := hcr29.newc (newcol w1z (newcol wd ((fun _ => 0)) 0) 1) 0
          have hacc29z := hacc2z.go hx29z
          try dsimp only
          refine hK.out _ _ (HC.out _ _ hacc29z.ext) (fun hH29z => ?_)
          clear hK K
          try simp only [Act.put, List.getElem_toArray, List.getElem_cons_succ, List.getElem_cons_zero, List.setIfInBounds_toArray, List.set_cons_zero, List.set_cons_succ]
          refine wpAnyH_ready (rs := [7]) (by kernel_rfl) (by simp) ?_
          refine AllReadyH.cons rfl (fun K hK => ?_) AllReadyH.nil
          go_simp
          refine (num1_new _ c hcl.1 hcl.2).mono ?_
          rintro e w30z ⟨v30z, rfl, hn30z⟩
          have hx30z := Ext.newc (S := []) (col := newcol w2z (newcol w1z (newcol wd ((fun _ => 0)) 0) 1) 0) hn30z.2.2.2 0
          have hy30z := hn30z.rd.newc (newcol w2z (newcol w1z (newcol wd ((fun _ => 0)) 0) 1) 0) 0
          have hcv30z := hcv29z.ext hx30z (by simp)
          have hacc30z := hacc29z.go hx30z
          try dsimp only
          refine hK.out _ _ (HC.out _ _ hacc30z.ext) (fun hH30z => ?_)
          clear hK K
          try simp only [Act.put, List.getElem_toArray, List.getElem_cons_succ, List.getElem_cons_zero, List.setIfInBounds_toArray, List.set_cons_zero, List.set_cons_succ]
          refine wpAnyH_ready (rs := [8]) (by kernel_rfl) (by simp) ?_
          refine AllReadyH.cons rfl (fun K hK => ?_) AllReadyH.nil
          refine step_acc rfl _ _ 24 5 rfl Try.underlying24 Try.infoU8 rfl (by omega) rfl hacc30z _ _ rfl hy30z.1 (by (try simp only [List.length_nil]); omega) ?_
          intro A31z cap31z w31z hacc31z hx31z
          obtain ⟨L31z, hL31z, hl31z⟩ : ∃ L, L2z ++ numB c = L ∧ L.length ≤ 20 := ⟨_, rfl, by simp only [List.length_append, List.length_nil]; omega⟩
          rw [hL31z] at hacc31z ⊢
          have HL31z := Lib.hid hL31z
          clear hL31z
          have hcv31z := hcv30z.ext hx31z (by simp)
          try dsimp only
          refine hK.out _ _ (HC.out _ _ hacc31z.ext) (fun hH31z => ?_)
          clear hK K
          try simp only [Act.put, List.getElem_toArray, List.getElem_cons_succ, List.getElem_cons_zero, List.setIfInBounds_toArray, List.set_cons_zero, List.set_cons_succ]
          refine wpAnyH_ready (rs := [11]) (by kernel_rfl) (by simp) ?_
          refine AllReadyH.cons rfl (fun K hK => ?_) AllReadyH.nil
          go_simp
          refine (num1_new _ q hq.1 hq.2).mono ?_
          rintro e w32z ⟨v32z, rfl, hn32z⟩
          have hx32z := Ext.newc (S := []) (col := newcol w30z (newcol w29z (newcol w2z (newcol w1z (newcol wd ((fun _ => 0)) 0) 1) 0) 0) 1) hn32z.2.2.2 0
          have hy32z := hn32z.rd.newc (newcol w30z (newcol w29z (newcol w2z (newcol w1z (newcol wd ((fun _ => 0)) 0) 1) 0) 0) 1) 0
          have hcv32z := hcv31z.ext hx32z (by simp)
          have hacc32z := hacc31z.go hx32z
          try dsimp only
          refine hK.out _ _ (HC.out _ _ hacc32z.ext) (fun hH32z => ?_)
          clear hK K
          try simp only [Act.put, List.getElem_toArray, List.getElem_cons_succ, List.getElem_cons_zero, List.setIfInBounds_toArray, List.set_cons_zero, List.set_cons_succ]
          refine wpAnyH_ready (rs := [12]) (by kernel_rfl) (by simp) ?_
          refine AllReadyH.cons rfl (fun K hK => ?_) AllReadyH.nil
          refine step_acc rfl _ _ 24 5 rfl Try.underlying24 Try.infoU8 rfl (by omega) rfl hacc32z _ _ rfl hy32z.1 (by (try simp only [List.length_nil]); omega) ?_
          intro A33z cap33z w33z hacc33z hx33z
          obtain ⟨L33z, hL33z, hl33z⟩ : ∃ L, L31z ++ numB q = L ∧ L.length ≤ 30 := ⟨_, rfl, by simp only [List.length_append, List.length_nil]; omega⟩
          rw [hL33z] at hacc33z ⊢
          have HL33z := Lib.hid hL33z
          clear hL33z
          have hcv33z := hcv32z.ext hx33z (by simp)
          try dsimp only
          refine hK.out _ _ (HC.out _ _ hacc33z.ext) (fun hH33z => ?_)
          clear hK K
          try simp only [Act.put, List.getElem_toArray, List.getElem_cons_succ, List.getElem_cons_zero, List.setIfInBounds_toArray, List.set_cons_zero, List.set_cons_succ]
          refine wpAnyH_ready (rs := [16]) (by kernel_rfl) (by simp) ?_
          refine AllReadyH.cons rfl (fun K hK => ?_) AllReadyH.nil
          go_simp
          refine (text1_calls _ _ _ (sNums s) hcv33z.1 (by rw [sNums_len]; omega)).mono ?_
          rintro e w34z ⟨v34z, rfl, hn34z⟩
          have hx34z := Ext.newc (S := []) (col := newcol w32z (newcol w31z (newcol w30z (newcol w29z (newcol w2z (newcol w1z (newcol wd ((fun _ => 0)) 0) 1) 0) 0) 1) 0) 1) hn34z.2.2.2 0
          have hy34z := hn34z.rd.newc (newcol w32z (newcol w31z (newcol w30z (newcol w29z (newcol w2z (newcol w1z (newcol wd ((fun _ => 0)) 0) 1) 0) 0) 1) 0) 1) 0
          have hacc34z := hacc33z.go hx34z
          try dsimp only
          refine hK.out _ _ (HC.out _ _ hacc34z.ext) (fun hH34z => ?_)
          clear hK K
          try simp only [Act.put, List.getElem_toArray, List.getElem_cons_succ, List.getElem_cons_zero, List.setIfInBounds_toArray, List.set_cons_zero, List.set_cons_succ]
          refine wpAnyH_ready (rs := [17]) (by kernel_rfl) (by simp) ?_
          refine AllReadyH.cons rfl (fun K hK => ?_) AllReadyH.nil
          refine step_acc rfl _ _ 24 5 rfl Try.underlying24 Try.infoU8 rfl (by omega) rfl hacc34z _ _ rfl hy34z.1 (by (try simp only [List.length_nil]); omega) ?_
          intro A35z cap35z w35z hacc35z hx35z
          obtain ⟨L35z, hL35z, hl35z⟩ : ∃ L, L33z ++ textB (sNums s) = L ∧ L.length ≤ 250 := ⟨_, rfl, by simp only [List.length_append, List.length_nil]; omega⟩
          rw [hL35z] at hacc35z ⊢
          have HL35z := Lib.hid hL35z
          clear hL35z
          try dsimp only
          refine hK.out _ _ (HC.out _ _ hacc35z.ext) (fun hH35z => ?_)
          clear hK K
          try simp only [Act.put, List.getElem_toArray, List.getElem_cons_succ, List.getElem_cons_zero, List.setIfInBounds_toArray, List.set_cons_zero, List.set_cons_succ]
          refine' takeH 18 rfl (by kernel_rfl) (by kernel_rfl) (by kernel_rfl) (fun _ _ _ h => h) (by rfl) (by assumption) ?gye3518 ?gre3518
          case gye3518 => intro W hSW; go_simp; try with_reducible rfl
          try simp only [Act.put, List.setIfInBounds_toArray, List.set_cons_zero, List.set_cons_succ]
          refine wpAnyH_done (by kernel_rfl) ?_ _
          refine NoPanic.normal ?_
          go_wp2
          go_meet
          exact ⟨_, _, _, _, rfl, Lib.hid (by rw [← HL35z.out, ← HL33z.out, ← HL31z.out, ← HL2z.out]; exact HBe.out), Lib.hid hacc35z⟩
      ·
        obtain ⟨Ac37, capc37, w37z, hcq37, hcr37, hcb37⟩ := str_bytes (P := Try.prog) w1z s (by omega) Try.underlying9 Try.underlying24 Try.underlying5
        go_simp
        have hx37z := Ext.newc (S := []) (col := newcol wd ((fun _ => 0)) 0) hcb37 0
        have hcv37z := hcr37.newc (newcol wd ((fun _ => 0)) 0) 0
        have hy37z := hy1z.ext hx37z (by simp)
        have hacc37z := hacc1z.go hx37z
        try dsimp only
        refine hK.out _ _ (HC.out _ _ hacc37z.ext) (fun hH37z => ?_)
        clear hK K
        try simp only [Act.put, List.getElem_toArray, List.getElem_cons_succ, List.getElem_cons_zero, List.setIfInBounds_toArray, List.set_cons_zero, List.set_cons_succ]
        refine wpAnyH_ready (rs := [4]) (by kernel_rfl) (by simp) ?_
        refine AllReadyH.cons rfl (fun K hK => ?_) AllReadyH.nil
        refine step_acc rfl _ _ 24 5 rfl Try.underlying24 Try.infoU8 rfl (by omega) rfl hacc37z _ _ rfl hy37z.1 (by (try simp only [List.length_nil]); omega) ?_
        intro A38z cap38z w38z hacc38z hx38z
        obtain ⟨L38z, hL38z, hl38z⟩ : ∃ L, [] ++ numB k = L ∧ L.length ≤ 10 := ⟨_, rfl, by simp only [List.length_append, List.length_nil]; omega⟩
        rw [hL38z] at hacc38z ⊢
        have HL38z := Lib.hid hL38z
        clear hL38z
        have hcv38z := hcv37z.ext hx38z (by simp)
        try dsimp only
        refine hK.out _ _ (HC.out _ _ hacc38z.ext) (fun hH38z => ?_)
        clear hK K
        try simp only [Act.put, List.getElem_toArray, List.getElem_cons_succ, List.getElem_cons_zero, List.setIfInBounds_toArray, List.set_cons_zero, List.set_cons_succ]
        refine wpAnyH_ready (rs := [7]) (by kernel_rfl) (by simp) ?_
        refine AllReadyH.cons rfl (fun K hK => ?_) AllReadyH.nil
        go_simp
        refine (num1_new _ c hcl.1 hcl.2).mono ?_
        rintro e w39z ⟨v39z, rfl, hn39z⟩
        have hx39z := Ext.newc (S := []) (col := newcol w37z (newcol w1z (newcol wd ((fun _ => 0)) 0) 0) 1) hn39z.2.2.2 0
        have hy39z := hn39z.rd.newc (newcol w37z (newcol w1z (newcol wd ((fun _ => 0)) 0) 0) 1) 0
        have hcv39z := hcv38z.ext hx39z (by simp)
        have hacc39z := hacc38z.go hx39z
        try dsimp only
        refine hK.out _ _ (HC.out _ _ hacc39z.ext) (fun hH39z => ?_)
        clear hK K
        try simp only [Act.put, List.getElem_toArray, List.getElem_cons_succ, List.getElem_cons_zero, List.setIfInBounds_toArray, List.set_cons_zero, List.set_cons_succ]
        refine wpAnyH_ready (rs := [8]) (by kernel_rfl) (by simp) ?_
        refine AllReadyH.cons rfl (fun K hK => ?_) AllReadyH.nil
        refine step_acc rfl _ _ 24 5 rfl Try.underlying24 Try.infoU8 rfl (by omega) rfl hacc39z _ _ rfl hy39z.1 (by (try simp only [List.length_nil]); omega) ?_
        intro A40z cap40z w40z hacc40z hx40z
        obtain ⟨L40z, hL40z, hl40z⟩ : ∃ L, L38z ++ numB c = L ∧ L.length ≤ 20 := ⟨_, rfl, by simp only [List.length_append, List.length_nil]; omega⟩
        rw [hL40z] at hacc40z ⊢
        have HL40z := Lib.hid hL40z
        clear hL40z
        have hcv40z := hcv39z.ext hx40z (by simp)
        try dsimp only
        refine hK.out _ _ (HC.out _ _ hacc40z.ext) (fun hH40z => ?_)
        clear hK K
        try simp only [Act.put, List.getElem_toArray, List.getElem_cons_succ, List.getElem_cons_zero, List.setIfInBounds_toArray, List.set_cons_zero, List.set_cons_succ]
        refine wpAnyH_ready (rs := [11]) (by kernel_rfl) (by simp) ?_
        refine AllReadyH.cons rfl (fun K hK => ?_) AllReadyH.nil
        go_simp
        refine (num1_new _ q hq.1 hq.2).mono ?_
        rintro e w41z ⟨v41z, rfl, hn41z⟩
        have hx41z := Ext.newc (S := []) (col := newcol w39z (newcol w38z (newcol w37z (newcol w1z (newcol wd ((fun _ => 0)) 0) 0) 1) 0) 1) hn41z.2.2.2 0
        have hy41z := hn41z.rd.newc (newcol w39z (newcol w38z (newcol w37z (newcol w1z (newcol wd ((fun _ => 0)) 0) 0) 1) 0) 1) 0
        have hcv41z := hcv40z.ext hx41z (by simp)
        have hacc41z := hacc40z.go hx41z
        try dsimp only
        refine hK.out _ _ (HC.out _ _ hacc41z.ext) (fun hH41z => ?_)
        clear hK K
        try simp only [Act.put, List.getElem_toArray, List.getElem_cons_succ, List.getElem_cons_zero, List.setIfInBounds_toArray, List.set_cons_zero, List.set_cons_succ]
        refine wpAnyH_ready (rs := [12]) (by kernel_rfl) (by simp) ?_
        refine AllReadyH.cons rfl (fun K hK => ?_) AllReadyH.nil
        refine step_acc rfl _ _ 24 5 rfl Try.underlying24 Try.infoU8 rfl (by omega) rfl hacc41z _ _ rfl hy41z.1 (by (try simp only [List.length_nil]); omega) ?_
        intro A42z cap42z w42z hacc42z hx42z
        obtain ⟨L42z, hL42z, hl42z⟩ : ∃ L, L40z ++ numB q = L ∧ L.length ≤ 30 := ⟨_, rfl, by simp only [List.length_append, List.length_nil]; omega⟩
        rw [hL42z] at hacc42z ⊢
        have HL42z := Lib.hid hL42z
        clear hL42z
        have hcv42z := hcv41z.ext hx42z (by simp)
        try dsimp only
        refine hK.out _ _ (HC.out _ _ hacc42z.ext) (fun hH42z => ?_)
        clear hK K
        try simp only [Act.put, List.getElem_toArray, List.getElem_cons_succ, List.getElem_cons_zero, List.setIfInBounds_toArray, List.set_cons_zero, List.set_cons_succ]
        refine wpAnyH_ready (rs := [16]) (by kernel_rfl) (by simp) ?_
        refine AllReadyH.cons rfl (fun K hK => ?_) AllReadyH.nil
        go_simp
        refine (text1_calls _ _ _ (sNums s) hcv42z.1 (by rw [sNums_len]; omega)).mono ?_
        rintro e w43z ⟨v43z, rfl, hn43z⟩
        have hx43z := Ext.newc (S := []) (col := newcol w41z (newcol w40z (newcol w39z (newcol w38z (newcol w37z (newcol w1z (newcol wd ((fun _ => 0)) 0) 0) 1) 0) 1) 0) 1) hn43z.2.2.2 0
        have hy43z := hn43z.rd.newc (newcol w41z (newcol w40z (newcol w39z (newcol w38z (newcol w37z (newcol w1z (newcol wd ((fun _ => 0)) 0) 0) 1) 0) 1) 0) 1) 0
        have hacc43z := hacc42z.go hx43z
        try dsimp only
        refine hK.out _ _ (HC.out _ _ hacc43z.ext) (fun hH43z => ?_)
        clear hK K
        try simp only [Act.put, List.getElem_toArray, List.getElem_cons_succ, List.getElem_cons_zero, List.setIfInBounds_toArray, List.set_cons_zero, List.set_cons_succ]
        refine wpAnyH_ready (rs := [17]) (by kernel_rfl) (by simp) ?_
        refine AllReadyH.cons rfl (fun K hK => ?_) AllReadyH.nil
        refine step_acc rfl _ _ 24 5 rfl Try.underlying24 Try.infoU8 rfl (by omega) rfl hacc43z _ _ rfl hy43z.1 (by (try simp only [List.length_nil]); omega) ?_
        intro A44z cap44z w44z hacc44z hx44z
        obtain ⟨L44z, hL44z, hl44z⟩ : ∃ L, L42z ++ textB (sNums s) = L ∧ L.length ≤ 250 := ⟨_, rfl, by simp only [List.length_append, List.length_nil]; omega⟩
        rw [hL44z] at hacc44z ⊢
        have HL44z := Lib.hid hL44z
        clear hL44z
        try dsimp only
        refine hK.out _ _ (HC.out _ _ hacc44z.ext) (fun hH44z => ?_)
        clear hK K
        try simp only [Act.put, List.getElem_toArray, List.getElem_cons_succ, List.getElem_cons_zero, List.setIfInBounds_toArray, List.set_cons_zero, List.set_cons_succ]
        refine' takeH 18 rfl (by kernel_rfl) (by kernel_rfl) (by kernel_rfl) (fun _ _ _ h => h) (by rfl) (by assumption) ?gye4418 ?gre4418
        case gye4418 => intro W hSW; go_simp; try with_reducible rfl
        try simp only [Act.put, List.setIfInBounds_toArray, List.set_cons_zero, List.set_cons_succ]
        refine wpAnyH_done (by kernel_rfl) ?_ _
        refine NoPanic.normal ?_
        go_wp2
        go_meet
        exact ⟨_, _, _, _, rfl, Lib.hid (by rw [← HL44z.out, ← HL42z.out, ← HL40z.out, ← HL38z.out]; exact HBe.out), Lib.hid hacc44z⟩
    ·
      obtain ⟨Ac46, capc46, w46z, hcq46, hcr46, hcb46⟩ := str_bytes (P := Try.prog) wd s (by omega) Try.underlying9 Try.underlying24 Try.underlying5
      go_simp
      have hx46z := Ext.newc (S := []) (col := (fun _ => 0)) hcb46 0
      have hcv46z := hcr46.newc ((fun _ => 0)) 0
      have hacc46z := hacc0.go hx46z
      try dsimp only
      refine hK.out _ _ (HC.out _ _ hacc46z.ext) (fun hH46z => ?_)
      clear hK K
      try simp only [Act.put, List.getElem_toArray, List.getElem_cons_succ, List.getElem_cons_zero, List.setIfInBounds_toArray, List.set_cons_zero, List.set_cons_succ]
      refine wpAnyH_ready (rs := [3]) (by kernel_rfl) (by simp) ?_
      refine AllReadyH.cons rfl (fun K hK => ?_) AllReadyH.nil
      go_simp
      refine (num1_new _ k hk.1 hk.2).mono ?_
      rintro e w47z ⟨v47z, rfl, hn47z⟩
      have hx47z := Ext.newc (S := []) (col := newcol wd ((fun _ => 0)) 0) hn47z.2.2.2 0
      have hy47z := hn47z.rd.newc (newcol wd ((fun _ => 0)) 0) 0
      have hcv47z := hcv46z.ext hx47z (by simp)
      have hacc47z := hacc46z.go hx47z
      try dsimp only
      refine hK.out _ _ (HC.out _ _ hacc47z.ext) (fun hH47z => ?_)
      clear hK K
      try simp only [Act.put, List.getElem_toArray, List.getElem_cons_succ, List.getElem_cons_zero, List.setIfInBounds_toArray, List.set_cons_zero, List.set_cons_succ]
      refine wpAnyH_ready (rs := [4]) (by kernel_rfl) (by simp) ?_
      refine AllReadyH.cons rfl (fun K hK => ?_) AllReadyH.nil
      refine step_acc rfl _ _ 24 5 rfl Try.underlying24 Try.infoU8 rfl (by omega) rfl hacc47z _ _ rfl hy47z.1 (by (try simp only [List.length_nil]); omega) ?_
      intro A48z cap48z w48z hacc48z hx48z
      obtain ⟨L48z, hL48z, hl48z⟩ : ∃ L, [] ++ numB k = L ∧ L.length ≤ 10 := ⟨_, rfl, by simp only [List.length_append, List.length_nil]; omega⟩
      rw [hL48z] at hacc48z ⊢
      have HL48z := Lib.hid hL48z
      clear hL48z
      have hcv48z := hcv47z.ext hx48z (by simp)
      try dsimp only
      refine hK.out _ _ (HC.out _ _ hacc48z.ext) (fun hH48z => ?_)
      clear hK K
      try simp only [Act.put, List.getElem_toArray, List.getElem_cons_succ, List.getElem_cons_zero, List.setIfInBounds_toArray, List.set_cons_zero, List.set_cons_succ]
      refine wpAnyH_ready (rs := [7]) (by kernel_rfl) (by simp) ?_
      refine AllReadyH.cons rfl (fun K hK => ?_) AllReadyH.nil
      go_simp
      refine (num1_new _ c hcl.1 hcl.2).mono ?_
      rintro e w49z ⟨v49z, rfl, hn49z⟩
      have hx49z := Ext.newc (S := []) (col := newcol w47z (newcol w46z (newcol wd ((fun _ => 0)) 0) 0) 1) hn49z.2.2.2 0
      have hy49z := hn49z.rd.newc (newcol w47z (newcol w46z (newcol wd ((fun _ => 0)) 0) 0) 1) 0
      have hcv49z := hcv48z.ext hx49z (by simp)
      have hacc49z := hacc48z.go hx49z
      try dsimp only
      refine hK.out _ _ (HC.out _ _ hacc49z.ext) (fun hH49z => ?_)
      clear hK K
      try simp only [Act.put, List.getElem_toArray, List.getElem_cons_succ, List.getElem_cons_zero, List.setIfInBounds_toArray, List.set_cons_zero, List.set_cons_succ]
      refine wpAnyH_ready (rs := [8]) (by kernel_rfl) (by simp) ?_
      refine AllReadyH.cons rfl (fun K hK => ?_) AllReadyH.nil
      refine step_acc rfl _ _ 24 5 rfl Try.underlying24 Try.infoU8 rfl (by omega) rfl hacc49z _ _ rfl hy49z.1 (by (try simp only [List.length_nil]); omega) ?_
      intro A50z cap50z w50z hacc50z hx50z
      obtain ⟨L50z, hL50z, hl50z⟩ : ∃ L, L48z ++ numB c = L ∧ L.length ≤ 20 := ⟨_, rfl, by simp only [List.length_append, List.length_nil]; omega⟩
      rw [hL50z] at hacc50z ⊢
      have HL50z := Lib.hid hL50z
      clear hL50z
      have hcv50z := hcv49z.ext hx50z (by simp)
      try dsimp only
      refine hK.out _ _ (HC.out _ _ hacc50z.ext) (fun hH50z => ?_)
      clear hK K
      try simp only [Act.put, List.getElem_toArray, List.getElem_cons_succ, List.getElem_cons_zero, List.setIfInBounds_toArray, List.set_cons_zero, List.set_cons_succ]
      refine wpAnyH_ready (rs := [11]) (by kernel_rfl) (by simp) ?_
      refine AllReadyH.cons rfl (fun K hK => ?_) AllReadyH.nil
      go_simp
      refine (num1_new _ q hq.1 hq.2).mono ?_
      rintro e w51z ⟨v51z, rfl, hn51z⟩
      have hx51z := Ext.newc (S := []) (col := newcol w49z (newcol w48z (newcol w47z (newcol w46z (newcol wd ((fun _ => 0)) 0) 0) 1) 0) 1) hn51z.2.2.2 0
      have hy51z := hn51z.rd.newc (newcol w49z (newcol w48z (newcol w47z (newcol w46z (newcol wd ((fun _ => 0)) 0) 0) 1) 0) 1) 0
      have hcv51z := hcv50z.ext hx51z (by simp)
      have hacc51z := hacc50z.go hx51z
      try dsimp only
      refine hK.out _ _ (HC.out _ _ hacc51z.ext) (fun hH51z => ?_)
      clear hK K
      try simp only [Act.put, List.getElem_toArray, List.getElem_cons_succ, List.getElem_cons_zero, List.setIfInBounds_toArray, List.set_cons_zero, List.set_cons_succ]
      refine wpAnyH_ready (rs := [12]) (by kernel_rfl) (by simp) ?_
      refine AllReadyH.cons rfl (fun K hK => ?_) AllReadyH.nil
      refine step_acc rfl _ _ 24 5 rfl Try.underlying24 Try.infoU8 rfl (by omega) rfl hacc51z _ _ rfl hy51z.1 (by (try simp only [List.length_nil]); omega) ?_
      intro A52z cap52z w52z hacc52z hx52z
      obtain ⟨L52z, hL52z, hl52z⟩ : ∃ L, L50z ++ numB q = L ∧ L.length ≤ 30 := ⟨_, rfl, by simp only [List.length_append, List.length_nil]; omega⟩
      rw [hL52z] at hacc52z ⊢
      have HL52z := Lib.hid hL52z
      clear hL52z
      have hcv52z := hcv51z.ext hx52z (by simp)
      try dsimp only
      refine hK.out _ _ (HC.out _ _ hacc52z.ext) (fun hH52z => ?_)
      clear hK K
      try simp only [Act.put, List.getElem_toArray, List.getElem_cons_succ, List.getElem_cons_zero, List.setIfInBounds_toArray, List.set_cons_zero, List.set_cons_succ]
      refine wpAnyH_ready (rs := [16]) (by kernel_rfl) (by simp) ?_
      refine AllReadyH.cons rfl (fun K hK => ?_) AllReadyH.nil
      go_simp
      refine (text1_calls _ _ _ (sNums s) hcv52z.1 (by rw [sNums_len]; omega)).mono ?_
      rintro e w53z ⟨v53z, rfl, hn53z⟩
      have hx53z := Ext.newc (S := []) (col := newcol w51z (newcol w50z (newcol w49z (newcol w48z (newcol w47z (newcol w46z (newcol wd ((fun _ => 0)) 0) 0) 1) 0) 1) 0) 1) hn53z.2.2.2 0
      have hy53z := hn53z.rd.newc (newcol w51z (newcol w50z (newcol w49z (newcol w48z (newcol w47z (newcol w46z (newcol wd ((fun _ => 0)) 0) 0) 1) 0) 1) 0) 1) 0
      have hacc53z := hacc52z.go hx53z
      try dsimp only
      refine hK.out _ _ (HC.out _ _ hacc53z.ext) (fun hH53z => ?_)
      clear hK K
      try simp only [Act.put, List.getElem_toArray, List.getElem_cons_succ, List.getElem_cons_zero, List.setIfInBounds_toArray, List.set_cons_zero, List.set_cons_succ]
      refine wpAnyH_ready (rs := [17]) (by kernel_rfl) (by simp) ?_
      refine AllReadyH.cons rfl (fun K hK => ?_) AllReadyH.nil
      refine step_acc rfl _ _ 24 5 rfl Try.underlying24 Try.infoU8 rfl (by omega) rfl hacc53z _ _ rfl hy53z.1 (by (try simp only [List.length_nil]); omega) ?_
      intro A54z cap54z w54z hacc54z hx54z
      obtain ⟨L54z, hL54z, hl54z⟩ : ∃ L, L52z ++ textB (sNums s) = L ∧ L.length ≤ 250 := ⟨_, rfl, by simp only [List.length_append, List.length_nil]; omega⟩
      rw [hL54z] at hacc54z ⊢
      have HL54z := Lib.hid hL54z
      clear hL54z
      try dsimp only
      refine hK.out _ _ (HC.out _ _ hacc54z.ext) (fun hH54z => ?_)
      clear hK K
      try simp only [Act.put, List.getElem_toArray, List.getElem_cons_succ, List.getElem_cons_zero, List.setIfInBounds_toArray, List.set_cons_zero, List.set_cons_succ]
      refine' takeH 18 rfl (by kernel_rfl) (by kernel_rfl) (by kernel_rfl) (fun _ _ _ h => h) (by rfl) (by assumption) ?gye5418 ?gre5418
      case gye5418 => intro W hSW; go_simp; try with_reducible rfl
      try simp only [Act.put, List.setIfInBounds_toArray, List.set_cons_zero, List.set_cons_succ]
      refine wpAnyH_done (by kernel_rfl) ?_ _
      refine NoPanic.normal ?_
      go_wp2
      go_meet
      exact ⟨_, _, _, _, rfl, Lib.hid (by rw [← HL54z.out, ← HL52z.out, ← HL50z.out, ← HL48z.out]; exact HBe.out), Lib.hid hacc54z⟩
  case rest =>
  obtain ⟨Aw, capw, colw, L, rfl, HL, HA⟩ := hcut
  have hL := HL.out
  subst hL
  have hrw := HA.out.rd (by omega)
  have hr5 := hr4.ext HA.out.ext (by decide)
  have hbc := below_then' hb4' hb4'.size (HA.out.ext.below0 (by decide))
  have hc1 := RdB.conv (P := Try.prog) hrw Try.underlying24 Try.underlying5 Try.underlying9
  have hc2 := RdB.conv (P := Try.prog) hr5 Try.underlying24 Try.underlying5 Try.underlying9
  obtain ⟨sB, hsB⟩ : ∃ s, strOfNums L = s := ⟨_, rfl⟩
  rw [hsB] at hc1 hc2
  have HsB := Lib.hid hsB
  have hrr := hr.below hbc
  clear hrw hsB HC hr4 hb4' HA HL HBe lk lc lq lt hr
  have hA0 : Acc 5 wc wc (fun _ => 0) (.slice none 0 0) [] := Acc.nil _ (Ext.refl _ _ _)
  go_wp2_with (at_builtin; refine push_acc rfl _ _ 24 5 rfl Try.underlying24 Try.infoU8 rfl (by omega) rfl hA0 _ _ rfl hr5.1 (by (try simp only [List.length_nil]); omega) ?_)
  intro A5 cap5 w5 hacc5 hx5
  try simp only [List.nil_append] at hacc5
  try simp only [List.nil_append]
  have hb5 := hacc5.ext.below0 (by decide)
  go_wp2_with fail
  refine (short_calls w5 _ _ rest 5 (hrr.below hb5) (by omega)).mono ?_
  rintro e _ ⟨y, rfl, hy, rfl⟩
  have hyl : (rest.take 5).length ≤ 5 := by simp; omega
  generalize rest.take 5 = ys at hy hyl
  clear hrr hc1 hc2 hr5
  go_wp2_with (at_builtin; refine push_acc rfl _ _ 24 5 rfl Try.underlying24 Try.infoU8 rfl (by omega) rfl hacc5 _ _ rfl hy (by omega) ?_)
  intro A6 cap6 w6 hacc6 hx6
  obtain ⟨Y, hY, hYl, hYp⟩ : ∃ Y, L ++ ys = Y ∧ Y.length ≤ 4050 ∧ 1 ≤ Y.length := ⟨_, rfl, by simp only [List.length_append]; omega, by have := HBp.out; simp only [List.length_append]; omega⟩
  rw [← List.length_append, hY] at hacc6 ⊢
  clear hY hx6 hx5 hacc5 hb5 hyl hy HBp HBB HsB hBl
  go_upto_if 71 with fail
  go_cut [13] (fun l wz => ∃ (zs : List Int) (A : Option Addr) (cap : Nat), l = .slice A zs.length cap ∧ zs.length ≤ 4050 ∧ Hid (RdB wz (fun _ => True) l zs) ∧ Hid (Below w.heap.size w wz))
  case first =>
    by_cases hc2 : 0 ≤ at0
    case' neg =>
      go_wp2_with fail
      go_meet
      exact ⟨Y, _, _, rfl, hYl, Lib.hid (hacc6.rd (by omega)).any, Lib.hid (below_then' hbc hbc.size (hacc6.ext.below0 (by decide)))⟩
    obtain ⟨a, rfl⟩ := Int.eq_ofNat_of_zero_le hc2
    have hk : a % Y.length < Y.length := Nat.mod_lt _ hYp
    have hmod1 : (a : Int) % (Y.length : Int) = ((a % Y.length : Nat) : Int) := by omega
    have hmod2 : (a : Int).tmod (Y.length : Int) = ((a % Y.length : Nat) : Int) := by rw [Int.tmod_eq_emod_of_nonneg (by omega)]; omega
    have hx00 : ((Y.length : Int) == 0) = false := by simp only [beq_eq_false_iff_ne]; omega
    generalize a % Y.length = k1 at hk hmod1 hmod2
    have hr0 := hacc6.bytes.at k1
    obtain ⟨dd, hdd, hd0, hd1⟩ : ∃ d, bits .xor .u8 (Y.getD k1 0) x = d ∧ 0 ≤ d ∧ d ≤ 255 := by
      refine ⟨_, rfl, ?_⟩
      rw [u8_xor _ x hr0.1 (by omega) hx.1 (by omega)]
      have h1 : (Y.getD k1 0).toNat ^^^ x.toNat < 2 ^ 8 := Nat.xor_lt_two_pow (by omega) (by omega)
      omega
    have hown := hacc6.own.1
    obtain ⟨g, cap2, he, hg1, hg2⟩ := hown.form (by omega)
    simp at he
    obtain ⟨rfl, rfl⟩ := he
    have hcell := hown.cellAt k1 (by omega)
    rw [u8s_get _ _ hk] at hcell
    have hfz := hown.frozenAt k1
    have hst := hown.stored k1 (.int .u8 dd)
    rw [u8s_set] at hst
    obtain ⟨hO7, hx7⟩ := hacc6.own.app hst.2 hst.1 (.inl rfl)
    have hw7 := below_then' hbc hbc.size ((hacc6.ext.trans hx7).below0 (by decide))
    generalize Y.getD k1 0 = c at hcell hdd hr0
    have hr7 : RdB _ (In _ 1) _ (Y.set k1 dd) := Ow.rdB (by simpa using hO7) (by omega) (bytes_set hacc6.bytes hd0 hd1)
    have Hr7 := Lib.hid hr7.any
    have Hw7 := Lib.hid hw7
    clear hr7 hw7 hst hO7 hx7 hown
    go_wp2_with fail
    go_meet
    exact ⟨Y.set k1 dd, some ⟨g, 0, none⟩, cap6, by rw [List.length_set], by simpa using hYl, Hr7, Hw7⟩
  case rest =>
  obtain ⟨zs, Az, capz, rfl, hzl, Hrz, Hbz⟩ := hcut
  clear hacc6 hYl hYp hbc hx hat
  obtain ⟨a1, r1, b1, h1a, h1r, h1b⟩ : ∃ a r b, rN zs = a ∧ rRest zs = r ∧ rBad zs false = b := ⟨_, _, _, rfl, rfl, rfl⟩
  obtain ⟨a2, r2, b2, h2a, h2r, h2b⟩ : ∃ a r b, rN r1 = a ∧ rRest r1 = r ∧ rBad r1 b1 = b := ⟨_, _, _, rfl, rfl, rfl⟩
  obtain ⟨a3, r3, b3, h3a, h3r, h3b⟩ : ∃ a r b, rN r2 = a ∧ rRest r2 = r ∧ rBad r2 b2 = b := ⟨_, _, _, rfl, rfl, rfl⟩
  obtain ⟨t, r4, b4, h4a, h4r, h4b⟩ : ∃ a r b, rT r3 = a ∧ rTRest r3 = r ∧ rTBad r3 b3 = b := ⟨_, _, _, rfl, rfl, rfl⟩
  obtain ⟨sT, hsT⟩ : ∃ s, strOfNums t = s := ⟨_, rfl⟩
  obtain ⟨p1, p2, p3, p4, er, hp, hcase⟩ : ∃ p1 p2 p3 p4 er, decR zs = .tuple #[.agg #[.int .i64 p1, .int .i64 p2, .int .i64 p3, .string p4], .int .i64 er] ∧
      ((b4 = false ∧ r4 = [] ∧ MayC a1 a2 a3 sT ∧ p1 = a1 ∧ p2 = a2 ∧ p3 = a3 ∧ p4 = sT ∧ er = 0) ∨ (¬ (b4 = false ∧ r4 = [] ∧ MayC a1 a2 a3 sT) ∧ p1 = 0 ∧ p4 = ⟨#[]⟩ ∧ er = 3)) := by
    have hD : Dec zs ↔ (b4 = false ∧ r4 = [] ∧ MayC a1 a2 a3 sT) := by
      unfold Dec db dl dk dc dq dt
      rw [h1a, h1b, h1r, h2a, h2b, h2r, h3a, h3b, h3r, h4a, h4b, h4r, hsT]
    unfold decR dk dc dq dt cmdV
    rw [h1a, h1r, h2a, h2r, h3a, h3r, h4a, hsT]
    by_cases h : Dec zs
    · rw [if_pos h]
      obtain ⟨i1, i2, i3⟩ := hD.1 h
      exact ⟨_, _, _, _, _, rfl, .inl ⟨i1, i2, i3, rfl, rfl, rfl, rfl, rfl⟩⟩
    · rw [if_neg h]
      exact ⟨_, _, _, _, _, rfl, .inr ⟨fun h2 => h (hD.2 h2), rfl, rfl, rfl⟩⟩
  have H1 := Lib.hid (And.intro h1a (And.intro h1r h1b))
  have H2 := Lib.hid (And.intro h2a (And.intro h2r h2b))
  have H3 := Lib.hid (And.intro h3a (And.intro h3r h3b))
  have H4 := Lib.hid (And.intro h4a (And.intro h4r h4b))
  have HsT := Lib.hid hsT
  have Hcase := Lib.hid hcase
  have hD := decode_calls wc _ _ zs Hrz.out.1
  rw [hp] at hD
  clear h1a h1r h1b h2a h2r h2b h3a h3r h3b h4a h4r h4b hsT hcase hp
  go_wp2_with fail
  refine hD.mono ?_
  rintro e w6 ⟨rfl, hb6⟩
  clear hD
  have hr6 := Hrz.out.below hb6
  have hb6' := below_then' Hbz.out Hbz.out.size hb6
  clear hb6 Hrz Hbz
  obtain ⟨w7, hw7⟩ : ∃ W, w6.alloc (.cells #[.int .i64 p1, .int .i64 p2, .int .i64 p3, .string p4] 23) = W := ⟨_, rfl⟩
  have hz7 := heap_alloc_new w6 (.cells #[.int .i64 p1, .int .i64 p2, .int .i64 p3, .string p4] 23)
  have hb67 : Below w6.heap.size w6 w7 := by rw [← hw7]; exact (Below.refl _ _).alloc (Nat.le_refl _) _
  rw [hw7] at hz7
  have hz7' : w7.heap[w6.heap.size]? = some (.cells [.int .i64 p1, .int .i64 p2, .int .i64 p3, .string p4].toArray 23 (0, 0)) := hz7
  have hr7 : RdB w7 (In (fun _ => 0) 0) (.slice Az zs.length capz) zs := (hr6.below hb67).weaken fun _ _ _ => rfl
  have hb7 := below_then' hb6' hb6'.size hb67
  clear hb67 hb6' hr6 hz7
  have hx8 : Ext [2] w7 (fun _ => 0) (w7.alloc (.cells #[.slice Az zs.length capz, .bool false] 38)) (newcol w7 (fun _ => 0) 2) := (Ext.refl _ _ _).alloc _ 2
  have hQ8 : Rr1 (w7.alloc (.cells #[.slice Az zs.length capz, .bool false] 38)) (newcol w7 (fun _ => 0) 2) 2 w7.heap.size zs false :=
    ⟨⟨_, heap_alloc_new _ _, newcol_new (Nat.le_refl _), hr7.ext hx8 (by decide)⟩, fun h => by cases h⟩
  go_wp2_with fail
  clear hw7
  refine (q1num_calls _ _ 2 _ _ _ (by omega) hQ8).mono ?_
  rintro e w9 ⟨rfl, hQ9, hx9⟩
  rw [H1.out.1]
  rw [H1.out.2.1, H1.out.2.2] at hQ9
  have hx9' := hx8.trans hx9
  clear hx8 hx9 hQ8 hr7
  go_wp2_with fail
  refine (q1num_calls _ _ 2 _ _ _ (by omega) hQ9).mono ?_
  rintro e w10 ⟨rfl, hQ10, hx10⟩
  rw [H2.out.1]
  rw [H2.out.2.1, H2.out.2.2] at hQ10
  have hx10' := hx9'.trans hx10
  clear hx9' hx10 hQ9
  go_wp2_with fail
  refine (q1num_calls _ _ 2 _ _ _ (by omega) hQ10).mono ?_
  rintro e w11 ⟨rfl, hQ11, hx11⟩
  rw [H3.out.1]
  rw [H3.out.2.1, H3.out.2.2] at hQ11
  have hx11' := hx10'.trans hx11
  clear hx10' hx11 hQ10
  go_wp2_with fail
  refine (qtext_calls _ _ 2 _ _ _ (by omega) hQ11).mono ?_
  rintro e w12 ⟨v12, col12, rfl, ⟨hv12, hQ12⟩, hx12⟩
  rw [H4.out.1] at hv12
  rw [H4.out.2.1, H4.out.2.2] at hQ12
  have hc12 := RdB.conv (P := Try.prog) hv12 Try.underlying24 Try.underlying5 Try.underlying9
  rw [HsT.out] at hc12
  have hx12' := hx11'.trans hx12
  have hz12 := (hx12'.block _ (heap_lt hz7') (by decide)).trans hz7'
  have hb12 := below_then' hb7 hb7.size (hx12'.below0 (by decide))
  clear hx11' hx12 hQ11 hv12 H1 H2 H3 H4 HsT hb7 hx12' hz7'
  obtain ⟨w13, hw13⟩ : ∃ W, w12.alloc (.cells #[.int .i64 a1, .int .i64 a2, .int .i64 a3, .string sT] 23) = W := ⟨_, rfl⟩
  have hz13 := heap_alloc_new w12 (.cells #[.int .i64 a1, .int .i64 a2, .int .i64 a3, .string sT] 23)
  have hx13 : Ext [] w12 col12 w13 (newcol w12 col12 0) := by rw [← hw13]; exact (Ext.refl _ _ _).alloc _ 0
  rw [hw13] at hz13
  have hz13' : w13.heap[w12.heap.size]? = some (.cells [.int .i64 a1, .int .i64 a2, .int .i64 a3, .string sT].toArray 23 (0, 0)) := hz13
  have hQ13 := hQ12.ext hx13 (by decide) (by decide)
  have hzz13 := (hx13.below.block _ (heap_lt hz12)).trans hz12
  have hb13 := below_then' hb12 hb12.size hx13.below
  clear hz13 hz12 hQ12 hb12 hx13
  obtain ⟨⟨vq, hbq, hcq, hvq⟩, _⟩ := id hQ13
  obtain ⟨kq0, _⟩ := cell_row hbq (j := 0) rfl
  obtain ⟨kq1, _⟩ := cell_row hbq (j := 1) rfl
  obtain ⟨Aq, capq, rfl, _⟩ := hvq.slice
  obtain ⟨m0, -⟩ := cell_row hz13' (j := 0) rfl
  obtain ⟨m1, -⟩ := cell_row hz13' (j := 1) rfl
  obtain ⟨m2, -⟩ := cell_row hz13' (j := 2) rfl
  obtain ⟨m3, -⟩ := cell_row hz13' (j := 3) rfl
  obtain ⟨n0, -⟩ := cell_row hzz13 (j := 0) rfl
  obtain ⟨n3, -⟩ := cell_row hzz13 (j := 3) rfl
  have hF := maycmd_calls w13 a1 a2 a3 sT
  unfold cmdV at hF
  rcases Hcase.out with ⟨rfl, rfl, hM, rfl, rfl, rfl, rfl, rfl⟩ | ⟨hM, rfl, rfl, rfl⟩
  · rw [show decide (MayC p1 p2 p3 p4) = true by simpa using hM] at hF
    clear hM Hcase
    go_wp2_with fail
    clear hw13
    refine hF.mono ?_
    rintro e w14 ⟨rfl, hb14⟩
    have hA := (hb14.block _ (heap_lt hz13')).trans hz13'
    have hB := (hb14.block _ (heap_lt hzz13)).trans hzz13
    clear m0 m1 m2 m3 n0 n3
    obtain ⟨m0, -⟩ := cell_row hA (j := 0) rfl
    obtain ⟨m1, -⟩ := cell_row hA (j := 1) rfl
    obtain ⟨m2, -⟩ := cell_row hA (j := 2) rfl
    obtain ⟨m3, -⟩ := cell_row hA (j := 3) rfl
    obtain ⟨n0, -⟩ := cell_row hB (j := 0) rfl
    obtain ⟨n1, -⟩ := cell_row hB (j := 1) rfl
    obtain ⟨n2, -⟩ := cell_row hB (j := 2) rfl
    obtain ⟨n3, -⟩ := cell_row hB (j := 3) rfl
    go_wp2
    go_ret
    exact ⟨ret_bool (by simp), below_then' hb13 hb13.size hb14⟩
  · cases b4 with
    | true =>
      clear hM Hcase hF
      go_wp2
      go_ret
      exact ⟨ret_bool (by simp), hb13⟩
    | false =>
      by_cases hr4 : r4 = []
      · subst hr4
        rw [show decide (MayC a1 a2 a3 sT) = false by simpa using hM] at hF
        clear hM Hcase
        go_wp2_with fail
        clear hw13
        refine hF.mono ?_
        rintro e w14 ⟨rfl, hb14⟩
        have hB := (hb14.block _ (heap_lt hzz13)).trans hzz13
        clear m0 m1 m2 m3 n0 n3
        obtain ⟨n0, -⟩ := cell_row hB (j := 0) rfl
        obtain ⟨n3, -⟩ := cell_row hB (j := 3) rfl
        go_wp2
        go_ret
        exact ⟨ret_bool (by simp), below_then' hb13 hb13.size hb14⟩
      · have hl4 : 0 < r4.length := by cases r4 with | nil => exact absurd rfl hr4 | cons a l => simp
        clear hM Hcase hF hr4
        go_wp2
        go_ret
        exact ⟨ret_bool (by simp), hb13⟩
end Go.Proofs.Yteegdhfekemhmaa
