/- The walk of delphilaw1.BinWrites. -/
import Derived.Test.YteodbcgfmfkdmaaBinOps
import Derived.Deep.RegionWith
import Derived.Deep.DeepCutAuto
import Derived.Deep.CutBlock
namespace Go.Proofs.Yteodbcgfmfkdmaa
open Go.RowKit

theorem rd_num {n : Int} (h : InI64 n) (r : List Int) : rN (numB n ++ r) = n ∧ rRest (numB n ++ r) = r ∧ rBad (numB n ++ r) false = false := by
  have := rnum_numB h.1 h.2 r
  simp [rN, rRest, rBad, this]
theorem rd_text {b : List Int} (h : b.length ≤ 140737488355328) (r : List Int) : rT (textB b ++ r) = b ∧ rTRest (textB b ++ r) = r ∧ rTBad (textB b ++ r) false = false := by
  have h1 := rnum_numB (n := b.length) (by omega) (by omega) (b ++ r)
  have h2 : rtext (textB b ++ r) = some (b, r) := by
    unfold rtext textB
    rw [List.append_assoc, h1]
    simp
    omega
  simp [rT, rTRest, rTBad, h2]
theorem rd_flag (f : Bool) (r : List Int) : rF (flagB f ++ r) = f ∧ rFRest (flagB f ++ r) = r ∧ rFBad (flagB f ++ r) false = false := by
  cases f <;> exact ⟨rfl, rfl, rfl⟩
theorem outs_bytes {l : List OpD} (h : ∀ o ∈ l, Bytes o.b) : Bytes (outs l) := by
  intro x hx
  obtain ⟨o, ho, hx⟩ := List.mem_flatMap.1 hx
  exact out_bytes o (h o ho) x hx
theorem outs_drop {l : List OpD} {i : Nat} (h : i < l.length) : outs (l.drop i) = l[i].out ++ outs (l.drop (i + 1)) := by
  rw [List.drop_eq_getElem_cons h]; rfl

set_option maxHeartbeats 2000000 in
set_option maxRecDepth 100000 in
theorem binwrites_calls (w : World) (v : Value) (ops : List OpD) (hv : Rdops w (fun _ => True) v ops) :
    Calls Try.prog 8 #[v] w fun e w' => e = .returned (.bool true) ∧ Below w.heap.size w w' := by
  have hv0 := hv.zero
  obtain ⟨A, cap, rfl, hc1, hc2⟩ := hv.1.slice
  have hll := hv.1.2.2.1
  have Hall : Hid (∀ o ∈ ops, InI64 o.n ∧ Bytes o.b) := fun o ho => ⟨(hv.2 o ho).1, (hv.2 o ho).2.2⟩
  go_enter Try.func8, Try.ntmps8
  go_wp2_with fail
  refine (begun1_calls _).mono ?_
  rintro e w1 ⟨rfl, hb1⟩
  have hx1 : Ext [1, 2] w (fun _ => 0) w1 (fun _ => 0) := Ext.of_below hb1 fun _ _ => rfl
  have hx2 := hx1.alloc (.cells #[.slice none 0 0] 40) 1
  have hW0 := Wr.new w1 (fun _ => 0) 1
  go_upto_block 0 with fail
  go_cut [5] (fun want wr => ∃ (j : Nat) (col1 : Col) (B : List Int) (A : Option Addr) (cap : Nat), want = .slice A B.length cap ∧ j ≤ 30 ∧ j ≤ ops.length ∧ (¬ j < ops.length ∨ ¬ j < 30) ∧ B.length ≤ 2100 ∧ Hid (outs (ops.take j) = B) ∧ Hid (Bytes B) ∧ Wr wr col1 1 w1.heap.size B ∧ Ow wr col1 2 5 1 want B.length (u8s B) ∧ Ext [1, 2] w (fun _ => 0) wr col1)
  case first =>
    go_wp2_with fail
    go_loopw [5, 6] (fun want i wr => ∃ (j : Nat) (col1 : Col), i = .int .i64 j ∧ j ≤ ops.length ∧ j ≤ 30 ∧ Wr wr col1 1 w1.heap.size (outs (ops.take j)) ∧ Ow wr col1 2 5 1 want (outs (ops.take j)).length (u8s (outs (ops.take j))) ∧ Ext [1, 2] w (fun _ => 0) wr col1) (fun _ i _ => 30 - (intOf i).toNat)
    case atStart => exact ⟨0, _, rfl, by omega, by omega, hW0, Ow.nil _ _ _ _ _, hx2⟩
    case round =>
      obtain ⟨j, col1, rfl, hj, hj30, hW, hE, hx⟩ := hrel
      by_cases hc : j < ops.length ∧ j < 30
      · obtain ⟨hc1, hc2⟩ := hc
        obtain ⟨b, o, cap', he, hN, hbl, hn, hvb, k0, k1, k2, k3⟩ := (hv0.ext (c := 0) hx (by decide)).get hc1
        simp at he
        obtain ⟨rfl, rfl⟩ := he
        have hlt := outs_len (ops.take j) fun o ho => (Hall.out o (List.mem_of_mem_take ho)).1
        have hlt2 : (outs (ops.take j)).length ≤ 2100 := by simp at hlt; omega
        have hol := out_len ops[j] hn
        have Hst := Lib.hid (outs_step hc1)
        clear hlt
        obtain ⟨op, hop⟩ : ∃ op, ops[j] = op := ⟨_, rfl⟩
        rw [hop] at hn hvb k0 k1 k2 k3 hol Hst
        clear hop
        have Hout := Lib.hid (show op.out = if op.kind = 0 then numB op.n else if op.kind = 1 then textB (op.b.take 60) else flagB op.f from rfl)
        go_wp2_with fail
        refine (short_calls _ _ _ _ 60 hvb (by omega)).mono ?_
        rintro e _ ⟨v2, rfl, hv2, rfl⟩
        generalize hys : op.b.take 60 = ys at hv2
        have hyl : ys.length ≤ 60 := by rw [← hys]; simp; omega
        have Hys := Lib.hid hys
        clear hys hvb
        by_cases hk0 : op.kind = 0
        · have Ho : Hid (op.out = numB op.n) := Hout.out.trans (if_pos hk0)
          have d0 : (op.kind == 0) = true := by simp [hk0]
          clear hk0 Hout
          rw [Ho.out] at Hst hol
          go_wp2_with fail
          refine (num_calls _ col1 1 _ _ _ hW (by omega) hn.1 hn.2).mono ?_
          rintro e w3 ⟨rfl, col3, hW3, hx3⟩
          rw [← Hst.out] at hW3
          have hE3 := hE.ext hx3 (by decide)
          have g1 := (hx3.block b hbl (by rw [show col1 b = 0 from hN]; decide))
          rw [← World.cell?_of_block (a := ⟨b, o + j * 4 + 1, none⟩) g1] at k1
          go_wp2_with fail
          refine (num1_new _ _ hn.1 hn.2).mono ?_
          rintro e w4 ⟨v4, rfl, hn4⟩
          have hx4 : Ext [] w3 col3 w4 (newcol w3 col3 0) := Ext.newc hn4.2.2.2 0
          have hE4 := hE3.ext hx4 (by decide)
          have hE4' := hE4.1
          have hr4 := hn4.rd.1.1
          go_wp2_with (at_builtin; refine pushs rfl _ _ 22 5 rfl Try.underlying22 Try.infoU8 rfl (by omega) 0 _ _ _ rfl hE4' (by omega) _ _ _ rfl hr4 (u8s_oneCell _) (by omega) ?_)
          intro A' cap' w5 hown' hgrow hat
          obtain ⟨hE5, hx5⟩ := hE4.app hgrow hown' hat
          have hW5 := (hW3.ext hx4 (by decide)).ext hx5 (by decide)
          go_wp2
          go_roundw
          case rel =>
            refine ⟨j + 1, _, by go_num, by omega, by omega, hW5, ?_, ((hx.trans (hx3.mono (by decide))).trans (hx4.mono (by decide))).trans (hx5.mono (by decide))⟩
            rw [Hst.out]
            simpa [u8s_append] using hE5
          case measure => simp [intOf]; omega
        · have d0 : (op.kind == 0) = false := by simp [hk0]
          by_cases hk1 : op.kind = 1
          · have Ho : Hid (op.out = textB ys) := (Hout.out.trans ((if_neg hk0).trans (if_pos hk1))).trans (by rw [Hys.out])
            have d1 : (op.kind == 1) = true := by simp [hk1]
            clear hk0 hk1 Hout
            rw [Ho.out] at Hst hol
            have hv2o := hv2.to_out (S := [1]) (c := 0) (by decide)
            go_wp2_with fail
            refine (wtext_calls _ col1 1 _ _ _ ys hW hv2o (by omega)).mono ?_
            rintro e w3 ⟨rfl, col3, hW3, hx3⟩
            rw [← Hst.out] at hW3
            have hE3 := hE.ext hx3 (by decide)
            have hv3 := hv2.ext (c := 0) hx3 (by decide)
            go_wp2_with fail
            refine (text1_calls _ _ _ ys hv3 (by omega)).mono ?_
            rintro e w4 ⟨v4, rfl, hn4⟩
            have hx4 : Ext [] w3 col3 w4 (newcol w3 col3 0) := Ext.newc hn4.2.2.2 0
            have hE4 := hE3.ext hx4 (by decide)
            have hE4' := hE4.1
            have hr4 := hn4.rd.1.1
            go_wp2_with (at_builtin; refine pushs rfl _ _ 22 5 rfl Try.underlying22 Try.infoU8 rfl (by omega) 0 _ _ _ rfl hE4' (by omega) _ _ _ rfl hr4 (u8s_oneCell _) (by omega) ?_)
            intro A' cap' w5 hown' hgrow hat
            obtain ⟨hE5, hx5⟩ := hE4.app hgrow hown' hat
            have hW5 := (hW3.ext hx4 (by decide)).ext hx5 (by decide)
            go_wp2
            go_roundw
            case rel =>
              refine ⟨j + 1, _, by go_num, by omega, by omega, hW5, ?_, ((hx.trans (hx3.mono (by decide))).trans (hx4.mono (by decide))).trans (hx5.mono (by decide))⟩
              rw [Hst.out]
              simpa [u8s_append] using hE5
            case measure => simp [intOf]; omega
          · have Ho : Hid (op.out = flagB op.f) := Hout.out.trans ((if_neg hk0).trans (if_neg hk1))
            have d1 : (op.kind == 1) = false := by simp [hk1]
            clear hk0 hk1 Hout
            rw [Ho.out] at Hst hol
            generalize op.f = f at k3 Hst hol
            cases f
            all_goals
              go_wp2_with fail
              refine (wflag_calls _ col1 1 _ _ _ hW (by omega)).mono ?_
              rintro e w3 ⟨rfl, col3, hW3, hx3⟩
              rw [← Hst.out] at hW3
              have hE3 := hE.ext hx3 (by decide)
              have g1 := (hx3.block b hbl (by rw [show col1 b = 0 from hN]; decide))
              rw [← World.cell?_of_block (a := ⟨b, o + j * 4 + 3, none⟩) g1] at k3
              have hE3' := hE3.1
              go_wp2_with (at_builtin; refine push1 rfl _ _ 22 5 rfl Try.underlying22 Try.infoU8 rfl (by omega) 0 _ _ _ rfl hE3' (by omega) _ rfl rfl (by omega) ?_)
              intro A' cap' w5 hown' hgrow hat
              obtain ⟨hE5, hx5⟩ := hE3.app1 hgrow hown' hat
              have hW5 := hW3.ext hx5 (by decide)
              go_wp2
              go_roundw
              case rel =>
                refine ⟨j + 1, _, by go_num, by omega, by omega, hW5, ?_, (hx.trans (hx3.mono (by decide))).trans (hx5.mono (by decide))⟩
                rw [Hst.out]
                simpa [u8s_append, u8s, flagB] using hE5
              case measure => simp [intOf]; omega
      · have hge : ¬ j < ops.length ∨ ¬ j < 30 := by omega
        have hlt := outs_len (ops.take j) fun o ho => (Hall.out o (List.mem_of_mem_take ho)).1
        have hlt2 : (outs (ops.take j)).length ≤ 2100 := by simp at hlt; omega
        have Hby := Lib.hid (outs_bytes (l := ops.take j) fun o ho => (Hall.out o (List.mem_of_mem_take ho)).2)
        clear hlt hc
        obtain ⟨Ae, cape, rfl⟩ := own_slice' hE.1
        go_wp2
        all_goals
          go_meet
          exact ⟨j, col1, _, _, _, rfl, hj30, hj, hge, hlt2, rfl, Hby.out, hW, hE, hx⟩
  case rest =>
    obtain ⟨j, col1, B, Ae, cape, rfl, hj30, hj, hge, hlt2, HB, Hby, hW, hE, hx⟩ := hcut
    have hEb := hE.rdB (by omega) Hby.out
    go_upto_region 21 with fail
    go_cut [85] (fun s wz => s = .bool false ∧ ∃ colz : Col, RdB wz (In colz 2) (.slice Ae B.length cape) B ∧ Ext [1, 2] w (fun _ => 0) wz colz)
    case first =>
      have hWd : Wr wc.drew col1 1 w1.heap.size B := hW
      have hEbd : RdB wc.drew (In col1 2) (.slice Ae B.length cape) B := hEb
      have hcd := RdB.conv (P := Try.prog) hEbd Try.underlying22 Try.underlying5 Try.underlying9
      have hxd : Ext [1, 2] w (fun _ => 0) wc.drew col1 := hx.drewN 1
      go_region_with (go_at_call 28; refine (wbytes_calls _ col1 1 _ _ hWd (by omega)).mono ?_; rintro e w5 ⟨v5, rfl, hn5⟩; have hx5 : Ext [] wc.drew col1 w5 (newcol wc.drew col1 0) := Ext.newc hn5.2.2.2 0; have hc5 := RdB.conv (P := Try.prog) hn5.rd Try.underlying22 Try.underlying5 Try.underlying9; have hcd5 := RdB.conv (P := Try.prog) (hEbd.ext hx5 (by decide)) Try.underlying22 Try.underlying5 Try.underlying9)
      all_goals
        go_wp2_with fail
        go_meet
        exact ⟨by simp, _, hEbd.ext hx5 (by decide), hxd.trans (hx5.mono (T := [1, 2]) (by decide))⟩
    case rest =>
      obtain ⟨rfl, colz, hv5, hxx⟩ := hcut
      go_wp2_with fail
      refine (read_calls _ _ _ _ colz 3 hv5.1).mono ?_
      rintro e w6 ⟨b6, col6, rfl, hR6, hx6⟩
      have hx6' := (hxx.mono (T := [1, 2, 3]) (by decide)).trans (hx6.mono (by decide))
      go_wp2_with fail
      go_loopw [9] (fun i wr => ∃ (i0 : Nat) (colq : Col), i = .int .i64 i0 ∧ i0 ≤ j ∧ Rr wr colq 3 b6 (outs ((ops.take j).drop i0)) false ∧ Ext [1, 2, 3] w (fun _ => 0) wr colq) (fun i _ => j - (intOf i).toNat)
      case atStart => exact ⟨0, _, rfl, by omega, by rw [List.drop_zero, HB.out]; exact hR6, hx6'⟩
      case round =>
        obtain ⟨i0, colq, rfl, hij, hR, hx⟩ := hrel
        by_cases hilt : i0 < j
        · have hil : i0 < ops.length := by omega
          obtain ⟨b, o, cap', he, hN, hbl, hn, hvb, k0, k1, k2, k3⟩ := (hv0.ext (c := 0) hx (by decide)).get hil
          simp at he
          obtain ⟨rfl, rfl⟩ := he
          have Hdr : Hid (outs ((ops.take j).drop i0) = ops[i0].out ++ outs ((ops.take j).drop (i0 + 1))) := by
            have h1 := outs_drop (l := ops.take j) (i := i0) (by simp; omega)
            rw [List.getElem_take] at h1
            exact h1
          rw [Hdr.out] at hR
          obtain ⟨R, hRR⟩ : ∃ R, outs ((ops.take j).drop (i0 + 1)) = R := ⟨_, rfl⟩
          rw [hRR] at hR
          have HR := Lib.hid hRR
          clear hRR
          obtain ⟨op, hop⟩ : ∃ op, ops[i0] = op := ⟨_, rfl⟩
          rw [hop] at hn hvb k0 k1 k2 k3 hR
          clear hop Hdr
          have Hout := Lib.hid (show op.out = if op.kind = 0 then numB op.n else if op.kind = 1 then textB (op.b.take 60) else flagB op.f from rfl)
          have hxd : Ext [1, 2, 3] w (fun _ => 0) wr.drew colq := hx.drewN 1
          by_cases hk0 : op.kind = 0
          · have d0 : (op.kind == 0) = true := by simp [hk0]
            rw [Hout.out, if_pos hk0] at hR
            have hRd : Rr wr.drew colq 3 b6 (numB op.n ++ R) false := hR
            have Hd := Lib.hid (rd_num hn R)
            have k1d : wr.drew.cell? ⟨b, o + i0 * 4 + 1, none⟩ = some (.int .i64 op.n) := k1
            clear hk0 Hout hR hx
            go_wp2_with fail
            go_region_with (go_at_call 30; refine (rnum_calls _ colq 3 b6 _ _ (by omega) hRd).mono ?_; rintro e wa ⟨rfl, hR1, hxa⟩; rw [Hd.out.2.1, Hd.out.2.2] at hR1; rw [Hd.out.1]; have k1a := (World.cell?_of_block (w := wr.drew) (a := ⟨b, o + i0 * 4 + 1, none⟩) (hxa.block b hbl (by rw [show colq b = 0 from hN]; decide))).trans k1d; have hxx := hxd.trans (hxa.mono (T := [1, 2, 3]) (by decide)))
            all_goals
              clear k1a k1d
              go_wp2
              exact ⟨⟨i0 + 1, _, by go_num, by omega, by rw [HR.out]; exact hR1, hxx⟩, by simp [intOf]; omega⟩
          · have d0 : (op.kind == 0) = false := by simp [hk0]
            by_cases hk1 : op.kind = 1
            · have d1 : (op.kind == 1) = true := by simp [hk1]
              rw [Hout.out, if_neg hk0, if_pos hk1] at hR
              have hRd : Rr wr.drew colq 3 b6 (textB (op.b.take 60) ++ R) false := hR
              have Hd := Lib.hid (rd_text (b := op.b.take 60) (by simp; omega) R)
              have k2d : wr.drew.cell? ⟨b, o + i0 * 4 + 2, none⟩ = some op.vb := k2
              have hvbd : RdL wr.drew (In colq 0) op.vb op.b := hvb
              clear hk0 hk1 Hout hR hx hvb
              go_wp2_with fail
              go_region_with (first | (go_at_call 31; refine (rtext_calls _ colq 3 b6 _ _ (by omega) hRd).mono ?_; rintro e wa ⟨va, cola, rfl, ⟨hva, hR1⟩, hxa⟩; rw [Hd.out.2.1, Hd.out.2.2] at hR1; rw [Hd.out.1] at hva; have k2a := (World.cell?_of_block (w := wr.drew) (a := ⟨b, o + i0 * 4 + 2, none⟩) (hxa.block b hbl (by rw [show colq b = 0 from hN]; decide))).trans k2d; have hvba := hvbd.ext (c := 0) hxa (by decide); have hxx := hxd.trans (hxa.mono (T := [1, 2, 3]) (by decide)); have hca := RdB.conv (P := Try.prog) hva Try.underlying22 Try.underlying5 Try.underlying9) | (go_at_call 14; refine (short_calls _ _ _ _ 60 hvba (by omega)).mono ?_; rintro e _ ⟨vs, rfl, hvs, rfl⟩; have hcs := RdL.conv (P := Try.prog) hvs Try.underlying22 Try.underlying5 Try.underlying9))
              all_goals
                clear k2a k2d hca hcs
                go_wp2
                exact ⟨⟨i0 + 1, _, by go_num, by omega, by rw [HR.out]; exact hR1, hxx⟩, by simp [intOf]; omega⟩
            · have d1 : (op.kind == 1) = false := by simp [hk1]
              rw [Hout.out, if_neg hk0, if_neg hk1] at hR
              have hRd : Rr wr.drew colq 3 b6 (flagB op.f ++ R) false := hR
              have Hd := Lib.hid (rd_flag op.f R)
              have k3d : wr.drew.cell? ⟨b, o + i0 * 4 + 3, none⟩ = some (.bool op.f) := k3
              clear hk0 hk1 Hout hR hx hvb
              go_wp2_with fail
              go_region_with (go_at_call 32; refine (rflag_calls _ colq 3 b6 _ _ (by omega) hRd).mono ?_; rintro e wa ⟨rfl, hR1, hxa⟩; rw [Hd.out.2.1, Hd.out.2.2] at hR1; rw [Hd.out.1]; have k3a := (World.cell?_of_block (w := wr.drew) (a := ⟨b, o + i0 * 4 + 3, none⟩) (hxa.block b hbl (by rw [show colq b = 0 from hN]; decide))).trans k3d; have hxx := hxd.trans (hxa.mono (T := [1, 2, 3]) (by decide)))
              all_goals
                clear k3a k3d
                go_wp2
                exact ⟨⟨i0 + 1, _, by go_num, by omega, by rw [HR.out]; exact hR1, hxx⟩, by simp [intOf]; omega⟩
        · have hnil : outs ((ops.take j).drop i0) = [] := by
            rw [List.drop_of_length_le (by simp; omega)]; rfl
          rw [hnil] at hR
          clear hnil
          obtain rfl : i0 = j := by omega
          go_wp2_with (first | (go_at_call 33; refine (rok_calls _ colq 3 b6 _ _ hR.1).mono ?_; rintro e _ ⟨rfl, rfl⟩) | (go_at_call 34; refine (rleft_calls _ colq 3 b6 _ _ hR.1).mono ?_; rintro e _ ⟨rfl, rfl⟩))
          all_goals
            go_ret
            exact ⟨rfl, hx.below0 (by decide)⟩
end Go.Proofs.Yteodbcgfmfkdmaa
