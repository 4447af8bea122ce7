/- The statements of layer 2: cut short. -/
import Derived.Test.YteodbcgfmfkdmaaFrameX
import Derived.Test.YteodbcgfmfkdmaaReg
import Derived.Deep.CutBlock
import Derived.Deep.DeepCutAuto
namespace Go.Proofs.Yteodbcgfmfkdmaa
open Go.RowKit

theorem below_undrew1 {B : Nat} {w W : World} (h : Below B w.drew W) : Below B w W := ⟨h.os, h.tape, h.output, h.size, h.block⟩
set_option maxHeartbeats 4000000 in
set_option maxRecDepth 100000 in
theorem framecut_calls (w : World) (v1 : Value) (xs : List Int) (v2 : Value) (ys : List Int) (c : Int) (hv : RdL w (fun _ => True) v1 xs) (hv' : RdL w (fun _ => True) v2 ys) (hc : (Lit.int .i64 c).wf = true) :
    Calls Try.prog 7 #[v1, v2, .int .i64 c] w fun e w' => e = .returned (.bool true) ∧ Below w.heap.size w w' := by
  have hcr := wf64 hc
  clear hc
  obtain ⟨A, cap, rfl, hc1, hc2⟩ := hv.slice
  obtain ⟨A', cap', rfl, hc1', hc2'⟩ := hv'.slice
  have hll := hv.len
  have hll' := hv'.len
  simp only [maxLen] at hc2 hc2'
  go_enter Try.func7, Try.ntmps7
  go_wp2_with fail
  refine (begun2_calls _).mono ?_
  rintro e w1 ⟨rfl, hb1⟩
  have hv1 := hv.below hb1
  have hv1' := hv'.below hb1
  have hT : ∀ (B : Option Addr) (zs : List Int) c2, RdL w1 (fun _ => True) (.slice B zs.length c2) zs → zs.length ≤ 100 → RdL w1 (fun _ => True) (.slice B zs.length c2) (zs.take 100) := fun B zs c2 h hl => by rw [List.take_of_length_le hl]; exact h
  have Ht := Lib.hid hT
  clear hT hv hv'
  by_cases hx : 100 < xs.length
  all_goals
    by_cases hy : 100 < ys.length
    all_goals
      first | (have hva := hv1.front (i := 100) (by omega)) | (have hva := Ht.out _ _ _ hv1 (by omega))
      first | (have hvb := hv1'.front (i := 100) (by omega)) | (have hvb := Ht.out _ _ _ hv1' (by omega))
      have hxl : (xs.take 100).length ≤ 100 := by simp; omega
      have hyl : (ys.take 100).length ≤ 100 := by simp; omega
      have Hva := Lib.hid hva
      have Hvb := Lib.hid hvb
      clear hva hvb hv1 hv1' Ht
      generalize xs.take 100 = ax at Hva hxl
      generalize ys.take 100 = bx at Hvb hyl
      obtain ⟨SA, hSA, hlA⟩ : ∃ S, sealB ax = S ∧ S.length = 8 + ax.length := ⟨_, rfl, seal_len (by omega)⟩
      obtain ⟨SB, hSB, hlB⟩ : ∃ S, sealB bx = S ∧ S.length = 8 + bx.length := ⟨_, rfl, seal_len (by omega)⟩
      have hcs := fun (k : Nat) (hk : k < 8 + bx.length) => cut_scan (xs := ax) (ys := bx) (by omega) (by omega) hk
      have hco := fun (k : Nat) (hk : k < 8 + bx.length) => cut_open (xs := bx) (by omega) hk
      rw [hSA, hSB, ← hlA, ← hlB] at hcs
      rw [hSB, ← hlB] at hco
      have Hcs := Lib.hid hcs
      have Hco := Lib.hid hco
      have HSA := Lib.hid hSA
      have HSB := Lib.hid hSB
      have hlA1 : SA.length ≤ 108 := by omega
      have hlA2 : 0 < SA.length := by omega
      have hlB1 : SB.length ≤ 108 := by omega
      have hlB2 : 0 < SB.length := by omega
      clear hcs hco hSA hSB hlA hlB
      go_wp2_with fail
      refine (seal_new _ _ _ ax Hva.out (by omega)).mono ?_
      rintro e w2 ⟨va, rfl, hn2⟩
      rw [HSA.out] at hn2
      have hb2 := below_then' hb1 hb1.size hn2.2.2.2
      have hra := hn2.rd.any
      have Hva2 := Lib.hid (Hva.out.below hn2.2.2.2)
      have Hvb2 := Lib.hid (Hvb.out.below hn2.2.2.2)
      go_wp2_with fail
      refine (seal_new _ _ _ bx Hvb2.out (by omega)).mono ?_
      rintro e w3 ⟨vb, rfl, hn3⟩
      rw [HSB.out] at hn3
      have hb3 := below_then' hb2 hb2.size hn3.2.2.2
      have hra3 := hra.below hn3.2.2.2
      have hrb3 := hn3.rd.any
      have Hva3 := Lib.hid (Hva2.out.below hn3.2.2.2)
      obtain ⟨gA, capA, rfl, _, _⟩ := hn2.1.form hlA2
      obtain ⟨gB, capB, rfl, _, _⟩ := hn3.1.form hlB2
      have hcapB := hn3.rd.1.1.2.2.2
      have hkB : SB.length ≤ capB ∧ capB ≤ 9223372036854775807 := by
        rcases hcapB with ⟨h, _⟩ | ⟨a, c2, h, h1, h2, _⟩
        · cases h
        · simp at h; obtain ⟨_, rfl⟩ := h; exact ⟨h1, by simpa [maxLen] using h2⟩
      clear hcapB hn2 hn3
      by_cases hq : c < 0
      · have d1 : decide (c < 0) = true := by simpa using hq
        go_wp2
        go_ret
        exact ⟨rfl, hb3⟩
      · have d1 : decide (c < 0) = false := by simpa using hq
        obtain ⟨k, rfl⟩ := Int.eq_ofNat_of_zero_le (show 0 ≤ c by omega)
        clear hq
        by_cases hq : SB.length ≤ k
        · have d2 : decide ((SB.length : Int) ≤ (k : Int)) = true := by simp; omega
          go_wp2
          go_ret
          exact ⟨rfl, hb3⟩
        · have d2 : decide ((SB.length : Int) ≤ (k : Int)) = false := by simp; omega
          have Hc1 := Lib.hid (Hcs.out k (by omega))
          have Hc2 := Lib.hid (Hco.out k (by omega))
          have hlt : k < SB.length := by omega
          have htk : (SB.take k).length = k := by simp; omega
          have hfr := (hrb3.front (i := k) (by omega)).1
          have Hlen : Hid ((SA ++ SB.take k).length ≤ 1000000) := by show _ ≤ _; simp; omega
          have HBy : Hid (Bytes (SA ++ SB.take k)) := hra3.1.2.app hfr.2
          generalize SB.take k = T at htk hfr Hc1 Hc2 Hlen HBy
          have HT := Lib.hid htk
          clear htk hq Hcs Hco
          have q1 : (0 : Int) ≤ (k : Int) := by omega
          have q2 : (k : Int) ≤ (capB : Int) := by omega
          go_wp2_with fail
          have hraD : RdB w3.drew (fun _ => True) _ SA := hra3
          have hfrD : RdL w3.drew (fun _ => True) _ T := hfr
          have HraD := Lib.hid hraD
          have HfrD := Lib.hid hfrD
          have hTl : SA.length + T.length ≤ 1000000 := by have := HT.out; omega
          clear hraD hfrD hra3 hfr
          go_region_law (first | (refine step_pushs rfl _ _ 22 5 rfl Try.underlying22 Try.infoU8 rfl (by omega) w3.heap.size _ _ _ rfl (World.ownsRow_nil _ _ _ _) (Nat.le_refl _) _ _ _ rfl HraD.out.1.1 (u8s_oneCell _) (by omega) ?_; intro A4 cap4 w4 hown4 hgrow4 hat4; have hb4 : Below w3.heap.size w3.drew w4 := (Below.refl _ _).grown hgrow4 (Nat.le_refl _) (fun k hk => by cases hk); simp only [Nat.zero_add, List.nil_append] at hown4) | (refine step_pushs rfl _ _ 22 5 rfl Try.underlying22 Try.infoU8 rfl (by omega) w3.heap.size _ _ _ rfl hown4 hb4.size _ _ _ rfl (HfrD.out.below hb4).1 (u8s_oneCell _) (by omega) ?_; intro A5 cap5 w5 hown5 hgrow5 hat5; have hb5 : Below w3.heap.size w3.drew w5 := hb4.grown hgrow5 hb4.size (fun k hk => (hown4.lt k hk).1)) | (go_simp; go_at_call 20; refine (scan_calls _ _ _ (SA ++ T) (RdB.of_owns (by simpa [u8s_append] using hown5) (by omega) HBy.out _ fun _ _ _ => trivial) Hlen.out).mono ?_; rintro e w6 ⟨v6, rfl, hL6, hb6⟩; rw [Hc1.out] at hL6; rw [Hc1.out]; dsimp only))
          have hb36 : Below w3.heap.size w3 w6 := below_then' (below_undrew1 hb5) hb5.size hb6
          have hT6 := HfrD.out.below (show Below w3.drew.heap.size w3.drew w6 from ⟨hb36.os, hb36.tape, hb36.output, hb36.size, hb36.block⟩)
          have hA6 := Hva3.out.below hb36
          have hall6 := below_then' hb3 hb3.size hb36
          clear hown4 hown5 hgrow4 hgrow5 hat4 hat5 hb4 hb5
          obtain ⟨b6, o6, cap6, c6, rfl, hc6, hz6⟩ := hL6.get (i := 0) (by simp)
          rw [Nat.add_zero] at hc6
          have hz6' : RdL w6 (fun _ => True) c6 ax := hz6
          clear hz6 hL6
          have hF := open_calls w6 _ _ T hT6
          rw [Hc2.out] at hF
          go_wp2_with fail
          refine hF.mono ?_
          rintro e w7 ⟨v7, rfl, hn7⟩
          rw [Option.isSome_none]
          rw [Option.getD_none] at hn7
          have hb7 := hn7.2.2.2
          obtain ⟨sA, hsA⟩ : ∃ s, strOfNums ax = s := ⟨_, rfl⟩
          have hk1 := fun n => conv_drewN (P := Try.prog) (hz6'.below hb7) n hsA Try.underlying22 Try.underlying5 Try.underlying9
          have hk2 := fun n => conv_drewN (P := Try.prog) (hA6.below hb7) n hsA Try.underlying22 Try.underlying5 Try.underlying9
          have hc7 := (World.cell?_of_block (a := ⟨b6, o6, none⟩) (hb7.block b6 (by have := World.block_lt_of_cell? w6 _ hc6; simpa using this))).trans hc6
          have hall7 := below_then' hall6 hall6.size hb7
          clear hsA hF hn7 hc6 hz6' hA6 hT6
          go_wp2_with fail
          go_quiet (fail)
          go_wp2
          go_ret
          exact ⟨rfl, below_drewN' hall7 _⟩
end Go.Proofs.Yteodbcgfmfkdmaa
