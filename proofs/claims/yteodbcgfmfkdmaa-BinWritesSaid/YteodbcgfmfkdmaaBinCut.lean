/- Numbers one behind the other, cut short: plain, and the walk of delphilaw1.BinCut. -/
import Derived.Test.YteodbcgfmfkdmaaBinTight
import Derived.Test.YteodbcgfmfkdmaaOpen
namespace Go.Proofs.Yteodbcgfmfkdmaa
open Go.RowKit

/-- Numbers, one behind the other. -/
def catB : List Int → List Int
  | [] => []
  | n :: r => numB n ++ catB r
theorem catB_app (l r : List Int) : catB (l ++ r) = catB l ++ catB r := by
  induction l with
  | nil => rfl
  | cons n l ih => simp [catB, ih]
theorem catB_bytes (l : List Int) : Bytes (catB l) := by
  induction l with
  | nil => exact Bytes.nil
  | cons n l ih => exact (numB_bytes n).app ih
def InI64 (n : Int) : Prop := -9223372036854775808 ≤ n ∧ n < 9223372036854775808
theorem catB_len {l : List Int} (h : ∀ n ∈ l, InI64 n) : (catB l).length ≤ 10 * l.length := by
  induction l with
  | nil => simp [catB]
  | cons n l ih =>
    have h1 := ih fun x hx => h x (by simp [hx])
    have h2 := h n (by simp)
    have h3 := numB_len h2.1 h2.2
    simp [catB]; omega
theorem take_succ_getD {l : List Int} {i : Nat} (h : i < l.length) : l.take (i + 1) = l.take i ++ [l.getD i 0] := by
  rw [List.take_succ_eq_append_getElem h]; simp [List.getD, h]
theorem catB_step {l : List Int} {i : Nat} (h : i < l.length) : catB (l.take (i + 1)) = catB (l.take i) ++ numB (l.getD i 0) := by
  rw [take_succ_getD h, catB_app]; simp [catB]
theorem catB_split (l : List Int) (i : Nat) : catB l = catB (l.take i) ++ catB (l.drop i) := by
  rw [← catB_app, List.take_append_drop]
/-- Where the i-th ends. -/
def endAt (l : List Int) (i : Nat) : Nat := (catB (l.take (i + 1))).length
def ends (l : List Int) (j : Nat) : List Int := (List.range j).map fun i => (endAt l i : Int)
theorem ends_succ (l : List Int) (j : Nat) : ends l (j + 1) = ends l j ++ [(endAt l j : Int)] := by simp [ends, List.range_succ]
theorem ends_len (l : List Int) (j : Nat) : (ends l j).length = j := by simp [ends]
theorem ends_get (l : List Int) (j i : Nat) (h : i < j) : (ends l j).getD i 0 = (endAt l i : Int) := by simp [ends, List.getD, h]
theorem numB_short {n : Int} {k : Nat} (hk : k < (numB n).length) (h10 : (numB n).length ≤ 10) : rdU 0 0 ((numB n).take k) = none := by
  obtain ⟨h1, _⟩ := numB_goes n
  refine rdU_none (p := k) (by omega) (by simp; omega) (fun j hj => ?_) (.inr (by simp; omega))
  have : ((numB n).take k).getD j 0 = (numB n).getD j 0 := by simp [List.getD, hj]
  rw [this]
  exact h1 j (by omega)
/-- What is left behind i numbers, and whether it failed. -/
def cutLeft (l : List Int) (cut i : Nat) : List Int := if (catB (l.take i)).length ≤ cut then (catB (l.drop i)).take (cut - (catB (l.take i)).length) else []
def cutBad (l : List Int) (cut i : Nat) : Bool := !decide ((catB (l.take i)).length ≤ cut)
theorem cut_start (l : List Int) (cut : Nat) : cutLeft l cut 0 = (catB l).take cut ∧ cutBad l cut 0 = false := by simp [cutLeft, cutBad, catB]
theorem cut_step {l : List Int} {cut i : Nat} (hi : i < l.length) (hl : ∀ n ∈ l, InI64 n) :
    rRest (cutLeft l cut i) = cutLeft l cut (i + 1) ∧ rBad (cutLeft l cut i) (cutBad l cut i) = cutBad l cut (i + 1) ∧
    (endAt l i ≤ cut → rN (cutLeft l cut i) = l.getD i 0 ∧ cutBad l cut (i + 1) = false) ∧ (¬ endAt l i ≤ cut → rN (cutLeft l cut i) = 0 ∧ cutBad l cut (i + 1) = true) := by
  have hstep := catB_step hi
  have hlen : (catB (l.take (i + 1))).length = (catB (l.take i)).length + (numB (l.getD i 0)).length := by rw [hstep]; simp
  have hg : InI64 (l.getD i 0) := by
    have : l.getD i 0 = l[i] := by simp [List.getD, hi]
    rw [this]; exact hl _ (List.getElem_mem hi)
  have hn := numB_len hg.1 hg.2
  have hdrop : catB (l.drop i) = numB (l.getD i 0) ++ catB (l.drop (i + 1)) := by
    rw [List.drop_eq_getElem_cons hi]; simp [catB, List.getD, hi]
  unfold endAt
  generalize l.getD i 0 = x at hstep hlen hg hn hdrop ⊢
  by_cases h0 : (catB (l.take i)).length ≤ cut
  · have hL : cutLeft l cut i = (catB (l.drop i)).take (cut - (catB (l.take i)).length) := by simp [cutLeft, h0]
    have hB : cutBad l cut i = false := by simp [cutBad, h0]
    rw [hL, hB, hdrop]
    by_cases h1 : (catB (l.take (i + 1))).length ≤ cut
    · have ht : (numB x ++ catB (l.drop (i + 1))).take (cut - (catB (l.take i)).length) = numB x ++ (catB (l.drop (i + 1))).take (cut - (catB (l.take (i + 1))).length) := by
        rw [List.take_append, List.take_of_length_le (by omega)]
        congr 2
        omega
      have hr := rnum_numB hg.1 hg.2 ((catB (l.drop (i + 1))).take (cut - (catB (l.take (i + 1))).length))
      rw [ht]
      refine ⟨by simp [rRest, hr, cutLeft, h1], by simp [rBad, hr, cutBad, h1], fun _ => ⟨by simp [rN, hr], by simp [cutBad, h1]⟩, fun h => absurd h1 h⟩
    · have ht : (numB x ++ catB (l.drop (i + 1))).take (cut - (catB (l.take i)).length) = (numB x).take (cut - (catB (l.take i)).length) := by
        rw [List.take_append, show cut - (catB (l.take i)).length - (numB x).length = 0 by omega]; simp
      obtain ⟨r1, r2, r3⟩ := rN_none (numB_short (n := x) (k := cut - (catB (l.take i)).length) (by omega) hn)
      rw [ht]
      exact ⟨by rw [r2]; simp [cutLeft, h1], by rw [r3]; simp [cutBad, h1], fun h => absurd h h1, fun _ => ⟨r1, by simp [cutBad, h1]⟩⟩
  · have h1 : ¬ (catB (l.take (i + 1))).length ≤ cut := by omega
    have hL : cutLeft l cut i = [] := by simp [cutLeft, h0]
    rw [hL]
    refine ⟨by simp [cutLeft, h1]; rfl, by simp [cutBad, h1]; rfl, fun h => absurd h h1, fun _ => ⟨rfl, by simp [cutBad, h1]⟩⟩

theorem RdI.get {k : IntKind} {w : World} {N : Nat → Prop} {v : Value} {xs : List Int} (h : RdI k w N v xs) {i : Nat} (hi : i < xs.length) : ∃ b o cap, v = .slice (some ⟨b, o, none⟩) xs.length cap ∧ N b ∧ b < w.heap.size ∧ w.cell? ⟨b, o + i, none⟩ = some (.int k (xs.getD i 0)) := by
  obtain ⟨b, o, cap, rfl, _, _, h3, h4, h5⟩ := h.1.pos (by omega)
  exact ⟨b, o, cap, rfl, h3, h4, h5 i _ (ints_get k xs i hi)⟩
theorem RdI.ext {k : IntKind} {S : List Nat} {w w' : World} {col col' : Col} {c : Nat} {v : Value} {xs : List Int} (h : RdI k w (In col c) v xs) (hx : Ext S w col w' col') (hc : c ∉ S) : RdI k w' (In col' c) v xs := ⟨h.1.ext hx hc, h.2⟩
theorem RdI.zero {k : IntKind} {w : World} {N : Nat → Prop} {v : Value} {xs : List Int} (h : RdI k w N v xs) : RdI k w (In (fun _ => 0) 0) v xs := ⟨h.1.weaken fun _ _ _ => rfl, h.2⟩
theorem RdL.zero {w : World} {N : Nat → Prop} {v : Value} {xs : List Int} (h : RdL w N v xs) : RdL w (In (fun _ => 0) 0) v xs := h.weaken fun _ _ _ => rfl
theorem wf_i64 {n : Int} (h : (Lit.int .i64 n).wf = true) : InI64 n := by
  simp [Lit.wf, IntKind.min, IntKind.max, IntKind.signed, IntKind.bits] at h
  unfold InI64
  omega
theorem Try.infoI : (Try.prog.info? 3).map (fun i => (i.zero, i.size, i.bytes)) = some (some (.int .i64 0), 1, 8) := by kernel_rfl

set_option maxHeartbeats 400000 in
set_option maxRecDepth 100000 in
theorem bincut_calls (w : World) (v : Value) (ls : List Int) (cut : Int) (hv : RdI .i64 w (fun _ => True) v ls) (hcut : (Lit.int .i64 cut).wf = true) :
    Calls Try.prog 12 #[v, .int .i64 cut] w fun e w' => e = .returned (.bool true) ∧ Below w.heap.size w w' := by
  have hv0 := hv.zero
  obtain ⟨A, cap, rfl, hc1, hc2⟩ := hv.1.slice
  have hll := hv.1.2.2.1
  have Hwf : Hid (∀ n ∈ ls, InI64 n) := fun n hn => wf_i64 (hv.2 n hn)
  have Hx0 : Ext [1, 2] w (fun _ => 0) w (fun _ => 0) := Ext.refl _ _ _
  go_enter Try.func12, Try.ntmps12
  go_wp2_with fail
  refine (begun1_calls _).mono ?_
  rintro e w1 ⟨rfl, hb1⟩
  have hx1 : Ext [1, 2] w (fun _ => 0) w1 (fun _ => 0) := Ext.of_below hb1 fun _ _ => rfl
  have hx2 := hx1.alloc (.cells #[.slice none 0 0] 40) 1
  have hW0 := Wr.new w1 (fun _ => 0) 1
  go_wp2_with fail
  go_loopw [7, 8] (fun es i wr => ∃ (j : Nat) (col1 : Col), i = .int .i64 j ∧ j ≤ ls.length ∧ j ≤ 20 ∧ Wr wr col1 1 w1.heap.size (catB (ls.take j)) ∧ Ow wr col1 2 3 1 es j (ints .i64 (ends ls j)) ∧ Ext [1, 2] w (fun _ => 0) wr col1) (fun _ i _ => 20 - (intOf i).toNat)
  case atStart => exact ⟨0, _, rfl, by omega, by omega, hW0, Ow.nil _ _ _ _ _, hx2⟩
  case round =>
    obtain ⟨j, col1, rfl, hj, hj20, hW, hE, hx⟩ := hrel
    by_cases hc : j < ls.length ∧ j < 20
    · obtain ⟨hc1, hc2⟩ := hc
      obtain ⟨b, o, cap', he, hN, hbl, hci⟩ := (hv0.ext (c := 0) hx (by decide)).get hc1
      simp at he
      obtain ⟨rfl, rfl⟩ := he
      have hn := Hwf.out (ls.getD j 0) (by rw [show ls.getD j 0 = ls[j] by simp [List.getD, hc1]]; exact List.getElem_mem hc1)
      have hlt := catB_len (l := ls.take j) (fun n hn => Hwf.out n (List.mem_of_mem_take hn))
      have hlt2 : (catB (ls.take j)).length ≤ 200 := by simp at hlt; omega
      have hlt3 : (catB (ls.take (j + 1))).length ≤ 210 := by
        have := catB_len (l := ls.take (j + 1)) (fun n hn => Hwf.out n (List.mem_of_mem_take hn))
        simp at this; omega
      have Hst := Lib.hid (catB_step hc1)
      have Hend := Lib.hid (ends_succ ls j)
      clear hlt
      generalize ls.getD j 0 = n at hci hn Hst
      go_wp2_with fail
      refine (num_calls _ col1 1 _ _ n hW (by omega) hn.1 hn.2).mono ?_
      rintro e w3 ⟨rfl, col3, hW3, hx3⟩
      rw [← Hst.out] at hW3
      have hE3 := hE.ext hx3 (by simp)
      go_wp2_with fail
      refine (wbytes_calls _ col3 1 _ _ hW3 (by omega)).mono ?_
      rintro e w4 ⟨v4, rfl, hn4⟩
      have hx4 := Ext.newc (S := [1, 2]) (col := col3) hn4.2.2.2 0
      have hE4 := hE3.ext (Ext.newc (S := []) (col := col3) hn4.2.2.2 0) (by decide)
      obtain ⟨A4, cap4, rfl⟩ := own_slice' hn4.1
      have hE4' := hE4.1
      go_wp2_with (at_builtin; refine push1 rfl _ _ 53 3 rfl Try.underlying53 Try.infoI rfl (by omega) 0 _ _ _ rfl hE4' (by omega) _ rfl rfl (by omega) ?_)
      intro A' cap' w5 hown' hgrow hat
      go_wp2
      obtain ⟨hE5, hx5⟩ := hE4.app1 hgrow hown' hat
      have hW5 := (hW3.ext (Ext.newc (S := []) (col := col3) hn4.2.2.2 0) (by decide)).ext hx5 (by decide)
      go_roundw
      case rel =>
        refine ⟨j + 1, _, by go_num, by omega, by omega, hW5, ?_, ((hx.trans (hx3.mono (by decide))).trans hx4).trans (hx5.mono (by decide))⟩
        rw [Hend.out]
        simpa [ints, endAt] using hE5
      case measure => simp [intOf]; omega
    · have hjm : j = min ls.length 20 := by omega
      have Hjm := Lib.hid hjm
      have hlt := catB_len (l := ls.take j) (fun n hn => Hwf.out n (List.mem_of_mem_take hn))
      have hlt2 : (catB (ls.take j)).length ≤ 200 := by simp at hlt; omega
      have hge : ¬ j < ls.length ∨ ¬ j < 20 := by omega
      clear hjm hlt hc
      obtain ⟨lt, hlt⟩ : ∃ lt, ls.take j = lt := ⟨_, rfl⟩
      rw [hlt] at hW hlt2
      have Hlt := Lib.hid hlt
      clear hlt
      have Hlen : Hid (lt.length = j) := by show _ = _; rw [← Hlt.out]; simp; omega
      have Hwl : Hid (∀ n ∈ lt, InI64 n) := fun n hn => Hwf.out n (by have := Hlt.out; rw [← this] at hn; exact List.mem_of_mem_take hn)
      have Hee : Hid (ends ls j = ends lt j) := by
        show _ = _
        unfold ends endAt
        apply List.map_congr_left
        intro i hi
        have := List.mem_range.1 hi
        rw [← Hlt.out, List.take_take, Nat.min_eq_left (by omega)]
      rw [Hee.out] at hE
      obtain ⟨Ae, cape, rfl⟩ := own_slice' hE.1
      have hj20' := hj20
      go_wp2_with fail
      all_goals
        refine (wbytes_calls _ col1 1 _ _ hW (by omega)).mono ?_
        rintro e w5 ⟨v5, rfl, hn5⟩
        have hx5 := hx.trans (Ext.newc (S := [1, 2]) (col := col1) hn5.2.2.2 0)
        have hE5 := hE.ext (Ext.newc (S := []) (col := col1) hn5.2.2.2 0) (by decide)
        obtain ⟨A5, cap5, rfl, h5c, _⟩ := hn5.rd.slice
        by_cases hout : cut < 0 ∨ (catB lt).length < cut
        · rcases hout with h | h
          · have hd : decide (cut < 0) = true := by simpa using h
            go_wp2
            go_ret
            exact ⟨rfl, hx5.below0 (by decide)⟩
          · have hd : decide (cut < 0) = false := by simp; omega
            go_wp2
            go_ret
            exact ⟨rfl, hx5.below0 (by decide)⟩
        · have hd : decide (cut < 0) = false := by simp; omega
          obtain ⟨c, rfl⟩ : ∃ c : Nat, cut = c := ⟨cut.toNat, by omega⟩
          have hcl : c ≤ (catB lt).length := by omega
          clear hout hcut
          have hfr := (hn5.rd.newc col1 0).1.front hcl
          go_wp2_with fail
          refine (read_calls _ _ _ _ (newcol wr col1 0) 3 hfr).mono ?_
          rintro e w6 ⟨b6, col6, rfl, hR6, hx6⟩
          have hE6 := hE5.ext hx6 (by decide)
          have hx6' := (hx5.mono (T := [1, 2, 3]) (by decide)).trans (hx6.mono (by decide))
          rw [← (cut_start lt c).1, ← (cut_start lt c).2] at hR6
          have Hcl := Lib.hid hcl
          clear hd hcl hfr
          have Hn5 := hn5
          clear hn5
          go_wp2_with fail
          go_loopw [11] (fun i wq => ∃ (i0 : Nat) (colq : Col), i = .int .i64 i0 ∧ i0 ≤ j ∧ Rr wq colq 3 b6 (cutLeft lt c i0) (cutBad lt c i0) ∧ Ow wq colq 2 3 1 _ j (ints .i64 (ends lt j)) ∧ Ext [1, 2, 3] w (fun _ => 0) wq colq) (fun i _ => j - (intOf i).toNat)
          case atStart => exact ⟨0, _, rfl, by omega, hR6, hE6, hx6'⟩
          case round =>
            obtain ⟨i, colq, rfl, hij, hRq, hEq, hxq⟩ := hrel
            by_cases hilt : i < j
            · obtain ⟨g, cape', he, _, hgl⟩ := hEq.1.form (by omega)
              simp at he
              obtain ⟨rfl, rfl⟩ := he
              have hce := hEq.1.cellAt i (by omega)
              rw [ints_get _ _ _ (by rw [ends_len]; exact hilt), ends_get _ _ _ hilt] at hce
              have hil : i < ls.length := by omega
              obtain ⟨bl, ol, capl, hel, hNl, hbl, hcl⟩ := (hv0.ext (c := 0) hxq (by decide)).get hil
              simp at hel
              obtain ⟨rfl, rfl⟩ := hel
              have hlg : ls.getD i 0 = lt.getD i 0 := by rw [← Hlt.out]; simp [List.getD, hilt]
              rw [hlg] at hcl
              obtain ⟨s1, s2, s3, s4⟩ := cut_step (l := lt) (cut := c) (i := i) (by rw [Hlen.out]; exact hilt) Hwl.out
              have hRq2 := hRq
              go_wp2_with fail
              refine (rnum_calls _ colq 3 b6 _ _ (by omega) hRq).mono ?_
              rintro e wr2 ⟨rfl, hR7, hx7⟩
              rw [s1, s2] at hR7
              have hce7 := (hx7.block g hgl (by rw [hEq.2 g rfl]; decide))
              have hbl7 := (hx7.block bl hbl (by rw [show colq bl = 0 from hNl]; decide))
              rw [← World.cell?_of_block (a := ⟨g, i, none⟩) hce7] at hce
              rw [← World.cell?_of_block (a := ⟨bl, ol + i, none⟩) hbl7] at hcl
              have hEq7 := hEq.ext hx7 (by decide)
              have hxq7 := hxq.trans (hx7.mono (by decide))
              by_cases hle : endAt lt i ≤ c
              · obtain ⟨t1, t2⟩ := s3 hle
                rw [t1]
                rw [t2] at hR7
                have Ht := Lib.hid t2
                have d1 : decide ((endAt lt i : Int) ≤ (c : Int)) = true := by simpa using hle
                have d2 : ¬ (c : Int) < (endAt lt i : Int) := by omega
                generalize lt.getD i 0 = nn at hcl
                clear s1 s2 s3 s4 t1 t2 hlg hce7 hbl7
                go_wp2_with (go_at_call 33; refine (rok_calls _ colq 3 b6 _ _ hR7.1).mono ?_; rintro e _ ⟨rfl, rfl⟩)
                go_roundw
                case rel => exact ⟨i + 1, colq, by go_num, by omega, by rw [Ht.out]; exact hR7, hEq7, hxq7⟩
                case measure => simp [intOf]; omega
              · obtain ⟨t1, t2⟩ := s4 hle
                rw [t1]
                rw [t2] at hR7
                have Ht := Lib.hid t2
                have d1 : decide ((endAt lt i : Int) ≤ (c : Int)) = false := by simpa using hle
                have d2 : (c : Int) < (endAt lt i : Int) := by omega
                generalize lt.getD i 0 = nn at hcl
                clear s1 s2 s3 s4 t1 t2 hlg hce7 hbl7 hle
                go_wp2_with (go_at_call 33; refine (rok_calls _ colq 3 b6 _ _ hR7.1).mono ?_; rintro e _ ⟨rfl, rfl⟩)
                go_roundw
                case rel => exact ⟨i + 1, colq, by go_num, by omega, by rw [Ht.out]; exact hR7, hEq7, hxq7⟩
                case measure => simp [intOf]; omega
            · go_wp2
              go_ret
              exact ⟨rfl, hxq.below0 (by decide)⟩
end Go.Proofs.Yteodbcgfmfkdmaa
