/- The statement FrameScan of layer 2: any bytes, taken as seals. -/
import Derived.Test.YteodbcgfmfkdmaaFrameX
import Derived.Test.YteodbcgfmfkdmaaFrameL2
import Derived.Test.YteodbcgfmfkdmaaOpen
import Derived.Deep.RegionWith
import Derived.Deep.DeepCutAuto
import Derived.Deep.CutBlock
namespace Go.Proofs.Yteodbcgfmfkdmaa
open Go.RowKit

/-- An argument that is a slice of slices of bytes. -/
theorem openL_LL {H : Type} {enc : TypeId × Value → H} {W : World} {fuel : Nat} {v : Value} {x : DataW H × List MemPlace}
    (h : DataW.trod enc Try.prog W 0 (fun _ => true) true fuel 31 [v] = some x) (hw : ∀ n ∈ x.1.weights Try.prog 31, n ≤ reachBytes) : ∃ xss, RdLL W (fun _ => True) v xss := by
  obtain ⟨css, hr, _, hel⟩ := openL_slice Try.underlying31 (show Try.prog.cellsOf 22 = 1 by kernel_rfl) (by omega) (of_decide_eq_true (by kernel_rfl)) h hw
  have key : ∀ css : List (List Value), (∀ c ∈ css, ∃ q xs, c = [q] ∧ RdL W (fun _ => True) q xs) → ∃ xss : List (List Int), xss.length = css.length ∧ css.flatten.length = css.length ∧ ∀ i, i < css.length → RdL W (fun _ => True) (css.flatten.getD i default) (xss.getD i []) := by
    intro css
    induction css with
    | nil => intro _; exact ⟨[], rfl, rfl, by simp⟩
    | cons c css ih =>
      intro h
      obtain ⟨q, xs, rfl, hq⟩ := h c (by simp)
      obtain ⟨xss, h1, h2, h3⟩ := ih fun c hc => h c (by simp [hc])
      refine ⟨xs :: xss, by simp [h1], by simp only [List.flatten_cons, List.length_append, h2, List.length_cons, List.length_nil]; omega, fun i hi => ?_⟩
      cases i with
      | zero => simpa using hq
      | succ i =>
        have := h3 i (by simp at hi; omega)
        simpa using this
  obtain ⟨xss, h1, h2, h3⟩ := key css fun c hc => by
    obtain ⟨hl, m, y, hy, hyw⟩ := hel c hc
    match c, hl with
    | [q], _ =>
      obtain ⟨xs, hxs⟩ := openL_bytes Try.underlying22 Try.underlying5 (by kernel_rfl) (of_decide_eq_true (by kernel_rfl)) hy hyw
      exact ⟨q, xs, rfl, hxs⟩
  exact ⟨xss, css.flatten, by rw [h1]; exact hr, fun i hi => h3 i (by omega)⟩

/-- The one seal and the seals. -/
theorem open_scan (xs : List Int) : (openB xs = none ∧ ¬((scan xs).1.length = 1 ∧ (scan xs).2 = xs.length)) ∨ ∃ x, openB xs = some x ∧ scan xs = ([x], xs.length) := by
  cases hf : firstB xs with
  | none => exact .inl ⟨by simp [openB, hf], by rw [scan_none hf]; simp⟩
  | some x =>
    have hl := firstB_len hf
    have hs := scan_some hf
    by_cases he : xs.length = 8 + x.length
    · refine .inr ⟨x, by simp [openB, hf, he], ?_⟩
      rw [hs, List.drop_of_length_le (by omega), scan_none rfl]
      simp [he]
    · refine .inl ⟨by simp [openB, hf, he], ?_⟩
      rw [hs]
      intro ⟨h1, h2⟩
      have h3 : (scan (xs.drop (8 + x.length))).1 = [] := by
        simp only [List.length_cons] at h1
        exact List.eq_nil_of_length_eq_zero (by omega)
      cases hg : firstB (xs.drop (8 + x.length)) with
      | none => rw [scan_none hg] at h2; simp at h2; omega
      | some z => rw [scan_some hg] at h3; simp at h3

set_option maxHeartbeats 4000000 in
set_option maxRecDepth 100000 in
theorem framescan_calls (w : World) (v : Value) (xss : List (List Int)) (at0 x : Int) (vr : Value) (rest : List Int) (hv : RdLL w (fun _ => True) v xss) (hat0 : (Lit.int .i64 at0).wf = true) (hx0 : (Lit.int .u8 x).wf = true) (hr : RdL w (fun _ => True) vr rest) :
    Calls Try.prog 5 #[v, .int .i64 at0, .int .u8 x, vr] w fun e w' => e = .returned (.bool true) ∧ Below w.heap.size w w' := by
  have hat := wf64 hat0
  have hx : 0 ≤ x ∧ x ≤ 255 := by simp [Lit.wf, IntKind.min, IntKind.max, IntKind.signed, IntKind.bits] at hx0; omega
  clear hat0 hx0
  obtain ⟨Av, capv, rfl, hcv1, hcv2⟩ := hv.slice
  have hvl : xss.length ≤ 140737488355328 := by obtain ⟨cs, h, _⟩ := hv; exact h.2.2.1
  go_enter Try.func5, Try.ntmps5
  go_wp2_with fail
  refine (begun2_calls _).mono ?_
  rintro e w1 ⟨rfl, hb1⟩
  go_upto_block 0 with fail
  go_cut [10] (fun l wr => ∃ (zs : List Int) (A : Option Addr) (cap : Nat), l = .slice A zs.length cap ∧ zs.length ≤ 340 ∧ wr.ownsRow w.heap.size 5 1 l zs.length (u8s zs) ∧ Below w.heap.size w wr ∧ Hid (Bytes zs))
  case first =>
    go_wp2_with fail
    go_loopw [10, 11] (fun l a wr => ∃ (i : Nat) (zs : List Int), a = .int .i64 i ∧ i ≤ 5 ∧ zs.length ≤ 68 * i ∧ wr.ownsRow w.heap.size 5 1 l zs.length (u8s zs) ∧ Below w.heap.size w wr ∧ Hid (Bytes zs)) (fun _ a _ => 5 - (intOf a).toNat)
    case atStart => exact ⟨0, [], rfl, by omega, by simp, World.ownsRow_nil _ _ _ _, hb1, Lib.hid Bytes.nil⟩
    case round =>
      obtain ⟨i, zs, rfl, hi, hzl, hown, hb, HB⟩ := hrel
      obtain ⟨Ae, cape, rfl⟩ := own_slice' hown
      by_cases hc : i < xss.length ∧ i < 5
      · obtain ⟨hc1, hc2⟩ := hc
        obtain ⟨bq, oq, capq, cq, he, hcell, hq⟩ := (hv.below hb).get hc1
        simp at he
        obtain ⟨rfl, rfl⟩ := he
        generalize xss.getD i [] = ys at hq
        have hyl : (ys.take 60).length ≤ 60 := by simp; omega
        go_wp2_with fail
        refine (short_calls wr _ _ ys 60 hq (by omega)).mono ?_
        rintro e _ ⟨y, rfl, hy, rfl⟩
        generalize ys.take 60 = y2 at hy hyl
        clear hcell hq
        go_wp2_with fail
        refine (rseal_new wr _ _ y2 hy (by omega)).mono ?_
        rintro e w2 ⟨v2, rfl, hn2⟩
        have hsl := seal_len (xs := y2) (by omega)
        have Hsb := Lib.hid (seal_bytes hy.2)
        generalize sealB y2 = s2 at hn2 hsl Hsb
        have hsl2 : s2.length ≤ 68 := by omega
        clear hsl
        have hr2 := hn2.rd
        have hb2 := below_then' hb hb.size hn2.2.2.2
        have hown2 := owns_keeps hown fun g hg => hn2.2.2.2.block g (hown.lt g hg).2
        obtain ⟨A2, cap2, rfl⟩ := own_slice' hn2.1
        go_wp2_with (at_builtin; refine pushs rfl _ _ 22 5 rfl Try.underlying22 Try.infoU8 rfl (by omega) w.heap.size _ _ _ rfl hown2 hb2.size _ _ _ rfl hr2.1.1 (u8s_oneCell _) (by omega) ?_)
        intro A3 cap3 w3 hown3 hgrow3 hat3
        have hb3 := own_below hb2 hown2 hgrow3
        rw [← u8s_append] at hown3
        go_wp2
        go_roundw
        case rel => exact ⟨i + 1, zs ++ s2, by go_num, by omega, by simp; omega, by simpa using hown3, hb3, Lib.hid (HB.out.app Hsb.out)⟩
        case measure => simp [intOf]; omega
      · have hz5 : zs.length ≤ 340 := by omega
        clear hi hzl
        go_wp2
        all_goals
          go_meet
          exact ⟨zs, _, _, rfl, hz5, hown, hb, HB⟩
  case rest =>
    obtain ⟨zs, Ae, cape, rfl, hz5, hown, hb, HB⟩ := hcut
    clear hv hcv1 hcv2 hvl hb1
    go_wp2_with fail
    refine (short_calls wc _ _ rest 30 (hr.below hb) (by omega)).mono ?_
    rintro e _ ⟨y, rfl, hy, rfl⟩
    have hyl : (rest.take 30).length ≤ 30 := by simp; omega
    generalize rest.take 30 = ys at hy hyl
    have HBy := Lib.hid hy.2
    go_wp2_with (at_builtin; refine pushs rfl _ _ 22 5 rfl Try.underlying22 Try.infoU8 rfl (by omega) w.heap.size _ _ _ rfl hown hb.size _ _ _ rfl hy.1 (u8s_oneCell _) (by omega) ?_)
    intro A3 cap3 w3 hown3 hgrow3 hat3
    have hb3 := own_below hb hown hgrow3
    rw [← u8s_append] at hown3
    rw [← List.length_append] at hown3 ⊢
    have HB3 := Lib.hid (HB.out.app HBy.out)
    have hl3 : (zs ++ ys).length ≤ 370 := by simp; omega
    generalize zs ++ ys = xs at hown3 HB3 hl3
    clear hown hb hgrow3 hat3 hy hz5 hyl HB HBy
    go_upto_region 10 with fail
    go_cut [51] (fun c wx => ∃ B : Bool, c = .bool B ∧ (B = true → 0 < xs.length ∧ 0 ≤ at0) ∧ wx = w3)
    case first =>
      by_cases hc1 : 0 < xs.length
      · by_cases hc2 : 0 ≤ at0
        · go_wp2_with fail
          go_meet
          exact ⟨true, by simp, fun _ => ⟨hc1, hc2⟩, rfl⟩
        · go_wp2_with fail
          go_meet
          exact ⟨false, by simp, (fun h => by cases h), rfl⟩
      · go_wp2_with fail
        go_meet
        exact ⟨false, by simp, (fun h => by cases h), rfl⟩
    case rest =>
    obtain ⟨B, rfl, hBc, rfl⟩ := hcut
    go_upto_if 51 with fail
    go_cut [10] (fun l wz => ∃ (zs : List Int) (A : Option Addr) (cap : Nat), l = .slice A zs.length cap ∧ zs.length ≤ 370 ∧ Hid (RdB wz (fun _ => True) l zs) ∧ Hid (Below w.heap.size w wz))
    case first =>
      cases B with
      | false =>
        go_wp2_with fail
        go_meet
        exact ⟨xs, _, _, rfl, hl3, Lib.hid (RdB.of_owns hown3 (by omega) HB3.out _ fun _ _ _ => trivial), Lib.hid hb3⟩
      | true =>
        obtain ⟨hc1, hc2⟩ := hBc rfl
        clear hBc
        obtain ⟨a, rfl⟩ := Int.eq_ofNat_of_zero_le hc2
        have hk : a % xs.length < xs.length := Nat.mod_lt _ hc1
        have hmod1 : (a : Int) % (xs.length : Int) = ((a % xs.length : Nat) : Int) := by omega
        have hmod2 : (a : Int).tmod (xs.length : Int) = ((a % xs.length : Nat) : Int) := by rw [Int.tmod_eq_emod_of_nonneg (by omega)]; omega
        have hx00 : ((xs.length : Int) == 0) = false := by simp only [beq_eq_false_iff_ne]; omega
        generalize a % xs.length = k at hk hmod1 hmod2
        have hr0 := HB3.out.at k
        obtain ⟨dd, hdd, hd0, hd1⟩ : ∃ d, bits .xor .u8 (xs.getD k 0) x = d ∧ 0 ≤ d ∧ d ≤ 255 := by
          refine ⟨_, rfl, ?_⟩
          rw [u8_xor _ x hr0.1 (by omega) hx.1 (by omega)]
          have h1 : (xs.getD k 0).toNat ^^^ x.toNat < 2 ^ 8 := Nat.xor_lt_two_pow (by omega) (by omega)
          omega
        obtain ⟨g, cap2, he, hg1, hg2⟩ := hown3.form (by omega)
        simp at he
        obtain ⟨rfl, rfl⟩ := he
        have hcell := hown3.cellAt k (by omega)
        rw [u8s_get _ _ hk] at hcell
        have hfz := hown3.frozenAt k
        have hst := hown3.stored k (.int .u8 dd)
        rw [u8s_set] at hst
        have hw3 := hb3.grown hst.2 hb3.size (fun k hk => by simp at hk; omega)
        generalize xs.getD k 0 = c at hcell hdd hr0
        have hr3 : RdB _ (fun _ => True) _ (xs.set k dd) := RdB.of_owns (by simpa using hst.1) (by omega) (bytes_set HB3.out hd0 hd1) _ fun _ _ _ => trivial
        have Hr3 := Lib.hid hr3
        have Hw3 := Lib.hid hw3
        clear hr3 hw3 hst
        go_wp2_with fail
        go_meet
        exact ⟨xs.set k dd, some ⟨g, 0, none⟩, cap3, by rw [List.length_set], by simpa using hl3, Hr3, Hw3⟩
    case rest =>
    obtain ⟨zs, Az, capz, rfl, hl3', Hr3, Hw3⟩ := hcut
    clear hown3 hb3 HB3 hBc hx hl3 hat
    go_wp2_with fail
    refine (scan_calls _ _ _ zs Hr3.out (by omega)).mono ?_
    rintro e w4 ⟨v4, rfl, hL4, hb4⟩
    have hr4 := Hr3.out.below hb4
    have hb4' := below_then' Hw3.out Hw3.out.size hb4
    obtain ⟨⟨rl, rn⟩, hrr⟩ : ∃ r, scan zs = r := ⟨_, rfl⟩
    rw [hrr] at hL4 ⊢
    simp only at hL4
    obtain ⟨A4, cap4, rfl, _, _⟩ := hL4.slice
    have Hrr := Lib.hid hrr
    clear hrr hb4 Hw3 Hr3
    dsimp only
    go_wp2_with fail
    refine (rscan_calls w4 _ _ zs hr4 (by omega)).mono ?_
    rintro e w5 ⟨v5, rfl, hL5, hb5⟩
    rw [Hrr.out] at hL5 ⊢
    simp only at hL5
    obtain ⟨A5, cap5, rfl, _, _⟩ := hL5.slice
    have hr5 := hr4.below hb5
    have hL45 := hL4.below hb5
    have hb5' := below_then' hb4' hb4'.size hb5
    clear hb5 hL4 hr4 hb4'
    have hF := open_calls w5 _ _ zs hr5.1
    dsimp only
    go_wp2_with fail
    rcases open_scan zs with ⟨ho, hno⟩ | ⟨z, ho, hsc⟩
    · rw [ho] at hF
      refine hF.mono ?_
      rintro e w6 ⟨v6, rfl, hn6⟩
      rw [Option.isSome_none]
      rw [Option.getD_none] at hn6
      rw [Hrr.out] at hno
      simp only at hno
      have hL56 := hL5.below hn6.2.2.2
      have hL46 := hL45.below hn6.2.2.2
      have hb6 := below_then' hb5' hb5'.size hn6.2.2.2
      obtain ⟨A6, cap6, rfl⟩ := own_slice' hn6.1
      clear hF hn6 hL5 hL45 hb5' hr5 Hrr
      go_upto_region 15 with fail
      go_cut [18] (fun c wx => c = .bool false ∧ wx = w6)
      case first =>
        by_cases h1 : rl.length = 1
        · have h2 : ¬ rn = zs.length := fun h => hno ⟨h1, h⟩
          go_wp2_with fail
          go_meet
          exact ⟨congrArg Value.bool (by simp only [beq_eq_false_iff_ne]; omega), rfl⟩
        · go_wp2_with fail
          go_meet
          exact ⟨rfl, rfl⟩
      case rest =>
      obtain ⟨rfl, rfl⟩ := hcut
      go_wp2_with fail
      go_quiet (fail)
      go_wp2_with fail
      go_loopw [19] (fun i wr => ∃ j : Nat, i = .int .i64 j ∧ j ≤ rl.length ∧ RdLL wr (fun _ => True) (.slice A4 rl.length cap4) rl ∧ RdLL wr (fun _ => True) (.slice A5 rl.length cap5) rl ∧ Below w.heap.size w wr) (fun i _ => rl.length - (intOf i).toNat)
      case atStart => exact ⟨0, rfl, by omega, hL46, hL56, below_drewN' hb6 _⟩
      case round =>
        obtain ⟨j, rfl, hj, hLa, hLb, hbr⟩ := hrel
        have hrll : rl.length ≤ 140737488355328 := by obtain ⟨cs, h, _⟩ := hLa; exact h.2.2.1
        by_cases hjl : j < rl.length
        · obtain ⟨ba, oa, capa, ca, hea, hca, hza⟩ := hLa.get hjl
          obtain ⟨bb, ob, capb, cb, heb, hcb, hzb⟩ := hLb.get hjl
          simp at hea heb
          obtain ⟨rfl, rfl⟩ := hea
          obtain ⟨rfl, rfl⟩ := heb
          obtain ⟨sJ, hsJ⟩ : ∃ s, strOfNums (rl.getD j []) = s := ⟨_, rfl⟩
          have hka := fun n => conv_drewN (P := Try.prog) hza n hsJ Try.underlying22 Try.underlying5 Try.underlying9
          have hkb := fun n => conv_drewN (P := Try.prog) hzb n hsJ Try.underlying22 Try.underlying5 Try.underlying9
          clear hza hzb hsJ
          go_wp2_with fail
          go_quiet (fail)
          go_wp2
          go_roundw
          case rel => exact ⟨j + 1, by go_num, by omega, hLa, hLb, below_drewN' hbr _⟩
          case measure => simp [intOf]; omega
        · go_wp2
          go_ret
          exact ⟨rfl, hbr⟩
    · rw [ho] at hF
      refine hF.mono ?_
      rintro e w6 ⟨v6, rfl, hn6⟩
      rw [Option.isSome_some]
      rw [Option.getD_some] at hn6
      rw [Hrr.out] at hsc
      obtain ⟨hrl, hrn⟩ := Prod.mk.inj hsc
      have Hrl := Lib.hid hrl
      subst hrn
      have hL56 := hL5.below hn6.2.2.2
      have hL46 := hL45.below hn6.2.2.2
      have hb6 := below_then' hb5' hb5'.size hn6.2.2.2
      have hr6 := hn6.rd
      obtain ⟨A6, cap6, rfl⟩ := own_slice' hn6.1
      have hl1 : rl.length = 1 := by rw [hrl]; rfl
      obtain ⟨b5, o5, cap5, c5, he5, hc5, hz5⟩ := hL56.get (i := 0) (by omega)
      simp at he5
      obtain ⟨rfl, rfl⟩ := he5
      rw [Nat.add_zero] at hc5
      rw [Hrl.out, show [z].getD 0 [] = z from rfl] at hz5
      obtain ⟨sZ, hsZ⟩ : ∃ s, strOfNums z = s := ⟨_, rfl⟩
      have hk1 := fun n => conv_drewN (P := Try.prog) hz5 n hsZ Try.underlying22 Try.underlying5 Try.underlying9
      have hk2 := fun n => conv_drewN (P := Try.prog) hr6.1 n hsZ Try.underlying22 Try.underlying5 Try.underlying9
      have H1 := Lib.hid hl1
      clear hF hn6 hL5 hL45 hb5' hr5 Hrr hrl hl1 hsc hsZ
      go_upto_region 15 with fail
      go_cut [18] (fun c wx => c = .bool true ∧ wx = w6)
      case first =>
        have h1 : rl.length = 1 := H1.out
        go_wp2_with fail
        go_meet
        exact ⟨rfl, rfl⟩
      case rest =>
      obtain ⟨rfl, rfl⟩ := hcut
      have h0 : (0 : Int) < (rl.length : Int) := by have := H1.out; omega
      go_wp2_with fail
      go_quiet (fail)
      go_wp2_with fail
      go_loopw [19] (fun i wr => ∃ j : Nat, i = .int .i64 j ∧ j ≤ rl.length ∧ RdLL wr (fun _ => True) (.slice A4 rl.length cap4) rl ∧ RdLL wr (fun _ => True) (.slice (some ⟨b5, o5, none⟩) rl.length cap5) rl ∧ Below w.heap.size w wr) (fun i _ => rl.length - (intOf i).toNat)
      case atStart => exact ⟨0, rfl, by omega, hL46, hL56, below_drewN' hb6 _⟩
      case round =>
        obtain ⟨j, rfl, hj, hLa, hLb, hbr⟩ := hrel
        have hrll : rl.length ≤ 140737488355328 := by obtain ⟨cs, h, _⟩ := hLa; exact h.2.2.1
        by_cases hjl : j < rl.length
        · obtain ⟨ba, oa, capa, ca, hea, hca, hza⟩ := hLa.get hjl
          obtain ⟨bb, ob, capb, cb, heb, hcb, hzb⟩ := hLb.get hjl
          simp at hea heb
          obtain ⟨rfl, rfl⟩ := hea
          obtain ⟨⟨rfl, rfl⟩, rfl⟩ := heb
          obtain ⟨sJ, hsJ⟩ : ∃ s, strOfNums (rl.getD j []) = s := ⟨_, rfl⟩
          have hka := fun n => conv_drewN (P := Try.prog) hza n hsJ Try.underlying22 Try.underlying5 Try.underlying9
          have hkb := fun n => conv_drewN (P := Try.prog) hzb n hsJ Try.underlying22 Try.underlying5 Try.underlying9
          clear hza hzb hsJ
          go_wp2_with fail
          go_quiet (fail)
          go_wp2
          go_roundw
          case rel => exact ⟨j + 1, by go_num, by omega, hLa, hLb, below_drewN' hbr _⟩
          case measure => simp [intOf]; omega
        · go_wp2
          go_ret
          exact ⟨rfl, hbr⟩
end Go.Proofs.Yteodbcgfmfkdmaa
