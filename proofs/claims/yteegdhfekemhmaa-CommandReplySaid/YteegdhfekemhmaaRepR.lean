/- Package command: replies read. -/
import Derived.Test.YteegdhfekemhmaaRepW
import Derived.Test.YteegdhfekemhmaaReg
import Derived.Deep.RegionHeld3
import Derived.Deep.DeepCutAuto
import Derived.Deep.CutBlock
namespace Go.Proofs.Yteegdhfekemhmaa
open Go.RowKit
set_option linter.unusedSimpArgs false

theorem Try.infoS : (Try.prog.info? 9).map (fun i => (i.zero, i.size, i.bytes)) = some (some (.string ⟨#[]⟩), 1, 16) := by kernel_rfl
theorem Ext.recols {S : List Nat} {w w' : World} {col col' : Col} {c2 : Nat} (h : Ext (c2 :: S) w col w' col') (hf : ∀ k, k < w.heap.size → col k ≠ c2) : Ext S w col w' (Go.Proofs.Yteegdhfekemhmaa.recol col' c2) := by
  refine ⟨h.os, h.tape, h.output, h.size, fun k hk hc => h.block k hk ?_, fun k hk => ?_⟩
  · have := hf k hk
    simp at hc ⊢
    exact ⟨this, hc⟩
  · have h1 := h.col k hk
    have h2 := hf k hk
    unfold Go.Proofs.Yteegdhfekemhmaa.recol
    rw [h1, if_neg h2]
theorem Ext.setNew {S : List Nat} {w w' : World} {col col' : Col} (h : Ext S w col w' col') {p : Addr} (hp : w.heap.size ≤ p.block) (u : Value) : Ext S w col (w'.setCell p u) col' := by
  have hb := (Below.refl w.heap.size w').setCell hp u
  exact ⟨hb.os.trans h.os, hb.tape.trans h.tape, hb.output.trans h.output, Nat.le_trans h.size hb.size, fun k hk hc => (hb.block k hk).trans (h.block k hk hc), h.col⟩
/-- Three colours that no old block has. -/
theorem fresh3 (w : World) (col : Col) (c : Nat) : ∃ c2 c3 c4, c2 ≠ c ∧ c3 ≠ c ∧ c4 ≠ c ∧ c2 ≠ 0 ∧ c3 ≠ 0 ∧ c4 ≠ 0 ∧ c2 ≠ c3 ∧ c2 ≠ c4 ∧ c3 ≠ c4 ∧ ∀ k, k < w.heap.size → col k ≠ c2 ∧ col k ≠ c3 ∧ col k ≠ c4 := by
  have key : ∀ n, ∃ m, ∀ k, k < n → col k < m := by
    intro n
    induction n with
    | zero => exact ⟨0, fun k hk => by omega⟩
    | succ n ih =>
      obtain ⟨m, hm⟩ := ih
      refine ⟨m + col n + 1, fun k hk => ?_⟩
      by_cases h : k = n
      · subst h; omega
      · have := hm k (by omega); omega
  obtain ⟨m, hm⟩ := key w.heap.size
  refine ⟨m + c + 1, m + c + 2, m + c + 3, by omega, by omega, by omega, by omega, by omega, by omega, by omega, by omega, by omega, fun k hk => ?_⟩
  have := hm k hk
  exact ⟨by omega, by omega, by omega⟩
/-- A row that was just made. -/
theorem Rd.lit (w : World) (e : TypeId) (cs : List Value) (hm : cs.length ≤ 140737488355328) (N : Nat → Prop) (hN : N w.heap.size) (fr : Nat × Nat) : Rd (w.alloc (.cells cs.toArray e fr)) N (.slice (some ⟨w.heap.size, 0, none⟩) cs.length cs.length) cs.length 1 cs := by
  refine ⟨by omega, by simp, hm, .inr ⟨⟨w.heap.size, 0, none⟩, _, rfl, Nat.le_refl _, by simp only [maxLen]; omega, fun _ => hN, fun j u hu => ?_⟩⟩
  rw [Addr.add_lit, Nat.zero_add, cell_of_row _ _ _ _ _ _ (heap_alloc_new w _)]
  simpa using hu

/-- What 'GetReply' gives. -/
def GetPost (w : World) (col : Col) (c b : Nat) (xs : List Int) (e : Ending) (w' : World) : Prop :=
  ∃ col' pe pc vr ok, e = .returned (.tuple #[repV pe pc vr, .bool ok]) ∧ Ext [c] w col w' col' ∧
    ((ok = true ∧ PIn xs ∧ pb4 xs = false ∧ pe = pn xs ∧ pc = rF (px1 xs) ∧ RdS w' (In col' 0) vr (pD xs).r ∧ Rr w' col' c b (px4 xs) false) ∨
     (ok = false ∧ ¬ (PIn xs ∧ pb4 xs = false) ∧ pe = 0 ∧ pc = false ∧ vr = .slice none 0 0))

set_option maxHeartbeats 8000000 in
set_option maxRecDepth 100000 in
theorem getreply_calls (w : World) (col : Col) (c b : Nat) (xs : List Int) (hc0 : c ≠ 0) (hR : Rr w col c b xs false) (hl : xs.length ≤ 1000000) :
    Calls Try.prog 102 #[.pointer (some ⟨b, 0, none⟩)] w (GetPost w col c b xs) := by
  obtain ⟨c2, c3, c4, n2, n3, n4, z2, z3, z4, n23, n24, n34, hfr⟩ := fresh3 w col c
  have HPI := Lib.hid (show PIn xs ↔ (0 ≤ pn xs ∧ pn xs ≤ 14 ∧ 0 ≤ pk xs ∧ pk xs ≤ 1000) from Iff.rfl)
  have H1 := Lib.hid (And.intro (show rN xs = pn xs from rfl) (show rRest xs = px1 xs from rfl))
  have H2 := Lib.hid (And.intro (show rFRest (px1 xs) = px2 xs from rfl) (show rFBad (px1 xs) (rBad xs false) = pb2 xs from rfl))
  have H3 := Lib.hid (And.intro (show rN (px2 xs) = pk xs from rfl) (And.intro (show rRest (px2 xs) = px3 xs from rfl) (show rBad (px2 xs) (pb2 xs) = pb3 xs from rfl)))
  have H4 := Lib.hid (And.intro (show tR (pk xs).toNat (px3 xs) = px4 xs from rfl) (And.intro (show tB (pk xs).toNat (px3 xs) (pb3 xs) = pb4 xs from rfl) (show tL (pk xs).toNat (px3 xs) = (pD xs).r from rfl)))
  -- the result's box: colour c4
  have hx0 : Ext [] w col (w.alloc (.cells #[.int .i64 0, .bool false, .slice none 0 0] 72)) (newcol w col c4) := (Ext.refl _ _ _).alloc _ c4
  have hR0 := hR.ext hx0 (by simp) (by simp)
  have hz0 := heap_alloc_new w (.cells [.int .i64 0, .bool false, .slice none 0 0].toArray 72)
  have hcz : newcol w col c4 w.heap.size = c4 := newcol_new (Nat.le_refl _)
  generalize newcol w col c4 = col0 at *
  obtain ⟨w0, hw0⟩ : ∃ W, w.alloc (.cells #[.int .i64 0, .bool false, .slice none 0 0] 72) = W := ⟨_, rfl⟩
  have hw0' : w.alloc (.cells [.int .i64 0, .bool false, .slice none 0 0].toArray 72) = w0 := hw0
  rw [hw0'] at hz0
  rw [hw0] at hx0 hR0
  clear hw0' hR
  go_enter Try.func102, Try.ntmps102
  go_wp2_with fail
  clear hw0
  refine (rnum_calls _ _ c b _ _ hc0 hR0).mono ?_
  rintro e w1 ⟨rfl, hR1, hx1⟩
  rw [H1.out.1]
  rw [H1.out.2] at hR1
  go_wp2_with fail
  refine (rflag_calls _ _ c b _ _ hc0 hR1).mono ?_
  rintro e w2 ⟨rfl, hR2, hx2⟩
  rw [H2.out.1, H2.out.2] at hR2
  generalize hfl : rF (px1 xs) = fl
  have Hfl := Lib.hid hfl
  clear hfl hR1 hR0
  have hx02 := hx1.trans hx2
  -- the reply's box: colour c3
  have hx3 : Ext [] w2 col0 (w2.alloc (.cells #[.int .i64 (pn xs), .bool fl, .slice none 0 0] 72)) (newcol w2 col0 c3) := (Ext.refl _ _ _).alloc _ c3
  have hR3 := hR2.ext hx3 (by simp) (by simp)
  have hp3 := heap_alloc_new w2 (.cells [.int .i64 (pn xs), .bool fl, .slice none 0 0].toArray 72)
  have hcp : newcol w2 col0 c3 w2.heap.size = c3 := newcol_new (Nat.le_refl _)
  have hx03 := hx02.trans (hx3.mono (by simp))
  generalize newcol w2 col0 c3 = col3 at *
  clear hx1 hx2 hx02 hR2
  go_wp2_with fail
  obtain ⟨w3, hw3⟩ : ∃ W, w2.alloc (.cells #[.int .i64 (pn xs), .bool fl, .slice none 0 0] 72) = W := ⟨_, rfl⟩
  have hw3' : w2.alloc (.cells [.int .i64 (pn xs), .bool fl, .slice none 0 0].toArray 72) = w3 := hw3
  rw [hw3'] at hp3
  rw [hw3] at hx3 hR3 hx03 ⊢
  clear hw3 hw3'
  refine (rnum_calls _ _ c b _ _ hc0 hR3).mono ?_
  rintro e w4 ⟨rfl, hR4, hx4⟩
  rw [H3.out.1]
  rw [H3.out.2.1, H3.out.2.2] at hR4
  have hx04 := hx03.trans hx4
  have hp4 := (hx4.block _ (heap_lt hp3) (by rw [hcp]; simpa using n3)).trans hp3
  have hcp4 : col3 w2.heap.size = c3 := hcp
  have hlt2 := heap_lt hp4
  generalize w2.heap.size = B5 at *
  have hz4 := (hx04.block _ (heap_lt hz0) (by rw [hcz]; simpa using n4)).trans hz0
  have hcz4 : col3 w.heap.size = c4 := by rw [hx04.col _ (heap_lt hz0)]; exact hcz
  have hxw4 : Ext [c] w col w4 col3 := (hx0.mono (by simp)).trans hx04
  generalize hBz : w.heap.size = Bz at *
  have HBz := Lib.hid hBz
  generalize hn0 : pn xs = n at *
  have HN := Lib.hid hn0.symm
  clear hn0
  generalize pk xs = k at *
  clear hx3 hx03 hx4 hx04 hR3 hp3 hcp hz0 hcz hx0
  by_cases hP : 0 ≤ n ∧ n ≤ 14 ∧ 0 ≤ k ∧ k ≤ 1000
  case neg =>
    go_upto_region 4 with fail
    go_cut [28] (fun x wz => x = .bool true ∧ wz = w4)
    case first =>
      go_wp2_with fail
      all_goals
        go_meet
        exact ⟨congrArg Value.bool (by first | rfl | (simp; omega)), rfl⟩
    case rest =>
    obtain ⟨rfl, rfl⟩ := hcut
    obtain ⟨k0, e0⟩ := cell_row hz4 (j := 0) rfl
    obtain ⟨k1, e1⟩ := cell_row hz4 (j := 1) rfl
    obtain ⟨k2, e2⟩ := cell_row hz4 (j := 2) rfl
    have hz8 := setCell_row (setCell_row (setCell_row hz4 0 (.int .i64 0)) 1 (.bool false)) 2 (.slice none 0 0)
    have hx8 := ((hxw4.setNew (p := ⟨Bz, 0, none⟩) (Nat.le_of_eq HBz.out) (.int .i64 0)).setNew (p := ⟨Bz, 1, none⟩) (Nat.le_of_eq HBz.out) (.bool false)).setNew (p := ⟨Bz, 2, none⟩) (Nat.le_of_eq HBz.out) (.slice none 0 0)
    obtain ⟨q0, -⟩ := cell_row hz8 (j := 0) (v := (.int .i64 0)) rfl
    obtain ⟨q1, -⟩ := cell_row hz8 (j := 1) (v := (.bool false)) rfl
    obtain ⟨q2, -⟩ := cell_row hz8 (j := 2) (v := (.slice none 0 0)) rfl
    have Hx8 := Lib.hid hx8
    clear hz8 hx8 hz4 hxw4 hp4
    go_wp2
    refine bodyPost_ret (v := .tuple #[.agg #[.int .i64 0, .bool false, .slice none 0 0], .bool false]) (by simp [results, Try.results102, go_sem, q0, q1, q2]) rfl ?_
    exact ⟨_, 0, false, .slice none 0 0, false, rfl, Hx8.out, .inr ⟨rfl, fun h => hP (HPI.out.1 h.1), rfl, rfl, rfl⟩⟩
  case pos =>
  obtain ⟨hP1, hP2, hP3, hP4⟩ := hP
  obtain ⟨K, rfl⟩ := Int.eq_ofNat_of_zero_le hP3
  rw [Int.toNat_natCast] at H4
  have HPIn := Lib.hid (HPI.out.2 ⟨hP1, hP2, hP3, hP4⟩)
  have hK : K ≤ 1000 := by omega
  clear HPI
  generalize px3 xs = x3 at *
  generalize pb3 xs = b3 at *
  go_upto_region 4 with fail
  go_cut [28] (fun x wz => x = .bool false ∧ wz = w4)
  case first =>
    go_wp2_with fail
    go_meet
    exact ⟨congrArg Value.bool (by first | rfl | (simp; omega)), rfl⟩
  case rest =>
  obtain ⟨rfl, rfl⟩ := hcut
  clear hP1 hP2 hP3 hP4
  go_wp2_with fail
  go_loopw [31] (fun i wr => ∃ (j : Nat) (colr : Col) (vr : Value), i = .int .i64 j ∧ j ≤ K ∧ Rr wr colr c b (tR j x3) (tB j x3 b3) ∧ wr.heap[B5]? = some (.cells [.int .i64 n, .bool fl, vr].toArray 72 (0, 0)) ∧ colr B5 = c3 ∧
    Ow wr colr c2 9 1 vr j ((tL j x3).map Value.string) ∧ wr.heap[Bz]? = some (.cells [.int .i64 0, .bool false, .slice none 0 0].toArray 72 (0, 0)) ∧ colr Bz = c4 ∧ Ext [c2, c3, c] wc col3 wr colr) (fun i _ => K - (intOf i).toNat)
  case atStart => exact ⟨0, col3, .slice none 0 0, rfl, by omega, hR4, hp4, hcp4, Ow.nil _ _ _ _ _, hz4, hcz4, Ext.refl _ _ _⟩
  case round =>
    obtain ⟨j, colr, vr, rfl, hj, hRr, hp, hcp, hO, hz, hcz, hx⟩ := hrel
    obtain ⟨Av, capv, rfl⟩ := own_slice' hO.1
    by_cases hc : j < K
    · have HRr := Lib.hid hRr
      have HTL := Lib.hid (show tL (j + 1) x3 = tL j x3 ++ [strOfNums (rT (tR j x3))] from rfl)
      have HTR := Lib.hid (show rTRest (tR j x3) = tR (j + 1) x3 from rfl)
      have HTB := Lib.hid (show rTBad (tR j x3) (tB j x3 b3) = tB (j + 1) x3 b3 from rfl)
      have k2 := (cell_row hp (j := 2) rfl).1
      clear hRr
      go_upto_region 8 with fail
      have HRd : Hid (Rr wr.drew colr c b (tR j x3) (tB j x3 b3)) := HRr.out
      have HRr := HRd
      have hpd : wr.drew.heap[B5]? = _ := hp
      have hzd : wr.drew.heap[Bz]? = _ := hz
      have hOd : Ow wr.drew colr c2 9 1 (.slice Av j capv) j ((tL j x3).map Value.string) := hO
      have hxd := hx.drewN 1
      have k2d : wr.drew.cell? ⟨B5, 2, none⟩ = _ := k2
      have hxd' : Ext [c2, c3, c] wc col3 wr.drew colr := hxd
      clear hp hz hO hx hxd k2
      have hp := hpd
      have hz := hzd
      have hO := hOd
      have hx := hxd'
      have k2 := k2d
      clear hpd hzd hOd hxd' k2d
      refine wp_region_noPanic ?_
      refine wp_region_held_drew (S := fun _ => True) (by kernel_rfl) trivial (fun _ => ?_)
      have hTr : True := trivial
      refine' takeH 0 rfl (by kernel_rfl) (by kernel_rfl) (by kernel_rfl) (fun _ _ _ h => h) (by rfl) (by assumption) ?gyx1x10 ?grx1x10
      case gyx1x10 => intro W hSW; go_simp; try with_reducible rfl
      try simp only [Act.put, List.setIfInBounds_toArray, List.set_cons_zero, List.set_cons_succ]
      refine' takeH 2 rfl (by kernel_rfl) (by kernel_rfl) (by kernel_rfl) (fun _ _ _ h => h) (by rfl) (by assumption) ?gyx1x12 ?grx1x12
      case gyx1x12 => intro W hSW; go_simp; try with_reducible rfl
      try simp only [Act.put, List.setIfInBounds_toArray, List.set_cons_zero, List.set_cons_succ]
      refine wpAnyH_ready (rs := [1, 3]) (by kernel_rfl) (by simp) ?_
      refine AllReadyH.cons rfl (fun K hK => ?_) (AllReadyH.cons rfl (fun K hK => ?_) AllReadyH.nil)
      ·
        go_simp
        try dsimp only
        refine hK.out _ _ trivial (fun _ => ?_)
        clear hK K
        try simp only [Act.put, List.getElem_toArray, List.getElem_cons_succ, List.getElem_cons_zero, List.setIfInBounds_toArray, List.set_cons_zero, List.set_cons_succ]
        refine wpAnyH_ready (rs := [3]) (by kernel_rfl) (by simp) ?_
        refine AllReadyH.cons rfl (fun K hK => ?_) AllReadyH.nil
        go_simp
        refine (rtext_calls _ _ c b _ _ hc0 HRr.out).mono ?_
        rintro e wa ⟨va, cola, rfl, ⟨hva, hRa⟩, hxa⟩
        have hca := RdB.conv (P := Try.prog) hva Try.underlying24 Try.underlying5 Try.underlying9
        have hOa := hO.ext hxa (by simpa using n2)
        have hpa := (hxa.block _ (heap_lt hp) (by rw [hcp]; simpa using n3)).trans hp
        have hcpa : cola B5 = c3 := (hxa.col _ (heap_lt hp)).trans hcp
        have k2 := (cell_row hpa (j := 2) rfl).1
        generalize hsT : strOfNums (rT (tR j x3)) = sT at hca
        have HsT := Lib.hid hsT
        clear hsT
        try dsimp only
        refine hK.out _ _ trivial (fun _ => ?_)
        clear hK K
        try simp only [Act.put, List.getElem_toArray, List.getElem_cons_succ, List.getElem_cons_zero, List.setIfInBounds_toArray, List.set_cons_zero, List.set_cons_succ]
        refine wpAnyH_ready (rs := [4]) (by kernel_rfl) (by simp) ?_
        refine AllReadyH.cons rfl (fun K hK => ?_) AllReadyH.nil
        go_simp
        try dsimp only
        refine hK.out _ _ trivial (fun _ => ?_)
        clear hK K
        try simp only [Act.put, List.getElem_toArray, List.getElem_cons_succ, List.getElem_cons_zero, List.setIfInBounds_toArray, List.set_cons_zero, List.set_cons_succ]
        refine wpAnyH_ready (rs := [5]) (by kernel_rfl) (by simp) ?_
        refine AllReadyH.cons rfl (fun K hK => ?_) AllReadyH.nil
        go_simp
        try dsimp only
        refine hK.out _ _ trivial (fun _ => ?_)
        clear hK K
        try simp only [Act.put, List.getElem_toArray, List.getElem_cons_succ, List.getElem_cons_zero, List.setIfInBounds_toArray, List.set_cons_zero, List.set_cons_succ]
        have hxb : Ext [] wa cola (wa.alloc (.cells #[.string sT] 9)) (newcol wa cola 0) := (Ext.refl _ _ _).alloc _ 0
        have hpb := (hxb.block _ (heap_lt hpa) (by simp)).trans hpa
        have k2 := (cell_row hpb (j := 2) rfl).1
        refine wpAnyH_ready (rs := [6]) (by kernel_rfl) (by simp) ?_
        refine AllReadyH.cons rfl (fun K hK => ?_) AllReadyH.nil
        have hOb := hOa.ext hxb (by simp)
        have hyl := Rd.lit wa 9 [.string sT] (by simp) (fun _ => True) trivial (0, 0)
        refine step_pushs rfl _ _ 70 9 rfl Try.underlying70 Try.infoS rfl (by omega) 0 _ _ _ rfl hOb.1 (Nat.zero_le _) _ 1 [.string sT] rfl hyl (by simp [Value.oneCell']) (by omega) ?_
        intro A6 cap6 w6 hown6 hgrow6 hat6
        obtain ⟨hO6, hx6⟩ := hOb.app hgrow6 hown6 hat6
        try dsimp only
        refine hK.out _ _ trivial (fun _ => ?_)
        clear hK K
        try simp only [Act.put, List.getElem_toArray, List.getElem_cons_succ, List.getElem_cons_zero, List.setIfInBounds_toArray, List.set_cons_zero, List.set_cons_succ]
        have hp6 := (hx6.block _ (heap_lt hpb) (by rw [hxb.col _ (heap_lt hpa), hcpa]; simpa using fun e => n23 e.symm)).trans hpb
        obtain ⟨k6, e6⟩ := cell_row hp6 (j := 2) rfl
        refine' takeH 7 rfl (by kernel_rfl) (by kernel_rfl) (by kernel_rfl) (fun _ _ _ h => h) (by rfl) (by assumption) ?gyx2x27 ?grx2x27
        case gyx2x27 => intro W hSW; go_simp; try with_reducible rfl
        try simp only [Act.put, List.setIfInBounds_toArray, List.set_cons_zero, List.set_cons_succ]
        refine wpAnyH_ready (rs := [8]) (by kernel_rfl) (by simp) ?_
        refine AllReadyH.cons rfl (fun K hK => ?_) AllReadyH.nil
        go_simp
        try dsimp only
        refine hK.out _ _ trivial (fun _ => ?_)
        clear hK K
        try simp only [Act.put, List.getElem_toArray, List.getElem_cons_succ, List.getElem_cons_zero, List.setIfInBounds_toArray, List.set_cons_zero, List.set_cons_succ]
        refine wpAnyH_done (by kernel_rfl) ?_ _
        refine NoPanic.normal ?_
        have hcb5 : newcol wa cola 0 B5 = c3 := by rw [hxb.col _ (heap_lt hpa), hcpa]
        have hc65 : newcol (wa.alloc (.cells #[.string sT] 9)) (newcol wa cola 0) c2 B5 = c3 := by rw [hx6.col _ (heap_lt hpb), hcb5]
        have hx8 : Ext [c3] w6 (newcol (wa.alloc (.cells #[.string sT] 9)) (newcol wa cola 0) c2) (w6.setCell ⟨B5, 2, none⟩ (.slice A6 (j + 1) cap6)) (newcol (wa.alloc (.cells #[.string sT] 9)) (newcol wa cola 0) c2) := (Ext.refl _ _ _).setCell (by simp [hc65]) _
        have hp8 := setCell_row hp6 2 (.slice A6 (j + 1) cap6)
        have hza := (hxa.block _ (heap_lt hz) (by rw [hcz]; simpa using n4)).trans hz
        have hcza : cola Bz = c4 := (hxa.col _ (heap_lt hz)).trans hcz
        have hzb := (hxb.block _ (heap_lt hza) (by simp)).trans hza
        have hczb : newcol wa cola 0 Bz = c4 := by rw [hxb.col _ (heap_lt hza), hcza]
        have hz6 := (hx6.block _ (heap_lt hzb) (by rw [hczb]; simpa using n24.symm)).trans hzb
        have hcz6 : newcol (wa.alloc (.cells #[.string sT] 9)) (newcol wa cola 0) c2 Bz = c4 := by rw [hx6.col _ (heap_lt hzb), hczb]
        have hz8 := (hx8.block _ (heap_lt hz6) (by rw [hcz6]; simpa using n34.symm)).trans hz6
        have hR8 := ((hRa.ext hxb (by simp) (by simp)).ext hx6 (by simpa using n2.symm) (by simpa using z2.symm)).ext hx8 (by simpa using n3.symm) (by simpa using z3.symm)
        rw [HTR.out, HTB.out] at hR8
        have hO8 := hO6.ext hx8 (by simpa using n23)
        have hx9 := (((hx.trans (hxa.mono (T := [c2, c3, c]) (by simp))).trans (hxb.mono (T := [c2, c3, c]) (by simp))).trans (hx6.mono (T := [c2, c3, c]) (by simp))).trans (hx8.mono (T := [c2, c3, c]) (by simp))
        have hOf : Ow (w6.setCell ⟨B5, 2, none⟩ (.slice A6 (j + 1) cap6)) (newcol (wa.alloc (.cells #[.string sT] 9)) (newcol wa cola 0) c2) c2 9 1 (.slice A6 (j + 1) cap6) (j + 1) ((tL (j + 1) x3).map Value.string) := by rw [HTL.out, HsT.out, List.map_append]; exact hO8
        clear hza hzb hz6 hx8 hO8 hp6 hpa hpb hO6 hx6 hxb hxa hO hOa hx hp hz
        go_wp2
        go_roundw
        case rel => exact ⟨j + 1, _, _, by go_num, by omega, hR8, hp8, hc65, hOf, hz8, hcz6, hx9⟩
        case measure => simp [intOf]; omega
      ·
        go_simp
        refine (rtext_calls _ _ c b _ _ hc0 HRr.out).mono ?_
        rintro e wa ⟨va, cola, rfl, ⟨hva, hRa⟩, hxa⟩
        have hca := RdB.conv (P := Try.prog) hva Try.underlying24 Try.underlying5 Try.underlying9
        have hOa := hO.ext hxa (by simpa using n2)
        have hpa := (hxa.block _ (heap_lt hp) (by rw [hcp]; simpa using n3)).trans hp
        have hcpa : cola B5 = c3 := (hxa.col _ (heap_lt hp)).trans hcp
        have k2 := (cell_row hpa (j := 2) rfl).1
        generalize hsT : strOfNums (rT (tR j x3)) = sT at hca
        have HsT := Lib.hid hsT
        clear hsT
        try dsimp only
        refine hK.out _ _ trivial (fun _ => ?_)
        clear hK K
        try simp only [Act.put, List.getElem_toArray, List.getElem_cons_succ, List.getElem_cons_zero, List.setIfInBounds_toArray, List.set_cons_zero, List.set_cons_succ]
        refine wpAnyH_ready (rs := [1, 4]) (by kernel_rfl) (by simp) ?_
        refine AllReadyH.cons rfl (fun K hK => ?_) (AllReadyH.cons rfl (fun K hK => ?_) AllReadyH.nil)
        ·
          go_simp
          try dsimp only
          refine hK.out _ _ trivial (fun _ => ?_)
          clear hK K
          try simp only [Act.put, List.getElem_toArray, List.getElem_cons_succ, List.getElem_cons_zero, List.setIfInBounds_toArray, List.set_cons_zero, List.set_cons_succ]
          refine wpAnyH_ready (rs := [4]) (by kernel_rfl) (by simp) ?_
          refine AllReadyH.cons rfl (fun K hK => ?_) AllReadyH.nil
          go_simp
          try dsimp only
          refine hK.out _ _ trivial (fun _ => ?_)
          clear hK K
          try simp only [Act.put, List.getElem_toArray, List.getElem_cons_succ, List.getElem_cons_zero, List.setIfInBounds_toArray, List.set_cons_zero, List.set_cons_succ]
          refine wpAnyH_ready (rs := [5]) (by kernel_rfl) (by simp) ?_
          refine AllReadyH.cons rfl (fun K hK => ?_) AllReadyH.nil
          go_simp
          try dsimp only
          refine hK.out _ _ trivial (fun _ => ?_)
          clear hK K
          try simp only [Act.put, List.getElem_toArray, List.getElem_cons_succ, List.getElem_cons_zero, List.setIfInBounds_toArray, List.set_cons_zero, List.set_cons_succ]
          have hxb : Ext [] wa cola (wa.alloc (.cells #[.string sT] 9)) (newcol wa cola 0) := (Ext.refl _ _ _).alloc _ 0
          have hpb := (hxb.block _ (heap_lt hpa) (by simp)).trans hpa
          have k2 := (cell_row hpb (j := 2) rfl).1
          refine wpAnyH_ready (rs := [6]) (by kernel_rfl) (by simp) ?_
          refine AllReadyH.cons rfl (fun K hK => ?_) AllReadyH.nil
          have hOb := hOa.ext hxb (by simp)
          have hyl := Rd.lit wa 9 [.string sT] (by simp) (fun _ => True) trivial (0, 0)
          refine step_pushs rfl _ _ 70 9 rfl Try.underlying70 Try.infoS rfl (by omega) 0 _ _ _ rfl hOb.1 (Nat.zero_le _) _ 1 [.string sT] rfl hyl (by simp [Value.oneCell']) (by omega) ?_
          intro A6 cap6 w6 hown6 hgrow6 hat6
          obtain ⟨hO6, hx6⟩ := hOb.app hgrow6 hown6 hat6
          try dsimp only
          refine hK.out _ _ trivial (fun _ => ?_)
          clear hK K
          try simp only [Act.put, List.getElem_toArray, List.getElem_cons_succ, List.getElem_cons_zero, List.setIfInBounds_toArray, List.set_cons_zero, List.set_cons_succ]
          have hp6 := (hx6.block _ (heap_lt hpb) (by rw [hxb.col _ (heap_lt hpa), hcpa]; simpa using fun e => n23 e.symm)).trans hpb
          obtain ⟨k6, e6⟩ := cell_row hp6 (j := 2) rfl
          refine' takeH 7 rfl (by kernel_rfl) (by kernel_rfl) (by kernel_rfl) (fun _ _ _ h => h) (by rfl) (by assumption) ?gyx3x37 ?grx3x37
          case gyx3x37 => intro W hSW; go_simp; try with_reducible rfl
          try simp only [Act.put, List.setIfInBounds_toArray, List.set_cons_zero, List.set_cons_succ]
          refine wpAnyH_ready (rs := [8]) (by kernel_rfl) (by simp) ?_
          refine AllReadyH.cons rfl (fun K hK => ?_) AllReadyH.nil
          go_simp
          try dsimp only
          refine hK.out _ _ trivial (fun _ => ?_)
          clear hK K
          try simp only [Act.put, List.getElem_toArray, List.getElem_cons_succ, List.getElem_cons_zero, List.setIfInBounds_toArray, List.set_cons_zero, List.set_cons_succ]
          refine wpAnyH_done (by kernel_rfl) ?_ _
          refine NoPanic.normal ?_
          have hcb5 : newcol wa cola 0 B5 = c3 := by rw [hxb.col _ (heap_lt hpa), hcpa]
          have hc65 : newcol (wa.alloc (.cells #[.string sT] 9)) (newcol wa cola 0) c2 B5 = c3 := by rw [hx6.col _ (heap_lt hpb), hcb5]
          have hx8 : Ext [c3] w6 (newcol (wa.alloc (.cells #[.string sT] 9)) (newcol wa cola 0) c2) (w6.setCell ⟨B5, 2, none⟩ (.slice A6 (j + 1) cap6)) (newcol (wa.alloc (.cells #[.string sT] 9)) (newcol wa cola 0) c2) := (Ext.refl _ _ _).setCell (by simp [hc65]) _
          have hp8 := setCell_row hp6 2 (.slice A6 (j + 1) cap6)
          have hza := (hxa.block _ (heap_lt hz) (by rw [hcz]; simpa using n4)).trans hz
          have hcza : cola Bz = c4 := (hxa.col _ (heap_lt hz)).trans hcz
          have hzb := (hxb.block _ (heap_lt hza) (by simp)).trans hza
          have hczb : newcol wa cola 0 Bz = c4 := by rw [hxb.col _ (heap_lt hza), hcza]
          have hz6 := (hx6.block _ (heap_lt hzb) (by rw [hczb]; simpa using n24.symm)).trans hzb
          have hcz6 : newcol (wa.alloc (.cells #[.string sT] 9)) (newcol wa cola 0) c2 Bz = c4 := by rw [hx6.col _ (heap_lt hzb), hczb]
          have hz8 := (hx8.block _ (heap_lt hz6) (by rw [hcz6]; simpa using n34.symm)).trans hz6
          have hR8 := ((hRa.ext hxb (by simp) (by simp)).ext hx6 (by simpa using n2.symm) (by simpa using z2.symm)).ext hx8 (by simpa using n3.symm) (by simpa using z3.symm)
          rw [HTR.out, HTB.out] at hR8
          have hO8 := hO6.ext hx8 (by simpa using n23)
          have hx9 := (((hx.trans (hxa.mono (T := [c2, c3, c]) (by simp))).trans (hxb.mono (T := [c2, c3, c]) (by simp))).trans (hx6.mono (T := [c2, c3, c]) (by simp))).trans (hx8.mono (T := [c2, c3, c]) (by simp))
          have hOf : Ow (w6.setCell ⟨B5, 2, none⟩ (.slice A6 (j + 1) cap6)) (newcol (wa.alloc (.cells #[.string sT] 9)) (newcol wa cola 0) c2) c2 9 1 (.slice A6 (j + 1) cap6) (j + 1) ((tL (j + 1) x3).map Value.string) := by rw [HTL.out, HsT.out, List.map_append]; exact hO8
          clear hza hzb hz6 hx8 hO8 hp6 hpa hpb hO6 hx6 hxb hxa hO hOa hx hp hz
          go_wp2
          go_roundw
          case rel => exact ⟨j + 1, _, _, by go_num, by omega, hR8, hp8, hc65, hOf, hz8, hcz6, hx9⟩
          case measure => simp [intOf]; omega
        ·
          go_simp
          try dsimp only
          refine hK.out _ _ trivial (fun _ => ?_)
          clear hK K
          try simp only [Act.put, List.getElem_toArray, List.getElem_cons_succ, List.getElem_cons_zero, List.setIfInBounds_toArray, List.set_cons_zero, List.set_cons_succ]
          refine wpAnyH_ready (rs := [1, 5]) (by kernel_rfl) (by simp) ?_
          refine AllReadyH.cons rfl (fun K hK => ?_) (AllReadyH.cons rfl (fun K hK => ?_) AllReadyH.nil)
          ·
            go_simp
            try dsimp only
            refine hK.out _ _ trivial (fun _ => ?_)
            clear hK K
            try simp only [Act.put, List.getElem_toArray, List.getElem_cons_succ, List.getElem_cons_zero, List.setIfInBounds_toArray, List.set_cons_zero, List.set_cons_succ]
            refine wpAnyH_ready (rs := [5]) (by kernel_rfl) (by simp) ?_
            refine AllReadyH.cons rfl (fun K hK => ?_) AllReadyH.nil
            go_simp
            try dsimp only
            refine hK.out _ _ trivial (fun _ => ?_)
            clear hK K
            try simp only [Act.put, List.getElem_toArray, List.getElem_cons_succ, List.getElem_cons_zero, List.setIfInBounds_toArray, List.set_cons_zero, List.set_cons_succ]
            have hxb : Ext [] wa cola (wa.alloc (.cells #[.string sT] 9)) (newcol wa cola 0) := (Ext.refl _ _ _).alloc _ 0
            have hpb := (hxb.block _ (heap_lt hpa) (by simp)).trans hpa
            have k2 := (cell_row hpb (j := 2) rfl).1
            refine wpAnyH_ready (rs := [6]) (by kernel_rfl) (by simp) ?_
            refine AllReadyH.cons rfl (fun K hK => ?_) AllReadyH.nil
            have hOb := hOa.ext hxb (by simp)
            have hyl := Rd.lit wa 9 [.string sT] (by simp) (fun _ => True) trivial (0, 0)
            refine step_pushs rfl _ _ 70 9 rfl Try.underlying70 Try.infoS rfl (by omega) 0 _ _ _ rfl hOb.1 (Nat.zero_le _) _ 1 [.string sT] rfl hyl (by simp [Value.oneCell']) (by omega) ?_
            intro A6 cap6 w6 hown6 hgrow6 hat6
            obtain ⟨hO6, hx6⟩ := hOb.app hgrow6 hown6 hat6
            try dsimp only
            refine hK.out _ _ trivial (fun _ => ?_)
            clear hK K
            try simp only [Act.put, List.getElem_toArray, List.getElem_cons_succ, List.getElem_cons_zero, List.setIfInBounds_toArray, List.set_cons_zero, List.set_cons_succ]
            have hp6 := (hx6.block _ (heap_lt hpb) (by rw [hxb.col _ (heap_lt hpa), hcpa]; simpa using fun e => n23 e.symm)).trans hpb
            obtain ⟨k6, e6⟩ := cell_row hp6 (j := 2) rfl
            refine' takeH 7 rfl (by kernel_rfl) (by kernel_rfl) (by kernel_rfl) (fun _ _ _ h => h) (by rfl) (by assumption) ?gyx4x47 ?grx4x47
            case gyx4x47 => intro W hSW; go_simp; try with_reducible rfl
            try simp only [Act.put, List.setIfInBounds_toArray, List.set_cons_zero, List.set_cons_succ]
            refine wpAnyH_ready (rs := [8]) (by kernel_rfl) (by simp) ?_
            refine AllReadyH.cons rfl (fun K hK => ?_) AllReadyH.nil
            go_simp
            try dsimp only
            refine hK.out _ _ trivial (fun _ => ?_)
            clear hK K
            try simp only [Act.put, List.getElem_toArray, List.getElem_cons_succ, List.getElem_cons_zero, List.setIfInBounds_toArray, List.set_cons_zero, List.set_cons_succ]
            refine wpAnyH_done (by kernel_rfl) ?_ _
            refine NoPanic.normal ?_
            have hcb5 : newcol wa cola 0 B5 = c3 := by rw [hxb.col _ (heap_lt hpa), hcpa]
            have hc65 : newcol (wa.alloc (.cells #[.string sT] 9)) (newcol wa cola 0) c2 B5 = c3 := by rw [hx6.col _ (heap_lt hpb), hcb5]
            have hx8 : Ext [c3] w6 (newcol (wa.alloc (.cells #[.string sT] 9)) (newcol wa cola 0) c2) (w6.setCell ⟨B5, 2, none⟩ (.slice A6 (j + 1) cap6)) (newcol (wa.alloc (.cells #[.string sT] 9)) (newcol wa cola 0) c2) := (Ext.refl _ _ _).setCell (by simp [hc65]) _
            have hp8 := setCell_row hp6 2 (.slice A6 (j + 1) cap6)
            have hza := (hxa.block _ (heap_lt hz) (by rw [hcz]; simpa using n4)).trans hz
            have hcza : cola Bz = c4 := (hxa.col _ (heap_lt hz)).trans hcz
            have hzb := (hxb.block _ (heap_lt hza) (by simp)).trans hza
            have hczb : newcol wa cola 0 Bz = c4 := by rw [hxb.col _ (heap_lt hza), hcza]
            have hz6 := (hx6.block _ (heap_lt hzb) (by rw [hczb]; simpa using n24.symm)).trans hzb
            have hcz6 : newcol (wa.alloc (.cells #[.string sT] 9)) (newcol wa cola 0) c2 Bz = c4 := by rw [hx6.col _ (heap_lt hzb), hczb]
            have hz8 := (hx8.block _ (heap_lt hz6) (by rw [hcz6]; simpa using n34.symm)).trans hz6
            have hR8 := ((hRa.ext hxb (by simp) (by simp)).ext hx6 (by simpa using n2.symm) (by simpa using z2.symm)).ext hx8 (by simpa using n3.symm) (by simpa using z3.symm)
            rw [HTR.out, HTB.out] at hR8
            have hO8 := hO6.ext hx8 (by simpa using n23)
            have hx9 := (((hx.trans (hxa.mono (T := [c2, c3, c]) (by simp))).trans (hxb.mono (T := [c2, c3, c]) (by simp))).trans (hx6.mono (T := [c2, c3, c]) (by simp))).trans (hx8.mono (T := [c2, c3, c]) (by simp))
            have hOf : Ow (w6.setCell ⟨B5, 2, none⟩ (.slice A6 (j + 1) cap6)) (newcol (wa.alloc (.cells #[.string sT] 9)) (newcol wa cola 0) c2) c2 9 1 (.slice A6 (j + 1) cap6) (j + 1) ((tL (j + 1) x3).map Value.string) := by rw [HTL.out, HsT.out, List.map_append]; exact hO8
            clear hza hzb hz6 hx8 hO8 hp6 hpa hpb hO6 hx6 hxb hxa hO hOa hx hp hz
            go_wp2
            go_roundw
            case rel => exact ⟨j + 1, _, _, by go_num, by omega, hR8, hp8, hc65, hOf, hz8, hcz6, hx9⟩
            case measure => simp [intOf]; omega
          ·
            go_simp
            try dsimp only
            refine hK.out _ _ trivial (fun _ => ?_)
            clear hK K
            try simp only [Act.put, List.getElem_toArray, List.getElem_cons_succ, List.getElem_cons_zero, List.setIfInBounds_toArray, List.set_cons_zero, List.set_cons_succ]
            have hxb : Ext [] wa cola (wa.alloc (.cells #[.string sT] 9)) (newcol wa cola 0) := (Ext.refl _ _ _).alloc _ 0
            have hpb := (hxb.block _ (heap_lt hpa) (by simp)).trans hpa
            have k2 := (cell_row hpb (j := 2) rfl).1
            refine wpAnyH_ready (rs := [1]) (by kernel_rfl) (by simp) ?_
            refine AllReadyH.cons rfl (fun K hK => ?_) AllReadyH.nil
            go_simp
            try dsimp only
            refine hK.out _ _ trivial (fun _ => ?_)
            clear hK K
            try simp only [Act.put, List.getElem_toArray, List.getElem_cons_succ, List.getElem_cons_zero, List.setIfInBounds_toArray, List.set_cons_zero, List.set_cons_succ]
            refine wpAnyH_ready (rs := [6]) (by kernel_rfl) (by simp) ?_
            refine AllReadyH.cons rfl (fun K hK => ?_) AllReadyH.nil
            have hOb := hOa.ext hxb (by simp)
            have hyl := Rd.lit wa 9 [.string sT] (by simp) (fun _ => True) trivial (0, 0)
            refine step_pushs rfl _ _ 70 9 rfl Try.underlying70 Try.infoS rfl (by omega) 0 _ _ _ rfl hOb.1 (Nat.zero_le _) _ 1 [.string sT] rfl hyl (by simp [Value.oneCell']) (by omega) ?_
            intro A6 cap6 w6 hown6 hgrow6 hat6
            obtain ⟨hO6, hx6⟩ := hOb.app hgrow6 hown6 hat6
            try dsimp only
            refine hK.out _ _ trivial (fun _ => ?_)
            clear hK K
            try simp only [Act.put, List.getElem_toArray, List.getElem_cons_succ, List.getElem_cons_zero, List.setIfInBounds_toArray, List.set_cons_zero, List.set_cons_succ]
            have hp6 := (hx6.block _ (heap_lt hpb) (by rw [hxb.col _ (heap_lt hpa), hcpa]; simpa using fun e => n23 e.symm)).trans hpb
            obtain ⟨k6, e6⟩ := cell_row hp6 (j := 2) rfl
            refine' takeH 7 rfl (by kernel_rfl) (by kernel_rfl) (by kernel_rfl) (fun _ _ _ h => h) (by rfl) (by assumption) ?gyx5x57 ?grx5x57
            case gyx5x57 => intro W hSW; go_simp; try with_reducible rfl
            try simp only [Act.put, List.setIfInBounds_toArray, List.set_cons_zero, List.set_cons_succ]
            refine wpAnyH_ready (rs := [8]) (by kernel_rfl) (by simp) ?_
            refine AllReadyH.cons rfl (fun K hK => ?_) AllReadyH.nil
            go_simp
            try dsimp only
            refine hK.out _ _ trivial (fun _ => ?_)
            clear hK K
            try simp only [Act.put, List.getElem_toArray, List.getElem_cons_succ, List.getElem_cons_zero, List.setIfInBounds_toArray, List.set_cons_zero, List.set_cons_succ]
            refine wpAnyH_done (by kernel_rfl) ?_ _
            refine NoPanic.normal ?_
            have hcb5 : newcol wa cola 0 B5 = c3 := by rw [hxb.col _ (heap_lt hpa), hcpa]
            have hc65 : newcol (wa.alloc (.cells #[.string sT] 9)) (newcol wa cola 0) c2 B5 = c3 := by rw [hx6.col _ (heap_lt hpb), hcb5]
            have hx8 : Ext [c3] w6 (newcol (wa.alloc (.cells #[.string sT] 9)) (newcol wa cola 0) c2) (w6.setCell ⟨B5, 2, none⟩ (.slice A6 (j + 1) cap6)) (newcol (wa.alloc (.cells #[.string sT] 9)) (newcol wa cola 0) c2) := (Ext.refl _ _ _).setCell (by simp [hc65]) _
            have hp8 := setCell_row hp6 2 (.slice A6 (j + 1) cap6)
            have hza := (hxa.block _ (heap_lt hz) (by rw [hcz]; simpa using n4)).trans hz
            have hcza : cola Bz = c4 := (hxa.col _ (heap_lt hz)).trans hcz
            have hzb := (hxb.block _ (heap_lt hza) (by simp)).trans hza
            have hczb : newcol wa cola 0 Bz = c4 := by rw [hxb.col _ (heap_lt hza), hcza]
            have hz6 := (hx6.block _ (heap_lt hzb) (by rw [hczb]; simpa using n24.symm)).trans hzb
            have hcz6 : newcol (wa.alloc (.cells #[.string sT] 9)) (newcol wa cola 0) c2 Bz = c4 := by rw [hx6.col _ (heap_lt hzb), hczb]
            have hz8 := (hx8.block _ (heap_lt hz6) (by rw [hcz6]; simpa using n34.symm)).trans hz6
            have hR8 := ((hRa.ext hxb (by simp) (by simp)).ext hx6 (by simpa using n2.symm) (by simpa using z2.symm)).ext hx8 (by simpa using n3.symm) (by simpa using z3.symm)
            rw [HTR.out, HTB.out] at hR8
            have hO8 := hO6.ext hx8 (by simpa using n23)
            have hx9 := (((hx.trans (hxa.mono (T := [c2, c3, c]) (by simp))).trans (hxb.mono (T := [c2, c3, c]) (by simp))).trans (hx6.mono (T := [c2, c3, c]) (by simp))).trans (hx8.mono (T := [c2, c3, c]) (by simp))
            have hOf : Ow (w6.setCell ⟨B5, 2, none⟩ (.slice A6 (j + 1) cap6)) (newcol (wa.alloc (.cells #[.string sT] 9)) (newcol wa cola 0) c2) c2 9 1 (.slice A6 (j + 1) cap6) (j + 1) ((tL (j + 1) x3).map Value.string) := by rw [HTL.out, HsT.out, List.map_append]; exact hO8
            clear hza hzb hz6 hx8 hO8 hp6 hpa hpb hO6 hx6 hxb hxa hO hOa hx hp hz
            go_wp2
            go_roundw
            case rel => exact ⟨j + 1, _, _, by go_num, by omega, hR8, hp8, hc65, hOf, hz8, hcz6, hx9⟩
            case measure => simp [intOf]; omega
    · obtain rfl : j = K := by omega
      have hxx := (hxw4.mono (T := [c2, c3, c]) (by simp)).trans hx
      have hOk := rok_calls wr colr c b _ _ hRr.1
      have Hrd := Lib.hid (hO.rd (by omega) (by omega))
      rw [H4.out.1, H4.out.2.1] at hRr
      rw [H4.out.2.1] at hOk
      rw [H4.out.2.2] at Hrd
      have HRr := Lib.hid hRr
      clear hRr
      cases hbz : pb4 xs with
      | true =>
        rw [hbz] at hOk
        have Hbz := Lib.hid hbz
        clear hbz
        go_wp2_with fail
        refine hOk.mono ?_
        rintro e _ ⟨rfl, rfl⟩
        obtain ⟨k0, e0⟩ := cell_row hz (j := 0) rfl
        obtain ⟨k1, e1⟩ := cell_row hz (j := 1) rfl
        obtain ⟨k2, e2⟩ := cell_row hz (j := 2) rfl
        have hz8 := setCell_row (setCell_row (setCell_row hz 0 (.int .i64 0)) 1 (.bool false)) 2 (.slice none 0 0)
        have hx8 := ((hxx.setNew (p := ⟨Bz, 0, none⟩) (Nat.le_of_eq HBz.out) (.int .i64 0)).setNew (p := ⟨Bz, 1, none⟩) (Nat.le_of_eq HBz.out) (.bool false)).setNew (p := ⟨Bz, 2, none⟩) (Nat.le_of_eq HBz.out) (.slice none 0 0)
        obtain ⟨q0, -⟩ := cell_row hz8 (j := 0) (v := (.int .i64 0)) rfl
        obtain ⟨q1, -⟩ := cell_row hz8 (j := 1) (v := (.bool false)) rfl
        obtain ⟨q2, -⟩ := cell_row hz8 (j := 2) (v := (.slice none 0 0)) rfl
        have Hx8 := Lib.hid ((hx8.recols fun k hk => (hfr k (HBz.out ▸ hk)).1).recols fun k hk => (hfr k (HBz.out ▸ hk)).2.1)
        clear hz8 hx8 hz hxx hp hx
        go_wp2
        refine bodyPost_ret (v := .tuple #[.agg #[.int .i64 0, .bool false, .slice none 0 0], .bool false]) (by simp [results, Try.results102, go_sem, q0, q1, q2]) rfl ?_
        exact ⟨_, 0, false, .slice none 0 0, false, rfl, Hx8.out, .inr ⟨rfl, (fun h => by have h1 := Hbz.out; rw [h.2] at h1; cases h1), rfl, rfl, rfl⟩⟩
      | false =>
        rw [hbz] at hOk
        have Hbz := Lib.hid hbz
        clear hbz
        go_wp2_with fail
        refine hOk.mono ?_
        rintro e _ ⟨rfl, rfl⟩
        obtain ⟨k0, e0⟩ := cell_row hz (j := 0) rfl
        obtain ⟨k1, e1⟩ := cell_row hz (j := 1) rfl
        obtain ⟨k2, e2⟩ := cell_row hz (j := 2) rfl
        obtain ⟨m0, -⟩ := cell_row hp (j := 0) rfl
        obtain ⟨m1, -⟩ := cell_row hp (j := 1) rfl
        obtain ⟨m2, -⟩ := cell_row hp (j := 2) rfl
        have hz8 := setCell_row (setCell_row (setCell_row hz 0 (.int .i64 n)) 1 (.bool fl)) 2 (.slice Av j capv)
        have hx8 := ((hxx.setNew (p := ⟨Bz, 0, none⟩) (Nat.le_of_eq HBz.out) (.int .i64 n)).setNew (p := ⟨Bz, 1, none⟩) (Nat.le_of_eq HBz.out) (.bool fl)).setNew (p := ⟨Bz, 2, none⟩) (Nat.le_of_eq HBz.out) (.slice Av j capv)
        have hx4 := (((Ext.refl [c4] wr colr).setCell (p := ⟨Bz, 0, none⟩) (by simp [hcz]) (.int .i64 n)).setCell (p := ⟨Bz, 1, none⟩) (by simp [hcz]) (.bool fl)).setCell (p := ⟨Bz, 2, none⟩) (by simp [hcz]) (.slice Av j capv)
        have HR8 := Lib.hid (((HRr.out.ext hx4 (by simpa using n4.symm) (by simpa using z4.symm)).recol n2.symm z2).recol n3.symm z3)
        have Hrd8 := Lib.hid (((Hrd.out.ext hx4 (by simpa using n24)).weaken fun k hk _ => recol_in2 k hk).weaken fun k hk _ => recol_in (c2 := c3) z3.symm k hk)
        obtain ⟨q0, -⟩ := cell_row hz8 (j := 0) (v := .int .i64 n) rfl
        obtain ⟨q1, -⟩ := cell_row hz8 (j := 1) (v := .bool fl) rfl
        obtain ⟨q2, -⟩ := cell_row hz8 (j := 2) (v := .slice Av j capv) rfl
        have Hx8 := Lib.hid ((hx8.recols fun k hk => (hfr k (HBz.out ▸ hk)).1).recols fun k hk => (hfr k (HBz.out ▸ hk)).2.1)
        clear hz8 hx8 hz hxx hp hx hx4 HRr Hrd
        go_wp2
        refine bodyPost_ret (v := .tuple #[.agg #[.int .i64 n, .bool fl, .slice Av j capv], .bool true]) (by simp [results, Try.results102, go_sem, q0, q1, q2]) rfl ?_
        refine ⟨_, n, fl, .slice Av j capv, true, rfl, Hx8.out, .inl ⟨rfl, HPIn.out, Hbz.out, HN.out, Hfl.out.symm, ?_, by rw [← Hbz.out]; exact HR8.out⟩⟩
        show Rd _ _ _ (pD xs).r.length 1 _
        rw [← H4.out.2.2, tL_len, H4.out.2.2]
        exact Hrd8.out
end Go.Proofs.Yteegdhfekemhmaa
