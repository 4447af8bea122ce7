/- The statement CommandSnap of layer 17. -/
import Derived.Test.YteegdhfekemhmaaSnapE
import Derived.Test.YteegdhfekemhmaaCmd3
import Derived.Test.YteegdhfekemhmaaAcc
import Derived.Test.YteegdhfekemhmaaShort
import Derived.Deep.RegionHeld3
import Derived.Deep.DeepCutAuto
import Derived.Deep.CutBlock
import Derived.WideShapes
namespace Go.Proofs.Yteegdhfekemhmaa
open Go.RowKit
set_option linter.unusedSimpArgs false

/-- A snapshot as an argument. -/
def RdSnap (W : World) (N : Nat → Prop) (v : Value) (s : SnapD) : Prop := ∃ vc vd, v = snapV s.i s.t vc vd ∧ InI64 s.i ∧ InI64 s.t ∧ RdI .i64 W N vc s.c ∧ RdL W N vd s.d
set_option maxRecDepth 100000 in
theorem openL_Snap {H : Type} {enc : TypeId × Value → H} {W : World} {b0 : Nat} {v : Value} {d : DataW H} {ps : List MemPlace} (hval : Value.okWide Try.prog W .any b0 51 v)
    (h : DataW.Trod enc Try.prog W 0 (fun _ => true) true 51 v d ps) (hw : ∀ n ∈ d.weights Try.prog 51, n ≤ reachBytes) : ∃ x, RdSnap W (fun _ => True) v x := by
  obtain ⟨cs, rfl, hcs⟩ := WideShapes.okWide_struct Try.underlying51 hval
  obtain ⟨fuel, hf⟩ := h
  obtain ⟨hl, hfs⟩ := openL_struct Try.underlying51 hf hw
  have n4 : Try.prog.cellsOf 51 = 4 := by kernel_rfl
  have c2 : Try.prog.cellsOf 2 = 1 := by kernel_rfl
  have c43 : Try.prog.cellsOf 43 = 1 := by kernel_rfl
  have c24 : Try.prog.cellsOf 24 = 1 := by kernel_rfl
  rw [n4] at hcs
  obtain ⟨l⟩ := cs
  simp only [Value.cells] at hfs
  match l, hcs with
  | [a0, a1, a2, a3], _ =>
    obtain ⟨m0, y0, t0, _⟩ := hfs 0 _ rfl
    obtain ⟨m1, y1, t1, _⟩ := hfs 1 _ rfl
    obtain ⟨m2, y2, t2, w2⟩ := hfs 2 _ rfl
    obtain ⟨m3, y3, t3, w3⟩ := hfs 3 _ rfl
    simp [c2] at t0 t1
    simp [c43] at t2 w2
    simp [c24] at t3 w3
    obtain ⟨q0, e0, _, hq0⟩ := DataW.trod_int Try.underlying2 t0
    obtain ⟨q1, e1, _, hq1⟩ := DataW.trod_int Try.underlying2 t1
    obtain ⟨xs, hxs⟩ := openL_ints Try.underlying43 Try.underlying3 (by kernel_rfl) (of_decide_eq_true (by kernel_rfl)) t2 w2
    obtain ⟨ys, hys⟩ := openL_bytes Try.underlying24 Try.underlying5 (by kernel_rfl) (of_decide_eq_true (by kernel_rfl)) t3 w3
    simp at e0 e1
    subst e0 e1
    exact ⟨⟨q0, q1, xs, ys⟩, a2, a3, rfl, wf64' hq0, wf64' hq1, hxs, hys⟩
theorem nL_mem (j : Nat) (xs : List Int) : (nL j xs).length = j := nL_len j xs
theorem rT_len (xs : List Int) : (rT xs).length ≤ xs.length := by
  unfold rT
  cases hq : rtext xs with
  | none => simp
  | some p =>
    obtain ⟨t, r⟩ := p
    unfold rtext at hq
    cases hn : rnum xs with
    | none => rw [hn] at hq; simp at hq
    | some p =>
      obtain ⟨n, r'⟩ := p
      rw [hn] at hq
      simp only at hq
      have h1 := rRest_len xs
      rw [rRest, hn] at h1
      simp only at h1
      split at hq
      · simp only [Option.some.injEq, Prod.mk.injEq] at hq
        rw [← hq.1]
        simp; omega
      · cases hq
theorem sD_len (xs : List Int) : (sD xs).c.length ≤ xs.length ∧ (sD xs).d.length ≤ xs.length := by
  have h1 := rRest_len xs
  have h2 := rRest_len (rRest xs)
  have h3 := cN_le (sx2 xs)
  have h4 := cRest_len (sx2 xs)
  have h5 := nR_len (cN (sx2 xs)) (sx3 xs)
  have h6 := rT_len (sx4 xs)
  refine ⟨?_, ?_⟩
  · show (nL (cN (sx2 xs)) (sx3 xs)).length ≤ _
    rw [nL_len]
    exact Nat.le_trans h3 (Nat.le_trans h2 h1)
  · show (rT (sx4 xs)).length ≤ _
    exact Nat.le_trans h6 (Nat.le_trans h5 (Nat.le_trans h4 (Nat.le_trans h2 h1)))
theorem snapB_len {s : SnapD} (h : s.ok) : (snapB s).length ≤ 10 * s.c.length + s.d.length + 40 := by
  obtain ⟨h1, h2, h3, h4, h5, h6⟩ := h
  have a1 := numB_len h1.1 h1.2
  have a2 := numB_len h2.1 h2.2
  have a3 := (numsB_len s.c h3).2
  have a4 := numB_len (n := s.c.length) (by omega) (by omega)
  have a5 := textB_len (xs := s.d) (by omega)
  simp [snapB, confB]; omega
/-- Blocks older than a world. -/
abbrev Old (w : World) : Nat → Prop := fun k => k < w.heap.size
theorem RdL.old {w W W' : World} {v : Value} {xs : List Int} (h : RdL W (Old w) v xs) (h1 : Below w.heap.size w W) (h2 : Below w.heap.size w W') : RdL W' (Old w) v xs :=
  h.keeps fun b hb _ => ⟨(h2.block b hb).trans (h1.block b hb).symm, hb⟩
theorem RdI.old {k : IntKind} {w W W' : World} {v : Value} {xs : List Int} (h : RdI k W (Old w) v xs) (h1 : Below w.heap.size w W) (h2 : Below w.heap.size w W') : RdI k W' (Old w) v xs :=
  ⟨h.1.keeps fun b hb _ => ⟨(h2.block b hb).trans (h1.block b hb).symm, hb⟩, h.2⟩
/-- A snapshot in a box, its slices in old memory. -/
def BoxS (w W : World) (B : Nat) (i t : Int) (vc vd : Value) (l d : List Int) : Prop :=
  W.heap[B]? = some (.cells [.int .i64 i, .int .i64 t, vc, vd].toArray 51 (0, 0)) ∧ RdI .i64 W (Old w) vc l ∧ RdL W (Old w) vd d

theorem below_undrew1 {w W : World} (h : Below w.drew.heap.size w.drew W) : Below w.heap.size w W := ⟨h.os, h.tape, h.output, h.size, h.block⟩
theorem BoxS.below {w W W' : World} {B : Nat} {i t : Int} {vc vd : Value} {l d : List Int} (h : BoxS w W B i t vc vd l d) (hb : Below W.heap.size W W') : BoxS w W' B i t vc vd l d :=
  ⟨(hb.block _ (heap_lt h.1)).trans h.1, h.2.1.below hb, h.2.2.below hb⟩
theorem RdL.setOld {w W : World} {v u : Value} {xs : List Int} (h : RdL W (Old w) v xs) {p : Addr} (hp : w.heap.size ≤ p.block) : RdL (W.setCell p u) (Old w) v xs :=
  h.keeps fun b hb _ => ⟨heap_setCell_other _ _ _ _ (by have hb' : b < w.heap.size := hb; omega), hb⟩
theorem RdI.setOld {k : IntKind} {w W : World} {v u : Value} {xs : List Int} (h : RdI k W (Old w) v xs) {p : Addr} (hp : w.heap.size ≤ p.block) : RdI k (W.setCell p u) (Old w) v xs :=
  ⟨h.1.keeps fun b hb _ => ⟨heap_setCell_other _ _ _ _ (by have hb' : b < w.heap.size := hb; omega), hb⟩, h.2⟩
theorem BoxS.far {w W : World} {B : Nat} {i t : Int} {vc vd : Value} {l d : List Int} (h : BoxS w W B i t vc vd l d) {p : Addr} (hp : w.heap.size ≤ p.block) (hne : B ≠ p.block) (u : Value) : BoxS w (W.setCell p u) B i t vc vd l d :=
  ⟨(heap_setCell_other _ _ _ _ hne).trans h.1, h.2.1.setOld hp, h.2.2.setOld hp⟩
theorem BoxS.setD {w W : World} {B : Nat} {i t : Int} {vc vd y : Value} {l d d' : List Int} (h : BoxS w W B i t vc vd l d) (hB : w.heap.size ≤ B) (hy : RdL W (Old w) y d') : BoxS w (W.setCell ⟨B, 3, none⟩ y) B i t vc y l d' :=
  ⟨setCell_row h.1 3 y, h.2.1.setOld hB, hy.setOld hB⟩
theorem BoxS.setC {w W : World} {B : Nat} {i t : Int} {vc vd y : Value} {l d l' : List Int} (h : BoxS w W B i t vc vd l d) (hB : w.heap.size ≤ B) (hy : RdI .i64 W (Old w) y l') : BoxS w (W.setCell ⟨B, 2, none⟩ y) B i t y vd l' d :=
  ⟨setCell_row h.1 2 y, hy.setOld hB, h.2.2.setOld hB⟩
/-- The first n of some numbers. -/
theorem RdI.front {k : IntKind} {w : World} {N : Nat → Prop} {A : Option Addr} {n cap : Nat} {xs : List Int} (h : RdI k w N (.slice A n cap) xs) {i : Nat} (hi : i ≤ xs.length) : RdI k w N (.slice A i cap) (xs.take i) := by
  have hl : (xs.take i).length = i := by simp; omega
  have hlen : xs.length ≤ 140737488355328 := h.1.2.2.1
  refine ⟨?_, fun y hy => h.2 y (List.mem_of_mem_take hy)⟩
  rw [hl]
  refine ⟨by omega, by simp; omega, by omega, ?_⟩
  rcases h.1.2.2.2 with ⟨h0, hx⟩ | ⟨a, cap1, he, h1, h2, h3, h4⟩
  · simp at h0
    obtain ⟨rfl, rfl, rfl⟩ := h0
    obtain rfl : i = 0 := by omega
    exact .inl ⟨rfl, rfl⟩
  · simp at he
    obtain ⟨rfl, rfl, rfl⟩ := he
    refine .inr ⟨a, _, rfl, by omega, h2, fun hp => h3 (by omega), fun j u hu => h4 j u ?_⟩
    have hj : j < i := by
      rcases Nat.lt_or_ge j i with h | h
      · exact h
      · rw [List.getElem?_eq_none (by simp; omega)] at hu; cases hu
    rw [← hu]
    simp [ints, hj]

set_option maxHeartbeats 20000000 in
set_option maxRecDepth 100000 in
theorem commandsnap_calls (w : World) (v1 : Value) (s1 : SnapD) (v2 : Value) (s2 : SnapD) (at0 x : Int) (hs1 : RdSnap w (fun _ => True) v1 s1) (hs2 : RdSnap w (fun _ => True) v2 s2) (hat0 : (Lit.int .i64 at0).wf = true) (hx0 : (Lit.int .u8 x).wf = true) :
    Calls Try.prog 8 #[v1, v2, .int .i64 at0, .int .u8 x] w fun e w' => e = .returned (.bool true) ∧ Below w.heap.size w w' := by
  have hat := wf64' hat0
  unfold InI64 at hat
  have hx : 0 ≤ x ∧ x ≤ 255 := by simp [Lit.wf, IntKind.min, IntKind.max, IntKind.signed, IntKind.bits] at hx0; omega
  clear hat0 hx0
  obtain ⟨i1, t1, l1, d1⟩ := s1
  obtain ⟨i2, t2, l2, d2⟩ := s2
  obtain ⟨vc1, vd1, rfl, hi1, ht1, hc1, hd1⟩ := hs1
  obtain ⟨vc2, vd2, rfl, hi2, ht2, hc2, hd2⟩ := hs2
  simp only at hi1 ht1 hc1 hd1 hi2 ht2 hc2 hd2
  have hb1 := (Below.refl w.heap.size w).alloc (Nat.le_refl _) (.cells #[.int .i64 i1, .int .i64 t1, vc1, vd1] 51)
  have hb2 := hb1.alloc hb1.size (.cells #[.int .i64 i2, .int .i64 t2, vc2, vd2] 51)
  have ha := heap_alloc_new w (.cells [.int .i64 i1, .int .i64 t1, vc1, vd1].toArray 51)
  have hb := heap_alloc_new (w.alloc (.cells [.int .i64 i1, .int .i64 t1, vc1, vd1].toArray 51)) (.cells [.int .i64 i2, .int .i64 t2, vc2, vd2].toArray 51)
  have ha2 := (((Below.refl (w.alloc (.cells [.int .i64 i1, .int .i64 t1, vc1, vd1].toArray 51)).heap.size _).alloc (Nat.le_refl _) (.cells [.int .i64 i2, .int .i64 t2, vc2, vd2].toArray 51)).block _ (heap_lt ha)).trans ha
  have hsz : (w.alloc (.cells [.int .i64 i1, .int .i64 t1, vc1, vd1].toArray 51)).heap.size = w.heap.size + 1 := by show (w.heap.push _).size = _; simp
  rw [hsz] at hb
  have hc1' : RdI .i64 w (Old w) vc1 l1 := hc1.weaken fun b _ h => h
  have hd1' : RdL w (Old w) vd1 d1 := hd1.weaken fun b _ h => h
  have hc2' : RdI .i64 w (Old w) vc2 l2 := hc2.weaken fun b _ h => h
  have hd2' : RdL w (Old w) vd2 d2 := hd2.weaken fun b _ h => h
  unfold snapV
  go_enter Try.func8, Try.ntmps8
  go_wp2_with fail
  refine (begun17_calls _).mono ?_
  rintro e w3 ⟨rfl, hb3⟩
  have ha3 := (hb3.block _ (heap_lt ha2)).trans ha2
  have hB3 := (hb3.block _ (heap_lt hb)).trans hb
  have hbw3 := below_then' hb2 hb2.size hb3
  have X1 : BoxS w w3 w.heap.size i1 t1 vc1 vd1 l1 d1 := ⟨ha3, hc1'.old (Below.refl _ _) hbw3, hd1'.old (Below.refl _ _) hbw3⟩
  have X2 : BoxS w w3 (w.heap.size + 1) i2 t2 vc2 vd2 l2 d2 := ⟨hB3, hc2'.old (Below.refl _ _) hbw3, hd2'.old (Below.refl _ _) hbw3⟩
  have HX1 := Lib.hid X1
  have HX2 := Lib.hid X2
  clear ha3 hB3 hb3 ha2 hb hc1' hd1' hc2' hd2' hc1 hd1 hc2 hd2 hsz ha hb1 hb2 X1 X2
  go_upto_region 4 with fail
  go_cut [9] (fun x wz => x = .bool true ∧ ∃ (vd1 vd2 : Value) (d1 d2 : List Int), d1.length ≤ 100 ∧ d2.length ≤ 100 ∧ Hid (BoxS w wz w.heap.size i1 t1 vc1 vd1 l1 d1) ∧ Hid (BoxS w wz (w.heap.size + 1) i2 t2 vc2 vd2 l2 d2) ∧ Hid (Below w.heap.size w wz))
  case first =>
    have X1 := HX1.out
    have X2 := HX2.out
    obtain ⟨q3, e3⟩ := cell_row X1.1 (j := 3) rfl
    obtain ⟨p3, f3⟩ := cell_row X2.1 (j := 3) rfl
    have q3' : w3.drew.cell? ⟨w.heap.size, 3, none⟩ = some vd1 := q3
    have p3' : w3.drew.cell? ⟨w.heap.size + 1, 3, none⟩ = some vd2 := p3
    have e3' : w3.drew.frozen? ⟨w.heap.size, 3, none⟩ = false := e3
    have f3' : w3.drew.frozen? ⟨w.heap.size + 1, 3, none⟩ = false := f3
    have y1' : RdL w3.drew (Old w) vd1 d1 := X1.2.2
    have y2' : RdL w3.drew (Old w) vd2 d2 := X2.2.2
    have Y1 := Lib.hid y1'
    have Y2 := Lib.hid y2'
    have X1' : BoxS w w3.drew w.heap.size i1 t1 vc1 vd1 l1 d1 := X1
    have X2' : BoxS w w3.drew (w.heap.size + 1) i2 t2 vc2 vd2 l2 d2 := X2
    have Z1 := Lib.hid X1'
    have Z2 := Lib.hid X2'
    clear y1' y2' X1 X2 HX1 HX2 X1' X2' hx hat
    have hwd := hbw3.drew
    have Hwd := Lib.hid hwd
    clear hbw3 hwd
    refine wp_region_noPanic ?_
    refine wp_region_held_drew (S := fun _ => True) (by kernel_rfl) trivial (fun _ => ?_)
    have hTr : True := trivial
    refine' takeH 0 rfl (by kernel_rfl) (by kernel_rfl) (by kernel_rfl) (fun _ _ _ h => h) (by rfl) (by assumption) ?gyz10 ?grz10
    case gyz10 => intro W hSW; go_simp; try with_reducible rfl
    try simp only [Act.put, List.setIfInBounds_toArray, List.set_cons_zero, List.set_cons_succ]
    refine' takeH 3 rfl (by kernel_rfl) (by kernel_rfl) (by kernel_rfl) (fun _ _ _ h => h) (by rfl) (by assumption) ?gyz13 ?grz13
    case gyz13 => intro W hSW; go_simp; try with_reducible rfl
    try simp only [Act.put, List.setIfInBounds_toArray, List.set_cons_zero, List.set_cons_succ]
    refine wpAnyH_ready (rs := [1, 4]) (by kernel_rfl) (by simp) ?_
    refine AllReadyH.cons rfl (fun K hK => ?_) (AllReadyH.cons rfl (fun K hK => ?_) AllReadyH.nil)
    ·
      go_simp
      try dsimp only
      refine hK.out _ _ trivial (fun _ => ?_)
      clear hK K
      try simp only [Act.put, List.getElem_toArray, List.getElem_cons_succ, List.getElem_cons_zero, List.setIfInBounds_toArray, List.set_cons_zero, List.set_cons_succ]
      refine wpAnyH_ready (rs := [2, 4]) (by kernel_rfl) (by simp) ?_
      refine AllReadyH.cons rfl (fun K hK => ?_) (AllReadyH.cons rfl (fun K hK => ?_) AllReadyH.nil)
      ·
        go_simp
        refine (short_calls _ _ vd1 d1 100 Y1.out (by omega)).mono ?_
        rintro e _ ⟨y1, rfl, hy1, rfl⟩
        obtain ⟨g1, hg1, hl1⟩ : ∃ g, d1.take 100 = g ∧ g.length ≤ 100 := ⟨_, rfl, by simp; omega⟩
        rw [hg1] at hy1
        clear hg1
        obtain ⟨Ay1, capy1, rfl, -, -⟩ := hy1.slice
        try dsimp only
        refine hK.out _ _ trivial (fun _ => ?_)
        clear hK K
        try simp only [Act.put, List.getElem_toArray, List.getElem_cons_succ, List.getElem_cons_zero, List.setIfInBounds_toArray, List.set_cons_zero, List.set_cons_succ]
        refine' takeH 6 rfl (by kernel_rfl) (by kernel_rfl) (by kernel_rfl) (fun _ _ _ h => h) (by rfl) (by assumption) ?gyz26 ?grz26
        case gyz26 => intro W hSW; go_simp; try with_reducible rfl
        try simp only [Act.put, List.setIfInBounds_toArray, List.set_cons_zero, List.set_cons_succ]
        refine wpAnyH_ready (rs := [4]) (by kernel_rfl) (by simp) ?_
        refine AllReadyH.cons rfl (fun K hK => ?_) AllReadyH.nil
        go_simp
        try dsimp only
        refine hK.out _ _ trivial (fun _ => ?_)
        clear hK K
        try simp only [Act.put, List.getElem_toArray, List.getElem_cons_succ, List.getElem_cons_zero, List.setIfInBounds_toArray, List.set_cons_zero, List.set_cons_succ]
        refine wpAnyH_ready (rs := [5]) (by kernel_rfl) (by simp) ?_
        refine AllReadyH.cons rfl (fun K hK => ?_) AllReadyH.nil
        go_simp
        refine (short_calls _ _ vd2 d2 100 Y2.out (by omega)).mono ?_
        rintro e _ ⟨y2, rfl, hy2, rfl⟩
        obtain ⟨g2, hg2, hl2⟩ : ∃ g, d2.take 100 = g ∧ g.length ≤ 100 := ⟨_, rfl, by simp; omega⟩
        rw [hg2] at hy2
        clear hg2
        obtain ⟨Ay2, capy2, rfl, -, -⟩ := hy2.slice
        try dsimp only
        refine hK.out _ _ trivial (fun _ => ?_)
        clear hK K
        try simp only [Act.put, List.getElem_toArray, List.getElem_cons_succ, List.getElem_cons_zero, List.setIfInBounds_toArray, List.set_cons_zero, List.set_cons_succ]
        refine wpAnyH_ready (rs := [7]) (by kernel_rfl) (by simp) ?_
        refine AllReadyH.cons rfl (fun K hK => ?_) AllReadyH.nil
        go_simp
        try dsimp only
        refine hK.out _ _ trivial (fun _ => ?_)
        clear hK K
        try simp only [Act.put, List.getElem_toArray, List.getElem_cons_succ, List.getElem_cons_zero, List.setIfInBounds_toArray, List.set_cons_zero, List.set_cons_succ]
        have p4 := cell_row (Z2.out.far (p := ⟨w.heap.size, 3, none⟩) (Nat.le_refl _) (by simp) (.slice Ay1 g1.length capy1)).1 (j := 3) rfl
        obtain ⟨p4a, p4b⟩ := p4
        refine' takeH 8 rfl (by kernel_rfl) (by kernel_rfl) (by kernel_rfl) (fun _ _ _ h => h) (by rfl) (by assumption) ?gyz38 ?grz38
        case gyz38 => intro W hSW; go_simp; try with_reducible rfl
        try simp only [Act.put, List.setIfInBounds_toArray, List.set_cons_zero, List.set_cons_succ]
        refine wpAnyH_ready (rs := [9]) (by kernel_rfl) (by simp) ?_
        refine AllReadyH.cons rfl (fun K hK => ?_) AllReadyH.nil
        go_simp
        try dsimp only
        refine hK.out _ _ trivial (fun _ => ?_)
        clear hK K
        try simp only [Act.put, List.getElem_toArray, List.getElem_cons_succ, List.getElem_cons_zero, List.setIfInBounds_toArray, List.set_cons_zero, List.set_cons_succ]
        refine wpAnyH_done (by kernel_rfl) ?_ _
        refine NoPanic.normal ?_
        go_wp2
        go_meet
        exact ⟨rfl, _, _, _, _, hl1, hl2, Lib.hid ((Z1.out.setD (Nat.le_refl _) hy1).far (p := ⟨w.heap.size + 1, 3, none⟩) (Nat.le_succ _) (by simp) _), Lib.hid ((Z2.out.far (p := ⟨w.heap.size, 3, none⟩) (Nat.le_refl _) (by simp) _).setD (Nat.le_succ _) (hy2.setOld (p := ⟨w.heap.size, 3, none⟩) (Nat.le_refl _))), Lib.hid ((Hwd.out.setCell (p := ⟨w.heap.size, 3, none⟩) (Nat.le_refl _) _).setCell (p := ⟨w.heap.size + 1, 3, none⟩) (Nat.le_succ _) _)⟩
      ·
        go_simp
        try dsimp only
        refine hK.out _ _ trivial (fun _ => ?_)
        clear hK K
        try simp only [Act.put, List.getElem_toArray, List.getElem_cons_succ, List.getElem_cons_zero, List.setIfInBounds_toArray, List.set_cons_zero, List.set_cons_succ]
        refine wpAnyH_ready (rs := [2]) (by kernel_rfl) (by simp) ?_
        refine AllReadyH.cons rfl (fun K hK => ?_) AllReadyH.nil
        go_simp
        refine (short_calls _ _ vd1 d1 100 Y1.out (by omega)).mono ?_
        rintro e _ ⟨y1, rfl, hy1, rfl⟩
        obtain ⟨g1, hg1, hl1⟩ : ∃ g, d1.take 100 = g ∧ g.length ≤ 100 := ⟨_, rfl, by simp; omega⟩
        rw [hg1] at hy1
        clear hg1
        obtain ⟨Ay1, capy1, rfl, -, -⟩ := hy1.slice
        try dsimp only
        refine hK.out _ _ trivial (fun _ => ?_)
        clear hK K
        try simp only [Act.put, List.getElem_toArray, List.getElem_cons_succ, List.getElem_cons_zero, List.setIfInBounds_toArray, List.set_cons_zero, List.set_cons_succ]
        refine' takeH 6 rfl (by kernel_rfl) (by kernel_rfl) (by kernel_rfl) (fun _ _ _ h => h) (by rfl) (by assumption) ?gyz46 ?grz46
        case gyz46 => intro W hSW; go_simp; try with_reducible rfl
        try simp only [Act.put, List.setIfInBounds_toArray, List.set_cons_zero, List.set_cons_succ]
        refine wpAnyH_ready (rs := [5]) (by kernel_rfl) (by simp) ?_
        refine AllReadyH.cons rfl (fun K hK => ?_) AllReadyH.nil
        go_simp
        refine (short_calls _ _ vd2 d2 100 Y2.out (by omega)).mono ?_
        rintro e _ ⟨y2, rfl, hy2, rfl⟩
        obtain ⟨g2, hg2, hl2⟩ : ∃ g, d2.take 100 = g ∧ g.length ≤ 100 := ⟨_, rfl, by simp; omega⟩
        rw [hg2] at hy2
        clear hg2
        obtain ⟨Ay2, capy2, rfl, -, -⟩ := hy2.slice
        try dsimp only
        refine hK.out _ _ trivial (fun _ => ?_)
        clear hK K
        try simp only [Act.put, List.getElem_toArray, List.getElem_cons_succ, List.getElem_cons_zero, List.setIfInBounds_toArray, List.set_cons_zero, List.set_cons_succ]
        refine wpAnyH_ready (rs := [7]) (by kernel_rfl) (by simp) ?_
        refine AllReadyH.cons rfl (fun K hK => ?_) AllReadyH.nil
        go_simp
        try dsimp only
        refine hK.out _ _ trivial (fun _ => ?_)
        clear hK K
        try simp only [Act.put, List.getElem_toArray, List.getElem_cons_succ, List.getElem_cons_zero, List.setIfInBounds_toArray, List.set_cons_zero, List.set_cons_succ]
        have p4 := cell_row (Z2.out.far (p := ⟨w.heap.size, 3, none⟩) (Nat.le_refl _) (by simp) (.slice Ay1 g1.length capy1)).1 (j := 3) rfl
        obtain ⟨p4a, p4b⟩ := p4
        refine' takeH 8 rfl (by kernel_rfl) (by kernel_rfl) (by kernel_rfl) (fun _ _ _ h => h) (by rfl) (by assumption) ?gyz58 ?grz58
        case gyz58 => intro W hSW; go_simp; try with_reducible rfl
        try simp only [Act.put, List.setIfInBounds_toArray, List.set_cons_zero, List.set_cons_succ]
        refine wpAnyH_ready (rs := [9]) (by kernel_rfl) (by simp) ?_
        refine AllReadyH.cons rfl (fun K hK => ?_) AllReadyH.nil
        go_simp
        try dsimp only
        refine hK.out _ _ trivial (fun _ => ?_)
        clear hK K
        try simp only [Act.put, List.getElem_toArray, List.getElem_cons_succ, List.getElem_cons_zero, List.setIfInBounds_toArray, List.set_cons_zero, List.set_cons_succ]
        refine wpAnyH_done (by kernel_rfl) ?_ _
        refine NoPanic.normal ?_
        go_wp2
        go_meet
        exact ⟨rfl, _, _, _, _, hl1, hl2, Lib.hid ((Z1.out.setD (Nat.le_refl _) hy1).far (p := ⟨w.heap.size + 1, 3, none⟩) (Nat.le_succ _) (by simp) _), Lib.hid ((Z2.out.far (p := ⟨w.heap.size, 3, none⟩) (Nat.le_refl _) (by simp) _).setD (Nat.le_succ _) (hy2.setOld (p := ⟨w.heap.size, 3, none⟩) (Nat.le_refl _))), Lib.hid ((Hwd.out.setCell (p := ⟨w.heap.size, 3, none⟩) (Nat.le_refl _) _).setCell (p := ⟨w.heap.size + 1, 3, none⟩) (Nat.le_succ _) _)⟩
    ·
      go_simp
      try dsimp only
      refine hK.out _ _ trivial (fun _ => ?_)
      clear hK K
      try simp only [Act.put, List.getElem_toArray, List.getElem_cons_succ, List.getElem_cons_zero, List.setIfInBounds_toArray, List.set_cons_zero, List.set_cons_succ]
      refine wpAnyH_ready (rs := [1]) (by kernel_rfl) (by simp) ?_
      refine AllReadyH.cons rfl (fun K hK => ?_) AllReadyH.nil
      go_simp
      try dsimp only
      refine hK.out _ _ trivial (fun _ => ?_)
      clear hK K
      try simp only [Act.put, List.getElem_toArray, List.getElem_cons_succ, List.getElem_cons_zero, List.setIfInBounds_toArray, List.set_cons_zero, List.set_cons_succ]
      refine wpAnyH_ready (rs := [2]) (by kernel_rfl) (by simp) ?_
      refine AllReadyH.cons rfl (fun K hK => ?_) AllReadyH.nil
      go_simp
      refine (short_calls _ _ vd1 d1 100 Y1.out (by omega)).mono ?_
      rintro e _ ⟨y1, rfl, hy1, rfl⟩
      obtain ⟨g1, hg1, hl1⟩ : ∃ g, d1.take 100 = g ∧ g.length ≤ 100 := ⟨_, rfl, by simp; omega⟩
      rw [hg1] at hy1
      clear hg1
      obtain ⟨Ay1, capy1, rfl, -, -⟩ := hy1.slice
      try dsimp only
      refine hK.out _ _ trivial (fun _ => ?_)
      clear hK K
      try simp only [Act.put, List.getElem_toArray, List.getElem_cons_succ, List.getElem_cons_zero, List.setIfInBounds_toArray, List.set_cons_zero, List.set_cons_succ]
      refine' takeH 6 rfl (by kernel_rfl) (by kernel_rfl) (by kernel_rfl) (fun _ _ _ h => h) (by rfl) (by assumption) ?gyz66 ?grz66
      case gyz66 => intro W hSW; go_simp; try with_reducible rfl
      try simp only [Act.put, List.setIfInBounds_toArray, List.set_cons_zero, List.set_cons_succ]
      refine wpAnyH_ready (rs := [5]) (by kernel_rfl) (by simp) ?_
      refine AllReadyH.cons rfl (fun K hK => ?_) AllReadyH.nil
      go_simp
      refine (short_calls _ _ vd2 d2 100 Y2.out (by omega)).mono ?_
      rintro e _ ⟨y2, rfl, hy2, rfl⟩
      obtain ⟨g2, hg2, hl2⟩ : ∃ g, d2.take 100 = g ∧ g.length ≤ 100 := ⟨_, rfl, by simp; omega⟩
      rw [hg2] at hy2
      clear hg2
      obtain ⟨Ay2, capy2, rfl, -, -⟩ := hy2.slice
      try dsimp only
      refine hK.out _ _ trivial (fun _ => ?_)
      clear hK K
      try simp only [Act.put, List.getElem_toArray, List.getElem_cons_succ, List.getElem_cons_zero, List.setIfInBounds_toArray, List.set_cons_zero, List.set_cons_succ]
      refine wpAnyH_ready (rs := [7]) (by kernel_rfl) (by simp) ?_
      refine AllReadyH.cons rfl (fun K hK => ?_) AllReadyH.nil
      go_simp
      try dsimp only
      refine hK.out _ _ trivial (fun _ => ?_)
      clear hK K
      try simp only [Act.put, List.getElem_toArray, List.getElem_cons_succ, List.getElem_cons_zero, List.setIfInBounds_toArray, List.set_cons_zero, List.set_cons_succ]
      have p4 := cell_row (Z2.out.far (p := ⟨w.heap.size, 3, none⟩) (Nat.le_refl _) (by simp) (.slice Ay1 g1.length capy1)).1 (j := 3) rfl
      obtain ⟨p4a, p4b⟩ := p4
      refine' takeH 8 rfl (by kernel_rfl) (by kernel_rfl) (by kernel_rfl) (fun _ _ _ h => h) (by rfl) (by assumption) ?gyz78 ?grz78
      case gyz78 => intro W hSW; go_simp; try with_reducible rfl
      try simp only [Act.put, List.setIfInBounds_toArray, List.set_cons_zero, List.set_cons_succ]
      refine wpAnyH_ready (rs := [9]) (by kernel_rfl) (by simp) ?_
      refine AllReadyH.cons rfl (fun K hK => ?_) AllReadyH.nil
      go_simp
      try dsimp only
      refine hK.out _ _ trivial (fun _ => ?_)
      clear hK K
      try simp only [Act.put, List.getElem_toArray, List.getElem_cons_succ, List.getElem_cons_zero, List.setIfInBounds_toArray, List.set_cons_zero, List.set_cons_succ]
      refine wpAnyH_done (by kernel_rfl) ?_ _
      refine NoPanic.normal ?_
      go_wp2
      go_meet
      exact ⟨rfl, _, _, _, _, hl1, hl2, Lib.hid ((Z1.out.setD (Nat.le_refl _) hy1).far (p := ⟨w.heap.size + 1, 3, none⟩) (Nat.le_succ _) (by simp) _), Lib.hid ((Z2.out.far (p := ⟨w.heap.size, 3, none⟩) (Nat.le_refl _) (by simp) _).setD (Nat.le_succ _) (hy2.setOld (p := ⟨w.heap.size, 3, none⟩) (Nat.le_refl _))), Lib.hid ((Hwd.out.setCell (p := ⟨w.heap.size, 3, none⟩) (Nat.le_refl _) _).setCell (p := ⟨w.heap.size + 1, 3, none⟩) (Nat.le_succ _) _)⟩
  case rest =>
  obtain ⟨rfl, vd1, vd2, d1, d2, hd1, hd2, HX1, HX2, HBw⟩ := hcut
  clear hbw3
  have X1 := HX1.out
  obtain ⟨q2, e2⟩ := cell_row X1.1 (j := 2) rfl
  have HI1 := Lib.hid X1.2.1
  obtain ⟨Ac1, cap1, rfl, hq1, hq2⟩ := X1.2.1.slice
  simp only [maxLen] at hq2
  have hll : l1.length ≤ 140737488355328 := X1.2.1.1.2.2.1
  clear X1
  go_upto_if 30 with fail
  go_cut [9] (fun x wz => x = .bool true ∧ ∃ (vc1 : Value) (l1 : List Int), l1.length ≤ 9 ∧ Hid (BoxS w wz w.heap.size i1 t1 vc1 vd1 l1 d1) ∧ Hid (BoxS w wz (w.heap.size + 1) i2 t2 vc2 vd2 l2 d2) ∧ Hid (Below w.heap.size w wz))
  case first =>
    by_cases h9 : 9 < l1.length
    · have hfr := HI1.out.front (i := 9) (by omega)
      have hfl : (l1.take 9).length ≤ 9 := by simp; omega
      have Hfr := Lib.hid hfr
      clear hfr
      go_wp2_with fail
      go_meet
      exact ⟨rfl, _, _, hfl, Lib.hid (HX1.out.setC (Nat.le_refl _) Hfr.out), Lib.hid (HX2.out.far (p := ⟨w.heap.size, 2, none⟩) (Nat.le_refl _) (by simp) _), Lib.hid (HBw.out.setCell (p := ⟨w.heap.size, 2, none⟩) (Nat.le_refl _) _)⟩
    · go_wp2_with fail
      go_meet
      exact ⟨rfl, _, l1, by omega, HX1, HX2, HBw⟩
  case rest =>
  obtain ⟨rfl, vc1, l1, hn1, HX1, HX2, HBw⟩ := hcut
  clear q2 e2 hq1 hq2 hll HI1
  have X2 := HX2.out
  obtain ⟨q2, e2⟩ := cell_row X2.1 (j := 2) rfl
  have HI2 := Lib.hid X2.2.1
  obtain ⟨Ac2, cap2, rfl, hq1, hq2⟩ := X2.2.1.slice
  simp only [maxLen] at hq2
  have hll : l2.length ≤ 140737488355328 := X2.2.1.1.2.2.1
  clear X2
  go_upto_if 38 with fail
  go_cut [9] (fun x wz => x = .bool true ∧ ∃ (vc2 : Value) (l2 : List Int), l2.length ≤ 9 ∧ Hid (BoxS w wz w.heap.size i1 t1 vc1 vd1 l1 d1) ∧ Hid (BoxS w wz (w.heap.size + 1) i2 t2 vc2 vd2 l2 d2) ∧ Hid (Below w.heap.size w wz))
  case first =>
    by_cases h9 : 9 < l2.length
    · have hfr := HI2.out.front (i := 9) (by omega)
      have hfl : (l2.take 9).length ≤ 9 := by simp; omega
      have Hfr := Lib.hid hfr
      clear hfr
      go_wp2_with fail
      go_meet
      exact ⟨rfl, _, _, hfl, Lib.hid (HX1.out.far (p := ⟨w.heap.size + 1, 2, none⟩) (Nat.le_succ _) (by simp) _), Lib.hid (HX2.out.setC (Nat.le_succ _) Hfr.out), Lib.hid (HBw.out.setCell (p := ⟨w.heap.size + 1, 2, none⟩) (Nat.le_succ _) _)⟩
    · go_wp2_with fail
      go_meet
      exact ⟨rfl, _, l2, by omega, HX1, HX2, HBw⟩
  case rest =>
  obtain ⟨rfl, vc2, l2, hn2, HX1, HX2, HBw⟩ := hcut
  clear q2 e2 hq1 hq2 hll HI2
  have hok1 : SnapD.ok ⟨i1, t1, l1, d1⟩ := ⟨hi1, ht1, HX1.out.2.1.2.mem, by show l1.length ≤ _; omega, by show d1.length ≤ _; omega, HX1.out.2.2.2⟩
  have hok2 : SnapD.ok ⟨i2, t2, l2, d2⟩ := ⟨hi2, ht2, HX2.out.2.1.2.mem, by show l2.length ≤ _; omega, by show d2.length ≤ _; omega, HX2.out.2.2.2⟩
  have hlA := snapB_len hok1
  simp only at hlA
  obtain ⟨SA, hSA⟩ : ∃ S, snapB ⟨i1, t1, l1, d1⟩ = S := ⟨_, rfl⟩
  obtain ⟨SB, hSB⟩ : ∃ S, snapB ⟨i2, t2, l2, d2⟩ = S := ⟨_, rfl⟩
  have hinj : SA = SB ↔ SnapD.Eq ⟨i1, t1, l1, d1⟩ ⟨i2, t2, l2, d2⟩ := by
    rw [← hSA, ← hSB]
    constructor
    · intro h
      have := snapB_inj hok1 hok2 h
      simp only [SnapD.mk.injEq] at this
      exact this
    · rintro ⟨h1, h2, h3, h4⟩
      simp only at h1 h2 h3 h4
      rw [h1, h2, h3, h4]
  have Hinj := Lib.hid hinj
  have HOK := Lib.hid (by have h := snap_read hok1; rw [hSA] at h; exact h)
  have HBy := Lib.hid (And.intro (by have h := snapB_bytes hok1; rw [hSA] at h; exact h) (by have h := snapB_bytes hok2; rw [hSB] at h; exact h))
  have hlA' : SA.length ≤ 1000 := by rw [hSA] at hlA; omega
  have Hsn1 := Lib.hid (fun (W : World) (hW : Below wc.heap.size wc W) => (show Calls Try.prog 43 #[.agg #[.int .i64 i1, .int .i64 t1, vc1, vd1]] W (fun e w' => ∃ v', e = .returned v' ∧ NewB 5 W w' v' SA) from by rw [← hSA]; exact snap_calls W _ _ ⟨i1, t1, l1, d1⟩ vc1 vd1 hok1 (HX1.out.2.1.below hW) (HX1.out.2.2.below hW)))
  have Hsn2 := Lib.hid (fun (W : World) (hW : Below wc.heap.size wc W) => (show Calls Try.prog 43 #[.agg #[.int .i64 i2, .int .i64 t2, vc2, vd2]] W (fun e w' => ∃ v', e = .returned v' ∧ NewB 5 W w' v' SB) from by rw [← hSB]; exact snap_calls W _ _ ⟨i2, t2, l2, d2⟩ vc2 vd2 hok2 (HX2.out.2.1.below hW) (HX2.out.2.2.below hW)))
  have HC := Lib.hid (fun (W : World) (hW : Below wc.heap.size wc W) => (show W.cell? ⟨w.heap.size, 0, none⟩ = some (.int .i64 i1) ∧ W.cell? ⟨w.heap.size, 1, none⟩ = some (.int .i64 t1) ∧ W.cell? ⟨w.heap.size, 2, none⟩ = some vc1 ∧ W.cell? ⟨w.heap.size, 3, none⟩ = some vd1 ∧ W.cell? ⟨w.heap.size + 1, 0, none⟩ = some (.int .i64 i2) ∧ W.cell? ⟨w.heap.size + 1, 1, none⟩ = some (.int .i64 t2) ∧ W.cell? ⟨w.heap.size + 1, 2, none⟩ = some vc2 ∧ W.cell? ⟨w.heap.size + 1, 3, none⟩ = some vd2 from
    ⟨(cell_row (HX1.out.below hW).1 (j := 0) rfl).1, (cell_row (HX1.out.below hW).1 (j := 1) rfl).1, (cell_row (HX1.out.below hW).1 (j := 2) rfl).1, (cell_row (HX1.out.below hW).1 (j := 3) rfl).1, (cell_row (HX2.out.below hW).1 (j := 0) rfl).1, (cell_row (HX2.out.below hW).1 (j := 1) rfl).1, (cell_row (HX2.out.below hW).1 (j := 2) rfl).1, (cell_row (HX2.out.below hW).1 (j := 3) rfl).1⟩))
  have hd0 : Below wc.heap.size wc wc.drew := (Below.refl _ _).drew
  clear hinj hok1 hok2 hSA hSB hlA
  go_upto_region 9 with fail
  go_cut [10, 11] (fun p q wz => ∃ (Aa : Option Addr) (capa : Nat) (Ab : Option Addr) (capb : Nat), p = .slice Aa SA.length capa ∧ q = .slice Ab SB.length capb ∧ Hid (RdB wz (fun _ => True) p SA) ∧ Hid (RdB wz (fun _ => True) q SB) ∧ Hid (Below wc.heap.size wc wz))
  case first =>
    clear hx hat
    refine wp_region_noPanic ?_
    refine wp_region_held_drew (S := fun W => W.cell? ⟨w.heap.size, 0, none⟩ = some (.int .i64 i1) ∧ W.cell? ⟨w.heap.size, 1, none⟩ = some (.int .i64 t1) ∧ W.cell? ⟨w.heap.size, 2, none⟩ = some vc1 ∧ W.cell? ⟨w.heap.size, 3, none⟩ = some vd1 ∧ W.cell? ⟨(w.heap.size + 1), 0, none⟩ = some (.int .i64 i2) ∧ W.cell? ⟨(w.heap.size + 1), 1, none⟩ = some (.int .i64 t2) ∧ W.cell? ⟨(w.heap.size + 1), 2, none⟩ = some vc2 ∧ W.cell? ⟨(w.heap.size + 1), 3, none⟩ = some vd2) (by kernel_rfl) (HC.out _ hd0) (fun hH0 => ?_)
    refine' takeH 0 rfl (by kernel_rfl) (by kernel_rfl) (by kernel_rfl) (fun _ _ _ h => h) (by rfl) (by assumption) ?gyq10 ?grq10
    case gyq10 => intro W hSW; obtain ⟨s0, s1, s2, s3, r0, r1, r2, r3⟩ := hSW; go_simp; try with_reducible rfl
    try simp only [Act.put, List.setIfInBounds_toArray, List.set_cons_zero, List.set_cons_succ]
    refine' takeH 2 rfl (by kernel_rfl) (by kernel_rfl) (by kernel_rfl) (fun _ _ _ h => h) (by rfl) (by assumption) ?gyq12 ?grq12
    case gyq12 => intro W hSW; obtain ⟨s0, s1, s2, s3, r0, r1, r2, r3⟩ := hSW; go_simp; try with_reducible rfl
    try simp only [Act.put, List.setIfInBounds_toArray, List.set_cons_zero, List.set_cons_succ]
    refine wpAnyH_ready (rs := [1]) (by kernel_rfl) (by simp) ?_
    refine AllReadyH.cons rfl (fun K hK => ?_) AllReadyH.nil
    go_simp
    refine (Hsn1.out _ hd0).mono ?_
    rintro e wa ⟨va, rfl, hna⟩
    have hba := below_undrew1 hna.2.2.2
    have hra := hna.rd
    obtain ⟨Aa, capa, rfl⟩ := own_slice' hna.1
    try dsimp only
    refine hK.out _ _ (HC.out _ hba) (fun hH2 => ?_)
    clear hK K
    try simp only [Act.put, List.getElem_toArray, List.getElem_cons_succ, List.getElem_cons_zero, List.setIfInBounds_toArray, List.set_cons_zero, List.set_cons_succ]
    refine wpAnyH_ready (rs := [3]) (by kernel_rfl) (by simp) ?_
    refine AllReadyH.cons rfl (fun K hK => ?_) AllReadyH.nil
    go_simp
    refine (Hsn2.out _ hba).mono ?_
    rintro e wb ⟨vb, rfl, hnb⟩
    have hbb := below_then' hba hba.size hnb.2.2.2
    have hrb := hnb.rd.any
    have hra2 := (hra.below hnb.2.2.2).any
    obtain ⟨Ab, capb, rfl⟩ := own_slice' hnb.1
    try dsimp only
    refine hK.out _ _ (HC.out _ hbb) (fun hH3 => ?_)
    clear hK K
    try simp only [Act.put, List.getElem_toArray, List.getElem_cons_succ, List.getElem_cons_zero, List.setIfInBounds_toArray, List.set_cons_zero, List.set_cons_succ]
    refine' takeH 4 rfl (by kernel_rfl) (by kernel_rfl) (by kernel_rfl) (fun _ _ _ h => h) (by rfl) (by assumption) ?gyq44 ?grq44
    case gyq44 => intro W hSW; go_simp; try with_reducible rfl
    try simp only [Act.put, List.setIfInBounds_toArray, List.set_cons_zero, List.set_cons_succ]
    refine' takeH 5 rfl (by kernel_rfl) (by kernel_rfl) (by kernel_rfl) (fun _ _ _ h => h) (by rfl) (by assumption) ?gyq45 ?grq45
    case gyq45 => intro W hSW; go_simp; try with_reducible rfl
    try simp only [Act.put, List.setIfInBounds_toArray, List.set_cons_zero, List.set_cons_succ]
    refine wpAnyH_done (by kernel_rfl) ?_ _
    refine NoPanic.normal ?_
    go_wp2
    go_meet
    exact ⟨_, _, _, _, rfl, rfl, Lib.hid hra2, Lib.hid hrb, Lib.hid hbb⟩
  case rest =>
  obtain ⟨Aa, capa, Ab, capb, rfl, rfl, HRa, HRb, HBn⟩ := hcut
  have hX1 := HX1.out.below HBn.out
  have hX2 := HX2.out.below HBn.out
  have hbn := below_then' HBw.out HBw.out.size HBn.out
  clear HX1 HX2 HBw HBn Hsn1 Hsn2 HC hd0
  go_wp2_with fail
  refine (readsnap_calls _ _ _ SA HRa.out.1 (by omega)).mono ?_
  rintro e w6 ⟨v6, i3, t3, vc3, vd3, er, rfl, rfl, hb6, hcase⟩
  rcases hcase with ⟨_, rfl, hi3, ht3, hc3, hd3⟩ | ⟨hno, _⟩
  case inr => exact absurd HOK.out.1 hno
  rw [HOK.out.2] at hi3 ht3 hc3 hd3
  simp only at hi3 ht3 hc3 hd3
  subst hi3 ht3
  simp only [snapV]
  obtain ⟨Ac3, cpc3, rfl, -, -⟩ := hc3.slice
  obtain ⟨Ad3, cpd3, rfl, -, -⟩ := hd3.slice
  have hX1' := hX1.below hb6
  have hX2' := hX2.below hb6
  have hra := HRa.out.below hb6
  have hrb := HRb.out.below hb6
  have hbn' := below_then' hbn hbn.size hb6
  clear hX1 hX2 HRa HRb hbn hb6 HOK
  have hz := heap_alloc_new w6 (.cells [.int .i64 i3, .int .i64 t3, (.slice Ac3 l1.length cpc3), (.slice Ad3 d1.length cpd3)].toArray 51)
  have hb67 := (Below.refl w6.heap.size w6).alloc (Nat.le_refl _) (.cells #[.int .i64 i3, .int .i64 t3, (.slice Ac3 l1.length cpc3), (.slice Ad3 d1.length cpd3)] 51)
  obtain ⟨w7, hw7⟩ : ∃ W, w6.alloc (.cells #[.int .i64 i3, .int .i64 t3, (.slice Ac3 l1.length cpc3), (.slice Ad3 d1.length cpd3)] 51) = W := ⟨_, rfl⟩
  have hw7' : w6.alloc (.cells [.int .i64 i3, .int .i64 t3, (.slice Ac3 l1.length cpc3), (.slice Ad3 d1.length cpd3)].toArray 51) = w7 := hw7
  rw [hw7'] at hz
  rw [hw7] at hb67
  clear hw7'
  have HX1 := Lib.hid (hX1'.below hb67)
  have HX2 := Lib.hid (hX2'.below hb67)
  have Hra := Lib.hid (hra.below hb67)
  have Hrb := Lib.hid (hrb.below hb67)
  have Hc3 := Lib.hid (hc3.below hb67)
  have Hd3 := Lib.hid (hd3.below hb67)
  have hb7 := below_then' hbn' hbn'.size hb67
  have Hz := Lib.hid hz
  obtain ⟨R, hR⟩ : ∃ R, decide (SnapD.Eq ⟨i3, t3, l1, d1⟩ ⟨i2, t2, l2, d2⟩) = R := ⟨_, rfl⟩
  obtain ⟨sA, hsA⟩ : ∃ s, strOfNums SA = s := ⟨_, rfl⟩
  obtain ⟨sB, hsB⟩ : ∃ s, strOfNums SB = s := ⟨_, rfl⟩
  have Hbe : Hid ((sA.toList == sB.toList) = R) := by
    show _ = _
    rw [← hsA, ← hsB, beq_of HBy.out.1 HBy.out.2, ← hR]
    exact decide_eq_decide.2 Hinj.out
  have Heq1 := Lib.hid (fun (W : World) (hW : Below w7.heap.size w7 W) => (show Calls Try.prog 45 #[.agg #[.int .i64 i3, .int .i64 t3, (.slice Ac3 l1.length cpc3), (.slice Ad3 d1.length cpd3)], .agg #[.int .i64 i3, .int .i64 t3, vc1, vd1]] W (fun e w' => e = .returned (.bool true) ∧ Below W.heap.size W w') from by
    have h := eqsnap_calls W _ _ _ _ ⟨i3, t3, l1, d1⟩ ⟨i3, t3, l1, d1⟩ (.slice Ac3 l1.length cpc3) (.slice Ad3 d1.length cpd3) vc1 vd1 (Hc3.out.below hW) (Hd3.out.below hW) (HX1.out.2.1.below hW) (HX1.out.2.2.below hW)
    rw [show decide (SnapD.Eq ⟨i3, t3, l1, d1⟩ ⟨i3, t3, l1, d1⟩) = true from decide_eq_true ⟨rfl, rfl, rfl, rfl⟩] at h
    exact h))
  have Heq2 := Lib.hid (fun (W : World) (hW : Below w7.heap.size w7 W) => (show Calls Try.prog 45 #[.agg #[.int .i64 i3, .int .i64 t3, vc1, vd1], .agg #[.int .i64 i2, .int .i64 t2, vc2, vd2]] W (fun e w' => e = .returned (.bool R) ∧ Below W.heap.size W w') from by
    have h := eqsnap_calls W _ _ _ _ ⟨i3, t3, l1, d1⟩ ⟨i2, t2, l2, d2⟩ vc1 vd1 vc2 vd2 (HX1.out.2.1.below hW) (HX1.out.2.2.below hW) (HX2.out.2.1.below hW) (HX2.out.2.2.below hW)
    rw [hR] at h
    exact h))
  have HcA := Lib.hid (fun (W : World) (hW : Below w7.heap.size w7 W) => (show (convert 24 9 (.slice Aa SA.length capa)).run Try.prog W = .ok (.string sA) W from by rw [← hsA]; exact RdB.conv (Hra.out.below hW) Try.underlying24 Try.underlying5 Try.underlying9))
  have HcB := Lib.hid (fun (W : World) (hW : Below w7.heap.size w7 W) => (show (convert 24 9 (.slice Ab SB.length capb)).run Try.prog W = .ok (.string sB) W from by rw [← hsB]; exact RdB.conv (Hrb.out.below hW) Try.underlying24 Try.underlying5 Try.underlying9))
  have HC := Lib.hid (fun (W : World) (hW : Below w7.heap.size w7 W) => (show W.cell? ⟨w.heap.size, 0, none⟩ = some (.int .i64 i3) ∧ W.cell? ⟨w.heap.size, 1, none⟩ = some (.int .i64 t3) ∧ W.cell? ⟨w.heap.size, 2, none⟩ = some vc1 ∧ W.cell? ⟨w.heap.size, 3, none⟩ = some vd1 ∧ W.cell? ⟨w.heap.size + 1, 0, none⟩ = some (.int .i64 i2) ∧ W.cell? ⟨w.heap.size + 1, 1, none⟩ = some (.int .i64 t2) ∧ W.cell? ⟨w.heap.size + 1, 2, none⟩ = some vc2 ∧ W.cell? ⟨w.heap.size + 1, 3, none⟩ = some vd2 ∧ W.cell? ⟨w6.heap.size, 0, none⟩ = some (.int .i64 i3) ∧ W.cell? ⟨w6.heap.size, 1, none⟩ = some (.int .i64 t3) ∧ W.cell? ⟨w6.heap.size, 2, none⟩ = some (.slice Ac3 l1.length cpc3) ∧ W.cell? ⟨w6.heap.size, 3, none⟩ = some (.slice Ad3 d1.length cpd3) ∧ (convert 24 9 (.slice Aa SA.length capa)).run Try.prog W = .ok (.string sA) W ∧ (convert 24 9 (.slice Ab SB.length capb)).run Try.prog W = .ok (.string sB) W from
    ⟨(cell_row (HX1.out.below hW).1 (j := 0) rfl).1, (cell_row (HX1.out.below hW).1 (j := 1) rfl).1, (cell_row (HX1.out.below hW).1 (j := 2) rfl).1, (cell_row (HX1.out.below hW).1 (j := 3) rfl).1, (cell_row (HX2.out.below hW).1 (j := 0) rfl).1, (cell_row (HX2.out.below hW).1 (j := 1) rfl).1, (cell_row (HX2.out.below hW).1 (j := 2) rfl).1, (cell_row (HX2.out.below hW).1 (j := 3) rfl).1, (cell_row ((hW.block _ (heap_lt Hz.out)).trans Hz.out) (j := 0) rfl).1, (cell_row ((hW.block _ (heap_lt Hz.out)).trans Hz.out) (j := 1) rfl).1, (cell_row ((hW.block _ (heap_lt Hz.out)).trans Hz.out) (j := 2) rfl).1, (cell_row ((hW.block _ (heap_lt Hz.out)).trans Hz.out) (j := 3) rfl).1, HcA.out W hW, HcB.out W hW⟩))
  have hd0 : Below w7.heap.size w7 w7.drew := (Below.refl _ _).drew
  clear hX1' hX2' hra hrb hbn' hz hb67 hc3 hd3 hR hsA hsB HBy Hinj HX1 HX2 Hrb Hc3 Hd3 Hz HcA HcB
  go_upto_region 11 with fail
  clear hw7
  go_cut [70] (fun p wz => p = .bool false ∧ Hid (Below w7.heap.size w7 wz))
  case first =>
    clear hx hat
    refine wp_region_noPanic ?_
    refine wp_region_held_drew (S := fun W => W.cell? ⟨w.heap.size, 0, none⟩ = some (.int .i64 i3) ∧ W.cell? ⟨w.heap.size, 1, none⟩ = some (.int .i64 t3) ∧ W.cell? ⟨w.heap.size, 2, none⟩ = some vc1 ∧ W.cell? ⟨w.heap.size, 3, none⟩ = some vd1 ∧ W.cell? ⟨(w.heap.size + 1), 0, none⟩ = some (.int .i64 i2) ∧ W.cell? ⟨(w.heap.size + 1), 1, none⟩ = some (.int .i64 t2) ∧ W.cell? ⟨(w.heap.size + 1), 2, none⟩ = some vc2 ∧ W.cell? ⟨(w.heap.size + 1), 3, none⟩ = some vd2 ∧ W.cell? ⟨w6.heap.size, 0, none⟩ = some (.int .i64 i3) ∧ W.cell? ⟨w6.heap.size, 1, none⟩ = some (.int .i64 t3) ∧ W.cell? ⟨w6.heap.size, 2, none⟩ = some (.slice Ac3 l1.length cpc3) ∧ W.cell? ⟨w6.heap.size, 3, none⟩ = some (.slice Ad3 d1.length cpd3) ∧ (convert 24 9 (.slice Aa SA.length capa)).run Try.prog W = .ok (.string sA) W ∧ (convert 24 9 (.slice Ab SB.length capb)).run Try.prog W = .ok (.string sB) W) (by kernel_rfl) (HC.out _ hd0) (fun hH0 => ?_)
    refine' takeH 0 rfl (by kernel_rfl) (by kernel_rfl) (by kernel_rfl) (fun _ _ _ h => h) (by rfl) (by assumption) ?gyq50 ?grq50
    case gyq50 => intro W hSW; go_simp; try with_reducible rfl
    try simp only [Act.put, List.setIfInBounds_toArray, List.set_cons_zero, List.set_cons_succ]
    refine' takeH 1 rfl (by kernel_rfl) (by kernel_rfl) (by kernel_rfl) (fun _ _ _ h => h) (by rfl) (by assumption) ?gyq51 ?grq51
    case gyq51 => intro W hSW; go_simp; try with_reducible rfl
    try simp only [Act.put, List.setIfInBounds_toArray, List.set_cons_zero, List.set_cons_succ]
    refine' takeH 2 rfl (by kernel_rfl) (by kernel_rfl) (by kernel_rfl) (fun _ _ _ h => h) (by rfl) (by assumption) ?gyq52 ?grq52
    case gyq52 => intro W hSW; go_simp; try with_reducible rfl
    try simp only [Act.put, List.setIfInBounds_toArray, List.set_cons_zero, List.set_cons_succ]
    refine' takeH 3 rfl (by kernel_rfl) (by kernel_rfl) (by kernel_rfl) (fun _ _ _ h => h) (by rfl) (by assumption) ?gyq63 ?grq63
    case gyq63 => intro W hSW; obtain ⟨s0, s1, s2, s3, r0, r1, r2, r3, u0, u1, u2, u3, cA, cB⟩ := hSW; go_simp; try with_reducible rfl
    try simp only [Act.put, List.setIfInBounds_toArray, List.set_cons_zero, List.set_cons_succ]
    refine' takeH 4 rfl (by kernel_rfl) (by kernel_rfl) (by kernel_rfl) (fun _ _ _ h => h) (by rfl) (by assumption) ?gyq64 ?grq64
    case gyq64 => intro W hSW; obtain ⟨s0, s1, s2, s3, r0, r1, r2, r3, u0, u1, u2, u3, cA, cB⟩ := hSW; go_simp; try with_reducible rfl
    try simp only [Act.put, List.setIfInBounds_toArray, List.set_cons_zero, List.set_cons_succ]
    refine wpAnyH_ready (rs := [5]) (by kernel_rfl) (by simp) ?_
    refine AllReadyH.cons rfl (fun K hK => ?_) AllReadyH.nil
    go_simp
    refine (Heq1.out _ hd0).mono ?_
    rintro e wa ⟨rfl, hna⟩
    have hba := below_undrew1 hna
    try dsimp only
    refine hK.out _ _ (HC.out _ hba) (fun hH7 => ?_)
    clear hK K
    try simp only [Act.put, List.getElem_toArray, List.getElem_cons_succ, List.getElem_cons_zero, List.setIfInBounds_toArray, List.set_cons_zero, List.set_cons_succ]
    refine' takeH 6 rfl (by kernel_rfl) (by kernel_rfl) (by kernel_rfl) (fun _ _ _ h => h) (by rfl) (by assumption) ?gyq86 ?grq86
    case gyq86 => intro W hSW; go_simp; try with_reducible rfl
    try simp only [Act.put, List.setIfInBounds_toArray, List.set_cons_zero, List.set_cons_succ]
    refine' takeH 7 rfl (by kernel_rfl) (by kernel_rfl) (by kernel_rfl) (fun _ _ _ h => h) (by rfl) (by assumption) ?gyq87 ?grq87
    case gyq87 => intro W hSW; go_simp; try with_reducible rfl
    try simp only [Act.put, List.setIfInBounds_toArray, List.set_cons_zero, List.set_cons_succ]
    refine' takeH 8 rfl (by kernel_rfl) (by kernel_rfl) (by kernel_rfl) (fun _ _ _ h => h) (by rfl) (by assumption) ?gyq88 ?grq88
    case gyq88 => intro W hSW; go_simp; try with_reducible rfl
    try simp only [Act.put, List.setIfInBounds_toArray, List.set_cons_zero, List.set_cons_succ]
    refine' takeH 9 rfl (by kernel_rfl) (by kernel_rfl) (by kernel_rfl) (fun _ _ _ h => h) (by rfl) (by assumption) ?gyq89 ?grq89
    case gyq89 => intro W hSW; go_simp; try with_reducible rfl
    try simp only [Act.put, List.setIfInBounds_toArray, List.set_cons_zero, List.set_cons_succ]
    refine' takeH 10 rfl (by kernel_rfl) (by kernel_rfl) (by kernel_rfl) (fun _ _ _ h => h) (by rfl) (by assumption) ?gyq910 ?grq910
    case gyq910 => intro W hSW; obtain ⟨s0, s1, s2, s3, r0, r1, r2, r3, u0, u1, u2, u3, cA, cB⟩ := hSW; go_simp; try with_reducible rfl
    try simp only [Act.put, List.setIfInBounds_toArray, List.set_cons_zero, List.set_cons_succ]
    refine' takeH 11 rfl (by kernel_rfl) (by kernel_rfl) (by kernel_rfl) (fun _ _ _ h => h) (by rfl) (by assumption) ?gyq1011 ?grq1011
    case gyq1011 => intro W hSW; go_simp; try with_reducible rfl
    try simp only [Act.put, List.setIfInBounds_toArray, List.set_cons_zero, List.set_cons_succ]
    refine' takeH 12 rfl (by kernel_rfl) (by kernel_rfl) (by kernel_rfl) (fun _ _ _ h => h) (by rfl) (by assumption) ?gyq1112 ?grq1112
    case gyq1112 => intro W hSW; obtain ⟨s0, s1, s2, s3, r0, r1, r2, r3, u0, u1, u2, u3, cA, cB⟩ := hSW; go_simp; try with_reducible rfl
    try simp only [Act.put, List.setIfInBounds_toArray, List.set_cons_zero, List.set_cons_succ]
    refine' takeH 13 rfl (by kernel_rfl) (by kernel_rfl) (by kernel_rfl) (fun _ _ _ h => h) (by rfl) (by assumption) ?gyq1213 ?grq1213
    case gyq1213 => intro W hSW; go_simp; try with_reducible rfl
    try simp only [Act.put, List.setIfInBounds_toArray, List.set_cons_zero, List.set_cons_succ]
    refine' takeH 14 rfl (by kernel_rfl) (by kernel_rfl) (by kernel_rfl) (fun _ _ _ h => h) (by rfl) (by assumption) ?gyq1314 ?grq1314
    case gyq1314 => intro W hSW; obtain ⟨s0, s1, s2, s3, r0, r1, r2, r3, u0, u1, u2, u3, cA, cB⟩ := hSW; go_simp; try with_reducible rfl
    try simp only [Act.put, List.setIfInBounds_toArray, List.set_cons_zero, List.set_cons_succ]
    refine' takeH 15 rfl (by kernel_rfl) (by kernel_rfl) (by kernel_rfl) (fun _ _ _ h => h) (by rfl) (by assumption) ?gyq1315 ?grq1315
    case gyq1315 => intro W hSW; obtain ⟨s0, s1, s2, s3, r0, r1, r2, r3, u0, u1, u2, u3, cA, cB⟩ := hSW; go_simp; try with_reducible rfl
    try simp only [Act.put, List.setIfInBounds_toArray, List.set_cons_zero, List.set_cons_succ]
    refine wpAnyH_ready (rs := [16]) (by kernel_rfl) (by simp) ?_
    refine AllReadyH.cons rfl (fun K hK => ?_) AllReadyH.nil
    go_simp
    refine (Heq2.out _ hba).mono ?_
    rintro e wb ⟨rfl, hnb⟩
    have hbb := below_then' hba hba.size hnb
    try dsimp only
    refine hK.out _ _ (HC.out _ hbb) (fun hH14 => ?_)
    clear hK K
    try simp only [Act.put, List.getElem_toArray, List.getElem_cons_succ, List.getElem_cons_zero, List.setIfInBounds_toArray, List.set_cons_zero, List.set_cons_succ]
    refine' takeH 17 rfl (by kernel_rfl) (by kernel_rfl) (by kernel_rfl) (fun _ _ _ h => h) (by rfl) (by assumption) ?gyq1517 ?grq1517
    case gyq1517 => intro W hSW; go_simp; try with_reducible rfl
    try simp only [Act.put, List.setIfInBounds_toArray, List.set_cons_zero, List.set_cons_succ]
    refine' takeH 18 rfl (by kernel_rfl) (by kernel_rfl) (by kernel_rfl) (fun _ _ _ h => h) (by rfl) (by assumption) ?gyq1518 ?grq1518
    case gyq1518 => intro W hSW; go_simp; try with_reducible rfl
    try simp only [Act.put, List.setIfInBounds_toArray, List.set_cons_zero, List.set_cons_succ]
    refine wpAnyH_done (by kernel_rfl) ?_ _
    refine NoPanic.normal ?_
    go_wp2
    go_meet
    exact ⟨by rw [Hbe.out]; simp, Lib.hid hbb⟩
  case rest =>
  obtain ⟨rfl, HB7⟩ := hcut
  have hra := Hra.out.below HB7.out
  have hbw := below_then' hb7 hb7.size HB7.out
  clear Heq1 Heq2 HC hd0 Hbe Hra hb7 HB7
  have hA0 : Acc 5 wc wc (fun _ => 0) (.slice none 0 0) [] := Acc.nil _ (Ext.refl _ _ _)
  go_wp2_with (at_builtin; refine push_acc rfl _ _ 24 5 rfl Try.underlying24 Try.infoU8 rfl (by omega) rfl hA0 _ _ rfl hra.1 (by (try simp only [List.length_nil]); omega) ?_)
  intro A5 cap5 w8 hacc5 hx5
  try simp only [List.nil_append] at hacc5
  try simp only [List.nil_append]
  clear hA0 hx5 hra
  go_upto_region 14 with fail
  go_cut [79] (fun c wx => ∃ B : Bool, c = .bool B ∧ (B = true → 0 < SA.length ∧ 0 ≤ at0) ∧ wx = w8)
  case first =>
    by_cases hc2 : 0 ≤ at0
    · by_cases hc1 : 0 < SA.length
      · go_wp2_with fail
        go_meet
        exact ⟨true, by simp, fun _ => ⟨hc1, hc2⟩, rfl⟩
      · go_wp2_with fail
        go_meet
        exact ⟨false, by simp, (fun h => by cases h), rfl⟩
    · go_wp2_with fail
      go_meet
      exact ⟨false, by simp, (fun h => by cases h), rfl⟩
  case rest =>
  obtain ⟨B, rfl, hBc, rfl⟩ := hcut
  go_upto_if 79 with fail
  go_cut [14] (fun l wz => ∃ (zs : List Int) (A : Option Addr) (cap : Nat), l = .slice A zs.length cap ∧ zs.length ≤ 1000 ∧ Hid (RdB wz (fun _ => True) l zs) ∧ Hid (Below w.heap.size w wz))
  case first =>
    cases B with
    | false =>
      go_wp2_with fail
      go_meet
      exact ⟨SA, _, _, rfl, hlA', Lib.hid (hacc5.rd (by omega)).any, Lib.hid (below_then' hbw hbw.size (hacc5.ext.below0 (by decide)))⟩
    | true =>
      obtain ⟨hc1, hc2⟩ := hBc rfl
      clear hBc
      obtain ⟨a, rfl⟩ := Int.eq_ofNat_of_zero_le hc2
      have hk : a % SA.length < SA.length := Nat.mod_lt _ hc1
      have hmod1 : (a : Int) % (SA.length : Int) = ((a % SA.length : Nat) : Int) := by omega
      have hmod2 : (a : Int).tmod (SA.length : Int) = ((a % SA.length : Nat) : Int) := by rw [Int.tmod_eq_emod_of_nonneg (by omega)]; omega
      have hx00 : ((SA.length : Int) == 0) = false := by simp only [beq_eq_false_iff_ne]; omega
      generalize a % SA.length = k1 at hk hmod1 hmod2
      have hr0 := hacc5.bytes.at k1
      obtain ⟨dd, hdd, hd0, hd1⟩ : ∃ d, bits .xor .u8 (SA.getD k1 0) x = d ∧ 0 ≤ d ∧ d ≤ 255 := by
        refine ⟨_, rfl, ?_⟩
        rw [u8_xor _ x hr0.1 (by omega) hx.1 (by omega)]
        have h1 : (SA.getD k1 0).toNat ^^^ x.toNat < 2 ^ 8 := Nat.xor_lt_two_pow (by omega) (by omega)
        omega
      have hown := hacc5.own.1
      obtain ⟨g, cap2, he, hg1, hg2⟩ := hown.form (by omega)
      simp at he
      obtain ⟨rfl, rfl⟩ := he
      have hcell := hown.cellAt k1 (by omega)
      rw [u8s_get _ _ hk] at hcell
      have hfz := hown.frozenAt k1
      have hst := hown.stored k1 (.int .u8 dd)
      rw [u8s_set] at hst
      obtain ⟨hO7, hx7⟩ := hacc5.own.app hst.2 hst.1 (.inl rfl)
      have hw7 := below_then' hbw hbw.size ((hacc5.ext.trans hx7).below0 (by decide))
      generalize SA.getD k1 0 = c at hcell hdd hr0
      have hr7 : RdB _ (In _ 1) _ (SA.set k1 dd) := Ow.rdB (by simpa using hO7) (by omega) (bytes_set hacc5.bytes hd0 hd1)
      have Hr7 := Lib.hid hr7.any
      have Hw7 := Lib.hid hw7
      clear hr7 hw7 hst hO7 hx7 hown
      go_wp2_with fail
      go_meet
      exact ⟨SA.set k1 dd, some ⟨g, 0, none⟩, cap5, by rw [List.length_set], by simpa using hlA', Hr7, Hw7⟩
  case rest =>
  obtain ⟨zs, Az, capz, rfl, hzl, Hrz, Hbz⟩ := hcut
  clear hacc5 hBc hbw hx hat
  go_wp2_with fail
  refine (readsnap_calls _ _ _ zs Hrz.out.1 (by omega)).mono ?_
  rintro e w9 ⟨v9, i4, t4, vc4, vd4, er, rfl, rfl, hb9, hcase⟩
  have hbz9 := below_then' Hbz.out Hbz.out.size hb9
  have hrz9 := Hrz.out.below hb9
  clear hb9 Hbz
  simp only [snapV]
  rcases hcase with ⟨hok, rfl, hi4, ht4, hc4, hd4⟩ | ⟨_, rfl, rfl, rfl, rfl, rfl⟩
  case inr =>
    have hfin := hbz9.alloc hbz9.size (.cells #[.int .i64 0, .int .i64 0, .slice none 0 0, .slice none 0 0] 51)
    go_wp2
    go_ret
    exact ⟨ret_bool (by simp), hfin⟩
  have hinv := snap_inv Hrz.out.1.2 hok
  have hsl := sD_len zs
  have hokD : (sD zs).ok := ⟨hinv.2.1, hinv.2.2.1, hinv.2.2.2.1, by omega, by omega, hinv.2.2.2.2⟩
  obtain ⟨Ac4, cpc4, rfl, -, -⟩ := hc4.slice
  obtain ⟨Ad4, cpd4, rfl, -, -⟩ := hd4.slice
  obtain ⟨sZ, hsZ⟩ : ∃ s, strOfNums zs = s := ⟨_, rfl⟩
  have HsZ := Lib.hid hsZ
  have Hinv := Lib.hid hinv.1
  have HokD := Lib.hid hokD
  have Hi4 := Lib.hid hi4
  have Ht4 := Lib.hid ht4
  clear hok hinv hsl hokD hi4 ht4 hsZ Hrz
  have hz := heap_alloc_new w9 (.cells [.int .i64 i4, .int .i64 t4, .slice Ac4 (sD zs).c.length cpc4, .slice Ad4 (sD zs).d.length cpd4].toArray 51)
  have hb67 := (Below.refl w9.heap.size w9).alloc (Nat.le_refl _) (.cells #[.int .i64 i4, .int .i64 t4, .slice Ac4 (sD zs).c.length cpc4, .slice Ad4 (sD zs).d.length cpd4] 51)
  obtain ⟨w7, hw7⟩ : ∃ W, w9.alloc (.cells #[.int .i64 i4, .int .i64 t4, .slice Ac4 (sD zs).c.length cpc4, .slice Ad4 (sD zs).d.length cpd4] 51) = W := ⟨_, rfl⟩
  have hw7' : w9.alloc (.cells [.int .i64 i4, .int .i64 t4, .slice Ac4 (sD zs).c.length cpc4, .slice Ad4 (sD zs).d.length cpd4].toArray 51) = w7 := hw7
  rw [hw7'] at hz
  rw [hw7] at hb67
  clear hw7'
  have hrz := hrz9.below hb67
  have hc7 := hc4.below hb67
  have hd7 := hd4.below hb67
  have hbz := below_then' hbz9 hbz9.size hb67
  have Hsn := Lib.hid (fun (W : World) (hW : Below w7.heap.size w7 W) => (show Calls Try.prog 43 #[.agg #[.int .i64 i4, .int .i64 t4, .slice Ac4 (sD zs).c.length cpc4, .slice Ad4 (sD zs).d.length cpd4]] W (fun e w' => ∃ v', e = .returned v' ∧ NewB 5 W w' v' zs) from by
    have h := snap_calls W _ _ (sD zs) _ _ HokD.out (hc7.below hW) (hd7.below hW)
    rw [← Hinv.out, ← Hi4.out, ← Ht4.out] at h
    exact h))
  have HC := Lib.hid (fun (W : World) (hW : Below w7.heap.size w7 W) => (show W.cell? ⟨w9.heap.size, 0, none⟩ = some (.int .i64 i4) ∧ W.cell? ⟨w9.heap.size, 1, none⟩ = some (.int .i64 t4) ∧ W.cell? ⟨w9.heap.size, 2, none⟩ = some (.slice Ac4 (sD zs).c.length cpc4) ∧ W.cell? ⟨w9.heap.size, 3, none⟩ = some (.slice Ad4 (sD zs).d.length cpd4) ∧ (convert 24 9 (.slice Az zs.length capz)).run Try.prog W = .ok (.string sZ) W from
    ⟨(cell_row ((hW.block _ (heap_lt hz)).trans hz) (j := 0) rfl).1, (cell_row ((hW.block _ (heap_lt hz)).trans hz) (j := 1) rfl).1, (cell_row ((hW.block _ (heap_lt hz)).trans hz) (j := 2) rfl).1, (cell_row ((hW.block _ (heap_lt hz)).trans hz) (j := 3) rfl).1, by rw [← HsZ.out]; exact RdB.conv (hrz.below hW) Try.underlying24 Try.underlying5 Try.underlying9⟩))
  have hd0 : Below w7.heap.size w7 w7.drew := (Below.refl _ _).drew
  clear hrz9 hbz9 hb67 hc4 hd4 hc7 hd7 hrz hz HokD Hinv Hi4 Ht4
  generalize (sD zs).c.length = nc at *
  generalize (sD zs).d.length = nd at *
  go_upto_region 19 with fail
  clear hw7
  refine wp_region_noPanic ?_
  refine wp_region_held_drew (S := fun W => W.cell? ⟨w9.heap.size, 0, none⟩ = some (.int .i64 i4) ∧ W.cell? ⟨w9.heap.size, 1, none⟩ = some (.int .i64 t4) ∧ W.cell? ⟨w9.heap.size, 2, none⟩ = some (.slice Ac4 nc cpc4) ∧ W.cell? ⟨w9.heap.size, 3, none⟩ = some (.slice Ad4 nd cpd4) ∧ (convert 24 9 (.slice Az zs.length capz)).run Try.prog W = .ok (.string sZ) W) (by kernel_rfl) (HC.out _ hd0) (fun hH0 => ?_)
  refine' takeH 0 rfl (by kernel_rfl) (by kernel_rfl) (by kernel_rfl) (fun _ _ _ h => h) (by rfl) (by assumption) ?gyq160 ?grq160
  case gyq160 => intro W hSW; obtain ⟨s0, s1, s2, s3, cA⟩ := hSW; go_simp; try with_reducible rfl
  try simp only [Act.put, List.setIfInBounds_toArray, List.set_cons_zero, List.set_cons_succ]
  refine' takeH 3 rfl (by kernel_rfl) (by kernel_rfl) (by kernel_rfl) (fun _ _ _ h => h) (by rfl) (by assumption) ?gyq173 ?grq173
  case gyq173 => intro W hSW; go_simp; try with_reducible rfl
  try simp only [Act.put, List.setIfInBounds_toArray, List.set_cons_zero, List.set_cons_succ]
  refine' takeH 4 rfl (by kernel_rfl) (by kernel_rfl) (by kernel_rfl) (fun _ _ _ h => h) (by rfl) (by assumption) ?gyq184 ?grq184
  case gyq184 => intro W hSW; obtain ⟨s0, s1, s2, s3, cA⟩ := hSW; go_simp; try with_reducible rfl
  try simp only [Act.put, List.setIfInBounds_toArray, List.set_cons_zero, List.set_cons_succ]
  refine wpAnyH_ready (rs := [1]) (by kernel_rfl) (by simp) ?_
  refine AllReadyH.cons rfl (fun K hK => ?_) AllReadyH.nil
  go_simp
  refine (Hsn.out _ hd0).mono ?_
  rintro e wa ⟨va, rfl, hna⟩
  have hba := below_undrew1 hna.2.2.2
  have hra := hna.rd
  obtain ⟨Aa, capa, rfl⟩ := own_slice' hna.1
  have hca := RdB.conv (P := Try.prog) hra Try.underlying24 Try.underlying5 Try.underlying9
  rw [HsZ.out] at hca
  try dsimp only
  refine hK.out _ _ (HC.out _ hba) (fun hH19 => ?_)
  clear hK K
  try simp only [Act.put, List.getElem_toArray, List.getElem_cons_succ, List.getElem_cons_zero, List.setIfInBounds_toArray, List.set_cons_zero, List.set_cons_succ]
  refine wpAnyH_ready (rs := [2]) (by kernel_rfl) (by simp) ?_
  refine AllReadyH.cons rfl (fun K hK => ?_) AllReadyH.nil
  go_simp
  try dsimp only
  refine hK.out _ _ (HC.out _ hba) (fun hH20 => ?_)
  clear hK K
  try simp only [Act.put, List.getElem_toArray, List.getElem_cons_succ, List.getElem_cons_zero, List.setIfInBounds_toArray, List.set_cons_zero, List.set_cons_succ]
  refine' takeH 5 rfl (by kernel_rfl) (by kernel_rfl) (by kernel_rfl) (fun _ _ _ h => h) (by rfl) (by assumption) ?gyq215 ?grq215
  case gyq215 => intro W hSW; go_simp; try with_reducible rfl
  try simp only [Act.put, List.setIfInBounds_toArray, List.set_cons_zero, List.set_cons_succ]
  refine' takeH 6 rfl (by kernel_rfl) (by kernel_rfl) (by kernel_rfl) (fun _ _ _ h => h) (by rfl) (by assumption) ?gyq216 ?grq216
  case gyq216 => intro W hSW; go_simp; try with_reducible rfl
  try simp only [Act.put, List.setIfInBounds_toArray, List.set_cons_zero, List.set_cons_succ]
  refine wpAnyH_done (by kernel_rfl) ?_ _
  refine NoPanic.normal ?_
  go_wp2
  go_ret
  exact ⟨ret_bool (by simp), below_then' hbz hbz.size hba⟩
end Go.Proofs.Yteegdhfekemhmaa
