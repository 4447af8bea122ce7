/- Walks of package frame: a seal opened to its end, seals one behind the other. -/
import Derived.Test.YteodbcgfmfkdmaaFrameF
import Derived.Lib.SliceRun
namespace Go.Proofs.Yteodbcgfmfkdmaa
open Go.RowKit

/-- v is a slice of slices of bytes, which are xss. -/
def RdLL (w : World) (N : Nat → Prop) (v : Value) (xss : List (List Int)) : Prop :=
  ∃ cs : List Value, Rd w (fun _ => True) v xss.length 1 cs ∧ ∀ i, i < xss.length → RdL w N (cs.getD i default) (xss.getD i [])
theorem RdLL.below {w w' : World} {N : Nat → Prop} {v : Value} {xss : List (List Int)} (h : RdLL w N v xss) (hb : Below w.heap.size w w') : RdLL w' N v xss := by
  obtain ⟨cs, h1, h2⟩ := h
  exact ⟨cs, h1.below hb, fun i hi => (h2 i hi).below hb⟩
theorem RdLL.get {w : World} {N : Nat → Prop} {v : Value} {xss : List (List Int)} (h : RdLL w N v xss) {i : Nat} (hi : i < xss.length) :
    ∃ b o cap c, v = .slice (some ⟨b, o, none⟩) xss.length cap ∧ w.cell? ⟨b, o + i, none⟩ = some c ∧ RdL w N c (xss.getD i []) := by
  obtain ⟨cs, h1, h2⟩ := h
  obtain ⟨b, o, cap, rfl, _, _, _, _, h5⟩ := h1.pos (by omega)
  have hl := h1.2.1
  refine ⟨b, o, cap, cs.getD i default, rfl, h5 i _ ?_, h2 i hi⟩
  have : i < cs.length := by omega
  simp [List.getD, this]
theorem RdLL.slice {w : World} {N : Nat → Prop} {v : Value} {xss : List (List Int)} (h : RdLL w N v xss) : ∃ A cap, v = .slice A xss.length cap ∧ xss.length ≤ cap ∧ cap ≤ maxLen := by
  obtain ⟨cs, h1, h2⟩ := h
  exact h1.slice

set_option maxHeartbeats 400000 in
theorem open_calls (w : World) (N : Nat → Prop) (v : Value) (xs : List Int) (hv : RdL w N v xs) :
    Calls Try.prog 16 #[v] w (FirstPost 5 w (openB xs)) := by
  obtain ⟨A, cap, rfl, h1, h2⟩ := hv.slice
  have hl := hv.len
  have Ho := Lib.hid (show openB xs = match firstB xs with | some x => if xs.length = 8 + x.length then some x else none | none => none from rfl)
  have hF := first_calls w N _ xs hv
  generalize hf : firstB xs = f at Ho hF
  cases f with
  | none =>
    go_enter Try.func16, Try.ntmps16
    go_wp2_with fail
    refine hF.mono ?_
    rintro e w1 ⟨v1, rfl, hn⟩
    rw [Option.isSome_none]
    rw [Option.getD_none] at hn
    go_wp2
    go_ret2
    rw [Ho.out]
    exact FirstPost.mk rfl (NewB.none'' hn.2.2.2)
  | some x =>
    obtain ⟨hx1, -, hx2⟩ := firstB_len hf
    have Hf := Lib.hid hf
    clear hf
    by_cases he : xs.length = 8 + x.length
    · have Hb := Lib.hid (Ho.out.trans (if_pos he))
      have d : ((xs.length : Int) != 8 + (x.length : Int)) = false := by simp; omega
      clear he
      go_enter Try.func16, Try.ntmps16
      go_wp2_with fail
      refine hF.mono ?_
      rintro e w1 ⟨v1, rfl, hn⟩
      rw [Option.isSome_some]
      rw [Option.getD_some] at hn
      obtain ⟨A1, cap1, rfl⟩ := own_slice' hn.1
      go_wp2
      go_ret2
      rw [Hb.out]
      exact FirstPost.mk rfl hn
    · have Hb := Lib.hid (Ho.out.trans (if_neg he))
      have d : ((xs.length : Int) != 8 + (x.length : Int)) = true := by simp; omega
      go_enter Try.func16, Try.ntmps16
      go_wp2_with fail
      refine hF.mono ?_
      rintro e w1 ⟨v1, rfl, hn⟩
      rw [Option.isSome_some]
      rw [Option.getD_some] at hn
      obtain ⟨A1, cap1, rfl⟩ := own_slice' hn.1
      go_wp2
      go_ret2
      rw [Hb.out]
      exact FirstPost.mk rfl (NewB.none'' hn.2.2.2)

/-- Seals, one behind the other. -/
def scan (xs : List Int) : List (List Int) × Nat := scanB (xs.length + 1) xs
theorem scanB_fuel (xs : List Int) : ∀ (f g : Nat), xs.length < f → xs.length < g → scanB f xs = scanB g xs := by
  generalize hn : xs.length = n
  induction n using Nat.strongRecOn generalizing xs with
  | ind n ih =>
    intro f g hf hg
    cases f with
    | zero => omega
    | succ f =>
      cases g with
      | zero => omega
      | succ g =>
        simp only [scanB]
        cases h : firstB xs with
        | none => rfl
        | some x =>
          have hl := firstB_len h
          have := ih (xs.length - (8 + x.length)) (by omega) (xs.drop (8 + x.length)) (by simp) f g (by omega) (by omega)
          simp only [this]
theorem scan_none {xs : List Int} (h : firstB xs = none) : scan xs = ([], 0) := by simp [scan, scanB, h]
theorem scan_some {xs x : List Int} (h : firstB xs = some x) : scan xs = (x :: (scan (xs.drop (8 + x.length))).1, 8 + x.length + (scan (xs.drop (8 + x.length))).2) := by
  have hl := firstB_len h
  have := scanB_fuel (xs.drop (8 + x.length)) xs.length ((xs.drop (8 + x.length)).length + 1) (by simp; omega) (by omega)
  show scanB (xs.length + 1) xs = _
  rw [scanB]
  simp only [h]
  rw [this]
  rfl
/-- One seal, then the rest. -/
theorem scan_step {xs x : List Int} {acc : List (List Int)} {j : Nat} (h : scan xs = (acc ++ (scan (xs.drop j)).1, j + (scan (xs.drop j)).2)) (hf : firstB (xs.drop j) = some x) :
    scan xs = ((acc ++ [x]) ++ (scan (xs.drop (j + (8 + x.length)))).1, j + (8 + x.length) + (scan (xs.drop (j + (8 + x.length)))).2) := by
  rw [scan_some hf] at h
  rw [h]
  simp [List.drop_drop, Nat.add_assoc]
theorem scan_end {xs : List Int} {acc : List (List Int)} {j : Nat} (h : scan xs = (acc ++ (scan (xs.drop j)).1, j + (scan (xs.drop j)).2)) (hf : firstB (xs.drop j) = none) : scan xs = (acc, j) := by
  rw [scan_none hf] at h
  rw [h]; simp
/-- What 'Scan' gives. -/
def ScanPost (w : World) (r : List (List Int) × Nat) (e : Ending) (w' : World) : Prop := ∃ v', e = .returned (.tuple #[v', .int .i64 (r.2 : Nat)]) ∧ RdLL w' (fun _ => True) v' r.1 ∧ Below w.heap.size w w'
theorem ScanPost.mk {w w' : World} {r : List (List Int) × Nat} {e : Ending} {v' : Value} (h : e = .returned (.tuple #[v', .int .i64 (r.2 : Nat)])) (hn : RdLL w' (fun _ => True) v' r.1) (hb : Below w.heap.size w w') : ScanPost w r e w' := ⟨v', h, hn, hb⟩
theorem Try.infoBs : (Try.prog.info? 22).map (fun i => (i.zero, i.size, i.bytes)) = some (some (.slice none 0 0), 1, 24) := by kernel_rfl
/-- One's own slice of slices that do not change any more. -/
def OwL (w : World) (col : Col) (v : Value) (xss : List (List Int)) : Prop :=
  ∃ cs : List Value, Ow w col 1 22 1 v xss.length cs ∧ ∀ i, i < xss.length → RdL w (In col 0) (cs.getD i default) (xss.getD i [])
theorem OwL.ext {S : List Nat} {w w' : World} {col col' : Col} {v : Value} {xss : List (List Int)} (h : OwL w col v xss) (hx : Ext S w col w' col') (h1 : 1 ∉ S) (h0 : 0 ∉ S) : OwL w' col' v xss := by
  obtain ⟨cs, k1, k2⟩ := h
  exact ⟨cs, k1.ext hx h1, fun i hi => (k2 i hi).ext hx h0⟩
theorem OwL.rd {w : World} {col : Col} {v : Value} {xss : List (List Int)} (h : OwL w col v xss) (hm : xss.length ≤ 140737488355328) : RdLL w (fun _ => True) v xss := by
  obtain ⟨cs, k1, k2⟩ := h
  exact ⟨cs, (k1.rd (by omega) hm).any, fun i hi => (k2 i hi).any⟩
theorem OwL.nil (w : World) (col : Col) : OwL w col (.slice none 0 0) [] := ⟨[], Ow.nil _ _ _ _ _, fun i hi => by simp at hi⟩
theorem OwL.app {w w1 : World} {y : Value} {x : List Int} {col : Col} {v v1 : Value} {xss : List (List Int)} {cs : List Value} {n1 : Nat} (h : Ow w col 1 22 1 v xss.length cs) (he : ∀ i, i < xss.length → RdL w (In col 0) (cs.getD i default) (xss.getD i [])) (hy : RdL w (In col 0) y x)
    (hg : (w.alloc (.cells #[y] 22)).grownBy w1 v.ownBlock) (hown1 : w1.ownsRow 0 22 1 v1 n1 (cs ++ [y])) (hn1 : n1 = xss.length + 1)
    (hat : v1.ownBlock = v.ownBlock ∨ ∃ g, v1.ownBlock = some g ∧ w.heap.size ≤ g) : OwL w1 (newcol w col 1) v1 (xss ++ [x]) ∧ Ext [1] w col w1 (newcol w col 1) := by
  obtain ⟨k1, k2⟩ := h.app1 hg hown1 hat
  refine ⟨⟨cs ++ [y], by simpa [hn1] using k1, fun i hi => ?_⟩, k2⟩
  have hl : cs.length = xss.length := by have := h.1.1; simpa using this
  by_cases hi2 : i < xss.length
  · have e1 : (cs ++ [y]).getD i default = cs.getD i default := by simp [List.getD, List.getElem?_append_left (show i < cs.length by omega)]
    have e2 : (xss ++ [x]).getD i [] = xss.getD i [] := by simp [List.getD, List.getElem?_append_left hi2]
    rw [e1, e2]
    exact (he i hi2).ext k2 (by simp)
  · obtain rfl : i = xss.length := by simp at hi; omega
    have e1 : (cs ++ [y]).getD xss.length default = y := by simp [List.getD, ← hl]
    have e2 : (xss ++ [x]).getD xss.length [] = x := by simp [List.getD]
    rw [e1, e2]
    exact hy.ext k2 (by simp)

set_option maxHeartbeats 1000000 in
set_option maxRecDepth 100000 in
theorem scan_calls (w : World) (N : Nat → Prop) (v : Value) (xs : List Int) (hv : RdB w N v xs) (hs : xs.length ≤ 1000000) :
    Calls Try.prog 20 #[v] w (ScanPost w (scan xs)) := by
  have Hs := Lib.hid (show scan xs = ([] ++ (scan (xs.drop 0)).1, 0 + (scan (xs.drop 0)).2) by simp)
  obtain ⟨_, ⟨rfl, rfl⟩ | ⟨b, o, cap, rfl, h1, h2, h3, h4⟩⟩ := hv.form
  · have Hn := Lib.hid (scan_none (xs := []) rfl)
    have hF := first_calls w N _ [] hv.1
    rw [show firstB [] = none from rfl] at hF
    go_enter Try.func20, Try.ntmps20
    go_wp2_with fail
    refine wp_loop_rounds 1 ?_
    rw [rounds_succ]
    go_wp2_with fail
    refine hF.mono ?_
    rintro e w1 ⟨v1, rfl, hn⟩
    go_wp2
    go_ret2
    rw [Hn.out]
    exact ScanPost.mk rfl ((OwL.nil w1 (fun _ => 0)).rd (by simp)) hn.2.2.2
  · have hv0 : RdB w (In (fun _ => 0) 0) (.slice (some ⟨b, o, none⟩) xs.length cap) xs := hv.weaken fun _ _ _ => rfl
    have Hv0 := Lib.hid hv0
    clear hv hv0 h3 h4
    go_enter Try.func20, Try.ntmps20
    go_wp2_with fail
    go_loopw [4, 5] (fun l a wr => ∃ (j : Nat) (acc : List (List Int)) (col : Col), a = .int .i64 j ∧ j ≤ xs.length ∧ acc.length ≤ j ∧ OwL wr col l acc ∧ Ext [1] w (fun _ => 0) wr col ∧ Hid (scan xs = (acc ++ (scan (xs.drop j)).1, j + (scan (xs.drop j)).2))) (fun _ a _ => xs.length - (intOf a).toNat)
    case atStart => exact ⟨0, [], _, rfl, by omega, by simp, OwL.nil _ _, Ext.refl _ _ _, Hs⟩
    case round =>
      obtain ⟨j, acc, col, rfl, hj, haj, hO, hx, Hsc⟩ := hrel
      have hvr := Hv0.out.ext hx (by simp)
      have Hcut := Lib.hid (fun (o2 n2 cap2 : Nat) (h1 : n2 = xs.length - j) (h2 : n2 ≤ cap2) (h3 : cap2 ≤ 9223372036854775807) (h4 : j < xs.length → o2 = o + j) => first_calls _ _ _ _ (hvr.cut (i := j) hj b o2 n2 cap2 h1 h2 h3 (fun h => ⟨rfl, h4 h⟩)).1)
      clear hvr
      generalize hf : firstB (xs.drop j) = f at Hcut
      cases f with
      | none =>
        have Hend := Lib.hid (scan_end Hsc.out hf)
        clear hf
        go_wp2_with fail
        all_goals
          refine (Hcut.out _ _ _ (by omega) (by omega) (by omega) (by omega)).mono ?_
          rintro e w1 ⟨v1, rfl, hn⟩
          rw [Option.isSome_none]
          rw [Option.getD_none] at hn
          go_wp2
          go_ret2
          rw [Hend.out]
          exact ScanPost.mk rfl ((hO.rd (by omega)).below hn.2.2.2) ((hx.below0 (by simp)).trans (hn.2.2.2.mono hx.size))
      | some x =>
        have hxl := firstB_len hf
        have Hstep := Lib.hid (scan_step Hsc.out hf)
        clear hf
        simp only [List.length_drop] at hxl
        obtain ⟨hxl1, -, hxl2⟩ := hxl
        go_wp2_with fail
        all_goals
          refine (Hcut.out _ _ _ (by omega) (by omega) (by omega) (by omega)).mono ?_
          rintro e w1 ⟨v1, rfl, hn⟩
          rw [Option.isSome_some]
          rw [Option.getD_some] at hn
          have hx1 := Ext.newc (S := []) (col := col) hn.2.2.2 0
          have hO1 := hO.ext hx1 (by simp) (by simp)
          have hl1 : (x : List Int).length ≤ 70368744177664 := by omega
          obtain ⟨A1, cap1, rfl⟩ := own_slice' hn.1
          go_wp2_with fail
          refine (clone_calls w1 _ _ x hn.rd.1).mono ?_
          rintro e w2 ⟨v2, rfl, hn2⟩
          have hx2 := Ext.newc (S := []) (col := newcol wr col 0) hn2.2.2.2 0
          have hO2 := hO1.ext hx2 (by simp) (by simp)
          have hy2 := (hn2.rd.newc (newcol wr col 0) 0).1
          obtain ⟨cs2, hOw2, hel2⟩ := hO2
          have hown2 := hOw2.1
          obtain ⟨A2, cap2, rfl⟩ := own_slice' hn2.1
          go_wp2_with (at_builtin; refine push1 rfl _ _ 31 22 rfl Try.underlying31 Try.infoBs rfl (by omega) 0 _ _ _ rfl hown2 (by omega) _ rfl rfl (by omega) ?_)
          intro A' cap' w5 hown' hgrow hat
          obtain ⟨hO5, hx5⟩ := OwL.app hOw2 hel2 hy2 hgrow hown' rfl hat
          go_wp2
          go_roundw
          case rel => exact ⟨j + (8 + x.length), acc ++ [x], _, by go_num, by omega, by simp; omega, hO5, (hx.trans ((hx1.trans hx2).mono (by simp))).trans hx5, Hstep⟩
          case measure => simp [intOf]; omega
end Go.Proofs.Yteodbcgfmfkdmaa
