/- Replies cut to a length. -/
import Derived.Test.YteegdhfekemhmaaRepE
import Derived.Deep.DeepCutAuto
import Derived.Deep.CutBlock
namespace Go.Proofs.Yteegdhfekemhmaa
open Go.RowKit
set_option linter.unusedSimpArgs false
set_option linter.unusedVariables false

set_option maxHeartbeats 4000000 in
set_option maxRecDepth 100000 in
theorem cutreply_calls (w : World) (N : Nat → Prop) (e : Int) (ch : Bool) (vr : Value) (ss : List ByteArray) (hv : RdS w N vr ss) :
    Calls Try.prog 46 #[repV e ch vr] w fun e1 w' => ∃ vr' ss', e1 = .returned (repV e ch vr') ∧ ss'.length ≤ 10 ∧ (∀ s ∈ ss', s.size ≤ 40) ∧ RdS w' (fun k => w.heap.size ≤ k) vr' ss' ∧ Below w.heap.size w w' := by
  obtain ⟨A, cap, rfl, hcp1, hcp2⟩ := hv.slice
  have hl := hv.len
  simp only [maxLen] at hcp2
  have hb1 := (Below.refl w.heap.size w).alloc (Nat.le_refl _) (.cells #[.int .i64 e, .bool ch, .slice A ss.length cap] 72)
  have hb2 := hb1.alloc hb1.size (.cells #[.int .i64 0, .bool false, .slice none 0 0] 72)
  have ha := heap_alloc_new w (.cells [.int .i64 e, .bool ch, .slice A ss.length cap].toArray 72)
  have hb := heap_alloc_new (w.alloc (.cells [.int .i64 e, .bool ch, .slice A ss.length cap].toArray 72)) (.cells [.int .i64 0, .bool false, .slice none 0 0].toArray 72)
  have ha2 := (((Below.refl (w.alloc (.cells [.int .i64 e, .bool ch, .slice A ss.length cap].toArray 72)).heap.size _).alloc (Nat.le_refl _) (.cells [.int .i64 0, .bool false, .slice none 0 0].toArray 72)).block _ (heap_lt ha)).trans ha
  have hsz : (w.alloc (.cells [.int .i64 e, .bool ch, .slice A ss.length cap].toArray 72)).heap.size = w.heap.size + 1 := by show (w.heap.push _).size = _; simp
  rw [hsz] at hb
  have hv2 : RdS w (fun k => k < w.heap.size) (.slice A ss.length cap) ss := hv.weaken fun _ _ h => h
  obtain ⟨w2, hw2⟩ : ∃ W, (w.alloc (.cells #[.int .i64 e, .bool ch, .slice A ss.length cap] 72)).alloc (.cells #[.int .i64 0, .bool false, .slice none 0 0] 72) = W := ⟨_, rfl⟩
  have hw2' : (w.alloc (.cells [.int .i64 e, .bool ch, .slice A ss.length cap].toArray 72)).alloc (.cells [.int .i64 0, .bool false, .slice none 0 0].toArray 72) = w2 := hw2
  rw [hw2'] at hb ha2
  rw [hw2] at hb2
  have HV := Lib.hid hv2
  clear hw2' ha hsz hb1 hv hv2
  unfold repV
  go_enter Try.func46, Try.ntmps46
  obtain ⟨p2, f2⟩ := cell_row ha2 (j := 2) rfl
  go_upto_if 8 with fail
  clear hw2
  go_cut [3] (fun _ wz => ∃ (A' : Option Addr) (cap' : Nat) (ss' : List ByteArray), ss'.length ≤ 10 ∧ wz.heap[w.heap.size]? = some (.cells [.int .i64 e, .bool ch, .slice A' ss'.length cap'].toArray 72 (0, 0)) ∧ Hid (RdS w (fun k => k < w.heap.size) (.slice A' ss'.length cap') ss') ∧
    wz.heap[w.heap.size + 1]? = some (.cells [.int .i64 0, .bool false, .slice none 0 0].toArray 72 (0, 0)) ∧ Below w.heap.size w wz)
  case first =>
    by_cases h10 : 10 < ss.length
    · have hl10 : (ss.take 10).length = 10 := by simp; omega
      have hfr := HV.out.front (i := 10) (by omega)
      have hset := setCell_row ha2 2 (.slice A 10 cap)
      have hsetb := (heap_setCell_other w2 ⟨w.heap.size, 2, none⟩ (w.heap.size + 1) (.slice A 10 cap) (by simp)).trans hb
      have hbs := hb2.setCell (p := ⟨w.heap.size, 2, none⟩) (Nat.le_refl _) (.slice A 10 cap)
      have Hset := Lib.hid hset
      have Hsetb := Lib.hid hsetb
      have Hbs := Lib.hid hbs
      have Hfr := Lib.hid hfr
      clear hset hsetb hbs hfr
      go_wp2_with fail
      go_meet
      exact ⟨A, cap, ss.take 10, by omega, by rw [hl10]; exact Hset.out, by rw [hl10]; exact Hfr, Hsetb.out, Hbs.out⟩
    · go_wp2_with fail
      go_meet
      exact ⟨A, cap, ss, by omega, ha2, HV, hb, hb2⟩
  case rest =>
  obtain ⟨A', cap', ss', hl', hA, HV', hB, hbw⟩ := hcut
  clear HV ha2 hb hb2 hl hcp1 hcp2 p2 f2
  have hV0 : RdS wc (In (fun _ => 0) 0) (.slice A' ss'.length cap') ss' := (Rd.keeps (N' := fun k => k < w.heap.size) HV'.out fun b hb _ => ⟨hbw.block b hb, hb⟩).weaken fun _ _ _ => rfl
  clear HV'
  go_wp2_with fail
  go_loopw [3, 4] (fun l i wr => ∃ (j : Nat) (colr : Col) (zs : List ByteArray), i = .int .i64 j ∧ j ≤ ss'.length ∧ zs.length = j ∧ Hid (∀ s ∈ zs, s.size ≤ 40) ∧ Ow wr colr 1 9 1 l j (zs.map Value.string) ∧ Ext [1] wc (fun _ => 0) wr colr) (fun _ i _ => ss'.length - (intOf i).toNat)
  case atStart => exact ⟨0, _, [], rfl, by omega, rfl, by intro s hs; simp at hs, Ow.nil _ _ _ _ _, Ext.refl _ _ _⟩
  case round =>
    obtain ⟨j, colr, zs, rfl, hj, hzl, HZ, hO, hx⟩ := hrel
    obtain ⟨Al, capl, rfl⟩ := own_slice' hO.1
    have hAr := (hx.block _ (heap_lt hA) (by decide)).trans hA
    have p2 := (cell_row hAr (j := 2) rfl).1
    by_cases hc : j < ss'.length
    · obtain ⟨b1, o1, rfl, c1⟩ := (hV0.ext hx (by decide)).at hc
      generalize ss'[j] = s at c1
      have Hzl := Lib.hid hzl
      clear hzl
      go_wp2_with fail
      refine (cut1_calls wr s 40 (by omega)).mono ?_
      rintro e1 _ ⟨s', rfl, hs', rfl⟩
      have hown := hO.1
      go_wp2_with (at_builtin; refine push1 rfl _ _ 70 9 rfl Try.underlying70 Try.infoS rfl (by omega) 0 _ _ _ rfl hown (by omega) _ rfl rfl (by omega) ?_)
      intro A5 cap5 w5 hown5 hgrow5 hat5
      obtain ⟨hO5, hx5⟩ := hO.app1 hgrow5 hown5 hat5
      go_wp2
      go_roundw
      case rel =>
        refine ⟨j + 1, _, zs ++ [s'], by go_num, by omega, by simp [Hzl.out], ?_, by rw [List.map_append]; exact hO5, hx.trans hx5⟩
        intro t ht
        rcases List.mem_append.1 ht with h | h
        · exact HZ.out t h
        · simp at h; subst h; exact hs'
      case measure => simp [intOf]; omega
    · obtain rfl : j = ss'.length := by omega
      have hBr := (hx.block _ (heap_lt hB) (by decide)).trans hB
      have hbr := below_then' hbw hbw.size (hx.below0 (by decide))
      obtain ⟨f2a, f2b⟩ := cell_row hAr (j := 2) rfl
      have hA1 := setCell_row hAr 2 (.slice Al ss'.length capl)
      obtain ⟨a0, -⟩ := cell_row (cs := [.int .i64 e, .bool ch, .slice Al ss'.length capl]) hA1 (j := 0) rfl
      obtain ⟨a1, -⟩ := cell_row (cs := [.int .i64 e, .bool ch, .slice Al ss'.length capl]) hA1 (j := 1) rfl
      obtain ⟨a2, -⟩ := cell_row (cs := [.int .i64 e, .bool ch, .slice Al ss'.length capl]) hA1 (j := 2) rfl
      obtain ⟨g0, -⟩ := cell_row hAr (j := 0) rfl
      obtain ⟨g1, -⟩ := cell_row hAr (j := 1) rfl
      obtain ⟨r0, s0⟩ := cell_row hBr (j := 0) rfl
      obtain ⟨r1, s1⟩ := cell_row hBr (j := 1) rfl
      obtain ⟨r2, s2⟩ := cell_row hBr (j := 2) rfl
      have hcA : colr w.heap.size = 0 := hx.col _ (heap_lt hA)
      have hcB : colr (w.heap.size + 1) = 0 := hx.col _ (heap_lt hB)
      have hB1 := (heap_setCell_other wr ⟨w.heap.size, 2, none⟩ (w.heap.size + 1) (.slice Al ss'.length capl) (by simp)).trans hBr
      have hB4 := setCell_row (setCell_row (setCell_row hB1 0 (.int .i64 e)) 1 (.bool ch)) 2 (.slice Al ss'.length capl)
      have hb4 := (((hbr.setCell (p := ⟨w.heap.size, 2, none⟩) (Nat.le_refl _) (.slice Al ss'.length capl)).setCell (p := ⟨w.heap.size + 1, 0, none⟩) (Nat.le_succ _) (.int .i64 e)).setCell (p := ⟨w.heap.size + 1, 1, none⟩) (Nat.le_succ _) (.bool ch)).setCell (p := ⟨w.heap.size + 1, 2, none⟩) (Nat.le_succ _) (.slice Al ss'.length capl)
      have hx4 := ((((Ext.refl [0] wr colr).setCell (p := ⟨w.heap.size, 2, none⟩) (by simp [hcA]) (.slice Al ss'.length capl)).setCell (p := ⟨w.heap.size + 1, 0, none⟩) (by simp [hcB]) (.int .i64 e)).setCell (p := ⟨w.heap.size + 1, 1, none⟩) (by simp [hcB]) (.bool ch)).setCell (p := ⟨w.heap.size + 1, 2, none⟩) (by simp [hcB]) (.slice Al ss'.length capl)
      obtain ⟨q0, -⟩ := cell_row hB4 (j := 0) (v := .int .i64 e) rfl
      obtain ⟨q1, -⟩ := cell_row hB4 (j := 1) (v := .bool ch) rfl
      obtain ⟨q2, -⟩ := cell_row hB4 (j := 2) (v := .slice Al ss'.length capl) rfl
      have hrd := hO.rd (by omega) (by omega)
      rw [← hzl] at hrd
      have hge : ∀ k, In colr 1 k → w.heap.size ≤ k := fun k hk => Nat.le_of_not_lt fun hlt => by
        have h1 := hx.col k (Nat.lt_of_lt_of_le hlt hbw.size)
        rw [show colr k = 1 from hk] at h1
        cases h1
      have Hrd := Lib.hid ((Rd.ext hrd hx4 (by decide)).weaken fun k hk _ => hge k hk)
      clear hge
      have Hb4 := Lib.hid hb4
      have Hzl := Lib.hid hzl
      clear hzl hB4 hb4 hx4 hA1 hAr hBr hB1 hrd hO hx hA hB hbr hbw hV0 hcA hcB p2
      go_wp2
      refine bodyPost_ret (v := .agg #[.int .i64 e, .bool ch, .slice Al ss'.length capl]) (by simp [results, Try.results46, go_sem, q0, q1, q2]) rfl ?_
      refine ⟨_, zs, rfl, by rw [Hzl.out]; exact hl', HZ.out, ?_, Hb4.out⟩
      have := Hrd.out
      rw [Hzl.out] at this
      show Rd _ _ _ _ 1 _
      rw [Hzl.out]
      exact this
end Go.Proofs.Yteegdhfekemhmaa
