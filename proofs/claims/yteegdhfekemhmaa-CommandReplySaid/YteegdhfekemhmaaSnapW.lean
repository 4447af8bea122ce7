/- Package command: members written and read; counts. The reference: the same numbers? -/
import Derived.Test.YteegdhfekemhmaaSnapP
import Derived.Test.YteegdhfekemhmaaCmd2
import Derived.Test.YteegdhfekemhmaaOpen
import Derived.Deep.RegionWith
namespace Go.Proofs.Yteegdhfekemhmaa
open Go.RowKit
set_option linter.unusedSimpArgs false
set_option linter.unusedVariables false

theorem Try.infoI : (Try.prog.info? 3).map (fun i => (i.zero, i.size, i.bytes)) = some (some (.int .i64 0), 1, 8) := by kernel_rfl
theorem RdI.below {k : IntKind} {w w' : World} {N : Nat → Prop} {v : Value} {xs : List Int} (h : RdI k w N v xs) (hb : Below w.heap.size w w') : RdI k w' N v xs := ⟨h.1.below hb, h.2⟩
theorem RdI.ext {k : IntKind} {S : List Nat} {w w' : World} {col col' : Col} {c : Nat} {v : Value} {xs : List Int} (h : RdI k w (In col c) v xs) (hx : Ext S w col w' col') (hc : c ∉ S) : RdI k w' (In col' c) v xs := ⟨h.1.ext hx hc, h.2⟩
theorem RdI.out {k : IntKind} {S : List Nat} {w w' : World} {col col' : Col} {v : Value} {xs : List Int} (h : RdI k w (Out col S) v xs) (hx : Ext S w col w' col') : RdI k w' (Out col' S) v xs := ⟨h.1.out hx, h.2⟩
theorem RdI.weaken {k : IntKind} {w : World} {N N' : Nat → Prop} {v : Value} {xs : List Int} (h : RdI k w N v xs) (hN : ∀ b, N b → b < w.heap.size → N' b) : RdI k w N' v xs := ⟨h.1.weaken hN, h.2⟩
theorem RdI.any {k : IntKind} {w : World} {N : Nat → Prop} {v : Value} {xs : List Int} (h : RdI k w N v xs) : RdI k w (fun _ => True) v xs := ⟨h.1.any, h.2⟩
theorem RdI.slice {k : IntKind} {w : World} {N : Nat → Prop} {v : Value} {xs : List Int} (h : RdI k w N v xs) : ∃ A cap, v = .slice A xs.length cap ∧ xs.length ≤ cap ∧ cap ≤ maxLen := h.1.slice
theorem RdI.at {k : IntKind} {w : World} {N : Nat → Prop} {A : Option Addr} {n cap : Nat} {xs : List Int} (h : RdI k w N (.slice A n cap) xs) {j : Nat} (hj : j < xs.length) :
    ∃ b o, A = some ⟨b, o, none⟩ ∧ w.cell? ⟨b, o + j, none⟩ = some (.int k (xs.getD j 0)) := by
  obtain ⟨b, o, cap1, he, _, _, _, _, hc⟩ := h.1.pos (by omega)
  simp at he
  exact ⟨b, o, he.1, hc j _ (ints_get k xs j hj)⟩
theorem WfAll.mem {xs : List Int} (h : WfAll .i64 xs) : ∀ n ∈ xs, InI64 n := fun n hn => wf64' (h n hn)
theorem WfAll.at {xs : List Int} (h : WfAll .i64 xs) {j : Nat} (hj : j < xs.length) : InI64 (xs.getD j 0) := by
  rw [List.getD_eq_getElem?_getD, List.getElem?_eq_getElem hj]
  exact h.mem _ (List.getElem_mem _)
theorem wf_of64 {n : Int} (h : InI64 n) : (Lit.int .i64 n).wf = true := by
  unfold InI64 at h
  simp [Lit.wf, IntKind.min, IntKind.max, IntKind.signed, IntKind.bits]
  omega

set_option maxHeartbeats 1000000 in
set_option maxRecDepth 100000 in
theorem putconf_calls (w : World) (col : Col) (c b : Nat) (bs : List Int) (v : Value) (l : List Int) (hW : Wr w col c b bs) (hv : RdI .i64 w (Out col [c]) v l) (hl : l.length ≤ 1000000) (hbs : bs.length ≤ 1000000000) :
    Calls Try.prog 99 #[.pointer (some ⟨b, 0, none⟩), v] w fun e w' => e = .returned (.tuple #[]) ∧ ∃ col', Wr w' col' c b (bs ++ confB l) ∧ Ext [c] w col w' col' := by
  obtain ⟨A, cap, rfl, -, -⟩ := hv.slice
  have HI := Lib.hid (hv.2.mem)
  have hl0 := numB_len (n := l.length) (by omega) (by omega)
  go_enter Try.func99, Try.ntmps99
  go_wp2_with fail
  refine (num_calls _ _ c _ _ l.length hW (by omega) (by omega) (by omega)).mono ?_
  rintro e w1 ⟨rfl, col1, hW1, hx1⟩
  go_wp2_with fail
  go_loopw [12] (fun i wr => ∃ (j : Nat) (colr : Col), i = .int .i64 j ∧ j ≤ l.length ∧ Wr wr colr c b (bs ++ numB l.length ++ numsB (l.take j)) ∧ Ext [c] w col wr colr) (fun i _ => l.length - (intOf i).toNat)
  case atStart => exact ⟨0, col1, rfl, by omega, by simpa [numsB] using hW1, hx1⟩
  case round =>
    obtain ⟨j, colr, rfl, hj, hWr, hx⟩ := hrel
    by_cases hc : j < l.length
    · obtain ⟨b1, o1, rfl, hcell⟩ := (hv.out hx).at hc
      have hn := hv.2.at hc
      have hst := numsB_snoc (l.take j) (l.getD j 0)
      rw [show l.take j ++ [l.getD j 0] = l.take (j + 1) by rw [List.take_succ_eq_append_getElem hc]; simp [List.getD, hc]] at hst
      have Hst := Lib.hid hst
      have hlen := (numsB_len (l.take j) fun n hn => HI.out n (List.mem_of_mem_take hn)).2
      have hlen2 : (bs ++ numB l.length ++ numsB (l.take j)).length ≤ 2000000000 := by simp only [List.length_append]; simp at hlen; omega
      generalize l.getD j 0 = n at hcell hn Hst
      clear hst hlen
      go_wp2_with fail
      refine (num_calls _ _ c _ _ n hWr (by omega) hn.1 hn.2).mono ?_
      rintro e w2 ⟨rfl, col2, hW2, hx2⟩
      rw [List.append_assoc, ← Hst.out] at hW2
      go_wp2
      go_roundw
      case rel => exact ⟨j + 1, col2, by go_num, by omega, hW2, hx.trans hx2⟩
      case measure => simp [intOf]; omega
    · obtain rfl : j = l.length := by omega
      rw [List.take_length, List.append_assoc] at hWr
      go_wp2
      go_end0
      exact ⟨rfl, colr, hWr, hx⟩

theorem rN_range {xs : List Int} (h : Bytes xs) : InI64 (rN xs) := by
  unfold rN
  cases hq : rnum xs with
  | none => unfold InI64; simp
  | some p => exact (rnum_inv h hq).2.1
theorem Rr.bytes {w : World} {col : Col} {c b : Nat} {xs : List Int} {bad : Bool} (h : Rr w col c b xs bad) : Bytes xs := by
  obtain ⟨⟨v, _, _, hv⟩, _⟩ := h
  exact hv.1.2
/-- How much is left of a reader: bytes, and one more if it has not failed. -/
def leftW (w : World) (b : Nat) : Nat :=
  match w.heap[b]? with
  | some (.cells cs _ _) => match cs.getD 0 default, cs.getD 1 default with
    | .slice _ n _, .bool bad => n + (if bad then 0 else 1)
    | _, _ => 0
  | _ => 0
theorem leftW_rr {w : World} {col : Col} {c b : Nat} {xs : List Int} {bad : Bool} (h : Rr w col c b xs bad) : leftW w b = xs.length + (if bad then 0 else 1) := by
  obtain ⟨⟨v, hb, _, hv⟩, _⟩ := h
  obtain ⟨A, cap, rfl, _⟩ := hv.slice
  unfold leftW
  rw [hb]
  rfl
theorem rF_less {xs : List Int} : (rFRest xs).length + (if rFBad xs false then 0 else 1) < xs.length + 1 := by
  cases xs with
  | nil => simp [rFRest, rFBad, rflag]
  | cons x l =>
    unfold rFRest rFBad rflag
    by_cases h : x ≤ 1
    · simp [h]
    · simp [h]

set_option maxHeartbeats 1000000 in
set_option maxRecDepth 100000 in
theorem count_calls (w : World) (col : Col) (c b : Nat) (xs : List Int) (bad : Bool) (hc0 : c ≠ 0) (hR : Rr w col c b xs bad) :
    Calls Try.prog 113 #[.pointer (some ⟨b, 0, none⟩)] w fun e w' => e = .returned (.int .i64 (cN xs : Nat)) ∧ ∃ col', Rr w' col' c b (cRest xs) (cBad xs bad) ∧ Ext [c] w col w' col' := by
  have h0c : 0 ∉ [c] := by simp; omega
  have hyes := fun h : COK xs => c_yes h
  have hno := fun h : ¬ COK xs => c_no h
  generalize cN xs = kn at *
  generalize cRest xs = kr at *
  generalize cBad xs = kb at *
  have Hyes := Lib.hid hyes
  have Hno := Lib.hid hno
  clear hyes hno
  go_enter Try.func113, Try.ntmps113
  go_wp2_with fail
  refine (rnum_calls _ _ c b _ _ hc0 hR).mono ?_
  rintro e w1 ⟨rfl, hR1, hx1⟩
  by_cases hC : COK xs
  · obtain ⟨e1, e2, e3⟩ := Hyes.out hC
    rw [← e3 bad, ← e2] at hR1
    have h0 := hC.1
    have h1 := hC.2
    rw [← e2] at h1
    have He1 := Lib.hid e1
    clear e1 e2 e3 hC hR Hyes Hno
    generalize rN xs = n at h0 h1 He1 ⊢
    have hn0 : ¬ n < 0 := by omega
    have hL := rleft_calls w1 col c b kr (kb bad) hR1.1
    go_wp2_with fail
    refine hL.mono ?_
    rintro e _ ⟨rfl, rfl⟩
    have hn1 : ¬ (kr.length : Int) < n := by omega
    go_wp2
    go_ret
    exact ⟨ret_int He1.out.symm, col, hR1, hx1⟩
  · obtain ⟨e1, e2, e3⟩ := Hno.out hC
    have hn : rN xs < 0 ∨ (¬ rN xs < 0 ∧ ((rRest xs).length : Int) < rN xs) := by
      unfold COK at hC
      omega
    have hL := rleft_calls w1 col c b _ _ hR1.1
    have He := Lib.hid (And.intro e1 (And.intro e2 (e3 bad)))
    clear e1 e2 e3 hC hR Hyes Hno
    generalize rN xs = n at hn ⊢
    generalize rRest xs = r at hR1 hn hL ⊢
    generalize rBad xs bad = bd at hR1 hL ⊢
    rcases hn with hn | ⟨hn, hn1⟩
    case' inl => go_wp2_with fail
    case' inr =>
      go_wp2_with fail
      refine hL.mono ?_
      rintro e _ ⟨rfl, rfl⟩
      go_wp2_with fail
    all_goals
      refine (rtext_calls _ _ c b _ _ hc0 hR1).mono ?_
      rintro e w2 ⟨v2, col2, rfl, ⟨-, hR2⟩, hx2⟩
      have hx12 := hx1.trans hx2
      generalize rTRest r = r2 at hR2
      generalize rTBad r bd = bd2 at hR2
      clear hL hR1 hx1 hx2
      go_wp2_with fail
      go_loopw [17] (fun _ wr => ∃ (zs : List Int) (bz : Bool) (colz : Col), Rr wr colz c b zs bz ∧ Ext [c] w col wr colz) (fun _ wr => leftW wr b)
      case atStart => exact ⟨_, _, _, hR2, hx12⟩
      case round =>
        obtain ⟨zs, bz, colz, hRz, hxz⟩ := hrel
        have hm := leftW_rr hRz
        have Hm := Lib.hid hm
        clear hm
        have hO := rok_calls wr colz c b zs bz hRz.1
        cases bz with
        | true =>
          have hz : zs = [] := hRz.2 rfl
          subst hz
          go_wp2_with fail
          refine hO.mono ?_
          rintro e _ ⟨rfl, rfl⟩
          go_wp2
          go_ret
          exact ⟨ret_int (by rw [He.out.1]; rfl), colz, by rw [He.out.2.1, He.out.2.2]; exact hRz, hxz⟩
        | false =>
          go_wp2_with fail
          refine hO.mono ?_
          rintro e _ ⟨rfl, rfl⟩
          go_wp2_with fail
          refine (rflag_calls _ _ c b _ _ hc0 hRz).mono ?_
          rintro e w3 ⟨rfl, hR3, hx3⟩
          have hm3 := leftW_rr hR3
          have Hm3 := Lib.hid hm3
          clear hm3
          go_wp2
          go_roundw
          case rel => exact ⟨_, _, _, hR3, hxz.trans hx3⟩
          case measure =>
            rw [Hm.out, Hm3.out]
            exact rF_less

/-- A colour that no old block has. -/
theorem fresh (w : World) (col : Col) (c : Nat) : ∃ c2, c2 ≠ c ∧ c2 ≠ 0 ∧ ∀ k, k < w.heap.size → col k ≠ c2 := by
  have key : ∀ n, ∃ m, ∀ k, k < n → col k < m := by
    intro n
    induction n with
    | zero => exact ⟨0, fun k hk => by omega⟩
    | succ n ih =>
      obtain ⟨m, hm⟩ := ih
      refine ⟨m + col n + 1, fun k hk => ?_⟩
      by_cases h : k = n
      · subst h; omega
      · have := hm k (by omega); omega
  obtain ⟨m, hm⟩ := key w.heap.size
  exact ⟨m + c + 1, by omega, by omega, fun k hk => by have := hm k hk; omega⟩
/-- What was coloured c2 does not change any more. -/
def recol (col : Col) (c2 : Nat) : Col := fun k => if col k = c2 then 0 else col k
theorem Ext.recol {w w' : World} {col col' : Col} {c c2 : Nat} (h : Ext [c, c2] w col w' col') (hf : ∀ k, k < w.heap.size → col k ≠ c2) : Ext [c] w col w' (recol col' c2) := by
  refine ⟨h.os, h.tape, h.output, h.size, fun k hk hc => h.block k hk ?_, fun k hk => ?_⟩
  · have := hf k hk
    simp at hc ⊢
    exact ⟨hc, this⟩
  · have h1 := h.col k hk
    have h2 := hf k hk
    unfold Go.Proofs.Yteegdhfekemhmaa.recol
    rw [h1, if_neg h2]
theorem recol_in {col : Col} {c c2 : Nat} (h : c ≠ c2) : ∀ k, In col c k → In (recol col c2) c k := by
  intro k hk
  have hk' : col k = c := hk
  show (if col k = c2 then 0 else col k) = c
  rw [hk', if_neg h]
theorem recol_in2 {col : Col} {c2 : Nat} : ∀ k, In col c2 k → In (recol col c2) 0 k := by
  intro k hk
  have hk' : col k = c2 := hk
  show (if col k = c2 then 0 else col k) = 0
  rw [hk', if_pos rfl]
theorem Rr.recol {w : World} {col : Col} {c c2 b : Nat} {xs : List Int} {bad : Bool} (h : Rr w col c b xs bad) (hc : c ≠ c2) (h0 : c2 ≠ 0) : Rr w (recol col c2) c b xs bad := by
  obtain ⟨⟨v, hb, hcb, hv⟩, h2⟩ := h
  exact ⟨⟨v, hb, recol_in hc _ hcb, hv.weaken fun k hk _ => recol_in (fun e => h0 e.symm) k hk⟩, h2⟩

set_option maxHeartbeats 1000000 in
set_option maxRecDepth 100000 in
theorem getconf_calls (w : World) (col : Col) (c b : Nat) (xs : List Int) (bad : Bool) (hc0 : c ≠ 0) (hR : Rr w col c b xs bad) (hl : xs.length ≤ 1000000) :
    Calls Try.prog 100 #[.pointer (some ⟨b, 0, none⟩)] w (Ret [c] w col fun v w' col' => RdI .i64 w' (In col' 0) v (nL (cN xs) (cRest xs)) ∧ Rr w' col' c b (nR (cN xs) (cRest xs)) (nB (cN xs) (cRest xs) (cBad xs bad))) := by
  obtain ⟨c2, hcc, hc20, hfr⟩ := fresh w col c
  have hn1 := cN_le xs
  have hn : cN xs ≤ 1000000 := by omega
  have hC := count_calls _ _ c b _ _ hc0 hR
  clear hn1
  generalize cN xs = n at *
  generalize cRest xs = r at *
  generalize cBad xs bad = bd at *
  clear hR hl
  go_enter Try.func100, Try.ntmps100
  go_wp2_with fail
  refine hC.mono ?_
  rintro e w1 ⟨rfl, col1, hR1, hx1⟩
  clear hC
  have hx1' : Ext [c, c2] w col w1 col1 := hx1.mono (by simp)
  go_wp2_with fail
  go_loopw [3, 6] (fun l i wr => ∃ (j : Nat) (colr : Col), i = .int .i64 j ∧ j ≤ n ∧ Rr wr colr c b (nR j r) (nB j r bd) ∧ Ow wr colr c2 3 1 l j (ints .i64 (nL j r)) ∧ Hid (WfAll .i64 (nL j r)) ∧ Ext [c, c2] w col wr colr) (fun _ i _ => n - (intOf i).toNat)
  case atStart => exact ⟨0, col1, rfl, by omega, hR1, Ow.nil _ _ _ _ _, fun x hx => by simp [nL] at hx, hx1'⟩
  case round =>
    obtain ⟨j, colr, rfl, hj, hRr, hO, HW, hx⟩ := hrel
    obtain ⟨Al, capl, rfl⟩ := own_slice' hO.1
    by_cases hc : j < n
    · go_wp2_with fail
      refine (rnum_calls _ _ c b _ _ hc0 hRr).mono ?_
      rintro e w2 ⟨rfl, hR2, hx2⟩
      have hO2 := hO.ext hx2 (by simpa using hcc)
      have HN := Lib.hid (show nL (j + 1) r = nL j r ++ [rN (nR j r)] from rfl)
      have Hwf := Lib.hid (wf_of64 (rN_range hRr.bytes))
      generalize rN (nR j r) = x at HN Hwf ⊢
      have hown2 := hO2.1
      go_wp2_with (at_builtin; refine push1 rfl _ _ 43 3 rfl Try.underlying43 Try.infoI rfl (by omega) 0 _ _ _ rfl hown2 (by omega) _ rfl rfl (by omega) ?_)
      intro A' cap' w3 hown' hgrow hat
      obtain ⟨hO3, hx3⟩ := hO2.app1 hgrow hown' hat
      have hR3 := hR2.ext hx3 (by simp; exact fun e => hcc e.symm) (by simp; exact fun e => hc20 e.symm)
      go_wp2
      go_roundw
      case rel =>
        refine ⟨j + 1, _, by go_num, by omega, hR3, ?_, ?_, (hx.trans (hx2.mono (by simp))).trans (hx3.mono (by simp))⟩
        · rw [HN.out]; simpa [ints] using hO3
        · rw [HN.out]
          intro y hy
          rcases List.mem_append.1 hy with h | h
          · exact HW.out y h
          · simp at h; subst h; exact Hwf.out
      case measure => simp [intOf]; omega
    · obtain rfl : j = n := by omega
      have hrd := hO.rd (by omega) (by omega)
      go_wp2
      go_ret
      refine Ret.mk (col' := recol colr c2) rfl ⟨⟨?_, HW.out⟩, hRr.recol (fun e => hcc e.symm) hc20⟩ (hx.recol hfr)
      rw [nL_len]
      exact hrd.weaken fun k hk _ => recol_in2 k hk

set_option maxHeartbeats 1000000 in
set_option maxRecDepth 100000 in
theorem eqints_calls (w : World) (N1 N2 : Nat → Prop) (v1 v2 : Value) (a b : List Int) (h1 : RdI .i64 w N1 v1 a) (h2 : RdI .i64 w N2 v2 b) :
    Calls Try.prog 32 #[v1, v2] w fun e w' => e = .returned (.bool (decide (a = b))) ∧ Below w.heap.size w w' := by
  obtain ⟨A1, cap1, rfl, -, -⟩ := h1.slice
  obtain ⟨A2, cap2, rfl, -, -⟩ := h2.slice
  have hl1 : a.length ≤ 140737488355328 := h1.1.2.2.1
  go_enter Try.func32, Try.ntmps32
  by_cases hl : a.length = b.length
  · have d1 : ((a.length : Int) != (b.length : Int)) = false := by simp [hl]
    have Hl := Lib.hid hl
    clear hl
    go_wp2_with fail
    go_loopw [5] (fun i wr => ∃ (j : Nat), i = .int .i64 j ∧ j ≤ a.length ∧ Below w.heap.size w wr ∧ Hid (a.take j = b.take j)) (fun i _ => a.length - (intOf i).toNat)
    case atStart => exact ⟨0, rfl, by omega, Below.refl _ _, Lib.hid rfl⟩
    case round =>
      obtain ⟨j, rfl, hj, hbr, He⟩ := hrel
      by_cases hc : j < a.length
      · have hc2 : j < b.length := by rw [← Hl.out]; exact hc
        obtain ⟨b1, o1, rfl, k1'⟩ := (h1.below hbr).at hc
        obtain ⟨b2, o2, rfl, k2'⟩ := (h2.below hbr).at hc2
        have Ha : Hid (a.take (j + 1) = a.take j ++ [a.getD j 0]) := by show _ = _; rw [List.take_succ_eq_append_getElem hc]; simp [List.getD, hc]
        have Hb : Hid (b.take (j + 1) = b.take j ++ [b.getD j 0]) := by show _ = _; rw [List.take_succ_eq_append_getElem hc2]; simp [List.getD, hc2]
        generalize a.getD j 0 = x at k1' Ha
        generalize b.getD j 0 = y at k2' Hb
        by_cases hxy : x = y
        · subst hxy
          go_wp2_with fail
          go_quiet (fail)
          go_wp2
          go_roundw
          case rel => exact ⟨j + 1, by go_num, by omega, below_drewN' hbr _, Lib.hid (by rw [Ha.out, Hb.out, He.out])⟩
          case measure => simp [intOf]; omega
        · have d2 : (x != y) = true := by simpa using hxy
          have hne : ¬ a = b := by
            intro e
            have h3 := Ha.out
            rw [e, Hb.out] at h3
            have := List.append_inj_right' h3 rfl
            simp at this
            exact hxy this.symm
          have Hne := Lib.hid hne
          clear hxy hne
          go_wp2_with fail
          go_quiet (fail)
          go_wp2
          go_ret
          exact ⟨ret_bool (by rw [decide_eq_false Hne.out]), below_drewN' hbr _⟩
      · obtain rfl : j = a.length := by omega
        have heq : a = b := by
          have := He.out
          rw [List.take_length, Hl.out, List.take_length] at this
          exact this
        have Heq := Lib.hid heq
        clear heq
        go_wp2
        go_ret
        exact ⟨ret_bool (by rw [decide_eq_true Heq.out]), hbr⟩
  · have d1 : ((a.length : Int) != (b.length : Int)) = true := by simp; omega
    have Hne := Lib.hid (show ¬ a = b from fun e => hl (by rw [e]))
    go_wp2
    go_ret
    exact ⟨ret_bool (by rw [decide_eq_false Hne.out]), Below.refl _ _⟩
end Go.Proofs.Yteegdhfekemhmaa
