/- Texts of this claim, several in one: W14, W16, W9, W20, W21, W22, W23, W24, W25, W26, W27, W28, K1, K2, W37. -/
import Derived.Test.YtjlfojgacnphmaaMgKeepVotes14
namespace Go.Proofs.Ytjlfojgacnphmaa
open Go.RowKit Sim Go Sym
set_option maxRecDepth 100000
set_option linter.unusedVariables false
set_option linter.unusedSimpArgs false
variable {base : Nat}
def subY (Y : List PC) (s : Nat) (P : Nat → Nat) (p : Nat) : Nat → List PC
  | 0 => Y
  | i + 1 => (subY Y s P p i).set (s + i) (.int .i64 ((P i : Int) - p))
theorem subY_len (Y : List PC) (s : Nat) (P : Nat → Nat) (p : Nat) : ∀ i, (subY Y s P p i).length = Y.length
  | 0 => rfl
  | i + 1 => by rw [subY, List.length_set, subY_len Y s P p i]
theorem subY_lo (Y : List PC) (s : Nat) (P : Nat → Nat) (p : Nat) : ∀ i j, j < i → s + i ≤ Y.length → (subY Y s P p i)[s + j]? = some (.int .i64 ((P j : Int) - p))
  | i + 1, j, h, hl => by
    by_cases e : j = i
    · subst e; rw [subY, List.getElem?_set_self (by rw [subY_len]; omega)]
    · rw [subY, List.getElem?_set_ne (by omega), subY_lo Y s P p i j (by omega) (by omega)]
end Go.Proofs.Ytjlfojgacnphmaa

namespace Go.Proofs.Ytjlfojgacnphmaa.Sym
open Go Go.RowKit Go.Proofs.Ytjlfojgacnphmaa.Sim
set_option linter.unusedVariables false
section
variable {P : Program} {base n k : Nat} {e : Env} {h : HS} {Q : QX} {K : List Fr}
end
end Go.Proofs.Ytjlfojgacnphmaa.Sym
namespace Go.Proofs.Ytjlfojgacnphmaa
open Go.RowKit Sim Go Sym
set_option maxRecDepth 100000
set_option linter.unusedVariables false
set_option linter.unusedSimpArgs false
variable {base : Nat}
theorem flatR_split : ∀ (R : List (List Int)) (f : Int) (j : Nat), flatR f R = flatR f (R.take j) ++ flatR (f + (min j R.length : Nat)) (R.drop j)
  | R, f, 0 => by simp [flatR]
  | [], f, j + 1 => by simp [flatR]
  | b :: R, f, j + 1 => by
    have := flatR_split R (f + 1) j
    rw [List.take_succ_cons, List.drop_succ_cons, flatR, flatR, this, List.append_assoc, List.length_cons, show f + 1 + ((min j R.length : Nat) : Int) = f + ((min (j + 1) (R.length + 1) : Nat) : Int) by omega]
theorem flatR_take (R : List (List Int)) (f : Int) (j : Nat) : (flatR f R).take (flatR f (R.take j)).length = flatR f (R.take j) := by
  conv => lhs; rw [flatR_split R f j]
  rw [List.take_left' rfl]
theorem flatR_le (R : List (List Int)) (f : Int) (j : Nat) : (flatR f (R.take j)).length ≤ (flatR f R).length := by
  rw [flatR_split R f j, List.length_append]; omega
theorem posR_at : ∀ (R : List (List Int)) (E f : Int) (j : Nat), j < R.length → (posR E f R)[j]? = some (.int .i64 (E + (flatR f (R.take j)).length))
  | b :: R, E, f, 0, _ => by simp [posR, flatR]
  | b :: R, E, f, j + 1, h => by
    rw [posR, List.getElem?_cons_succ, posR_at R _ _ j (by simpa using h), List.take_succ_cons, flatR, List.length_append]
    rw [show E + ((sealB (recB f b)).length : Int) + ((flatR (f + 1) (R.take j)).length : Int) = E + (((sealB (recB f b)).length + (flatR (f + 1) (R.take j)).length : Nat) : Int) by omega]
theorem RecOK.take {f : Int} {R : List (List Int)} (h : RecOK f R) (j : Nat) : RecOK f (R.take j) := ⟨⟨h.f.1, by have := h.f.2; rw [List.length_take]; omega⟩, by have := h.l; rw [List.length_take]; omega, fun b hb => h.b b (List.mem_of_mem_take hb)⟩
theorem RecOK.drop {f : Int} {R : List (List Int)} (h : RecOK f R) (j : Nat) (hj : j ≤ R.length) : RecOK (f + j) (R.drop j) := ⟨⟨by have := h.f.1; omega, by have := h.f.2; rw [List.length_drop]; omega⟩, by have := h.l; rw [List.length_drop]; omega, fun b hb => h.b b (List.mem_of_mem_drop hb)⟩
theorem flatR_pos {f : Int} {b : List Int} {R : List (List Int)} (h : RecOK f (b :: R)) : 0 < (flatR f (b :: R)).length := by
  have h1 := h.b b (by simp)
  have h2 := recB_len (n := f) (b := b) h.f.1 (by have := h.f.2; simp only [List.length_cons] at this; omega) h1.2
  have := seal_len (xs := recB f b) (by omega)
  rw [flatR, List.length_append]; omega
theorem rcsP_at (R : List (List Int)) (j : Nat) (b : List Int) (h : R[j]? = some b) : (rcsP R)[j]? = some (fP false b none) := by rw [rcsP, List.getElem?_map, h]; rfl
theorem rcsP_len (R : List (List Int)) : (rcsP R).length = R.length := by simp [rcsP]
theorem first00_spec (room first en : Int) (L : FS) (lc : Nat) (F : FS) (c : Nat) : CallS Try.prog base 31 [.c (.ptr 0 0)] (hL00 room first en L lc F c) (.c (.p (.int .i64 0))) (hL00 room first en L lc F c) := by
  refine CallS.of noNG lWfi.2 rfl (M.start (M.go rfl ?_))
  refine M.cond rfl (fun _ => ?_) (fun hn => absurd (by simp) hn)
  refine M.go rfl ?_
  exact M.ret (M.go rfl (M.done (finQ.ret [(0, 0), (1, 1), (2, 2), (3, 3)] rfl rfl rfl (by first | exact Wk.rfl | exact Wk.uncap | exact Wk.nil | exact Wk.b1 rfl | exact Wk.t2 Wk.rfl (Wk.b1 rfl)) (by repeat' (first | exact True.intro | refine hpC rfl rfl rfl ?_ | refine ⟨⟨_, _, _, rfl, rfl, rfl, @WkO.rfl _⟩, ?_⟩ | refine HeapOK.acc rfl rfl ?_)))))
theorem first10_spec (room first en : Int) (L : FS) (lc : Nat) (F : FS) (c : Nat) (w : PC) (W : List PC) : CallS Try.prog base 31 [.c (.ptr 0 0)] (hL10 4 room first en L lc F c w W) (.c (.p (.int .i64 0))) (hL10 4 room first en L lc F c w W) := by
  refine CallS.of noNG lWfi.2 rfl (M.start (M.go rfl ?_))
  refine M.cond rfl (fun _ => ?_) (fun hn => absurd (by simp) hn)
  refine M.go rfl ?_
  exact M.ret (M.go rfl (M.done (finQ.ret [(0, 0), (1, 1), (2, 2), (3, 3), (4, 4)] rfl rfl rfl (by first | exact Wk.rfl | exact Wk.uncap | exact Wk.nil | exact Wk.b1 rfl | exact Wk.t2 Wk.rfl (Wk.b1 rfl)) (by repeat' (first | exact True.intro | refine hpC rfl rfl rfl ?_ | refine ⟨⟨_, _, _, rfl, rfl, rfl, @WkO.rfl _⟩, ?_⟩ | refine HeapOK.acc rfl rfl ?_)))))
end Go.Proofs.Ytjlfojgacnphmaa

namespace Go.Proofs.Ytjlfojgacnphmaa
open Go.RowKit Sim Go Sym
set_option maxRecDepth 100000
set_option linter.unusedVariables false
set_option linter.unusedSimpArgs false
variable {base : Nat}
def hLs0 (room first en : Int) (F : FS) (c : Nat) : HS := ⟨[(4, some (fM F c)), (3, some (fM F c)), (1, some (.row [.p (.int .i64 room), .mp 4, .mp 3, .p (.tz true 5 [] none)] true)), (0, some (.row [.ptr 1 0, .p (.int .i64 first), .p (.tz true 1 [] none), .p (.tz true 1 [] none), .p (.int .i64 en)] true))], 5⟩
theorem wsync00_spec (room first en : Int) (L : FS) (lc : Nat) (F : FS) (c : Nat) : CallS Try.prog base 22 [.c (.ptr 0 0)] (hL00 room first en L lc F c) (.tup []) (hLs0 room first en F c) := by
  refine CallS.of noNG lWsy.2 rfl (M.start (M.go rfl ?_))
  refine M.use trivial (sync0_spec room L lc F c) [(0, 1), (1, 2), (2, 3)] rfl rfl rfl (by repeat' (first | exact True.intro | refine hpC rfl rfl rfl ?_ | refine ⟨⟨_, _, _, rfl, rfl, rfl, @WkO.rfl _⟩, ?_⟩ | refine HeapOK.acc rfl rfl ?_)) rfl rfl ?_
  refine M.go rfl ?_
  exact M.done (finQ.normal [(0, 0), (1, 1), (2, 2), (3, 3), (4, 4)] rfl rfl rfl Wk.rfl (by repeat' (first | exact True.intro | refine hpC rfl rfl rfl ?_ | refine ⟨⟨_, _, _, rfl, rfl, rfl, @WkO.rfl _⟩, ?_⟩ | refine HeapOK.acc rfl rfl ?_)))
def slS (s n : Nat) : List Int := sealB (recB n (zs s))
end Go.Proofs.Ytjlfojgacnphmaa

namespace Go.Proofs.Ytjlfojgacnphmaa
open Go.RowKit Sim Go Sym
set_option maxRecDepth 100000
set_option linter.unusedVariables false
set_option linter.unusedSimpArgs false
variable {base : Nat}
inductive LG where
  | no
  | nil
  | own (o m : Nat) (X Y : List PC)
structure WS where
  room : Int
  first : Int
  en : Int
  L : FS
  lc : Nat
  F : FS
  c : Nat
  dk : Option (PC × List PC)
  lg : LG
def WS.mem : WS → HS
  | ⟨room, first, en, L, lc, F, c, none, .no⟩ => ⟨[(4, some (fM F c)), (3, some (fM L lc)), (0, some (.row [.p (.int .i64 room), .mp 3, .mp 4, .p (.tz true 5 [] none)] true))], 8⟩
  | ⟨room, first, en, L, lc, F, c, some (w, W), .no⟩ => ⟨[(5, some (.els 5 (w :: W))), (4, some (fM F c)), (3, some (fM L lc)), (0, some (.row [.p (.int .i64 room), .mp 3, .mp 4, .acc 5 5 (w :: W)] true))], 8⟩
  | ⟨room, first, en, L, lc, F, c, none, .nil⟩ => ⟨[(4, some (fM F c)), (3, some (fM L lc)), (2, some (.row [.ptr 0 0, .p (.int .i64 first), .p (.tz true 1 [] none), .p (.tz true 1 [] none), .p (.int .i64 en)] true)), (0, some (.row [.p (.int .i64 room), .mp 3, .mp 4, .p (.tz true 5 [] none)] true))], 8⟩
  | ⟨room, first, en, L, lc, F, c, some (w, W), .nil⟩ => ⟨[(5, some (.els 5 (w :: W))), (4, some (fM F c)), (3, some (fM L lc)), (2, some (.row [.ptr 0 0, .p (.int .i64 first), .p (.tz true 1 [] none), .p (.tz true 1 [] none), .p (.int .i64 en)] true)), (0, some (.row [.p (.int .i64 room), .mp 3, .mp 4, .acc 5 5 (w :: W)] true))], 8⟩
  | ⟨room, first, en, L, lc, F, c, none, .own o m X Y⟩ => ⟨[(7, some (.els 1 Y)), (6, some (.els 1 X)), (4, some (fM F c)), (3, some (fM L lc)), (2, some (.row [.ptr 0 0, .p (.int .i64 first), .sl 6 o m 1 none, .sl 7 o m 1 none, .p (.int .i64 en)] true)), (0, some (.row [.p (.int .i64 room), .mp 3, .mp 4, .p (.tz true 5 [] none)] true))], 8⟩
  | ⟨room, first, en, L, lc, F, c, some (w, W), .own o m X Y⟩ => ⟨[(7, some (.els 1 Y)), (6, some (.els 1 X)), (5, some (.els 5 (w :: W))), (4, some (fM F c)), (3, some (fM L lc)), (2, some (.row [.ptr 0 0, .p (.int .i64 first), .sl 6 o m 1 none, .sl 7 o m 1 none, .p (.int .i64 en)] true)), (0, some (.row [.p (.int .i64 room), .mp 3, .mp 4, .acc 5 5 (w :: W)] true))], 8⟩
def wFam : Fam := ⟨WS, WS.mem, 8, fun b => Nat.beq b 1⟩
theorem wOK : wFam.OK := by
  refine ⟨?_, ?_, ?_⟩
  all_goals rintro ⟨room, first, en, L, lc, F, c, _ | ⟨w, W⟩, _ | _ | ⟨o, m, X, Y⟩⟩
  all_goals first
    | rfl
    | (repeat' (first | exact True.intro | refine ⟨⟨rfl, rfl⟩, ?_⟩))
abbrev CW (base : Nat) := CallR Try.prog base wFam 3
def wt (p : PC) : Option (PC × List PC) → Option (PC × List PC)
  | none => some (p, [])
  | some (w, W) => some (w, W ++ [p])
def wtN : Option (PC × List PC) → Nat
  | none => 0
  | some (_, W) => W.length + 1
def LGok (f : Int) (R : List (List Int)) : LG → Prop
  | .no => False
  | .nil => R = []
  | .own o m X Y => m = R.length ∧ o + m ≤ X.length ∧ Y.length = X.length ∧ (∀ j b, R[j]? = some b → ∃ z, X[o + j]? = some (fP z b none)) ∧ (∀ j, j < m → Y[o + j]? = some (.int .i64 ((flatR f (R.take j)).length : Nat)))
def Fok (B : List Int) (F : FS) (c : Nat) : Prop := (B = [] ∧ F = [] ∧ c = 0) ∨ ((∃ z cp, F = f1 [119] (fP z B cp)) ∧ 1 ≤ c)
structure WInv (s : WS) (f : Int) (R : List (List Int)) : Prop where
  ok : R ≠ [] → RecOK f R
  room : s.room = mB
  en : s.en = ((flatR f R).length : Nat)
  lg : LGok f R s.lg
  first : R ≠ [] → s.first = f
  file : Fok (flatR f R) s.F s.c
  sz : (flatR f R).length ≤ 400000
def lastI (f : Int) (R : List (List Int)) : Int := if R = [] then 0 else f + R.length - 1
theorem lastI_ne {f : Int} {R : List (List Int)} (h : R ≠ []) : lastI f R = f + R.length - 1 := if_neg h
theorem lastI_nil (f : Int) : lastI f [] = 0 := rfl
theorem RecOK.len {f : Int} {R : List (List Int)} (h : RecOK f R) : 1 ≤ f ∧ f + R.length ≤ 1200000000000000 ∧ R.length ≤ 10000 := ⟨h.f.1, h.f.2, h.l⟩
theorem W_last {s : WS} {f : Int} {R : List (List Int)} (hi : WInv s f R) : CW base 24 [.c (.ptr 2 0)] s (fun r s' => r = .c (.p (.int .i64 (lastI f R))) ∧ s' = s) := by
  obtain ⟨room, first, en, L, lc, F, c, _ | ⟨w, W⟩, _ | _ | ⟨o, m, X, Y⟩⟩ := s
  · exact hi.lg.elim
  · obtain rfl : R = [] := hi.lg
    exact CallR.leaf (last00_spec room first en L lc F c) [(0, 2), (1, 0), (2, 3), (3, 4)] rfl rfl (by repeat' (first | exact True.intro | refine hpC rfl rfl rfl ?_ | refine ⟨⟨_, _, _, rfl, rfl, rfl, @WkO.rfl _⟩, ?_⟩ | refine HeapOK.acc rfl rfl ?_)) rfl rfl (_) (_) [(0, 0), (1, 1), (2, 2), (3, 3), (4, 4), (5, 5), (6, 6), (7, 7)] rfl rfl Wk.rfl (by repeat' (first | exact True.intro | refine hpC rfl rfl rfl ?_ | refine ⟨⟨_, _, _, rfl, rfl, rfl, @WkO.rfl _⟩, ?_⟩ | refine HeapOK.acc rfl rfl ?_)) ⟨rfl, rfl⟩
  · have h := hi.lg
    obtain ⟨rfl, hX, hXY, hXr, hYr⟩ := h
    cases hR : R with
    | nil =>
      subst hR
      exact CallR.leaf (glast0_0 room first en o L lc F c X Y) [(0, 2), (1, 0), (2, 3), (3, 4), (4, 6), (5, 7)] rfl rfl (by repeat' (first | exact True.intro | refine hpC rfl rfl rfl ?_ | refine ⟨⟨_, _, _, rfl, rfl, rfl, @WkO.rfl _⟩, ?_⟩ | refine HeapOK.acc rfl rfl ?_)) rfl rfl (_) (_) [(0, 0), (1, 1), (2, 2), (3, 3), (4, 4), (5, 5), (6, 6), (7, 7)] rfl rfl Wk.rfl (by repeat' (first | exact True.intro | refine hpC rfl rfl rfl ?_ | refine ⟨⟨_, _, _, rfl, rfl, rfl, @WkO.rfl _⟩, ?_⟩ | refine HeapOK.acc rfl rfl ?_)) ⟨rfl, rfl⟩
    | cons b T =>
      have hne : R ≠ [] := by rw [hR]; simp
      obtain ⟨g1, g2, g3⟩ := (hi.ok hne).len
      have hf := hi.first hne
      rw [hR] at g2 g3 hX hXr hYr
      simp at g2 g3 hf hX
      subst hf
      refine CallR.leaf (glast0_1 room first en o T.length L lc F c X Y (by omega) ⟨by omega, by omega⟩) [(0, 2), (1, 0), (2, 3), (3, 4), (4, 6), (5, 7)] rfl rfl (by repeat' (first | exact True.intro | refine hpC rfl rfl rfl ?_ | refine ⟨⟨_, _, _, rfl, rfl, rfl, @WkO.rfl _⟩, ?_⟩ | refine HeapOK.acc rfl rfl ?_)) rfl rfl (.c (.p (.int .i64 (first + (T.length : Nat))))) (_) [(0, 0), (1, 1), (2, 2), (3, 3), (4, 4), (5, 5), (6, 6), (7, 7)] rfl rfl Wk.rfl (by repeat' (first | exact True.intro | refine hpC rfl rfl rfl ?_ | refine ⟨⟨_, _, _, rfl, rfl, rfl, @WkO.rfl _⟩, ?_⟩ | refine HeapOK.acc rfl rfl ?_)) ⟨?_, rfl⟩
      rw [lastI_ne (by simp)]
      simp
      omega
  · exact hi.lg.elim
  · obtain rfl : R = [] := hi.lg
    exact CallR.leaf (last10_spec room first en L lc F c w W) [(0, 2), (1, 0), (2, 3), (3, 4), (4, 5)] rfl rfl (by repeat' (first | exact True.intro | refine hpC rfl rfl rfl ?_ | refine ⟨⟨_, _, _, rfl, rfl, rfl, @WkO.rfl _⟩, ?_⟩ | refine HeapOK.acc rfl rfl ?_)) rfl rfl (_) (_) [(0, 0), (1, 1), (2, 2), (3, 3), (4, 4), (5, 5), (6, 6), (7, 7)] rfl rfl Wk.rfl (by repeat' (first | exact True.intro | refine hpC rfl rfl rfl ?_ | refine ⟨⟨_, _, _, rfl, rfl, rfl, @WkO.rfl _⟩, ?_⟩ | refine HeapOK.acc rfl rfl ?_)) ⟨rfl, rfl⟩
  · have h := hi.lg
    obtain ⟨rfl, hX, hXY, hXr, hYr⟩ := h
    cases hR : R with
    | nil =>
      subst hR
      exact CallR.leaf (glast1_0 room first en o L lc F c w W X Y) [(0, 2), (1, 0), (2, 3), (3, 4), (4, 5), (5, 6), (6, 7)] rfl rfl (by repeat' (first | exact True.intro | refine hpC rfl rfl rfl ?_ | refine ⟨⟨_, _, _, rfl, rfl, rfl, @WkO.rfl _⟩, ?_⟩ | refine HeapOK.acc rfl rfl ?_)) rfl rfl (_) (_) [(0, 0), (1, 1), (2, 2), (3, 3), (4, 4), (5, 5), (6, 6), (7, 7)] rfl rfl Wk.rfl (by repeat' (first | exact True.intro | refine hpC rfl rfl rfl ?_ | refine ⟨⟨_, _, _, rfl, rfl, rfl, @WkO.rfl _⟩, ?_⟩ | refine HeapOK.acc rfl rfl ?_)) ⟨rfl, rfl⟩
    | cons b T =>
      have hne : R ≠ [] := by rw [hR]; simp
      obtain ⟨g1, g2, g3⟩ := (hi.ok hne).len
      have hf := hi.first hne
      rw [hR] at g2 g3 hX hXr hYr
      simp at g2 g3 hf hX
      subst hf
      refine CallR.leaf (glast1_1 room first en o T.length L lc F c w W X Y (by omega) ⟨by omega, by omega⟩) [(0, 2), (1, 0), (2, 3), (3, 4), (4, 5), (5, 6), (6, 7)] rfl rfl (by repeat' (first | exact True.intro | refine hpC rfl rfl rfl ?_ | refine ⟨⟨_, _, _, rfl, rfl, rfl, @WkO.rfl _⟩, ?_⟩ | refine HeapOK.acc rfl rfl ?_)) rfl rfl (.c (.p (.int .i64 (first + (T.length : Nat))))) (_) [(0, 0), (1, 1), (2, 2), (3, 3), (4, 4), (5, 5), (6, 6), (7, 7)] rfl rfl Wk.rfl (by repeat' (first | exact True.intro | refine hpC rfl rfl rfl ?_ | refine ⟨⟨_, _, _, rfl, rfl, rfl, @WkO.rfl _⟩, ?_⟩ | refine HeapOK.acc rfl rfl ?_)) ⟨?_, rfl⟩
      rw [lastI_ne (by simp)]
      simp
      omega
theorem W_first {s : WS} {f : Int} {R : List (List Int)} (hi : WInv s f R) : CW base 31 [.c (.ptr 2 0)] s (fun r s' => r = .c (.p (.int .i64 (if R = [] then 0 else f))) ∧ s' = s) := by
  obtain ⟨room, first, en, L, lc, F, c, _ | ⟨w, W⟩, _ | _ | ⟨o, m, X, Y⟩⟩ := s
  · exact hi.lg.elim
  · obtain rfl : R = [] := hi.lg
    exact CallR.leaf (first00_spec room first en L lc F c) [(0, 2), (1, 0), (2, 3), (3, 4)] rfl rfl (by repeat' (first | exact True.intro | refine hpC rfl rfl rfl ?_ | refine ⟨⟨_, _, _, rfl, rfl, rfl, @WkO.rfl _⟩, ?_⟩ | refine HeapOK.acc rfl rfl ?_)) rfl rfl (_) (_) [(0, 0), (1, 1), (2, 2), (3, 3), (4, 4), (5, 5), (6, 6), (7, 7)] rfl rfl Wk.rfl (by repeat' (first | exact True.intro | refine hpC rfl rfl rfl ?_ | refine ⟨⟨_, _, _, rfl, rfl, rfl, @WkO.rfl _⟩, ?_⟩ | refine HeapOK.acc rfl rfl ?_)) ⟨rfl, rfl⟩
  · have h := hi.lg
    obtain ⟨rfl, hX, hXY, hXr, hYr⟩ := h
    cases hR : R with
    | nil =>
      subst hR
      exact CallR.leaf (gfirst0_0 room first en o L lc F c X Y) [(0, 2), (1, 0), (2, 3), (3, 4), (4, 6), (5, 7)] rfl rfl (by repeat' (first | exact True.intro | refine hpC rfl rfl rfl ?_ | refine ⟨⟨_, _, _, rfl, rfl, rfl, @WkO.rfl _⟩, ?_⟩ | refine HeapOK.acc rfl rfl ?_)) rfl rfl (_) (_) [(0, 0), (1, 1), (2, 2), (3, 3), (4, 4), (5, 5), (6, 6), (7, 7)] rfl rfl Wk.rfl (by repeat' (first | exact True.intro | refine hpC rfl rfl rfl ?_ | refine ⟨⟨_, _, _, rfl, rfl, rfl, @WkO.rfl _⟩, ?_⟩ | refine HeapOK.acc rfl rfl ?_)) ⟨rfl, rfl⟩
    | cons b T =>
      have hne : R ≠ [] := by rw [hR]; simp
      obtain ⟨g1, g2, g3⟩ := (hi.ok hne).len
      have hf := hi.first hne
      rw [hR] at g2 g3 hX hXr hYr
      simp at g2 g3 hf hX
      subst hf
      exact CallR.leaf (gfirst0_1 room first en o T.length L lc F c X Y) [(0, 2), (1, 0), (2, 3), (3, 4), (4, 6), (5, 7)] rfl rfl (by repeat' (first | exact True.intro | refine hpC rfl rfl rfl ?_ | refine ⟨⟨_, _, _, rfl, rfl, rfl, @WkO.rfl _⟩, ?_⟩ | refine HeapOK.acc rfl rfl ?_)) rfl rfl (.c (.p (.int .i64 first))) (_) [(0, 0), (1, 1), (2, 2), (3, 3), (4, 4), (5, 5), (6, 6), (7, 7)] rfl rfl Wk.rfl (by repeat' (first | exact True.intro | refine hpC rfl rfl rfl ?_ | refine ⟨⟨_, _, _, rfl, rfl, rfl, @WkO.rfl _⟩, ?_⟩ | refine HeapOK.acc rfl rfl ?_)) ⟨by rw [if_neg (by simp)], rfl⟩
  · exact hi.lg.elim
  · obtain rfl : R = [] := hi.lg
    exact CallR.leaf (first10_spec room first en L lc F c w W) [(0, 2), (1, 0), (2, 3), (3, 4), (4, 5)] rfl rfl (by repeat' (first | exact True.intro | refine hpC rfl rfl rfl ?_ | refine ⟨⟨_, _, _, rfl, rfl, rfl, @WkO.rfl _⟩, ?_⟩ | refine HeapOK.acc rfl rfl ?_)) rfl rfl (_) (_) [(0, 0), (1, 1), (2, 2), (3, 3), (4, 4), (5, 5), (6, 6), (7, 7)] rfl rfl Wk.rfl (by repeat' (first | exact True.intro | refine hpC rfl rfl rfl ?_ | refine ⟨⟨_, _, _, rfl, rfl, rfl, @WkO.rfl _⟩, ?_⟩ | refine HeapOK.acc rfl rfl ?_)) ⟨rfl, rfl⟩
  · have h := hi.lg
    obtain ⟨rfl, hX, hXY, hXr, hYr⟩ := h
    cases hR : R with
    | nil =>
      subst hR
      exact CallR.leaf (gfirst1_0 room first en o L lc F c w W X Y) [(0, 2), (1, 0), (2, 3), (3, 4), (4, 5), (5, 6), (6, 7)] rfl rfl (by repeat' (first | exact True.intro | refine hpC rfl rfl rfl ?_ | refine ⟨⟨_, _, _, rfl, rfl, rfl, @WkO.rfl _⟩, ?_⟩ | refine HeapOK.acc rfl rfl ?_)) rfl rfl (_) (_) [(0, 0), (1, 1), (2, 2), (3, 3), (4, 4), (5, 5), (6, 6), (7, 7)] rfl rfl Wk.rfl (by repeat' (first | exact True.intro | refine hpC rfl rfl rfl ?_ | refine ⟨⟨_, _, _, rfl, rfl, rfl, @WkO.rfl _⟩, ?_⟩ | refine HeapOK.acc rfl rfl ?_)) ⟨rfl, rfl⟩
    | cons b T =>
      have hne : R ≠ [] := by rw [hR]; simp
      obtain ⟨g1, g2, g3⟩ := (hi.ok hne).len
      have hf := hi.first hne
      rw [hR] at g2 g3 hX hXr hYr
      simp at g2 g3 hf hX
      subst hf
      exact CallR.leaf (gfirst1_1 room first en o T.length L lc F c w W X Y) [(0, 2), (1, 0), (2, 3), (3, 4), (4, 5), (5, 6), (6, 7)] rfl rfl (by repeat' (first | exact True.intro | refine hpC rfl rfl rfl ?_ | refine ⟨⟨_, _, _, rfl, rfl, rfl, @WkO.rfl _⟩, ?_⟩ | refine HeapOK.acc rfl rfl ?_)) rfl rfl (.c (.p (.int .i64 first))) (_) [(0, 0), (1, 1), (2, 2), (3, 3), (4, 4), (5, 5), (6, 6), (7, 7)] rfl rfl Wk.rfl (by repeat' (first | exact True.intro | refine hpC rfl rfl rfl ?_ | refine ⟨⟨_, _, _, rfl, rfl, rfl, @WkO.rfl _⟩, ?_⟩ | refine HeapOK.acc rfl rfl ?_)) ⟨by rw [if_neg (by simp)], rfl⟩
theorem W_gety {s : WS} {f : Int} {R : List (List Int)} (hi : WInv s f R) (j : Nat) (x : List Int) (hj : R[j]? = some x) (hxl : x.length ≤ 1000000000) : CW base 26 [.c (.ptr 2 0), .c (.p (.int .i64 (f + j)))] s (fun r s' => (∃ z, r = .tup [.c (.p (fP z x none)), .c (.p (.bool true))]) ∧ s' = s) := by
  obtain ⟨room, first, en, L, lc, F, c, _ | ⟨w, W⟩, _ | _ | ⟨o, m, X, Y⟩⟩ := s
  · exact hi.lg.elim
  · obtain rfl : R = [] := hi.lg
    simp at hj
  · have h := hi.lg
    obtain ⟨rfl, hX, hXY, hXr, hYr⟩ := h
    cases hR : R with
    | nil =>
      subst hR
      simp at hj
    | cons b T =>
      have hne : R ≠ [] := by rw [hR]; simp
      obtain ⟨g1, g2, g3⟩ := (hi.ok hne).len
      have hf := hi.first hne
      rw [hR] at g2 g3 hX hXr hYr
      simp at g2 g3 hf hX
      subst hf
      obtain ⟨z, hz⟩ := hXr j x (by rw [← hR]; exact hj)
      have hjl := (List.getElem?_eq_some_iff.1 hj).1
      rw [hR] at hjl
      simp at hjl
      exact CallR.leaf (gget0_y room first en o T.length L lc F c X Y (by omega) ⟨by omega, by omega⟩ j (by omega) (first + j) rfl z x none hz hxl) [(0, 2), (1, 0), (2, 3), (3, 4), (4, 6), (5, 7)] rfl rfl (by repeat' (first | exact True.intro | refine hpC rfl rfl rfl ?_ | refine ⟨⟨_, _, _, rfl, rfl, rfl, @WkO.rfl _⟩, ?_⟩ | refine HeapOK.acc rfl rfl ?_)) rfl rfl (.tup [.c (.p (fP z x none)), .c (.p (.bool true))]) (_) [(0, 0), (1, 1), (2, 2), (3, 3), (4, 4), (5, 5), (6, 6), (7, 7)] rfl rfl Wk.rfl (by repeat' (first | exact True.intro | refine hpC rfl rfl rfl ?_ | refine ⟨⟨_, _, _, rfl, rfl, rfl, @WkO.rfl _⟩, ?_⟩ | refine HeapOK.acc rfl rfl ?_)) ⟨⟨z, rfl⟩, rfl⟩
  · exact hi.lg.elim
  · obtain rfl : R = [] := hi.lg
    simp at hj
  · have h := hi.lg
    obtain ⟨rfl, hX, hXY, hXr, hYr⟩ := h
    cases hR : R with
    | nil =>
      subst hR
      simp at hj
    | cons b T =>
      have hne : R ≠ [] := by rw [hR]; simp
      obtain ⟨g1, g2, g3⟩ := (hi.ok hne).len
      have hf := hi.first hne
      rw [hR] at g2 g3 hX hXr hYr
      simp at g2 g3 hf hX
      subst hf
      obtain ⟨z, hz⟩ := hXr j x (by rw [← hR]; exact hj)
      have hjl := (List.getElem?_eq_some_iff.1 hj).1
      rw [hR] at hjl
      simp at hjl
      exact CallR.leaf (gget1_y room first en o T.length L lc F c w W X Y (by omega) ⟨by omega, by omega⟩ j (by omega) (first + j) rfl z x none hz hxl) [(0, 2), (1, 0), (2, 3), (3, 4), (4, 5), (5, 6), (6, 7)] rfl rfl (by repeat' (first | exact True.intro | refine hpC rfl rfl rfl ?_ | refine ⟨⟨_, _, _, rfl, rfl, rfl, @WkO.rfl _⟩, ?_⟩ | refine HeapOK.acc rfl rfl ?_)) rfl rfl (.tup [.c (.p (fP z x none)), .c (.p (.bool true))]) (_) [(0, 0), (1, 1), (2, 2), (3, 3), (4, 4), (5, 5), (6, 6), (7, 7)] rfl rfl Wk.rfl (by repeat' (first | exact True.intro | refine hpC rfl rfl rfl ?_ | refine ⟨⟨_, _, _, rfl, rfl, rfl, @WkO.rfl _⟩, ?_⟩ | refine HeapOK.acc rfl rfl ?_)) ⟨⟨z, rfl⟩, rfl⟩
end Go.Proofs.Ytjlfojgacnphmaa

namespace Go.Proofs.Ytjlfojgacnphmaa
open Go.RowKit Sim Go Sym
set_option maxRecDepth 100000
set_option linter.unusedVariables false
set_option linter.unusedSimpArgs false
variable {base : Nat}
theorem W_append_e1 (s : WS) (n : Int) (z : Bool) (b : List Int) (cb : Option Nat) (hn : n < 1) : CW base 21 [.c (.ptr 2 0), .c (.p (.int .i64 n)), .c (.p (.tz z 1 (u8P b) cb))] s (fun r s' => r = .c (.p (.int .i64 1)) ∧ s' = s) := by
  refine CallR.of wOK noNG lWap.2 rfl (M.start (M.go rfl ?_))
  refine M.dec rfl (fun _ => ?_) (fun hh => absurd hn hh)
  refine M.go rfl ?_
  exact M.ret (M.go rfl (M.done (finR.ret wOK (.c (.p (.int .i64 1))) s [(0, 0), (1, 1), (2, 2), (3, 3), (4, 4), (5, 5), (6, 6), (7, 7)] rfl rfl rfl Wk.rfl (by repeat' (first | exact True.intro | refine hpC rfl rfl rfl ?_ | refine HeapOK.acc rfl rfl ?_ | refine HeapOK.es rfl rfl ?_ | exact HeapOK.fam wOK (by repeat' (first | exact Tl.here | refine Tl.cons rfl ?_)) rfl)) ⟨rfl, rfl⟩)))
theorem W_from_e1 (s : WS) (n : Int) (hn : n < 1) : CW base 25 [.c (.ptr 2 0), .c (.p (.int .i64 n))] s (fun r s' => r = .c (.p (.int .i64 1)) ∧ s' = s) := by
  refine CallR.of wOK noNG lWfr.2 rfl (M.start (M.go rfl ?_))
  refine M.cond rfl (fun _ => ?_) (fun hh => absurd hn hh)
  refine M.go rfl ?_
  exact M.ret (M.go rfl (M.done (finR.ret wOK (.c (.p (.int .i64 1))) s [(0, 0), (1, 1), (2, 2), (3, 3), (4, 4), (5, 5), (6, 6), (7, 7)] rfl rfl rfl Wk.rfl (by repeat' (first | exact True.intro | refine hpC rfl rfl rfl ?_ | refine HeapOK.acc rfl rfl ?_ | refine HeapOK.es rfl rfl ?_ | exact HeapOK.fam wOK (by repeat' (first | exact Tl.here | refine Tl.cons rfl ?_)) rfl)) ⟨rfl, rfl⟩)))
theorem W_append_e2 {s : WS} {f : Int} {R : List (List Int)} (hi : WInv s f R) (n : Int) (z : Bool) (bb : List Int) (cb : Option Nat) (hn1 : 1 ≤ n) (hne0 : R ≠ []) (hn : n ≠ f + R.length) : CW base 21 [.c (.ptr 2 0), .c (.p (.int .i64 n)), .c (.p (.tz z 1 (u8P bb) cb))] s (fun r s' => r = .c (.p (.int .i64 1)) ∧ s' = s) := by
  obtain ⟨room, first, en, L, lc, F, c, _ | ⟨w, W⟩, _ | _ | ⟨o, m, X, Y⟩⟩ := s
  · exact hi.lg.elim
  · obtain rfl : R = [] := hi.lg
    exact absurd rfl hne0
  · have h := hi.lg
    obtain ⟨rfl, hX, hXY, hXr, hYr⟩ := h
    cases hR : R with
    | nil =>
      subst hR
      exact absurd rfl hne0
    | cons b T =>
      have hne : R ≠ [] := by rw [hR]; simp
      obtain ⟨g1, g2, g3⟩ := (hi.ok hne).len
      have hf := hi.first hne
      rw [hR] at g2 g3 hX hXr hYr
      simp at g2 g3 hf hX
      subst hf
      rw [hR] at hn
      have hi2 := hi
      rw [hR] at hi2
      refine CallR.of wOK noNG lWap.2 rfl (M.start (M.go rfl ?_))
      refine M.dec rfl (fun hh => absurd hh (by omega)) (fun _ => ?_)
      refine M.go rfl ?_
      refine M.dec rfl (fun _ => ?_) (fun hh => absurd (by first | (simp; done) | (simp; omega)) hh)
      refine M.go rfl ?_
      refine M.useR (s := (⟨room, first, en, L, lc, F, c, none, .own o (b :: T).length X Y⟩ : WS)) wOK [] [(0, .c (.ptr 2 0)), (1, .c (.p (.int .i64 n))), (6, .c (.p (.int .i64 0))), (16, .c (.p (.bool false))), (23, .c (.p (.bool true))), (24, .c (.p (.int .i64 n)))] rfl (W_last hi2) rfl trivial rfl rfl rfl rfl (fun r s' h => by rw [h.1]; rfl) (by repeat' (first | exact True.intro | refine evC rfl rfl Wk.rfl ?_ | refine evC (accV_ren rfl) rfl Wk.rfl ?_ | refine evC (accV_ren rfl) rfl Wk.acc0 ?_ | refine evC rfl rfl Wk.uncap ?_ | refine evC rfl rfl Wk.nil ?_)) (fun r s' h => ?_)
      obtain ⟨rfl, rfl⟩ := h
      refine M.go rfl ?_
      rw [lastI_ne (by simp), wr64 (n := first + ((b :: T).length : Nat) - 1 + 1) (by simp; omega) (by simp; omega)]
      refine M.condN rfl (fun _ => ?_) (fun hh => absurd hh (by simp at hn ⊢; omega))
      refine M.go rfl ?_
      exact M.ret (M.go rfl (M.done (finR.ret wOK (.c (.p (.int .i64 1))) (⟨room, first, en, L, lc, F, c, none, .own o (b :: T).length X Y⟩ : WS) [(0, 0), (1, 1), (2, 2), (3, 3), (4, 4), (5, 5), (6, 6), (7, 7)] rfl rfl rfl Wk.rfl (by repeat' (first | exact True.intro | refine hpC rfl rfl rfl ?_ | refine ⟨⟨_, _, _, rfl, rfl, rfl, @WkO.rfl _⟩, ?_⟩ | refine HeapOK.acc rfl rfl ?_)) ⟨rfl, rfl⟩)))
  · exact hi.lg.elim
  · obtain rfl : R = [] := hi.lg
    exact absurd rfl hne0
  · have h := hi.lg
    obtain ⟨rfl, hX, hXY, hXr, hYr⟩ := h
    cases hR : R with
    | nil =>
      subst hR
      exact absurd rfl hne0
    | cons b T =>
      have hne : R ≠ [] := by rw [hR]; simp
      obtain ⟨g1, g2, g3⟩ := (hi.ok hne).len
      have hf := hi.first hne
      rw [hR] at g2 g3 hX hXr hYr
      simp at g2 g3 hf hX
      subst hf
      rw [hR] at hn
      have hi2 := hi
      rw [hR] at hi2
      refine CallR.of wOK noNG lWap.2 rfl (M.start (M.go rfl ?_))
      refine M.dec rfl (fun hh => absurd hh (by omega)) (fun _ => ?_)
      refine M.go rfl ?_
      refine M.dec rfl (fun _ => ?_) (fun hh => absurd (by first | (simp; done) | (simp; omega)) hh)
      refine M.go rfl ?_
      refine M.useR (s := (⟨room, first, en, L, lc, F, c, some (w, W), .own o (b :: T).length X Y⟩ : WS)) wOK [] [(0, .c (.ptr 2 0)), (1, .c (.p (.int .i64 n))), (6, .c (.p (.int .i64 0))), (16, .c (.p (.bool false))), (23, .c (.p (.bool true))), (24, .c (.p (.int .i64 n)))] rfl (W_last hi2) rfl trivial rfl rfl rfl rfl (fun r s' h => by rw [h.1]; rfl) (by repeat' (first | exact True.intro | refine evC rfl rfl Wk.rfl ?_ | refine evC (accV_ren rfl) rfl Wk.rfl ?_ | refine evC (accV_ren rfl) rfl Wk.acc0 ?_ | refine evC rfl rfl Wk.uncap ?_ | refine evC rfl rfl Wk.nil ?_)) (fun r s' h => ?_)
      obtain ⟨rfl, rfl⟩ := h
      refine M.go rfl ?_
      rw [lastI_ne (by simp), wr64 (n := first + ((b :: T).length : Nat) - 1 + 1) (by simp; omega) (by simp; omega)]
      refine M.condN rfl (fun _ => ?_) (fun hh => absurd hh (by simp at hn ⊢; omega))
      refine M.go rfl ?_
      exact M.ret (M.go rfl (M.done (finR.ret wOK (.c (.p (.int .i64 1))) (⟨room, first, en, L, lc, F, c, some (w, W), .own o (b :: T).length X Y⟩ : WS) [(0, 0), (1, 1), (2, 2), (3, 3), (4, 4), (5, 5), (6, 6), (7, 7)] rfl rfl rfl Wk.rfl (by repeat' (first | exact True.intro | refine hpC rfl rfl rfl ?_ | refine ⟨⟨_, _, _, rfl, rfl, rfl, @WkO.rfl _⟩, ?_⟩ | refine HeapOK.acc rfl rfl ?_)) ⟨rfl, rfl⟩)))
theorem W_from_n {s : WS} {f : Int} {R : List (List Int)} (hi : WInv s f R) (n : Int) (hn1 : 1 ≤ n) (hn : R ≠ [] → f + R.length ≤ n) : CW base 25 [.c (.ptr 2 0), .c (.p (.int .i64 n))] s (fun r s' => r = .c (.p (.int .i64 0)) ∧ s' = s) := by
  obtain ⟨room, first, en, L, lc, F, c, _ | ⟨w, W⟩, _ | _ | ⟨o, m, X, Y⟩⟩ := s
  · exact hi.lg.elim
  · obtain rfl : R = [] := hi.lg
    refine CallR.of wOK noNG lWfr.2 rfl (M.start (M.go rfl ?_))
    refine M.cond rfl (fun hh => absurd hh (by omega)) (fun _ => ?_)
    refine M.go rfl ?_
    refine M.dec rfl (fun _ => ?_) (fun hh => absurd (by simp) hh)
    refine M.go rfl ?_
    exact M.ret (M.go rfl (M.done (finR.ret wOK (.c (.p (.int .i64 0))) (⟨room, first, en, L, lc, F, c, none, .nil⟩ : WS) [(0, 0), (1, 1), (2, 2), (3, 3), (4, 4), (5, 5), (6, 6), (7, 7)] rfl rfl rfl Wk.rfl (by repeat' (first | exact True.intro | refine hpC rfl rfl rfl ?_ | refine ⟨⟨_, _, _, rfl, rfl, rfl, @WkO.rfl _⟩, ?_⟩ | refine HeapOK.acc rfl rfl ?_)) ⟨rfl, rfl⟩)))
  · have h := hi.lg
    obtain ⟨rfl, hX, hXY, hXr, hYr⟩ := h
    cases hR : R with
    | nil =>
      subst hR
      exact CallR.leaf (gfrom0_0 room first en o L lc F c X Y n hn1) [(0, 2), (1, 0), (2, 3), (3, 4), (4, 6), (5, 7)] rfl rfl (by repeat' (first | exact True.intro | refine hpC rfl rfl rfl ?_ | refine ⟨⟨_, _, _, rfl, rfl, rfl, @WkO.rfl _⟩, ?_⟩ | refine HeapOK.acc rfl rfl ?_)) rfl rfl (_) (_) [(0, 0), (1, 1), (2, 2), (3, 3), (4, 4), (5, 5), (6, 6), (7, 7)] rfl rfl Wk.rfl (by repeat' (first | exact True.intro | refine hpC rfl rfl rfl ?_ | refine ⟨⟨_, _, _, rfl, rfl, rfl, @WkO.rfl _⟩, ?_⟩ | refine HeapOK.acc rfl rfl ?_)) ⟨rfl, rfl⟩
    | cons b T =>
      have hne : R ≠ [] := by rw [hR]; simp
      obtain ⟨g1, g2, g3⟩ := (hi.ok hne).len
      have hf := hi.first hne
      rw [hR] at g2 g3 hX hXr hYr
      simp at g2 g3 hf hX
      subst hf
      have hn := hn hne
      rw [hR] at hn
      have hi2 := hi
      rw [hR] at hi2
      simp at hn
      exact CallR.leaf (gfrom0_n room first en o T.length L lc F c X Y n hn1 (by omega) ⟨by omega, by omega⟩ (by omega)) [(0, 2), (1, 0), (2, 3), (3, 4), (4, 6), (5, 7)] rfl rfl (by repeat' (first | exact True.intro | refine hpC rfl rfl rfl ?_ | refine ⟨⟨_, _, _, rfl, rfl, rfl, @WkO.rfl _⟩, ?_⟩ | refine HeapOK.acc rfl rfl ?_)) rfl rfl (_) (_) [(0, 0), (1, 1), (2, 2), (3, 3), (4, 4), (5, 5), (6, 6), (7, 7)] rfl rfl Wk.rfl (by repeat' (first | exact True.intro | refine hpC rfl rfl rfl ?_ | refine ⟨⟨_, _, _, rfl, rfl, rfl, @WkO.rfl _⟩, ?_⟩ | refine HeapOK.acc rfl rfl ?_)) ⟨rfl, rfl⟩
  · exact hi.lg.elim
  · obtain rfl : R = [] := hi.lg
    refine CallR.of wOK noNG lWfr.2 rfl (M.start (M.go rfl ?_))
    refine M.cond rfl (fun hh => absurd hh (by omega)) (fun _ => ?_)
    refine M.go rfl ?_
    refine M.dec rfl (fun _ => ?_) (fun hh => absurd (by simp) hh)
    refine M.go rfl ?_
    exact M.ret (M.go rfl (M.done (finR.ret wOK (.c (.p (.int .i64 0))) (⟨room, first, en, L, lc, F, c, some (w, W), .nil⟩ : WS) [(0, 0), (1, 1), (2, 2), (3, 3), (4, 4), (5, 5), (6, 6), (7, 7)] rfl rfl rfl Wk.rfl (by repeat' (first | exact True.intro | refine hpC rfl rfl rfl ?_ | refine ⟨⟨_, _, _, rfl, rfl, rfl, @WkO.rfl _⟩, ?_⟩ | refine HeapOK.acc rfl rfl ?_)) ⟨rfl, rfl⟩)))
  · have h := hi.lg
    obtain ⟨rfl, hX, hXY, hXr, hYr⟩ := h
    cases hR : R with
    | nil =>
      subst hR
      exact CallR.leaf (gfrom1_0 room first en o L lc F c w W X Y n hn1) [(0, 2), (1, 0), (2, 3), (3, 4), (4, 5), (5, 6), (6, 7)] rfl rfl (by repeat' (first | exact True.intro | refine hpC rfl rfl rfl ?_ | refine ⟨⟨_, _, _, rfl, rfl, rfl, @WkO.rfl _⟩, ?_⟩ | refine HeapOK.acc rfl rfl ?_)) rfl rfl (_) (_) [(0, 0), (1, 1), (2, 2), (3, 3), (4, 4), (5, 5), (6, 6), (7, 7)] rfl rfl Wk.rfl (by repeat' (first | exact True.intro | refine hpC rfl rfl rfl ?_ | refine ⟨⟨_, _, _, rfl, rfl, rfl, @WkO.rfl _⟩, ?_⟩ | refine HeapOK.acc rfl rfl ?_)) ⟨rfl, rfl⟩
    | cons b T =>
      have hne : R ≠ [] := by rw [hR]; simp
      obtain ⟨g1, g2, g3⟩ := (hi.ok hne).len
      have hf := hi.first hne
      rw [hR] at g2 g3 hX hXr hYr
      simp at g2 g3 hf hX
      subst hf
      have hn := hn hne
      rw [hR] at hn
      have hi2 := hi
      rw [hR] at hi2
      simp at hn
      exact CallR.leaf (gfrom1_n room first en o T.length L lc F c w W X Y n hn1 (by omega) ⟨by omega, by omega⟩ (by omega)) [(0, 2), (1, 0), (2, 3), (3, 4), (4, 5), (5, 6), (6, 7)] rfl rfl (by repeat' (first | exact True.intro | refine hpC rfl rfl rfl ?_ | refine ⟨⟨_, _, _, rfl, rfl, rfl, @WkO.rfl _⟩, ?_⟩ | refine HeapOK.acc rfl rfl ?_)) rfl rfl (_) (_) [(0, 0), (1, 1), (2, 2), (3, 3), (4, 4), (5, 5), (6, 6), (7, 7)] rfl rfl Wk.rfl (by repeat' (first | exact True.intro | refine hpC rfl rfl rfl ?_ | refine ⟨⟨_, _, _, rfl, rfl, rfl, @WkO.rfl _⟩, ?_⟩ | refine HeapOK.acc rfl rfl ?_)) ⟨rfl, rfl⟩
end Go.Proofs.Ytjlfojgacnphmaa

namespace Go.Proofs.Ytjlfojgacnphmaa
open Go.RowKit Sim Go Sym
set_option maxRecDepth 100000
set_option linter.unusedVariables false
set_option linter.unusedSimpArgs false
variable {base : Nat}
theorem LGok.free {f g : Int} {l : LG} (h : LGok f [] l) : LGok g [] l := by
  cases l with
  | no => exact h
  | nil => exact h
  | own o m X Y =>
    obtain ⟨rfl, h1, h2, h3, h4⟩ := h
    exact ⟨rfl, h1, h2, fun j b hj => by simp at hj, fun j hj => by simp at hj⟩
theorem LGok.app_i {f : Int} {R : List (List Int)} {o m : Nat} {X Y : List PC} {b : List Int} {z : Bool} (h : LGok f R (.own o m X Y)) (hl : o + m < X.length) : LGok f (R ++ [b]) (.own o (m + 1) (X.set (o + m) (fP z b none)) (Y.set (o + m) (.int .i64 ((flatR f R).length : Nat)))) := by
  obtain ⟨rfl, h1, h2, h3, h4⟩ := h
  refine ⟨by simp, by simp; omega, by simp [h2], fun j x hj => ?_, fun j hj => ?_⟩
  · by_cases hjl : j < R.length
    · rw [List.getElem?_append_left hjl] at hj
      obtain ⟨z', hz⟩ := h3 j x hj
      exact ⟨z', by rw [List.getElem?_set_ne (by omega)]; exact hz⟩
    · have hlt := (List.getElem?_eq_some_iff.1 hj).1
      simp at hlt
      obtain rfl : j = R.length := by omega
      simp at hj
      subst hj
      exact ⟨z, by rw [List.getElem?_set_self (by omega)]⟩
  · by_cases hjl : j < R.length
    · rw [List.getElem?_set_ne (by omega), List.take_append_of_le_length (by omega)]
      exact h4 j hjl
    · obtain rfl : j = R.length := by omega
      rw [List.getElem?_set_self (by omega), List.take_append_of_le_length (by omega), List.take_length]
theorem LGok.app_g {f : Int} {R : List (List Int)} {o m : Nat} {X Y : List PC} {b : List Int} {z : Bool} (h : LGok f R (.own o m X Y)) (hl : o + m = X.length) : LGok f (R ++ [b]) (.own 0 (m + 1) (X.drop o ++ [fP z b none]) (Y.drop o ++ [.int .i64 ((flatR f R).length : Nat)])) := by
  obtain ⟨rfl, h1, h2, h3, h4⟩ := h
  refine ⟨by simp, by simp; omega, by simp [h2], fun j x hj => ?_, fun j hj => ?_⟩
  · rw [Nat.zero_add]
    by_cases hjl : j < R.length
    · rw [List.getElem?_append_left hjl] at hj
      obtain ⟨z', hz⟩ := h3 j x hj
      exact ⟨z', by rw [List.getElem?_append_left (by simp; omega), List.getElem?_drop]; exact hz⟩
    · have hlt := (List.getElem?_eq_some_iff.1 hj).1
      simp at hlt
      obtain rfl : j = R.length := by omega
      simp at hj
      subst hj
      exact ⟨z, by rw [List.getElem?_append_right (by simp; omega)]; simp [← hl]⟩
  · rw [Nat.zero_add]
    by_cases hjl : j < R.length
    · rw [List.getElem?_append_left (by simp; omega), List.getElem?_drop, List.take_append_of_le_length (by omega)]
      exact h4 j hjl
    · obtain rfl : j = R.length := by omega
      rw [List.getElem?_append_right (by simp; omega), List.take_append_of_le_length (by omega), List.take_length]
      simp [h2, ← hl]
theorem LGok.first {f : Int} {b : List Int} {z : Bool} : LGok f [b] (.own 0 1 [fP z b none] [.int .i64 0]) := by
  refine ⟨rfl, by simp, rfl, fun j x hj => ?_, fun j hj => ?_⟩
  · have hlt := (List.getElem?_eq_some_iff.1 hj).1
    simp at hlt
    subst hlt
    simp at hj
    subst hj
    exact ⟨z, rfl⟩
  · obtain rfl : j = 0 := by omega
    rfl
theorem LGok.take {f : Int} {R : List (List Int)} {o m : Nat} {X Y : List PC} (h : LGok f R (.own o m X Y)) {k : Nat} (hk : k ≤ m) : LGok f (R.take k) (.own o k X Y) := by
  obtain ⟨rfl, h1, h2, h3, h4⟩ := h
  refine ⟨by simp; omega, by omega, h2, fun j x hj => ?_, fun j hj => ?_⟩
  · have hlt := (List.getElem?_eq_some_iff.1 hj).1
    simp at hlt
    rw [List.getElem?_take_of_lt (by omega)] at hj
    exact h3 j x hj
  · rw [List.take_take, show min j k = j by omega]
    exact h4 j (by omega)
theorem flat_sub (R : List (List Int)) (f : Int) (k j : Nat) (h : k + j ≤ R.length) : (flatR f (R.take (k + j))).length = (flatR f (R.take k)).length + (flatR (f + k) ((R.drop k).take j)).length := by
  have h1 := flatR_split (R.take (k + j)) f k
  rw [List.take_take, show min k (k + j) = k by omega, show min k (R.take (k + j)).length = k by rw [List.length_take]; omega] at h1
  rw [h1, List.length_append, show (R.take (k + j)).drop k = (R.drop k).take j by rw [List.drop_take, show k + j - k = j by omega]]
theorem LGok.drop {f : Int} {R : List (List Int)} {o m : Nat} {X Y : List PC} (h : LGok f R (.own o (m + 1) X Y)) {k : Nat} (hk : k < m) : LGok (f + (k + 1 : Nat)) (R.drop (k + 1)) (.own (o + (k + 1)) (m - k) X (subY Y (o + (k + 1)) (fun j => (flatR f (R.take (k + 1 + j))).length) (flatR f (R.take (k + 1))).length (m - k))) := by
  obtain ⟨h0, h1, h2, h3, h4⟩ := h
  refine ⟨by simp; omega, by omega, by rw [subY_len]; exact h2, fun j x hj => ?_, fun j hj => ?_⟩
  · rw [List.getElem?_drop] at hj
    obtain ⟨z, hz⟩ := h3 _ x hj
    exact ⟨z, by rw [show o + (k + 1) + j = o + (k + 1 + j) by omega]; exact hz⟩
  · rw [subY_lo _ _ _ _ _ _ hj (by omega)]
    have := flat_sub R f (k + 1) j (by omega)
    simp only [Option.some.injEq, PC.int.injEq, true_and]
    omega
theorem Fok.ok {B : List Int} {F : FS} {c : Nat} (h : Fok B F c) : FOK F c := by
  rcases h with ⟨-, rfl, -⟩ | ⟨⟨z, cp, rfl⟩, hc⟩
  · exact f0_ok c
  · have h1 := f1_ok [119] z B cp
    exact ⟨fun e he => Nat.lt_of_lt_of_le (h1.old e he) hc, h1.nd, h1.f⟩
theorem Fok.used {B : List Int} {F : FS} {c : Nat} (h : Fok B F c) : usedN F = B.length := by
  rcases h with ⟨rfl, rfl, -⟩ | ⟨⟨z, cp, rfl⟩, hc⟩
  · rfl
  · simp [usedN, f1, lenP, fP, u8P_len]
theorem Fok.len {B : List Int} {F : FS} {c : Nat} (h : Fok B F c) : F.length < 64 := by
  rcases h with ⟨rfl, rfl, -⟩ | ⟨⟨z, cp, rfl⟩, hc⟩
  · simp
  · simp [f1]
theorem Fok.fr {B : List Int} {F : FS} {c : Nat} (h : Fok B F c) : findP frN F = none := by
  rcases h with ⟨rfl, rfl, -⟩ | ⟨⟨z, cp, rfl⟩, hc⟩
  · rfl
  · rfl
theorem Fok.cut {B : List Int} {F : FS} {c : Nat} (h : Fok B F c) (hB : B ≠ []) : ∃ z cp, findP [119] F = some (fP z B cp) ∧ ∀ p, Fok (B.take p) (updP [119] (cutF z B p) c F) (updPC [119] (cutF z B p) c F) := by
  rcases h with ⟨rfl, rfl, -⟩ | ⟨⟨z, cp, rfl⟩, hc⟩
  · exact absurd rfl hB
  · exact ⟨z, cp, rfl, fun p => .inr ⟨⟨_, _, rfl⟩, hc⟩⟩
theorem Fok.app {B : List Int} {F : FS} {c : Nat} (h : Fok B F c) (S : List Int) (hS : S ≠ []) (hB : B.length ≤ 100000000) (hSl : S.length ≤ 100000000) : ∃ F2 c2, Fok (B ++ S) F2 c2 ∧ CallS Try.prog base 66 [.c (.mp 0), .agg ((chX 0 [119] [] (fP false S none) 0).map XC.p), .c (.p (.int .i64 S.length))] ⟨[(0, some (fM F c))], 1⟩ (.tup []) ⟨[(0, some (fM F2 c2))], 1⟩ := by
  rcases h with ⟨rfl, rfl, rfl⟩ | ⟨⟨z, cp, rfl⟩, hc⟩
  · exact ⟨_, _, .inr ⟨⟨_, _, by rw [List.nil_append]⟩, Nat.le_refl _⟩, do_first [119] [] 0 false S none hSl hS⟩
  · have := do_app (base := base) (f1 [119] (fP z B cp)) c [119] [] 0 z B cp rfl false S none _ (Nat.le_refl _) hB hSl
    rw [List.take_length, apF_ne hS] at this
    exact ⟨_, _, .inr ⟨⟨_, _, rfl⟩, hc⟩, this⟩
end Go.Proofs.Ytjlfojgacnphmaa

namespace Go.Proofs.Ytjlfojgacnphmaa
open Go.RowKit Sim Go Sym
set_option maxRecDepth 100000
set_option linter.unusedVariables false
set_option linter.unusedSimpArgs false
variable {base : Nat}
theorem seal_le {n : Int} {b : List Int} (h1 : 1 ≤ n) (h2 : n ≤ 2000000000000000) (hb : b.length ≤ 30000) : (sealB (recB n b)).length ≤ b.length + 18 := by
  have hn := numB_len (n := n) (by omega) (by omega)
  have hrl : (recB n b).length ≤ 65536 := by simp [recB]; omega
  rw [seal_len hrl]
  simp [recB]
  omega
theorem seal_ne {n : Int} {b : List Int} (h1 : 1 ≤ n) (h2 : n ≤ 2000000000000000) (hb : b.length ≤ 30000) : sealB (recB n b) ≠ [] := fun e => by
  have hn := numB_len (n := n) (by omega) (by omega)
  have hrl : (recB n b).length ≤ 65536 := by simp [recB]; omega
  have := seal_len hrl
  rw [e] at this
  simp at this
  omega
theorem W_append {s : WS} {f : Int} {R : List (List Int)} (hi : WInv s f R) (f2 n : Int) (hff : R ≠ [] → f2 = f) (hn : n = f2 + (R.length : Nat)) (z : Bool) (b : List Int) (cb : Option Nat) (hB : Bytes b) (hb : b.length ≤ 30000) (hok : RecOK f2 (R ++ [b])) (hRl : R.length ≤ 9000) (hsz2 : (flatR f R).length + b.length ≤ 390000) (hnl : s.lg = .nil → s.dk = none) (hdk : wtN s.dk ≤ 100000) :
    CW base 21 [.c (.ptr 2 0), .c (.p (.int .i64 n)), .c (.p (.tz z 1 (u8P b) cb))] s (fun r s' => r = .c (.p (.int .i64 0)) ∧ WInv s' f2 (R ++ [b]) ∧ s'.L = s.L ∧ s'.lc = s.lc ∧ s'.dk = wt (chA (sealB (recB n b))) s.dk ∧ s'.lg ≠ .nil) := by
  have hn1 := hok.len
  simp only [List.length_append, List.length_cons, List.length_nil] at hn1
  obtain ⟨room, first, en, L, lc, F, c, _ | ⟨w, W⟩, _ | _ | ⟨o, m, X, Y⟩⟩ := s
  · exact hi.lg.elim
  · obtain rfl : R = [] := hi.lg
    obtain rfl : n = f2 := by simp at hn; exact hn
    have hsl := seal_le (n := n) (b := b) (by omega) (by omega) hb
    have hF := hi.file
    have hrm : room = mB := hi.room
    have hen : en = _ := hi.en
    obtain ⟨F2, c2, hF2, hdo⟩ := hF.app (base := base) (sealB (recB n b)) (seal_ne (by omega) (by omega) hb) (by simp [flatR]) (by omega)
    refine CallR.leaf (wappend00_spec room first en L lc F c n ⟨by omega, by omega⟩ z b cb hB hb ⟨by omega, by omega⟩ hF.ok (by rw [hrm, mB_eq]; omega) (by rw [hF.used, hrm, mB_eq]; simp [flatR] at *; omega) (.inr hF.len) F2 c2 hdo) [(0, 2), (1, 0), (2, 3), (3, 4)] rfl rfl (by repeat' (first | exact True.intro | refine hpC rfl rfl rfl ?_ | refine ⟨⟨_, _, _, rfl, rfl, rfl, @WkO.rfl _⟩, ?_⟩ | refine HeapOK.acc rfl rfl ?_)) rfl rfl (.c (.p (.int .i64 0))) (⟨room, n, en + (sealB (recB n b)).length, L, lc, F2, c2, some (chA (sealB (recB n b)), []), .own 0 1 [fP z b none] [.int .i64 en]⟩ : WS) [(0, 0), (1, 1), (2, 2), (3, 3), (4, 4), (5, 8), (6, 9), (7, 10)] rfl rfl Wk.rfl ⟨(hpX rfl rfl rfl), (hpX rfl rfl rfl), (hpX rfl rfl rfl), (hpX rfl rfl rfl), (hpX rfl rfl rfl), ⟨_, _, _, rfl, rfl, rfl, WkO.row ⟨Wk.rfl, Wk.rfl, rowAcc rfl 1 _, rowAcc rfl 1 _, Wk.rfl, trivial⟩⟩, (hpX rfl rfl rfl), trivial⟩ ⟨rfl, ?_, rfl, rfl, rfl, fun h => by cases h⟩
    refine ⟨fun _ => hok, hrm, ?_, ?_, fun _ => rfl, ?_, ?_⟩
    · show en + _ = _
      rw [hen]
      simp [flatR]
    · rw [show en = 0 by rw [hen]; simp [flatR]]
      exact LGok.first
    · simpa [flatR] using hF2
    · simp [flatR]
      omega
  · have h := hi.lg
    obtain ⟨rfl, hX, hXY, hXr, hYr⟩ := h
    cases hR : R with
    | nil =>
      subst hR
      obtain rfl : n = f2 := by simp at hn; exact hn
      have hsl := seal_le (n := n) (b := b) (by omega) (by omega) hb
      have hF := hi.file
      have hrm : room = mB := hi.room
      have hen : en = _ := hi.en
      obtain ⟨F2, c2, hF2, hdo⟩ := hF.app (base := base) (sealB (recB n b)) (seal_ne (by omega) (by omega) hb) (by simp [flatR]) (by omega)
      have hlg : LGok n [] (.own o 0 X Y) := hi.lg.free
      have he0 : en = 0 := by rw [hen]; simp [flatR]
      by_cases hl : o < X.length
      · refine CallR.leaf (gapp0i0_spec room first en o L lc F c X Y n ⟨by omega, by omega⟩ (by omega) (by omega) z b cb hB hb ⟨by omega, by omega⟩ hF.ok (by rw [hrm, mB_eq]; omega) (by rw [hF.used, hrm, mB_eq]; simp [flatR] at *; omega) (.inr hF.len) F2 c2 hdo) [(0, 2), (1, 0), (2, 3), (3, 4), (4, 6), (5, 7)] rfl rfl (by repeat' (first | exact True.intro | refine hpC rfl rfl rfl ?_ | refine ⟨⟨_, _, _, rfl, rfl, rfl, @WkO.rfl _⟩, ?_⟩ | refine HeapOK.acc rfl rfl ?_)) rfl rfl (.c (.p (.int .i64 0))) (⟨room, n, en + (sealB (recB n b)).length, L, lc, F2, c2, wt (chA (sealB (recB n b))) (none), .own o (0 + 1) (X.set (o + 0) (fP z b none)) (Y.set (o + 0) (.int .i64 en))⟩ : WS) [(0, 0), (1, 1), (2, 2), (3, 3), (4, 4), (5, 8), (6, 6), (7, 7)] rfl rfl Wk.rfl (by repeat' (first | exact True.intro | refine hpC rfl rfl rfl ?_ | refine ⟨⟨_, _, _, rfl, rfl, rfl, @WkO.rfl _⟩, ?_⟩ | refine HeapOK.acc rfl rfl ?_)) ⟨rfl, ?_, rfl, rfl, rfl, fun h => by cases h⟩
        refine ⟨fun _ => hok, hrm, ?_, ?_, fun _ => rfl, ?_, ?_⟩
        · show en + _ = _
          rw [hen]
          simp [flatR]
        · have := hlg.app_i (b := b) (z := z) (by omega)
          rw [he0]
          simpa [flatR] using this
        · simpa [flatR] using hF2
        · simp [flatR]
          omega
      · refine CallR.leaf (gapp0g0_spec room first en o L lc F c X Y n ⟨by omega, by omega⟩ (by omega) (by omega) z b cb hB hb ⟨by omega, by omega⟩ hF.ok (by rw [hrm, mB_eq]; omega) (by rw [hF.used, hrm, mB_eq]; simp [flatR] at *; omega) (.inr hF.len) F2 c2 hdo) [(0, 2), (1, 0), (2, 3), (3, 4), (4, 6), (5, 7)] rfl rfl (by repeat' (first | exact True.intro | refine hpC rfl rfl rfl ?_ | refine ⟨⟨_, _, _, rfl, rfl, rfl, @WkO.rfl _⟩, ?_⟩ | refine HeapOK.acc rfl rfl ?_)) rfl rfl (.c (.p (.int .i64 0))) (⟨room, n, en + (sealB (recB n b)).length, L, lc, F2, c2, wt (chA (sealB (recB n b))) (none), .own 0 (0 + 1) (X.drop o ++ [fP z b none]) (Y.drop o ++ [.int .i64 en])⟩ : WS) [(0, 0), (1, 1), (2, 2), (3, 3), (4, 4), (5, 8), (6, 9), (7, 10)] rfl rfl Wk.rfl (by repeat' (first | exact True.intro | refine hpC rfl rfl rfl ?_ | refine ⟨⟨_, _, _, rfl, rfl, rfl, @WkO.rfl _⟩, ?_⟩ | refine HeapOK.acc rfl rfl ?_)) ⟨rfl, ?_, rfl, rfl, rfl, fun h => by cases h⟩
        refine ⟨fun _ => hok, hrm, ?_, ?_, fun _ => rfl, ?_, ?_⟩
        · show en + _ = _
          rw [hen]
          simp [flatR]
        · have := hlg.app_g (b := b) (z := z) (by omega)
          rw [he0]
          simpa [flatR] using this
        · simpa [flatR] using hF2
        · simp [flatR]
          omega
    | cons b1 T =>
      have hne : R ≠ [] := by rw [hR]; simp
      obtain ⟨g1, g2, g3⟩ := (hi.ok hne).len
      have hf := hi.first hne
      rw [hR] at g2 g3 hX hXr hYr
      simp at g2 g3 hf hX
      subst hf
      obtain rfl : f2 = first := hff hne
      rw [hR] at hn hok hRl
      have hlR : ((b1 :: T).length : Int) = T.length + 1 := by simp
      have hsl := seal_le (n := n) (b := b) (by omega) (by omega) hb
      have hF := hi.file
      have hrm : room = mB := hi.room
      have hen : en = _ := hi.en
      have hsz := hi.sz
      rw [hR] at hF hen hsz hsz2
      have hff2 := flatR_app (b1 :: T) f2 b
      rw [← hn] at hff2
      obtain ⟨F2, c2, hF2, hdo⟩ := hF.app (base := base) (sealB (recB n b)) (seal_ne (by omega) (by omega) hb) (by omega) (by omega)
      have hlg : LGok f2 (b1 :: T) (.own o (b1 :: T).length X Y) := by have := hi.lg; rw [hR] at this; exact this
      by_cases hl : o + (b1 :: T).length < X.length
      · refine CallR.leaf (gapp0i1_spec room f2 en o (b1 :: T).length L lc F c X Y n ⟨by omega, by omega⟩ (by omega) (by omega) (by rw [hXY]; omega) (by simp; omega) (by simp) ⟨by omega, by omega⟩ z b cb hB hb ⟨by omega, by omega⟩ hF.ok (by rw [hrm, mB_eq]; omega) (by rw [hF.used, hrm, mB_eq]; omega) (.inr hF.len) F2 c2 hdo) [(0, 2), (1, 0), (2, 3), (3, 4), (4, 6), (5, 7)] rfl rfl (by repeat' (first | exact True.intro | refine hpC rfl rfl rfl ?_ | refine ⟨⟨_, _, _, rfl, rfl, rfl, @WkO.rfl _⟩, ?_⟩ | refine HeapOK.acc rfl rfl ?_)) rfl rfl (.c (.p (.int .i64 0))) (⟨room, f2, en + (sealB (recB n b)).length, L, lc, F2, c2, wt (chA (sealB (recB n b))) (none), .own o ((b1 :: T).length + 1) (X.set (o + (b1 :: T).length) (fP z b none)) (Y.set (o + (b1 :: T).length) (.int .i64 en))⟩ : WS) [(0, 0), (1, 1), (2, 2), (3, 3), (4, 4), (5, 8), (6, 6), (7, 7)] rfl rfl Wk.rfl (by repeat' (first | exact True.intro | refine hpC rfl rfl rfl ?_ | refine ⟨⟨_, _, _, rfl, rfl, rfl, @WkO.rfl _⟩, ?_⟩ | refine HeapOK.acc rfl rfl ?_)) ⟨rfl, ?_, rfl, rfl, rfl, fun h => by cases h⟩
        refine ⟨fun _ => hok, hrm, ?_, ?_, fun _ => rfl, ?_, ?_⟩
        · show en + _ = _
          rw [hen, hff2, List.length_append]
          omega
        · have := hlg.app_i (b := b) (z := z) (by omega)
          rw [← hen] at this
          exact this
        · rw [hff2]
          exact hF2
        · rw [hff2, List.length_append]
          omega
      · refine CallR.leaf (gapp0g1_spec room f2 en o (b1 :: T).length L lc F c X Y n ⟨by omega, by omega⟩ (by omega) (by omega) (by rw [hXY]; omega) (by simp; omega) (by simp) ⟨by omega, by omega⟩ z b cb hB hb ⟨by omega, by omega⟩ hF.ok (by rw [hrm, mB_eq]; omega) (by rw [hF.used, hrm, mB_eq]; omega) (.inr hF.len) F2 c2 hdo) [(0, 2), (1, 0), (2, 3), (3, 4), (4, 6), (5, 7)] rfl rfl (by repeat' (first | exact True.intro | refine hpC rfl rfl rfl ?_ | refine ⟨⟨_, _, _, rfl, rfl, rfl, @WkO.rfl _⟩, ?_⟩ | refine HeapOK.acc rfl rfl ?_)) rfl rfl (.c (.p (.int .i64 0))) (⟨room, f2, en + (sealB (recB n b)).length, L, lc, F2, c2, wt (chA (sealB (recB n b))) (none), .own 0 ((b1 :: T).length + 1) (X.drop o ++ [fP z b none]) (Y.drop o ++ [.int .i64 en])⟩ : WS) [(0, 0), (1, 1), (2, 2), (3, 3), (4, 4), (5, 8), (6, 9), (7, 10)] rfl rfl Wk.rfl (by repeat' (first | exact True.intro | refine hpC rfl rfl rfl ?_ | refine ⟨⟨_, _, _, rfl, rfl, rfl, @WkO.rfl _⟩, ?_⟩ | refine HeapOK.acc rfl rfl ?_)) ⟨rfl, ?_, rfl, rfl, rfl, fun h => by cases h⟩
        refine ⟨fun _ => hok, hrm, ?_, ?_, fun _ => rfl, ?_, ?_⟩
        · show en + _ = _
          rw [hen, hff2, List.length_append]
          omega
        · have := hlg.app_g (b := b) (z := z) (by omega)
          rw [← hen] at this
          exact this
        · rw [hff2]
          exact hF2
        · rw [hff2, List.length_append]
          omega
  · exact hi.lg.elim
  · obtain rfl : R = [] := hi.lg
    exact absurd (hnl rfl) (by simp)
  · have h := hi.lg
    obtain ⟨rfl, hX, hXY, hXr, hYr⟩ := h
    cases hR : R with
    | nil =>
      subst hR
      obtain rfl : n = f2 := by simp at hn; exact hn
      have hsl := seal_le (n := n) (b := b) (by omega) (by omega) hb
      have hF := hi.file
      have hrm : room = mB := hi.room
      have hen : en = _ := hi.en
      obtain ⟨F2, c2, hF2, hdo⟩ := hF.app (base := base) (sealB (recB n b)) (seal_ne (by omega) (by omega) hb) (by simp [flatR]) (by omega)
      have hlg : LGok n [] (.own o 0 X Y) := hi.lg.free
      have he0 : en = 0 := by rw [hen]; simp [flatR]
      by_cases hl : o < X.length
      · refine CallR.leaf (gapp1i0_spec room first en o L lc F c w W X Y n ⟨by omega, by omega⟩ (by omega) (by omega) (by simp [wtN] at hdk; omega) z b cb hB hb ⟨by omega, by omega⟩ hF.ok (by rw [hrm, mB_eq]; omega) (by rw [hF.used, hrm, mB_eq]; simp [flatR] at *; omega) (.inr hF.len) F2 c2 hdo) [(0, 2), (1, 0), (2, 3), (3, 4), (4, 5), (5, 6), (6, 7)] rfl rfl (by repeat' (first | exact True.intro | refine hpC rfl rfl rfl ?_ | refine ⟨⟨_, _, _, rfl, rfl, rfl, @WkO.rfl _⟩, ?_⟩ | refine HeapOK.acc rfl rfl ?_)) rfl rfl (.c (.p (.int .i64 0))) (⟨room, n, en + (sealB (recB n b)).length, L, lc, F2, c2, wt (chA (sealB (recB n b))) (some (w, W)), .own o (0 + 1) (X.set (o + 0) (fP z b none)) (Y.set (o + 0) (.int .i64 en))⟩ : WS) [(0, 0), (1, 1), (2, 2), (3, 3), (4, 4), (5, 8), (6, 6), (7, 7)] rfl rfl Wk.rfl (by repeat' (first | exact True.intro | refine hpC rfl rfl rfl ?_ | refine ⟨⟨_, _, _, rfl, rfl, rfl, @WkO.rfl _⟩, ?_⟩ | refine HeapOK.acc rfl rfl ?_)) ⟨rfl, ?_, rfl, rfl, rfl, fun h => by cases h⟩
        refine ⟨fun _ => hok, hrm, ?_, ?_, fun _ => rfl, ?_, ?_⟩
        · show en + _ = _
          rw [hen]
          simp [flatR]
        · have := hlg.app_i (b := b) (z := z) (by omega)
          rw [he0]
          simpa [flatR] using this
        · simpa [flatR] using hF2
        · simp [flatR]
          omega
      · refine CallR.leaf (gapp1g0_spec room first en o L lc F c w W X Y n ⟨by omega, by omega⟩ (by omega) (by omega) (by simp [wtN] at hdk; omega) z b cb hB hb ⟨by omega, by omega⟩ hF.ok (by rw [hrm, mB_eq]; omega) (by rw [hF.used, hrm, mB_eq]; simp [flatR] at *; omega) (.inr hF.len) F2 c2 hdo) [(0, 2), (1, 0), (2, 3), (3, 4), (4, 5), (5, 6), (6, 7)] rfl rfl (by repeat' (first | exact True.intro | refine hpC rfl rfl rfl ?_ | refine ⟨⟨_, _, _, rfl, rfl, rfl, @WkO.rfl _⟩, ?_⟩ | refine HeapOK.acc rfl rfl ?_)) rfl rfl (.c (.p (.int .i64 0))) (⟨room, n, en + (sealB (recB n b)).length, L, lc, F2, c2, wt (chA (sealB (recB n b))) (some (w, W)), .own 0 (0 + 1) (X.drop o ++ [fP z b none]) (Y.drop o ++ [.int .i64 en])⟩ : WS) [(0, 0), (1, 1), (2, 2), (3, 3), (4, 4), (5, 8), (6, 9), (7, 10)] rfl rfl Wk.rfl (by repeat' (first | exact True.intro | refine hpC rfl rfl rfl ?_ | refine ⟨⟨_, _, _, rfl, rfl, rfl, @WkO.rfl _⟩, ?_⟩ | refine HeapOK.acc rfl rfl ?_)) ⟨rfl, ?_, rfl, rfl, rfl, fun h => by cases h⟩
        refine ⟨fun _ => hok, hrm, ?_, ?_, fun _ => rfl, ?_, ?_⟩
        · show en + _ = _
          rw [hen]
          simp [flatR]
        · have := hlg.app_g (b := b) (z := z) (by omega)
          rw [he0]
          simpa [flatR] using this
        · simpa [flatR] using hF2
        · simp [flatR]
          omega
    | cons b1 T =>
      have hne : R ≠ [] := by rw [hR]; simp
      obtain ⟨g1, g2, g3⟩ := (hi.ok hne).len
      have hf := hi.first hne
      rw [hR] at g2 g3 hX hXr hYr
      simp at g2 g3 hf hX
      subst hf
      obtain rfl : f2 = first := hff hne
      rw [hR] at hn hok hRl
      have hlR : ((b1 :: T).length : Int) = T.length + 1 := by simp
      have hsl := seal_le (n := n) (b := b) (by omega) (by omega) hb
      have hF := hi.file
      have hrm : room = mB := hi.room
      have hen : en = _ := hi.en
      have hsz := hi.sz
      rw [hR] at hF hen hsz hsz2
      have hff2 := flatR_app (b1 :: T) f2 b
      rw [← hn] at hff2
      obtain ⟨F2, c2, hF2, hdo⟩ := hF.app (base := base) (sealB (recB n b)) (seal_ne (by omega) (by omega) hb) (by omega) (by omega)
      have hlg : LGok f2 (b1 :: T) (.own o (b1 :: T).length X Y) := by have := hi.lg; rw [hR] at this; exact this
      by_cases hl : o + (b1 :: T).length < X.length
      · refine CallR.leaf (gapp1i1_spec room f2 en o (b1 :: T).length L lc F c w W X Y n ⟨by omega, by omega⟩ (by omega) (by omega) (by rw [hXY]; omega) (by simp; omega) (by simp) ⟨by omega, by omega⟩ (by simp [wtN] at hdk; omega) z b cb hB hb ⟨by omega, by omega⟩ hF.ok (by rw [hrm, mB_eq]; omega) (by rw [hF.used, hrm, mB_eq]; omega) (.inr hF.len) F2 c2 hdo) [(0, 2), (1, 0), (2, 3), (3, 4), (4, 5), (5, 6), (6, 7)] rfl rfl (by repeat' (first | exact True.intro | refine hpC rfl rfl rfl ?_ | refine ⟨⟨_, _, _, rfl, rfl, rfl, @WkO.rfl _⟩, ?_⟩ | refine HeapOK.acc rfl rfl ?_)) rfl rfl (.c (.p (.int .i64 0))) (⟨room, f2, en + (sealB (recB n b)).length, L, lc, F2, c2, wt (chA (sealB (recB n b))) (some (w, W)), .own o ((b1 :: T).length + 1) (X.set (o + (b1 :: T).length) (fP z b none)) (Y.set (o + (b1 :: T).length) (.int .i64 en))⟩ : WS) [(0, 0), (1, 1), (2, 2), (3, 3), (4, 4), (5, 8), (6, 6), (7, 7)] rfl rfl Wk.rfl (by repeat' (first | exact True.intro | refine hpC rfl rfl rfl ?_ | refine ⟨⟨_, _, _, rfl, rfl, rfl, @WkO.rfl _⟩, ?_⟩ | refine HeapOK.acc rfl rfl ?_)) ⟨rfl, ?_, rfl, rfl, rfl, fun h => by cases h⟩
        refine ⟨fun _ => hok, hrm, ?_, ?_, fun _ => rfl, ?_, ?_⟩
        · show en + _ = _
          rw [hen, hff2, List.length_append]
          omega
        · have := hlg.app_i (b := b) (z := z) (by omega)
          rw [← hen] at this
          exact this
        · rw [hff2]
          exact hF2
        · rw [hff2, List.length_append]
          omega
      · refine CallR.leaf (gapp1g1_spec room f2 en o (b1 :: T).length L lc F c w W X Y n ⟨by omega, by omega⟩ (by omega) (by omega) (by rw [hXY]; omega) (by simp; omega) (by simp) ⟨by omega, by omega⟩ (by simp [wtN] at hdk; omega) z b cb hB hb ⟨by omega, by omega⟩ hF.ok (by rw [hrm, mB_eq]; omega) (by rw [hF.used, hrm, mB_eq]; omega) (.inr hF.len) F2 c2 hdo) [(0, 2), (1, 0), (2, 3), (3, 4), (4, 5), (5, 6), (6, 7)] rfl rfl (by repeat' (first | exact True.intro | refine hpC rfl rfl rfl ?_ | refine ⟨⟨_, _, _, rfl, rfl, rfl, @WkO.rfl _⟩, ?_⟩ | refine HeapOK.acc rfl rfl ?_)) rfl rfl (.c (.p (.int .i64 0))) (⟨room, f2, en + (sealB (recB n b)).length, L, lc, F2, c2, wt (chA (sealB (recB n b))) (some (w, W)), .own 0 ((b1 :: T).length + 1) (X.drop o ++ [fP z b none]) (Y.drop o ++ [.int .i64 en])⟩ : WS) [(0, 0), (1, 1), (2, 2), (3, 3), (4, 4), (5, 8), (6, 9), (7, 10)] rfl rfl Wk.rfl (by repeat' (first | exact True.intro | refine hpC rfl rfl rfl ?_ | refine ⟨⟨_, _, _, rfl, rfl, rfl, @WkO.rfl _⟩, ?_⟩ | refine HeapOK.acc rfl rfl ?_)) ⟨rfl, ?_, rfl, rfl, rfl, fun h => by cases h⟩
        refine ⟨fun _ => hok, hrm, ?_, ?_, fun _ => rfl, ?_, ?_⟩
        · show en + _ = _
          rw [hen, hff2, List.length_append]
          omega
        · have := hlg.app_g (b := b) (z := z) (by omega)
          rw [← hen] at this
          exact this
        · rw [hff2]
          exact hF2
        · rw [hff2, List.length_append]
          omega
end Go.Proofs.Ytjlfojgacnphmaa

namespace Go.Proofs.Ytjlfojgacnphmaa
open Go.RowKit Sim Go Sym
set_option maxRecDepth 100000
set_option linter.unusedVariables false
set_option linter.unusedSimpArgs false
variable {base : Nat}
theorem W_sync {s : WS} {f : Int} {R : List (List Int)} (hi : WInv s f R) (hnl : s.lg = .nil → s.dk = none) : CW base 22 [.c (.ptr 2 0)] s (fun r s' => r = .tup [] ∧ s' = { s with L := s.F, lc := s.c, dk := none }) := by
  obtain ⟨room, first, en, L, lc, F, c, _ | ⟨w, W⟩, _ | _ | ⟨o, m, X, Y⟩⟩ := s
  · exact hi.lg.elim
  · obtain rfl : R = [] := hi.lg
    exact CallR.leaf (wsync00_spec room first en L lc F c) [(0, 2), (1, 0), (2, 3), (3, 4)] rfl rfl (by repeat' (first | exact True.intro | refine hpC rfl rfl rfl ?_ | refine ⟨⟨_, _, _, rfl, rfl, rfl, @WkO.rfl _⟩, ?_⟩ | refine HeapOK.acc rfl rfl ?_)) rfl rfl (.tup []) (⟨room, first, en, F, c, F, c, none, .nil⟩ : WS) [(0, 0), (1, 1), (2, 2), (3, 8), (4, 4), (5, 5), (6, 6), (7, 7)] rfl rfl Wk.rfl (by repeat' (first | exact True.intro | refine hpC rfl rfl rfl ?_ | refine ⟨⟨_, _, _, rfl, rfl, rfl, @WkO.rfl _⟩, ?_⟩ | refine HeapOK.acc rfl rfl ?_)) ⟨rfl, rfl⟩
  · have h := hi.lg
    obtain ⟨rfl, hX, hXY, hXr, hYr⟩ := h
    cases hR : R with
    | nil =>
      subst hR
      exact CallR.leaf (gsync0_spec room first en o 0 L lc F c X Y) [(0, 2), (1, 0), (2, 3), (3, 4), (4, 6), (5, 7)] rfl rfl (by repeat' (first | exact True.intro | refine hpC rfl rfl rfl ?_ | refine ⟨⟨_, _, _, rfl, rfl, rfl, @WkO.rfl _⟩, ?_⟩ | refine HeapOK.acc rfl rfl ?_)) rfl rfl (.tup []) (⟨room, first, en, F, c, F, c, none, .own o 0 X Y⟩ : WS) [(0, 0), (1, 1), (2, 2), (3, 8), (4, 4), (5, 5), (6, 6), (7, 7)] rfl rfl Wk.rfl (by repeat' (first | exact True.intro | refine hpC rfl rfl rfl ?_ | refine ⟨⟨_, _, _, rfl, rfl, rfl, @WkO.rfl _⟩, ?_⟩ | refine HeapOK.acc rfl rfl ?_)) ⟨rfl, rfl⟩
    | cons b1 T =>
      have hne : R ≠ [] := by rw [hR]; simp
      obtain ⟨g1, g2, g3⟩ := (hi.ok hne).len
      have hf := hi.first hne
      rw [hR] at g2 g3 hX hXr hYr
      simp at g2 g3 hf hX
      subst hf
      exact CallR.leaf (gsync0_spec room first en o (b1 :: T).length L lc F c X Y) [(0, 2), (1, 0), (2, 3), (3, 4), (4, 6), (5, 7)] rfl rfl (by repeat' (first | exact True.intro | refine hpC rfl rfl rfl ?_ | refine ⟨⟨_, _, _, rfl, rfl, rfl, @WkO.rfl _⟩, ?_⟩ | refine HeapOK.acc rfl rfl ?_)) rfl rfl (.tup []) (⟨room, first, en, F, c, F, c, none, .own o (b1 :: T).length X Y⟩ : WS) [(0, 0), (1, 1), (2, 2), (3, 8), (4, 4), (5, 5), (6, 6), (7, 7)] rfl rfl Wk.rfl (by repeat' (first | exact True.intro | refine hpC rfl rfl rfl ?_ | refine ⟨⟨_, _, _, rfl, rfl, rfl, @WkO.rfl _⟩, ?_⟩ | refine HeapOK.acc rfl rfl ?_)) ⟨rfl, rfl⟩
  · exact hi.lg.elim
  · obtain rfl : R = [] := hi.lg
    exact absurd (hnl rfl) (by simp)
  · have h := hi.lg
    obtain ⟨rfl, hX, hXY, hXr, hYr⟩ := h
    cases hR : R with
    | nil =>
      subst hR
      exact CallR.leaf (gsync1_spec room first en o 0 L lc F c w W X Y) [(0, 2), (1, 0), (2, 3), (3, 4), (4, 5), (5, 6), (6, 7)] rfl rfl (by repeat' (first | exact True.intro | refine hpC rfl rfl rfl ?_ | refine ⟨⟨_, _, _, rfl, rfl, rfl, @WkO.rfl _⟩, ?_⟩ | refine HeapOK.acc rfl rfl ?_)) rfl rfl (.tup []) (⟨room, first, en, F, c, F, c, none, .own o 0 X Y⟩ : WS) [(0, 0), (1, 1), (2, 2), (3, 8), (4, 4), (5, 5), (6, 6), (7, 7)] rfl rfl Wk.rfl (by repeat' (first | exact True.intro | refine hpC rfl rfl rfl ?_ | refine ⟨⟨_, _, _, rfl, rfl, rfl, @WkO.rfl _⟩, ?_⟩ | refine HeapOK.acc rfl rfl ?_)) ⟨rfl, rfl⟩
    | cons b1 T =>
      have hne : R ≠ [] := by rw [hR]; simp
      obtain ⟨g1, g2, g3⟩ := (hi.ok hne).len
      have hf := hi.first hne
      rw [hR] at g2 g3 hX hXr hYr
      simp at g2 g3 hf hX
      subst hf
      exact CallR.leaf (gsync1_spec room first en o (b1 :: T).length L lc F c w W X Y) [(0, 2), (1, 0), (2, 3), (3, 4), (4, 5), (5, 6), (6, 7)] rfl rfl (by repeat' (first | exact True.intro | refine hpC rfl rfl rfl ?_ | refine ⟨⟨_, _, _, rfl, rfl, rfl, @WkO.rfl _⟩, ?_⟩ | refine HeapOK.acc rfl rfl ?_)) rfl rfl (.tup []) (⟨room, first, en, F, c, F, c, none, .own o (b1 :: T).length X Y⟩ : WS) [(0, 0), (1, 1), (2, 2), (3, 8), (4, 4), (5, 5), (6, 6), (7, 7)] rfl rfl Wk.rfl (by repeat' (first | exact True.intro | refine hpC rfl rfl rfl ?_ | refine ⟨⟨_, _, _, rfl, rfl, rfl, @WkO.rfl _⟩, ?_⟩ | refine HeapOK.acc rfl rfl ?_)) ⟨rfl, rfl⟩
theorem W_from_y {s : WS} {f : Int} {R : List (List Int)} (hi : WInv s f R) (n : Int) (hne0 : R ≠ []) (hn1 : 1 ≤ n) (hn : n < f + R.length) (κ : Nat) (hk : (κ : Int) = max 0 (n - f)) (hdk : wtN s.dk ≤ 100000) : CW base 25 [.c (.ptr 2 0), .c (.p (.int .i64 n))] s (fun r s' => r = .c (.p (.int .i64 0)) ∧ WInv s' f (R.take κ) ∧ s'.L = s.L ∧ s'.lc = s.lc ∧ s'.dk = wt (chC (flatR f (R.take κ)).length) s.dk ∧ s'.lg ≠ .nil) := by
  obtain ⟨room, first, en, L, lc, F, c, _ | ⟨w, W⟩, _ | _ | ⟨o, m, X, Y⟩⟩ := s
  · exact hi.lg.elim
  · obtain rfl : R = [] := hi.lg
    exact absurd rfl hne0
  · have h := hi.lg
    obtain ⟨rfl, hX, hXY, hXr, hYr⟩ := h
    cases hR : R with
    | nil =>
      subst hR
      exact absurd rfl hne0
    | cons b1 T =>
      have hne : R ≠ [] := by rw [hR]; simp
      obtain ⟨g1, g2, g3⟩ := (hi.ok hne).len
      have hf := hi.first hne
      rw [hR] at g2 g3 hX hXr hYr
      simp at g2 g3 hf hX
      subst hf
      obtain hff : first = _ := hi.first hne
      have hF := hi.file
      have hrm : room = mB := hi.room
      have hen : en = _ := hi.en
      have hsz := hi.sz
      have hok := hi.ok hne
      rw [hR] at hF hen hsz hok
      have hlR : ((b1 :: T).length : Int) = T.length + 1 := by simp
      rw [hR] at hn
      have hκ : κ < (b1 :: T).length := by omega
      have hTl : (b1 :: T).length = T.length + 1 := rfl
      have hlg : LGok first (b1 :: T) (.own o (T.length + 1) X Y) := by have := hi.lg; rw [hR] at this; exact this
      have hBne : flatR first (b1 :: T) ≠ [] := fun e => by have := flatR_pos hok; rw [e] at this; simp at this
      obtain ⟨z, cp, hfd, hFc⟩ := hF.cut hBne
      refine CallR.leaf (gfrom0_y room first en o T.length L lc F c X Y n ⟨hn1, by omega⟩ (by omega) ⟨by omega, by omega⟩ (by omega) κ (flatR first ((b1 :: T).take κ)).length (by rw [hk]; split <;> omega) z (flatR first (b1 :: T)) cp hfd (flatR_le _ _ _) (hlg.2.2.2.2 κ (by omega))) [(0, 2), (1, 0), (2, 3), (3, 4), (4, 6), (5, 7)] rfl rfl (by repeat' (first | exact True.intro | refine hpC rfl rfl rfl ?_ | refine ⟨⟨_, _, _, rfl, rfl, rfl, @WkO.rfl _⟩, ?_⟩ | refine HeapOK.acc rfl rfl ?_)) rfl rfl (.c (.p (.int .i64 0))) (⟨room, first, ((flatR first ((b1 :: T).take κ)).length : Nat), L, lc, updP [119] (cutF z (flatR first (b1 :: T)) (flatR first ((b1 :: T).take κ)).length) c F, updPC [119] (cutF z (flatR first (b1 :: T)) (flatR first ((b1 :: T).take κ)).length) c F, wt (chC (flatR first ((b1 :: T).take κ)).length) (none), .own o κ X Y⟩ : WS) [(0, 0), (1, 1), (2, 2), (3, 3), (4, 4), (5, 8), (6, 6), (7, 7)] rfl rfl Wk.rfl (by repeat' (first | exact True.intro | refine hpC rfl rfl rfl ?_ | refine ⟨⟨_, _, _, rfl, rfl, rfl, @WkO.rfl _⟩, ?_⟩ | refine HeapOK.acc rfl rfl ?_)) ⟨rfl, ?_, rfl, rfl, rfl, fun h => by cases h⟩
      refine ⟨fun _ => hok.take κ, hrm, rfl, hlg.take (by omega), fun _ => rfl, ?_, ?_⟩
      · have := hFc (flatR first ((b1 :: T).take κ)).length
        rw [flatR_take] at this
        exact this
      · exact Nat.le_trans (flatR_le _ _ _) hsz
  · exact hi.lg.elim
  · obtain rfl : R = [] := hi.lg
    exact absurd rfl hne0
  · have h := hi.lg
    obtain ⟨rfl, hX, hXY, hXr, hYr⟩ := h
    cases hR : R with
    | nil =>
      subst hR
      exact absurd rfl hne0
    | cons b1 T =>
      have hne : R ≠ [] := by rw [hR]; simp
      obtain ⟨g1, g2, g3⟩ := (hi.ok hne).len
      have hf := hi.first hne
      rw [hR] at g2 g3 hX hXr hYr
      simp at g2 g3 hf hX
      subst hf
      obtain hff : first = _ := hi.first hne
      have hF := hi.file
      have hrm : room = mB := hi.room
      have hen : en = _ := hi.en
      have hsz := hi.sz
      have hok := hi.ok hne
      rw [hR] at hF hen hsz hok
      have hlR : ((b1 :: T).length : Int) = T.length + 1 := by simp
      rw [hR] at hn
      have hκ : κ < (b1 :: T).length := by omega
      have hTl : (b1 :: T).length = T.length + 1 := rfl
      have hlg : LGok first (b1 :: T) (.own o (T.length + 1) X Y) := by have := hi.lg; rw [hR] at this; exact this
      have hBne : flatR first (b1 :: T) ≠ [] := fun e => by have := flatR_pos hok; rw [e] at this; simp at this
      obtain ⟨z, cp, hfd, hFc⟩ := hF.cut hBne
      refine CallR.leaf (gfrom1_y room first en o T.length L lc F c w W X Y n ⟨hn1, by omega⟩ (by omega) ⟨by omega, by omega⟩ (by omega) (by simp [wtN] at hdk; omega) κ (flatR first ((b1 :: T).take κ)).length (by rw [hk]; split <;> omega) z (flatR first (b1 :: T)) cp hfd (flatR_le _ _ _) (hlg.2.2.2.2 κ (by omega))) [(0, 2), (1, 0), (2, 3), (3, 4), (4, 5), (5, 6), (6, 7)] rfl rfl (by repeat' (first | exact True.intro | refine hpC rfl rfl rfl ?_ | refine ⟨⟨_, _, _, rfl, rfl, rfl, @WkO.rfl _⟩, ?_⟩ | refine HeapOK.acc rfl rfl ?_)) rfl rfl (.c (.p (.int .i64 0))) (⟨room, first, ((flatR first ((b1 :: T).take κ)).length : Nat), L, lc, updP [119] (cutF z (flatR first (b1 :: T)) (flatR first ((b1 :: T).take κ)).length) c F, updPC [119] (cutF z (flatR first (b1 :: T)) (flatR first ((b1 :: T).take κ)).length) c F, wt (chC (flatR first ((b1 :: T).take κ)).length) (some (w, W)), .own o κ X Y⟩ : WS) [(0, 0), (1, 1), (2, 2), (3, 3), (4, 4), (5, 8), (6, 6), (7, 7)] rfl rfl Wk.rfl (by repeat' (first | exact True.intro | refine hpC rfl rfl rfl ?_ | refine ⟨⟨_, _, _, rfl, rfl, rfl, @WkO.rfl _⟩, ?_⟩ | refine HeapOK.acc rfl rfl ?_)) ⟨rfl, ?_, rfl, rfl, rfl, fun h => by cases h⟩
      refine ⟨fun _ => hok.take κ, hrm, rfl, hlg.take (by omega), fun _ => rfl, ?_, ?_⟩
      · have := hFc (flatR first ((b1 :: T).take κ)).length
        rw [flatR_take] at this
        exact this
      · exact Nat.le_trans (flatR_le _ _ _) hsz
end Go.Proofs.Ytjlfojgacnphmaa

namespace Go.Proofs.Ytjlfojgacnphmaa
open Go.RowKit Sim Go Sym
set_option maxRecDepth 100000
set_option linter.unusedVariables false
set_option linter.unusedSimpArgs false
variable {base : Nat}
abbrev Rc := Bool × List Int × Option Nat
def recP (t : Rc) : PC := fP t.1 t.2.1 t.2.2
def rsR (T : List Rc) : List (List Int) := T.map (·.2.1)
def lastM (f : Int) (T : List Rc) : Int := if T = [] then 0 else f + T.length - 1
section
variable (f : Int) (z : Bool) (T : List Rc) (cp : Option Nat) (n : Int) (b : Rc)
variable (hf : T ≠ [] → 1 ≤ f ∧ f ≤ 1500000000000000) (hT : T.length ≤ 100000)
include hf hT
end
end Go.Proofs.Ytjlfojgacnphmaa

namespace Go.Proofs.Ytjlfojgacnphmaa
open Go.RowKit Sim Go Sym
set_option maxRecDepth 100000
set_option linter.unusedVariables false
set_option linter.unusedSimpArgs false
variable {base : Nat}
def doF (f : Int) (T : List Rc) (k n : Int) (b : Rc) : Int × List Rc × Int :=
  if k = 0 then (if n < 1 ∨ (T ≠ [] ∧ n - 1 ≠ lastM f T) then (f, T, 1) else (if T = [] then n else f, T ++ [b], 0))
  else if k = 1 then (if n < 1 then (f, T, 1) else if T ≠ [] ∧ n ≤ lastM f T then (f, T.take (max 0 (n - f)).toNat, 0) else (f, T, 0))
  else if k = 2 then (if n < 1 then (f, T, 1) else if T ≠ [] ∧ f ≤ n then (f + (min (T.length : Int) (n - f + 1)).toNat, T.drop (min (T.length : Int) (n - f + 1)).toNat, 0) else (f, T, 0))
  else (f, T, 0)
end Go.Proofs.Ytjlfojgacnphmaa

namespace Go.Proofs.Ytjlfojgacnphmaa
open Go.RowKit Sim Go Sym
set_option maxRecDepth 100000
set_option linter.unusedVariables false
set_option linter.unusedSimpArgs false
variable {base : Nat}
theorem flat_le {B : Nat} : ∀ (R : List (List Int)) (f : Int), (∀ b ∈ R, b.length ≤ B) → B ≤ 30000 → (R ≠ [] → 1 ≤ f ∧ f + R.length ≤ 1200000000000000) → (flatR f R).length ≤ R.length * (B + 18)
  | [], f, _, _, _ => by simp [flatR]
  | b :: R, f, h, hB, hf => by
    have h1 := hf (by simp)
    simp only [List.length_cons] at h1
    have h2 := h b (by simp)
    have h3 := seal_le (n := f) (b := b) (by omega) (by omega) (by omega)
    have h4 := flat_le R (f + 1) (fun x hx => h x (by simp [hx])) hB (fun _ => by omega)
    rw [flatR, List.length_append, List.length_cons, Nat.succ_mul]
    omega
theorem WInv.free {s : WS} {f g : Int} (h : WInv s f []) : WInv s g [] := ⟨fun h => absurd rfl h, h.room, by rw [h.en]; rfl, h.lg.free, fun h => absurd rfl h, h.file, h.sz⟩
def P50 : Int := 1125899906842624
structure Lp (i : Nat) (s : WS) (f : Int) (T : List Rc) : Prop where
  inv : WInv s f (rsR T)
  b : ∀ t ∈ T, Bytes t.2.1 ∧ t.2.1.length ≤ 300
  len : T.length ≤ i
  rng : T ≠ [] → 1 ≤ f ∧ f + T.length ≤ P50 + 1
  dk : wtN s.dk ≤ 2 * i
  nl : s.lg = .nil → s.dk = none
theorem rsR_len (T : List Rc) : (rsR T).length = T.length := by simp [rsR]
theorem rsR_ne {T : List Rc} : rsR T ≠ [] ↔ T ≠ [] := by simp [rsR]
theorem rec_ok {f : Int} {T : List Rc} (hb : ∀ t ∈ T, Bytes t.2.1 ∧ t.2.1.length ≤ 300) (hl : T.length ≤ 1000) (hr : 1 ≤ f ∧ f + T.length ≤ P50 + 1) : RecOK f (rsR T) := by
  have : P50 = 1125899906842624 := rfl
  refine ⟨by rw [rsR_len]; omega, by rw [rsR_len]; omega, fun x hx => ?_⟩
  obtain ⟨t, ht, rfl⟩ := List.mem_map.1 hx
  have := hb t ht
  exact ⟨this.1, by omega⟩
theorem Lp.flat {i : Nat} {s : WS} {f : Int} {T : List Rc} (h : Lp i s f T) (hi : i ≤ 100) : (flatR f (rsR T)).length ≤ 31800 := by
  have h1 := flat_le (B := 300) (rsR T) f (fun x hx => by obtain ⟨t, ht, rfl⟩ := List.mem_map.1 hx; exact (h.b t ht).2) (by omega) (fun hne => by
    have := h.rng (rsR_ne.1 hne)
    have h2 : P50 = 1125899906842624 := rfl
    rw [rsR_len]; omega)
  rw [rsR_len] at h1
  have := h.len
  omega
theorem wtN_wt (p : PC) (d : Option (PC × List PC)) : wtN (wt p d) = wtN d + 1 := by
  cases d with
  | none => rfl
  | some x => simp [wt, wtN]
theorem lastM_ne {f : Int} {T : List Rc} (h : T ≠ []) : lastM f T = f + T.length - 1 := if_neg h
abbrev err (e : Int) : XV := .c (.p (.int .i64 e))
theorem Lp.more {i : Nat} {s : WS} {f : Int} {T : List Rc} (h : Lp i s f T) : Lp (i + 1) s f T := ⟨h.inv, h.b, by have := h.len; omega, h.rng, by have := h.dk; omega, h.nl⟩
section
variable {i : Nat} {s : WS} {f : Int} {T : List Rc} (h : Lp i s f T) (hi : i ≤ 100)
include h hi
theorem Lp.append (n : Int) (hn : n ≤ P50) (b : Rc) (hb : Bytes b.2.1 ∧ b.2.1.length ≤ 300) : CW base 21 [.c (.ptr 2 0), .c (.p (.int .i64 n)), .c (.p (recP b))] s (fun r s' => r = err (doF f T 0 n b).2.2 ∧ Lp (i + 1) s' (doF f T 0 n b).1 (doF f T 0 n b).2.1) := by
  have hP : P50 = 1125899906842624 := rfl
  unfold doF
  rw [if_pos rfl]
  have hRl := rsR_len T
  by_cases h1 : n < 1
  · rw [if_pos (.inl h1)]
    exact (W_append_e1 s n b.1 b.2.1 b.2.2 h1).mono fun r s' hr => ⟨hr.1, by rw [hr.2]; exact h.more⟩
  · by_cases h2 : T ≠ [] ∧ n - 1 ≠ lastM f T
    · rw [if_pos (.inr h2)]
      rw [lastM_ne h2.1] at h2
      exact (W_append_e2 h.inv n b.1 b.2.1 b.2.2 (by omega) (rsR_ne.2 h2.1) (by rw [hRl]; omega)).mono fun r s' hr => ⟨hr.1, by rw [hr.2]; exact h.more⟩
    · rw [if_neg (fun h => h.elim h1 h2)]
      obtain ⟨g, hg⟩ : ∃ g, g = if T = [] then n else f := ⟨_, rfl⟩
      have hgT : T ≠ [] → g = f := fun hT => by rw [hg, if_neg hT]
      have hgn : n = g + T.length := by
        by_cases hT : T = []
        · rw [hg, if_pos hT, hT]; simp
        · have h3 : n - 1 = lastM f T := Decidable.byContradiction fun h3 => h2 ⟨hT, h3⟩
          rw [lastM_ne hT] at h3
          rw [hgT hT]; omega
      have hlen := h.len
      have hr2 : 1 ≤ g ∧ g + (T ++ [b]).length ≤ P50 + 1 := by
        rw [List.length_append, List.length_cons, List.length_nil]
        by_cases hT : T = []
        · rw [hT] at hgn ⊢; simp at hgn ⊢; omega
        · have := h.rng hT
          rw [hgT hT] at hgn ⊢; omega
      have hb2 : ∀ t ∈ T ++ [b], Bytes t.2.1 ∧ t.2.1.length ≤ 300 := fun t ht => by
        rcases List.mem_append.1 ht with h4 | h4
        · exact h.b t h4
        · simp at h4; subst h4; exact hb
      have happ : rsR (T ++ [b]) = rsR T ++ [b.2.1] := by simp [rsR]
      have hok := rec_ok hb2 (by simp; omega) hr2
      rw [happ] at hok
      have hfl := h.flat hi
      refine (W_append h.inv g n (fun hR => hgT (rsR_ne.1 hR)) (by rw [hRl]; exact hgn) b.1 b.2.1 b.2.2 hb.1 (by omega) hok (by rw [hRl]; omega) (by omega) h.nl (by have := h.dk; omega)).mono fun r s' hr => ?_
      obtain ⟨r1, r2, r3, r4, r5, r6⟩ := hr
      rw [← hg]
      exact ⟨r1, by rw [happ]; exact r2, hb2, by simp; omega, fun _ => hr2, by rw [r5, wtN_wt]; have := h.dk; omega, fun hl => absurd hl r6⟩
theorem Lp.from (n : Int) (hn : n ≤ P50) (b : Rc) : CW base 25 [.c (.ptr 2 0), .c (.p (.int .i64 n))] s (fun r s' => r = err (doF f T 1 n b).2.2 ∧ Lp (i + 1) s' (doF f T 1 n b).1 (doF f T 1 n b).2.1) := by
  have hP : P50 = 1125899906842624 := rfl
  unfold doF
  rw [if_neg (by decide), if_pos rfl]
  have hRl := rsR_len T
  by_cases h1 : n < 1
  · rw [if_pos h1]
    exact (W_from_e1 s n h1).mono fun r s' hr => ⟨hr.1, by rw [hr.2]; exact h.more⟩
  rw [if_neg h1]
  by_cases h2 : T ≠ [] ∧ n ≤ lastM f T
  · rw [if_pos h2]
    obtain ⟨hT, h3⟩ := h2
    rw [lastM_ne hT] at h3
    have hlen := h.len
    obtain ⟨κ, hκ⟩ : ∃ κ, κ = (max 0 (n - f)).toNat := ⟨_, rfl⟩
    rw [← hκ]
    refine (W_from_y h.inv n (rsR_ne.2 hT) (by omega) (by rw [hRl]; omega) κ (by omega) (by have := h.dk; omega)).mono fun r s' hr => ?_
    obtain ⟨r1, r2, r3, r4, r5, r6⟩ := hr
    have hr := h.rng hT
    refine ⟨r1, by rw [rsR, List.map_take]; exact r2, fun t ht => h.b t (List.mem_of_mem_take ht), by rw [List.length_take]; omega, fun _ => by rw [List.length_take]; omega, by rw [r5, wtN_wt]; have := h.dk; omega, fun hl => absurd hl r6⟩
  · rw [if_neg h2]
    refine (W_from_n h.inv n (by omega) (fun hR => ?_)).mono fun r s' hr => ⟨hr.1, by rw [hr.2]; exact h.more⟩
    have hT := rsR_ne.1 hR
    have h3 : ¬ n ≤ lastM f T := fun h3 => h2 ⟨hT, h3⟩
    rw [lastM_ne hT] at h3
    rw [hRl]; omega
end
theorem LGok.opened (f : Int) (R : List (List Int)) : LGok f R (.own 0 R.length (rcsP R) (posR 0 f R)) := by
  refine ⟨rfl, by rw [rcsP_len]; omega, by rw [posR_len, rcsP_len], fun j b hj => ⟨false, ?_⟩, fun j hj => ?_⟩
  · rw [Nat.zero_add]; exact rcsP_at R j b hj
  · rw [Nat.zero_add, posR_at R 0 f j hj, Int.zero_add]
theorem W_open0 (a b : Int) (L : FS) (lc : Nat) (F : FS) (c : Nat) (f : Int) (R : List (List Int)) (hR : R ≠ [] → RecOK f R) (hF : Fok (flatR f R) F c) (hsz : (flatR f R).length ≤ 400000) :
    CallR Try.prog base wFam 1 20 [.c (.ptr 0 0)] ⟨mB, a, b, L, lc, F, c, none, .no⟩ (fun r s' => r = .tup [.c (.ptr 2 0), err 0] ∧ WInv s' f R ∧ s'.L = L ∧ s'.lc = lc ∧ s'.F = F ∧ s'.c = c ∧ s'.dk = none) := by
  cases R with
  | nil =>
    have hF' := hF
    rcases hF with ⟨-, rfl, rfl⟩ | ⟨⟨z, cp, rfl⟩, hc⟩
    · exact CallR.leaf (wopen_empty mB L lc [] 0 rfl rfl) [(0, 0), (1, 3), (2, 4)] rfl rfl (by repeat' (first | exact True.intro | refine hpC rfl rfl rfl ?_ | refine ⟨⟨_, _, _, rfl, rfl, rfl, @WkO.rfl _⟩, ?_⟩ | refine HeapOK.acc rfl rfl ?_)) rfl rfl (.tup [.c (.ptr 2 0), err 0]) (⟨mB, 0, 0, L, lc, [], 0, none, .nil⟩ : WS) [(0, 0), (2, 8), (3, 3), (4, 4)] rfl rfl Wk.rfl (by repeat' (first | exact True.intro | refine hpC rfl rfl rfl ?_ | refine ⟨⟨_, _, _, rfl, rfl, rfl, @WkO.rfl _⟩, ?_⟩ | refine HeapOK.acc rfl rfl ?_)) ⟨rfl, ⟨fun h => absurd rfl h, rfl, rfl, rfl, fun h => absurd rfl h, hF', by simp [flatR]⟩, rfl, rfl, rfl, rfl, rfl⟩
    · exact CallR.leaf (gopen_e mB L lc (f1 [119] (fP z (flatR f []) cp)) c z cp [] Bytes.nil (by simp) rfl rfl rfl rfl) [(0, 0), (1, 3), (2, 4)] rfl rfl (by repeat' (first | exact True.intro | refine hpC rfl rfl rfl ?_ | refine ⟨⟨_, _, _, rfl, rfl, rfl, @WkO.rfl _⟩, ?_⟩ | refine HeapOK.acc rfl rfl ?_)) rfl rfl (.tup [.c (.ptr 2 0), err 0]) (⟨mB, 0, 0, L, lc, f1 [119] (fP z (flatR f []) cp), c, none, .nil⟩ : WS) [(0, 0), (2, 8), (3, 3), (4, 4)] rfl rfl Wk.rfl (by repeat' (first | exact True.intro | refine hpC rfl rfl rfl ?_ | refine ⟨⟨_, _, _, rfl, rfl, rfl, @WkO.rfl _⟩, ?_⟩ | refine HeapOK.acc rfl rfl ?_)) ⟨rfl, ⟨fun h => absurd rfl h, rfl, rfl, rfl, fun h => absurd rfl h, hF', by simp [flatR]⟩, rfl, rfl, rfl, rfl, rfl⟩
  | cons b1 rest =>
    have hok := hR (by simp)
    have hF' := hF
    have hpos := flatR_pos hok
    rcases hF with ⟨h0, -, -⟩ | ⟨⟨z, cp, rfl⟩, hc⟩
    · rw [h0] at hpos; simp at hpos
    · exact CallR.leaf (gopen_n mB L lc (f1 [119] (fP z (flatR f (b1 :: rest)) cp)) c f b1 rest hok z cp (flatR f (b1 :: rest)) (flatR_bytes _ _ hok) (by omega) (scan_flat _ _ hok) rfl rfl rfl) [(0, 0), (1, 3), (2, 4)] rfl rfl (by repeat' (first | exact True.intro | refine hpC rfl rfl rfl ?_ | refine ⟨⟨_, _, _, rfl, rfl, rfl, @WkO.rfl _⟩, ?_⟩ | refine HeapOK.acc rfl rfl ?_)) rfl rfl (.tup [.c (.ptr 2 0), err 0]) (⟨mB, f, ((flatR f (b1 :: rest)).length : Nat), L, lc, f1 [119] (fP z (flatR f (b1 :: rest)) cp), c, none, .own 0 (b1 :: rest).length (rcsP (b1 :: rest)) (posR 0 f (b1 :: rest))⟩ : WS) [(0, 0), (2, 8), (3, 3), (4, 4), (6, 9), (7, 10)] rfl rfl Wk.rfl (by repeat' (first | exact True.intro | refine hpC rfl rfl rfl ?_ | refine ⟨⟨_, _, _, rfl, rfl, rfl, @WkO.rfl _⟩, ?_⟩ | refine HeapOK.acc rfl rfl ?_)) ⟨rfl, ⟨fun _ => hok, rfl, rfl, LGok.opened _ _, fun _ => rfl, hF', hsz⟩, rfl, rfl, rfl, rfl, rfl⟩
end Go.Proofs.Ytjlfojgacnphmaa

namespace Go.Proofs.Ytjlfojgacnphmaa
open Go.RowKit Sim Go Sym
set_option maxRecDepth 100000
set_option linter.unusedVariables false
set_option linter.unusedSimpArgs false
variable {base : Nat}
structure WOp where
  k : Int
  n : Int
  z : Bool
  b : List Int
def WOp.pc (o : WOp) : PC := .agg [.int .i64 o.k, .int .i64 o.n, .tz o.z 1 (u8P o.b) none]
def WOp.cn (o : WOp) : Int := if o.n > P50 then P50 else o.n
def WOp.cb (o : WOp) : Rc := (o.z, o.b.take 300, none)
end Go.Proofs.Ytjlfojgacnphmaa

namespace Go.Proofs.Ytjlfojgacnphmaa
open Go.RowKit Sim Go Sym
set_option maxRecDepth 100000
set_option linter.unusedVariables false
set_option linter.unusedSimpArgs false
variable {base : Nat}
structure KE where
  i : Int
  t : Int
  k : Int
  z : Bool
  d : List Int
  c : Option Nat
def KE.pc (e : KE) : PC := .agg [.int .i64 e.i, .int .i64 e.t, .int .i64 e.k, .tz e.z 1 (u8P e.d) e.c]
def keP (l : List KE) : List PC := l.map KE.pc
theorem keP_len (l : List KE) : (keP l).length = l.length := by simp [keP]
structure KE.ok (e : KE) : Prop where
  i : InI64 e.i
  t : InI64 e.t
  k : InI64 e.k
  b : Bytes e.d
  l : e.d.length ≤ 30000
def KE.b (e : KE) : List Int := numB e.i ++ numB e.t ++ numB e.k ++ textB e.d
def kesB : List KE → List Int
  | [] => []
  | e :: l => e.b ++ kesB l
theorem kesB_snoc : ∀ (l : List KE) (e : KE), kesB (l ++ [e]) = kesB l ++ e.b
  | [], e => by simp [kesB]
  | a :: l, e => by simp [kesB, kesB_snoc l e]
theorem KE.b_len {e : KE} (h : e.ok) : e.b.length ≤ e.d.length + 40 := by
  have h1 := numB_len h.i.1 h.i.2
  have h2 := numB_len h.t.1 h.t.2
  have h3 := numB_len h.k.1 h.k.2
  have h4 := h.l
  have h5 : (numB (e.d.length : Int)).length ≤ 10 := numB_len (by omega) (by omega)
  simp only [KE.b, textB, List.length_append]
  omega
theorem kesB_len : ∀ (l : List KE), (∀ e ∈ l, e.ok) → (kesB l).length ≤ l.length * 30040
  | [], _ => by simp [kesB]
  | e :: l, h => by
    have h1 := KE.b_len (h e (by simp))
    have h2 := (h e (by simp)).l
    have h3 := kesB_len l fun x hx => h x (by simp [hx])
    rw [kesB, List.length_append, List.length_cons, Nat.succ_mul]
    omega
noncomputable def lPe : {F : LF // lowerF Try.prog 116 = some F} := ⟨_, rfl⟩
theorem keAt (l pre rest : List KE) (e : KE) (h : l = pre ++ e :: rest) : (keP l)[((pre.length : Nat) : Int).toNat]? = some e.pc := by
  subst h; simp [keP]
theorem pe_loop (z : Bool) (c : Option Nat) (l : List KE) (hl : l.length ≤ 100000) (hok : ∀ e ∈ l, e.ok) (bs : List Int) (hne : bs ≠ []) (hb : bs.length ≤ 900000000) (Q : QX) (hq : Q (.exit 0) [] (hW 2 (bs ++ kesB l))) :
    ∀ (rest pre : List KE), l = pre ++ rest → XH Try.prog base lPe.1.n 2 (lPe.1.c.lp 0) [(0, .c (.ptr 0 0)), (10, .c (.p (.tz z 4 (keP l) c))), (11, .c (.p (.int .i64 l.length))), (12, .c (.p (.int .i64 pre.length)))] (hW 2 (bs ++ kesB pre)) Q := by
  intro rest
  induction rest with
  | nil =>
    intro pre hp
    simp at hp
    subst hp
    refine M.round (M.go rfl ?_)
    refine M.cond rfl (fun hc => absurd hc (by omega)) (fun hc => ?_)
    refine M.ren [(0, 0), (1, 1), (2, 2)] ?_ trivial rfl (by repeat' (first | exact True.intro | refine evC rfl rfl Wk.rfl ?_ | refine evC (accV_ren rfl) rfl Wk.rfl ?_ | refine evC (accV_ren rfl) rfl Wk.acc0 ?_ | refine evC rfl rfl Wk.uncap ?_ | refine evC rfl rfl Wk.nil ?_)) (by repeat' (first | exact True.intro | refine hpC rfl rfl rfl ?_ | refine ⟨⟨_, _, _, rfl, rfl, rfl, @WkO.rfl _⟩, ?_⟩ | refine HeapOK.acc rfl rfl ?_)) (e' := []) (h' := hW 2 (bs ++ kesB l))
    exact M.exit (M.go rfl (M.done hq))
  | cons a rest ih =>
    intro pre hp
    have hlen : l.length = pre.length + (rest.length + 1) := by rw [hp]; simp
    have hu := keAt l pre rest a hp
    have ha := hok a (by rw [hp]; simp)
    have hn := kesB_len pre (fun i hi => hok i (by rw [hp]; simp [hi]))
    have h1 := numB_len ha.i.1 ha.i.2
    have h2 := numB_len ha.t.1 ha.t.2
    have h3 := numB_len ha.k.1 ha.k.2
    have h4 := ha.l
    have hw2 : IntKind.i64.wrap ((pre.length : Int) + 1) = ((pre ++ [a]).length : Int) := by rw [wr64 (by omega) (by omega)]; simp
    have hX : ∀ x : List Int, bs ++ x ≠ [] := fun x => by simp [hne]
    obtain ⟨B0, hB0⟩ : ∃ B0, B0 = bs ++ kesB pre := ⟨_, rfl⟩
    have hB0l : B0.length ≤ 900000000 + 100000 * 30040 := by
      rw [hB0, List.length_append]
      have : pre.length * 30040 ≤ 100000 * 30040 := Nat.mul_le_mul_right _ (by omega)
      omega
    have hB0n : B0 ≠ [] := by rw [hB0]; exact hX _
    rw [← hB0]
    refine M.round (M.go rfl ?_)
    refine M.cond rfl (fun hc => ?_) (fun hc => absurd (by omega) hc)
    refine M.go rfl ?_
    refine M.op trivial (SOp.ia rfl rfl (by omega) hu) ?_
    refine M.op trivial (SOp.ldne (m := 4) (u := a.pc) rfl (by rw [Int.toNat_natCast] at hu ⊢; exact hu) rfl rfl rfl) ?_
    refine M.go rfl ?_
    refine M.use trivial (wnum_spec' B0 a.i hB0n (by omega) ha.i) [(0, 0), (1, 2)] rfl rfl rfl (by repeat' (first | exact True.intro | refine hpC rfl rfl rfl ?_ | refine ⟨⟨_, _, _, rfl, rfl, rfl, @WkO.rfl _⟩, ?_⟩ | refine HeapOK.acc rfl rfl ?_)) rfl rfl ?_
    refine M.go rfl ?_
    refine M.use trivial (wnum_spec' (B0 ++ numB a.i) a.t (by simp [hB0n]) (by simp; omega) ha.t) [(0, 0), (1, 4)] rfl rfl rfl (by repeat' (first | exact True.intro | refine hpC rfl rfl rfl ?_ | refine ⟨⟨_, _, _, rfl, rfl, rfl, @WkO.rfl _⟩, ?_⟩ | refine HeapOK.acc rfl rfl ?_)) rfl rfl ?_
    refine M.go rfl ?_
    refine M.use trivial (wnum_spec' (B0 ++ numB a.i ++ numB a.t) a.k (by simp [hB0n]) (by simp; omega) ha.k) [(0, 0), (1, 5)] rfl rfl rfl (by repeat' (first | exact True.intro | refine hpC rfl rfl rfl ?_ | refine ⟨⟨_, _, _, rfl, rfl, rfl, @WkO.rfl _⟩, ?_⟩ | refine HeapOK.acc rfl rfl ?_)) rfl rfl ?_
    refine M.go rfl ?_
    refine M.use trivial (wtext_spec (B0 ++ numB a.i ++ numB a.t ++ numB a.k) a.z a.c a.d (by simp [hB0n]) (by simp; omega) (by omega)) [(0, 0), (1, 6)] rfl rfl rfl (by repeat' (first | exact True.intro | refine hpC rfl rfl rfl ?_ | refine ⟨⟨_, _, _, rfl, rfl, rfl, @WkO.rfl _⟩, ?_⟩ | refine HeapOK.acc rfl rfl ?_)) rfl rfl ?_
    refine M.go rfl ?_
    rw [hw2]
    have ih' := ih (pre ++ [a]) (by rw [hp]; simp)
    rw [show bs ++ kesB (pre ++ [a]) = B0 ++ numB a.i ++ numB a.t ++ numB a.k ++ textB a.d by rw [kesB_snoc, hB0]; simp [KE.b]] at ih'
    exact M.again (XH.ren [(0, 0), (1, 1), (2, 7)] ih' rfl (by repeat' (first | exact True.intro | refine evC rfl rfl Wk.rfl ?_ | refine evC (accV_ren rfl) rfl Wk.rfl ?_ | refine evC (accV_ren rfl) rfl Wk.acc0 ?_ | refine evC rfl rfl Wk.uncap ?_ | refine evC rfl rfl Wk.nil ?_)) (by repeat' (first | exact True.intro | refine hpC rfl rfl rfl ?_ | refine ⟨⟨_, _, _, rfl, rfl, rfl, @WkO.rfl _⟩, ?_⟩ | refine HeapOK.acc rfl rfl ?_)))
def kesN (l : List KE) : List Int := numB (l.length : Nat) ++ kesB l
theorem pe_spec (bs : List Int) (z : Bool) (c : Option Nat) (l : List KE) (hne : bs ≠ []) (hb : bs.length ≤ 800000000) (hl : l.length ≤ 100000) (hok : ∀ e ∈ l, e.ok) : CallS Try.prog base 116 [.c (.ptr 0 0), .c (.p (.tz z 4 (keP l) c))] (hW 1 bs) (.tup []) (hW 2 (bs ++ kesN l)) := by
  have hil := keP_len l
  have hnl : (numB (l.length : Int)).length ≤ 10 := numB_len (by omega) (by omega)
  refine CallS.of noNG lPe.2 rfl (M.start (M.go rfl ?_))
  rw [hil]
  refine M.use trivial (wnum_spec' bs l.length hne (by omega) ⟨by omega, by omega⟩) [(0, 0), (1, 1)] rfl rfl rfl (by repeat' (first | exact True.intro | refine hpC rfl rfl rfl ?_ | refine ⟨⟨_, _, _, rfl, rfl, rfl, @WkO.rfl _⟩, ?_⟩ | refine HeapOK.acc rfl rfl ?_)) rfl rfl ?_
  refine M.go rfl ?_
  rw [hil]
  have h1 := pe_loop (base := base) z c l hl hok (bs ++ numB l.length) (by simp [hne]) (by simp; omega)
  rw [show bs ++ kesN l = bs ++ numB l.length ++ kesB l by simp [kesN]]
  refine M.loop (XH.ren [(0, 0), (1, 1), (2, 2)] (h1 _ ?_ l [] rfl) rfl (by repeat' (first | exact True.intro | refine evC rfl rfl Wk.rfl ?_ | refine evC (accV_ren rfl) rfl Wk.rfl ?_ | refine evC (accV_ren rfl) rfl Wk.acc0 ?_ | refine evC rfl rfl Wk.uncap ?_ | refine evC rfl rfl Wk.nil ?_)) ?_)
  · refine M.q (M.go rfl ?_)
    exact M.done (finQ.normal [(0, 0), (1, 1), (2, 2)] rfl rfl rfl Wk.rfl (by repeat' (first | exact True.intro | refine hpC rfl rfl rfl ?_ | refine ⟨⟨_, _, _, rfl, rfl, rfl, @WkO.rfl _⟩, ?_⟩ | refine HeapOK.acc rfl rfl ?_)))
  · rw [show kesB [] = [] from rfl, List.append_nil]
    exact (by repeat' (first | exact True.intro | refine hpC rfl rfl rfl ?_ | refine ⟨⟨_, _, _, rfl, rfl, rfl, @WkO.rfl _⟩, ?_⟩ | refine HeapOK.acc rfl rfl ?_))
noncomputable def lTx : {F : LF // lowerF Try.prog 81 = some F} := ⟨_, rfl⟩
def txtB (kd : Int) (sv : Bool) (t v f : Int) (l : List KE) : List Int := numB kd ++ flagB sv ++ numB t ++ numB v ++ flagB false ++ numB f ++ kesN l
def rdA (t v : Int) (sv : Bool) (f : Int) (z : Bool) (l : List KE) (c : Option Nat) (x m r : PC) : List XC := [.p (.int .i64 t), .p (.int .i64 v), .p (.bs sv), .p (.int .i64 f), .p (.tz z 4 (keP l) c), .p .nilp, .p x, .p m, .p r]
theorem text0_spec (kd : Int) (t v : Int) (sv : Bool) (f : Int) (z : Bool) (l : List KE) (c : Option Nat) (x m r : PC) (hk : InI64 kd) (ht : InI64 t) (hv : InI64 v) (hf : InI64 f) (hl : l.length ≤ 10000) (hok : ∀ e ∈ l, e.ok) : CallS Try.prog base 81 [.c (.p (.int .i64 kd)), .agg (rdA t v sv f z l c x m r)] ⟨[], 0⟩ (.c (.p (.tz true 1 (u8P (txtB kd sv t v f l)) none))) ⟨[], 0⟩ := by
  have h1 := numB_len hk.1 hk.2
  have h2 := numB_len ht.1 ht.2
  have h3 := numB_len hv.1 hv.2
  have h4 := numB_len hf.1 hf.2
  have hp := numB_pos kd
  have hkn : numB kd ≠ [] := by intro e; rw [e] at hp; simp at hp
  have hfb : ∀ b, (flagB b).length = 1 := fun b => rfl
  have hkl := kesB_len l hok
  have hnl : (numB (l.length : Int)).length ≤ 10 := numB_len (by omega) (by omega)
  refine CallS.of noNG lTx.2 rfl (M.start (M.go rfl ?_))
  refine M.shO (Sh.wkH (b0 := 1) (o' := .row [.p (.tz true 1 [] none)] true) rfl rfl (WkO.row ⟨Wk.nil, trivial⟩) Sh.refl) ?_
  refine M.use trivial (wnum0_spec kd hk) [(0, 1)] rfl rfl rfl (by repeat' (first | exact True.intro | refine hpC rfl rfl rfl ?_ | refine ⟨⟨_, _, _, rfl, rfl, rfl, @WkO.rfl _⟩, ?_⟩ | refine HeapOK.acc rfl rfl ?_)) rfl rfl ?_
  refine M.go rfl ?_
  refine M.use trivial (wflag_spec (numB kd) sv hkn (by omega)) [(0, 1), (1, 2)] rfl rfl rfl (by repeat' (first | exact True.intro | refine hpC rfl rfl rfl ?_ | refine ⟨⟨_, _, _, rfl, rfl, rfl, @WkO.rfl _⟩, ?_⟩ | refine HeapOK.acc rfl rfl ?_)) rfl rfl ?_
  refine M.go rfl ?_
  refine M.use trivial (wnum_spec' (numB kd ++ flagB sv) t (by simp [hkn]) (by simp [hfb]; omega) ht) [(0, 1), (1, 3)] rfl rfl rfl (by repeat' (first | exact True.intro | refine hpC rfl rfl rfl ?_ | refine ⟨⟨_, _, _, rfl, rfl, rfl, @WkO.rfl _⟩, ?_⟩ | refine HeapOK.acc rfl rfl ?_)) rfl rfl ?_
  refine M.go rfl ?_
  refine M.use trivial (wnum_spec' (numB kd ++ flagB sv ++ numB t) v (by simp [hkn]) (by simp [hfb]; omega) hv) [(0, 1), (1, 4)] rfl rfl rfl (by repeat' (first | exact True.intro | refine hpC rfl rfl rfl ?_ | refine ⟨⟨_, _, _, rfl, rfl, rfl, @WkO.rfl _⟩, ?_⟩ | refine HeapOK.acc rfl rfl ?_)) rfl rfl ?_
  refine M.go rfl ?_
  refine M.wkO (i := 28) (v' := .c (.p (.bs false))) rfl (Wk.of rfl) ?_
  refine M.use trivial (wflag_spec (numB kd ++ flagB sv ++ numB t ++ numB v) false (by simp [hkn]) (by simp [hfb]; omega)) [(0, 1), (1, 5)] rfl rfl rfl (by repeat' (first | exact True.intro | refine hpC rfl rfl rfl ?_ | refine ⟨⟨_, _, _, rfl, rfl, rfl, @WkO.rfl _⟩, ?_⟩ | refine HeapOK.acc rfl rfl ?_)) rfl rfl ?_
  refine M.go rfl ?_
  refine M.use trivial (wnum_spec' (numB kd ++ flagB sv ++ numB t ++ numB v ++ flagB false) f (by simp [hkn]) (by simp [hfb]; omega) hf) [(0, 1), (1, 6)] rfl rfl rfl (by repeat' (first | exact True.intro | refine hpC rfl rfl rfl ?_ | refine ⟨⟨_, _, _, rfl, rfl, rfl, @WkO.rfl _⟩, ?_⟩ | refine HeapOK.acc rfl rfl ?_)) rfl rfl ?_
  refine M.go rfl ?_
  refine M.use trivial (pe_spec (numB kd ++ flagB sv ++ numB t ++ numB v ++ flagB false ++ numB f) z c l (by simp [hkn]) (by simp [hfb]; omega) (by omega) hok) [(0, 1), (1, 7)] rfl rfl rfl (by repeat' (first | exact True.intro | refine hpC rfl rfl rfl ?_ | refine ⟨⟨_, _, _, rfl, rfl, rfl, @WkO.rfl _⟩, ?_⟩ | refine HeapOK.acc rfl rfl ?_)) rfl rfl ?_
  refine M.go rfl ?_
  refine M.use trivial (wbytes_spec (txtB kd sv t v f l) (by simp [txtB, hkn]) (by simp [txtB, kesN, hfb]; omega)) [(0, 1), (1, 8)] rfl rfl rfl (by repeat' (first | exact True.intro | refine hpC rfl rfl rfl ?_ | refine ⟨⟨_, _, _, rfl, rfl, rfl, @WkO.rfl _⟩, ?_⟩ | refine HeapOK.acc rfl rfl ?_)) rfl rfl ?_
  refine M.go rfl ?_
  exact M.ret (M.go rfl (M.done (finQ.ret [] rfl rfl rfl (by first | exact Wk.rfl | exact Wk.uncap | exact Wk.nil | exact Wk.b1 rfl | exact Wk.t2 Wk.rfl (Wk.b1 rfl)) (by repeat' (first | exact True.intro | refine hpC rfl rfl rfl ?_ | refine ⟨⟨_, _, _, rfl, rfl, rfl, @WkO.rfl _⟩, ?_⟩ | refine HeapOK.acc rfl rfl ?_)))))
theorem RS.num_w {z : Bool} {n : Int} (hn : InI64 n) (r : List Int) : (RS.num ⟨z, numB n ++ r, false⟩) = (n, ⟨false, r, false⟩) := by
  have := num_rec hn r
  unfold RS.num at this ⊢
  exact this
end Go.Proofs.Ytjlfojgacnphmaa

namespace Go.Proofs.Ytjlfojgacnphmaa
open Go.RowKit Sim Go Sym
set_option maxRecDepth 100000
set_option linter.unusedVariables false
set_option linter.unusedSimpArgs false
variable {base : Nat}
theorem RS.text_w {d : List Int} (hd : d.length ≤ 1000000000) (r : List Int) : (RS.text ⟨false, textB d ++ r, false⟩) = ((false, d), ⟨false, r, false⟩) := by
  have h1 : (RS.num ⟨false, textB d ++ r, false⟩) = ((d.length : Int), ⟨false, d ++ r, false⟩) := by
    rw [textB, List.append_assoc]
    exact RS.num_w ⟨by omega, by omega⟩ _
  unfold RS.text
  rw [h1]
  simp
  omega
theorem RS.flag_w {z : Bool} (f : Bool) (r : List Int) : (RS.flag ⟨z, flagB f ++ r, false⟩) = (f, ⟨false, r, false⟩) := by
  unfold RS.flag flagB rflag
  cases f <;> simp
theorem rw_ok {z : Bool} {xs : List Int} (hl : xs.length ≤ 1000000000000) (hb : Bytes xs) : (⟨z, xs, false⟩ : RS).ok := ⟨hl, hb, fun h => (by cases h), fun h => (by cases h)⟩
def KE.rd (e : KE) : KE := ⟨e.i, e.t, e.k, false, e.d, none⟩
theorem KE.b_bytes {e : KE} (h : e.ok) : Bytes e.b := ((numB_bytes _).app (numB_bytes _)).app (numB_bytes _) |>.app ((numB_bytes _).app h.b)
theorem kesB_bytes : ∀ {l : List KE}, (∀ e ∈ l, e.ok) → Bytes (kesB l)
  | [], _ => Bytes.nil
  | e :: l, h => (KE.b_bytes (h e (by simp))).app (kesB_bytes fun x hx => h x (by simp [hx]))
noncomputable def lGe : {F : LF // lowerF Try.prog 110 = some F} := ⟨_, rfl⟩
def hRE (xs : List Int) (l : List KE) : HS := ⟨[(1, accO 4 (keP l)), (0, some (.row [.p (.tz false 1 (u8P xs) none), .p (.bs false)] true))], 2⟩
theorem ge_loop (rest : List Int) (hrl : rest.length ≤ 1000000000) (hrb : Bytes rest) (l : List KE) (hl : l.length ≤ 100000) (hok : ∀ e ∈ l, e.ok) (Q : QX) (hq : Q (.exit 0) [(3, accV 1 4 (keP (l.map KE.rd)))] (hRE rest (l.map KE.rd))) :
    ∀ (rem pre : List KE), l = pre ++ rem → XH Try.prog base lGe.1.n 1 (lGe.1.c.lp 0) [(0, .c (.ptr 0 0)), (4, .c (.p (.int .i64 rem.length))), (3, accV 1 4 (keP (pre.map KE.rd)))] (hRE (kesB rem ++ rest) (pre.map KE.rd)) Q := by
  intro rem
  induction rem with
  | nil =>
    intro pre hp
    simp at hp
    subst hp
    refine M.round (M.go rfl ?_)
    refine M.dec rfl (fun hc => absurd hc (by simp)) (fun hc => ?_)
    refine M.go rfl ?_
    refine M.ren [(0, 0), (1, 1)] ?_ trivial rfl (by repeat' (first | exact True.intro | refine evC rfl rfl Wk.rfl ?_ | refine evC (accV_ren rfl) rfl Wk.rfl ?_ | refine evC (accV_ren rfl) rfl Wk.acc0 ?_ | refine evC rfl rfl Wk.uncap ?_ | refine evC rfl rfl Wk.nil ?_)) (by repeat' (first | exact True.intro | refine hpC rfl rfl rfl ?_ | refine ⟨⟨_, _, _, rfl, rfl, rfl, @WkO.rfl _⟩, ?_⟩ | refine HeapOK.acc rfl rfl ?_)) (e' := [(3, accV 1 4 (keP (l.map KE.rd)))]) (h' := hRE rest (l.map KE.rd))
    exact M.exit (M.go rfl (M.done hq))
  | cons a rem ih =>
    intro pre hp
    have hlen : l.length = pre.length + (rem.length + 1) := by rw [hp]; simp
    have ha := hok a (by rw [hp]; simp)
    have hrm : ∀ e ∈ rem, e.ok := fun e he => hok e (by rw [hp]; simp [he])
    have hk := kesB_len rem hrm
    have hkb := kesB_bytes hrm
    have hkm : rem.length * 30040 ≤ 100000 * 30040 := Nat.mul_le_mul_right _ (by omega)
    have h1 := numB_len ha.i.1 ha.i.2
    have h2 := numB_len ha.t.1 ha.t.2
    have h3 := numB_len ha.k.1 ha.k.2
    have h4 := ha.l
    have h5 : (numB (a.d.length : Int)).length ≤ 10 := numB_len (by omega) (by omega)
    have htl : (textB a.d).length ≤ 30010 := by simp [textB]; omega
    have htb : Bytes (textB a.d) := (numB_bytes _).app ha.b
    obtain ⟨R, hR⟩ : ∃ R, R = kesB rem ++ rest := ⟨_, rfl⟩
    have hRl : R.length ≤ 4100000000 := by rw [hR, List.length_append]; omega
    have hRb : Bytes R := by rw [hR]; exact hkb.app hrb
    have e0 : kesB (a :: rem) ++ rest = numB a.i ++ (numB a.t ++ (numB a.k ++ (textB a.d ++ R))) := by rw [hR]; simp [kesB, KE.b]
    have n1 := rnum_spec (base := base) ⟨false, numB a.i ++ (numB a.t ++ (numB a.k ++ (textB a.d ++ R))), false⟩ (rw_ok (by simp; omega) ((numB_bytes _).app ((numB_bytes _).app ((numB_bytes _).app (htb.app hRb)))))
    rw [RS.num_w ha.i] at n1
    have n2 := rnum_spec (base := base) ⟨false, numB a.t ++ (numB a.k ++ (textB a.d ++ R)), false⟩ (rw_ok (by simp; omega) ((numB_bytes _).app ((numB_bytes _).app (htb.app hRb))))
    rw [RS.num_w ha.t] at n2
    have n3 := rnum_spec (base := base) ⟨false, numB a.k ++ (textB a.d ++ R), false⟩ (rw_ok (by simp; omega) ((numB_bytes _).app (htb.app hRb)))
    rw [RS.num_w ha.k] at n3
    have n4 := rtext_spec (base := base) ⟨false, textB a.d ++ R, false⟩ (rw_ok (by simp; omega) (htb.app hRb))
    rw [RS.text_w (by omega)] at n4
    have hw : IntKind.i64.wrap (((a :: rem).length : Int) - 1) = (rem.length : Int) := by rw [wr64 (by simp <;> omega) (by simp <;> omega)]; simp
    have hpl : (keP (pre.map KE.rd)).length = pre.length := by simp [keP]
    rw [e0]
    refine M.round (M.go rfl ?_)
    refine M.dec rfl (fun hc => ?_) (fun hc => absurd (by simp <;> omega) hc)
    refine M.go rfl ?_
    refine M.use rfl (rok_spec ⟨false, numB a.i ++ (numB a.t ++ (numB a.k ++ (textB a.d ++ R))), false⟩) [(0, 0)] rfl rfl rfl (by repeat' (first | exact True.intro | refine hpC rfl rfl rfl ?_ | refine ⟨⟨_, _, _, rfl, rfl, rfl, @WkO.rfl _⟩, ?_⟩ | refine HeapOK.acc rfl rfl ?_)) rfl rfl ?_
    refine M.go rfl ?_
    refine M.condB rfl (fun _ => ?_) (fun h => by cases h)
    refine M.go rfl ?_
    refine M.use trivial n1 [(0, 0)] rfl rfl rfl (by repeat' (first | exact True.intro | refine hpC rfl rfl rfl ?_ | refine ⟨⟨_, _, _, rfl, rfl, rfl, @WkO.rfl _⟩, ?_⟩ | refine HeapOK.acc rfl rfl ?_)) rfl rfl ?_
    refine M.go rfl ?_
    refine M.use trivial n2 [(0, 0)] rfl rfl rfl (by repeat' (first | exact True.intro | refine hpC rfl rfl rfl ?_ | refine ⟨⟨_, _, _, rfl, rfl, rfl, @WkO.rfl _⟩, ?_⟩ | refine HeapOK.acc rfl rfl ?_)) rfl rfl ?_
    refine M.go rfl ?_
    refine M.use trivial n3 [(0, 0)] rfl rfl rfl (by repeat' (first | exact True.intro | refine hpC rfl rfl rfl ?_ | refine ⟨⟨_, _, _, rfl, rfl, rfl, @WkO.rfl _⟩, ?_⟩ | refine HeapOK.acc rfl rfl ?_)) rfl rfl ?_
    refine M.go rfl ?_
    refine M.use trivial n4 [(0, 0)] rfl rfl rfl (by repeat' (first | exact True.intro | refine hpC rfl rfl rfl ?_ | refine ⟨⟨_, _, _, rfl, rfl, rfl, @WkO.rfl _⟩, ?_⟩ | refine HeapOK.acc rfl rfl ?_)) rfl rfl ?_
    refine M.go rfl ?_
    refine M.acc trivial rfl rfl rfl (.own rfl rfl) (by simp) (by rw [hpl]; simp; omega) ?_
    refine M.go rfl ?_
    rw [hw]
    have ih' := ih (pre ++ [a]) (by rw [hp]; simp)
    unfold hRE at ih'
    rw [show keP ((pre ++ [a]).map KE.rd) = keP (pre.map KE.rd) ++ [a.rd.pc] by simp [keP], ← hR] at ih'
    exact M.again (XH.ren [(0, 0), (1, 3)] ih' rfl (by repeat' (first | exact True.intro | refine evC rfl rfl Wk.rfl ?_ | refine evC (accV_ren rfl) rfl Wk.rfl ?_ | refine evC (accV_ren rfl) rfl Wk.acc0 ?_ | refine evC rfl rfl Wk.uncap ?_ | refine evC rfl rfl Wk.nil ?_)) (by repeat' (first | exact True.intro | refine hpC rfl rfl rfl ?_ | refine ⟨⟨_, _, _, rfl, rfl, rfl, @WkO.rfl _⟩, ?_⟩ | refine HeapOK.acc rfl rfl ?_)))
theorem ge_spec (z : Bool) (rest : List Int) (hrl : rest.length ≤ 1000000000) (hrb : Bytes rest) (l : List KE) (hl : l.length ≤ 100000) (hok : ∀ e ∈ l, e.ok) : CallS Try.prog base 110 [.c (.ptr 0 0)] (hR ⟨z, kesN l ++ rest, false⟩) (.c (.p (.tz true 4 (keP (l.map KE.rd)) none))) (hR ⟨false, rest, false⟩) := by
  have hk := kesB_len l hok
  have hkm : l.length * 30040 ≤ 100000 * 30040 := Nat.mul_le_mul_right _ (by omega)
  have hnl : (numB (l.length : Int)).length ≤ 10 := numB_len (by omega) (by omega)
  have n0 := rnum_spec (base := base) ⟨z, kesN l ++ rest, false⟩ (rw_ok (by simp [kesN]; omega) (((numB_bytes _).app (kesB_bytes hok)).app hrb))
  rw [kesN, List.append_assoc, RS.num_w ⟨by omega, by omega⟩] at n0
  rw [kesN, List.append_assoc]
  refine CallS.of noNG lGe.2 rfl (M.start (M.go rfl ?_))
  refine M.use trivial n0 [(0, 0)] rfl rfl rfl (by repeat' (first | exact True.intro | refine hpC rfl rfl rfl ?_ | refine ⟨⟨_, _, _, rfl, rfl, rfl, @WkO.rfl _⟩, ?_⟩ | refine HeapOK.acc rfl rfl ?_)) rfl rfl ?_
  refine M.go rfl ?_
  refine M.loop (XH.ren [(0, 0), (1, 1)] (ge_loop rest hrl hrb l hl hok _ ?_ l [] rfl) rfl (by repeat' (first | exact True.intro | refine evC rfl rfl Wk.rfl ?_ | refine evC (accV_ren rfl) rfl Wk.rfl ?_ | refine evC (accV_ren rfl) rfl Wk.acc0 ?_ | refine evC rfl rfl Wk.uncap ?_ | refine evC rfl rfl Wk.nil ?_)) (by repeat' (first | exact True.intro | refine hpC rfl rfl rfl ?_ | refine ⟨⟨_, _, _, rfl, rfl, rfl, @WkO.rfl _⟩, ?_⟩ | refine HeapOK.acc rfl rfl ?_)))
  refine M.q (M.go rfl ?_)
  refine M.accF (i := 2) rfl rfl ?_
  exact M.ret (M.go rfl (M.done (finQ.ret [(0, 0)] rfl rfl rfl (by first | exact Wk.rfl | exact Wk.uncap | exact Wk.nil | exact Wk.b1 rfl | exact Wk.t2 Wk.rfl (Wk.b1 rfl)) (by repeat' (first | exact True.intro | refine hpC rfl rfl rfl ?_ | refine ⟨⟨_, _, _, rfl, rfl, rfl, @WkO.rfl _⟩, ?_⟩ | refine HeapOK.acc rfl rfl ?_)))))
end Go.Proofs.Ytjlfojgacnphmaa

namespace Go.Proofs.Ytjlfojgacnphmaa
open Go.RowKit Sim Go Sym
set_option maxRecDepth 100000
set_option linter.unusedVariables false
set_option linter.unusedSimpArgs false
variable {base : Nat}
theorem W_appendD {s : WS} {f : Int} {R : List (List Int)} (hi : WInv s f R) (f2 n : Int) (hff : R ≠ [] → f2 = f) (hn : n = f2 + (R.length : Nat)) (z : Bool) (b : List Int) (cb : Option Nat) (hB : Bytes b) (hb : b.length ≤ 30000) (hok : RecOK f2 (R ++ [b])) (hRl : R.length ≤ 9000) (hsz2 : (flatR f R).length + b.length ≤ 390000) (hnl : s.lg = .nil → s.dk = none) (hdk : wtN s.dk ≤ 100000) :
    ∃ s', (WInv s' f2 (R ++ [b]) ∧ s'.L = s.L ∧ s'.lc = s.lc ∧ s'.dk = wt (chA (sealB (recB n b))) s.dk ∧ s'.lg ≠ .nil) ∧ CallD Try.prog base wFam 3 21 [.c (.ptr 2 0), .c (.p (.int .i64 n)), .c (.p (.tz z 1 (u8P b) cb))] s (.c (.p (.int .i64 0))) s'  := by
  have hn1 := hok.len
  simp only [List.length_append, List.length_cons, List.length_nil] at hn1
  obtain ⟨room, first, en, L, lc, F, c, _ | ⟨w, W⟩, _ | _ | ⟨o, m, X, Y⟩⟩ := s
  · exact hi.lg.elim
  · obtain rfl : R = [] := hi.lg
    obtain rfl : n = f2 := by simp at hn; exact hn
    have hsl := seal_le (n := n) (b := b) (by omega) (by omega) hb
    have hF := hi.file
    have hrm : room = mB := hi.room
    have hen : en = _ := hi.en
    obtain ⟨F2, c2, hF2, hdo⟩ := hF.app (base := base) (sealB (recB n b)) (seal_ne (by omega) (by omega) hb) (by simp [flatR]) (by omega)
    refine ⟨(⟨room, n, en + (sealB (recB n b)).length, L, lc, F2, c2, some (chA (sealB (recB n b)), []), .own 0 1 [fP z b none] [.int .i64 en]⟩ : WS), ⟨?_, rfl, rfl, rfl, fun h => by cases h⟩, CallR.leaf (wappend00_spec room first en L lc F c n ⟨by omega, by omega⟩ z b cb hB hb ⟨by omega, by omega⟩ hF.ok (by rw [hrm, mB_eq]; omega) (by rw [hF.used, hrm, mB_eq]; simp [flatR] at *; omega) (.inr hF.len) F2 c2 hdo) [(0, 2), (1, 0), (2, 3), (3, 4)] rfl rfl (by repeat' (first | exact True.intro | refine hpC rfl rfl rfl ?_ | refine ⟨⟨_, _, _, rfl, rfl, rfl, @WkO.rfl _⟩, ?_⟩ | refine HeapOK.acc rfl rfl ?_)) rfl rfl (.c (.p (.int .i64 0))) (⟨room, n, en + (sealB (recB n b)).length, L, lc, F2, c2, some (chA (sealB (recB n b)), []), .own 0 1 [fP z b none] [.int .i64 en]⟩ : WS) [(0, 0), (1, 1), (2, 2), (3, 3), (4, 4), (5, 8), (6, 9), (7, 10)] rfl rfl Wk.rfl ⟨(hpX rfl rfl rfl), (hpX rfl rfl rfl), (hpX rfl rfl rfl), (hpX rfl rfl rfl), (hpX rfl rfl rfl), ⟨_, _, _, rfl, rfl, rfl, WkO.row ⟨Wk.rfl, Wk.rfl, rowAcc rfl 1 _, rowAcc rfl 1 _, Wk.rfl, trivial⟩⟩, (hpX rfl rfl rfl), trivial⟩ ⟨rfl, rfl⟩⟩
    refine ⟨fun _ => hok, hrm, ?_, ?_, fun _ => rfl, ?_, ?_⟩
    · show en + _ = _
      rw [hen]
      simp [flatR]
    · rw [show en = 0 by rw [hen]; simp [flatR]]
      exact LGok.first
    · simpa [flatR] using hF2
    · simp [flatR]
      omega
  · have h := hi.lg
    obtain ⟨rfl, hX, hXY, hXr, hYr⟩ := h
    cases hR : R with
    | nil =>
      subst hR
      obtain rfl : n = f2 := by simp at hn; exact hn
      have hsl := seal_le (n := n) (b := b) (by omega) (by omega) hb
      have hF := hi.file
      have hrm : room = mB := hi.room
      have hen : en = _ := hi.en
      obtain ⟨F2, c2, hF2, hdo⟩ := hF.app (base := base) (sealB (recB n b)) (seal_ne (by omega) (by omega) hb) (by simp [flatR]) (by omega)
      have hlg : LGok n [] (.own o 0 X Y) := hi.lg.free
      have he0 : en = 0 := by rw [hen]; simp [flatR]
      by_cases hl : o < X.length
      · refine ⟨(⟨room, n, en + (sealB (recB n b)).length, L, lc, F2, c2, wt (chA (sealB (recB n b))) (none), .own o (0 + 1) (X.set (o + 0) (fP z b none)) (Y.set (o + 0) (.int .i64 en))⟩ : WS), ⟨?_, rfl, rfl, rfl, fun h => by cases h⟩, CallR.leaf (gapp0i0_spec room first en o L lc F c X Y n ⟨by omega, by omega⟩ (by omega) (by omega) z b cb hB hb ⟨by omega, by omega⟩ hF.ok (by rw [hrm, mB_eq]; omega) (by rw [hF.used, hrm, mB_eq]; simp [flatR] at *; omega) (.inr hF.len) F2 c2 hdo) [(0, 2), (1, 0), (2, 3), (3, 4), (4, 6), (5, 7)] rfl rfl (by repeat' (first | exact True.intro | refine hpC rfl rfl rfl ?_ | refine ⟨⟨_, _, _, rfl, rfl, rfl, @WkO.rfl _⟩, ?_⟩ | refine HeapOK.acc rfl rfl ?_)) rfl rfl (.c (.p (.int .i64 0))) (⟨room, n, en + (sealB (recB n b)).length, L, lc, F2, c2, wt (chA (sealB (recB n b))) (none), .own o (0 + 1) (X.set (o + 0) (fP z b none)) (Y.set (o + 0) (.int .i64 en))⟩ : WS) [(0, 0), (1, 1), (2, 2), (3, 3), (4, 4), (5, 8), (6, 6), (7, 7)] rfl rfl Wk.rfl (by repeat' (first | exact True.intro | refine hpC rfl rfl rfl ?_ | refine ⟨⟨_, _, _, rfl, rfl, rfl, @WkO.rfl _⟩, ?_⟩ | refine HeapOK.acc rfl rfl ?_)) ⟨rfl, rfl⟩⟩
        refine ⟨fun _ => hok, hrm, ?_, ?_, fun _ => rfl, ?_, ?_⟩
        · show en + _ = _
          rw [hen]
          simp [flatR]
        · have := hlg.app_i (b := b) (z := z) (by omega)
          rw [he0]
          simpa [flatR] using this
        · simpa [flatR] using hF2
        · simp [flatR]
          omega
      · refine ⟨(⟨room, n, en + (sealB (recB n b)).length, L, lc, F2, c2, wt (chA (sealB (recB n b))) (none), .own 0 (0 + 1) (X.drop o ++ [fP z b none]) (Y.drop o ++ [.int .i64 en])⟩ : WS), ⟨?_, rfl, rfl, rfl, fun h => by cases h⟩, CallR.leaf (gapp0g0_spec room first en o L lc F c X Y n ⟨by omega, by omega⟩ (by omega) (by omega) z b cb hB hb ⟨by omega, by omega⟩ hF.ok (by rw [hrm, mB_eq]; omega) (by rw [hF.used, hrm, mB_eq]; simp [flatR] at *; omega) (.inr hF.len) F2 c2 hdo) [(0, 2), (1, 0), (2, 3), (3, 4), (4, 6), (5, 7)] rfl rfl (by repeat' (first | exact True.intro | refine hpC rfl rfl rfl ?_ | refine ⟨⟨_, _, _, rfl, rfl, rfl, @WkO.rfl _⟩, ?_⟩ | refine HeapOK.acc rfl rfl ?_)) rfl rfl (.c (.p (.int .i64 0))) (⟨room, n, en + (sealB (recB n b)).length, L, lc, F2, c2, wt (chA (sealB (recB n b))) (none), .own 0 (0 + 1) (X.drop o ++ [fP z b none]) (Y.drop o ++ [.int .i64 en])⟩ : WS) [(0, 0), (1, 1), (2, 2), (3, 3), (4, 4), (5, 8), (6, 9), (7, 10)] rfl rfl Wk.rfl (by repeat' (first | exact True.intro | refine hpC rfl rfl rfl ?_ | refine ⟨⟨_, _, _, rfl, rfl, rfl, @WkO.rfl _⟩, ?_⟩ | refine HeapOK.acc rfl rfl ?_)) ⟨rfl, rfl⟩⟩
        refine ⟨fun _ => hok, hrm, ?_, ?_, fun _ => rfl, ?_, ?_⟩
        · show en + _ = _
          rw [hen]
          simp [flatR]
        · have := hlg.app_g (b := b) (z := z) (by omega)
          rw [he0]
          simpa [flatR] using this
        · simpa [flatR] using hF2
        · simp [flatR]
          omega
    | cons b1 T =>
      have hne : R ≠ [] := by rw [hR]; simp
      obtain ⟨g1, g2, g3⟩ := (hi.ok hne).len
      have hf := hi.first hne
      rw [hR] at g2 g3 hX hXr hYr
      simp at g2 g3 hf hX
      subst hf
      obtain rfl : f2 = first := hff hne
      rw [hR] at hn hok hRl
      have hlR : ((b1 :: T).length : Int) = T.length + 1 := by simp
      have hsl := seal_le (n := n) (b := b) (by omega) (by omega) hb
      have hF := hi.file
      have hrm : room = mB := hi.room
      have hen : en = _ := hi.en
      have hsz := hi.sz
      rw [hR] at hF hen hsz hsz2
      have hff2 := flatR_app (b1 :: T) f2 b
      rw [← hn] at hff2
      obtain ⟨F2, c2, hF2, hdo⟩ := hF.app (base := base) (sealB (recB n b)) (seal_ne (by omega) (by omega) hb) (by omega) (by omega)
      have hlg : LGok f2 (b1 :: T) (.own o (b1 :: T).length X Y) := by have := hi.lg; rw [hR] at this; exact this
      by_cases hl : o + (b1 :: T).length < X.length
      · refine ⟨(⟨room, f2, en + (sealB (recB n b)).length, L, lc, F2, c2, wt (chA (sealB (recB n b))) (none), .own o ((b1 :: T).length + 1) (X.set (o + (b1 :: T).length) (fP z b none)) (Y.set (o + (b1 :: T).length) (.int .i64 en))⟩ : WS), ⟨?_, rfl, rfl, rfl, fun h => by cases h⟩, CallR.leaf (gapp0i1_spec room f2 en o (b1 :: T).length L lc F c X Y n ⟨by omega, by omega⟩ (by omega) (by omega) (by rw [hXY]; omega) (by simp; omega) (by simp) ⟨by omega, by omega⟩ z b cb hB hb ⟨by omega, by omega⟩ hF.ok (by rw [hrm, mB_eq]; omega) (by rw [hF.used, hrm, mB_eq]; omega) (.inr hF.len) F2 c2 hdo) [(0, 2), (1, 0), (2, 3), (3, 4), (4, 6), (5, 7)] rfl rfl (by repeat' (first | exact True.intro | refine hpC rfl rfl rfl ?_ | refine ⟨⟨_, _, _, rfl, rfl, rfl, @WkO.rfl _⟩, ?_⟩ | refine HeapOK.acc rfl rfl ?_)) rfl rfl (.c (.p (.int .i64 0))) (⟨room, f2, en + (sealB (recB n b)).length, L, lc, F2, c2, wt (chA (sealB (recB n b))) (none), .own o ((b1 :: T).length + 1) (X.set (o + (b1 :: T).length) (fP z b none)) (Y.set (o + (b1 :: T).length) (.int .i64 en))⟩ : WS) [(0, 0), (1, 1), (2, 2), (3, 3), (4, 4), (5, 8), (6, 6), (7, 7)] rfl rfl Wk.rfl (by repeat' (first | exact True.intro | refine hpC rfl rfl rfl ?_ | refine ⟨⟨_, _, _, rfl, rfl, rfl, @WkO.rfl _⟩, ?_⟩ | refine HeapOK.acc rfl rfl ?_)) ⟨rfl, rfl⟩⟩
        refine ⟨fun _ => hok, hrm, ?_, ?_, fun _ => rfl, ?_, ?_⟩
        · show en + _ = _
          rw [hen, hff2, List.length_append]
          omega
        · have := hlg.app_i (b := b) (z := z) (by omega)
          rw [← hen] at this
          exact this
        · rw [hff2]
          exact hF2
        · rw [hff2, List.length_append]
          omega
      · refine ⟨(⟨room, f2, en + (sealB (recB n b)).length, L, lc, F2, c2, wt (chA (sealB (recB n b))) (none), .own 0 ((b1 :: T).length + 1) (X.drop o ++ [fP z b none]) (Y.drop o ++ [.int .i64 en])⟩ : WS), ⟨?_, rfl, rfl, rfl, fun h => by cases h⟩, CallR.leaf (gapp0g1_spec room f2 en o (b1 :: T).length L lc F c X Y n ⟨by omega, by omega⟩ (by omega) (by omega) (by rw [hXY]; omega) (by simp; omega) (by simp) ⟨by omega, by omega⟩ z b cb hB hb ⟨by omega, by omega⟩ hF.ok (by rw [hrm, mB_eq]; omega) (by rw [hF.used, hrm, mB_eq]; omega) (.inr hF.len) F2 c2 hdo) [(0, 2), (1, 0), (2, 3), (3, 4), (4, 6), (5, 7)] rfl rfl (by repeat' (first | exact True.intro | refine hpC rfl rfl rfl ?_ | refine ⟨⟨_, _, _, rfl, rfl, rfl, @WkO.rfl _⟩, ?_⟩ | refine HeapOK.acc rfl rfl ?_)) rfl rfl (.c (.p (.int .i64 0))) (⟨room, f2, en + (sealB (recB n b)).length, L, lc, F2, c2, wt (chA (sealB (recB n b))) (none), .own 0 ((b1 :: T).length + 1) (X.drop o ++ [fP z b none]) (Y.drop o ++ [.int .i64 en])⟩ : WS) [(0, 0), (1, 1), (2, 2), (3, 3), (4, 4), (5, 8), (6, 9), (7, 10)] rfl rfl Wk.rfl (by repeat' (first | exact True.intro | refine hpC rfl rfl rfl ?_ | refine ⟨⟨_, _, _, rfl, rfl, rfl, @WkO.rfl _⟩, ?_⟩ | refine HeapOK.acc rfl rfl ?_)) ⟨rfl, rfl⟩⟩
        refine ⟨fun _ => hok, hrm, ?_, ?_, fun _ => rfl, ?_, ?_⟩
        · show en + _ = _
          rw [hen, hff2, List.length_append]
          omega
        · have := hlg.app_g (b := b) (z := z) (by omega)
          rw [← hen] at this
          exact this
        · rw [hff2]
          exact hF2
        · rw [hff2, List.length_append]
          omega
  · exact hi.lg.elim
  · obtain rfl : R = [] := hi.lg
    exact absurd (hnl rfl) (by simp)
  · have h := hi.lg
    obtain ⟨rfl, hX, hXY, hXr, hYr⟩ := h
    cases hR : R with
    | nil =>
      subst hR
      obtain rfl : n = f2 := by simp at hn; exact hn
      have hsl := seal_le (n := n) (b := b) (by omega) (by omega) hb
      have hF := hi.file
      have hrm : room = mB := hi.room
      have hen : en = _ := hi.en
      obtain ⟨F2, c2, hF2, hdo⟩ := hF.app (base := base) (sealB (recB n b)) (seal_ne (by omega) (by omega) hb) (by simp [flatR]) (by omega)
      have hlg : LGok n [] (.own o 0 X Y) := hi.lg.free
      have he0 : en = 0 := by rw [hen]; simp [flatR]
      by_cases hl : o < X.length
      · refine ⟨(⟨room, n, en + (sealB (recB n b)).length, L, lc, F2, c2, wt (chA (sealB (recB n b))) (some (w, W)), .own o (0 + 1) (X.set (o + 0) (fP z b none)) (Y.set (o + 0) (.int .i64 en))⟩ : WS), ⟨?_, rfl, rfl, rfl, fun h => by cases h⟩, CallR.leaf (gapp1i0_spec room first en o L lc F c w W X Y n ⟨by omega, by omega⟩ (by omega) (by omega) (by simp [wtN] at hdk; omega) z b cb hB hb ⟨by omega, by omega⟩ hF.ok (by rw [hrm, mB_eq]; omega) (by rw [hF.used, hrm, mB_eq]; simp [flatR] at *; omega) (.inr hF.len) F2 c2 hdo) [(0, 2), (1, 0), (2, 3), (3, 4), (4, 5), (5, 6), (6, 7)] rfl rfl (by repeat' (first | exact True.intro | refine hpC rfl rfl rfl ?_ | refine ⟨⟨_, _, _, rfl, rfl, rfl, @WkO.rfl _⟩, ?_⟩ | refine HeapOK.acc rfl rfl ?_)) rfl rfl (.c (.p (.int .i64 0))) (⟨room, n, en + (sealB (recB n b)).length, L, lc, F2, c2, wt (chA (sealB (recB n b))) (some (w, W)), .own o (0 + 1) (X.set (o + 0) (fP z b none)) (Y.set (o + 0) (.int .i64 en))⟩ : WS) [(0, 0), (1, 1), (2, 2), (3, 3), (4, 4), (5, 8), (6, 6), (7, 7)] rfl rfl Wk.rfl (by repeat' (first | exact True.intro | refine hpC rfl rfl rfl ?_ | refine ⟨⟨_, _, _, rfl, rfl, rfl, @WkO.rfl _⟩, ?_⟩ | refine HeapOK.acc rfl rfl ?_)) ⟨rfl, rfl⟩⟩
        refine ⟨fun _ => hok, hrm, ?_, ?_, fun _ => rfl, ?_, ?_⟩
        · show en + _ = _
          rw [hen]
          simp [flatR]
        · have := hlg.app_i (b := b) (z := z) (by omega)
          rw [he0]
          simpa [flatR] using this
        · simpa [flatR] using hF2
        · simp [flatR]
          omega
      · refine ⟨(⟨room, n, en + (sealB (recB n b)).length, L, lc, F2, c2, wt (chA (sealB (recB n b))) (some (w, W)), .own 0 (0 + 1) (X.drop o ++ [fP z b none]) (Y.drop o ++ [.int .i64 en])⟩ : WS), ⟨?_, rfl, rfl, rfl, fun h => by cases h⟩, CallR.leaf (gapp1g0_spec room first en o L lc F c w W X Y n ⟨by omega, by omega⟩ (by omega) (by omega) (by simp [wtN] at hdk; omega) z b cb hB hb ⟨by omega, by omega⟩ hF.ok (by rw [hrm, mB_eq]; omega) (by rw [hF.used, hrm, mB_eq]; simp [flatR] at *; omega) (.inr hF.len) F2 c2 hdo) [(0, 2), (1, 0), (2, 3), (3, 4), (4, 5), (5, 6), (6, 7)] rfl rfl (by repeat' (first | exact True.intro | refine hpC rfl rfl rfl ?_ | refine ⟨⟨_, _, _, rfl, rfl, rfl, @WkO.rfl _⟩, ?_⟩ | refine HeapOK.acc rfl rfl ?_)) rfl rfl (.c (.p (.int .i64 0))) (⟨room, n, en + (sealB (recB n b)).length, L, lc, F2, c2, wt (chA (sealB (recB n b))) (some (w, W)), .own 0 (0 + 1) (X.drop o ++ [fP z b none]) (Y.drop o ++ [.int .i64 en])⟩ : WS) [(0, 0), (1, 1), (2, 2), (3, 3), (4, 4), (5, 8), (6, 9), (7, 10)] rfl rfl Wk.rfl (by repeat' (first | exact True.intro | refine hpC rfl rfl rfl ?_ | refine ⟨⟨_, _, _, rfl, rfl, rfl, @WkO.rfl _⟩, ?_⟩ | refine HeapOK.acc rfl rfl ?_)) ⟨rfl, rfl⟩⟩
        refine ⟨fun _ => hok, hrm, ?_, ?_, fun _ => rfl, ?_, ?_⟩
        · show en + _ = _
          rw [hen]
          simp [flatR]
        · have := hlg.app_g (b := b) (z := z) (by omega)
          rw [he0]
          simpa [flatR] using this
        · simpa [flatR] using hF2
        · simp [flatR]
          omega
    | cons b1 T =>
      have hne : R ≠ [] := by rw [hR]; simp
      obtain ⟨g1, g2, g3⟩ := (hi.ok hne).len
      have hf := hi.first hne
      rw [hR] at g2 g3 hX hXr hYr
      simp at g2 g3 hf hX
      subst hf
      obtain rfl : f2 = first := hff hne
      rw [hR] at hn hok hRl
      have hlR : ((b1 :: T).length : Int) = T.length + 1 := by simp
      have hsl := seal_le (n := n) (b := b) (by omega) (by omega) hb
      have hF := hi.file
      have hrm : room = mB := hi.room
      have hen : en = _ := hi.en
      have hsz := hi.sz
      rw [hR] at hF hen hsz hsz2
      have hff2 := flatR_app (b1 :: T) f2 b
      rw [← hn] at hff2
      obtain ⟨F2, c2, hF2, hdo⟩ := hF.app (base := base) (sealB (recB n b)) (seal_ne (by omega) (by omega) hb) (by omega) (by omega)
      have hlg : LGok f2 (b1 :: T) (.own o (b1 :: T).length X Y) := by have := hi.lg; rw [hR] at this; exact this
      by_cases hl : o + (b1 :: T).length < X.length
      · refine ⟨(⟨room, f2, en + (sealB (recB n b)).length, L, lc, F2, c2, wt (chA (sealB (recB n b))) (some (w, W)), .own o ((b1 :: T).length + 1) (X.set (o + (b1 :: T).length) (fP z b none)) (Y.set (o + (b1 :: T).length) (.int .i64 en))⟩ : WS), ⟨?_, rfl, rfl, rfl, fun h => by cases h⟩, CallR.leaf (gapp1i1_spec room f2 en o (b1 :: T).length L lc F c w W X Y n ⟨by omega, by omega⟩ (by omega) (by omega) (by rw [hXY]; omega) (by simp; omega) (by simp) ⟨by omega, by omega⟩ (by simp [wtN] at hdk; omega) z b cb hB hb ⟨by omega, by omega⟩ hF.ok (by rw [hrm, mB_eq]; omega) (by rw [hF.used, hrm, mB_eq]; omega) (.inr hF.len) F2 c2 hdo) [(0, 2), (1, 0), (2, 3), (3, 4), (4, 5), (5, 6), (6, 7)] rfl rfl (by repeat' (first | exact True.intro | refine hpC rfl rfl rfl ?_ | refine ⟨⟨_, _, _, rfl, rfl, rfl, @WkO.rfl _⟩, ?_⟩ | refine HeapOK.acc rfl rfl ?_)) rfl rfl (.c (.p (.int .i64 0))) (⟨room, f2, en + (sealB (recB n b)).length, L, lc, F2, c2, wt (chA (sealB (recB n b))) (some (w, W)), .own o ((b1 :: T).length + 1) (X.set (o + (b1 :: T).length) (fP z b none)) (Y.set (o + (b1 :: T).length) (.int .i64 en))⟩ : WS) [(0, 0), (1, 1), (2, 2), (3, 3), (4, 4), (5, 8), (6, 6), (7, 7)] rfl rfl Wk.rfl (by repeat' (first | exact True.intro | refine hpC rfl rfl rfl ?_ | refine ⟨⟨_, _, _, rfl, rfl, rfl, @WkO.rfl _⟩, ?_⟩ | refine HeapOK.acc rfl rfl ?_)) ⟨rfl, rfl⟩⟩
        refine ⟨fun _ => hok, hrm, ?_, ?_, fun _ => rfl, ?_, ?_⟩
        · show en + _ = _
          rw [hen, hff2, List.length_append]
          omega
        · have := hlg.app_i (b := b) (z := z) (by omega)
          rw [← hen] at this
          exact this
        · rw [hff2]
          exact hF2
        · rw [hff2, List.length_append]
          omega
      · refine ⟨(⟨room, f2, en + (sealB (recB n b)).length, L, lc, F2, c2, wt (chA (sealB (recB n b))) (some (w, W)), .own 0 ((b1 :: T).length + 1) (X.drop o ++ [fP z b none]) (Y.drop o ++ [.int .i64 en])⟩ : WS), ⟨?_, rfl, rfl, rfl, fun h => by cases h⟩, CallR.leaf (gapp1g1_spec room f2 en o (b1 :: T).length L lc F c w W X Y n ⟨by omega, by omega⟩ (by omega) (by omega) (by rw [hXY]; omega) (by simp; omega) (by simp) ⟨by omega, by omega⟩ (by simp [wtN] at hdk; omega) z b cb hB hb ⟨by omega, by omega⟩ hF.ok (by rw [hrm, mB_eq]; omega) (by rw [hF.used, hrm, mB_eq]; omega) (.inr hF.len) F2 c2 hdo) [(0, 2), (1, 0), (2, 3), (3, 4), (4, 5), (5, 6), (6, 7)] rfl rfl (by repeat' (first | exact True.intro | refine hpC rfl rfl rfl ?_ | refine ⟨⟨_, _, _, rfl, rfl, rfl, @WkO.rfl _⟩, ?_⟩ | refine HeapOK.acc rfl rfl ?_)) rfl rfl (.c (.p (.int .i64 0))) (⟨room, f2, en + (sealB (recB n b)).length, L, lc, F2, c2, wt (chA (sealB (recB n b))) (some (w, W)), .own 0 ((b1 :: T).length + 1) (X.drop o ++ [fP z b none]) (Y.drop o ++ [.int .i64 en])⟩ : WS) [(0, 0), (1, 1), (2, 2), (3, 3), (4, 4), (5, 8), (6, 9), (7, 10)] rfl rfl Wk.rfl (by repeat' (first | exact True.intro | refine hpC rfl rfl rfl ?_ | refine ⟨⟨_, _, _, rfl, rfl, rfl, @WkO.rfl _⟩, ?_⟩ | refine HeapOK.acc rfl rfl ?_)) ⟨rfl, rfl⟩⟩
        refine ⟨fun _ => hok, hrm, ?_, ?_, fun _ => rfl, ?_, ?_⟩
        · show en + _ = _
          rw [hen, hff2, List.length_append]
          omega
        · have := hlg.app_g (b := b) (z := z) (by omega)
          rw [← hen] at this
          exact this
        · rw [hff2]
          exact hF2
        · rw [hff2, List.length_append]
          omega
end Go.Proofs.Ytjlfojgacnphmaa
