/- Texts of this claim, several in one: W14, W16, W9, W20, W21, W22, W23, W24, W25, W26, W27, W29, W30, W28, W31. -/
import Derived.Test.YtjlfojgacnphmaaMgWalAgain14
namespace Go.Proofs.Ytjlfojgacnphmaa
open Go.RowKit Sim Go Sym
set_option maxRecDepth 100000
set_option linter.unusedVariables false
set_option linter.unusedSimpArgs false
variable {base : Nat}
def subY (Y : List PC) (s : Nat) (P : Nat → Nat) (p : Nat) : Nat → List PC
  | 0 => Y
  | i + 1 => (subY Y s P p i).set (s + i) (.int .i64 ((P i : Int) - p))
theorem subY_len (Y : List PC) (s : Nat) (P : Nat → Nat) (p : Nat) : ∀ i, (subY Y s P p i).length = Y.length
  | 0 => rfl
  | i + 1 => by rw [subY, List.length_set, subY_len Y s P p i]
theorem subY_lo (Y : List PC) (s : Nat) (P : Nat → Nat) (p : Nat) : ∀ i j, j < i → s + i ≤ Y.length → (subY Y s P p i)[s + j]? = some (.int .i64 ((P j : Int) - p))
  | i + 1, j, h, hl => by
    by_cases e : j = i
    · subst e; rw [subY, List.getElem?_set_self (by rw [subY_len]; omega)]
    · rw [subY, List.getElem?_set_ne (by omega), subY_lo Y s P p i j (by omega) (by omega)]
end Go.Proofs.Ytjlfojgacnphmaa

namespace Go.Proofs.Ytjlfojgacnphmaa.Sym
open Go Go.RowKit Go.Proofs.Ytjlfojgacnphmaa.Sim
set_option linter.unusedVariables false
section
variable {P : Program} {base n k : Nat} {e : Env} {h : HS} {Q : QX} {K : List Fr}
end
end Go.Proofs.Ytjlfojgacnphmaa.Sym
namespace Go.Proofs.Ytjlfojgacnphmaa
open Go.RowKit Sim Go Sym
set_option maxRecDepth 100000
set_option linter.unusedVariables false
set_option linter.unusedSimpArgs false
variable {base : Nat}
theorem flatR_split : ∀ (R : List (List Int)) (f : Int) (j : Nat), flatR f R = flatR f (R.take j) ++ flatR (f + (min j R.length : Nat)) (R.drop j)
  | R, f, 0 => by simp [flatR]
  | [], f, j + 1 => by simp [flatR]
  | b :: R, f, j + 1 => by
    have := flatR_split R (f + 1) j
    rw [List.take_succ_cons, List.drop_succ_cons, flatR, flatR, this, List.append_assoc, List.length_cons, show f + 1 + ((min j R.length : Nat) : Int) = f + ((min (j + 1) (R.length + 1) : Nat) : Int) by omega]
theorem flatR_take (R : List (List Int)) (f : Int) (j : Nat) : (flatR f R).take (flatR f (R.take j)).length = flatR f (R.take j) := by
  conv => lhs; rw [flatR_split R f j]
  rw [List.take_left' rfl]
theorem flatR_le (R : List (List Int)) (f : Int) (j : Nat) : (flatR f (R.take j)).length ≤ (flatR f R).length := by
  rw [flatR_split R f j, List.length_append]; omega
theorem posR_at : ∀ (R : List (List Int)) (E f : Int) (j : Nat), j < R.length → (posR E f R)[j]? = some (.int .i64 (E + (flatR f (R.take j)).length))
  | b :: R, E, f, 0, _ => by simp [posR, flatR]
  | b :: R, E, f, j + 1, h => by
    rw [posR, List.getElem?_cons_succ, posR_at R _ _ j (by simpa using h), List.take_succ_cons, flatR, List.length_append]
    rw [show E + ((sealB (recB f b)).length : Int) + ((flatR (f + 1) (R.take j)).length : Int) = E + (((sealB (recB f b)).length + (flatR (f + 1) (R.take j)).length : Nat) : Int) by omega]
theorem RecOK.take {f : Int} {R : List (List Int)} (h : RecOK f R) (j : Nat) : RecOK f (R.take j) := ⟨⟨h.f.1, by have := h.f.2; rw [List.length_take]; omega⟩, by have := h.l; rw [List.length_take]; omega, fun b hb => h.b b (List.mem_of_mem_take hb)⟩
theorem RecOK.drop {f : Int} {R : List (List Int)} (h : RecOK f R) (j : Nat) (hj : j ≤ R.length) : RecOK (f + j) (R.drop j) := ⟨⟨by have := h.f.1; omega, by have := h.f.2; rw [List.length_drop]; omega⟩, by have := h.l; rw [List.length_drop]; omega, fun b hb => h.b b (List.mem_of_mem_drop hb)⟩
theorem flatR_pos {f : Int} {b : List Int} {R : List (List Int)} (h : RecOK f (b :: R)) : 0 < (flatR f (b :: R)).length := by
  have h1 := h.b b (by simp)
  have h2 := recB_len (n := f) (b := b) h.f.1 (by have := h.f.2; simp only [List.length_cons] at this; omega) h1.2
  have := seal_len (xs := recB f b) (by omega)
  rw [flatR, List.length_append]; omega
theorem rcsP_at (R : List (List Int)) (j : Nat) (b : List Int) (h : R[j]? = some b) : (rcsP R)[j]? = some (fP false b none) := by rw [rcsP, List.getElem?_map, h]; rfl
theorem rcsP_len (R : List (List Int)) : (rcsP R).length = R.length := by simp [rcsP]
theorem first00_spec (room first en : Int) (L : FS) (lc : Nat) (F : FS) (c : Nat) : CallS Try.prog base 31 [.c (.ptr 0 0)] (hL00 room first en L lc F c) (.c (.p (.int .i64 0))) (hL00 room first en L lc F c) := by
  refine CallS.of noNG lWfi.2 rfl (M.start (M.go rfl ?_))
  refine M.cond rfl (fun _ => ?_) (fun hn => absurd (by simp) hn)
  refine M.go rfl ?_
  exact M.ret (M.go rfl (M.done (finQ.ret [(0, 0), (1, 1), (2, 2), (3, 3)] rfl rfl rfl (by first | exact Wk.rfl | exact Wk.uncap | exact Wk.nil | exact Wk.b1 rfl | exact Wk.t2 Wk.rfl (Wk.b1 rfl)) (by repeat' (first | exact True.intro | refine hpC rfl rfl rfl ?_ | refine ⟨⟨_, _, _, rfl, rfl, rfl, @WkO.rfl _⟩, ?_⟩ | refine HeapOK.acc rfl rfl ?_)))))
theorem get00_spec (room first en : Int) (L : FS) (lc : Nat) (F : FS) (c : Nat) (n : Int) : CallS Try.prog base 26 [.c (.ptr 0 0), .c (.p (.int .i64 n))] (hL00 room first en L lc F c) (.tup [.c (.p (.tz true 0 [] none)), .c (.p (.bool false))]) (hL00 room first en L lc F c) := by
  refine CallS.of noNG lWge.2 rfl (M.start (M.go rfl ?_))
  refine M.use trivial (first00_spec room first en L lc F c) [(0, 0), (1, 1), (2, 2), (3, 3)] rfl rfl rfl (by repeat' (first | exact True.intro | refine hpC rfl rfl rfl ?_ | refine ⟨⟨_, _, _, rfl, rfl, rfl, @WkO.rfl _⟩, ?_⟩ | refine HeapOK.acc rfl rfl ?_)) rfl rfl ?_
  refine M.go rfl ?_
  refine M.dec rfl (fun _ => ?_) (fun hn => absurd (by decide) hn)
  refine M.go rfl ?_
  exact M.ret (M.go rfl (M.done (finQ.ret [(0, 0), (1, 1), (2, 2), (3, 3)] rfl rfl rfl (Wk.of rfl) (by repeat' (first | exact True.intro | refine hpC rfl rfl rfl ?_ | refine ⟨⟨_, _, _, rfl, rfl, rfl, @WkO.rfl _⟩, ?_⟩ | refine HeapOK.acc rfl rfl ?_)))))
theorem first10_spec (room first en : Int) (L : FS) (lc : Nat) (F : FS) (c : Nat) (w : PC) (W : List PC) : CallS Try.prog base 31 [.c (.ptr 0 0)] (hL10 4 room first en L lc F c w W) (.c (.p (.int .i64 0))) (hL10 4 room first en L lc F c w W) := by
  refine CallS.of noNG lWfi.2 rfl (M.start (M.go rfl ?_))
  refine M.cond rfl (fun _ => ?_) (fun hn => absurd (by simp) hn)
  refine M.go rfl ?_
  exact M.ret (M.go rfl (M.done (finQ.ret [(0, 0), (1, 1), (2, 2), (3, 3), (4, 4)] rfl rfl rfl (by first | exact Wk.rfl | exact Wk.uncap | exact Wk.nil | exact Wk.b1 rfl | exact Wk.t2 Wk.rfl (Wk.b1 rfl)) (by repeat' (first | exact True.intro | refine hpC rfl rfl rfl ?_ | refine ⟨⟨_, _, _, rfl, rfl, rfl, @WkO.rfl _⟩, ?_⟩ | refine HeapOK.acc rfl rfl ?_)))))
theorem get10_spec (room first en : Int) (L : FS) (lc : Nat) (F : FS) (c : Nat) (w : PC) (W : List PC) (n : Int) : CallS Try.prog base 26 [.c (.ptr 0 0), .c (.p (.int .i64 n))] (hL10 4 room first en L lc F c w W) (.tup [.c (.p (.tz true 0 [] none)), .c (.p (.bool false))]) (hL10 4 room first en L lc F c w W) := by
  refine CallS.of noNG lWge.2 rfl (M.start (M.go rfl ?_))
  refine M.use trivial (first10_spec room first en L lc F c w W) [(0, 0), (1, 1), (2, 2), (3, 3), (4, 4)] rfl rfl rfl (by repeat' (first | exact True.intro | refine hpC rfl rfl rfl ?_ | refine ⟨⟨_, _, _, rfl, rfl, rfl, @WkO.rfl _⟩, ?_⟩ | refine HeapOK.acc rfl rfl ?_)) rfl rfl ?_
  refine M.go rfl ?_
  refine M.dec rfl (fun _ => ?_) (fun hn => absurd (by decide) hn)
  refine M.go rfl ?_
  exact M.ret (M.go rfl (M.done (finQ.ret [(0, 0), (1, 1), (2, 2), (3, 3), (4, 4)] rfl rfl rfl (Wk.of rfl) (by repeat' (first | exact True.intro | refine hpC rfl rfl rfl ?_ | refine ⟨⟨_, _, _, rfl, rfl, rfl, @WkO.rfl _⟩, ?_⟩ | refine HeapOK.acc rfl rfl ?_)))))
end Go.Proofs.Ytjlfojgacnphmaa

namespace Go.Proofs.Ytjlfojgacnphmaa
open Go.RowKit Sim Go Sym
set_option maxRecDepth 100000
set_option linter.unusedVariables false
set_option linter.unusedSimpArgs false
variable {base : Nat}
def hLs0 (room first en : Int) (F : FS) (c : Nat) : HS := ⟨[(4, some (fM F c)), (3, some (fM F c)), (1, some (.row [.p (.int .i64 room), .mp 4, .mp 3, .p (.tz true 5 [] none)] true)), (0, some (.row [.ptr 1 0, .p (.int .i64 first), .p (.tz true 1 [] none), .p (.tz true 1 [] none), .p (.int .i64 en)] true))], 5⟩
theorem wsync00_spec (room first en : Int) (L : FS) (lc : Nat) (F : FS) (c : Nat) : CallS Try.prog base 22 [.c (.ptr 0 0)] (hL00 room first en L lc F c) (.tup []) (hLs0 room first en F c) := by
  refine CallS.of noNG lWsy.2 rfl (M.start (M.go rfl ?_))
  refine M.use trivial (sync0_spec room L lc F c) [(0, 1), (1, 2), (2, 3)] rfl rfl rfl (by repeat' (first | exact True.intro | refine hpC rfl rfl rfl ?_ | refine ⟨⟨_, _, _, rfl, rfl, rfl, @WkO.rfl _⟩, ?_⟩ | refine HeapOK.acc rfl rfl ?_)) rfl rfl ?_
  refine M.go rfl ?_
  exact M.done (finQ.normal [(0, 0), (1, 1), (2, 2), (3, 3), (4, 4)] rfl rfl rfl Wk.rfl (by repeat' (first | exact True.intro | refine hpC rfl rfl rfl ?_ | refine ⟨⟨_, _, _, rfl, rfl, rfl, @WkO.rfl _⟩, ?_⟩ | refine HeapOK.acc rfl rfl ?_)))
def slS (s n : Nat) : List Int := sealB (recB n (zs s))
end Go.Proofs.Ytjlfojgacnphmaa

namespace Go.Proofs.Ytjlfojgacnphmaa
open Go.RowKit Sim Go Sym
set_option maxRecDepth 100000
set_option linter.unusedVariables false
set_option linter.unusedSimpArgs false
variable {base : Nat}
inductive LG where
  | no
  | nil
  | own (o m : Nat) (X Y : List PC)
structure WS where
  room : Int
  first : Int
  en : Int
  L : FS
  lc : Nat
  F : FS
  c : Nat
  dk : Option (PC × List PC)
  lg : LG
def WS.mem : WS → HS
  | ⟨room, first, en, L, lc, F, c, none, .no⟩ => ⟨[(4, some (fM F c)), (3, some (fM L lc)), (0, some (.row [.p (.int .i64 room), .mp 3, .mp 4, .p (.tz true 5 [] none)] true))], 8⟩
  | ⟨room, first, en, L, lc, F, c, some (w, W), .no⟩ => ⟨[(5, some (.els 5 (w :: W))), (4, some (fM F c)), (3, some (fM L lc)), (0, some (.row [.p (.int .i64 room), .mp 3, .mp 4, .acc 5 5 (w :: W)] true))], 8⟩
  | ⟨room, first, en, L, lc, F, c, none, .nil⟩ => ⟨[(4, some (fM F c)), (3, some (fM L lc)), (2, some (.row [.ptr 0 0, .p (.int .i64 first), .p (.tz true 1 [] none), .p (.tz true 1 [] none), .p (.int .i64 en)] true)), (0, some (.row [.p (.int .i64 room), .mp 3, .mp 4, .p (.tz true 5 [] none)] true))], 8⟩
  | ⟨room, first, en, L, lc, F, c, some (w, W), .nil⟩ => ⟨[(5, some (.els 5 (w :: W))), (4, some (fM F c)), (3, some (fM L lc)), (2, some (.row [.ptr 0 0, .p (.int .i64 first), .p (.tz true 1 [] none), .p (.tz true 1 [] none), .p (.int .i64 en)] true)), (0, some (.row [.p (.int .i64 room), .mp 3, .mp 4, .acc 5 5 (w :: W)] true))], 8⟩
  | ⟨room, first, en, L, lc, F, c, none, .own o m X Y⟩ => ⟨[(7, some (.els 1 Y)), (6, some (.els 1 X)), (4, some (fM F c)), (3, some (fM L lc)), (2, some (.row [.ptr 0 0, .p (.int .i64 first), .sl 6 o m 1 none, .sl 7 o m 1 none, .p (.int .i64 en)] true)), (0, some (.row [.p (.int .i64 room), .mp 3, .mp 4, .p (.tz true 5 [] none)] true))], 8⟩
  | ⟨room, first, en, L, lc, F, c, some (w, W), .own o m X Y⟩ => ⟨[(7, some (.els 1 Y)), (6, some (.els 1 X)), (5, some (.els 5 (w :: W))), (4, some (fM F c)), (3, some (fM L lc)), (2, some (.row [.ptr 0 0, .p (.int .i64 first), .sl 6 o m 1 none, .sl 7 o m 1 none, .p (.int .i64 en)] true)), (0, some (.row [.p (.int .i64 room), .mp 3, .mp 4, .acc 5 5 (w :: W)] true))], 8⟩
def wFam : Fam := ⟨WS, WS.mem, 8, fun b => Nat.beq b 1⟩
theorem wOK : wFam.OK := by
  refine ⟨?_, ?_, ?_⟩
  all_goals rintro ⟨room, first, en, L, lc, F, c, _ | ⟨w, W⟩, _ | _ | ⟨o, m, X, Y⟩⟩
  all_goals first
    | rfl
    | (repeat' (first | exact True.intro | refine ⟨⟨rfl, rfl⟩, ?_⟩))
abbrev CW (base : Nat) := CallR Try.prog base wFam 3
def wt (p : PC) : Option (PC × List PC) → Option (PC × List PC)
  | none => some (p, [])
  | some (w, W) => some (w, W ++ [p])
def wtN : Option (PC × List PC) → Nat
  | none => 0
  | some (_, W) => W.length + 1
def LGok (f : Int) (R : List (List Int)) : LG → Prop
  | .no => False
  | .nil => R = []
  | .own o m X Y => m = R.length ∧ o + m ≤ X.length ∧ Y.length = X.length ∧ (∀ j b, R[j]? = some b → ∃ z, X[o + j]? = some (fP z b none)) ∧ (∀ j, j < m → Y[o + j]? = some (.int .i64 ((flatR f (R.take j)).length : Nat)))
def Fok (B : List Int) (F : FS) (c : Nat) : Prop := (B = [] ∧ F = [] ∧ c = 0) ∨ ((∃ z cp, F = f1 [119] (fP z B cp)) ∧ 1 ≤ c)
structure WInv (s : WS) (f : Int) (R : List (List Int)) : Prop where
  ok : R ≠ [] → RecOK f R
  room : s.room = mB
  en : s.en = ((flatR f R).length : Nat)
  lg : LGok f R s.lg
  first : R ≠ [] → s.first = f
  file : Fok (flatR f R) s.F s.c
  sz : (flatR f R).length ≤ 400000
def lastI (f : Int) (R : List (List Int)) : Int := if R = [] then 0 else f + R.length - 1
theorem lastI_ne {f : Int} {R : List (List Int)} (h : R ≠ []) : lastI f R = f + R.length - 1 := if_neg h
theorem RecOK.len {f : Int} {R : List (List Int)} (h : RecOK f R) : 1 ≤ f ∧ f + R.length ≤ 1200000000000000 ∧ R.length ≤ 10000 := ⟨h.f.1, h.f.2, h.l⟩
theorem W_last {s : WS} {f : Int} {R : List (List Int)} (hi : WInv s f R) : CW base 24 [.c (.ptr 2 0)] s (fun r s' => r = .c (.p (.int .i64 (lastI f R))) ∧ s' = s) := by
  obtain ⟨room, first, en, L, lc, F, c, _ | ⟨w, W⟩, _ | _ | ⟨o, m, X, Y⟩⟩ := s
  · exact hi.lg.elim
  · obtain rfl : R = [] := hi.lg
    exact CallR.leaf (last00_spec room first en L lc F c) [(0, 2), (1, 0), (2, 3), (3, 4)] rfl rfl (by repeat' (first | exact True.intro | refine hpC rfl rfl rfl ?_ | refine ⟨⟨_, _, _, rfl, rfl, rfl, @WkO.rfl _⟩, ?_⟩ | refine HeapOK.acc rfl rfl ?_)) rfl rfl (_) (_) [(0, 0), (1, 1), (2, 2), (3, 3), (4, 4), (5, 5), (6, 6), (7, 7)] rfl rfl Wk.rfl (by repeat' (first | exact True.intro | refine hpC rfl rfl rfl ?_ | refine ⟨⟨_, _, _, rfl, rfl, rfl, @WkO.rfl _⟩, ?_⟩ | refine HeapOK.acc rfl rfl ?_)) ⟨rfl, rfl⟩
  · have h := hi.lg
    obtain ⟨rfl, hX, hXY, hXr, hYr⟩ := h
    cases hR : R with
    | nil =>
      subst hR
      exact CallR.leaf (glast0_0 room first en o L lc F c X Y) [(0, 2), (1, 0), (2, 3), (3, 4), (4, 6), (5, 7)] rfl rfl (by repeat' (first | exact True.intro | refine hpC rfl rfl rfl ?_ | refine ⟨⟨_, _, _, rfl, rfl, rfl, @WkO.rfl _⟩, ?_⟩ | refine HeapOK.acc rfl rfl ?_)) rfl rfl (_) (_) [(0, 0), (1, 1), (2, 2), (3, 3), (4, 4), (5, 5), (6, 6), (7, 7)] rfl rfl Wk.rfl (by repeat' (first | exact True.intro | refine hpC rfl rfl rfl ?_ | refine ⟨⟨_, _, _, rfl, rfl, rfl, @WkO.rfl _⟩, ?_⟩ | refine HeapOK.acc rfl rfl ?_)) ⟨rfl, rfl⟩
    | cons b T =>
      have hne : R ≠ [] := by rw [hR]; simp
      obtain ⟨g1, g2, g3⟩ := (hi.ok hne).len
      have hf := hi.first hne
      rw [hR] at g2 g3 hX hXr hYr
      simp at g2 g3 hf hX
      subst hf
      refine CallR.leaf (glast0_1 room first en o T.length L lc F c X Y (by omega) ⟨by omega, by omega⟩) [(0, 2), (1, 0), (2, 3), (3, 4), (4, 6), (5, 7)] rfl rfl (by repeat' (first | exact True.intro | refine hpC rfl rfl rfl ?_ | refine ⟨⟨_, _, _, rfl, rfl, rfl, @WkO.rfl _⟩, ?_⟩ | refine HeapOK.acc rfl rfl ?_)) rfl rfl (.c (.p (.int .i64 (first + (T.length : Nat))))) (_) [(0, 0), (1, 1), (2, 2), (3, 3), (4, 4), (5, 5), (6, 6), (7, 7)] rfl rfl Wk.rfl (by repeat' (first | exact True.intro | refine hpC rfl rfl rfl ?_ | refine ⟨⟨_, _, _, rfl, rfl, rfl, @WkO.rfl _⟩, ?_⟩ | refine HeapOK.acc rfl rfl ?_)) ⟨?_, rfl⟩
      rw [lastI_ne (by simp)]
      simp
      omega
  · exact hi.lg.elim
  · obtain rfl : R = [] := hi.lg
    exact CallR.leaf (last10_spec room first en L lc F c w W) [(0, 2), (1, 0), (2, 3), (3, 4), (4, 5)] rfl rfl (by repeat' (first | exact True.intro | refine hpC rfl rfl rfl ?_ | refine ⟨⟨_, _, _, rfl, rfl, rfl, @WkO.rfl _⟩, ?_⟩ | refine HeapOK.acc rfl rfl ?_)) rfl rfl (_) (_) [(0, 0), (1, 1), (2, 2), (3, 3), (4, 4), (5, 5), (6, 6), (7, 7)] rfl rfl Wk.rfl (by repeat' (first | exact True.intro | refine hpC rfl rfl rfl ?_ | refine ⟨⟨_, _, _, rfl, rfl, rfl, @WkO.rfl _⟩, ?_⟩ | refine HeapOK.acc rfl rfl ?_)) ⟨rfl, rfl⟩
  · have h := hi.lg
    obtain ⟨rfl, hX, hXY, hXr, hYr⟩ := h
    cases hR : R with
    | nil =>
      subst hR
      exact CallR.leaf (glast1_0 room first en o L lc F c w W X Y) [(0, 2), (1, 0), (2, 3), (3, 4), (4, 5), (5, 6), (6, 7)] rfl rfl (by repeat' (first | exact True.intro | refine hpC rfl rfl rfl ?_ | refine ⟨⟨_, _, _, rfl, rfl, rfl, @WkO.rfl _⟩, ?_⟩ | refine HeapOK.acc rfl rfl ?_)) rfl rfl (_) (_) [(0, 0), (1, 1), (2, 2), (3, 3), (4, 4), (5, 5), (6, 6), (7, 7)] rfl rfl Wk.rfl (by repeat' (first | exact True.intro | refine hpC rfl rfl rfl ?_ | refine ⟨⟨_, _, _, rfl, rfl, rfl, @WkO.rfl _⟩, ?_⟩ | refine HeapOK.acc rfl rfl ?_)) ⟨rfl, rfl⟩
    | cons b T =>
      have hne : R ≠ [] := by rw [hR]; simp
      obtain ⟨g1, g2, g3⟩ := (hi.ok hne).len
      have hf := hi.first hne
      rw [hR] at g2 g3 hX hXr hYr
      simp at g2 g3 hf hX
      subst hf
      refine CallR.leaf (glast1_1 room first en o T.length L lc F c w W X Y (by omega) ⟨by omega, by omega⟩) [(0, 2), (1, 0), (2, 3), (3, 4), (4, 5), (5, 6), (6, 7)] rfl rfl (by repeat' (first | exact True.intro | refine hpC rfl rfl rfl ?_ | refine ⟨⟨_, _, _, rfl, rfl, rfl, @WkO.rfl _⟩, ?_⟩ | refine HeapOK.acc rfl rfl ?_)) rfl rfl (.c (.p (.int .i64 (first + (T.length : Nat))))) (_) [(0, 0), (1, 1), (2, 2), (3, 3), (4, 4), (5, 5), (6, 6), (7, 7)] rfl rfl Wk.rfl (by repeat' (first | exact True.intro | refine hpC rfl rfl rfl ?_ | refine ⟨⟨_, _, _, rfl, rfl, rfl, @WkO.rfl _⟩, ?_⟩ | refine HeapOK.acc rfl rfl ?_)) ⟨?_, rfl⟩
      rw [lastI_ne (by simp)]
      simp
      omega
theorem W_getn {s : WS} {f : Int} {R : List (List Int)} (hi : WInv s f R) (n : Int) (hn : R ≠ [] → n < f ∨ f + R.length ≤ n) : CW base 26 [.c (.ptr 2 0), .c (.p (.int .i64 n))] s (fun r s' => r = .tup [.c (.p (.tz true 0 [] none)), .c (.p (.bool false))] ∧ s' = s) := by
  obtain ⟨room, first, en, L, lc, F, c, _ | ⟨w, W⟩, _ | _ | ⟨o, m, X, Y⟩⟩ := s
  · exact hi.lg.elim
  · obtain rfl : R = [] := hi.lg
    exact CallR.leaf (get00_spec room first en L lc F c n) [(0, 2), (1, 0), (2, 3), (3, 4)] rfl rfl (by repeat' (first | exact True.intro | refine hpC rfl rfl rfl ?_ | refine ⟨⟨_, _, _, rfl, rfl, rfl, @WkO.rfl _⟩, ?_⟩ | refine HeapOK.acc rfl rfl ?_)) rfl rfl (_) (_) [(0, 0), (1, 1), (2, 2), (3, 3), (4, 4), (5, 5), (6, 6), (7, 7)] rfl rfl Wk.rfl (by repeat' (first | exact True.intro | refine hpC rfl rfl rfl ?_ | refine ⟨⟨_, _, _, rfl, rfl, rfl, @WkO.rfl _⟩, ?_⟩ | refine HeapOK.acc rfl rfl ?_)) ⟨rfl, rfl⟩
  · have h := hi.lg
    obtain ⟨rfl, hX, hXY, hXr, hYr⟩ := h
    cases hR : R with
    | nil =>
      subst hR
      exact CallR.leaf (gget0_0 room first en o L lc F c X Y n) [(0, 2), (1, 0), (2, 3), (3, 4), (4, 6), (5, 7)] rfl rfl (by repeat' (first | exact True.intro | refine hpC rfl rfl rfl ?_ | refine ⟨⟨_, _, _, rfl, rfl, rfl, @WkO.rfl _⟩, ?_⟩ | refine HeapOK.acc rfl rfl ?_)) rfl rfl (_) (_) [(0, 0), (1, 1), (2, 2), (3, 3), (4, 4), (5, 5), (6, 6), (7, 7)] rfl rfl Wk.rfl (by repeat' (first | exact True.intro | refine hpC rfl rfl rfl ?_ | refine ⟨⟨_, _, _, rfl, rfl, rfl, @WkO.rfl _⟩, ?_⟩ | refine HeapOK.acc rfl rfl ?_)) ⟨rfl, rfl⟩
    | cons b T =>
      have hne : R ≠ [] := by rw [hR]; simp
      obtain ⟨g1, g2, g3⟩ := (hi.ok hne).len
      have hf := hi.first hne
      rw [hR] at g2 g3 hX hXr hYr
      simp at g2 g3 hf hX
      subst hf
      have hn := hn (by first | exact hne | simp)
      try rw [hR] at hn
      simp at hn
      exact CallR.leaf (gget0_n room first en o T.length L lc F c X Y (by omega) ⟨by omega, by omega⟩ n (by omega)) [(0, 2), (1, 0), (2, 3), (3, 4), (4, 6), (5, 7)] rfl rfl (by repeat' (first | exact True.intro | refine hpC rfl rfl rfl ?_ | refine ⟨⟨_, _, _, rfl, rfl, rfl, @WkO.rfl _⟩, ?_⟩ | refine HeapOK.acc rfl rfl ?_)) rfl rfl (_) (_) [(0, 0), (1, 1), (2, 2), (3, 3), (4, 4), (5, 5), (6, 6), (7, 7)] rfl rfl Wk.rfl (by repeat' (first | exact True.intro | refine hpC rfl rfl rfl ?_ | refine ⟨⟨_, _, _, rfl, rfl, rfl, @WkO.rfl _⟩, ?_⟩ | refine HeapOK.acc rfl rfl ?_)) ⟨rfl, rfl⟩
  · exact hi.lg.elim
  · obtain rfl : R = [] := hi.lg
    exact CallR.leaf (get10_spec room first en L lc F c w W n) [(0, 2), (1, 0), (2, 3), (3, 4), (4, 5)] rfl rfl (by repeat' (first | exact True.intro | refine hpC rfl rfl rfl ?_ | refine ⟨⟨_, _, _, rfl, rfl, rfl, @WkO.rfl _⟩, ?_⟩ | refine HeapOK.acc rfl rfl ?_)) rfl rfl (_) (_) [(0, 0), (1, 1), (2, 2), (3, 3), (4, 4), (5, 5), (6, 6), (7, 7)] rfl rfl Wk.rfl (by repeat' (first | exact True.intro | refine hpC rfl rfl rfl ?_ | refine ⟨⟨_, _, _, rfl, rfl, rfl, @WkO.rfl _⟩, ?_⟩ | refine HeapOK.acc rfl rfl ?_)) ⟨rfl, rfl⟩
  · have h := hi.lg
    obtain ⟨rfl, hX, hXY, hXr, hYr⟩ := h
    cases hR : R with
    | nil =>
      subst hR
      exact CallR.leaf (gget1_0 room first en o L lc F c w W X Y n) [(0, 2), (1, 0), (2, 3), (3, 4), (4, 5), (5, 6), (6, 7)] rfl rfl (by repeat' (first | exact True.intro | refine hpC rfl rfl rfl ?_ | refine ⟨⟨_, _, _, rfl, rfl, rfl, @WkO.rfl _⟩, ?_⟩ | refine HeapOK.acc rfl rfl ?_)) rfl rfl (_) (_) [(0, 0), (1, 1), (2, 2), (3, 3), (4, 4), (5, 5), (6, 6), (7, 7)] rfl rfl Wk.rfl (by repeat' (first | exact True.intro | refine hpC rfl rfl rfl ?_ | refine ⟨⟨_, _, _, rfl, rfl, rfl, @WkO.rfl _⟩, ?_⟩ | refine HeapOK.acc rfl rfl ?_)) ⟨rfl, rfl⟩
    | cons b T =>
      have hne : R ≠ [] := by rw [hR]; simp
      obtain ⟨g1, g2, g3⟩ := (hi.ok hne).len
      have hf := hi.first hne
      rw [hR] at g2 g3 hX hXr hYr
      simp at g2 g3 hf hX
      subst hf
      have hn := hn (by first | exact hne | simp)
      try rw [hR] at hn
      simp at hn
      exact CallR.leaf (gget1_n room first en o T.length L lc F c w W X Y (by omega) ⟨by omega, by omega⟩ n (by omega)) [(0, 2), (1, 0), (2, 3), (3, 4), (4, 5), (5, 6), (6, 7)] rfl rfl (by repeat' (first | exact True.intro | refine hpC rfl rfl rfl ?_ | refine ⟨⟨_, _, _, rfl, rfl, rfl, @WkO.rfl _⟩, ?_⟩ | refine HeapOK.acc rfl rfl ?_)) rfl rfl (_) (_) [(0, 0), (1, 1), (2, 2), (3, 3), (4, 4), (5, 5), (6, 6), (7, 7)] rfl rfl Wk.rfl (by repeat' (first | exact True.intro | refine hpC rfl rfl rfl ?_ | refine ⟨⟨_, _, _, rfl, rfl, rfl, @WkO.rfl _⟩, ?_⟩ | refine HeapOK.acc rfl rfl ?_)) ⟨rfl, rfl⟩
theorem W_gety {s : WS} {f : Int} {R : List (List Int)} (hi : WInv s f R) (j : Nat) (x : List Int) (hj : R[j]? = some x) (hxl : x.length ≤ 1000000000) : CW base 26 [.c (.ptr 2 0), .c (.p (.int .i64 (f + j)))] s (fun r s' => (∃ z, r = .tup [.c (.p (fP z x none)), .c (.p (.bool true))]) ∧ s' = s) := by
  obtain ⟨room, first, en, L, lc, F, c, _ | ⟨w, W⟩, _ | _ | ⟨o, m, X, Y⟩⟩ := s
  · exact hi.lg.elim
  · obtain rfl : R = [] := hi.lg
    simp at hj
  · have h := hi.lg
    obtain ⟨rfl, hX, hXY, hXr, hYr⟩ := h
    cases hR : R with
    | nil =>
      subst hR
      simp at hj
    | cons b T =>
      have hne : R ≠ [] := by rw [hR]; simp
      obtain ⟨g1, g2, g3⟩ := (hi.ok hne).len
      have hf := hi.first hne
      rw [hR] at g2 g3 hX hXr hYr
      simp at g2 g3 hf hX
      subst hf
      obtain ⟨z, hz⟩ := hXr j x (by rw [← hR]; exact hj)
      have hjl := (List.getElem?_eq_some_iff.1 hj).1
      rw [hR] at hjl
      simp at hjl
      exact CallR.leaf (gget0_y room first en o T.length L lc F c X Y (by omega) ⟨by omega, by omega⟩ j (by omega) (first + j) rfl z x none hz hxl) [(0, 2), (1, 0), (2, 3), (3, 4), (4, 6), (5, 7)] rfl rfl (by repeat' (first | exact True.intro | refine hpC rfl rfl rfl ?_ | refine ⟨⟨_, _, _, rfl, rfl, rfl, @WkO.rfl _⟩, ?_⟩ | refine HeapOK.acc rfl rfl ?_)) rfl rfl (.tup [.c (.p (fP z x none)), .c (.p (.bool true))]) (_) [(0, 0), (1, 1), (2, 2), (3, 3), (4, 4), (5, 5), (6, 6), (7, 7)] rfl rfl Wk.rfl (by repeat' (first | exact True.intro | refine hpC rfl rfl rfl ?_ | refine ⟨⟨_, _, _, rfl, rfl, rfl, @WkO.rfl _⟩, ?_⟩ | refine HeapOK.acc rfl rfl ?_)) ⟨⟨z, rfl⟩, rfl⟩
  · exact hi.lg.elim
  · obtain rfl : R = [] := hi.lg
    simp at hj
  · have h := hi.lg
    obtain ⟨rfl, hX, hXY, hXr, hYr⟩ := h
    cases hR : R with
    | nil =>
      subst hR
      simp at hj
    | cons b T =>
      have hne : R ≠ [] := by rw [hR]; simp
      obtain ⟨g1, g2, g3⟩ := (hi.ok hne).len
      have hf := hi.first hne
      rw [hR] at g2 g3 hX hXr hYr
      simp at g2 g3 hf hX
      subst hf
      obtain ⟨z, hz⟩ := hXr j x (by rw [← hR]; exact hj)
      have hjl := (List.getElem?_eq_some_iff.1 hj).1
      rw [hR] at hjl
      simp at hjl
      exact CallR.leaf (gget1_y room first en o T.length L lc F c w W X Y (by omega) ⟨by omega, by omega⟩ j (by omega) (first + j) rfl z x none hz hxl) [(0, 2), (1, 0), (2, 3), (3, 4), (4, 5), (5, 6), (6, 7)] rfl rfl (by repeat' (first | exact True.intro | refine hpC rfl rfl rfl ?_ | refine ⟨⟨_, _, _, rfl, rfl, rfl, @WkO.rfl _⟩, ?_⟩ | refine HeapOK.acc rfl rfl ?_)) rfl rfl (.tup [.c (.p (fP z x none)), .c (.p (.bool true))]) (_) [(0, 0), (1, 1), (2, 2), (3, 3), (4, 4), (5, 5), (6, 6), (7, 7)] rfl rfl Wk.rfl (by repeat' (first | exact True.intro | refine hpC rfl rfl rfl ?_ | refine ⟨⟨_, _, _, rfl, rfl, rfl, @WkO.rfl _⟩, ?_⟩ | refine HeapOK.acc rfl rfl ?_)) ⟨⟨z, rfl⟩, rfl⟩
end Go.Proofs.Ytjlfojgacnphmaa

namespace Go.Proofs.Ytjlfojgacnphmaa
open Go.RowKit Sim Go Sym
set_option maxRecDepth 100000
set_option linter.unusedVariables false
set_option linter.unusedSimpArgs false
variable {base : Nat}
theorem W_append_e1 (s : WS) (n : Int) (z : Bool) (b : List Int) (cb : Option Nat) (hn : n < 1) : CW base 21 [.c (.ptr 2 0), .c (.p (.int .i64 n)), .c (.p (.tz z 1 (u8P b) cb))] s (fun r s' => r = .c (.p (.int .i64 1)) ∧ s' = s) := by
  refine CallR.of wOK noNG lWap.2 rfl (M.start (M.go rfl ?_))
  refine M.dec rfl (fun _ => ?_) (fun hh => absurd hn hh)
  refine M.go rfl ?_
  exact M.ret (M.go rfl (M.done (finR.ret wOK (.c (.p (.int .i64 1))) s [(0, 0), (1, 1), (2, 2), (3, 3), (4, 4), (5, 5), (6, 6), (7, 7)] rfl rfl rfl Wk.rfl (by repeat' (first | exact True.intro | refine hpC rfl rfl rfl ?_ | refine HeapOK.acc rfl rfl ?_ | refine HeapOK.es rfl rfl ?_ | exact HeapOK.fam wOK (by repeat' (first | exact Tl.here | refine Tl.cons rfl ?_)) rfl)) ⟨rfl, rfl⟩)))
theorem W_from_e1 (s : WS) (n : Int) (hn : n < 1) : CW base 25 [.c (.ptr 2 0), .c (.p (.int .i64 n))] s (fun r s' => r = .c (.p (.int .i64 1)) ∧ s' = s) := by
  refine CallR.of wOK noNG lWfr.2 rfl (M.start (M.go rfl ?_))
  refine M.cond rfl (fun _ => ?_) (fun hh => absurd hn hh)
  refine M.go rfl ?_
  exact M.ret (M.go rfl (M.done (finR.ret wOK (.c (.p (.int .i64 1))) s [(0, 0), (1, 1), (2, 2), (3, 3), (4, 4), (5, 5), (6, 6), (7, 7)] rfl rfl rfl Wk.rfl (by repeat' (first | exact True.intro | refine hpC rfl rfl rfl ?_ | refine HeapOK.acc rfl rfl ?_ | refine HeapOK.es rfl rfl ?_ | exact HeapOK.fam wOK (by repeat' (first | exact Tl.here | refine Tl.cons rfl ?_)) rfl)) ⟨rfl, rfl⟩)))
theorem W_append_e2 {s : WS} {f : Int} {R : List (List Int)} (hi : WInv s f R) (n : Int) (z : Bool) (bb : List Int) (cb : Option Nat) (hn1 : 1 ≤ n) (hne0 : R ≠ []) (hn : n ≠ f + R.length) : CW base 21 [.c (.ptr 2 0), .c (.p (.int .i64 n)), .c (.p (.tz z 1 (u8P bb) cb))] s (fun r s' => r = .c (.p (.int .i64 1)) ∧ s' = s) := by
  obtain ⟨room, first, en, L, lc, F, c, _ | ⟨w, W⟩, _ | _ | ⟨o, m, X, Y⟩⟩ := s
  · exact hi.lg.elim
  · obtain rfl : R = [] := hi.lg
    exact absurd rfl hne0
  · have h := hi.lg
    obtain ⟨rfl, hX, hXY, hXr, hYr⟩ := h
    cases hR : R with
    | nil =>
      subst hR
      exact absurd rfl hne0
    | cons b T =>
      have hne : R ≠ [] := by rw [hR]; simp
      obtain ⟨g1, g2, g3⟩ := (hi.ok hne).len
      have hf := hi.first hne
      rw [hR] at g2 g3 hX hXr hYr
      simp at g2 g3 hf hX
      subst hf
      rw [hR] at hn
      have hi2 := hi
      rw [hR] at hi2
      refine CallR.of wOK noNG lWap.2 rfl (M.start (M.go rfl ?_))
      refine M.dec rfl (fun hh => absurd hh (by omega)) (fun _ => ?_)
      refine M.go rfl ?_
      refine M.dec rfl (fun _ => ?_) (fun hh => absurd (by first | (simp; done) | (simp; omega)) hh)
      refine M.go rfl ?_
      refine M.useR (s := (⟨room, first, en, L, lc, F, c, none, .own o (b :: T).length X Y⟩ : WS)) wOK [] [(0, .c (.ptr 2 0)), (1, .c (.p (.int .i64 n))), (6, .c (.p (.int .i64 0))), (16, .c (.p (.bool false))), (23, .c (.p (.bool true))), (24, .c (.p (.int .i64 n)))] rfl (W_last hi2) rfl trivial rfl rfl rfl rfl (fun r s' h => by rw [h.1]; rfl) (by repeat' (first | exact True.intro | refine evC rfl rfl Wk.rfl ?_ | refine evC (accV_ren rfl) rfl Wk.rfl ?_ | refine evC (accV_ren rfl) rfl Wk.acc0 ?_ | refine evC rfl rfl Wk.uncap ?_ | refine evC rfl rfl Wk.nil ?_)) (fun r s' h => ?_)
      obtain ⟨rfl, rfl⟩ := h
      refine M.go rfl ?_
      rw [lastI_ne (by simp), wr64 (n := first + ((b :: T).length : Nat) - 1 + 1) (by simp; omega) (by simp; omega)]
      refine M.condN rfl (fun _ => ?_) (fun hh => absurd hh (by simp at hn ⊢; omega))
      refine M.go rfl ?_
      exact M.ret (M.go rfl (M.done (finR.ret wOK (.c (.p (.int .i64 1))) (⟨room, first, en, L, lc, F, c, none, .own o (b :: T).length X Y⟩ : WS) [(0, 0), (1, 1), (2, 2), (3, 3), (4, 4), (5, 5), (6, 6), (7, 7)] rfl rfl rfl Wk.rfl (by repeat' (first | exact True.intro | refine hpC rfl rfl rfl ?_ | refine ⟨⟨_, _, _, rfl, rfl, rfl, @WkO.rfl _⟩, ?_⟩ | refine HeapOK.acc rfl rfl ?_)) ⟨rfl, rfl⟩)))
  · exact hi.lg.elim
  · obtain rfl : R = [] := hi.lg
    exact absurd rfl hne0
  · have h := hi.lg
    obtain ⟨rfl, hX, hXY, hXr, hYr⟩ := h
    cases hR : R with
    | nil =>
      subst hR
      exact absurd rfl hne0
    | cons b T =>
      have hne : R ≠ [] := by rw [hR]; simp
      obtain ⟨g1, g2, g3⟩ := (hi.ok hne).len
      have hf := hi.first hne
      rw [hR] at g2 g3 hX hXr hYr
      simp at g2 g3 hf hX
      subst hf
      rw [hR] at hn
      have hi2 := hi
      rw [hR] at hi2
      refine CallR.of wOK noNG lWap.2 rfl (M.start (M.go rfl ?_))
      refine M.dec rfl (fun hh => absurd hh (by omega)) (fun _ => ?_)
      refine M.go rfl ?_
      refine M.dec rfl (fun _ => ?_) (fun hh => absurd (by first | (simp; done) | (simp; omega)) hh)
      refine M.go rfl ?_
      refine M.useR (s := (⟨room, first, en, L, lc, F, c, some (w, W), .own o (b :: T).length X Y⟩ : WS)) wOK [] [(0, .c (.ptr 2 0)), (1, .c (.p (.int .i64 n))), (6, .c (.p (.int .i64 0))), (16, .c (.p (.bool false))), (23, .c (.p (.bool true))), (24, .c (.p (.int .i64 n)))] rfl (W_last hi2) rfl trivial rfl rfl rfl rfl (fun r s' h => by rw [h.1]; rfl) (by repeat' (first | exact True.intro | refine evC rfl rfl Wk.rfl ?_ | refine evC (accV_ren rfl) rfl Wk.rfl ?_ | refine evC (accV_ren rfl) rfl Wk.acc0 ?_ | refine evC rfl rfl Wk.uncap ?_ | refine evC rfl rfl Wk.nil ?_)) (fun r s' h => ?_)
      obtain ⟨rfl, rfl⟩ := h
      refine M.go rfl ?_
      rw [lastI_ne (by simp), wr64 (n := first + ((b :: T).length : Nat) - 1 + 1) (by simp; omega) (by simp; omega)]
      refine M.condN rfl (fun _ => ?_) (fun hh => absurd hh (by simp at hn ⊢; omega))
      refine M.go rfl ?_
      exact M.ret (M.go rfl (M.done (finR.ret wOK (.c (.p (.int .i64 1))) (⟨room, first, en, L, lc, F, c, some (w, W), .own o (b :: T).length X Y⟩ : WS) [(0, 0), (1, 1), (2, 2), (3, 3), (4, 4), (5, 5), (6, 6), (7, 7)] rfl rfl rfl Wk.rfl (by repeat' (first | exact True.intro | refine hpC rfl rfl rfl ?_ | refine ⟨⟨_, _, _, rfl, rfl, rfl, @WkO.rfl _⟩, ?_⟩ | refine HeapOK.acc rfl rfl ?_)) ⟨rfl, rfl⟩)))
theorem W_from_n {s : WS} {f : Int} {R : List (List Int)} (hi : WInv s f R) (n : Int) (hn1 : 1 ≤ n) (hn : R ≠ [] → f + R.length ≤ n) : CW base 25 [.c (.ptr 2 0), .c (.p (.int .i64 n))] s (fun r s' => r = .c (.p (.int .i64 0)) ∧ s' = s) := by
  obtain ⟨room, first, en, L, lc, F, c, _ | ⟨w, W⟩, _ | _ | ⟨o, m, X, Y⟩⟩ := s
  · exact hi.lg.elim
  · obtain rfl : R = [] := hi.lg
    refine CallR.of wOK noNG lWfr.2 rfl (M.start (M.go rfl ?_))
    refine M.cond rfl (fun hh => absurd hh (by omega)) (fun _ => ?_)
    refine M.go rfl ?_
    refine M.dec rfl (fun _ => ?_) (fun hh => absurd (by simp) hh)
    refine M.go rfl ?_
    exact M.ret (M.go rfl (M.done (finR.ret wOK (.c (.p (.int .i64 0))) (⟨room, first, en, L, lc, F, c, none, .nil⟩ : WS) [(0, 0), (1, 1), (2, 2), (3, 3), (4, 4), (5, 5), (6, 6), (7, 7)] rfl rfl rfl Wk.rfl (by repeat' (first | exact True.intro | refine hpC rfl rfl rfl ?_ | refine ⟨⟨_, _, _, rfl, rfl, rfl, @WkO.rfl _⟩, ?_⟩ | refine HeapOK.acc rfl rfl ?_)) ⟨rfl, rfl⟩)))
  · have h := hi.lg
    obtain ⟨rfl, hX, hXY, hXr, hYr⟩ := h
    cases hR : R with
    | nil =>
      subst hR
      exact CallR.leaf (gfrom0_0 room first en o L lc F c X Y n hn1) [(0, 2), (1, 0), (2, 3), (3, 4), (4, 6), (5, 7)] rfl rfl (by repeat' (first | exact True.intro | refine hpC rfl rfl rfl ?_ | refine ⟨⟨_, _, _, rfl, rfl, rfl, @WkO.rfl _⟩, ?_⟩ | refine HeapOK.acc rfl rfl ?_)) rfl rfl (_) (_) [(0, 0), (1, 1), (2, 2), (3, 3), (4, 4), (5, 5), (6, 6), (7, 7)] rfl rfl Wk.rfl (by repeat' (first | exact True.intro | refine hpC rfl rfl rfl ?_ | refine ⟨⟨_, _, _, rfl, rfl, rfl, @WkO.rfl _⟩, ?_⟩ | refine HeapOK.acc rfl rfl ?_)) ⟨rfl, rfl⟩
    | cons b T =>
      have hne : R ≠ [] := by rw [hR]; simp
      obtain ⟨g1, g2, g3⟩ := (hi.ok hne).len
      have hf := hi.first hne
      rw [hR] at g2 g3 hX hXr hYr
      simp at g2 g3 hf hX
      subst hf
      have hn := hn hne
      rw [hR] at hn
      have hi2 := hi
      rw [hR] at hi2
      simp at hn
      exact CallR.leaf (gfrom0_n room first en o T.length L lc F c X Y n hn1 (by omega) ⟨by omega, by omega⟩ (by omega)) [(0, 2), (1, 0), (2, 3), (3, 4), (4, 6), (5, 7)] rfl rfl (by repeat' (first | exact True.intro | refine hpC rfl rfl rfl ?_ | refine ⟨⟨_, _, _, rfl, rfl, rfl, @WkO.rfl _⟩, ?_⟩ | refine HeapOK.acc rfl rfl ?_)) rfl rfl (_) (_) [(0, 0), (1, 1), (2, 2), (3, 3), (4, 4), (5, 5), (6, 6), (7, 7)] rfl rfl Wk.rfl (by repeat' (first | exact True.intro | refine hpC rfl rfl rfl ?_ | refine ⟨⟨_, _, _, rfl, rfl, rfl, @WkO.rfl _⟩, ?_⟩ | refine HeapOK.acc rfl rfl ?_)) ⟨rfl, rfl⟩
  · exact hi.lg.elim
  · obtain rfl : R = [] := hi.lg
    refine CallR.of wOK noNG lWfr.2 rfl (M.start (M.go rfl ?_))
    refine M.cond rfl (fun hh => absurd hh (by omega)) (fun _ => ?_)
    refine M.go rfl ?_
    refine M.dec rfl (fun _ => ?_) (fun hh => absurd (by simp) hh)
    refine M.go rfl ?_
    exact M.ret (M.go rfl (M.done (finR.ret wOK (.c (.p (.int .i64 0))) (⟨room, first, en, L, lc, F, c, some (w, W), .nil⟩ : WS) [(0, 0), (1, 1), (2, 2), (3, 3), (4, 4), (5, 5), (6, 6), (7, 7)] rfl rfl rfl Wk.rfl (by repeat' (first | exact True.intro | refine hpC rfl rfl rfl ?_ | refine ⟨⟨_, _, _, rfl, rfl, rfl, @WkO.rfl _⟩, ?_⟩ | refine HeapOK.acc rfl rfl ?_)) ⟨rfl, rfl⟩)))
  · have h := hi.lg
    obtain ⟨rfl, hX, hXY, hXr, hYr⟩ := h
    cases hR : R with
    | nil =>
      subst hR
      exact CallR.leaf (gfrom1_0 room first en o L lc F c w W X Y n hn1) [(0, 2), (1, 0), (2, 3), (3, 4), (4, 5), (5, 6), (6, 7)] rfl rfl (by repeat' (first | exact True.intro | refine hpC rfl rfl rfl ?_ | refine ⟨⟨_, _, _, rfl, rfl, rfl, @WkO.rfl _⟩, ?_⟩ | refine HeapOK.acc rfl rfl ?_)) rfl rfl (_) (_) [(0, 0), (1, 1), (2, 2), (3, 3), (4, 4), (5, 5), (6, 6), (7, 7)] rfl rfl Wk.rfl (by repeat' (first | exact True.intro | refine hpC rfl rfl rfl ?_ | refine ⟨⟨_, _, _, rfl, rfl, rfl, @WkO.rfl _⟩, ?_⟩ | refine HeapOK.acc rfl rfl ?_)) ⟨rfl, rfl⟩
    | cons b T =>
      have hne : R ≠ [] := by rw [hR]; simp
      obtain ⟨g1, g2, g3⟩ := (hi.ok hne).len
      have hf := hi.first hne
      rw [hR] at g2 g3 hX hXr hYr
      simp at g2 g3 hf hX
      subst hf
      have hn := hn hne
      rw [hR] at hn
      have hi2 := hi
      rw [hR] at hi2
      simp at hn
      exact CallR.leaf (gfrom1_n room first en o T.length L lc F c w W X Y n hn1 (by omega) ⟨by omega, by omega⟩ (by omega)) [(0, 2), (1, 0), (2, 3), (3, 4), (4, 5), (5, 6), (6, 7)] rfl rfl (by repeat' (first | exact True.intro | refine hpC rfl rfl rfl ?_ | refine ⟨⟨_, _, _, rfl, rfl, rfl, @WkO.rfl _⟩, ?_⟩ | refine HeapOK.acc rfl rfl ?_)) rfl rfl (_) (_) [(0, 0), (1, 1), (2, 2), (3, 3), (4, 4), (5, 5), (6, 6), (7, 7)] rfl rfl Wk.rfl (by repeat' (first | exact True.intro | refine hpC rfl rfl rfl ?_ | refine ⟨⟨_, _, _, rfl, rfl, rfl, @WkO.rfl _⟩, ?_⟩ | refine HeapOK.acc rfl rfl ?_)) ⟨rfl, rfl⟩
end Go.Proofs.Ytjlfojgacnphmaa

namespace Go.Proofs.Ytjlfojgacnphmaa
open Go.RowKit Sim Go Sym
set_option maxRecDepth 100000
set_option linter.unusedVariables false
set_option linter.unusedSimpArgs false
variable {base : Nat}
theorem LGok.free {f g : Int} {l : LG} (h : LGok f [] l) : LGok g [] l := by
  cases l with
  | no => exact h
  | nil => exact h
  | own o m X Y =>
    obtain ⟨rfl, h1, h2, h3, h4⟩ := h
    exact ⟨rfl, h1, h2, fun j b hj => by simp at hj, fun j hj => by simp at hj⟩
theorem LGok.app_i {f : Int} {R : List (List Int)} {o m : Nat} {X Y : List PC} {b : List Int} {z : Bool} (h : LGok f R (.own o m X Y)) (hl : o + m < X.length) : LGok f (R ++ [b]) (.own o (m + 1) (X.set (o + m) (fP z b none)) (Y.set (o + m) (.int .i64 ((flatR f R).length : Nat)))) := by
  obtain ⟨rfl, h1, h2, h3, h4⟩ := h
  refine ⟨by simp, by simp; omega, by simp [h2], fun j x hj => ?_, fun j hj => ?_⟩
  · by_cases hjl : j < R.length
    · rw [List.getElem?_append_left hjl] at hj
      obtain ⟨z', hz⟩ := h3 j x hj
      exact ⟨z', by rw [List.getElem?_set_ne (by omega)]; exact hz⟩
    · have hlt := (List.getElem?_eq_some_iff.1 hj).1
      simp at hlt
      obtain rfl : j = R.length := by omega
      simp at hj
      subst hj
      exact ⟨z, by rw [List.getElem?_set_self (by omega)]⟩
  · by_cases hjl : j < R.length
    · rw [List.getElem?_set_ne (by omega), List.take_append_of_le_length (by omega)]
      exact h4 j hjl
    · obtain rfl : j = R.length := by omega
      rw [List.getElem?_set_self (by omega), List.take_append_of_le_length (by omega), List.take_length]
theorem LGok.app_g {f : Int} {R : List (List Int)} {o m : Nat} {X Y : List PC} {b : List Int} {z : Bool} (h : LGok f R (.own o m X Y)) (hl : o + m = X.length) : LGok f (R ++ [b]) (.own 0 (m + 1) (X.drop o ++ [fP z b none]) (Y.drop o ++ [.int .i64 ((flatR f R).length : Nat)])) := by
  obtain ⟨rfl, h1, h2, h3, h4⟩ := h
  refine ⟨by simp, by simp; omega, by simp [h2], fun j x hj => ?_, fun j hj => ?_⟩
  · rw [Nat.zero_add]
    by_cases hjl : j < R.length
    · rw [List.getElem?_append_left hjl] at hj
      obtain ⟨z', hz⟩ := h3 j x hj
      exact ⟨z', by rw [List.getElem?_append_left (by simp; omega), List.getElem?_drop]; exact hz⟩
    · have hlt := (List.getElem?_eq_some_iff.1 hj).1
      simp at hlt
      obtain rfl : j = R.length := by omega
      simp at hj
      subst hj
      exact ⟨z, by rw [List.getElem?_append_right (by simp; omega)]; simp [← hl]⟩
  · rw [Nat.zero_add]
    by_cases hjl : j < R.length
    · rw [List.getElem?_append_left (by simp; omega), List.getElem?_drop, List.take_append_of_le_length (by omega)]
      exact h4 j hjl
    · obtain rfl : j = R.length := by omega
      rw [List.getElem?_append_right (by simp; omega), List.take_append_of_le_length (by omega), List.take_length]
      simp [h2, ← hl]
theorem LGok.first {f : Int} {b : List Int} {z : Bool} : LGok f [b] (.own 0 1 [fP z b none] [.int .i64 0]) := by
  refine ⟨rfl, by simp, rfl, fun j x hj => ?_, fun j hj => ?_⟩
  · have hlt := (List.getElem?_eq_some_iff.1 hj).1
    simp at hlt
    subst hlt
    simp at hj
    subst hj
    exact ⟨z, rfl⟩
  · obtain rfl : j = 0 := by omega
    rfl
theorem LGok.take {f : Int} {R : List (List Int)} {o m : Nat} {X Y : List PC} (h : LGok f R (.own o m X Y)) {k : Nat} (hk : k ≤ m) : LGok f (R.take k) (.own o k X Y) := by
  obtain ⟨rfl, h1, h2, h3, h4⟩ := h
  refine ⟨by simp; omega, by omega, h2, fun j x hj => ?_, fun j hj => ?_⟩
  · have hlt := (List.getElem?_eq_some_iff.1 hj).1
    simp at hlt
    rw [List.getElem?_take_of_lt (by omega)] at hj
    exact h3 j x hj
  · rw [List.take_take, show min j k = j by omega]
    exact h4 j (by omega)
theorem flat_sub (R : List (List Int)) (f : Int) (k j : Nat) (h : k + j ≤ R.length) : (flatR f (R.take (k + j))).length = (flatR f (R.take k)).length + (flatR (f + k) ((R.drop k).take j)).length := by
  have h1 := flatR_split (R.take (k + j)) f k
  rw [List.take_take, show min k (k + j) = k by omega, show min k (R.take (k + j)).length = k by rw [List.length_take]; omega] at h1
  rw [h1, List.length_append, show (R.take (k + j)).drop k = (R.drop k).take j by rw [List.drop_take, show k + j - k = j by omega]]
theorem LGok.drop {f : Int} {R : List (List Int)} {o m : Nat} {X Y : List PC} (h : LGok f R (.own o (m + 1) X Y)) {k : Nat} (hk : k < m) : LGok (f + (k + 1 : Nat)) (R.drop (k + 1)) (.own (o + (k + 1)) (m - k) X (subY Y (o + (k + 1)) (fun j => (flatR f (R.take (k + 1 + j))).length) (flatR f (R.take (k + 1))).length (m - k))) := by
  obtain ⟨h0, h1, h2, h3, h4⟩ := h
  refine ⟨by simp; omega, by omega, by rw [subY_len]; exact h2, fun j x hj => ?_, fun j hj => ?_⟩
  · rw [List.getElem?_drop] at hj
    obtain ⟨z, hz⟩ := h3 _ x hj
    exact ⟨z, by rw [show o + (k + 1) + j = o + (k + 1 + j) by omega]; exact hz⟩
  · rw [subY_lo _ _ _ _ _ _ hj (by omega)]
    have := flat_sub R f (k + 1) j (by omega)
    simp only [Option.some.injEq, PC.int.injEq, true_and]
    omega
theorem Fok.ok {B : List Int} {F : FS} {c : Nat} (h : Fok B F c) : FOK F c := by
  rcases h with ⟨-, rfl, -⟩ | ⟨⟨z, cp, rfl⟩, hc⟩
  · exact f0_ok c
  · have h1 := f1_ok [119] z B cp
    exact ⟨fun e he => Nat.lt_of_lt_of_le (h1.old e he) hc, h1.nd, h1.f⟩
theorem Fok.used {B : List Int} {F : FS} {c : Nat} (h : Fok B F c) : usedN F = B.length := by
  rcases h with ⟨rfl, rfl, -⟩ | ⟨⟨z, cp, rfl⟩, hc⟩
  · rfl
  · simp [usedN, f1, lenP, fP, u8P_len]
theorem Fok.len {B : List Int} {F : FS} {c : Nat} (h : Fok B F c) : F.length < 64 := by
  rcases h with ⟨rfl, rfl, -⟩ | ⟨⟨z, cp, rfl⟩, hc⟩
  · simp
  · simp [f1]
theorem Fok.fr {B : List Int} {F : FS} {c : Nat} (h : Fok B F c) : findP frN F = none := by
  rcases h with ⟨rfl, rfl, -⟩ | ⟨⟨z, cp, rfl⟩, hc⟩
  · rfl
  · rfl
theorem Fok.cut {B : List Int} {F : FS} {c : Nat} (h : Fok B F c) (hB : B ≠ []) : ∃ z cp, findP [119] F = some (fP z B cp) ∧ ∀ p, Fok (B.take p) (updP [119] (cutF z B p) c F) (updPC [119] (cutF z B p) c F) := by
  rcases h with ⟨rfl, rfl, -⟩ | ⟨⟨z, cp, rfl⟩, hc⟩
  · exact absurd rfl hB
  · exact ⟨z, cp, rfl, fun p => .inr ⟨⟨_, _, rfl⟩, hc⟩⟩
theorem Fok.app {B : List Int} {F : FS} {c : Nat} (h : Fok B F c) (S : List Int) (hS : S ≠ []) (hB : B.length ≤ 100000000) (hSl : S.length ≤ 100000000) : ∃ F2 c2, Fok (B ++ S) F2 c2 ∧ CallS Try.prog base 66 [.c (.mp 0), .agg ((chX 0 [119] [] (fP false S none) 0).map XC.p), .c (.p (.int .i64 S.length))] ⟨[(0, some (fM F c))], 1⟩ (.tup []) ⟨[(0, some (fM F2 c2))], 1⟩ := by
  rcases h with ⟨rfl, rfl, rfl⟩ | ⟨⟨z, cp, rfl⟩, hc⟩
  · exact ⟨_, _, .inr ⟨⟨_, _, by rw [List.nil_append]⟩, Nat.le_refl _⟩, do_first [119] [] 0 false S none hSl hS⟩
  · have := do_app (base := base) (f1 [119] (fP z B cp)) c [119] [] 0 z B cp rfl false S none _ (Nat.le_refl _) hB hSl
    rw [List.take_length, apF_ne hS] at this
    exact ⟨_, _, .inr ⟨⟨_, _, rfl⟩, hc⟩, this⟩
end Go.Proofs.Ytjlfojgacnphmaa

namespace Go.Proofs.Ytjlfojgacnphmaa
open Go.RowKit Sim Go Sym
set_option maxRecDepth 100000
set_option linter.unusedVariables false
set_option linter.unusedSimpArgs false
variable {base : Nat}
theorem seal_le {n : Int} {b : List Int} (h1 : 1 ≤ n) (h2 : n ≤ 2000000000000000) (hb : b.length ≤ 30000) : (sealB (recB n b)).length ≤ b.length + 18 := by
  have hn := numB_len (n := n) (by omega) (by omega)
  have hrl : (recB n b).length ≤ 65536 := by simp [recB]; omega
  rw [seal_len hrl]
  simp [recB]
  omega
theorem seal_ne {n : Int} {b : List Int} (h1 : 1 ≤ n) (h2 : n ≤ 2000000000000000) (hb : b.length ≤ 30000) : sealB (recB n b) ≠ [] := fun e => by
  have hn := numB_len (n := n) (by omega) (by omega)
  have hrl : (recB n b).length ≤ 65536 := by simp [recB]; omega
  have := seal_len hrl
  rw [e] at this
  simp at this
  omega
theorem W_append {s : WS} {f : Int} {R : List (List Int)} (hi : WInv s f R) (f2 n : Int) (hff : R ≠ [] → f2 = f) (hn : n = f2 + (R.length : Nat)) (z : Bool) (b : List Int) (cb : Option Nat) (hB : Bytes b) (hb : b.length ≤ 30000) (hok : RecOK f2 (R ++ [b])) (hRl : R.length ≤ 9000) (hsz2 : (flatR f R).length + b.length ≤ 390000) (hnl : s.lg = .nil → s.dk = none) (hdk : wtN s.dk ≤ 100000) :
    CW base 21 [.c (.ptr 2 0), .c (.p (.int .i64 n)), .c (.p (.tz z 1 (u8P b) cb))] s (fun r s' => r = .c (.p (.int .i64 0)) ∧ WInv s' f2 (R ++ [b]) ∧ s'.L = s.L ∧ s'.lc = s.lc ∧ s'.dk = wt (chA (sealB (recB n b))) s.dk ∧ s'.lg ≠ .nil) := by
  have hn1 := hok.len
  simp only [List.length_append, List.length_cons, List.length_nil] at hn1
  obtain ⟨room, first, en, L, lc, F, c, _ | ⟨w, W⟩, _ | _ | ⟨o, m, X, Y⟩⟩ := s
  · exact hi.lg.elim
  · obtain rfl : R = [] := hi.lg
    obtain rfl : n = f2 := by simp at hn; exact hn
    have hsl := seal_le (n := n) (b := b) (by omega) (by omega) hb
    have hF := hi.file
    have hrm : room = mB := hi.room
    have hen : en = _ := hi.en
    obtain ⟨F2, c2, hF2, hdo⟩ := hF.app (base := base) (sealB (recB n b)) (seal_ne (by omega) (by omega) hb) (by simp [flatR]) (by omega)
    refine CallR.leaf (wappend00_spec room first en L lc F c n ⟨by omega, by omega⟩ z b cb hB hb ⟨by omega, by omega⟩ hF.ok (by rw [hrm, mB_eq]; omega) (by rw [hF.used, hrm, mB_eq]; simp [flatR] at *; omega) (.inr hF.len) F2 c2 hdo) [(0, 2), (1, 0), (2, 3), (3, 4)] rfl rfl (by repeat' (first | exact True.intro | refine hpC rfl rfl rfl ?_ | refine ⟨⟨_, _, _, rfl, rfl, rfl, @WkO.rfl _⟩, ?_⟩ | refine HeapOK.acc rfl rfl ?_)) rfl rfl (.c (.p (.int .i64 0))) (⟨room, n, en + (sealB (recB n b)).length, L, lc, F2, c2, some (chA (sealB (recB n b)), []), .own 0 1 [fP z b none] [.int .i64 en]⟩ : WS) [(0, 0), (1, 1), (2, 2), (3, 3), (4, 4), (5, 8), (6, 9), (7, 10)] rfl rfl Wk.rfl ⟨(hpX rfl rfl rfl), (hpX rfl rfl rfl), (hpX rfl rfl rfl), (hpX rfl rfl rfl), (hpX rfl rfl rfl), ⟨_, _, _, rfl, rfl, rfl, WkO.row ⟨Wk.rfl, Wk.rfl, rowAcc rfl 1 _, rowAcc rfl 1 _, Wk.rfl, trivial⟩⟩, (hpX rfl rfl rfl), trivial⟩ ⟨rfl, ?_, rfl, rfl, rfl, fun h => by cases h⟩
    refine ⟨fun _ => hok, hrm, ?_, ?_, fun _ => rfl, ?_, ?_⟩
    · show en + _ = _
      rw [hen]
      simp [flatR]
    · rw [show en = 0 by rw [hen]; simp [flatR]]
      exact LGok.first
    · simpa [flatR] using hF2
    · simp [flatR]
      omega
  · have h := hi.lg
    obtain ⟨rfl, hX, hXY, hXr, hYr⟩ := h
    cases hR : R with
    | nil =>
      subst hR
      obtain rfl : n = f2 := by simp at hn; exact hn
      have hsl := seal_le (n := n) (b := b) (by omega) (by omega) hb
      have hF := hi.file
      have hrm : room = mB := hi.room
      have hen : en = _ := hi.en
      obtain ⟨F2, c2, hF2, hdo⟩ := hF.app (base := base) (sealB (recB n b)) (seal_ne (by omega) (by omega) hb) (by simp [flatR]) (by omega)
      have hlg : LGok n [] (.own o 0 X Y) := hi.lg.free
      have he0 : en = 0 := by rw [hen]; simp [flatR]
      by_cases hl : o < X.length
      · refine CallR.leaf (gapp0i0_spec room first en o L lc F c X Y n ⟨by omega, by omega⟩ (by omega) (by omega) z b cb hB hb ⟨by omega, by omega⟩ hF.ok (by rw [hrm, mB_eq]; omega) (by rw [hF.used, hrm, mB_eq]; simp [flatR] at *; omega) (.inr hF.len) F2 c2 hdo) [(0, 2), (1, 0), (2, 3), (3, 4), (4, 6), (5, 7)] rfl rfl (by repeat' (first | exact True.intro | refine hpC rfl rfl rfl ?_ | refine ⟨⟨_, _, _, rfl, rfl, rfl, @WkO.rfl _⟩, ?_⟩ | refine HeapOK.acc rfl rfl ?_)) rfl rfl (.c (.p (.int .i64 0))) (⟨room, n, en + (sealB (recB n b)).length, L, lc, F2, c2, wt (chA (sealB (recB n b))) (none), .own o (0 + 1) (X.set (o + 0) (fP z b none)) (Y.set (o + 0) (.int .i64 en))⟩ : WS) [(0, 0), (1, 1), (2, 2), (3, 3), (4, 4), (5, 8), (6, 6), (7, 7)] rfl rfl Wk.rfl (by repeat' (first | exact True.intro | refine hpC rfl rfl rfl ?_ | refine ⟨⟨_, _, _, rfl, rfl, rfl, @WkO.rfl _⟩, ?_⟩ | refine HeapOK.acc rfl rfl ?_)) ⟨rfl, ?_, rfl, rfl, rfl, fun h => by cases h⟩
        refine ⟨fun _ => hok, hrm, ?_, ?_, fun _ => rfl, ?_, ?_⟩
        · show en + _ = _
          rw [hen]
          simp [flatR]
        · have := hlg.app_i (b := b) (z := z) (by omega)
          rw [he0]
          simpa [flatR] using this
        · simpa [flatR] using hF2
        · simp [flatR]
          omega
      · refine CallR.leaf (gapp0g0_spec room first en o L lc F c X Y n ⟨by omega, by omega⟩ (by omega) (by omega) z b cb hB hb ⟨by omega, by omega⟩ hF.ok (by rw [hrm, mB_eq]; omega) (by rw [hF.used, hrm, mB_eq]; simp [flatR] at *; omega) (.inr hF.len) F2 c2 hdo) [(0, 2), (1, 0), (2, 3), (3, 4), (4, 6), (5, 7)] rfl rfl (by repeat' (first | exact True.intro | refine hpC rfl rfl rfl ?_ | refine ⟨⟨_, _, _, rfl, rfl, rfl, @WkO.rfl _⟩, ?_⟩ | refine HeapOK.acc rfl rfl ?_)) rfl rfl (.c (.p (.int .i64 0))) (⟨room, n, en + (sealB (recB n b)).length, L, lc, F2, c2, wt (chA (sealB (recB n b))) (none), .own 0 (0 + 1) (X.drop o ++ [fP z b none]) (Y.drop o ++ [.int .i64 en])⟩ : WS) [(0, 0), (1, 1), (2, 2), (3, 3), (4, 4), (5, 8), (6, 9), (7, 10)] rfl rfl Wk.rfl (by repeat' (first | exact True.intro | refine hpC rfl rfl rfl ?_ | refine ⟨⟨_, _, _, rfl, rfl, rfl, @WkO.rfl _⟩, ?_⟩ | refine HeapOK.acc rfl rfl ?_)) ⟨rfl, ?_, rfl, rfl, rfl, fun h => by cases h⟩
        refine ⟨fun _ => hok, hrm, ?_, ?_, fun _ => rfl, ?_, ?_⟩
        · show en + _ = _
          rw [hen]
          simp [flatR]
        · have := hlg.app_g (b := b) (z := z) (by omega)
          rw [he0]
          simpa [flatR] using this
        · simpa [flatR] using hF2
        · simp [flatR]
          omega
    | cons b1 T =>
      have hne : R ≠ [] := by rw [hR]; simp
      obtain ⟨g1, g2, g3⟩ := (hi.ok hne).len
      have hf := hi.first hne
      rw [hR] at g2 g3 hX hXr hYr
      simp at g2 g3 hf hX
      subst hf
      obtain rfl : f2 = first := hff hne
      rw [hR] at hn hok hRl
      have hlR : ((b1 :: T).length : Int) = T.length + 1 := by simp
      have hsl := seal_le (n := n) (b := b) (by omega) (by omega) hb
      have hF := hi.file
      have hrm : room = mB := hi.room
      have hen : en = _ := hi.en
      have hsz := hi.sz
      rw [hR] at hF hen hsz hsz2
      have hff2 := flatR_app (b1 :: T) f2 b
      rw [← hn] at hff2
      obtain ⟨F2, c2, hF2, hdo⟩ := hF.app (base := base) (sealB (recB n b)) (seal_ne (by omega) (by omega) hb) (by omega) (by omega)
      have hlg : LGok f2 (b1 :: T) (.own o (b1 :: T).length X Y) := by have := hi.lg; rw [hR] at this; exact this
      by_cases hl : o + (b1 :: T).length < X.length
      · refine CallR.leaf (gapp0i1_spec room f2 en o (b1 :: T).length L lc F c X Y n ⟨by omega, by omega⟩ (by omega) (by omega) (by rw [hXY]; omega) (by simp; omega) (by simp) ⟨by omega, by omega⟩ z b cb hB hb ⟨by omega, by omega⟩ hF.ok (by rw [hrm, mB_eq]; omega) (by rw [hF.used, hrm, mB_eq]; omega) (.inr hF.len) F2 c2 hdo) [(0, 2), (1, 0), (2, 3), (3, 4), (4, 6), (5, 7)] rfl rfl (by repeat' (first | exact True.intro | refine hpC rfl rfl rfl ?_ | refine ⟨⟨_, _, _, rfl, rfl, rfl, @WkO.rfl _⟩, ?_⟩ | refine HeapOK.acc rfl rfl ?_)) rfl rfl (.c (.p (.int .i64 0))) (⟨room, f2, en + (sealB (recB n b)).length, L, lc, F2, c2, wt (chA (sealB (recB n b))) (none), .own o ((b1 :: T).length + 1) (X.set (o + (b1 :: T).length) (fP z b none)) (Y.set (o + (b1 :: T).length) (.int .i64 en))⟩ : WS) [(0, 0), (1, 1), (2, 2), (3, 3), (4, 4), (5, 8), (6, 6), (7, 7)] rfl rfl Wk.rfl (by repeat' (first | exact True.intro | refine hpC rfl rfl rfl ?_ | refine ⟨⟨_, _, _, rfl, rfl, rfl, @WkO.rfl _⟩, ?_⟩ | refine HeapOK.acc rfl rfl ?_)) ⟨rfl, ?_, rfl, rfl, rfl, fun h => by cases h⟩
        refine ⟨fun _ => hok, hrm, ?_, ?_, fun _ => rfl, ?_, ?_⟩
        · show en + _ = _
          rw [hen, hff2, List.length_append]
          omega
        · have := hlg.app_i (b := b) (z := z) (by omega)
          rw [← hen] at this
          exact this
        · rw [hff2]
          exact hF2
        · rw [hff2, List.length_append]
          omega
      · refine CallR.leaf (gapp0g1_spec room f2 en o (b1 :: T).length L lc F c X Y n ⟨by omega, by omega⟩ (by omega) (by omega) (by rw [hXY]; omega) (by simp; omega) (by simp) ⟨by omega, by omega⟩ z b cb hB hb ⟨by omega, by omega⟩ hF.ok (by rw [hrm, mB_eq]; omega) (by rw [hF.used, hrm, mB_eq]; omega) (.inr hF.len) F2 c2 hdo) [(0, 2), (1, 0), (2, 3), (3, 4), (4, 6), (5, 7)] rfl rfl (by repeat' (first | exact True.intro | refine hpC rfl rfl rfl ?_ | refine ⟨⟨_, _, _, rfl, rfl, rfl, @WkO.rfl _⟩, ?_⟩ | refine HeapOK.acc rfl rfl ?_)) rfl rfl (.c (.p (.int .i64 0))) (⟨room, f2, en + (sealB (recB n b)).length, L, lc, F2, c2, wt (chA (sealB (recB n b))) (none), .own 0 ((b1 :: T).length + 1) (X.drop o ++ [fP z b none]) (Y.drop o ++ [.int .i64 en])⟩ : WS) [(0, 0), (1, 1), (2, 2), (3, 3), (4, 4), (5, 8), (6, 9), (7, 10)] rfl rfl Wk.rfl (by repeat' (first | exact True.intro | refine hpC rfl rfl rfl ?_ | refine ⟨⟨_, _, _, rfl, rfl, rfl, @WkO.rfl _⟩, ?_⟩ | refine HeapOK.acc rfl rfl ?_)) ⟨rfl, ?_, rfl, rfl, rfl, fun h => by cases h⟩
        refine ⟨fun _ => hok, hrm, ?_, ?_, fun _ => rfl, ?_, ?_⟩
        · show en + _ = _
          rw [hen, hff2, List.length_append]
          omega
        · have := hlg.app_g (b := b) (z := z) (by omega)
          rw [← hen] at this
          exact this
        · rw [hff2]
          exact hF2
        · rw [hff2, List.length_append]
          omega
  · exact hi.lg.elim
  · obtain rfl : R = [] := hi.lg
    exact absurd (hnl rfl) (by simp)
  · have h := hi.lg
    obtain ⟨rfl, hX, hXY, hXr, hYr⟩ := h
    cases hR : R with
    | nil =>
      subst hR
      obtain rfl : n = f2 := by simp at hn; exact hn
      have hsl := seal_le (n := n) (b := b) (by omega) (by omega) hb
      have hF := hi.file
      have hrm : room = mB := hi.room
      have hen : en = _ := hi.en
      obtain ⟨F2, c2, hF2, hdo⟩ := hF.app (base := base) (sealB (recB n b)) (seal_ne (by omega) (by omega) hb) (by simp [flatR]) (by omega)
      have hlg : LGok n [] (.own o 0 X Y) := hi.lg.free
      have he0 : en = 0 := by rw [hen]; simp [flatR]
      by_cases hl : o < X.length
      · refine CallR.leaf (gapp1i0_spec room first en o L lc F c w W X Y n ⟨by omega, by omega⟩ (by omega) (by omega) (by simp [wtN] at hdk; omega) z b cb hB hb ⟨by omega, by omega⟩ hF.ok (by rw [hrm, mB_eq]; omega) (by rw [hF.used, hrm, mB_eq]; simp [flatR] at *; omega) (.inr hF.len) F2 c2 hdo) [(0, 2), (1, 0), (2, 3), (3, 4), (4, 5), (5, 6), (6, 7)] rfl rfl (by repeat' (first | exact True.intro | refine hpC rfl rfl rfl ?_ | refine ⟨⟨_, _, _, rfl, rfl, rfl, @WkO.rfl _⟩, ?_⟩ | refine HeapOK.acc rfl rfl ?_)) rfl rfl (.c (.p (.int .i64 0))) (⟨room, n, en + (sealB (recB n b)).length, L, lc, F2, c2, wt (chA (sealB (recB n b))) (some (w, W)), .own o (0 + 1) (X.set (o + 0) (fP z b none)) (Y.set (o + 0) (.int .i64 en))⟩ : WS) [(0, 0), (1, 1), (2, 2), (3, 3), (4, 4), (5, 8), (6, 6), (7, 7)] rfl rfl Wk.rfl (by repeat' (first | exact True.intro | refine hpC rfl rfl rfl ?_ | refine ⟨⟨_, _, _, rfl, rfl, rfl, @WkO.rfl _⟩, ?_⟩ | refine HeapOK.acc rfl rfl ?_)) ⟨rfl, ?_, rfl, rfl, rfl, fun h => by cases h⟩
        refine ⟨fun _ => hok, hrm, ?_, ?_, fun _ => rfl, ?_, ?_⟩
        · show en + _ = _
          rw [hen]
          simp [flatR]
        · have := hlg.app_i (b := b) (z := z) (by omega)
          rw [he0]
          simpa [flatR] using this
        · simpa [flatR] using hF2
        · simp [flatR]
          omega
      · refine CallR.leaf (gapp1g0_spec room first en o L lc F c w W X Y n ⟨by omega, by omega⟩ (by omega) (by omega) (by simp [wtN] at hdk; omega) z b cb hB hb ⟨by omega, by omega⟩ hF.ok (by rw [hrm, mB_eq]; omega) (by rw [hF.used, hrm, mB_eq]; simp [flatR] at *; omega) (.inr hF.len) F2 c2 hdo) [(0, 2), (1, 0), (2, 3), (3, 4), (4, 5), (5, 6), (6, 7)] rfl rfl (by repeat' (first | exact True.intro | refine hpC rfl rfl rfl ?_ | refine ⟨⟨_, _, _, rfl, rfl, rfl, @WkO.rfl _⟩, ?_⟩ | refine HeapOK.acc rfl rfl ?_)) rfl rfl (.c (.p (.int .i64 0))) (⟨room, n, en + (sealB (recB n b)).length, L, lc, F2, c2, wt (chA (sealB (recB n b))) (some (w, W)), .own 0 (0 + 1) (X.drop o ++ [fP z b none]) (Y.drop o ++ [.int .i64 en])⟩ : WS) [(0, 0), (1, 1), (2, 2), (3, 3), (4, 4), (5, 8), (6, 9), (7, 10)] rfl rfl Wk.rfl (by repeat' (first | exact True.intro | refine hpC rfl rfl rfl ?_ | refine ⟨⟨_, _, _, rfl, rfl, rfl, @WkO.rfl _⟩, ?_⟩ | refine HeapOK.acc rfl rfl ?_)) ⟨rfl, ?_, rfl, rfl, rfl, fun h => by cases h⟩
        refine ⟨fun _ => hok, hrm, ?_, ?_, fun _ => rfl, ?_, ?_⟩
        · show en + _ = _
          rw [hen]
          simp [flatR]
        · have := hlg.app_g (b := b) (z := z) (by omega)
          rw [he0]
          simpa [flatR] using this
        · simpa [flatR] using hF2
        · simp [flatR]
          omega
    | cons b1 T =>
      have hne : R ≠ [] := by rw [hR]; simp
      obtain ⟨g1, g2, g3⟩ := (hi.ok hne).len
      have hf := hi.first hne
      rw [hR] at g2 g3 hX hXr hYr
      simp at g2 g3 hf hX
      subst hf
      obtain rfl : f2 = first := hff hne
      rw [hR] at hn hok hRl
      have hlR : ((b1 :: T).length : Int) = T.length + 1 := by simp
      have hsl := seal_le (n := n) (b := b) (by omega) (by omega) hb
      have hF := hi.file
      have hrm : room = mB := hi.room
      have hen : en = _ := hi.en
      have hsz := hi.sz
      rw [hR] at hF hen hsz hsz2
      have hff2 := flatR_app (b1 :: T) f2 b
      rw [← hn] at hff2
      obtain ⟨F2, c2, hF2, hdo⟩ := hF.app (base := base) (sealB (recB n b)) (seal_ne (by omega) (by omega) hb) (by omega) (by omega)
      have hlg : LGok f2 (b1 :: T) (.own o (b1 :: T).length X Y) := by have := hi.lg; rw [hR] at this; exact this
      by_cases hl : o + (b1 :: T).length < X.length
      · refine CallR.leaf (gapp1i1_spec room f2 en o (b1 :: T).length L lc F c w W X Y n ⟨by omega, by omega⟩ (by omega) (by omega) (by rw [hXY]; omega) (by simp; omega) (by simp) ⟨by omega, by omega⟩ (by simp [wtN] at hdk; omega) z b cb hB hb ⟨by omega, by omega⟩ hF.ok (by rw [hrm, mB_eq]; omega) (by rw [hF.used, hrm, mB_eq]; omega) (.inr hF.len) F2 c2 hdo) [(0, 2), (1, 0), (2, 3), (3, 4), (4, 5), (5, 6), (6, 7)] rfl rfl (by repeat' (first | exact True.intro | refine hpC rfl rfl rfl ?_ | refine ⟨⟨_, _, _, rfl, rfl, rfl, @WkO.rfl _⟩, ?_⟩ | refine HeapOK.acc rfl rfl ?_)) rfl rfl (.c (.p (.int .i64 0))) (⟨room, f2, en + (sealB (recB n b)).length, L, lc, F2, c2, wt (chA (sealB (recB n b))) (some (w, W)), .own o ((b1 :: T).length + 1) (X.set (o + (b1 :: T).length) (fP z b none)) (Y.set (o + (b1 :: T).length) (.int .i64 en))⟩ : WS) [(0, 0), (1, 1), (2, 2), (3, 3), (4, 4), (5, 8), (6, 6), (7, 7)] rfl rfl Wk.rfl (by repeat' (first | exact True.intro | refine hpC rfl rfl rfl ?_ | refine ⟨⟨_, _, _, rfl, rfl, rfl, @WkO.rfl _⟩, ?_⟩ | refine HeapOK.acc rfl rfl ?_)) ⟨rfl, ?_, rfl, rfl, rfl, fun h => by cases h⟩
        refine ⟨fun _ => hok, hrm, ?_, ?_, fun _ => rfl, ?_, ?_⟩
        · show en + _ = _
          rw [hen, hff2, List.length_append]
          omega
        · have := hlg.app_i (b := b) (z := z) (by omega)
          rw [← hen] at this
          exact this
        · rw [hff2]
          exact hF2
        · rw [hff2, List.length_append]
          omega
      · refine CallR.leaf (gapp1g1_spec room f2 en o (b1 :: T).length L lc F c w W X Y n ⟨by omega, by omega⟩ (by omega) (by omega) (by rw [hXY]; omega) (by simp; omega) (by simp) ⟨by omega, by omega⟩ (by simp [wtN] at hdk; omega) z b cb hB hb ⟨by omega, by omega⟩ hF.ok (by rw [hrm, mB_eq]; omega) (by rw [hF.used, hrm, mB_eq]; omega) (.inr hF.len) F2 c2 hdo) [(0, 2), (1, 0), (2, 3), (3, 4), (4, 5), (5, 6), (6, 7)] rfl rfl (by repeat' (first | exact True.intro | refine hpC rfl rfl rfl ?_ | refine ⟨⟨_, _, _, rfl, rfl, rfl, @WkO.rfl _⟩, ?_⟩ | refine HeapOK.acc rfl rfl ?_)) rfl rfl (.c (.p (.int .i64 0))) (⟨room, f2, en + (sealB (recB n b)).length, L, lc, F2, c2, wt (chA (sealB (recB n b))) (some (w, W)), .own 0 ((b1 :: T).length + 1) (X.drop o ++ [fP z b none]) (Y.drop o ++ [.int .i64 en])⟩ : WS) [(0, 0), (1, 1), (2, 2), (3, 3), (4, 4), (5, 8), (6, 9), (7, 10)] rfl rfl Wk.rfl (by repeat' (first | exact True.intro | refine hpC rfl rfl rfl ?_ | refine ⟨⟨_, _, _, rfl, rfl, rfl, @WkO.rfl _⟩, ?_⟩ | refine HeapOK.acc rfl rfl ?_)) ⟨rfl, ?_, rfl, rfl, rfl, fun h => by cases h⟩
        refine ⟨fun _ => hok, hrm, ?_, ?_, fun _ => rfl, ?_, ?_⟩
        · show en + _ = _
          rw [hen, hff2, List.length_append]
          omega
        · have := hlg.app_g (b := b) (z := z) (by omega)
          rw [← hen] at this
          exact this
        · rw [hff2]
          exact hF2
        · rw [hff2, List.length_append]
          omega
end Go.Proofs.Ytjlfojgacnphmaa

namespace Go.Proofs.Ytjlfojgacnphmaa
open Go.RowKit Sim Go Sym
set_option maxRecDepth 100000
set_option linter.unusedVariables false
set_option linter.unusedSimpArgs false
variable {base : Nat}
theorem W_sync {s : WS} {f : Int} {R : List (List Int)} (hi : WInv s f R) (hnl : s.lg = .nil → s.dk = none) : CW base 22 [.c (.ptr 2 0)] s (fun r s' => r = .tup [] ∧ s' = { s with L := s.F, lc := s.c, dk := none }) := by
  obtain ⟨room, first, en, L, lc, F, c, _ | ⟨w, W⟩, _ | _ | ⟨o, m, X, Y⟩⟩ := s
  · exact hi.lg.elim
  · obtain rfl : R = [] := hi.lg
    exact CallR.leaf (wsync00_spec room first en L lc F c) [(0, 2), (1, 0), (2, 3), (3, 4)] rfl rfl (by repeat' (first | exact True.intro | refine hpC rfl rfl rfl ?_ | refine ⟨⟨_, _, _, rfl, rfl, rfl, @WkO.rfl _⟩, ?_⟩ | refine HeapOK.acc rfl rfl ?_)) rfl rfl (.tup []) (⟨room, first, en, F, c, F, c, none, .nil⟩ : WS) [(0, 0), (1, 1), (2, 2), (3, 8), (4, 4), (5, 5), (6, 6), (7, 7)] rfl rfl Wk.rfl (by repeat' (first | exact True.intro | refine hpC rfl rfl rfl ?_ | refine ⟨⟨_, _, _, rfl, rfl, rfl, @WkO.rfl _⟩, ?_⟩ | refine HeapOK.acc rfl rfl ?_)) ⟨rfl, rfl⟩
  · have h := hi.lg
    obtain ⟨rfl, hX, hXY, hXr, hYr⟩ := h
    cases hR : R with
    | nil =>
      subst hR
      exact CallR.leaf (gsync0_spec room first en o 0 L lc F c X Y) [(0, 2), (1, 0), (2, 3), (3, 4), (4, 6), (5, 7)] rfl rfl (by repeat' (first | exact True.intro | refine hpC rfl rfl rfl ?_ | refine ⟨⟨_, _, _, rfl, rfl, rfl, @WkO.rfl _⟩, ?_⟩ | refine HeapOK.acc rfl rfl ?_)) rfl rfl (.tup []) (⟨room, first, en, F, c, F, c, none, .own o 0 X Y⟩ : WS) [(0, 0), (1, 1), (2, 2), (3, 8), (4, 4), (5, 5), (6, 6), (7, 7)] rfl rfl Wk.rfl (by repeat' (first | exact True.intro | refine hpC rfl rfl rfl ?_ | refine ⟨⟨_, _, _, rfl, rfl, rfl, @WkO.rfl _⟩, ?_⟩ | refine HeapOK.acc rfl rfl ?_)) ⟨rfl, rfl⟩
    | cons b1 T =>
      have hne : R ≠ [] := by rw [hR]; simp
      obtain ⟨g1, g2, g3⟩ := (hi.ok hne).len
      have hf := hi.first hne
      rw [hR] at g2 g3 hX hXr hYr
      simp at g2 g3 hf hX
      subst hf
      exact CallR.leaf (gsync0_spec room first en o (b1 :: T).length L lc F c X Y) [(0, 2), (1, 0), (2, 3), (3, 4), (4, 6), (5, 7)] rfl rfl (by repeat' (first | exact True.intro | refine hpC rfl rfl rfl ?_ | refine ⟨⟨_, _, _, rfl, rfl, rfl, @WkO.rfl _⟩, ?_⟩ | refine HeapOK.acc rfl rfl ?_)) rfl rfl (.tup []) (⟨room, first, en, F, c, F, c, none, .own o (b1 :: T).length X Y⟩ : WS) [(0, 0), (1, 1), (2, 2), (3, 8), (4, 4), (5, 5), (6, 6), (7, 7)] rfl rfl Wk.rfl (by repeat' (first | exact True.intro | refine hpC rfl rfl rfl ?_ | refine ⟨⟨_, _, _, rfl, rfl, rfl, @WkO.rfl _⟩, ?_⟩ | refine HeapOK.acc rfl rfl ?_)) ⟨rfl, rfl⟩
  · exact hi.lg.elim
  · obtain rfl : R = [] := hi.lg
    exact absurd (hnl rfl) (by simp)
  · have h := hi.lg
    obtain ⟨rfl, hX, hXY, hXr, hYr⟩ := h
    cases hR : R with
    | nil =>
      subst hR
      exact CallR.leaf (gsync1_spec room first en o 0 L lc F c w W X Y) [(0, 2), (1, 0), (2, 3), (3, 4), (4, 5), (5, 6), (6, 7)] rfl rfl (by repeat' (first | exact True.intro | refine hpC rfl rfl rfl ?_ | refine ⟨⟨_, _, _, rfl, rfl, rfl, @WkO.rfl _⟩, ?_⟩ | refine HeapOK.acc rfl rfl ?_)) rfl rfl (.tup []) (⟨room, first, en, F, c, F, c, none, .own o 0 X Y⟩ : WS) [(0, 0), (1, 1), (2, 2), (3, 8), (4, 4), (5, 5), (6, 6), (7, 7)] rfl rfl Wk.rfl (by repeat' (first | exact True.intro | refine hpC rfl rfl rfl ?_ | refine ⟨⟨_, _, _, rfl, rfl, rfl, @WkO.rfl _⟩, ?_⟩ | refine HeapOK.acc rfl rfl ?_)) ⟨rfl, rfl⟩
    | cons b1 T =>
      have hne : R ≠ [] := by rw [hR]; simp
      obtain ⟨g1, g2, g3⟩ := (hi.ok hne).len
      have hf := hi.first hne
      rw [hR] at g2 g3 hX hXr hYr
      simp at g2 g3 hf hX
      subst hf
      exact CallR.leaf (gsync1_spec room first en o (b1 :: T).length L lc F c w W X Y) [(0, 2), (1, 0), (2, 3), (3, 4), (4, 5), (5, 6), (6, 7)] rfl rfl (by repeat' (first | exact True.intro | refine hpC rfl rfl rfl ?_ | refine ⟨⟨_, _, _, rfl, rfl, rfl, @WkO.rfl _⟩, ?_⟩ | refine HeapOK.acc rfl rfl ?_)) rfl rfl (.tup []) (⟨room, first, en, F, c, F, c, none, .own o (b1 :: T).length X Y⟩ : WS) [(0, 0), (1, 1), (2, 2), (3, 8), (4, 4), (5, 5), (6, 6), (7, 7)] rfl rfl Wk.rfl (by repeat' (first | exact True.intro | refine hpC rfl rfl rfl ?_ | refine ⟨⟨_, _, _, rfl, rfl, rfl, @WkO.rfl _⟩, ?_⟩ | refine HeapOK.acc rfl rfl ?_)) ⟨rfl, rfl⟩
theorem W_from_y {s : WS} {f : Int} {R : List (List Int)} (hi : WInv s f R) (n : Int) (hne0 : R ≠ []) (hn1 : 1 ≤ n) (hn : n < f + R.length) (κ : Nat) (hk : (κ : Int) = max 0 (n - f)) (hdk : wtN s.dk ≤ 100000) : CW base 25 [.c (.ptr 2 0), .c (.p (.int .i64 n))] s (fun r s' => r = .c (.p (.int .i64 0)) ∧ WInv s' f (R.take κ) ∧ s'.L = s.L ∧ s'.lc = s.lc ∧ s'.dk = wt (chC (flatR f (R.take κ)).length) s.dk ∧ s'.lg ≠ .nil) := by
  obtain ⟨room, first, en, L, lc, F, c, _ | ⟨w, W⟩, _ | _ | ⟨o, m, X, Y⟩⟩ := s
  · exact hi.lg.elim
  · obtain rfl : R = [] := hi.lg
    exact absurd rfl hne0
  · have h := hi.lg
    obtain ⟨rfl, hX, hXY, hXr, hYr⟩ := h
    cases hR : R with
    | nil =>
      subst hR
      exact absurd rfl hne0
    | cons b1 T =>
      have hne : R ≠ [] := by rw [hR]; simp
      obtain ⟨g1, g2, g3⟩ := (hi.ok hne).len
      have hf := hi.first hne
      rw [hR] at g2 g3 hX hXr hYr
      simp at g2 g3 hf hX
      subst hf
      obtain hff : first = _ := hi.first hne
      have hF := hi.file
      have hrm : room = mB := hi.room
      have hen : en = _ := hi.en
      have hsz := hi.sz
      have hok := hi.ok hne
      rw [hR] at hF hen hsz hok
      have hlR : ((b1 :: T).length : Int) = T.length + 1 := by simp
      rw [hR] at hn
      have hκ : κ < (b1 :: T).length := by omega
      have hTl : (b1 :: T).length = T.length + 1 := rfl
      have hlg : LGok first (b1 :: T) (.own o (T.length + 1) X Y) := by have := hi.lg; rw [hR] at this; exact this
      have hBne : flatR first (b1 :: T) ≠ [] := fun e => by have := flatR_pos hok; rw [e] at this; simp at this
      obtain ⟨z, cp, hfd, hFc⟩ := hF.cut hBne
      refine CallR.leaf (gfrom0_y room first en o T.length L lc F c X Y n ⟨hn1, by omega⟩ (by omega) ⟨by omega, by omega⟩ (by omega) κ (flatR first ((b1 :: T).take κ)).length (by rw [hk]; split <;> omega) z (flatR first (b1 :: T)) cp hfd (flatR_le _ _ _) (hlg.2.2.2.2 κ (by omega))) [(0, 2), (1, 0), (2, 3), (3, 4), (4, 6), (5, 7)] rfl rfl (by repeat' (first | exact True.intro | refine hpC rfl rfl rfl ?_ | refine ⟨⟨_, _, _, rfl, rfl, rfl, @WkO.rfl _⟩, ?_⟩ | refine HeapOK.acc rfl rfl ?_)) rfl rfl (.c (.p (.int .i64 0))) (⟨room, first, ((flatR first ((b1 :: T).take κ)).length : Nat), L, lc, updP [119] (cutF z (flatR first (b1 :: T)) (flatR first ((b1 :: T).take κ)).length) c F, updPC [119] (cutF z (flatR first (b1 :: T)) (flatR first ((b1 :: T).take κ)).length) c F, wt (chC (flatR first ((b1 :: T).take κ)).length) (none), .own o κ X Y⟩ : WS) [(0, 0), (1, 1), (2, 2), (3, 3), (4, 4), (5, 8), (6, 6), (7, 7)] rfl rfl Wk.rfl (by repeat' (first | exact True.intro | refine hpC rfl rfl rfl ?_ | refine ⟨⟨_, _, _, rfl, rfl, rfl, @WkO.rfl _⟩, ?_⟩ | refine HeapOK.acc rfl rfl ?_)) ⟨rfl, ?_, rfl, rfl, rfl, fun h => by cases h⟩
      refine ⟨fun _ => hok.take κ, hrm, rfl, hlg.take (by omega), fun _ => rfl, ?_, ?_⟩
      · have := hFc (flatR first ((b1 :: T).take κ)).length
        rw [flatR_take] at this
        exact this
      · exact Nat.le_trans (flatR_le _ _ _) hsz
  · exact hi.lg.elim
  · obtain rfl : R = [] := hi.lg
    exact absurd rfl hne0
  · have h := hi.lg
    obtain ⟨rfl, hX, hXY, hXr, hYr⟩ := h
    cases hR : R with
    | nil =>
      subst hR
      exact absurd rfl hne0
    | cons b1 T =>
      have hne : R ≠ [] := by rw [hR]; simp
      obtain ⟨g1, g2, g3⟩ := (hi.ok hne).len
      have hf := hi.first hne
      rw [hR] at g2 g3 hX hXr hYr
      simp at g2 g3 hf hX
      subst hf
      obtain hff : first = _ := hi.first hne
      have hF := hi.file
      have hrm : room = mB := hi.room
      have hen : en = _ := hi.en
      have hsz := hi.sz
      have hok := hi.ok hne
      rw [hR] at hF hen hsz hok
      have hlR : ((b1 :: T).length : Int) = T.length + 1 := by simp
      rw [hR] at hn
      have hκ : κ < (b1 :: T).length := by omega
      have hTl : (b1 :: T).length = T.length + 1 := rfl
      have hlg : LGok first (b1 :: T) (.own o (T.length + 1) X Y) := by have := hi.lg; rw [hR] at this; exact this
      have hBne : flatR first (b1 :: T) ≠ [] := fun e => by have := flatR_pos hok; rw [e] at this; simp at this
      obtain ⟨z, cp, hfd, hFc⟩ := hF.cut hBne
      refine CallR.leaf (gfrom1_y room first en o T.length L lc F c w W X Y n ⟨hn1, by omega⟩ (by omega) ⟨by omega, by omega⟩ (by omega) (by simp [wtN] at hdk; omega) κ (flatR first ((b1 :: T).take κ)).length (by rw [hk]; split <;> omega) z (flatR first (b1 :: T)) cp hfd (flatR_le _ _ _) (hlg.2.2.2.2 κ (by omega))) [(0, 2), (1, 0), (2, 3), (3, 4), (4, 5), (5, 6), (6, 7)] rfl rfl (by repeat' (first | exact True.intro | refine hpC rfl rfl rfl ?_ | refine ⟨⟨_, _, _, rfl, rfl, rfl, @WkO.rfl _⟩, ?_⟩ | refine HeapOK.acc rfl rfl ?_)) rfl rfl (.c (.p (.int .i64 0))) (⟨room, first, ((flatR first ((b1 :: T).take κ)).length : Nat), L, lc, updP [119] (cutF z (flatR first (b1 :: T)) (flatR first ((b1 :: T).take κ)).length) c F, updPC [119] (cutF z (flatR first (b1 :: T)) (flatR first ((b1 :: T).take κ)).length) c F, wt (chC (flatR first ((b1 :: T).take κ)).length) (some (w, W)), .own o κ X Y⟩ : WS) [(0, 0), (1, 1), (2, 2), (3, 3), (4, 4), (5, 8), (6, 6), (7, 7)] rfl rfl Wk.rfl (by repeat' (first | exact True.intro | refine hpC rfl rfl rfl ?_ | refine ⟨⟨_, _, _, rfl, rfl, rfl, @WkO.rfl _⟩, ?_⟩ | refine HeapOK.acc rfl rfl ?_)) ⟨rfl, ?_, rfl, rfl, rfl, fun h => by cases h⟩
      refine ⟨fun _ => hok.take κ, hrm, rfl, hlg.take (by omega), fun _ => rfl, ?_, ?_⟩
      · have := hFc (flatR first ((b1 :: T).take κ)).length
        rw [flatR_take] at this
        exact this
      · exact Nat.le_trans (flatR_le _ _ _) hsz
end Go.Proofs.Ytjlfojgacnphmaa

namespace Go.Proofs.Ytjlfojgacnphmaa
open Go.RowKit Sim Go Sym
set_option maxRecDepth 100000
set_option linter.unusedVariables false
set_option linter.unusedSimpArgs false
variable {base : Nat}
abbrev Rc := Bool × List Int × Option Nat
def recP (t : Rc) : PC := fP t.1 t.2.1 t.2.2
def msP (T : List Rc) : List PC := T.map recP
def rsR (T : List Rc) : List (List Int) := T.map (·.2.1)
def lastM (f : Int) (T : List Rc) : Int := if T = [] then 0 else f + T.length - 1
section
variable (f : Int) (z : Bool) (T : List Rc) (cp : Option Nat) (n : Int) (b : Rc)
variable (hf : T ≠ [] → 1 ≤ f ∧ f ≤ 1500000000000000) (hT : T.length ≤ 100000)
include hf hT
end
end Go.Proofs.Ytjlfojgacnphmaa

namespace Go.Proofs.Ytjlfojgacnphmaa
open Go.RowKit Sim Go Sym
set_option maxRecDepth 100000
set_option linter.unusedVariables false
set_option linter.unusedSimpArgs false
variable {base : Nat}
theorem bytesX_w : ∀ {l : List Int}, Bytes l → bytesX (u8P l) = some (l.map Int.toNat)
  | [], _ => rfl
  | x :: l, h => by
    have h1 := h x (by simp)
    have h2 := bytesX_w (l := l) fun y hy => h y (by simp [hy])
    simp only [u8P, List.map_cons] at h2 ⊢
    have h3 : byX (.int .u8 x) = some x.toNat := by
      simp only [byX]
      first | rw [if_pos ⟨h1.1, by omega⟩] | rw [if_pos (by omega)] | skip
    simp only [bytesX, h3, h2]
def doF (f : Int) (T : List Rc) (k n : Int) (b : Rc) : Int × List Rc × Int :=
  if k = 0 then (if n < 1 ∨ (T ≠ [] ∧ n - 1 ≠ lastM f T) then (f, T, 1) else (if T = [] then n else f, T ++ [b], 0))
  else if k = 1 then (if n < 1 then (f, T, 1) else if T ≠ [] ∧ n ≤ lastM f T then (f, T.take (max 0 (n - f)).toNat, 0) else (f, T, 0))
  else if k = 2 then (if n < 1 then (f, T, 1) else if T ≠ [] ∧ f ≤ n then (f + (min (T.length : Int) (n - f + 1)).toNat, T.drop (min (T.length : Int) (n - f + 1)).toNat, 0) else (f, T, 0))
  else (f, T, 0)
end Go.Proofs.Ytjlfojgacnphmaa

namespace Go.Proofs.Ytjlfojgacnphmaa
open Go.RowKit Sim Go Sym
set_option maxRecDepth 100000
set_option linter.unusedVariables false
set_option linter.unusedSimpArgs false
variable {base : Nat}
theorem flat_le {B : Nat} : ∀ (R : List (List Int)) (f : Int), (∀ b ∈ R, b.length ≤ B) → B ≤ 30000 → (R ≠ [] → 1 ≤ f ∧ f + R.length ≤ 1200000000000000) → (flatR f R).length ≤ R.length * (B + 18)
  | [], f, _, _, _ => by simp [flatR]
  | b :: R, f, h, hB, hf => by
    have h1 := hf (by simp)
    simp only [List.length_cons] at h1
    have h2 := h b (by simp)
    have h3 := seal_le (n := f) (b := b) (by omega) (by omega) (by omega)
    have h4 := flat_le R (f + 1) (fun x hx => h x (by simp [hx])) hB (fun _ => by omega)
    rw [flatR, List.length_append, List.length_cons, Nat.succ_mul]
    omega
theorem WInv.free {s : WS} {f g : Int} (h : WInv s f []) : WInv s g [] := ⟨fun h => absurd rfl h, h.room, by rw [h.en]; rfl, h.lg.free, fun h => absurd rfl h, h.file, h.sz⟩
def P50 : Int := 1125899906842624
structure Lp (i : Nat) (s : WS) (f : Int) (T : List Rc) : Prop where
  inv : WInv s f (rsR T)
  b : ∀ t ∈ T, Bytes t.2.1 ∧ t.2.1.length ≤ 300
  len : T.length ≤ i
  rng : T ≠ [] → 1 ≤ f ∧ f + T.length ≤ P50 + 1
  dk : wtN s.dk ≤ 2 * i
  nl : s.lg = .nil → s.dk = none
theorem rsR_len (T : List Rc) : (rsR T).length = T.length := by simp [rsR]
theorem rsR_ne {T : List Rc} : rsR T ≠ [] ↔ T ≠ [] := by simp [rsR]
theorem rec_ok {f : Int} {T : List Rc} (hb : ∀ t ∈ T, Bytes t.2.1 ∧ t.2.1.length ≤ 300) (hl : T.length ≤ 1000) (hr : 1 ≤ f ∧ f + T.length ≤ P50 + 1) : RecOK f (rsR T) := by
  have : P50 = 1125899906842624 := rfl
  refine ⟨by rw [rsR_len]; omega, by rw [rsR_len]; omega, fun x hx => ?_⟩
  obtain ⟨t, ht, rfl⟩ := List.mem_map.1 hx
  have := hb t ht
  exact ⟨this.1, by omega⟩
theorem Lp.flat {i : Nat} {s : WS} {f : Int} {T : List Rc} (h : Lp i s f T) (hi : i ≤ 100) : (flatR f (rsR T)).length ≤ 31800 := by
  have h1 := flat_le (B := 300) (rsR T) f (fun x hx => by obtain ⟨t, ht, rfl⟩ := List.mem_map.1 hx; exact (h.b t ht).2) (by omega) (fun hne => by
    have := h.rng (rsR_ne.1 hne)
    have h2 : P50 = 1125899906842624 := rfl
    rw [rsR_len]; omega)
  rw [rsR_len] at h1
  have := h.len
  omega
theorem wtN_wt (p : PC) (d : Option (PC × List PC)) : wtN (wt p d) = wtN d + 1 := by
  cases d with
  | none => rfl
  | some x => simp [wt, wtN]
theorem lastM_ne {f : Int} {T : List Rc} (h : T ≠ []) : lastM f T = f + T.length - 1 := if_neg h
abbrev err (e : Int) : XV := .c (.p (.int .i64 e))
theorem Lp.more {i : Nat} {s : WS} {f : Int} {T : List Rc} (h : Lp i s f T) : Lp (i + 1) s f T := ⟨h.inv, h.b, by have := h.len; omega, h.rng, by have := h.dk; omega, h.nl⟩
section
variable {i : Nat} {s : WS} {f : Int} {T : List Rc} (h : Lp i s f T) (hi : i ≤ 100)
include h hi
theorem Lp.append (n : Int) (hn : n ≤ P50) (b : Rc) (hb : Bytes b.2.1 ∧ b.2.1.length ≤ 300) : CW base 21 [.c (.ptr 2 0), .c (.p (.int .i64 n)), .c (.p (recP b))] s (fun r s' => r = err (doF f T 0 n b).2.2 ∧ Lp (i + 1) s' (doF f T 0 n b).1 (doF f T 0 n b).2.1) := by
  have hP : P50 = 1125899906842624 := rfl
  unfold doF
  rw [if_pos rfl]
  have hRl := rsR_len T
  by_cases h1 : n < 1
  · rw [if_pos (.inl h1)]
    exact (W_append_e1 s n b.1 b.2.1 b.2.2 h1).mono fun r s' hr => ⟨hr.1, by rw [hr.2]; exact h.more⟩
  · by_cases h2 : T ≠ [] ∧ n - 1 ≠ lastM f T
    · rw [if_pos (.inr h2)]
      rw [lastM_ne h2.1] at h2
      exact (W_append_e2 h.inv n b.1 b.2.1 b.2.2 (by omega) (rsR_ne.2 h2.1) (by rw [hRl]; omega)).mono fun r s' hr => ⟨hr.1, by rw [hr.2]; exact h.more⟩
    · rw [if_neg (fun h => h.elim h1 h2)]
      obtain ⟨g, hg⟩ : ∃ g, g = if T = [] then n else f := ⟨_, rfl⟩
      have hgT : T ≠ [] → g = f := fun hT => by rw [hg, if_neg hT]
      have hgn : n = g + T.length := by
        by_cases hT : T = []
        · rw [hg, if_pos hT, hT]; simp
        · have h3 : n - 1 = lastM f T := Decidable.byContradiction fun h3 => h2 ⟨hT, h3⟩
          rw [lastM_ne hT] at h3
          rw [hgT hT]; omega
      have hlen := h.len
      have hr2 : 1 ≤ g ∧ g + (T ++ [b]).length ≤ P50 + 1 := by
        rw [List.length_append, List.length_cons, List.length_nil]
        by_cases hT : T = []
        · rw [hT] at hgn ⊢; simp at hgn ⊢; omega
        · have := h.rng hT
          rw [hgT hT] at hgn ⊢; omega
      have hb2 : ∀ t ∈ T ++ [b], Bytes t.2.1 ∧ t.2.1.length ≤ 300 := fun t ht => by
        rcases List.mem_append.1 ht with h4 | h4
        · exact h.b t h4
        · simp at h4; subst h4; exact hb
      have happ : rsR (T ++ [b]) = rsR T ++ [b.2.1] := by simp [rsR]
      have hok := rec_ok hb2 (by simp; omega) hr2
      rw [happ] at hok
      have hfl := h.flat hi
      refine (W_append h.inv g n (fun hR => hgT (rsR_ne.1 hR)) (by rw [hRl]; exact hgn) b.1 b.2.1 b.2.2 hb.1 (by omega) hok (by rw [hRl]; omega) (by omega) h.nl (by have := h.dk; omega)).mono fun r s' hr => ?_
      obtain ⟨r1, r2, r3, r4, r5, r6⟩ := hr
      rw [← hg]
      exact ⟨r1, by rw [happ]; exact r2, hb2, by simp; omega, fun _ => hr2, by rw [r5, wtN_wt]; have := h.dk; omega, fun hl => absurd hl r6⟩
theorem Lp.from (n : Int) (hn : n ≤ P50) (b : Rc) : CW base 25 [.c (.ptr 2 0), .c (.p (.int .i64 n))] s (fun r s' => r = err (doF f T 1 n b).2.2 ∧ Lp (i + 1) s' (doF f T 1 n b).1 (doF f T 1 n b).2.1) := by
  have hP : P50 = 1125899906842624 := rfl
  unfold doF
  rw [if_neg (by decide), if_pos rfl]
  have hRl := rsR_len T
  by_cases h1 : n < 1
  · rw [if_pos h1]
    exact (W_from_e1 s n h1).mono fun r s' hr => ⟨hr.1, by rw [hr.2]; exact h.more⟩
  rw [if_neg h1]
  by_cases h2 : T ≠ [] ∧ n ≤ lastM f T
  · rw [if_pos h2]
    obtain ⟨hT, h3⟩ := h2
    rw [lastM_ne hT] at h3
    have hlen := h.len
    obtain ⟨κ, hκ⟩ : ∃ κ, κ = (max 0 (n - f)).toNat := ⟨_, rfl⟩
    rw [← hκ]
    refine (W_from_y h.inv n (rsR_ne.2 hT) (by omega) (by rw [hRl]; omega) κ (by omega) (by have := h.dk; omega)).mono fun r s' hr => ?_
    obtain ⟨r1, r2, r3, r4, r5, r6⟩ := hr
    have hr := h.rng hT
    refine ⟨r1, by rw [rsR, List.map_take]; exact r2, fun t ht => h.b t (List.mem_of_mem_take ht), by rw [List.length_take]; omega, fun _ => by rw [List.length_take]; omega, by rw [r5, wtN_wt]; have := h.dk; omega, fun hl => absurd hl r6⟩
  · rw [if_neg h2]
    refine (W_from_n h.inv n (by omega) (fun hR => ?_)).mono fun r s' hr => ⟨hr.1, by rw [hr.2]; exact h.more⟩
    have hT := rsR_ne.1 hR
    have h3 : ¬ n ≤ lastM f T := fun h3 => h2 ⟨hT, h3⟩
    rw [lastM_ne hT] at h3
    rw [hRl]; omega
end
theorem Lp.sync {i : Nat} {s : WS} {f : Int} {T : List Rc} (h : Lp i s f T) : CW base 22 [.c (.ptr 2 0)] s (fun r s' => r = .tup [] ∧ s' = { s with L := s.F, lc := s.c, dk := none } ∧ Lp (i + 1) s' f T) :=
  (W_sync h.inv h.nl).mono fun r s' ⟨h1, h2⟩ => ⟨h1, h2, by
    subst h2
    exact ⟨⟨h.inv.ok, h.inv.room, h.inv.en, h.inv.lg, h.inv.first, h.inv.file, h.inv.sz⟩, h.b, by have := h.len; omega, h.rng, by simp [wtN], fun _ => rfl⟩⟩
theorem W_crash0 (room a b : Int) (L : FS) (lc : Nat) (F : FS) (c : Nat) (n torn : Int) : CallR Try.prog base wFam 0 23 [.c (.ptr 0 0), .c (.p (.int .i64 n)), .c (.p (.int .i64 torn))] ⟨room, a, b, L, lc, F, c, none, .no⟩ (fun r s' => r = .c (.ptr 0 0) ∧ s' = ⟨room, 0, 0, L, lc, L, lc, none, .no⟩) :=
  CallR.leaf (crash0_spec room L lc F c n torn) [(0, 0), (1, 3), (2, 4)] rfl rfl (by repeat' (first | exact True.intro | refine hpC rfl rfl rfl ?_ | refine ⟨⟨_, _, _, rfl, rfl, rfl, @WkO.rfl _⟩, ?_⟩ | refine HeapOK.acc rfl rfl ?_)) rfl rfl (.c (.ptr 0 0)) (⟨room, 0, 0, L, lc, L, lc, none, .no⟩ : WS) [(0, 8), (3, 9), (4, 10)] rfl rfl Wk.rfl (by repeat' (first | exact True.intro | refine hpC rfl rfl rfl ?_ | refine ⟨⟨_, _, _, rfl, rfl, rfl, @WkO.rfl _⟩, ?_⟩ | refine HeapOK.acc rfl rfl ?_)) ⟨rfl, rfl⟩
theorem LGok.opened (f : Int) (R : List (List Int)) : LGok f R (.own 0 R.length (rcsP R) (posR 0 f R)) := by
  refine ⟨rfl, by rw [rcsP_len]; omega, by rw [posR_len, rcsP_len], fun j b hj => ⟨false, ?_⟩, fun j hj => ?_⟩
  · rw [Nat.zero_add]; exact rcsP_at R j b hj
  · rw [Nat.zero_add, posR_at R 0 f j hj, Int.zero_add]
theorem W_open0 (a b : Int) (L : FS) (lc : Nat) (F : FS) (c : Nat) (f : Int) (R : List (List Int)) (hR : R ≠ [] → RecOK f R) (hF : Fok (flatR f R) F c) (hsz : (flatR f R).length ≤ 400000) :
    CallR Try.prog base wFam 1 20 [.c (.ptr 0 0)] ⟨mB, a, b, L, lc, F, c, none, .no⟩ (fun r s' => r = .tup [.c (.ptr 2 0), err 0] ∧ WInv s' f R ∧ s'.L = L ∧ s'.lc = lc ∧ s'.F = F ∧ s'.c = c ∧ s'.dk = none) := by
  cases R with
  | nil =>
    have hF' := hF
    rcases hF with ⟨-, rfl, rfl⟩ | ⟨⟨z, cp, rfl⟩, hc⟩
    · exact CallR.leaf (wopen_empty mB L lc [] 0 rfl rfl) [(0, 0), (1, 3), (2, 4)] rfl rfl (by repeat' (first | exact True.intro | refine hpC rfl rfl rfl ?_ | refine ⟨⟨_, _, _, rfl, rfl, rfl, @WkO.rfl _⟩, ?_⟩ | refine HeapOK.acc rfl rfl ?_)) rfl rfl (.tup [.c (.ptr 2 0), err 0]) (⟨mB, 0, 0, L, lc, [], 0, none, .nil⟩ : WS) [(0, 0), (2, 8), (3, 3), (4, 4)] rfl rfl Wk.rfl (by repeat' (first | exact True.intro | refine hpC rfl rfl rfl ?_ | refine ⟨⟨_, _, _, rfl, rfl, rfl, @WkO.rfl _⟩, ?_⟩ | refine HeapOK.acc rfl rfl ?_)) ⟨rfl, ⟨fun h => absurd rfl h, rfl, rfl, rfl, fun h => absurd rfl h, hF', by simp [flatR]⟩, rfl, rfl, rfl, rfl, rfl⟩
    · exact CallR.leaf (gopen_e mB L lc (f1 [119] (fP z (flatR f []) cp)) c z cp [] Bytes.nil (by simp) rfl rfl rfl rfl) [(0, 0), (1, 3), (2, 4)] rfl rfl (by repeat' (first | exact True.intro | refine hpC rfl rfl rfl ?_ | refine ⟨⟨_, _, _, rfl, rfl, rfl, @WkO.rfl _⟩, ?_⟩ | refine HeapOK.acc rfl rfl ?_)) rfl rfl (.tup [.c (.ptr 2 0), err 0]) (⟨mB, 0, 0, L, lc, f1 [119] (fP z (flatR f []) cp), c, none, .nil⟩ : WS) [(0, 0), (2, 8), (3, 3), (4, 4)] rfl rfl Wk.rfl (by repeat' (first | exact True.intro | refine hpC rfl rfl rfl ?_ | refine ⟨⟨_, _, _, rfl, rfl, rfl, @WkO.rfl _⟩, ?_⟩ | refine HeapOK.acc rfl rfl ?_)) ⟨rfl, ⟨fun h => absurd rfl h, rfl, rfl, rfl, fun h => absurd rfl h, hF', by simp [flatR]⟩, rfl, rfl, rfl, rfl, rfl⟩
  | cons b1 rest =>
    have hok := hR (by simp)
    have hF' := hF
    have hpos := flatR_pos hok
    rcases hF with ⟨h0, -, -⟩ | ⟨⟨z, cp, rfl⟩, hc⟩
    · rw [h0] at hpos; simp at hpos
    · exact CallR.leaf (gopen_n mB L lc (f1 [119] (fP z (flatR f (b1 :: rest)) cp)) c f b1 rest hok z cp (flatR f (b1 :: rest)) (flatR_bytes _ _ hok) (by omega) (scan_flat _ _ hok) rfl rfl rfl) [(0, 0), (1, 3), (2, 4)] rfl rfl (by repeat' (first | exact True.intro | refine hpC rfl rfl rfl ?_ | refine ⟨⟨_, _, _, rfl, rfl, rfl, @WkO.rfl _⟩, ?_⟩ | refine HeapOK.acc rfl rfl ?_)) rfl rfl (.tup [.c (.ptr 2 0), err 0]) (⟨mB, f, ((flatR f (b1 :: rest)).length : Nat), L, lc, f1 [119] (fP z (flatR f (b1 :: rest)) cp), c, none, .own 0 (b1 :: rest).length (rcsP (b1 :: rest)) (posR 0 f (b1 :: rest))⟩ : WS) [(0, 0), (2, 8), (3, 3), (4, 4), (6, 9), (7, 10)] rfl rfl Wk.rfl (by repeat' (first | exact True.intro | refine hpC rfl rfl rfl ?_ | refine ⟨⟨_, _, _, rfl, rfl, rfl, @WkO.rfl _⟩, ?_⟩ | refine HeapOK.acc rfl rfl ?_)) ⟨rfl, ⟨fun _ => hok, rfl, rfl, LGok.opened _ _, fun _ => rfl, hF', hsz⟩, rfl, rfl, rfl, rfl, rfl⟩
end Go.Proofs.Ytjlfojgacnphmaa

namespace Go.Proofs.Ytjlfojgacnphmaa
open Go.RowKit Sim Go Sym
set_option maxRecDepth 100000
set_option linter.unusedVariables false
set_option linter.unusedSimpArgs false
variable {base : Nat}
def cA (S : List Int) : Chg := ⟨0, [119], [], false, S, none, 0⟩
def cC (p : Nat) : Chg := ⟨1, [119], [], true, [], none, p⟩
def cF (X : List Int) : Chg := ⟨0, frN, [], false, X, none, 0⟩
def cM : Chg := ⟨3, frN, [119], true, [], none, 0⟩
def cR : Chg := ⟨2, frN, [], true, [], none, 0⟩
def Dk (B : List Int) : Option (List Int) → FS × Nat → Prop
  | none, s => Fok B s.1 s.2
  | some X, s => ∃ z cp z' cp' b, s.1 = [(0, [119], fP z B cp), (b, frN, fP z' X cp')] ∧ 1 ≤ b ∧ b < s.2
theorem Dk.app {B : List Int} {s : FS × Nat} (h : Dk B none s) (S : List Int) (k : Nat) (hk : k ≤ S.length) (hB : B.length ≤ 100000000) (hS : S.length ≤ 100000000) : ∃ t, Do (cA S) k s t ∧ Dk (B ++ S.take k) none t := by
  obtain ⟨F, c⟩ := s
  have h : Fok B F c := h
  rcases h with ⟨rfl, rfl, rfl⟩ | ⟨⟨z, cp, rfl⟩, hc⟩
  · refine ⟨_, .new rfl hk hS rfl, ?_⟩
    show Fok _ (f1 [119] (apF true [] (S.take k))) 1
    by_cases h0 : S.take k = []
    · rw [h0]; exact .inr ⟨⟨_, _, rfl⟩, Nat.le_refl _⟩
    · rw [apF, if_neg h0]; exact .inr ⟨⟨_, _, rfl⟩, Nat.le_refl _⟩
  · refine ⟨_, .app rfl hk hS rfl hB, ?_⟩
    show Fok _ (f1 [119] (apF (z && (u8P B).isEmpty) B (S.take k))) c
    by_cases h0 : S.take k = []
    · rw [h0, List.append_nil]; exact .inr ⟨⟨_, _, rfl⟩, hc⟩
    · rw [apF, if_neg h0]; exact .inr ⟨⟨_, _, rfl⟩, hc⟩
theorem Dk.cutd {B : List Int} {s : FS × Nat} (h : Dk B none s) (hB : B ≠ []) (p k : Nat) (hp : p ≤ B.length) : ∃ t, Do (cC p) k s t ∧ Dk (B.take p) none t := by
  obtain ⟨F, c⟩ := s
  have h : Fok B F c := h
  rcases h with ⟨rfl, rfl, rfl⟩ | ⟨⟨z, cp, rfl⟩, hc⟩
  · exact absurd rfl hB
  · exact ⟨_, .cut rfl rfl rfl hp, .inr ⟨⟨_, _, rfl⟩, hc⟩⟩
theorem Dk.frs {B : List Int} {s : FS × Nat} (h : Dk B none s) (hB : B ≠ []) (X : List Int) (k : Nat) (hk : k ≤ X.length) (hX : X.length ≤ 100000000) : ∃ t, Do (cF X) k s t ∧ Dk B (some (X.take k)) t := by
  obtain ⟨F, c⟩ := s
  have h : Fok B F c := h
  rcases h with ⟨rfl, rfl, rfl⟩ | ⟨⟨z, cp, rfl⟩, hc⟩
  · exact absurd rfl hB
  · refine ⟨_, .new rfl hk hX rfl, ?_⟩
    have hc' : 1 ≤ c := hc
    by_cases h0 : X.take k = []
    · refine ⟨z, cp, true, some 0, c, ?_, hc', Nat.lt_succ_self c⟩
      show [(0, [119], fP z B cp), (c, frN, apF true [] (X.take k))] = _
      rw [h0, apF, if_pos rfl]; rfl
    · refine ⟨z, cp, false, none, c, ?_, hc', Nat.lt_succ_self c⟩
      show [(0, [119], fP z B cp), (c, frN, apF true [] (X.take k))] = _
      rw [apF, if_neg h0]; rfl
theorem Dk.mvd {B X : List Int} {s : FS × Nat} (h : Dk B (some X) s) (k : Nat) : ∃ t, Do cM k s t ∧ Dk X none t := by
  obtain ⟨F, c⟩ := s
  obtain ⟨z, cp, z', cp', b, h1, h2, h3⟩ := h
  have h1 : F = _ := h1
  subst h1
  have h3 : b < c := h3
  exact ⟨_, .mv (z := z') (old := X) (oc := cp') rfl rfl, .inr ⟨⟨_, _, rfl⟩, show 1 ≤ c by omega⟩⟩
theorem Dk.rmd {B X : List Int} {s : FS × Nat} (h : Dk B (some X) s) (k : Nat) : ∃ t, Do cR k s t ∧ Dk B none t := by
  obtain ⟨F, c⟩ := s
  obtain ⟨z, cp, z', cp', b, h1, h2, h3⟩ := h
  have h1 : F = _ := h1
  subst h1
  have h3 : b < c := h3
  exact ⟨_, .rm rfl rfl, .inr ⟨⟨_, _, rfl⟩, show 1 ≤ c by omega⟩⟩
inductive Stp : List Int → List Chg → List Int → Prop where
  | nop {B : List Int} : Stp B [] B
  | app {B : List Int} (x : List Int) (hx : x.length ≤ 65536) (hb : Bytes x) : Stp B [cA (sealB x)] (B ++ sealB x)
  | cut {B : List Int} (p : Nat) (hB : B ≠ []) (hp : p ≤ B.length) : Stp B [cC p] (B.take p)
  | unt {B : List Int} (X : List Int) (hB : B ≠ []) : Stp B [cF X, cM] X
inductive Pth : List Int → List Chg → List (List Int) → Prop where
  | nil {B : List Int} : Pth B [] []
  | cons {B B' : List Int} {V W : List Chg} {l : List (List Int)} (h : Stp B V B') (t : Pth B' W l) : Pth B (V ++ W) (B' :: l)
theorem Pth.snoc {B : List Int} {V : List Chg} {l : List (List Int)} (h : Pth B V l) : ∀ {E B' : List Int} {W : List Chg}, (B :: l).getLast? = some E → Stp E W B' → Pth B (V ++ W) (l ++ [B']) := by
  induction h with
  | nil =>
    intro E B' W he hs
    simp at he
    subst he
    have := Pth.cons hs .nil
    simpa using this
  | @cons B B1 V V2 l hs hp ih =>
    intro E B' W he hs2
    have := ih (E := E) (B' := B') (W := W) (by rw [List.getLast?_cons_cons] at he; exact he) hs2
    rw [List.append_assoc]
    exact .cons hs this
theorem CrR.stop {n torn : Int} : ∀ (V : List Chg) (j : Nat) (s : FS × Nat), n < j → CrR n torn V j s s
  | [], _, _, _ => rfl
  | x :: V, j, s, h => ⟨s, by rw [Cr1, if_neg (by omega), if_neg (by omega)], CrR.stop V (j + 1) s (by omega)⟩
def Tl1 (tl : List Int) : Prop := ∃ x k, (x.length ≤ 65536 ∧ Bytes x) ∧ tl = (sealB x).take k ∧ k < (sealB x).length
theorem Tl1.nil : Tl1 [] := ⟨[], 0, ⟨by simp, Bytes.nil⟩, rfl, by rw [seal_len (by simp)]; simp⟩
theorem Tl1.first {tl : List Int} (h : Tl1 tl) : firstB tl = none := by
  obtain ⟨x, k, ⟨hx, hb⟩, rfl, hk⟩ := h
  rw [seal_len hx] at hk
  exact cut_first hx hk
theorem Tl1.bytes {tl : List Int} (h : Tl1 tl) : tl.length ≤ 65544 := by
  obtain ⟨x, k, ⟨hx, hb⟩, rfl, hk⟩ := h
  rw [seal_len hx] at hk
  rw [List.length_take]; omega
theorem Tl1.isB {tl : List Int} (h : Tl1 tl) : Bytes tl := by
  obtain ⟨x, k, ⟨hx, hb⟩, rfl, hk⟩ := h
  exact fun y hy => seal_bytes hb y (List.mem_of_mem_take hy)
theorem scan_torn {tl : List Int} (ht : Tl1 tl) : ∀ (R : List (List Int)) (f : Int), (R ≠ [] → RecOK f R) → scan (flatR f R ++ tl) = (recsR f R, (flatR f R).length)
  | [], f, _ => by rw [flatR, List.nil_append, scan_none ht.first]; rfl
  | b :: R, f, h => by
    have h := h (by simp)
    have hb := h.b b (by simp)
    have hl := recB_len (n := f) h.f.1 (by have := h.f.2; simp only [List.length_cons] at this; omega) hb.2
    have h1 : firstB (flatR f (b :: R) ++ tl) = some (recB f b) := by rw [flatR, List.append_assoc]; exact first_seal (by omega) _
    have hs := seal_len (xs := recB f b) (by omega)
    rw [scan_some h1]
    have hd : (flatR f (b :: R) ++ tl).drop (8 + (recB f b).length) = flatR (f + 1) R ++ tl := by rw [flatR, List.append_assoc]; exact List.drop_left' hs
    rw [hd, scan_torn ht R (f + 1) (fun _ => h.tail)]
    simp only [flatR, recsR, List.length_append, hs]
structure Left (B : List Int) (l : List (List Int)) (t : FS × Nat) (E tl : List Int) (X : Option (List Int)) : Prop where
  at_ : E ∈ B :: l
  dk : Dk (E ++ tl) X t
  tail : Tl1 tl
  fr : X ≠ none → tl = [] ∧ E ≠ []
theorem Left.more {B B' : List Int} {l : List (List Int)} {t : FS × Nat} {E tl : List Int} {X : Option (List Int)} (h : Left B' l t E tl X) : Left B (B' :: l) t E tl X := ⟨List.mem_cons_of_mem _ h.at_, h.dk, h.tail, h.fr⟩
theorem Pth.crash {n torn : Int} {B : List Int} {V : List Chg} {l : List (List Int)} (h : Pth B V l) : ∀ (j : Nat) (s : FS × Nat), Dk B none s → (∀ E ∈ B :: l, E.length ≤ 10000000) → ∃ t E tl X, CrR n torn V j s t ∧ Left B l t E tl X := by
  induction h with
  | @nil B => exact fun j s hs _ => ⟨s, B, [], none, rfl, List.mem_cons_self .., by rw [List.append_nil]; exact hs, Tl1.nil, fun h => absurd rfl h⟩
  | @cons B B' V W l st hp ih =>
    intro j s hs hE
    have hB := hE B (by simp)
    have hE' : ∀ E ∈ B' :: l, E.length ≤ 10000000 := fun E h => hE E (List.mem_cons_of_mem _ h)
    have stay : Left B (B' :: l) s B [] none := ⟨List.mem_cons_self .., by rw [List.append_nil]; exact hs, Tl1.nil, fun h => absurd rfl h⟩
    cases st with
    | nop =>
      obtain ⟨t, E, tl, X, h1, h2⟩ := ih j s hs hE'
      exact ⟨t, E, tl, X, h1, h2.more⟩
    | app x hx hb =>
      have hsl := seal_len hx
      have hd : ∀ k, k ≤ (sealB x).length → ∃ t, Do (cA (sealB x)) k s t ∧ Dk (B ++ (sealB x).take k) none t := fun k hk => hs.app (sealB x) k hk (by omega) (by omega)
      by_cases h1 : (j : Int) < n
      · obtain ⟨u, d1, d2⟩ := hd _ (Nat.le_refl _)
        rw [List.take_length] at d2
        obtain ⟨t, E, tl, X, g1, g2⟩ := ih (j + 1) u d2 hE'
        exact ⟨t, E, tl, X, ⟨u, by rw [Cr1, if_pos h1]; exact d1, g1⟩, g2.more⟩
      by_cases h2 : (j : Int) = n ∧ 0 ≤ torn
      · obtain ⟨k, hk⟩ : ∃ k, k = min torn.toNat (sealB x).length := ⟨_, rfl⟩
        obtain ⟨u, d1, d2⟩ := hd k (by omega)
        have hc : CrR n torn (cA (sealB x) :: W) j s u := ⟨u, by rw [Cr1, if_neg h1, if_pos ⟨h2.1, h2.2, rfl⟩]; rw [hk] at d1; exact d1, CrR.stop W (j + 1) u (by omega)⟩
        by_cases h3 : k = (sealB x).length
        · rw [h3, List.take_length] at d2
          exact ⟨u, B ++ sealB x, [], none, hc, List.mem_cons_of_mem _ (List.mem_cons_self ..), by rw [List.append_nil]; exact d2, Tl1.nil, fun h => absurd rfl h⟩
        · exact ⟨u, B, (sealB x).take k, none, hc, List.mem_cons_self .., d2, ⟨x, k, ⟨hx, hb⟩, rfl, by omega⟩, fun h => absurd rfl h⟩
      · exact ⟨s, B, [], none, ⟨s, by rw [Cr1, if_neg h1, if_neg (fun h => h2 ⟨h.1, h.2.1⟩)], CrR.stop W (j + 1) s (by omega)⟩, stay⟩
    | cut p hBn hp2 =>
      by_cases h1 : (j : Int) < n
      · obtain ⟨u, d1, d2⟩ := hs.cutd hBn p 0 hp2
        obtain ⟨t, E, tl, X, g1, g2⟩ := ih (j + 1) u d2 hE'
        exact ⟨t, E, tl, X, ⟨u, by rw [Cr1, if_pos h1]; exact d1, g1⟩, g2.more⟩
      · exact ⟨s, B, [], none, ⟨s, by rw [Cr1, if_neg h1, if_neg (fun h => absurd h.2.2 (show ¬ (1 : Int) = 0 by decide))], CrR.stop W (j + 1) s (by omega)⟩, stay⟩
    | unt X hBn =>
      have hXl : B'.length ≤ 10000000 := hE' B' (by simp)
      by_cases h1 : (j : Int) < n
      · obtain ⟨u, d1, d2⟩ := hs.frs hBn B' _ (Nat.le_refl _) (by omega)
        rw [List.take_length] at d2
        by_cases h2 : ((j + 1 : Nat) : Int) < n
        · obtain ⟨v, e1, e2⟩ := d2.mvd 0
          obtain ⟨t, E, tl, X, g1, g2⟩ := ih (j + 1 + 1) v e2 hE'
          exact ⟨t, E, tl, X, ⟨u, by rw [Cr1, if_pos h1]; exact d1, v, by rw [Cr1, if_pos h2]; exact e1, g1⟩, g2.more⟩
        · exact ⟨u, B, [], some B', ⟨u, by rw [Cr1, if_pos h1]; exact d1, u, by rw [Cr1, if_neg h2, if_neg (fun h => absurd h.2.2 (show ¬ (3 : Int) = 0 by decide))], CrR.stop W (j + 1 + 1) u (by omega)⟩, List.mem_cons_self .., by rw [List.append_nil]; exact d2, Tl1.nil, fun _ => ⟨rfl, hBn⟩⟩
      by_cases h2 : (j : Int) = n ∧ 0 ≤ torn
      · obtain ⟨k, hk⟩ : ∃ k, k = min torn.toNat B'.length := ⟨_, rfl⟩
        obtain ⟨u, d1, d2⟩ := hs.frs hBn B' k (by omega) (by omega)
        rw [hk] at d1
        exact ⟨u, B, [], some (B'.take k), ⟨u, by rw [Cr1, if_neg h1, if_pos ⟨h2.1, h2.2, rfl⟩]; exact d1, CrR.stop (cM :: W) (j + 1) u (by omega)⟩, List.mem_cons_self .., by rw [List.append_nil]; exact d2, Tl1.nil, fun _ => ⟨rfl, hBn⟩⟩
      · exact ⟨s, B, [], none, ⟨s, by rw [Cr1, if_neg h1, if_neg (fun h => h2 ⟨h.1, h.2.1⟩)], CrR.stop (cM :: W) (j + 1) s (by omega)⟩, stay⟩
end Go.Proofs.Ytjlfojgacnphmaa

namespace Go.Proofs.Ytjlfojgacnphmaa
open Go.RowKit Sim Go Sym
set_option maxRecDepth 100000
set_option linter.unusedVariables false
set_option linter.unusedSimpArgs false
variable {base : Nat}
def hO1w (room first en : Int) (L : FS) (lc : Nat) (F : FS) (c : Nat) (w : PC) (W : List PC) (x : PC) (X : List PC) (y : PC) (Y : List PC) : HS := ⟨[(6, some (.els 1 (y :: Y))), (5, some (.els 1 (x :: X))), (4, some (.els 5 (w :: W))), (3, some (.row [.ptr 0 0, .p (.int .i64 first), .acc 5 1 (x :: X), .acc 6 1 (y :: Y), .p (.int .i64 en)] true)), (2, some (fM F c)), (1, some (fM L lc)), (0, some (.row [.p (.int .i64 room), .mp 1, .mp 2, .acc 4 5 (w :: W)] true))], 7⟩
def hOGw (room first en : Int) (m : Nat) (L : FS) (lc : Nat) (F : FS) (c : Nat) (w : PC) (W : List PC) (X Y : List PC) : HS := ⟨[(6, some (.els 1 Y)), (5, some (.els 1 X)), (4, some (.els 5 (w :: W))), (3, some (.row [.ptr 0 0, .p (.int .i64 first), .sl 5 0 m 1 none, .sl 6 0 m 1 none, .p (.int .i64 en)] true)), (2, some (fM F c)), (1, some (fM L lc)), (0, some (.row [.p (.int .i64 room), .mp 1, .mp 2, .acc 4 5 (w :: W)] true))], 7⟩
theorem open_loopw (room : Int) (L : FS) (lc : Nat) (F : FS) (c : Nat) (w : PC) (W : List PC) (B : List Int) (zb : Bool) (f : Int) (R : List (List Int)) (h : RecOK f R) (Q : QX) (hq : ∀ b0 pr, R = b0 :: pr → Q (.exit 0) (opE B zb) (hO1w room f ((flatR f R).length : Nat) L lc F c w W (rcP b0) (rcsP pr) (.int .i64 0) (yP b0 f pr))) :
    ∀ (rest : List (List Int)) (b0 : List Int) (pr : List (List Int)), R = (b0 :: pr) ++ rest → XH Try.prog base lWop.1.n 3 (lWop.1.c.lp 0) (opE B zb ++ [(31, .c (.p (.tz true 1 (sksP (recsR f R)) none))), (32, .c (.p (.int .i64 R.length))), (33, .c (.p (.int .i64 (b0 :: pr).length)))]) (hO1w room f ((flatR f (b0 :: pr)).length : Nat) L lc F c w W (rcP b0) (rcsP pr) (.int .i64 0) (yP b0 f pr)) Q := by
  have hsl : (sksP (recsR f R)).length = R.length := by simp [sksP, recsR_len]
  intro rest
  induction rest with
  | nil =>
    intro b0 pr hp
    rw [List.append_nil] at hp
    have hq' := hq b0 pr hp
    rw [hp] at hq'
    have hlen : R.length = (b0 :: pr).length := by rw [hp]
    refine M.round (M.go rfl ?_)
    refine M.cond rfl (fun hn => absurd hn (by omega)) (fun _ => ?_)
    refine M.ren [(0, 0), (1, 1), (2, 2), (3, 3), (4, 4), (5, 5), (6, 6)] ?_ trivial rfl (by repeat' (first | exact True.intro | refine evC rfl rfl Wk.rfl ?_ | refine evC (accV_ren rfl) rfl Wk.rfl ?_ | refine evC (accV_ren rfl) rfl Wk.acc0 ?_ | refine evC rfl rfl Wk.uncap ?_ | refine evC rfl rfl Wk.nil ?_)) (by repeat' (first | exact True.intro | refine hpC rfl rfl rfl ?_ | refine ⟨⟨_, _, _, rfl, rfl, rfl, @WkO.rfl _⟩, ?_⟩ | refine HeapOK.acc rfl rfl ?_)) (e' := opE B zb) (h' := hO1w room f ((flatR f (b0 :: pr)).length : Nat) L lc F c w W (rcP b0) (rcsP pr) (.int .i64 0) (yP b0 f pr))
    exact M.exit (M.go rfl (M.done hq'))
  | cons b rest ih =>
    intro b0 pr hp
    have hY := yP_len b0 f pr
    have hya := yP_app b0 f pr b
    have hlen : R.length = (b0 :: pr).length + (rest.length + 1) := by rw [hp]; simp; omega
    obtain ⟨j, hj⟩ : ∃ j, j = (b0 :: pr).length := ⟨_, rfl⟩
    have hj2 : j = pr.length + 1 := hj
    obtain ⟨n, hn⟩ : ∃ n : Int, n = f + j := ⟨_, rfl⟩
    have hRl := h.l
    have hf := h.f
    have hbb := h.b b (by rw [hp]; simp)
    have hl := recB_len (n := n) (b := b) (by omega) (by omega) hbb.2
    have hBs := recB_bytes (n := n) hbb.1
    have hn64 : InI64 n := ⟨by omega, by omega⟩
    have hnum := num_rec hn64 b
    have hat := recsR_at R f (b0 :: pr) b rest hp
    rw [← hj, ← hn] at hat
    have hu : (sksP (recsR f R))[((j : Int)).toNat]? = some (skP (recB n b)) := by rw [show ((j : Int)).toNat = j by omega, sksP, List.getElem?_map, hat]; rfl
    have hw2 : IntKind.i64.wrap ((j : Int) + 1) = ((j + 1 : Nat) : Int) := by rw [wr64 (by omega) (by omega)]; omega
    have hrok : (⟨false, recB n b, false⟩ : RS).ok := ⟨by show (recB n b).length ≤ _; omega, hBs, fun e => (by cases e), fun e => (by cases e)⟩
    have hrn := rnum_spec (base := base) ⟨false, recB n b, false⟩ hrok
    rw [hnum] at hrn
    have hfl : flatR f (b0 :: pr ++ [b]) = flatR f (b0 :: pr) ++ sealB (recB n b) := by rw [flatR_app, ← hj, ← hn]
    have hsn := seal_len (xs := recB n b) (by omega)
    have hfle := flatR_len (b0 :: pr) f ⟨⟨hf.1, by rw [hlen] at hf; omega⟩, by omega, fun c hc => h.b c (by rw [hp]; exact List.mem_append_left _ hc)⟩
    rw [← hj] at hfle ⊢
    have ih' := ih b0 (pr ++ [b])
    rw [show b0 :: (pr ++ [b]) = b0 :: pr ++ [b] from rfl, hfl, show (b0 :: pr ++ [b]).length = j + 1 by rw [hj]; simp, show (flatR f (b0 :: pr) ++ sealB (recB n b)).length = (flatR f (b0 :: pr)).length + (sealB (recB n b)).length from List.length_append] at ih'
    obtain ⟨E, hE⟩ : ∃ E, E = (flatR f (b0 :: pr)).length := ⟨_, rfl⟩
    rw [hya] at ih'
    rw [← hE] at ih' hfle ⊢
    generalize yP b0 f pr = Y at *
    generalize hy0 : PC.int .i64 (0 : Int) = y at *
    refine M.round (M.go rfl ?_)
    refine M.cond rfl (fun _ => ?_) (fun hn => absurd (by omega) hn)
    refine M.go rfl ?_
    refine M.op trivial (SOp.ia rfl rfl (by omega) hu) ?_
    refine M.op trivial (SOp.ld1e rfl hu rfl rfl rfl) ?_
    refine M.go rfl ?_
    refine M.use trivial (rread_spec false (recB n b) none (by omega)) [] rfl rfl rfl trivial rfl rfl ?_
    refine M.go rfl ?_
    refine M.use trivial hrn [(0, 7)] rfl rfl rfl (by repeat' (first | exact True.intro | refine hpC rfl rfl rfl ?_ | refine ⟨⟨_, _, _, rfl, rfl, rfl, @WkO.rfl _⟩, ?_⟩ | refine HeapOK.acc rfl rfl ?_)) rfl rfl ?_
    refine M.go rfl ?_
    refine M.use trivial (rleft_spec ⟨false, b, false⟩) [(0, 7)] rfl rfl rfl (by repeat' (first | exact True.intro | refine hpC rfl rfl rfl ?_ | refine ⟨⟨_, _, _, rfl, rfl, rfl, @WkO.rfl _⟩, ?_⟩ | refine HeapOK.acc rfl rfl ?_)) rfl rfl ?_
    refine M.go rfl ?_
    rw [u8P_len]
    have hdr : (recB n b).drop ((recB n b).length - b.length) = b := by rw [recB, List.length_append, Nat.add_sub_cancel]; exact List.drop_left' rfl
    rw [wr64 (n := ((recB n b).length : Int) - (b.length : Int)) (by omega) (by omega)]
    refine M.op trivial (SOp.sl (l := (recB n b).length - b.length) (r := (recB n b).length) rfl ⟨_, _, rfl, by omega, by omega⟩ (u8P_len _).symm (by omega) (by rw [u8P_len]; omega)) ?_
    rw [u8P_drop, hdr, List.take_of_length_le (by rw [u8P_len]; omega)]
    refine M.go rfl ?_
    refine M.use trivial (rok_spec ⟨false, b, false⟩) [(0, 7)] rfl rfl rfl (by repeat' (first | exact True.intro | refine hpC rfl rfl rfl ?_ | refine ⟨⟨_, _, _, rfl, rfl, rfl, @WkO.rfl _⟩, ?_⟩ | refine HeapOK.acc rfl rfl ?_)) rfl rfl ?_
    refine M.go rfl ?_
    refine M.decB rfl (fun hn => by cases hn) (fun _ => ?_)
    refine M.go rfl ?_
    refine M.dec rfl (fun hn => absurd hn (by omega)) (fun _ => ?_)
    refine M.go rfl ?_
    refine M.dec rfl (fun hn => absurd hn (by rw [u8P_len]; omega)) (fun _ => ?_)
    refine M.go rfl ?_
    refine M.dec rfl (fun _ => ?_) (fun hn => absurd (by simp) hn)
    refine M.go rfl ?_
    have hXl : (rcsP pr).length = pr.length := by simp [rcsP]
    refine M.use (by first | exact True.intro | exact rfl) (last11_spec room f (E : Int) L lc F c w W (rcP b0) (rcsP pr) y Y (by omega) ⟨by omega, by omega⟩) [(0, 3), (1, 0), (2, 1), (3, 2), (4, 4), (5, 5), (6, 6)] rfl rfl rfl (by repeat' (first | exact True.intro | refine hpC rfl rfl rfl ?_ | refine ⟨⟨_, _, _, rfl, rfl, rfl, @WkO.rfl _⟩, ?_⟩ | refine HeapOK.acc rfl rfl ?_)) rfl rfl ?_
    refine M.go rfl ?_
    rw [hXl, wr64 (n := f + (pr.length : Int) + 1) (by omega) (by omega)]
    refine M.condN rfl (fun hn' => absurd (by omega) hn') (fun _ => ?_)
    refine M.go rfl ?_
    refine M.use0 trivial (sealS_yes false none (recB n b) hBs (by omega)) rfl rfl rfl ?_
    refine M.go rfl ?_
    rw [u8P_len]
    refine M.use trivial (add11_spec room f (E : Int) L lc F c w W (rcP b0) (rcsP pr) y Y n false b none ((sealB (recB n b)).length : Int) (by omega) (by omega) (by omega) ⟨by omega, by omega⟩ ⟨by omega, by omega⟩) [(0, 3), (1, 0), (2, 1), (3, 2), (4, 4), (5, 5), (6, 6)] rfl rfl rfl (by repeat' (first | exact True.intro | refine hpC rfl rfl rfl ?_ | refine ⟨⟨_, _, _, rfl, rfl, rfl, @WkO.rfl _⟩, ?_⟩ | refine HeapOK.acc rfl rfl ?_)) rfl rfl ?_
    refine M.go rfl ?_
    rw [hw2, show (E : Int) + ((sealB (recB n b)).length : Int) = ((E + (sealB (recB n b)).length : Nat) : Int) by omega, show rcsP pr ++ [fP false b none] = rcsP (pr ++ [b]) by simp [rcsP, rcP]]
    exact M.again (XH.ren [(0, 0), (1, 1), (2, 2), (3, 3), (4, 4), (5, 8), (6, 9)] (ih' (by rw [hp]; simp)) rfl (by repeat' (first | exact True.intro | refine evC rfl rfl Wk.rfl ?_ | refine evC (accV_ren rfl) rfl Wk.rfl ?_ | refine evC (accV_ren rfl) rfl Wk.acc0 ?_ | refine evC rfl rfl Wk.uncap ?_ | refine evC rfl rfl Wk.nil ?_)) (by repeat' (first | exact True.intro | refine hpC rfl rfl rfl ?_ | refine ⟨⟨_, _, _, rfl, rfl, rfl, @WkO.rfl _⟩, ?_⟩ | refine HeapOK.acc rfl rfl ?_)))
theorem gopen_nf (room : Int) (L : FS) (lc : Nat) (F : FS) (c : Nat) (f : Int) (b : List Int) (rest : List (List Int)) (h : RecOK f (b :: rest)) (zF : Bool) (cp : Option Nat) (B : List Int) (hBB : Bytes B) (hBl : B.length ≤ 1000000000) (hscan : scan B = (recsR f (b :: rest), (flatR f (b :: rest)).length)) (hT : (flatR f (b :: rest)).length = B.length) (v : PC) (h1 : findP frN F = some v) (h2 : findP [119] (delP frN F) = some (fP zF B cp)) : CallS Try.prog base 20 [.c (.ptr 0 0)] (hD0 room L lc F c) (.tup [.c (.ptr 3 0), .c (.p (.int .i64 0))]) (hOGw room f ((flatR f (b :: rest)).length : Nat) (rest.length + 1) L lc (delP frN F) c cR.pc [] (rcsP (b :: rest)) (posR 0 f (b :: rest))) := by
  rw [posR_cons]
  have hBF := flatR_bytes (b :: rest) f h
  have hFl := flatR_len (b :: rest) f h
  have hRl := h.l
  have hf := h.f
  have hsc := scan_spec (base := base) zF B none hBB (by omega)
  rw [hscan] at hsc
  have hsl : (sksP (recsR f (b :: rest))).length = (b :: rest).length := by simp [sksP, recsR_len]
  have hbb := h.b b (by simp)
  have hl := recB_len (n := f) (b := b) (by omega) (by omega) hbb.2
  have hBs := recB_bytes (n := f) hbb.1
  have hn64 : InI64 f := ⟨by omega, by omega⟩
  have hnum := num_rec hn64 b
  have hrok : (⟨false, recB f b, false⟩ : RS).ok := ⟨by show (recB f b).length ≤ _; omega, hBs, fun e => (by cases e), fun e => (by cases e)⟩
  have hrn := rnum_spec (base := base) ⟨false, recB f b, false⟩ hrok
  rw [hnum] at hrn
  have hsn := seal_len (xs := recB f b) (by omega)
  have hu : (sksP (recsR f (b :: rest)))[((0 : Int)).toNat]? = some (skP (recB f b)) := rfl
  have h1f : (flatR f [b]).length = (sealB (recB f b)).length := by simp [flatR]
  refine CallS.of noNG lWop.2 rfl (M.start (M.go rfl ?_))
  refine M.use trivial (remove0_spec room L lc F c frN v h1) [(0, 0), (1, 1), (2, 2)] rfl rfl rfl (by repeat' (first | exact True.intro | refine hpC rfl rfl rfl ?_ | refine ⟨⟨_, _, _, rfl, rfl, rfl, @WkO.rfl _⟩, ?_⟩ | refine HeapOK.acc rfl rfl ?_)) rfl rfl ?_
  refine M.go rfl ?_
  refine M.use trivial (read1_spec room L lc (delP frN F) c cR.pc [] [119] zF B cp h2 (by omega)) [(0, 0), (1, 1), (2, 2), (3, 4)] rfl rfl rfl (by repeat' (first | exact True.intro | refine hpC rfl rfl rfl ?_ | refine ⟨⟨_, _, _, rfl, rfl, rfl, @WkO.rfl _⟩, ?_⟩ | refine HeapOK.acc rfl rfl ?_)) rfl rfl ?_
  refine M.go rfl ?_
  refine M.use0 trivial hsc rfl rfl rfl ?_
  refine M.go rfl ?_
  refine M.loop (M.round (M.go rfl ?_))
  refine M.cond rfl (fun _ => ?_) (fun hn => absurd (by rw [hsl]; simp) hn)
  refine M.go rfl ?_
  refine M.op trivial (SOp.ia rfl rfl (by omega) hu) ?_
  refine M.op trivial (SOp.ld1e rfl hu rfl rfl rfl) ?_
  refine M.go rfl ?_
  refine M.use trivial (rread_spec false (recB f b) none (by omega)) [] rfl rfl rfl trivial rfl rfl ?_
  refine M.go rfl ?_
  refine M.use trivial hrn [(0, 5)] rfl rfl rfl (by repeat' (first | exact True.intro | refine hpC rfl rfl rfl ?_ | refine ⟨⟨_, _, _, rfl, rfl, rfl, @WkO.rfl _⟩, ?_⟩ | refine HeapOK.acc rfl rfl ?_)) rfl rfl ?_
  refine M.go rfl ?_
  refine M.use trivial (rleft_spec ⟨false, b, false⟩) [(0, 5)] rfl rfl rfl (by repeat' (first | exact True.intro | refine hpC rfl rfl rfl ?_ | refine ⟨⟨_, _, _, rfl, rfl, rfl, @WkO.rfl _⟩, ?_⟩ | refine HeapOK.acc rfl rfl ?_)) rfl rfl ?_
  refine M.go rfl ?_
  rw [u8P_len (recB f b)]
  have hdr : (recB f b).drop ((recB f b).length - b.length) = b := by rw [recB, List.length_append, Nat.add_sub_cancel]; exact List.drop_left' rfl
  rw [wr64 (n := ((recB f b).length : Int) - (b.length : Int)) (by omega) (by omega)]
  refine M.op trivial (SOp.sl (l := (recB f b).length - b.length) (r := (recB f b).length) rfl ⟨_, _, rfl, by omega, by omega⟩ (u8P_len _).symm (by omega) (by rw [u8P_len]; omega)) ?_
  rw [u8P_drop, hdr, List.take_of_length_le (by rw [u8P_len]; omega)]
  refine M.go rfl ?_
  refine M.use trivial (rok_spec ⟨false, b, false⟩) [(0, 5)] rfl rfl rfl (by repeat' (first | exact True.intro | refine hpC rfl rfl rfl ?_ | refine ⟨⟨_, _, _, rfl, rfl, rfl, @WkO.rfl _⟩, ?_⟩ | refine HeapOK.acc rfl rfl ?_)) rfl rfl ?_
  refine M.go rfl ?_
  refine M.decB rfl (fun hn => by cases hn) (fun _ => ?_)
  refine M.go rfl ?_
  refine M.dec rfl (fun hn => absurd hn (by omega)) (fun _ => ?_)
  refine M.go rfl ?_
  refine M.dec rfl (fun hn => absurd hn (by rw [u8P_len]; omega)) (fun _ => ?_)
  refine M.go rfl ?_
  refine M.dec rfl (fun hn => absurd hn (by simp)) (fun _ => ?_)
  refine M.go rfl ?_
  refine M.use0 trivial (sealS_yes false none (recB f b) hBs (by omega)) rfl rfl rfl ?_
  refine M.go rfl ?_
  rw [u8P_len (sealB (recB f b))]
  refine M.shO (Sh.wkH (b0 := 3) (o' := .row [.ptr 0 0, .p (.int .i64 0), .p (.tz true 1 [] none), .p (.tz true 1 [] none), .p (.int .i64 0)] true) rfl rfl (WkO.row ⟨Wk.rfl, Wk.rfl, Wk.nil, Wk.nil, Wk.rfl, trivial⟩) Sh.refl) ?_
  refine M.use trivial (add10_spec room 0 0 L lc (delP frN F) c cR.pc [] f false b none ((sealB (recB f b)).length : Int) (by omega) (by omega) ⟨by omega, by omega⟩) [(0, 3), (1, 0), (2, 1), (3, 2), (4, 4)] rfl rfl rfl (by repeat' (first | exact True.intro | refine hpC rfl rfl rfl ?_ | refine ⟨⟨_, _, _, rfl, rfl, rfl, @WkO.rfl _⟩, ?_⟩ | refine HeapOK.acc rfl rfl ?_)) rfl rfl ?_
  refine M.go rfl ?_
  rw [hsl, show (0 : Int) + ((sealB (recB f b)).length : Int) = ((flatR f [b]).length : Nat) by rw [h1f]; omega]
  refine M.again (XH.ren [(0, 0), (1, 1), (2, 2), (3, 3), (4, 4), (5, 6), (6, 7)] (open_loopw room L lc (delP frN F) c cR.pc [] B zF f (b :: rest) h _ (fun b0 pr hp => ?_) rest b [] rfl) rfl (by repeat' (first | exact True.intro | refine evC rfl rfl Wk.rfl ?_ | refine evC (accV_ren rfl) rfl Wk.rfl ?_ | refine evC (accV_ren rfl) rfl Wk.acc0 ?_ | refine evC rfl rfl Wk.uncap ?_ | refine evC rfl rfl Wk.nil ?_)) (by repeat' (first | exact True.intro | refine hpC rfl rfl rfl ?_ | refine ⟨⟨_, _, _, rfl, rfl, rfl, @WkO.rfl _⟩, ?_⟩ | refine HeapOK.acc rfl rfl ?_)))
  obtain ⟨rfl, rfl⟩ := List.cons.inj hp
  refine M.q (M.go rfl (M.done (M.q (M.go rfl ?_))))
  refine M.cond rfl (fun hn => absurd hn (by rw [u8P_len]; omega)) (fun _ => ?_)
  refine M.go rfl ?_
  exact M.ret (M.go rfl (M.done (finQ.ret [(0, 0), (1, 1), (2, 2), (3, 3), (4, 4), (5, 5), (6, 6)] rfl rfl rfl (Wk.of rfl) ⟨(hpX rfl rfl rfl), (hpX rfl rfl rfl), (hpX rfl rfl rfl), ⟨_, _, _, rfl, rfl, rfl, WkO.row ⟨Wk.rfl, Wk.rfl, rowAcc (by simp [rcsP]) _ _, rowAcc (by simp [yP_len]) _ _, Wk.rfl, trivial⟩⟩, (hpX rfl rfl rfl), (hpX rfl rfl rfl), (hpX rfl rfl rfl), trivial⟩)))
end Go.Proofs.Ytjlfojgacnphmaa

namespace Go.Proofs.Ytjlfojgacnphmaa
open Go.RowKit Sim Go Sym
set_option maxRecDepth 100000
set_option linter.unusedVariables false
set_option linter.unusedSimpArgs false
variable {base : Nat}
structure WOp where
  k : Int
  n : Int
  z : Bool
  b : List Int
def WOp.pc (o : WOp) : PC := .agg [.int .i64 o.k, .int .i64 o.n, .tz o.z 1 (u8P o.b) none]
def WOp.cn (o : WOp) : Int := if o.n > P50 then P50 else o.n
def WOp.cb (o : WOp) : Rc := (o.z, o.b.take 300, none)
end Go.Proofs.Ytjlfojgacnphmaa

namespace Go.Proofs.Ytjlfojgacnphmaa
open Go.RowKit Sim Go Sym
set_option maxRecDepth 100000
set_option linter.unusedVariables false
set_option linter.unusedSimpArgs false
variable {base : Nat}
def wtL (V : List Chg) (d : Option (PC × List PC)) : Option (PC × List PC) := V.foldl (fun d x => wt x.pc d) d
def wts : List Chg → Option (PC × List PC)
  | [] => none
  | x :: V => some (x.pc, V.map Chg.pc)
theorem wtL_wts (V W : List Chg) : wtL W (wts V) = wts (V ++ W) := by
  induction W generalizing V with
  | nil => simp [wtL]
  | cons x W ih =>
    have h : wt x.pc (wts V) = wts (V ++ [x]) := by cases V <;> simp [wts, wt]
    show wtL W (wt x.pc (wts V)) = _
    rw [h, ih, List.append_assoc]; rfl
theorem wts_N (V : List Chg) : wtN (wts V) = V.length := by cases V <;> simp [wts, wtN]
def Stx (s s' : WS) (B B' : List Int) : Prop := ∃ V, s'.dk = wtL V s.dk ∧ Stp B V B' ∧ s'.L = s.L ∧ s'.lc = s.lc
theorem Stx.refl (s : WS) (B : List Int) : Stx s s B B := ⟨[], rfl, .nop, rfl, rfl⟩
theorem flat_ne {f : Int} {R : List (List Int)} (h : RecOK f R) (hR : R ≠ []) : flatR f R ≠ [] := fun e => by
  cases R with
  | nil => exact hR rfl
  | cons b R => have := flatR_pos h; rw [e] at this; simp at this
section
variable {i : Nat} {s : WS} {f : Int} {T : List Rc} (h : Lp i s f T) (hi : i ≤ 100)
include h hi
theorem Lp.append2 (n : Int) (hn : n ≤ P50) (b : Rc) (hb : Bytes b.2.1 ∧ b.2.1.length ≤ 300) : CW base 21 [.c (.ptr 2 0), .c (.p (.int .i64 n)), .c (.p (recP b))] s (fun r s' => r = err (doF f T 0 n b).2.2 ∧ Lp (i + 1) s' (doF f T 0 n b).1 (doF f T 0 n b).2.1 ∧ Stx s s' (flatR f (rsR T)) (flatR (doF f T 0 n b).1 (rsR (doF f T 0 n b).2.1)) ∧ ((doF f T 0 n b).2.2 ≠ 0 → s' = s)) := by
  have hP : P50 = 1125899906842624 := rfl
  unfold doF
  rw [if_pos rfl]
  have hRl := rsR_len T
  by_cases h1 : n < 1
  · rw [if_pos (.inl h1)]
    exact (W_append_e1 s n b.1 b.2.1 b.2.2 h1).mono fun r s' hr => ⟨hr.1, by rw [hr.2]; exact h.more, by rw [hr.2]; exact Stx.refl _ _, fun _ => hr.2⟩
  · by_cases h2 : T ≠ [] ∧ n - 1 ≠ lastM f T
    · rw [if_pos (.inr h2)]
      rw [lastM_ne h2.1] at h2
      exact (W_append_e2 h.inv n b.1 b.2.1 b.2.2 (by omega) (rsR_ne.2 h2.1) (by rw [hRl]; omega)).mono fun r s' hr => ⟨hr.1, by rw [hr.2]; exact h.more, by rw [hr.2]; exact Stx.refl _ _, fun _ => hr.2⟩
    · rw [if_neg (fun h => h.elim h1 h2)]
      obtain ⟨g, hg⟩ : ∃ g, g = if T = [] then n else f := ⟨_, rfl⟩
      have hgT : T ≠ [] → g = f := fun hT => by rw [hg, if_neg hT]
      have hgn : n = g + T.length := by
        by_cases hT : T = []
        · rw [hg, if_pos hT, hT]; simp
        · have h3 : n - 1 = lastM f T := Decidable.byContradiction fun h3 => h2 ⟨hT, h3⟩
          rw [lastM_ne hT] at h3
          rw [hgT hT]; omega
      have hlen := h.len
      have hr2 : 1 ≤ g ∧ g + (T ++ [b]).length ≤ P50 + 1 := by
        rw [List.length_append, List.length_cons, List.length_nil]
        by_cases hT : T = []
        · rw [hT] at hgn ⊢; simp at hgn ⊢; omega
        · have := h.rng hT
          rw [hgT hT] at hgn ⊢; omega
      have hb2 : ∀ t ∈ T ++ [b], Bytes t.2.1 ∧ t.2.1.length ≤ 300 := fun t ht => by
        rcases List.mem_append.1 ht with h4 | h4
        · exact h.b t h4
        · simp at h4; subst h4; exact hb
      have happ : rsR (T ++ [b]) = rsR T ++ [b.2.1] := by simp [rsR]
      have hok := rec_ok hb2 (by simp; omega) hr2
      rw [happ] at hok
      have hfl := h.flat hi
      refine (W_append h.inv g n (fun hR => hgT (rsR_ne.1 hR)) (by rw [hRl]; exact hgn) b.1 b.2.1 b.2.2 hb.1 (by omega) hok (by rw [hRl]; omega) (by omega) h.nl (by have := h.dk; omega)).mono fun r s' hr => ?_
      obtain ⟨r1, r2, r3, r4, r5, r6⟩ := hr
      rw [← hg]
      refine ⟨r1, ⟨by rw [happ]; exact r2, hb2, by simp; omega, fun _ => hr2, by rw [r5, wtN_wt]; have := h.dk; omega, fun hl => absurd hl r6⟩, ?_⟩
      refine ⟨⟨[cA (sealB (recB n b.2.1))], by rw [r5]; rfl, ?_, r3, r4⟩, fun h => absurd rfl h⟩
      have hff : flatR g (rsR T) = flatR f (rsR T) := by
        by_cases hT : T = []
        · rw [hT]; rfl
        · rw [hgT hT]
      rw [happ, flatR_app, hRl, ← hgn, hff]
      have hnb := numB_len (n := n) (by omega) (by omega)
      exact .app _ (by simp [recB]; omega) (recB_bytes hb.1)
theorem Lp.from2 (n : Int) (hn : n ≤ P50) (b : Rc) : CW base 25 [.c (.ptr 2 0), .c (.p (.int .i64 n))] s (fun r s' => r = err (doF f T 1 n b).2.2 ∧ Lp (i + 1) s' (doF f T 1 n b).1 (doF f T 1 n b).2.1 ∧ Stx s s' (flatR f (rsR T)) (flatR (doF f T 1 n b).1 (rsR (doF f T 1 n b).2.1)) ∧ ((doF f T 1 n b).2.2 ≠ 0 → s' = s)) := by
  have hP : P50 = 1125899906842624 := rfl
  unfold doF
  rw [if_neg (by decide), if_pos rfl]
  have hRl := rsR_len T
  by_cases h1 : n < 1
  · rw [if_pos h1]
    exact (W_from_e1 s n h1).mono fun r s' hr => ⟨hr.1, by rw [hr.2]; exact h.more, by rw [hr.2]; exact Stx.refl _ _, fun _ => hr.2⟩
  rw [if_neg h1]
  by_cases h2 : T ≠ [] ∧ n ≤ lastM f T
  · rw [if_pos h2]
    obtain ⟨hT, h3⟩ := h2
    rw [lastM_ne hT] at h3
    have hlen := h.len
    obtain ⟨κ, hκ⟩ : ∃ κ, κ = (max 0 (n - f)).toNat := ⟨_, rfl⟩
    rw [← hκ]
    refine (W_from_y h.inv n (rsR_ne.2 hT) (by omega) (by rw [hRl]; omega) κ (by omega) (by have := h.dk; omega)).mono fun r s' hr => ?_
    obtain ⟨r1, r2, r3, r4, r5, r6⟩ := hr
    have hr := h.rng hT
    refine ⟨r1, ⟨by rw [rsR, List.map_take]; exact r2, fun t ht => h.b t (List.mem_of_mem_take ht), by rw [List.length_take]; omega, fun _ => by rw [List.length_take]; omega, by rw [r5, wtN_wt]; have := h.dk; omega, fun hl => absurd hl r6⟩, ?_⟩
    refine ⟨⟨[cC (flatR f ((rsR T).take κ)).length], by rw [r5]; rfl, ?_, r3, r4⟩, fun h => absurd rfl h⟩
    have hmt : rsR (T.take κ) = (rsR T).take κ := by simp [rsR, List.map_take]
    have hst := Stp.cut (B := flatR f (rsR T)) (flatR f ((rsR T).take κ)).length (flat_ne (h.inv.ok (rsR_ne.2 hT)) (rsR_ne.2 hT)) (flatR_le _ _ _)
    rw [flatR_take] at hst
    rw [hmt]
    exact hst
  · rw [if_neg h2]
    refine (W_from_n h.inv n (by omega) (fun hR => ?_)).mono fun r s' hr => ⟨hr.1, by rw [hr.2]; exact h.more, by rw [hr.2]; exact Stx.refl _ _, fun _ => hr.2⟩
    have hT := rsR_ne.1 hR
    have h3 : ¬ n ≤ lastM f T := fun h3 => h2 ⟨hT, h3⟩
    rw [lastM_ne hT] at h3
    rw [hRl]; omega
end
def WS.bareW (s : WS) : WS := ⟨s.room, 0, 0, s.L, s.lc, s.F, s.c, s.dk, .no⟩
theorem bareW_heap {s : WS} {H : HS} (ht : Tl wFam s H.l) {g : Nat → Option Nat} (hg : fid wFam g = true) : HeapOK g H (wFam.mem s.bareW).l := by
  have hgi : ∀ b, b < 8 → Nat.beq b 1 = false → g b = some b := fun b h1 h2 => by
    have := List.all_eq_true.1 hg b (List.mem_range.2 h1)
    rw [show wFam.hole b = false from h2, Bool.false_or] at this
    split at this
    · rename_i d hd; rw [hd, Nat.eq_of_beq_eq_true this]
    · cases this
  have hget : ∀ b o, b < 8 → Nat.beq b 1 = false → Sym.look (wFam.mem s).l b = some (some o) → H.get b = some o := fun b o h1 h2 h3 => by
    unfold HS.get
    rw [ht.look wOK b h1 h2, h3]
  obtain ⟨room, first, en, L, lc, F, c, _ | ⟨w, W⟩, lg⟩ := s
  · rcases lg with _ | _ | ⟨o, m, X, Y⟩
    all_goals exact ⟨⟨4, _, _, hgi 4 (by decide) rfl, rfl, hget 4 _ (by decide) rfl rfl, WkO.rfl⟩, ⟨3, _, _, hgi 3 (by decide) rfl, rfl, hget 3 _ (by decide) rfl rfl, WkO.rfl⟩, ⟨0, _, _, hgi 0 (by decide) rfl, (by simp only [XO.ren, XC.rens, XC.ren, hgi 3 (by decide) rfl, hgi 4 (by decide) rfl]), hget 0 _ (by decide) rfl rfl, WkO.rfl⟩, trivial⟩
  · rcases lg with _ | _ | ⟨o, m, X, Y⟩
    all_goals exact ⟨⟨5, _, _, hgi 5 (by decide) rfl, rfl, hget 5 _ (by decide) rfl rfl, WkO.rfl⟩, ⟨4, _, _, hgi 4 (by decide) rfl, rfl, hget 4 _ (by decide) rfl rfl, WkO.rfl⟩, ⟨3, _, _, hgi 3 (by decide) rfl, rfl, hget 3 _ (by decide) rfl rfl, WkO.rfl⟩, ⟨0, _, _, hgi 0 (by decide) rfl, (by simp only [XO.ren, XC.rens, XC.ren, hgi 3 (by decide) rfl, hgi 4 (by decide) rfl, hgi 5 (by decide) rfl]), hget 0 _ (by decide) rfl rfl, WkO.rfl⟩, trivial⟩
theorem W_crash (room a b : Int) (L : FS) (lc : Nat) (F : FS) (c : Nat) (V : List Chg) (hV : V.length ≤ 1000000) (n torn : Int) (t : FS × Nat) (hc : CrR n torn V 0 (L, lc) t) : CallR Try.prog base wFam 0 23 [.c (.ptr 0 0), .c (.p (.int .i64 n)), .c (.p (.int .i64 torn))] ⟨room, a, b, L, lc, F, c, wts V, .no⟩ (fun r s' => r = .c (.ptr 0 0) ∧ s' = ⟨room, 0, 0, t.1, t.2, t.1, t.2, none, .no⟩) := by
  cases V with
  | nil =>
    obtain rfl : t = (L, lc) := hc
    exact W_crash0 room a b L lc F c n torn
  | cons x V =>
    exact CallR.leaf (crash1_spec room L lc F c x.pc (V.map Chg.pc) (x :: V) rfl hV n torn t hc) [(0, 0), (1, 3), (2, 4), (3, 5)] rfl rfl (by repeat' (first | exact True.intro | refine hpC rfl rfl rfl ?_ | refine ⟨⟨_, _, _, rfl, rfl, rfl, @WkO.rfl _⟩, ?_⟩ | refine HeapOK.acc rfl rfl ?_)) rfl rfl (.c (.ptr 0 0)) (⟨room, 0, 0, t.1, t.2, t.1, t.2, none, .no⟩ : WS) [(0, 8), (3, 9), (4, 10)] rfl rfl Wk.rfl (by repeat' (first | exact True.intro | refine hpC rfl rfl rfl ?_ | refine ⟨⟨_, _, _, rfl, rfl, rfl, @WkO.rfl _⟩, ?_⟩ | refine HeapOK.acc rfl rfl ?_)) ⟨rfl, rfl⟩
def Aft (B tl : List Int) (X : Option (List Int)) (V : List Chg) : Prop := V = [] ∨ (V = [cR] ∧ X ≠ none) ∨ (V = [cC B.length] ∧ tl ≠ [] ∧ X = none)
theorem Aft.crash {B tl : List Int} {X : Option (List Int)} {V : List Chg} (h : Aft B tl X V) {s : FS × Nat} (hs : Dk (B ++ tl) X s) (ht : Tl1 tl) (hX : X ≠ none → tl = []) (n torn : Int) : ∃ t tl' X', CrR n torn V 0 s t ∧ Dk (B ++ tl') X' t ∧ Tl1 tl' ∧ (X' ≠ none → X ≠ none ∧ tl' = []) := by
  rcases h with rfl | ⟨rfl, h⟩ | ⟨rfl, h, rfl⟩
  · exact ⟨s, tl, X, rfl, hs, ht, fun h => ⟨h, hX h⟩⟩
  · cases X with
    | none => exact absurd rfl h
    | some X =>
      by_cases h1 : ((0 : Nat) : Int) < n
      · obtain ⟨t, d1, d2⟩ := hs.rmd 0
        exact ⟨t, tl, none, ⟨t, by rw [Cr1, if_pos h1]; exact d1, rfl⟩, d2, ht, fun h => absurd rfl h⟩
      · exact ⟨s, tl, some X, ⟨s, by rw [Cr1, if_neg h1, if_neg (fun h => absurd h.2.2 (show ¬ (2 : Int) = 0 by decide))], rfl⟩, hs, ht, fun h => ⟨h, hX h⟩⟩
  · by_cases h1 : ((0 : Nat) : Int) < n
    · obtain ⟨t, d1, d2⟩ := hs.cutd (by simp [h]) B.length 0 (by simp)
      rw [List.take_left' rfl] at d2
      exact ⟨t, [], none, ⟨t, by rw [Cr1, if_pos h1]; exact d1, rfl⟩, by rw [List.append_nil]; exact d2, Tl1.nil, fun h => absurd rfl h⟩
    · exact ⟨s, tl, none, ⟨s, by rw [Cr1, if_neg h1, if_neg (fun h => absurd h.2.2 (show ¬ (1 : Int) = 0 by decide))], rfl⟩, hs, ht, fun h => absurd rfl h⟩
theorem W_open (a b : Int) (L : FS) (lc : Nat) (F : FS) (c : Nat) (f : Int) (R : List (List Int)) (tl : List Int) (X : Option (List Int)) (hR : R ≠ [] → RecOK f R) (hF : Dk (flatR f R ++ tl) X (F, c)) (ht : Tl1 tl) (hX : X ≠ none → tl = [] ∧ R ≠ []) (hsz : (flatR f R).length ≤ 400000) :
    CallR Try.prog base wFam 1 20 [.c (.ptr 0 0)] ⟨mB, a, b, L, lc, F, c, none, .no⟩ (fun r s' => r = .tup [.c (.ptr 2 0), err 0] ∧ WInv s' f R ∧ s'.L = L ∧ s'.lc = lc ∧ ∃ V, s'.dk = wts V ∧ Aft (flatR f R) tl X V) := by
  have htb := ht.isB
  cases X with
  | some X =>
    obtain ⟨rfl, hne⟩ := hX (by simp)
    rw [List.append_nil] at hF
    have hok := hR hne
    obtain ⟨z, cp, z', cp', b2, h1, h2, h3⟩ := hF
    have h1 : F = _ := h1
    have h3 : b2 < c := h3
    subst h1
    cases R with
    | nil => exact absurd rfl hne
    | cons b1 rest =>
      exact CallR.leaf (gopen_nf mB L lc [(0, [119], fP z (flatR f (b1 :: rest)) cp), (b2, frN, fP z' X cp')] c f b1 rest hok z cp (flatR f (b1 :: rest)) (flatR_bytes _ _ hok) (by omega) (scan_flat _ _ hok) rfl (fP z' X cp') rfl rfl) [(0, 0), (1, 3), (2, 4)] rfl rfl (by repeat' (first | exact True.intro | refine hpC rfl rfl rfl ?_ | refine ⟨⟨_, _, _, rfl, rfl, rfl, @WkO.rfl _⟩, ?_⟩ | refine HeapOK.acc rfl rfl ?_)) rfl rfl (.tup [.c (.ptr 2 0), err 0]) (⟨mB, f, ((flatR f (b1 :: rest)).length : Nat), L, lc, f1 [119] (fP z (flatR f (b1 :: rest)) cp), c, some (cR.pc, []), .own 0 (b1 :: rest).length (rcsP (b1 :: rest)) (posR 0 f (b1 :: rest))⟩ : WS) [(0, 0), (2, 8), (3, 3), (4, 4), (5, 9), (6, 10), (7, 11)] rfl rfl Wk.rfl (by repeat' (first | exact True.intro | refine hpC rfl rfl rfl ?_ | refine ⟨⟨_, _, _, rfl, rfl, rfl, @WkO.rfl _⟩, ?_⟩ | refine HeapOK.acc rfl rfl ?_)) ⟨rfl, ⟨fun _ => hok, rfl, rfl, LGok.opened _ _, fun _ => rfl, .inr ⟨⟨_, _, rfl⟩, show 1 ≤ c by omega⟩, hsz⟩, rfl, rfl, [cR], rfl, .inr (.inl ⟨rfl, by simp⟩)⟩
  | none =>
    by_cases ht0 : tl = []
    · subst ht0
      rw [List.append_nil] at hF
      exact (W_open0 a b L lc F c f R hR hF hsz).mono fun r s' ⟨h1, h2, h3, h4, h5, h6, h7⟩ => ⟨h1, h2, h3, h4, [], h7, .inl rfl⟩
    · have hF : Fok (flatR f R ++ tl) F c := hF
      have htp : 0 < tl.length := by cases tl with
        | nil => exact absurd rfl ht0
        | cons x l => simp
      have htl := ht.bytes
      rcases hF with ⟨h0, -, -⟩ | ⟨⟨z, cp, rfl⟩, hc⟩
      · exact absurd h0 (by simp [ht0])
      have hsc := scan_torn ht R f hR
      cases R with
      | nil =>
        have hsc : scan tl = ([], 0) := hsc
        have hfl : flatR f [] ++ tl = tl := rfl
        rw [hfl]
        exact CallR.leaf (gopen_et mB L lc (f1 [119] (fP z tl cp)) c z cp tl htb (by omega) hsc htp rfl rfl) [(0, 0), (1, 3), (2, 4)] rfl rfl (by repeat' (first | exact True.intro | refine hpC rfl rfl rfl ?_ | refine ⟨⟨_, _, _, rfl, rfl, rfl, @WkO.rfl _⟩, ?_⟩ | refine HeapOK.acc rfl rfl ?_)) rfl rfl (.tup [.c (.ptr 2 0), err 0]) (⟨mB, 0, 0, L, lc, f1 [119] (cutF z tl 0), c, some (chC 0, []), .nil⟩ : WS) [(0, 0), (2, 8), (3, 3), (4, 4), (5, 9)] rfl rfl Wk.rfl (by repeat' (first | exact True.intro | refine hpC rfl rfl rfl ?_ | refine ⟨⟨_, _, _, rfl, rfl, rfl, @WkO.rfl _⟩, ?_⟩ | refine HeapOK.acc rfl rfl ?_)) ⟨rfl, ⟨fun h => absurd rfl h, rfl, rfl, rfl, fun h => absurd rfl h, .inr ⟨⟨_, _, rfl⟩, hc⟩, by simp [flatR]⟩, rfl, rfl, [cC 0], rfl, .inr (.inr ⟨rfl, ht0, rfl⟩)⟩
      | cons b1 rest =>
        have hok := hR (by simp)
        have hct : cutF z (flatR f (b1 :: rest) ++ tl) (flatR f (b1 :: rest)).length = fP (z && (u8P (flatR f (b1 :: rest) ++ tl)).isEmpty) (flatR f (b1 :: rest)) (some (flatR f (b1 :: rest)).length) := by rw [cutF, List.take_left' rfl]
        exact CallR.leaf (gopen_t mB L lc (f1 [119] (fP z (flatR f (b1 :: rest) ++ tl) cp)) c f b1 rest hok z cp (flatR f (b1 :: rest) ++ tl) ((flatR_bytes _ _ hok).app htb) (by rw [List.length_append]; omega) hsc (by rw [List.length_append]; omega) rfl rfl) [(0, 0), (1, 3), (2, 4)] rfl rfl (by repeat' (first | exact True.intro | refine hpC rfl rfl rfl ?_ | refine ⟨⟨_, _, _, rfl, rfl, rfl, @WkO.rfl _⟩, ?_⟩ | refine HeapOK.acc rfl rfl ?_)) rfl rfl (.tup [.c (.ptr 2 0), err 0]) (⟨mB, f, ((flatR f (b1 :: rest)).length : Nat), L, lc, f1 [119] (cutF z (flatR f (b1 :: rest) ++ tl) (flatR f (b1 :: rest)).length), c, some (chC (flatR f (b1 :: rest)).length, []), .own 0 (b1 :: rest).length (rcsP (b1 :: rest)) (posR 0 f (b1 :: rest))⟩ : WS) [(0, 0), (2, 8), (3, 3), (4, 4), (5, 11), (6, 9), (7, 10)] rfl rfl Wk.rfl (by repeat' (first | exact True.intro | refine hpC rfl rfl rfl ?_ | refine ⟨⟨_, _, _, rfl, rfl, rfl, @WkO.rfl _⟩, ?_⟩ | refine HeapOK.acc rfl rfl ?_)) ⟨rfl, ⟨fun _ => hok, rfl, rfl, LGok.opened _ _, fun _ => rfl, .inr ⟨⟨_, _, by rw [hct]⟩, hc⟩, hsz⟩, rfl, rfl, [cC (flatR f (b1 :: rest)).length], rfl, .inr (.inr ⟨rfl, ht0, rfl⟩)⟩
end Go.Proofs.Ytjlfojgacnphmaa
