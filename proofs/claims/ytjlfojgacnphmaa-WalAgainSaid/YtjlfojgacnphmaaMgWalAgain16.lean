/- Texts of this claim, several in one: W32, W33, W34, W35, W36. -/
import Derived.Test.YtjlfojgacnphmaaMgWalAgain15
namespace Go.Proofs.Ytjlfojgacnphmaa
open Go.RowKit Sim Go Sym
set_option maxRecDepth 100000
set_option linter.unusedVariables false
set_option linter.unusedSimpArgs false
variable {base : Nat}
end Go.Proofs.Ytjlfojgacnphmaa

namespace Go.Proofs.Ytjlfojgacnphmaa
open Go.RowKit Sim Go Sym
set_option maxRecDepth 100000
set_option linter.unusedVariables false
set_option linter.unusedSimpArgs false
variable {base : Nat}
structure Md where
  f : Int
  z : Bool
  T : List Rc
  cp : Option Nat
def Md.pc (M : Md) : PC := .agg [.int .i64 M.f, .tz M.z 1 (msP M.T) M.cp]
def Md.ct (M : Md) : List Int := flatR M.f (rsR M.T)
structure Md.good (M : Md) : Prop where
  b : ∀ t ∈ M.T, Bytes t.2.1 ∧ t.2.1.length ≤ 300
  len : M.T.length ≤ 30
  rng : M.T ≠ [] → 1 ≤ M.f ∧ M.f + M.T.length ≤ P50 + 1
theorem Md.good.ok {M : Md} (h : M.good) : rsR M.T ≠ [] → RecOK M.f (rsR M.T) := fun hne => rec_ok h.b (by have := h.len; omega) (h.rng (rsR_ne.1 hne))
theorem Md.good.ctl {M : Md} (h : M.good) : M.ct.length ≤ 31800 := by
  have h1 := flat_le (B := 300) (rsR M.T) M.f (fun x hx => by obtain ⟨t, ht, rfl⟩ := List.mem_map.1 hx; exact (h.b t ht).2) (by omega) (fun hne => by
    have := h.rng (rsR_ne.1 hne)
    have h2 : P50 = 1125899906842624 := rfl
    rw [rsR_len]; omega)
  rw [rsR_len] at h1
  have := h.len
  show (flatR M.f (rsR M.T)).length ≤ _
  omega
structure CI (i : Nat) (s : WS) (Ms : List Md) (σ : Nat) : Prop where
  last : ∃ M, Ms.getLast? = some M ∧ Lp i s M.f M.T
  good : ∀ M ∈ Ms, M.good
  len : Ms.length ≤ i + 1
  path : ∃ M0 tl V, Ms.drop σ = M0 :: tl ∧ Dk M0.ct none (s.L, s.lc) ∧ s.dk = wts V ∧ Pth M0.ct V (tl.map Md.ct)
theorem CI.keep {i : Nat} {s : WS} {Ms : List Md} {σ : Nat} (h : CI i s Ms σ) : CI (i + 1) s Ms σ := by
  obtain ⟨M, h1, h2⟩ := h.last
  exact ⟨⟨M, h1, h2.more⟩, h.good, by have := h.len; omega, h.path⟩
theorem CI.next {i : Nat} {s s' : WS} {Ms : List Md} {σ : Nat} (h : CI i s Ms σ) (hi : i < 30) {M M' : Md} (hM : Ms.getLast? = some M) (hL : Lp (i + 1) s' M'.f M'.T) (hst : Stx s s' M.ct M'.ct) : CI (i + 1) s' (Ms ++ [M']) σ := by
  obtain ⟨M0, tl, V, g1, g2, g3, g4⟩ := h.path
  obtain ⟨V', k1, k2, k3, k4⟩ := hst
  have hσ : σ < Ms.length := by
    have := congrArg List.length g1
    simp at this; omega
  refine ⟨⟨M', by simp, hL⟩, fun N hN => ?_, by have := h.len; simp; omega, M0, tl ++ [M'], V ++ V', ?_, by rw [k3, k4]; exact g2, by rw [k1, g3, wtL_wts], ?_⟩
  · rcases List.mem_append.1 hN with h1 | h1
    · exact h.good N h1
    · simp at h1; subst h1
      exact ⟨hL.b, by have := hL.len; omega, hL.rng⟩
  · rw [List.drop_append_of_le_length (by omega), g1]; rfl
  · have hlast : (M0.ct :: tl.map Md.ct).getLast? = some M.ct := by
      rw [← List.map_cons (f := Md.ct), ← g1, List.getLast?_map, List.getLast?_drop, if_neg (by omega), hM]; rfl
    have := g4.snoc hlast k2
    simpa using this
theorem drop_last {α : Type} {l : List α} {a : α} (h : l.getLast? = some a) : l.drop (l.length - 1) = [a] := by
  obtain ⟨ys, rfl⟩ := List.getLast?_eq_some_iff.1 h
  simp
theorem CI.sync {i : Nat} {s s' : WS} {Ms : List Md} {σ : Nat} (h : CI i s Ms σ) {M : Md} (hM : Ms.getLast? = some M) (hs : s' = { s with L := s.F, lc := s.c, dk := none }) (hL : Lp (i + 1) s' M.f M.T) : CI (i + 1) s' Ms (Ms.length - 1) := by
  have hne : Ms ≠ [] := fun e => by rw [e] at hM; cases hM
  refine ⟨⟨M, hM, hL⟩, h.good, by have := h.len; omega, M, [], [], ?_, ?_, by rw [hs]; rfl, .nil⟩
  · exact drop_last hM
  · have := hL.inv.file
    rw [hs] at this ⊢
    exact this
end Go.Proofs.Ytjlfojgacnphmaa

namespace Go.Proofs.Ytjlfojgacnphmaa
open Go.RowKit Sim Go Sym
set_option maxRecDepth 100000
set_option linter.unusedVariables false
set_option linter.unusedSimpArgs false
variable {base : Nat}
theorem Md.good.b3 {A : Md} (h : A.good) : ∀ t ∈ A.T, Bytes t.2.1 ∧ t.2.1.length ≤ 30000 := fun t ht => ⟨(h.b t ht).1, by have := (h.b t ht).2; omega⟩
theorem Md.good.rb {A : Md} (h : A.good) : ∀ b ∈ rsR A.T, Bytes b ∧ b.length ≤ 30000 := fun b hb => by
  obtain ⟨t, ht, rfl⟩ := List.mem_map.1 hb
  exact h.b3 t ht
end Go.Proofs.Ytjlfojgacnphmaa

namespace Go.Proofs.Ytjlfojgacnphmaa
open Go.RowKit Sim Go Sym
set_option maxRecDepth 100000
set_option linter.unusedVariables false
set_option linter.unusedSimpArgs false
variable {base : Nat}
noncomputable def lWag : {F : LF // lowerF Try.prog 4 = some F} := ⟨_, rfl⟩
def oldB : List Int := [111, 108, 100]
def newB : List Int := [110, 101, 119, 33]
def oR : Rc := (false, oldB, some 3)
def nR : Rc := (false, newB, some 4)
def olds (k : Nat) : List Rc := List.replicate k oR
def newsT (fr j : Nat) : List Rc := olds fr ++ List.replicate j nR
theorem oR_b : Bytes oR.2.1 ∧ oR.2.1.length ≤ 300 := ⟨by intro x hx; simp [oR, oldB] at hx; omega, by simp [oR, oldB]⟩
theorem nR_b : Bytes nR.2.1 ∧ nR.2.1.length ≤ 300 := ⟨by intro x hx; simp [nR, newB] at hx; omega, by simp [nR, newB]⟩
theorem olds_len (k : Nat) : (olds k).length = k := by simp [olds]
theorem newsT_len (fr j : Nat) : (newsT fr j).length = fr + j := by simp [newsT, olds]
theorem newsT_0 (fr : Nat) : newsT fr 0 = olds fr := by simp [newsT]
theorem newsT_mem {fr j : Nat} : ∀ t ∈ newsT fr j, Bytes t.2.1 ∧ t.2.1.length ≤ 300 := fun t ht => by
  rcases List.mem_append.1 ht with h | h
  · rw [(List.mem_replicate.1 h).2]; exact oR_b
  · rw [(List.mem_replicate.1 h).2]; exact nR_b
theorem doF_app (T : List Rc) (b : Rc) : doF 1 T 0 (T.length + 1 : Nat) b = (1, T ++ [b], 0) := by
  unfold doF
  rw [if_pos rfl, if_neg]
  · by_cases hT : T = []
    · subst hT; simp
    · rw [if_neg hT]
  · rintro (h | ⟨h, h2⟩)
    · omega
    · apply h2; rw [lastM_ne h]; omega
theorem doF_cut (n fr : Nat) (b : Rc) (h : fr < n) : doF 1 (olds n) 1 (fr + 1 : Nat) b = (1, olds fr, 0) := by
  unfold doF
  have hne : olds n ≠ [] := fun e => by have := congrArg List.length e; rw [olds_len] at this; simp at this; omega
  rw [if_neg (by decide), if_pos rfl, if_neg (by omega), if_pos ⟨hne, by rw [lastM_ne hne, olds_len]; omega⟩]
  rw [show (max 0 (((fr + 1 : Nat) : Int) - 1)).toNat = fr by omega]
  simp [olds, List.take_replicate]
  omega
def agE (n fr : Nat) (front torn : Int) : Env := [(0, .c (.p (.int .i64 n))), (1, .c (.p (.int .i64 (fr + 1 : Nat)))), (2, .c (.p (.int .i64 front))), (3, .c (.p (.int .i64 torn))), (10, .c (.ptr 0 0)), (11, .c (.ptr 2 0))]
def agH (s : WS) : HS := ⟨(wFam.mem s).l, 8⟩
theorem ag_loop1 (n fr : Nat) (front torn : Int) (hn : n ≤ 20) (Q : QX) (hq : ∀ s, Lp n s 1 (olds n) → Q (.exit 0) (agE n fr front torn) (agH s)) :
    ∀ (rem k : Nat) (s : WS), k + rem = n → Lp k s 1 (olds k) → XH Try.prog base lWag.1.n 0 (lWag.1.c.lp 0) (agE n fr front torn ++ [(13, .c (.p (.int .i64 (k + 1 : Nat))))]) (agH s) Q := by
  intro rem
  induction rem with
  | zero =>
    intro k s hk hL
    obtain rfl : n = k := by omega
    refine M.round (M.go rfl ?_)
    refine M.cond rfl (fun h => absurd h (by omega)) (fun _ => ?_)
    refine M.go rfl ?_
    refine M.ren [(0, 0), (1, 1), (2, 2), (3, 3), (4, 4), (5, 5), (6, 6), (7, 7)] ?_ trivial rfl (by repeat' (first | exact True.intro | refine evC rfl rfl Wk.rfl ?_ | refine evC (accV_ren rfl) rfl Wk.rfl ?_ | refine evC (accV_ren rfl) rfl Wk.acc0 ?_ | refine evC rfl rfl Wk.uncap ?_ | refine evC rfl rfl Wk.nil ?_)) (HeapOK.fam wOK (by repeat' (first | exact Tl.here | refine Tl.cons rfl ?_)) rfl) (e' := agE n fr front torn) (h' := agH s)
    exact M.exit (M.go rfl (M.done (hq s hL)))
  | succ rem ih =>
    intro k s hk hL
    have hw : IntKind.i64.wrap (((k + 1 : Nat) : Int) + 1) = ((k + 1 + 1 : Nat) : Int) := by rw [wr64 (by omega) (by omega)]; omega
    have hP : P50 = 1125899906842624 := rfl
    refine M.round (M.go rfl ?_)
    refine M.cond rfl (fun _ => ?_) (fun h => absurd (by omega) h)
    refine M.go rfl ?_
    refine M.op trivial (SOp.cvO rfl rfl (by decide)) ?_
    refine M.go rfl ?_
    refine M.freezeO (i := 68) (b := 8) rfl rfl rfl ?_
    have C := hL.append2 (by omega) ((k + 1 : Nat) : Int) (by omega) oR oR_b (base := base)
    have hdo := doF_app (olds k) oR
    rw [olds_len] at hdo
    rw [hdo] at C
    refine M.shO (Sh.ren (e' := agE n fr front torn ++ [(13, .c (.p (.int .i64 (k + 1 : Nat)))), (65, .c (.ptr 2 0)), (66, .c (.p (.int .i64 (k + 1 : Nat)))), (68, .c (.p (recP oR)))]) (h' := agH s) [(0, 0), (1, 1), (2, 2), (3, 3), (4, 4), (5, 5), (6, 6), (7, 7)] rfl (by repeat' (first | exact True.intro | refine evC rfl rfl Wk.rfl ?_ | refine evC (accV_ren rfl) rfl Wk.rfl ?_ | refine evC (accV_ren rfl) rfl Wk.acc0 ?_ | refine evC rfl rfl Wk.uncap ?_ | refine evC rfl rfl Wk.nil ?_)) (HeapOK.fam wOK (by repeat' (first | exact Tl.here | refine Tl.cons rfl ?_)) rfl)) ?_
    refine M.useR (s := s) wOK [] (agE n fr front torn ++ [(13, .c (.p (.int .i64 (k + 1 : Nat))))]) trivial C rfl trivial rfl rfl rfl rfl (fun r s' h => by rw [h.1]; rfl) (by repeat' (first | exact True.intro | refine evC rfl rfl Wk.rfl ?_ | refine evC (accV_ren rfl) rfl Wk.rfl ?_ | refine evC (accV_ren rfl) rfl Wk.acc0 ?_ | refine evC rfl rfl Wk.uncap ?_ | refine evC rfl rfl Wk.nil ?_)) (fun r s' h => ?_)
    obtain ⟨rfl, h2, -, -⟩ := h
    refine M.go rfl ?_
    rw [hw]
    have hrep : olds k ++ [oR] = olds (k + 1) := by simp [olds, List.replicate_succ']
    rw [hrep] at h2
    exact M.again (XH.ren [(0, 0), (1, 1), (2, 2), (3, 3), (4, 4), (5, 5), (6, 6), (7, 7)] (ih (k + 1) s' (by omega) h2) rfl (by repeat' (first | exact True.intro | refine evC rfl rfl Wk.rfl ?_ | refine evC (accV_ren rfl) rfl Wk.rfl ?_ | refine evC (accV_ren rfl) rfl Wk.acc0 ?_ | refine evC rfl rfl Wk.uncap ?_ | refine evC rfl rfl Wk.nil ?_)) (HeapOK.fam wOK (by repeat' (first | exact Tl.here | refine Tl.cons rfl ?_)) rfl))
structure AI (n fr j i : Nat) (s : WS) : Prop where
  lp : Lp i s 1 (newsT fr j)
  path : ∃ V l, Dk (flatR 1 (rsR (olds n))) none (s.L, s.lc) ∧ s.dk = wts V ∧ Pth (flatR 1 (rsR (olds n))) V l ∧ (flatR 1 (rsR (olds n)) :: l).getLast? = some (flatR 1 (rsR (newsT fr j))) ∧ ∀ E ∈ l, ∃ j', j' ≤ j ∧ E = flatR 1 (rsR (newsT fr j'))
theorem AI.next {n fr j i : Nat} {s s' : WS} (h : AI n fr j i s) (hl : Lp (i + 1) s' 1 (newsT fr (j + 1))) (hst : Stx s s' (flatR 1 (rsR (newsT fr j))) (flatR 1 (rsR (newsT fr (j + 1))))) : AI n fr (j + 1) (i + 1) s' := by
  obtain ⟨V, l, g1, g2, g3, g4, g5⟩ := h.path
  obtain ⟨V', k1, k2, k3, k4⟩ := hst
  refine ⟨hl, V ++ V', l ++ [_], by rw [k3, k4]; exact g1, by rw [k1, g2, wtL_wts], g3.snoc g4 k2, by rw [← List.cons_append, List.getLast?_concat], fun E hE => ?_⟩
  rcases List.mem_append.1 hE with h1 | h1
  · obtain ⟨j', h2, h3⟩ := g5 E h1
    exact ⟨j', by omega, h3⟩
  · simp at h1
    exact ⟨j + 1, Nat.le_refl _, h1⟩
theorem ag_loop2 (n fr : Nat) (front torn : Int) (hn : n ≤ 20) (Q : QX) (hq : ∀ s i, i ≤ 50 → AI n fr (n - fr) i s → Q (.exit 2) (agE n fr front torn) (agH s)) :
    ∀ (rem j i : Nat) (s : WS), fr + j + rem = n → i ≤ 22 + j → AI n fr j i s → XH Try.prog base lWag.1.n 0 (lWag.1.c.lp 1) (agE n fr front torn ++ [(14, .c (.p (.int .i64 (fr + j + 1 : Nat))))]) (agH s) Q := by
  intro rem
  induction rem with
  | zero =>
    intro j i s hk hi hL
    have hj : n - fr = j := by omega
    refine M.round (M.go rfl ?_)
    refine M.cond rfl (fun h => absurd h (by omega)) (fun _ => ?_)
    refine M.go rfl ?_
    refine M.ren [(0, 0), (1, 1), (2, 2), (3, 3), (4, 4), (5, 5), (6, 6), (7, 7)] ?_ trivial rfl (by repeat' (first | exact True.intro | refine evC rfl rfl Wk.rfl ?_ | refine evC (accV_ren rfl) rfl Wk.rfl ?_ | refine evC (accV_ren rfl) rfl Wk.acc0 ?_ | refine evC rfl rfl Wk.uncap ?_ | refine evC rfl rfl Wk.nil ?_)) (HeapOK.fam wOK (by repeat' (first | exact Tl.here | refine Tl.cons rfl ?_)) rfl) (e' := agE n fr front torn) (h' := agH s)
    exact M.exit (M.go rfl (M.done (hq s i (by omega) (by rw [hj]; exact hL))))
  | succ rem ih =>
    intro j i s hk hi hL
    have hw : IntKind.i64.wrap (((fr + j + 1 : Nat) : Int) + 1) = ((fr + (j + 1) + 1 : Nat) : Int) := by rw [wr64 (by omega) (by omega)]; omega
    have hP : P50 = 1125899906842624 := rfl
    refine M.round (M.go rfl ?_)
    refine M.cond rfl (fun _ => ?_) (fun h => absurd (by omega) h)
    refine M.go rfl ?_
    refine M.op trivial (SOp.cvO rfl rfl (by decide)) ?_
    refine M.go rfl ?_
    refine M.freezeO (i := 84) (b := 8) rfl rfl rfl ?_
    have C := hL.lp.append2 (by omega) ((fr + j + 1 : Nat) : Int) (by omega) nR nR_b (base := base)
    have hdo := doF_app (newsT fr j) nR
    rw [newsT_len] at hdo
    rw [hdo] at C
    refine M.shO (Sh.ren (e' := agE n fr front torn ++ [(14, .c (.p (.int .i64 (fr + j + 1 : Nat)))), (81, .c (.ptr 2 0)), (82, .c (.p (.int .i64 (fr + j + 1 : Nat)))), (84, .c (.p (recP nR)))]) (h' := agH s) [(0, 0), (1, 1), (2, 2), (3, 3), (4, 4), (5, 5), (6, 6), (7, 7)] rfl (by repeat' (first | exact True.intro | refine evC rfl rfl Wk.rfl ?_ | refine evC (accV_ren rfl) rfl Wk.rfl ?_ | refine evC (accV_ren rfl) rfl Wk.acc0 ?_ | refine evC rfl rfl Wk.uncap ?_ | refine evC rfl rfl Wk.nil ?_)) (HeapOK.fam wOK (by repeat' (first | exact Tl.here | refine Tl.cons rfl ?_)) rfl)) ?_
    refine M.useR (s := s) wOK [] (agE n fr front torn ++ [(14, .c (.p (.int .i64 (fr + j + 1 : Nat))))]) trivial C rfl trivial rfl rfl rfl rfl (fun r s' h => by rw [h.1]; rfl) (by repeat' (first | exact True.intro | refine evC rfl rfl Wk.rfl ?_ | refine evC (accV_ren rfl) rfl Wk.rfl ?_ | refine evC (accV_ren rfl) rfl Wk.acc0 ?_ | refine evC rfl rfl Wk.uncap ?_ | refine evC rfl rfl Wk.nil ?_)) (fun r s' h => ?_)
    obtain ⟨rfl, h2, h3, -⟩ := h
    refine M.go rfl ?_
    rw [hw]
    have hrep : newsT fr j ++ [nR] = newsT fr (j + 1) := by simp [newsT, List.replicate_succ']
    simp only [hrep] at h2 h3
    exact M.again (XH.ren [(0, 0), (1, 1), (2, 2), (3, 3), (4, 4), (5, 5), (6, 6), (7, 7)] (ih (j + 1) (i + 1) s' (by omega) (by omega) (hL.next h2 h3)) rfl (by repeat' (first | exact True.intro | refine evC rfl rfl Wk.rfl ?_ | refine evC (accV_ren rfl) rfl Wk.rfl ?_ | refine evC (accV_ren rfl) rfl Wk.acc0 ?_ | refine evC rfl rfl Wk.uncap ?_ | refine evC rfl rfl Wk.nil ?_)) (HeapOK.fam wOK (by repeat' (first | exact Tl.here | refine Tl.cons rfl ?_)) rfl))
end Go.Proofs.Ytjlfojgacnphmaa

namespace Go.Proofs.Ytjlfojgacnphmaa
open Go.RowKit Sim Go Sym
set_option maxRecDepth 100000
set_option linter.unusedVariables false
set_option linter.unusedSimpArgs false
variable {base : Nat}
structure Ck (n fr : Nat) (R : List (List Int)) : Prop where
  le : fr ≤ R.length ∧ R.length ≤ n
  old : ∀ i, i < fr → R[i]? = some oldB
  new : ∀ i x, fr ≤ i → R[i]? = some x → x = newB ∨ (x = oldB ∧ R.length = n)
  fin : R.length = n → ∃ x, R[fr]? = some x ∧ R[n - 1]? = some x ∧ (x = oldB ∨ x = newB)
theorem Ck.old_ (n fr : Nat) (h : fr < n) : Ck n fr (rsR (olds n)) := by
  have hr : rsR (olds n) = List.replicate n oldB := by simp [rsR, olds, oR]
  rw [hr]
  refine ⟨by simp; omega, fun i hi => by rw [List.getElem?_replicate, if_pos (by omega)], fun i x _ hx => .inr ⟨(List.mem_replicate.1 (List.mem_of_getElem? hx)).2, by simp⟩, fun _ => ⟨oldB, by rw [List.getElem?_replicate, if_pos (by omega)], by rw [List.getElem?_replicate, if_pos (by omega)], .inl rfl⟩⟩
theorem Ck.new_ (n fr j : Nat) (h : fr < n) (hj : fr + j ≤ n) : Ck n fr (rsR (newsT fr j)) := by
  have hr : rsR (newsT fr j) = List.replicate fr oldB ++ List.replicate j newB := by simp [rsR, newsT, olds, oR, nR]
  rw [hr]
  have hnew : ∀ i, fr ≤ i → i < fr + j → (List.replicate fr oldB ++ List.replicate j newB)[i]? = some newB := fun i h1 h2 => by
    rw [List.getElem?_append_right (by simpa using h1), List.getElem?_replicate, if_pos (by simp; omega)]
  refine ⟨by simp; omega, fun i hi => by rw [List.getElem?_append_left (by simpa using hi), List.getElem?_replicate, if_pos hi], fun i x hi hx => .inl ?_, fun hl => ?_⟩
  · have hlt := (List.getElem?_eq_some_iff.1 hx).1
    simp at hlt
    rw [hnew i hi hlt] at hx
    exact (Option.some.inj hx).symm
  · simp at hl
    exact ⟨newB, hnew fr (Nat.le_refl _) (by omega), hnew (n - 1) (by omega) (by omega), .inr rfl⟩
def chE (n fr : Nat) (c : Bool) : Env := [(0, .c (.p (.int .i64 n))), (1, .c (.p (.int .i64 (fr + 1 : Nat)))), (15, .c (.ptr 2 0)), (16, .c (.p (.bs c)))]
theorem old_x (x : List Int) (h : x = oldB ∨ x = newB) : x.length ≤ 1000000000 := by rcases h with rfl | rfl <;> simp [oldB, newB]
theorem ck_loop (n fr : Nat) (hn : n ≤ 20) {s : WS} {R : List (List Int)} (hi : WInv s 1 R) (hc : Ck n fr R) (Q : QX) (hq : Q (.exit 4) (chE n fr (decide (R.length < n))) (agH s)) :
    ∀ (rem k : Nat), k + rem = n → XH Try.prog base lWag.1.n 0 (lWag.1.c.lp 2) (chE n fr (decide (R.length < n)) ++ [(17, .c (.p (.int .i64 (k + 1 : Nat))))]) (agH s) Q := by
  intro rem
  induction rem with
  | zero =>
    intro k hk
    obtain rfl : n = k := by omega
    refine M.round (M.go rfl ?_)
    refine M.cond rfl (fun h => absurd h (by omega)) (fun _ => ?_)
    refine M.go rfl ?_
    refine M.ren [(0, 0), (1, 1), (2, 2), (3, 3), (4, 4), (5, 5), (6, 6), (7, 7)] ?_ trivial rfl (by repeat' (first | exact True.intro | refine evC rfl rfl Wk.rfl ?_ | refine evC (accV_ren rfl) rfl Wk.rfl ?_ | refine evC (accV_ren rfl) rfl Wk.acc0 ?_ | refine evC rfl rfl Wk.uncap ?_ | refine evC rfl rfl Wk.nil ?_)) (HeapOK.fam wOK (by repeat' (first | exact Tl.here | refine Tl.cons rfl ?_)) rfl) (e' := chE n fr (decide (R.length < n))) (h' := agH s)
    exact M.exit (M.go rfl (M.done hq))
  | succ rem ih =>
    intro k hk
    have hw : IntKind.i64.wrap (((k + 1 : Nat) : Int) + 1) = ((k + 1 + 1 : Nat) : Int) := by rw [wr64 (by omega) (by omega)]; omega
    have hk1 : ((k + 1 : Nat) : Int) = 1 + (k : Nat) := by omega
    have again : XH Try.prog base lWag.1.n 0 (lWag.1.c.lp 2) (chE n fr (decide (R.length < n)) ++ [(17, .c (.p (.int .i64 (k + 1 + 1 : Nat))))]) (agH s) Q := ih (k + 1) (by omega)
    obtain ⟨hle1, hle2⟩ := hc.le
    refine M.round (M.go rfl ?_)
    refine M.cond rfl (fun _ => ?_) (fun h => absurd (by omega) h)
    refine M.go rfl ?_
    cases hx : R[k]? with
    | none =>
      have hkl : R.length ≤ k := by rw [List.getElem?_eq_none_iff] at hx; exact hx
      refine M.useR (s := s) wOK [] (chE n fr (decide (R.length < n)) ++ [(17, .c (.p (.int .i64 (k + 1 : Nat))))]) trivial (W_getn hi ((k + 1 : Nat) : Int) (fun _ => by omega)) rfl trivial rfl rfl rfl rfl (fun r s' h => by rw [h.1]; rfl) (by repeat' (first | exact True.intro | refine evC rfl rfl Wk.rfl ?_ | refine evC (accV_ren rfl) rfl Wk.rfl ?_ | refine evC (accV_ren rfl) rfl Wk.acc0 ?_ | refine evC rfl rfl Wk.uncap ?_ | refine evC rfl rfl Wk.nil ?_)) (fun r s' h => ?_)
      obtain ⟨rfl, h2⟩ := h
      rw [h2]
      refine M.go rfl ?_
      refine M.dec rfl (fun h => absurd h (by omega)) (fun _ => ?_)
      refine M.go rfl ?_
      refine M.dec rfl (fun _ => ?_) (fun h => absurd (by omega) h)
      refine M.go rfl ?_
      rw [hw]
      exact M.again (XH.ren [(0, 0), (1, 1), (2, 2), (3, 3), (4, 4), (5, 5), (6, 6), (7, 7)] again rfl (by repeat' (first | exact True.intro | refine evC rfl rfl Wk.rfl ?_ | refine evC (accV_ren rfl) rfl Wk.rfl ?_ | refine evC (accV_ren rfl) rfl Wk.acc0 ?_ | refine evC rfl rfl Wk.uncap ?_ | refine evC rfl rfl Wk.nil ?_)) (HeapOK.fam wOK (by repeat' (first | exact Tl.here | refine Tl.cons rfl ?_)) rfl))
    | some x =>
      have hkl := (List.getElem?_eq_some_iff.1 hx).1
      have hxo : x = oldB ∨ x = newB := by
        by_cases h1 : k < fr
        · rw [hc.old k h1] at hx; exact .inl (Option.some.inj hx).symm
        · rcases hc.new k x (by omega) hx with h2 | h2
          · exact .inr h2
          · exact .inl h2.1
      have C := W_gety hi k x hx (old_x x hxo) (base := base)
      rw [← hk1] at C
      refine M.useR (s := s) wOK [] (chE n fr (decide (R.length < n)) ++ [(17, .c (.p (.int .i64 (k + 1 : Nat))))]) trivial C rfl trivial rfl rfl rfl rfl (fun r s' h => by obtain ⟨⟨z, h⟩, -⟩ := h; rw [h]; rfl) (by repeat' (first | exact True.intro | refine evC rfl rfl Wk.rfl ?_ | refine evC (accV_ren rfl) rfl Wk.rfl ?_ | refine evC (accV_ren rfl) rfl Wk.acc0 ?_ | refine evC rfl rfl Wk.uncap ?_ | refine evC rfl rfl Wk.nil ?_)) (fun r s' h => ?_)
      obtain ⟨⟨z, rfl⟩, h2⟩ := h
      rw [h2]
      refine M.go rfl ?_
      by_cases h1 : k < fr
      · rw [hc.old k h1] at hx
        obtain rfl := Option.some.inj hx
        refine M.dec rfl (fun _ => ?_) (fun h => absurd (by omega) h)
        refine M.go rfl ?_
        refine M.op rfl (SOp.cvBS (l := [111, 108, 100]) rfl rfl) ?_
        refine M.go rfl ?_
        refine M.condB rfl (fun h => absurd h (by decide)) (fun _ => ?_)
        refine M.go rfl ?_
        refine M.dec rfl (fun h => absurd h (by omega)) (fun _ => ?_)
        refine M.go rfl ?_
        rw [hw]
        exact M.again (XH.ren [(0, 0), (1, 1), (2, 2), (3, 3), (4, 4), (5, 5), (6, 6), (7, 7)] again rfl (by repeat' (first | exact True.intro | refine evC rfl rfl Wk.rfl ?_ | refine evC (accV_ren rfl) rfl Wk.rfl ?_ | refine evC (accV_ren rfl) rfl Wk.acc0 ?_ | refine evC rfl rfl Wk.uncap ?_ | refine evC rfl rfl Wk.nil ?_)) (HeapOK.fam wOK (by repeat' (first | exact Tl.here | refine Tl.cons rfl ?_)) rfl))
      · refine M.dec rfl (fun h => absurd h (by omega)) (fun _ => ?_)
        refine M.go rfl ?_
        refine M.dec rfl (fun _ => ?_) (fun h => absurd (by omega) h)
        refine M.go rfl ?_
        rcases hc.new k x (by omega) hx with rfl | ⟨rfl, hl⟩
        · refine M.op rfl (SOp.cvBS (l := [110, 101, 119, 33]) rfl rfl) ?_
          refine M.go rfl ?_
          refine M.decB rfl (fun h => absurd h (by decide)) (fun _ => ?_)
          refine M.go rfl ?_
          rw [hw]
          exact M.again (XH.ren [(0, 0), (1, 1), (2, 2), (3, 3), (4, 4), (5, 5), (6, 6), (7, 7)] again rfl (by repeat' (first | exact True.intro | refine evC rfl rfl Wk.rfl ?_ | refine evC (accV_ren rfl) rfl Wk.rfl ?_ | refine evC (accV_ren rfl) rfl Wk.acc0 ?_ | refine evC rfl rfl Wk.uncap ?_ | refine evC rfl rfl Wk.nil ?_)) (HeapOK.fam wOK (by repeat' (first | exact Tl.here | refine Tl.cons rfl ?_)) rfl))
        · refine M.op rfl (SOp.cvBS (l := [111, 108, 100]) rfl rfl) ?_
          refine M.go rfl ?_
          refine M.decB rfl (fun _ => ?_) (fun h => absurd h (by decide))
          refine M.go rfl ?_
          refine M.decB rfl (fun h => absurd (of_decide_eq_true h) (by omega)) (fun _ => ?_)
          refine M.go rfl ?_
          refine M.op rfl (SOp.cvBS (l := [111, 108, 100]) rfl rfl) ?_
          refine M.go rfl ?_
          refine M.condB rfl (fun h => absurd h (by decide)) (fun _ => ?_)
          refine M.go rfl ?_
          rw [hw]
          exact M.again (XH.ren [(0, 0), (1, 1), (2, 2), (3, 3), (4, 4), (5, 5), (6, 6), (7, 7)] again rfl (by repeat' (first | exact True.intro | refine evC rfl rfl Wk.rfl ?_ | refine evC (accV_ren rfl) rfl Wk.rfl ?_ | refine evC (accV_ren rfl) rfl Wk.acc0 ?_ | refine evC rfl rfl Wk.uncap ?_ | refine evC rfl rfl Wk.nil ?_)) (HeapOK.fam wOK (by repeat' (first | exact Tl.here | refine Tl.cons rfl ?_)) rfl))
theorem lastI_one (R : List (List Int)) : lastI 1 R = (R.length : Int) := by
  unfold lastI
  split
  · next h => rw [h]; rfl
  · omega
theorem WalAgain_spec (n from_ front torn : Int) : CallS Try.prog base 4 [.c (.p (.int .i64 n)), .c (.p (.int .i64 from_)), .c (.p (.int .i64 front)), .c (.p (.int .i64 torn))] ⟨[], 0⟩ (.c (.p (.bool true))) ⟨[], 0⟩ := by
  refine CallS.of noNG lWag.2 rfl (M.start (M.go rfl ?_))
  refine M.use0 trivial begun4_spec rfl rfl rfl ?_
  refine M.go rfl ?_
  refine M.dec rfl (fun h1 => ?_) (fun h1 => ?_)
  · refine M.go rfl ?_
    exact M.ret (M.go rfl (M.done (finQ.ret [] rfl rfl rfl (by first | exact Wk.rfl | exact Wk.uncap | exact Wk.nil | exact Wk.b1 rfl | exact Wk.t2 Wk.rfl (Wk.b1 rfl)) (by repeat' (first | exact True.intro | refine hpC rfl rfl rfl ?_ | refine ⟨⟨_, _, _, rfl, rfl, rfl, @WkO.rfl _⟩, ?_⟩ | refine HeapOK.acc rfl rfl ?_)))))
  refine M.go rfl ?_
  refine M.dec rfl (fun h2 => ?_) (fun h2 => ?_)
  · refine M.go rfl ?_
    exact M.ret (M.go rfl (M.done (finQ.ret [] rfl rfl rfl (by first | exact Wk.rfl | exact Wk.uncap | exact Wk.nil | exact Wk.b1 rfl | exact Wk.t2 Wk.rfl (Wk.b1 rfl)) (by repeat' (first | exact True.intro | refine hpC rfl rfl rfl ?_ | refine ⟨⟨_, _, _, rfl, rfl, rfl, @WkO.rfl _⟩, ?_⟩ | refine HeapOK.acc rfl rfl ?_)))))
  refine M.go rfl ?_
  refine M.dec rfl (fun h3 => ?_) (fun h3 => ?_)
  · refine M.go rfl ?_
    exact M.ret (M.go rfl (M.done (finQ.ret [] rfl rfl rfl (by first | exact Wk.rfl | exact Wk.uncap | exact Wk.nil | exact Wk.b1 rfl | exact Wk.t2 Wk.rfl (Wk.b1 rfl)) (by repeat' (first | exact True.intro | refine hpC rfl rfl rfl ?_ | refine ⟨⟨_, _, _, rfl, rfl, rfl, @WkO.rfl _⟩, ?_⟩ | refine HeapOK.acc rfl rfl ?_)))))
  refine M.go rfl ?_
  refine M.dec rfl (fun h4 => ?_) (fun h4 => ?_)
  · refine M.go rfl ?_
    exact M.ret (M.go rfl (M.done (finQ.ret [] rfl rfl rfl (by first | exact Wk.rfl | exact Wk.uncap | exact Wk.nil | exact Wk.b1 rfl | exact Wk.t2 Wk.rfl (Wk.b1 rfl)) (by repeat' (first | exact True.intro | refine hpC rfl rfl rfl ?_ | refine ⟨⟨_, _, _, rfl, rfl, rfl, @WkO.rfl _⟩, ?_⟩ | refine HeapOK.acc rfl rfl ?_)))))
  refine M.go rfl ?_
  refine M.dec rfl (fun h5 => ?_) (fun h5 => ?_)
  · refine M.go rfl ?_
    exact M.ret (M.go rfl (M.done (finQ.ret [] rfl rfl rfl (by first | exact Wk.rfl | exact Wk.uncap | exact Wk.nil | exact Wk.b1 rfl | exact Wk.t2 Wk.rfl (Wk.b1 rfl)) (by repeat' (first | exact True.intro | refine hpC rfl rfl rfl ?_ | refine ⟨⟨_, _, _, rfl, rfl, rfl, @WkO.rfl _⟩, ?_⟩ | refine HeapOK.acc rfl rfl ?_)))))
  refine M.go rfl ?_
  refine M.cond rfl (fun h6 => ?_) (fun h6 => ?_)
  · refine M.go rfl ?_
    exact M.ret (M.go rfl (M.done (finQ.ret [] rfl rfl rfl (by first | exact Wk.rfl | exact Wk.uncap | exact Wk.nil | exact Wk.b1 rfl | exact Wk.t2 Wk.rfl (Wk.b1 rfl)) (by repeat' (first | exact True.intro | refine hpC rfl rfl rfl ?_ | refine ⟨⟨_, _, _, rfl, rfl, rfl, @WkO.rfl _⟩, ?_⟩ | refine HeapOK.acc rfl rfl ?_)))))
  obtain ⟨n, rfl⟩ : ∃ N : Nat, n = N := ⟨n.toNat, by omega⟩
  obtain ⟨fr, rfl⟩ : ∃ N : Nat, from_ = (N + 1 : Nat) := ⟨(from_ - 1).toNat, by omega⟩
  have hfn : fr < n := by omega
  have hn20 : n ≤ 20 := by omega
  refine M.go rfl ?_
  refine M.use trivial (dnew_spec 1048576) [] rfl rfl rfl trivial rfl rfl ?_
  refine M.go rfl ?_
  refine M.use trivial (wopen_empty mB [] 0 [] 0 rfl rfl) [(0, 0), (1, 1), (2, 2)] rfl rfl rfl (by repeat' (first | exact True.intro | refine hpC rfl rfl rfl ?_ | refine ⟨⟨_, _, _, rfl, rfl, rfl, @WkO.rfl _⟩, ?_⟩ | refine HeapOK.acc rfl rfl ?_)) rfl rfl ?_
  refine M.go rfl ?_
  refine M.condN rfl (fun hn => absurd rfl hn) (fun _ => ?_)
  refine M.go rfl ?_
  refine M.loop (XH.ren [(0, 0), (2, 3), (3, 1), (4, 2)] (ag_loop1 n fr front torn hn20 _ (fun s hs => ?_) n 0 ⟨mB, 0, 0, [], 0, [], 0, none, .nil⟩ (by omega) ⟨⟨fun h => absurd rfl h, rfl, rfl, rfl, fun h => absurd rfl h, .inl ⟨rfl, rfl, rfl⟩, by simp [rsR, olds, flatR]⟩, fun t ht => absurd ht (by simp [olds]), by simp [olds], fun h => absurd rfl h, by simp [wtN], fun _ => rfl⟩) rfl (by repeat' (first | exact True.intro | refine evC rfl rfl Wk.rfl ?_ | refine evC (accV_ren rfl) rfl Wk.rfl ?_ | refine evC (accV_ren rfl) rfl Wk.acc0 ?_ | refine evC rfl rfl Wk.uncap ?_ | refine evC rfl rfl Wk.nil ?_)) (by repeat' (first | exact True.intro | refine hpC rfl rfl rfl ?_ | refine ⟨⟨_, _, _, rfl, rfl, rfl, @WkO.rfl _⟩, ?_⟩ | refine HeapOK.acc rfl rfl ?_)))
  refine M.q (M.go rfl ?_)
  refine M.useR (s := s) wOK [] (agE n fr front torn) trivial hs.sync rfl trivial rfl rfl rfl rfl (fun r s' h => by rw [h.1]; rfl) (by repeat' (first | exact True.intro | refine evC rfl rfl Wk.rfl ?_ | refine evC (accV_ren rfl) rfl Wk.rfl ?_ | refine evC (accV_ren rfl) rfl Wk.acc0 ?_ | refine evC rfl rfl Wk.uncap ?_ | refine evC rfl rfl Wk.nil ?_)) (fun r s' h => ?_)
  obtain ⟨rfl, hs1, h3⟩ := h
  refine M.go rfl ?_
  have hP : P50 = 1125899906842624 := rfl
  have C := h3.from2 (by omega) ((fr + 1 : Nat) : Int) (by omega) oR (base := base)
  rw [doF_cut n fr oR hfn] at C
  refine M.useR (s := s') wOK [] (agE n fr front torn) trivial C rfl trivial rfl rfl rfl rfl (fun r s' h => by rw [h.1]; rfl) (by repeat' (first | exact True.intro | refine evC rfl rfl Wk.rfl ?_ | refine evC (accV_ren rfl) rfl Wk.rfl ?_ | refine evC (accV_ren rfl) rfl Wk.acc0 ?_ | refine evC rfl rfl Wk.uncap ?_ | refine evC rfl rfl Wk.nil ?_)) (fun r s2 h => ?_)
  obtain ⟨rfl, k2, k3, -⟩ := h
  refine M.go rfl ?_
  have hAI0 : AI n fr 0 (n + 1 + 1) s2 := by
    obtain ⟨V', v1, v2, v3, v4⟩ := k3
    have hp := Pth.cons v2 (.nil (B := flatR 1 (rsR (olds fr))))
    refine ⟨by rw [newsT_0]; exact k2, V' ++ [], [flatR 1 (rsR (olds fr))], ?_, ?_, hp, by rw [newsT_0]; rfl, fun E hE => ⟨0, Nat.le_refl _, by rw [newsT_0]; simpa using hE⟩⟩
    · have := h3.inv.file
      rw [v3, v4]
      rw [hs1] at this ⊢
      exact this
    · rw [v1, hs1, List.append_nil]
      exact wtL_wts [] V'
  refine M.loop (XH.ren [(0, 0), (1, 1), (2, 2), (3, 3), (4, 4), (5, 5), (6, 6), (7, 7)] (ag_loop2 n fr front torn hn20 _ (fun s4 i hi hA => ?_) (n - fr) 0 (n + 1 + 1) s2 (by omega) (by omega) hAI0) rfl (by repeat' (first | exact True.intro | refine evC rfl rfl Wk.rfl ?_ | refine evC (accV_ren rfl) rfl Wk.rfl ?_ | refine evC (accV_ren rfl) rfl Wk.acc0 ?_ | refine evC rfl rfl Wk.uncap ?_ | refine evC rfl rfl Wk.nil ?_)) (HeapOK.fam wOK (by repeat' (first | exact Tl.here | refine Tl.cons rfl ?_)) rfl))
  refine M.q (M.go rfl ?_)
  obtain ⟨V, l, g1, g2, g3, g4, g5⟩ := hA.path
  have hdk := hA.lp.dk
  rw [g2, wts_N] at hdk
  -- what is left
  have hT : ∀ E, E ∈ flatR 1 (rsR (olds n)) :: l → ∃ T, E = flatR 1 (rsR T) ∧ (∀ t ∈ T, Bytes t.2.1 ∧ t.2.1.length ≤ 300) ∧ T.length ≤ n ∧ Ck n fr (rsR T) := fun E hE => by
    rcases List.mem_cons.1 hE with rfl | h
    · exact ⟨olds n, rfl, fun t ht => newsT_mem (fr := n) (j := 0) t (by rw [newsT_0]; exact ht), by rw [olds_len]; omega, Ck.old_ n fr hfn⟩
    · obtain ⟨j', h1, h2⟩ := g5 E h
      exact ⟨newsT fr j', h2, newsT_mem, by rw [newsT_len]; omega, Ck.new_ n fr j' hfn (by omega)⟩
  have hTl : ∀ T : List Rc, (∀ t ∈ T, Bytes t.2.1 ∧ t.2.1.length ≤ 300) → T.length ≤ n → (rsR T ≠ [] → RecOK 1 (rsR T)) ∧ (flatR 1 (rsR T)).length ≤ 31800 := fun T h1 h2 =>
    have hg : Md.good ⟨1, true, T, none⟩ := ⟨h1, by show T.length ≤ 30; omega, fun _ => by show (1 : Int) ≤ 1 ∧ 1 + (T.length : Int) ≤ _; omega⟩
    ⟨hg.ok, hg.ctl⟩
  obtain ⟨t, E, tl1, X, c1, c2⟩ := g3.crash (n := front) (torn := torn) 0 (s4.L, s4.lc) g1 (fun E hE => by
    obtain ⟨T, rfl, t2, t3, -⟩ := hT E hE
    have := (hTl T t2 t3).2
    omega)
  obtain ⟨T, rfl, t2, t3, hck⟩ := hT E c2.at_
  obtain ⟨hTok, hTsz⟩ := hTl T t2 t3
  have hbare : s4.bareW = ⟨mB, 0, 0, s4.L, s4.lc, s4.F, s4.c, wts V, .no⟩ := by simp only [WS.bareW]; rw [hA.lp.inv.room, g2]
  refine M.shO (Sh.ren (e' := agE n fr front torn ++ [(87, .c (.ptr 0 0)), (88, .c (.p (.int .i64 front))), (89, .c (.p (.int .i64 torn)))]) (h' := ⟨(wFam.mem s4.bareW).l, 8⟩) [(0, 0), (1, 1), (2, 2), (3, 3), (4, 4), (5, 5), (6, 6), (7, 7)] rfl (by repeat' (first | exact True.intro | refine evC rfl rfl Wk.rfl ?_ | refine evC (accV_ren rfl) rfl Wk.rfl ?_ | refine evC (accV_ren rfl) rfl Wk.acc0 ?_ | refine evC rfl rfl Wk.uncap ?_ | refine evC rfl rfl Wk.nil ?_)) (bareW_heap (by repeat' (first | exact Tl.here | refine Tl.cons rfl ?_)) rfl)) ?_
  rw [hbare]
  refine M.useR (s := (⟨mB, 0, 0, s4.L, s4.lc, s4.F, s4.c, wts V, .no⟩ : WS)) wOK [] [(0, .c (.p (.int .i64 n))), (1, .c (.p (.int .i64 (fr + 1 : Nat))))] trivial (W_crash mB 0 0 s4.L s4.lc s4.F s4.c V (by omega) front torn t c1) rfl trivial rfl rfl rfl rfl (fun r s' h => by rw [h.1]; rfl) (by repeat' (first | exact True.intro | refine evC rfl rfl Wk.rfl ?_ | refine evC (accV_ren rfl) rfl Wk.rfl ?_ | refine evC (accV_ren rfl) rfl Wk.acc0 ?_ | refine evC rfl rfl Wk.uncap ?_ | refine evC rfl rfl Wk.nil ?_)) (fun r s1 h => ?_)
  obtain ⟨rfl, rfl⟩ := h
  refine M.go rfl ?_
  refine M.useR (s := (⟨mB, 0, 0, t.1, t.2, t.1, t.2, none, .no⟩ : WS)) wOK [] [(0, .c (.p (.int .i64 n))), (1, .c (.p (.int .i64 (fr + 1 : Nat))))] trivial (W_open 0 0 t.1 t.2 t.1 t.2 1 (rsR T) tl1 X hTok c2.dk c2.tail (fun h => ⟨(c2.fr h).1, fun e => (c2.fr h).2 (by rw [e]; rfl)⟩) (by omega)) rfl trivial rfl rfl rfl rfl (fun r s' h => by rw [h.1]; rfl) (by repeat' (first | exact True.intro | refine evC rfl rfl Wk.rfl ?_ | refine evC (accV_ren rfl) rfl Wk.rfl ?_ | refine evC (accV_ren rfl) rfl Wk.acc0 ?_ | refine evC rfl rfl Wk.uncap ?_ | refine evC rfl rfl Wk.nil ?_)) (fun r s5 h => ?_)
  obtain ⟨rfl, w1, -, -, -⟩ := h
  generalize rsR T = R at w1 hck
  obtain ⟨hle1, hle2⟩ := hck.le
  refine M.go rfl ?_
  refine M.decN rfl (fun hn => absurd rfl hn) (fun _ => ?_)
  refine M.go rfl ?_
  refine M.useR (s := s5) wOK [] [(0, .c (.p (.int .i64 n))), (1, .c (.p (.int .i64 (fr + 1 : Nat)))), (15, .c (.ptr 2 0)), (96, .c (.p (.bool false)))] rfl (W_last w1) rfl trivial rfl rfl rfl rfl (fun r s' h => by rw [h.1]; rfl) (by repeat' (first | exact True.intro | refine evC rfl rfl Wk.rfl ?_ | refine evC (accV_ren rfl) rfl Wk.rfl ?_ | refine evC (accV_ren rfl) rfl Wk.acc0 ?_ | refine evC rfl rfl Wk.uncap ?_ | refine evC rfl rfl Wk.nil ?_)) (fun r s' h => ?_)
  obtain ⟨rfl, e2⟩ := h
  rw [e2, lastI_one]
  refine M.go rfl ?_
  rw [wr64 (n := ((fr + 1 : Nat) : Int) - 1) (by omega) (by omega)]
  refine M.cond rfl (fun h => absurd h (by omega)) (fun _ => ?_)
  refine M.go rfl ?_
  refine M.useR (s := s5) wOK [] [(0, .c (.p (.int .i64 n))), (1, .c (.p (.int .i64 (fr + 1 : Nat)))), (15, .c (.ptr 2 0))] trivial (W_last w1) rfl trivial rfl rfl rfl rfl (fun r s' h => by rw [h.1]; rfl) (by repeat' (first | exact True.intro | refine evC rfl rfl Wk.rfl ?_ | refine evC (accV_ren rfl) rfl Wk.rfl ?_ | refine evC (accV_ren rfl) rfl Wk.acc0 ?_ | refine evC rfl rfl Wk.uncap ?_ | refine evC rfl rfl Wk.nil ?_)) (fun r s' h => ?_)
  obtain ⟨rfl, e3⟩ := h
  rw [e3, lastI_one]
  refine M.go rfl ?_
  have hdc : decide ((R.length : Int) < (n : Int)) = decide (R.length < n) := by simp
  rw [hdc]
  refine M.loop (XH.ren [(0, 0), (1, 1), (2, 2), (3, 3), (4, 4), (5, 5), (6, 6), (7, 7)] (ck_loop n fr hn20 w1 hck _ ?_ n 0 (by omega)) rfl (by repeat' (first | exact True.intro | refine evC rfl rfl Wk.rfl ?_ | refine evC (accV_ren rfl) rfl Wk.rfl ?_ | refine evC (accV_ren rfl) rfl Wk.acc0 ?_ | refine evC rfl rfl Wk.uncap ?_ | refine evC rfl rfl Wk.nil ?_)) (HeapOK.fam wOK (by repeat' (first | exact Tl.here | refine Tl.cons rfl ?_)) rfl))
  refine M.q (M.go rfl ?_)
  have hx : ∀ k : Nat, k < R.length → ∃ x, R[k]? = some x ∧ (x = oldB ∨ x = newB) := fun k hk => by
    refine ⟨R[k], List.getElem?_eq_getElem hk, ?_⟩
    by_cases h1 : k < fr
    · have := hck.old k h1
      rw [List.getElem?_eq_getElem hk] at this
      exact .inl (Option.some.inj this)
    · rcases hck.new k _ (by omega) (List.getElem?_eq_getElem hk) with h2 | h2
      · exact .inr h2
      · exact .inl h2.1
  have hget : ∀ k : Nat, CW base 26 [.c (.ptr 2 0), .c (.p (.int .i64 (k + 1 : Nat)))] s5 (fun r s' => ((k < R.length ∧ ∃ z x, R[k]? = some x ∧ (x = oldB ∨ x = newB) ∧ r = .tup [.c (.p (fP z x none)), .c (.p (.bool true))]) ∨ (R.length ≤ k ∧ r = .tup [.c (.p (.tz true 0 [] none)), .c (.p (.bool false))])) ∧ s' = s5) := fun k => by
    by_cases hk : k < R.length
    · obtain ⟨x, h1, h2⟩ := hx k hk
      have C := W_gety w1 k x h1 (old_x x h2) (base := base)
      rw [show (1 : Int) + (k : Nat) = ((k + 1 : Nat) : Int) by omega] at C
      exact C.mono fun r s' hr => ⟨.inl ⟨hk, by obtain ⟨⟨z, h⟩, -⟩ := hr; exact ⟨z, x, h1, h2, h⟩⟩, hr.2⟩
    · exact (W_getn w1 ((k + 1 : Nat) : Int) (fun _ => by omega)).mono fun r s' hr => ⟨.inr ⟨by omega, hr.1⟩, hr.2⟩
  have hr0 : ∀ (k : Nat) (r : XV), (k < R.length ∧ ∃ z x, R[k]? = some x ∧ (x = oldB ∨ x = newB) ∧ r = .tup [.c (.p (fP z x none)), .c (.p (.bool true))]) ∨ (R.length ≤ k ∧ r = .tup [.c (.p (.tz true 0 [] none)), .c (.p (.bool false))]) → r.ren wFam.gi = some r := fun k r h => by
    rcases h with ⟨-, z, x, -, -, rfl⟩ | ⟨-, rfl⟩ <;> rfl
  refine M.useR (s := s5) wOK [] (chE n fr (decide (R.length < n))) trivial (hget fr) rfl trivial rfl rfl rfl rfl (fun r s' h => hr0 fr r h.1) (by repeat' (first | exact True.intro | refine evC rfl rfl Wk.rfl ?_ | refine evC (accV_ren rfl) rfl Wk.rfl ?_ | refine evC (accV_ren rfl) rfl Wk.acc0 ?_ | refine evC rfl rfl Wk.uncap ?_ | refine evC rfl rfl Wk.nil ?_)) (fun r s' h => ?_)
  obtain ⟨hr, e4⟩ := h
  rw [e4]
  obtain ⟨a, p, rfl, ha, hp⟩ : ∃ (a : Bool) (p : PC), r = .tup [.c (.p p), .c (.p (.bool a))] ∧ (a = true ↔ fr < R.length) ∧ (a = true → ∃ z x, R[fr]? = some x ∧ p = fP z x none) := by
    rcases hr with ⟨h1, z, x, h2, -, rfl⟩ | ⟨h1, rfl⟩
    · exact ⟨true, _, rfl, by simp [h1], fun _ => ⟨z, x, h2, rfl⟩⟩
    · exact ⟨false, _, rfl, by simp; omega, fun h => by cases h⟩
  refine M.go rfl ?_
  obtain ⟨n', rfl⟩ : ∃ n', n = n' + 1 := ⟨n - 1, by omega⟩
  refine M.useR (s := s5) wOK [] (chE (n' + 1) fr (decide (R.length < n' + 1)) ++ [(21, .c (.p (.bool a)))]) trivial (hget n') rfl trivial rfl rfl rfl rfl (fun r s' h => hr0 n' r h.1) (by repeat' (first | exact True.intro | refine evC rfl rfl Wk.rfl ?_ | refine evC (accV_ren rfl) rfl Wk.rfl ?_ | refine evC (accV_ren rfl) rfl Wk.acc0 ?_ | refine evC rfl rfl Wk.uncap ?_ | refine evC rfl rfl Wk.nil ?_)) (fun r s' h => ?_)
  obtain ⟨hr2, e5⟩ := h
  rw [e5]
  obtain ⟨a2, p2, rfl, ha2, hp2⟩ : ∃ (a : Bool) (p : PC), r = .tup [.c (.p p), .c (.p (.bool a))] ∧ (a = true ↔ n' < R.length) ∧ (a = true → ∃ z x, R[n']? = some x ∧ p = fP z x none) := by
    rcases hr2 with ⟨h1, z, x, h2, -, rfl⟩ | ⟨h1, rfl⟩
    · exact ⟨true, _, rfl, by simp [h1], fun _ => ⟨z, x, h2, rfl⟩⟩
    · exact ⟨false, _, rfl, by simp; omega, fun h => by cases h⟩
  refine M.go rfl ?_
  refine M.useR (s := s5) wOK [] (chE (n' + 1) fr (decide (R.length < n' + 1)) ++ [(21, .c (.p (.bool a))), (22, .c (.p p2))]) trivial (hget fr) rfl trivial rfl rfl rfl rfl (fun r s' h => hr0 fr r h.1) (by repeat' (first | exact True.intro | refine evC rfl rfl Wk.rfl ?_ | refine evC (accV_ren rfl) rfl Wk.rfl ?_ | refine evC (accV_ren rfl) rfl Wk.acc0 ?_ | refine evC rfl rfl Wk.uncap ?_ | refine evC rfl rfl Wk.nil ?_)) (fun r s' h => ?_)
  obtain ⟨hr3, e6⟩ := h
  rw [e6]
  obtain ⟨a3, p3, rfl, ha3, hp3⟩ : ∃ (a : Bool) (p : PC), r = .tup [.c (.p p), .c (.p (.bool a))] ∧ (a = true ↔ fr < R.length) ∧ (a = true → ∃ z x, R[fr]? = some x ∧ p = fP z x none) := by
    rcases hr3 with ⟨h1, z, x, h2, -, rfl⟩ | ⟨h1, rfl⟩
    · exact ⟨true, _, rfl, by simp [h1], fun _ => ⟨z, x, h2, rfl⟩⟩
    · exact ⟨false, _, rfl, by simp; omega, fun h => by cases h⟩
  cases a with
  | false =>
    refine M.go rfl ?_
    exact M.ret (M.go rfl (M.done (finQ.ret [] rfl rfl rfl (by first | exact Wk.rfl | exact Wk.uncap | exact Wk.nil | exact Wk.b1 rfl | exact Wk.t2 Wk.rfl (Wk.b1 rfl)) (by repeat' (first | exact True.intro | refine hpC rfl rfl rfl ?_ | refine ⟨⟨_, _, _, rfl, rfl, rfl, @WkO.rfl _⟩, ?_⟩ | refine HeapOK.acc rfl rfl ?_)))))
  | true =>
    refine M.go rfl ?_
    refine M.decB rfl (fun _ => ?_) (fun hd => ?_)
    · refine M.go rfl ?_
      exact M.ret (M.go rfl (M.done (finQ.ret [] rfl rfl rfl (by first | exact Wk.rfl | exact Wk.uncap | exact Wk.nil | exact Wk.b1 rfl | exact Wk.t2 Wk.rfl (Wk.b1 rfl)) (by repeat' (first | exact True.intro | refine hpC rfl rfl rfl ?_ | refine ⟨⟨_, _, _, rfl, rfl, rfl, @WkO.rfl _⟩, ?_⟩ | refine HeapOK.acc rfl rfl ?_)))))
    have hl : R.length = n' + 1 := by simp at hd; omega
    obtain ⟨x, x1, x2, x3⟩ := hck.fin hl
    obtain ⟨z3, y3, y4, rfl⟩ := hp3 (ha3.2 (by omega))
    obtain ⟨z2, y5, y6, rfl⟩ := hp2 (ha2.2 (by omega))
    rw [x1] at y4
    rw [show n' + 1 - 1 = n' from rfl, y6] at x2
    obtain rfl := Option.some.inj y4
    obtain rfl := Option.some.inj x2
    have hb : Bytes y5 := x3.elim (fun h => by rw [h]; exact oR_b.1) (fun h => by rw [h]; exact nR_b.1)
    refine M.go rfl ?_
    refine M.op rfl (SOp.cvBS rfl (bytesX_w hb)) ?_
    refine M.go rfl ?_
    refine M.op rfl (SOp.cvBS rfl (bytesX_w hb)) ?_
    refine M.go rfl ?_
    exact M.ret (M.go rfl (M.done (finQ.ret [] rfl rfl rfl (Wk.b1 (by rw [eqL_dec]; simp)) (by repeat' (first | exact True.intro | refine hpC rfl rfl rfl ?_ | refine ⟨⟨_, _, _, rfl, rfl, rfl, @WkO.rfl _⟩, ?_⟩ | refine HeapOK.acc rfl rfl ?_)))))
theorem WalAgain_law {p0 p1 p2 p3 : PC} (h0 : Is (.int .i64) p0) (h1 : Is (.int .i64) p1) (h2 : Is (.int .i64) p2) (h3 : Is (.int .i64) p3) : CallS Try.prog base 4 [xvP p0, xvP p1, xvP p2, xvP p3] ⟨[], 0⟩ (.c (.p (.bool true))) ⟨[], 0⟩ := by
  obtain ⟨n, rfl, -⟩ := h0.i64
  obtain ⟨m, rfl, -⟩ := h1.i64
  obtain ⟨a, rfl, -⟩ := h2.i64
  obtain ⟨u, rfl, -⟩ := h3.i64
  exact WalAgain_spec n m a u
end Go.Proofs.Ytjlfojgacnphmaa
