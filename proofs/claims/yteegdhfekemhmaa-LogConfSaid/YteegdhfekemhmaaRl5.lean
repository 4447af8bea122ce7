/- delphilaw20.LogCut: entries that are put over others. -/
import Derived.Test.YteegdhfekemhmaaRl4
import Derived.Test.YteegdhfekemhmaaSymV
namespace Go.Proofs.Yteegdhfekemhmaa
open Go.RowKit Sim Go Sym
set_option maxRecDepth 100000
set_option linter.unusedVariables false
set_option linter.unusedSimpArgs false
variable {base : Nat}
def entQ (b t : Int) : Ent := ⟨b, t, 2, true, [], none⟩
def seqE (b t : Int) (k : Nat) : List Ent := (List.range k).map fun (j : Nat) => entQ (b + ((j : Int) + 1)) t
theorem seqE_succ (b t : Int) (k : Nat) : seqE b t (k + 1) = seqE b t k ++ [entQ (b + (k + 1)) t] := by simp [seqE, List.range_succ]
theorem seqE_cons (b t : Int) (k : Nat) : seqE b t (k + 1) = entQ (b + 1) t :: seqE (b + 1) t k := by
  simp only [seqE, List.range_succ_eq_map, List.map_cons, List.map_map]
  refine List.cons_eq_cons.2 ⟨by simp, List.map_congr_left fun j _ => ?_⟩
  simp only [Function.comp, Nat.succ_eq_add_one]
  rw [show b + (((j + 1 : Nat) : Int) + 1) = b + 1 + ((j : Int) + 1) by omega]
theorem seqE_len (b t : Int) (k : Nat) : (seqE b t k).length = k := by simp [seqE]
theorem seqE_may (t : Int) (ht : 1 ≤ t) : ∀ (k : Nat) (b s : Int), s ≤ t → b + k ≤ 9223372036854775806 → mayF b s (seqE b t k) = true
  | 0, _, _, _, _ => rfl
  | k + 1, b, s, hs, hb => by
    have h0 := seqE_may t ht k (b + 1) t (Int.le_refl _) (by omega)
    rw [seqE_cons, mayF]
    have h1 : ¬ b = 9223372036854775807 := by omega
    have h2 : ¬ t < 1 := by omega
    have h3 : ¬ t < s := by omega
    simp [entB, entQ, h1, h2, h3, h0]
theorem seqE_ok (b t : Int) (k : Nat) (hb : 0 ≤ b) (hb2 : b + k ≤ 9000000000000000000) (ht : I64 t) : ∀ e ∈ seqE b t k, e.ok := by
  intro e he
  simp only [seqE, List.mem_map, List.mem_range] at he
  obtain ⟨j, hj, rfl⟩ := he
  exact ⟨⟨by simp [entQ]; omega, by simp [entQ]; omega⟩, ht, ⟨by simp [entQ], by simp [entQ]⟩, ⟨by simp [entQ], by simp [entQ]⟩⟩
theorem seqE_own (b t : Int) (k : Nat) : (seqE b t k).map Ent.own = seqE b t k := by simp [seqE, Function.comp_def, entQ, Ent.own]
noncomputable def lCut : {F : LF // lowerF Try.prog 6 = some F} := ⟨_, rfl⟩
theorem cutA (b n f m : Int) (N : Nat) (hN : n = N) (hn : N ≤ 30) (hb : 0 ≤ b) (hb2 : b ≤ 1099511627776) (Q : QX) (hq : Q (.exit 0) [(10, accV 0 4 (entP (seqE b 2 N))), (0, .c (.p (.int .i64 b))), (1, .c (.p (.int .i64 n))), (2, .c (.p (.int .i64 f))), (3, .c (.p (.int .i64 m))), (11, .c (.p (.tz true 0 [] none)))] ⟨[(0, accO 4 (entP (seqE b 2 N)))], 1⟩) :
    ∀ (rem k : Nat), k + rem = N → XH Try.prog base lCut.1.n 0 (lCut.1.c.lp 0) [(10, accV 0 4 (entP (seqE b 2 k))), (12, .c (.p (.int .i64 (k + 1)))), (0, .c (.p (.int .i64 b))), (1, .c (.p (.int .i64 n))), (2, .c (.p (.int .i64 f))), (3, .c (.p (.int .i64 m))), (11, .c (.p (.tz true 0 [] none)))] ⟨[(0, accO 4 (entP (seqE b 2 k)))], 1⟩ Q := by
  intro rem
  induction rem with
  | zero =>
    intro k hk
    obtain rfl : k = N := by omega
    refine M.round (M.go rfl ?_)
    refine M.cond rfl (fun hc => ?_) (fun hc => ?_)
    · omega
    · refine M.ren [(0, 0)] ?_ trivial rfl (by repeat' (first | exact True.intro | refine ⟨⟨_, _, rfl, rfl, Wk.rfl⟩, ?_⟩ | refine ⟨⟨_, _, accV_ren rfl, rfl, Wk.rfl⟩, ?_⟩ | refine ⟨⟨_, _, accV_ren rfl, rfl, Wk.acc0⟩, ?_⟩ | refine ⟨⟨_, _, rfl, rfl, Wk.uncap⟩, ?_⟩ | refine ⟨⟨_, _, rfl, rfl, Wk.nil⟩, ?_⟩)) (by repeat' (first | exact True.intro | refine ⟨⟨_, _, _, rfl, rfl, rfl, WkO.rfl⟩, ?_⟩ | refine HeapOK.acc rfl rfl ?_)) (e' := [(10, accV 0 4 (entP (seqE b 2 k))), (0, .c (.p (.int .i64 b))), (1, .c (.p (.int .i64 n))), (2, .c (.p (.int .i64 f))), (3, .c (.p (.int .i64 m))), (11, .c (.p (.tz true 0 [] none)))]) (h' := ⟨[(0, accO 4 (entP (seqE b 2 k)))], 1⟩)
      exact M.exit (M.go rfl (M.done hq))
  | succ rem ih =>
    intro k hk
    have ih' := ih (k + 1) (by omega)
    rw [seqE_succ, show entP (seqE b 2 k ++ [entQ (b + (k + 1)) 2]) = entP (seqE b 2 k) ++ [(entQ (b + (k + 1)) 2).pc] by simp [entP]] at ih'
    refine M.round (M.go rfl ?_)
    refine M.cond rfl (fun hc => ?_) (fun hc => ?_)
    · refine M.goN 10 rfl ?_
      have hw : IntKind.i64.wrap (b + ((k : Int) + 1)) = b + ((k : Int) + 1) := wr64 (by omega) (by omega)
      have hw2 : IntKind.i64.wrap ((k : Int) + 1 + 1) = ((k + 1 : Nat) : Int) + 1 := by rw [wr64 (by omega) (by omega)]; omega
      rw [hw]
      refine M.wkO (i := 62) (v' := (entQ (b + ((k : Int) + 1)) 2).v) rfl Wk.rfl ?_
      refine M.go rfl ?_
      refine M.acc trivial rfl rfl rfl (.own rfl rfl) (by simp) (by rw [entP_len, seqE_len]; simp; omega) ?_
      refine M.go rfl ?_
      rw [hw2]
      exact M.again (XH.ren [(0, 2)] ih' rfl (by repeat' (first | exact True.intro | refine ⟨⟨_, _, rfl, rfl, Wk.rfl⟩, ?_⟩ | refine ⟨⟨_, _, accV_ren rfl, rfl, Wk.rfl⟩, ?_⟩ | refine ⟨⟨_, _, accV_ren rfl, rfl, Wk.acc0⟩, ?_⟩ | refine ⟨⟨_, _, rfl, rfl, Wk.uncap⟩, ?_⟩ | refine ⟨⟨_, _, rfl, rfl, Wk.nil⟩, ?_⟩)) (by repeat' (first | exact True.intro | refine ⟨⟨_, _, _, rfl, rfl, rfl, WkO.rfl⟩, ?_⟩ | refine HeapOK.acc rfl rfl ?_)))
    · omega
theorem cutB (b n f m : Int) (Ea : List PC) (N : Nat) (hN : m = N) (hn : N ≤ 20) (hb : 0 ≤ b) (hb2 : b ≤ 1099511627776) (hf : 0 ≤ f) (hf2 : f ≤ 30) (Q : QX) (hq : Q (.exit 2) [(11, accV 0 4 (entP (seqE (b + f) 3 N))), (0, .c (.p (.int .i64 b))), (1, .c (.p (.int .i64 n))), (2, .c (.p (.int .i64 f))), (3, .c (.p (.int .i64 m))), (10, .c (.p (.tz true 4 Ea none)))] ⟨[(0, accO 4 (entP (seqE (b + f) 3 N)))], 1⟩) :
    ∀ (rem k : Nat), k + rem = N → XH Try.prog base lCut.1.n 0 (lCut.1.c.lp 1) [(11, accV 0 4 (entP (seqE (b + f) 3 k))), (13, .c (.p (.int .i64 (k + 1)))), (0, .c (.p (.int .i64 b))), (1, .c (.p (.int .i64 n))), (2, .c (.p (.int .i64 f))), (3, .c (.p (.int .i64 m))), (10, .c (.p (.tz true 4 Ea none)))] ⟨[(0, accO 4 (entP (seqE (b + f) 3 k)))], 1⟩ Q := by
  intro rem
  induction rem with
  | zero =>
    intro k hk
    obtain rfl : k = N := by omega
    refine M.round (M.go rfl ?_)
    refine M.cond rfl (fun hc => ?_) (fun hc => ?_)
    · omega
    · refine M.ren [(0, 0)] ?_ trivial rfl (by repeat' (first | exact True.intro | refine ⟨⟨_, _, rfl, rfl, Wk.rfl⟩, ?_⟩ | refine ⟨⟨_, _, accV_ren rfl, rfl, Wk.rfl⟩, ?_⟩ | refine ⟨⟨_, _, accV_ren rfl, rfl, Wk.acc0⟩, ?_⟩ | refine ⟨⟨_, _, rfl, rfl, Wk.uncap⟩, ?_⟩ | refine ⟨⟨_, _, rfl, rfl, Wk.nil⟩, ?_⟩)) (by repeat' (first | exact True.intro | refine ⟨⟨_, _, _, rfl, rfl, rfl, WkO.rfl⟩, ?_⟩ | refine HeapOK.acc rfl rfl ?_)) (e' := [(11, accV 0 4 (entP (seqE (b + f) 3 k))), (0, .c (.p (.int .i64 b))), (1, .c (.p (.int .i64 n))), (2, .c (.p (.int .i64 f))), (3, .c (.p (.int .i64 m))), (10, .c (.p (.tz true 4 Ea none)))]) (h' := ⟨[(0, accO 4 (entP (seqE (b + f) 3 k)))], 1⟩)
      exact M.exit (M.go rfl (M.done hq))
  | succ rem ih =>
    intro k hk
    have ih' := ih (k + 1) (by omega)
    rw [seqE_succ, show entP (seqE (b + f) 3 k ++ [entQ (b + f + (k + 1)) 3]) = entP (seqE (b + f) 3 k) ++ [(entQ (b + f + (k + 1)) 3).pc] by simp [entP]] at ih'
    refine M.round (M.go rfl ?_)
    refine M.cond rfl (fun hc => ?_) (fun hc => ?_)
    · refine M.goN 12 rfl ?_
      have hw0 : IntKind.i64.wrap (f + ((k : Int) + 1)) = f + ((k : Int) + 1) := wr64 (by omega) (by omega)
      have hw : IntKind.i64.wrap (b + (f + ((k : Int) + 1))) = b + f + ((k : Int) + 1) := by rw [wr64 (by omega) (by omega)]; omega
      have hw2 : IntKind.i64.wrap ((k : Int) + 1 + 1) = ((k + 1 : Nat) : Int) + 1 := by rw [wr64 (by omega) (by omega)]; omega
      rw [hw0, hw]
      refine M.wkO (i := 76) (v' := (entQ (b + f + ((k : Int) + 1)) 3).v) rfl Wk.rfl ?_
      refine M.go rfl ?_
      refine M.acc trivial rfl rfl rfl (.own rfl rfl) (by simp) (by rw [entP_len, seqE_len]; simp; omega) ?_
      refine M.go rfl ?_
      rw [hw2]
      exact M.again (XH.ren [(0, 2)] ih' rfl (by repeat' (first | exact True.intro | refine ⟨⟨_, _, rfl, rfl, Wk.rfl⟩, ?_⟩ | refine ⟨⟨_, _, accV_ren rfl, rfl, Wk.rfl⟩, ?_⟩ | refine ⟨⟨_, _, accV_ren rfl, rfl, Wk.acc0⟩, ?_⟩ | refine ⟨⟨_, _, rfl, rfl, Wk.uncap⟩, ?_⟩ | refine ⟨⟨_, _, rfl, rfl, Wk.nil⟩, ?_⟩)) (by repeat' (first | exact True.intro | refine ⟨⟨_, _, _, rfl, rfl, rfl, WkO.rfl⟩, ?_⟩ | refine HeapOK.acc rfl rfl ?_)))
    · omega
theorem cutT (b n f m : Int) (L : PLog) (hL : L.ok) (hb : 0 ≤ b) (hb2 : b ≤ 1099511627776) (hf : 0 ≤ f) (hf2 : f ≤ 30) (hm0 : 1 ≤ m) (hm : m ≤ 20) (h3 : ∀ i : Int, f < i → i ≤ f + m → L.term (b + i) = (3, true)) (h2 : ∀ i : Int, 1 ≤ i → i ≤ f → L.term (b + i) = (2, true)) (Q : QX) (hq : Q (.exit 4) [(14, .c (.ptr 0 0)), (0, .c (.p (.int .i64 b)))] L.h) :
    ∀ (rem : Nat) (i : Int), 1 ≤ i → i + rem = f + m + 1 → XH Try.prog base lCut.1.n 0 (lCut.1.c.lp 2) [(14, .c (.ptr 0 0)), (15, .c (.p (.int .i64 i))), (0, .c (.p (.int .i64 b))), (2, .c (.p (.int .i64 f))), (3, .c (.p (.int .i64 m)))] L.h Q := by
  have hwf : IntKind.i64.wrap (f + m) = f + m := wr64 (by omega) (by omega)
  intro rem
  induction rem with
  | zero =>
    intro i h1 hi
    refine M.round (M.go rfl ?_)
    rw [hwf]
    refine M.cond rfl (fun hc => ?_) (fun hc => ?_)
    · omega
    · refine M.ren [(0, 0)] ?_ trivial rfl (by repeat' (first | exact True.intro | refine ⟨⟨_, _, rfl, rfl, Wk.rfl⟩, ?_⟩ | refine ⟨⟨_, _, accV_ren rfl, rfl, Wk.rfl⟩, ?_⟩ | refine ⟨⟨_, _, accV_ren rfl, rfl, Wk.acc0⟩, ?_⟩ | refine ⟨⟨_, _, rfl, rfl, Wk.uncap⟩, ?_⟩ | refine ⟨⟨_, _, rfl, rfl, Wk.nil⟩, ?_⟩)) (by repeat' (first | exact True.intro | refine ⟨⟨_, _, _, rfl, rfl, rfl, WkO.rfl⟩, ?_⟩ | refine HeapOK.acc rfl rfl ?_)) (e' := [(14, .c (.ptr 0 0)), (0, .c (.p (.int .i64 b)))]) (h' := L.h)
      exact M.exit (M.go rfl (M.done hq))
  | succ rem ih =>
    intro i h1 hi
    have ih' := ih (i + 1) (by omega) (by omega)
    refine M.round (M.go rfl ?_)
    rw [hwf]
    refine M.cond rfl (fun hc => ?_) (fun hc => ?_)
    · refine M.go rfl ?_
      have hw : IntKind.i64.wrap (b + i) = b + i := wr64 (by omega) (by omega)
      have hw2 : IntKind.i64.wrap (i + 1) = i + 1 := wr64 (by omega) (by omega)
      rw [hw]
      refine M.use (by first | exact True.intro | exact rfl) (Term_spec L hL (b + i) ⟨by omega, by omega⟩) [(0, 0)] rfl rfl rfl (by repeat' (first | exact True.intro | refine ⟨⟨_, _, _, rfl, rfl, rfl, WkO.rfl⟩, ?_⟩ | refine HeapOK.acc rfl rfl ?_)) rfl rfl ?_
      by_cases hfi : f < i
      · rw [h3 i hfi (by omega)]
        refine M.go rfl ?_
        refine M.cond rfl (fun _ => ?_) (fun h => absurd hfi h)
        refine M.go rfl ?_
        refine M.decB rfl (fun h => absurd h (by decide)) (fun _ => ?_)
        refine M.go rfl ?_
        refine M.condB rfl (fun h => absurd h (by decide)) (fun _ => ?_)
        refine M.go rfl ?_
        rw [hw2]
        exact M.again (XH.ren [(0, 0)] ih' rfl (by repeat' (first | exact True.intro | refine ⟨⟨_, _, rfl, rfl, Wk.rfl⟩, ?_⟩ | refine ⟨⟨_, _, accV_ren rfl, rfl, Wk.rfl⟩, ?_⟩ | refine ⟨⟨_, _, accV_ren rfl, rfl, Wk.acc0⟩, ?_⟩ | refine ⟨⟨_, _, rfl, rfl, Wk.uncap⟩, ?_⟩ | refine ⟨⟨_, _, rfl, rfl, Wk.nil⟩, ?_⟩)) (by repeat' (first | exact True.intro | refine ⟨⟨_, _, _, rfl, rfl, rfl, WkO.rfl⟩, ?_⟩ | refine HeapOK.acc rfl rfl ?_)))
      · rw [h2 i h1 (by omega)]
        refine M.go rfl ?_
        refine M.cond rfl (fun h => absurd h hfi) (fun _ => ?_)
        refine M.go rfl ?_
        refine M.decB rfl (fun h => absurd h (by decide)) (fun _ => ?_)
        refine M.go rfl ?_
        refine M.condB rfl (fun h => absurd h (by decide)) (fun _ => ?_)
        refine M.go rfl ?_
        rw [hw2]
        exact M.again (XH.ren [(0, 0)] ih' rfl (by repeat' (first | exact True.intro | refine ⟨⟨_, _, rfl, rfl, Wk.rfl⟩, ?_⟩ | refine ⟨⟨_, _, accV_ren rfl, rfl, Wk.rfl⟩, ?_⟩ | refine ⟨⟨_, _, accV_ren rfl, rfl, Wk.acc0⟩, ?_⟩ | refine ⟨⟨_, _, rfl, rfl, Wk.uncap⟩, ?_⟩ | refine ⟨⟨_, _, rfl, rfl, Wk.nil⟩, ?_⟩)) (by repeat' (first | exact True.intro | refine ⟨⟨_, _, _, rfl, rfl, rfl, WkO.rfl⟩, ?_⟩ | refine HeapOK.acc rfl rfl ?_)))
    · omega
end Go.Proofs.Yteegdhfekemhmaa
