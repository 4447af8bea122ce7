/- Texts of this claim, several in one: W32, W33, W34. -/
import Derived.Test.YtjlfojgacnphmaaMgWalCrash15
namespace Go.Proofs.Ytjlfojgacnphmaa
open Go.RowKit Sim Go Sym
set_option maxRecDepth 100000
set_option linter.unusedVariables false
set_option linter.unusedSimpArgs false
variable {base : Nat}
def ff : XV := .c (.p (.bs false))
theorem retX_t {e : Env} {h : HS} {i : Nat} {v : XV} (he : Sym.look e i = some v) : retX [.t i] e h = some v := by simp [retX, resVs, resV, he]
theorem W_geta {s : WS} {f : Int} {R : List (List Int)} (hi : WInv s f R) (hB : ∀ b ∈ R, Bytes b ∧ b.length ≤ 30000) (n : Int) : CW base 26 [.c (.ptr 2 0), .c (.p (.int .i64 n))] s (fun r s' => (r = .tup [.c (.p (.tz true 0 [] none)), .c (.p (.bool false))] ∨ ∃ z x, Bytes x ∧ r = .tup [.c (.p (fP z x none)), .c (.p (.bool true))]) ∧ s' = s) := by
  by_cases h : R ≠ [] ∧ f ≤ n ∧ n < f + R.length
  · obtain ⟨j, hj⟩ : ∃ j : Nat, n = f + j := ⟨(n - f).toNat, by omega⟩
    have hjl : j < R.length := by omega
    have hx : R[j]? = some R[j] := List.getElem?_eq_getElem hjl
    have hb := hB _ (List.mem_of_getElem? hx)
    rw [hj]
    exact (W_gety hi j _ hx (by omega)).mono fun r s' hr => ⟨.inr (by obtain ⟨⟨z, h⟩, -⟩ := hr; exact ⟨z, _, hb.1, h⟩), hr.2⟩
  · exact (W_getn hi n (fun hne => by
      by_cases h1 : f ≤ n
      · right
        exact Int.not_lt.1 fun h2 => h ⟨hne, h1, h2⟩
      · left; omega)).mono fun r s' hr => ⟨.inl hr.1, hr.2⟩
theorem samea_loop {s : WS} {f : Int} {R : List (List Int)} (hi : WInv s f R) (hRB : ∀ b ∈ R, Bytes b ∧ b.length ≤ 30000) (mf : Int) (zm : Bool) (T : List Rc) (cm : Option Nat) (hTl : T.length ≤ 100000) (hB : ∀ t ∈ T, Bytes t.2.1 ∧ t.2.1.length ≤ 30000) (Q : QX) (hq : Q (.exit 0) [(0, .c (.ptr 2 0)), (3, .c (.ptr 8 0))] (saX s mf zm T cm)) (hf : ∀ e : Env, Sym.look e 4 = some (.c (.p (.bool false))) → Q .ret e (saX s mf zm T cm)) :
    ∀ (rem i : Nat), i + rem = T.length → XH Try.prog base lSam.1.n 3 (lSam.1.c.lp 0) [(0, .c (.ptr 2 0)), (3, .c (.ptr 8 0)), (5, .c (.p (.int .i64 i)))] (saX s mf zm T cm) Q := by
  have hl := msP_len T
  intro rem
  induction rem with
  | zero =>
    intro i hi2
    refine M.round (M.go rfl ?_)
    refine M.cond rfl (fun h => absurd h (by rw [hl]; omega)) (fun _ => ?_)
    refine M.go rfl ?_
    refine M.ren [(0, 0), (1, 1), (2, 2), (3, 3), (4, 4), (5, 5), (6, 6), (7, 7), (8, 8)] ?_ trivial rfl (by repeat' (first | exact True.intro | refine evC rfl rfl Wk.rfl ?_ | refine evC (accV_ren rfl) rfl Wk.rfl ?_ | refine evC (accV_ren rfl) rfl Wk.acc0 ?_ | refine evC rfl rfl Wk.uncap ?_ | refine evC rfl rfl Wk.nil ?_)) ⟨(hpX rfl rfl rfl), HeapOK.fam wOK (by repeat' (first | exact Tl.here | refine Tl.cons rfl ?_)) rfl⟩ (e' := [(0, .c (.ptr 2 0)), (3, .c (.ptr 8 0))]) (h' := saX s mf zm T cm)
    exact M.exit (M.go rfl (M.done hq))
  | succ rem ih =>
    intro i hi2
    have hit : i < T.length := by omega
    obtain ⟨t, ht⟩ : ∃ t, T[i]? = some t := ⟨T[i], List.getElem?_eq_getElem hit⟩
    have htm : t ∈ T := List.mem_of_getElem? ht
    have hu : (msP T)[((i : Nat) : Int).toNat]? = some (recP t) := by rw [Int.toNat_natCast, msP, List.getElem?_map, ht]; rfl
    have hw : IntKind.i64.wrap ((i : Int) + 1) = ((i + 1 : Nat) : Int) := by rw [wr64 (by omega) (by omega)]; omega
    refine M.round (M.go rfl ?_)
    refine M.cond rfl (fun _ => ?_) (fun h => absurd (by rw [hl]; omega) h)
    refine M.go rfl ?_
    refine M.useR (s := s) wOK [(8, some (.row (mdA mf zm T cm) true))] [(0, .c (.ptr 2 0)), (3, .c (.ptr 8 0)), (5, .c (.p (.int .i64 i)))] trivial (W_geta hi hRB _) rfl ⟨⟨rfl, rfl⟩, trivial⟩ rfl rfl rfl rfl (fun r s' h => by rcases h.1 with h | ⟨z, x, -, h⟩ <;> (rw [h]; rfl)) (by repeat' (first | exact True.intro | refine evC rfl rfl Wk.rfl ?_ | refine evC (accV_ren rfl) rfl Wk.rfl ?_ | refine evC (accV_ren rfl) rfl Wk.acc0 ?_ | refine evC rfl rfl Wk.uncap ?_ | refine evC rfl rfl Wk.nil ?_)) (fun r s' h => ?_)
    obtain ⟨hr, h2⟩ := h
    rw [h2]
    rcases hr with rfl | ⟨z, x, hx, rfl⟩
    · refine M.go rfl ?_
      refine M.regD (MD.go rfl ?_)
      refine MD.nil mixed (Fnl.nodup rfl) (M.go rfl ?_)
      exact M.ret (M.go rfl (M.done (hf _ rfl)))
    refine M.go rfl ?_
    refine M.regD (MD.go rfl ?_)
    refine MD.op rfl (SOp.cvBS rfl (bytesX_w hx)) (MD.go rfl ?_)
    refine MD.op rfl (SOp.ia rfl rfl (by omega) hu) (MD.go rfl ?_)
    refine MD.op rfl (SOp.ld1e rfl (u := recP t) (by rw [Int.toNat_natCast] at hu ⊢; exact hu) rfl rfl rfl) (MD.go rfl ?_)
    refine MD.op rfl (SOp.cvBS rfl (bytesX_w (hB t htm).1)) (MD.go rfl ?_)
    refine MD.nil mixed (Fnl.nodup rfl) (M.go rfl ?_)
    rw [eqL_dec]
    refine M.condN rfl (fun h => ?_) (fun _ => ?_)
    · refine M.go rfl ?_
      exact M.ret (M.go rfl (M.done (hf _ rfl)))
    refine M.go rfl ?_
    rw [hw]
    exact M.again (XH.ren [(0, 0), (1, 1), (2, 2), (3, 3), (4, 4), (5, 5), (6, 6), (7, 7), (8, 8)] (ih (i + 1) (by omega)) rfl (by repeat' (first | exact True.intro | refine evC rfl rfl Wk.rfl ?_ | refine evC (accV_ren rfl) rfl Wk.rfl ?_ | refine evC (accV_ren rfl) rfl Wk.acc0 ?_ | refine evC rfl rfl Wk.uncap ?_ | refine evC rfl rfl Wk.nil ?_)) ⟨(hpX rfl rfl rfl), HeapOK.fam wOK (by repeat' (first | exact Tl.here | refine Tl.cons rfl ?_)) rfl⟩)
theorem W_samea {s : WS} {f : Int} {R : List (List Int)} (hi : WInv s f R) (hRB : ∀ b ∈ R, Bytes b ∧ b.length ≤ 30000) (mf : Int) (zm : Bool) (T : List Rc) (cm : Option Nat) (hTl : T.length ≤ 100000) (hm1 : T ≠ [] → 1 ≤ mf ∧ mf ≤ 2000000000000000) (hB : ∀ t ∈ T, Bytes t.2.1 ∧ t.2.1.length ≤ 30000) :
    CW base 30 [.c (.ptr 2 0), .agg (mdA mf zm T cm)] s (fun r s' => (∃ b : Bool, r = .c (.p (.bs b))) ∧ s' = s) := by
  have hl := msP_len T
  have hmb : T ≠ [] → 0 ≤ mf ∧ mf ≤ 2000000000000000 := fun h => by have := hm1 h; omega
  refine CallR.of wOK noNG lSam.2 rfl (M.start (M.go rfl ?_))
  refine M.midC [(0, .c (.ptr 2 0)), (3, .c (.ptr 8 0)), (4, .c (.p (.bool false))), (20, .c (.p (.bs (!decide (lastI f R = lastM mf T)))))] (saX s mf zm T cm) ?_ ?_
  · refine M.regF (MF.go rfl ?_)
    obtain ⟨room, first, en, L, lc, F, c, _ | ⟨w, W⟩, _ | _ | ⟨o, m, X, Y⟩⟩ := s
    · exact hi.lg.elim
    · obtain rfl : R = [] := hi.lg
      refine MF.use rfl (last00_spec room first en L lc F c) [(0, 2), (1, 0), (2, 3), (3, 4)] rfl rfl rfl (by repeat' (first | exact True.intro | refine hpC rfl rfl rfl ?_ | refine ⟨⟨_, _, _, rfl, rfl, rfl, @WkO.rfl _⟩, ?_⟩ | refine HeapOK.acc rfl rfl ?_)) rfl rfl (MF.go rfl ?_)
      refine MF.use0 rfl (mlast_spec mf zm T cm hmb hTl) rfl rfl rfl (MF.go rfl ?_)
      refine MF.nil mixed (Fnl.nodup rfl) rfl ⟨⟨stepX_ok rfl, trivial⟩, trivial⟩ (M.go rfl ?_)
      exact M.end [(0, 0), (1, 1), (2, 2), (3, 3), (4, 4), (5, 5), (6, 6), (7, 7), (8, 8)] rfl (by repeat' (first | exact True.intro | refine evC rfl rfl Wk.rfl ?_ | refine evC (accV_ren rfl) rfl Wk.rfl ?_ | refine evC (accV_ren rfl) rfl Wk.acc0 ?_ | refine evC rfl rfl Wk.uncap ?_ | refine evC rfl rfl Wk.nil ?_)) (by repeat' (first | exact True.intro | refine hpC rfl rfl rfl ?_ | refine ⟨⟨_, _, _, rfl, rfl, rfl, @WkO.rfl _⟩, ?_⟩ | refine HeapOK.acc rfl rfl ?_))
    · have h := hi.lg
      obtain ⟨rfl, hX, hXY, hXr, hYr⟩ := h
      cases hRc : R with
      | nil =>
        subst hRc
        refine MF.use rfl (glast0_0 room first en o L lc F c X Y) [(0, 2), (1, 0), (2, 3), (3, 4), (4, 6), (5, 7)] rfl rfl rfl (by repeat' (first | exact True.intro | refine hpC rfl rfl rfl ?_ | refine ⟨⟨_, _, _, rfl, rfl, rfl, @WkO.rfl _⟩, ?_⟩ | refine HeapOK.acc rfl rfl ?_)) rfl rfl (MF.go rfl ?_)
        refine MF.use0 rfl (mlast_spec mf zm T cm hmb hTl) rfl rfl rfl (MF.go rfl ?_)
        refine MF.nil mixed (Fnl.nodup rfl) rfl ⟨⟨stepX_ok rfl, trivial⟩, trivial⟩ (M.go rfl ?_)
        exact M.end [(0, 0), (1, 1), (2, 2), (3, 3), (4, 4), (5, 5), (6, 6), (7, 7), (8, 8)] rfl (by repeat' (first | exact True.intro | refine evC rfl rfl Wk.rfl ?_ | refine evC (accV_ren rfl) rfl Wk.rfl ?_ | refine evC (accV_ren rfl) rfl Wk.acc0 ?_ | refine evC rfl rfl Wk.uncap ?_ | refine evC rfl rfl Wk.nil ?_)) (by repeat' (first | exact True.intro | refine hpC rfl rfl rfl ?_ | refine ⟨⟨_, _, _, rfl, rfl, rfl, @WkO.rfl _⟩, ?_⟩ | refine HeapOK.acc rfl rfl ?_))
      | cons b1 T2 =>
        have hne : R ≠ [] := by rw [hRc]; simp
        obtain ⟨g1, g2, g3⟩ := (hi.ok hne).len
        have hff := hi.first hne
        rw [hRc] at g2 g3
        simp at g2 g3 hff
        subst hff
        have hla : lastI first (b1 :: T2) = first + (T2.length : Nat) := by rw [lastI_ne (by simp)]; simp; omega
        rw [hla]
        refine MF.use rfl (glast0_1 room first en o T2.length L lc F c X Y (by omega) ⟨by omega, by omega⟩) [(0, 2), (1, 0), (2, 3), (3, 4), (4, 6), (5, 7)] rfl rfl rfl (by repeat' (first | exact True.intro | refine hpC rfl rfl rfl ?_ | refine ⟨⟨_, _, _, rfl, rfl, rfl, @WkO.rfl _⟩, ?_⟩ | refine HeapOK.acc rfl rfl ?_)) rfl rfl (MF.go rfl ?_)
        refine MF.use0 rfl (mlast_spec mf zm T cm hmb hTl) rfl rfl rfl (MF.go rfl ?_)
        refine MF.nil mixed (Fnl.nodup rfl) rfl ⟨⟨stepX_ok rfl, trivial⟩, trivial⟩ (M.go rfl ?_)
        exact M.end [(0, 0), (1, 1), (2, 2), (3, 3), (4, 4), (5, 5), (6, 6), (7, 7), (8, 8)] rfl (by repeat' (first | exact True.intro | refine evC rfl rfl Wk.rfl ?_ | refine evC (accV_ren rfl) rfl Wk.rfl ?_ | refine evC (accV_ren rfl) rfl Wk.acc0 ?_ | refine evC rfl rfl Wk.uncap ?_ | refine evC rfl rfl Wk.nil ?_)) (by repeat' (first | exact True.intro | refine hpC rfl rfl rfl ?_ | refine ⟨⟨_, _, _, rfl, rfl, rfl, @WkO.rfl _⟩, ?_⟩ | refine HeapOK.acc rfl rfl ?_))
    · exact hi.lg.elim
    · obtain rfl : R = [] := hi.lg
      refine MF.use rfl (last10_spec room first en L lc F c w W) [(0, 2), (1, 0), (2, 3), (3, 4), (4, 5)] rfl rfl rfl (by repeat' (first | exact True.intro | refine hpC rfl rfl rfl ?_ | refine ⟨⟨_, _, _, rfl, rfl, rfl, @WkO.rfl _⟩, ?_⟩ | refine HeapOK.acc rfl rfl ?_)) rfl rfl (MF.go rfl ?_)
      refine MF.use0 rfl (mlast_spec mf zm T cm hmb hTl) rfl rfl rfl (MF.go rfl ?_)
      refine MF.nil mixed (Fnl.nodup rfl) rfl ⟨⟨stepX_ok rfl, trivial⟩, trivial⟩ (M.go rfl ?_)
      exact M.end [(0, 0), (1, 1), (2, 2), (3, 3), (4, 4), (5, 5), (6, 6), (7, 7), (8, 8)] rfl (by repeat' (first | exact True.intro | refine evC rfl rfl Wk.rfl ?_ | refine evC (accV_ren rfl) rfl Wk.rfl ?_ | refine evC (accV_ren rfl) rfl Wk.acc0 ?_ | refine evC rfl rfl Wk.uncap ?_ | refine evC rfl rfl Wk.nil ?_)) (by repeat' (first | exact True.intro | refine hpC rfl rfl rfl ?_ | refine ⟨⟨_, _, _, rfl, rfl, rfl, @WkO.rfl _⟩, ?_⟩ | refine HeapOK.acc rfl rfl ?_))
    · have h := hi.lg
      obtain ⟨rfl, hX, hXY, hXr, hYr⟩ := h
      cases hRc : R with
      | nil =>
        subst hRc
        refine MF.use rfl (glast1_0 room first en o L lc F c w W X Y) [(0, 2), (1, 0), (2, 3), (3, 4), (4, 5), (5, 6), (6, 7)] rfl rfl rfl (by repeat' (first | exact True.intro | refine hpC rfl rfl rfl ?_ | refine ⟨⟨_, _, _, rfl, rfl, rfl, @WkO.rfl _⟩, ?_⟩ | refine HeapOK.acc rfl rfl ?_)) rfl rfl (MF.go rfl ?_)
        refine MF.use0 rfl (mlast_spec mf zm T cm hmb hTl) rfl rfl rfl (MF.go rfl ?_)
        refine MF.nil mixed (Fnl.nodup rfl) rfl ⟨⟨stepX_ok rfl, trivial⟩, trivial⟩ (M.go rfl ?_)
        exact M.end [(0, 0), (1, 1), (2, 2), (3, 3), (4, 4), (5, 5), (6, 6), (7, 7), (8, 8)] rfl (by repeat' (first | exact True.intro | refine evC rfl rfl Wk.rfl ?_ | refine evC (accV_ren rfl) rfl Wk.rfl ?_ | refine evC (accV_ren rfl) rfl Wk.acc0 ?_ | refine evC rfl rfl Wk.uncap ?_ | refine evC rfl rfl Wk.nil ?_)) (by repeat' (first | exact True.intro | refine hpC rfl rfl rfl ?_ | refine ⟨⟨_, _, _, rfl, rfl, rfl, @WkO.rfl _⟩, ?_⟩ | refine HeapOK.acc rfl rfl ?_))
      | cons b1 T2 =>
        have hne : R ≠ [] := by rw [hRc]; simp
        obtain ⟨g1, g2, g3⟩ := (hi.ok hne).len
        have hff := hi.first hne
        rw [hRc] at g2 g3
        simp at g2 g3 hff
        subst hff
        have hla : lastI first (b1 :: T2) = first + (T2.length : Nat) := by rw [lastI_ne (by simp)]; simp; omega
        rw [hla]
        refine MF.use rfl (glast1_1 room first en o T2.length L lc F c w W X Y (by omega) ⟨by omega, by omega⟩) [(0, 2), (1, 0), (2, 3), (3, 4), (4, 5), (5, 6), (6, 7)] rfl rfl rfl (by repeat' (first | exact True.intro | refine hpC rfl rfl rfl ?_ | refine ⟨⟨_, _, _, rfl, rfl, rfl, @WkO.rfl _⟩, ?_⟩ | refine HeapOK.acc rfl rfl ?_)) rfl rfl (MF.go rfl ?_)
        refine MF.use0 rfl (mlast_spec mf zm T cm hmb hTl) rfl rfl rfl (MF.go rfl ?_)
        refine MF.nil mixed (Fnl.nodup rfl) rfl ⟨⟨stepX_ok rfl, trivial⟩, trivial⟩ (M.go rfl ?_)
        exact M.end [(0, 0), (1, 1), (2, 2), (3, 3), (4, 4), (5, 5), (6, 6), (7, 7), (8, 8)] rfl (by repeat' (first | exact True.intro | refine evC rfl rfl Wk.rfl ?_ | refine evC (accV_ren rfl) rfl Wk.rfl ?_ | refine evC (accV_ren rfl) rfl Wk.acc0 ?_ | refine evC rfl rfl Wk.uncap ?_ | refine evC rfl rfl Wk.nil ?_)) (by repeat' (first | exact True.intro | refine hpC rfl rfl rfl ?_ | refine ⟨⟨_, _, _, rfl, rfl, rfl, @WkO.rfl _⟩, ?_⟩ | refine HeapOK.acc rfl rfl ?_))
  refine M.go rfl ?_
  refine M.condN rfl (fun h => ?_) (fun hlast => ?_)
  · refine M.go rfl ?_
    exact M.ret (M.go rfl (M.done (finR.ret wOK ff s [(0, 0), (1, 1), (2, 2), (3, 3), (4, 4), (5, 5), (6, 6), (7, 7)] rfl rfl rfl (Wk.of rfl) (by repeat' (first | exact True.intro | refine hpC rfl rfl rfl ?_ | refine HeapOK.acc rfl rfl ?_ | refine HeapOK.es rfl rfl ?_ | exact HeapOK.fam wOK (by repeat' (first | exact Tl.here | refine Tl.cons rfl ?_)) rfl)) ⟨⟨_, rfl⟩, rfl⟩)))
  refine M.go rfl ?_
  by_cases hTe : T = []
  · subst hTe
    refine M.cond rfl (fun _ => ?_) (fun h => absurd (by simp [msP]) h)
    refine M.go rfl ?_
    refine M.useR (s := s) wOK [(8, some (.row (mdA mf zm [] cm) true))] [(0, .c (.ptr 2 0)), (3, .c (.ptr 8 0))] trivial (W_first hi) rfl ⟨⟨rfl, rfl⟩, trivial⟩ rfl rfl rfl rfl (fun r s' h => by rw [h.1]; rfl) (by repeat' (first | exact True.intro | refine evC rfl rfl Wk.rfl ?_ | refine evC (accV_ren rfl) rfl Wk.rfl ?_ | refine evC (accV_ren rfl) rfl Wk.acc0 ?_ | refine evC rfl rfl Wk.uncap ?_ | refine evC rfl rfl Wk.nil ?_)) (fun r s' h => ?_)
    obtain ⟨rfl, h2⟩ := h
    rw [h2]
    refine M.go rfl ?_
    exact M.ret (M.go rfl (M.done (finR.ret wOK _ s [(0, 0), (1, 1), (2, 2), (3, 3), (4, 4), (5, 5), (6, 6), (7, 7)] rfl rfl rfl Wk.rfl (by repeat' (first | exact True.intro | refine hpC rfl rfl rfl ?_ | refine HeapOK.acc rfl rfl ?_ | refine HeapOK.es rfl rfl ?_ | exact HeapOK.fam wOK (by repeat' (first | exact Tl.here | refine Tl.cons rfl ?_)) rfl)) ⟨⟨_, rfl⟩, rfl⟩)))
  have hTp : 0 < T.length := by cases T with
    | nil => exact absurd rfl hTe
    | cons t T => simp
  have hRne : R ≠ [] := fun e => by
    rw [e, lastI_nil, lastM, if_neg hTe] at hlast
    have := hm1 hTe
    omega
  refine M.cond rfl (fun h => absurd h (by rw [hl]; omega)) (fun _ => ?_)
  refine M.go rfl ?_
  refine M.midC [(0, .c (.ptr 2 0)), (3, .c (.ptr 8 0)), (4, .c (.p (.bool false))), (32, .c (.p (.bs (!decide (f = mf)))))] (saX s mf zm T cm) ?_ ?_
  · refine M.regF (MF.go rfl ?_)
    obtain ⟨room, first, en, L, lc, F, c, _ | ⟨w, W⟩, _ | _ | ⟨o, m, X, Y⟩⟩ := s
    · exact hi.lg.elim
    · obtain rfl : R = [] := hi.lg
      exact absurd rfl hRne
    · have h := hi.lg
      obtain ⟨rfl, hX, hXY, hXr, hYr⟩ := h
      cases hRc : R with
      | nil =>
        subst hRc
        exact absurd rfl hRne
      | cons b1 T2 =>
        have hne : R ≠ [] := by rw [hRc]; simp
        obtain ⟨g1, g2, g3⟩ := (hi.ok hne).len
        have hff := hi.first hne
        rw [hRc] at g2 g3
        simp at g2 g3 hff
        subst hff
        refine MF.use trivial (gfirst0_1 room first en o T2.length L lc F c X Y) [(0, 2), (1, 0), (2, 3), (3, 4), (4, 6), (5, 7)] rfl rfl rfl (by repeat' (first | exact True.intro | refine hpC rfl rfl rfl ?_ | refine ⟨⟨_, _, _, rfl, rfl, rfl, @WkO.rfl _⟩, ?_⟩ | refine HeapOK.acc rfl rfl ?_)) rfl rfl (MF.go rfl ?_)
        refine MF.nil mixed (Fnl.nodup rfl) rfl ⟨⟨stepX_ok rfl, trivial⟩, trivial⟩ (M.go rfl ?_)
        exact M.end [(0, 0), (1, 1), (2, 2), (3, 3), (4, 4), (5, 5), (6, 6), (7, 7), (8, 8)] rfl (by repeat' (first | exact True.intro | refine evC rfl rfl Wk.rfl ?_ | refine evC (accV_ren rfl) rfl Wk.rfl ?_ | refine evC (accV_ren rfl) rfl Wk.acc0 ?_ | refine evC rfl rfl Wk.uncap ?_ | refine evC rfl rfl Wk.nil ?_)) (by repeat' (first | exact True.intro | refine hpC rfl rfl rfl ?_ | refine ⟨⟨_, _, _, rfl, rfl, rfl, @WkO.rfl _⟩, ?_⟩ | refine HeapOK.acc rfl rfl ?_))
    · exact hi.lg.elim
    · obtain rfl : R = [] := hi.lg
      exact absurd rfl hRne
    · have h := hi.lg
      obtain ⟨rfl, hX, hXY, hXr, hYr⟩ := h
      cases hRc : R with
      | nil =>
        subst hRc
        exact absurd rfl hRne
      | cons b1 T2 =>
        have hne : R ≠ [] := by rw [hRc]; simp
        obtain ⟨g1, g2, g3⟩ := (hi.ok hne).len
        have hff := hi.first hne
        rw [hRc] at g2 g3
        simp at g2 g3 hff
        subst hff
        refine MF.use trivial (gfirst1_1 room first en o T2.length L lc F c w W X Y) [(0, 2), (1, 0), (2, 3), (3, 4), (4, 5), (5, 6), (6, 7)] rfl rfl rfl (by repeat' (first | exact True.intro | refine hpC rfl rfl rfl ?_ | refine ⟨⟨_, _, _, rfl, rfl, rfl, @WkO.rfl _⟩, ?_⟩ | refine HeapOK.acc rfl rfl ?_)) rfl rfl (MF.go rfl ?_)
        refine MF.nil mixed (Fnl.nodup rfl) rfl ⟨⟨stepX_ok rfl, trivial⟩, trivial⟩ (M.go rfl ?_)
        exact M.end [(0, 0), (1, 1), (2, 2), (3, 3), (4, 4), (5, 5), (6, 6), (7, 7), (8, 8)] rfl (by repeat' (first | exact True.intro | refine evC rfl rfl Wk.rfl ?_ | refine evC (accV_ren rfl) rfl Wk.rfl ?_ | refine evC (accV_ren rfl) rfl Wk.acc0 ?_ | refine evC rfl rfl Wk.uncap ?_ | refine evC rfl rfl Wk.nil ?_)) (by repeat' (first | exact True.intro | refine hpC rfl rfl rfl ?_ | refine ⟨⟨_, _, _, rfl, rfl, rfl, @WkO.rfl _⟩, ?_⟩ | refine HeapOK.acc rfl rfl ?_))
  refine M.go rfl ?_
  refine M.condN rfl (fun h => ?_) (fun _ => ?_)
  · refine M.go rfl ?_
    exact M.ret (M.go rfl (M.done (finR.ret wOK ff s [(0, 0), (1, 1), (2, 2), (3, 3), (4, 4), (5, 5), (6, 6), (7, 7)] rfl rfl rfl (Wk.of rfl) (by repeat' (first | exact True.intro | refine hpC rfl rfl rfl ?_ | refine HeapOK.acc rfl rfl ?_ | refine HeapOK.es rfl rfl ?_ | exact HeapOK.fam wOK (by repeat' (first | exact Tl.here | refine Tl.cons rfl ?_)) rfl)) ⟨⟨_, rfl⟩, rfl⟩)))
  refine M.go rfl ?_
  refine M.loop (XH.ren [(0, 0), (1, 1), (2, 2), (3, 3), (4, 4), (5, 5), (6, 6), (7, 7), (8, 8)] (samea_loop hi hRB mf zm T cm hTl hB _ ?_ ?_ T.length 0 (by omega)) rfl (by repeat' (first | exact True.intro | refine evC rfl rfl Wk.rfl ?_ | refine evC (accV_ren rfl) rfl Wk.rfl ?_ | refine evC (accV_ren rfl) rfl Wk.acc0 ?_ | refine evC rfl rfl Wk.uncap ?_ | refine evC rfl rfl Wk.nil ?_)) ⟨(hpX rfl rfl rfl), HeapOK.fam wOK (by repeat' (first | exact Tl.here | refine Tl.cons rfl ?_)) rfl⟩)
  rotate_left
  · intro e he
    exact M.q (M.go rfl (M.done (finR.ret wOK ff s [(0, 0), (1, 1), (2, 2), (3, 3), (4, 4), (5, 5), (6, 6), (7, 7)] (retX_t (i := 4) he) rfl rfl (Wk.of rfl) (by repeat' (first | exact True.intro | refine hpC rfl rfl rfl ?_ | refine HeapOK.acc rfl rfl ?_ | refine HeapOK.es rfl rfl ?_ | exact HeapOK.fam wOK (by repeat' (first | exact Tl.here | refine Tl.cons rfl ?_)) rfl)) ⟨⟨_, rfl⟩, rfl⟩)))
  refine M.q (M.go rfl ?_)
  have hmf := hm1 hTe
  rw [wr64 (n := mf - 1) (by omega) (by omega)]
  refine M.useR (s := s) wOK [(8, some (.row (mdA mf zm T cm) true))] [(0, .c (.ptr 2 0)), (3, .c (.ptr 8 0))] trivial (W_geta hi hRB (mf - 1)) rfl ⟨⟨rfl, rfl⟩, trivial⟩ rfl rfl rfl rfl (fun r s' h => by rcases h.1 with h | ⟨z, x, -, h⟩ <;> (rw [h]; rfl)) (by repeat' (first | exact True.intro | refine evC rfl rfl Wk.rfl ?_ | refine evC (accV_ren rfl) rfl Wk.rfl ?_ | refine evC (accV_ren rfl) rfl Wk.acc0 ?_ | refine evC rfl rfl Wk.uncap ?_ | refine evC rfl rfl Wk.nil ?_)) (fun r s' h => ?_)
  obtain ⟨hr, h2⟩ := h
  rw [h2]
  obtain ⟨a, p, rfl⟩ : ∃ (a : Bool) (p : PC), r = .tup [.c (.p p), .c (.p (.bool a))] := by rcases hr with rfl | ⟨z, x, -, rfl⟩ <;> exact ⟨_, _, rfl⟩
  refine M.go rfl ?_
  refine M.use0 trivial (mlast_spec mf zm T cm hmb hTl) rfl rfl rfl ?_
  refine M.go rfl ?_
  rw [lastM, if_neg hTe, wr64 (n := mf + (T.length : Int) - 1 + 1) (by omega) (by omega)]
  refine M.useR (s := s) wOK [(8, some (.row (mdA mf zm T cm) true))] [(0, .c (.ptr 2 0)), (3, .c (.ptr 8 0)), (9, .c (.p (.bool a)))] trivial (W_geta hi hRB (mf + (T.length : Int) - 1 + 1)) rfl ⟨⟨rfl, rfl⟩, trivial⟩ rfl rfl rfl rfl (fun r s' h => by rcases h.1 with h | ⟨z, x, -, h⟩ <;> (rw [h]; rfl)) (by repeat' (first | exact True.intro | refine evC rfl rfl Wk.rfl ?_ | refine evC (accV_ren rfl) rfl Wk.rfl ?_ | refine evC (accV_ren rfl) rfl Wk.acc0 ?_ | refine evC rfl rfl Wk.uncap ?_ | refine evC rfl rfl Wk.nil ?_)) (fun r s' h => ?_)
  obtain ⟨hr, h2⟩ := h
  rw [h2]
  obtain ⟨a2, p2, rfl⟩ : ∃ (a : Bool) (p : PC), r = .tup [.c (.p p), .c (.p (.bool a))] := by rcases hr with rfl | ⟨z, x, -, rfl⟩ <;> exact ⟨_, _, rfl⟩
  cases a <;> cases a2
  all_goals
    refine M.go rfl ?_
    exact M.ret (M.go rfl (M.done (finR.ret wOK (.c (.p (.bs _))) s [(0, 0), (1, 1), (2, 2), (3, 3), (4, 4), (5, 5), (6, 6), (7, 7)] rfl rfl rfl (Wk.of rfl) (by repeat' (first | exact True.intro | refine hpC rfl rfl rfl ?_ | refine HeapOK.acc rfl rfl ?_ | refine HeapOK.es rfl rfl ?_ | exact HeapOK.fam wOK (by repeat' (first | exact Tl.here | refine Tl.cons rfl ?_)) rfl)) ⟨⟨_, rfl⟩, rfl⟩)))
end Go.Proofs.Ytjlfojgacnphmaa

namespace Go.Proofs.Ytjlfojgacnphmaa
open Go.RowKit Sim Go Sym
set_option maxRecDepth 100000
set_option linter.unusedVariables false
set_option linter.unusedSimpArgs false
variable {base : Nat}
structure Md where
  f : Int
  z : Bool
  T : List Rc
  cp : Option Nat
def Md.pc (M : Md) : PC := .agg [.int .i64 M.f, .tz M.z 1 (msP M.T) M.cp]
def Md.ct (M : Md) : List Int := flatR M.f (rsR M.T)
structure Md.good (M : Md) : Prop where
  b : ∀ t ∈ M.T, Bytes t.2.1 ∧ t.2.1.length ≤ 300
  len : M.T.length ≤ 30
  rng : M.T ≠ [] → 1 ≤ M.f ∧ M.f + M.T.length ≤ P50 + 1
theorem Md.good.ok {M : Md} (h : M.good) : rsR M.T ≠ [] → RecOK M.f (rsR M.T) := fun hne => rec_ok h.b (by have := h.len; omega) (h.rng (rsR_ne.1 hne))
theorem Md.good.ctl {M : Md} (h : M.good) : M.ct.length ≤ 31800 := by
  have h1 := flat_le (B := 300) (rsR M.T) M.f (fun x hx => by obtain ⟨t, ht, rfl⟩ := List.mem_map.1 hx; exact (h.b t ht).2) (by omega) (fun hne => by
    have := h.rng (rsR_ne.1 hne)
    have h2 : P50 = 1125899906842624 := rfl
    rw [rsR_len]; omega)
  rw [rsR_len] at h1
  have := h.len
  show (flatR M.f (rsR M.T)).length ≤ _
  omega
structure CI (i : Nat) (s : WS) (Ms : List Md) (σ : Nat) : Prop where
  last : ∃ M, Ms.getLast? = some M ∧ Lp i s M.f M.T
  good : ∀ M ∈ Ms, M.good
  len : Ms.length ≤ i + 1
  path : ∃ M0 tl V, Ms.drop σ = M0 :: tl ∧ Dk M0.ct none (s.L, s.lc) ∧ s.dk = wts V ∧ Pth M0.ct V (tl.map Md.ct)
theorem CI.keep {i : Nat} {s : WS} {Ms : List Md} {σ : Nat} (h : CI i s Ms σ) : CI (i + 1) s Ms σ := by
  obtain ⟨M, h1, h2⟩ := h.last
  exact ⟨⟨M, h1, h2.more⟩, h.good, by have := h.len; omega, h.path⟩
theorem CI.next {i : Nat} {s s' : WS} {Ms : List Md} {σ : Nat} (h : CI i s Ms σ) (hi : i < 30) {M M' : Md} (hM : Ms.getLast? = some M) (hL : Lp (i + 1) s' M'.f M'.T) (hst : Stx s s' M.ct M'.ct) : CI (i + 1) s' (Ms ++ [M']) σ := by
  obtain ⟨M0, tl, V, g1, g2, g3, g4⟩ := h.path
  obtain ⟨V', k1, k2, k3, k4⟩ := hst
  have hσ : σ < Ms.length := by
    have := congrArg List.length g1
    simp at this; omega
  refine ⟨⟨M', by simp, hL⟩, fun N hN => ?_, by have := h.len; simp; omega, M0, tl ++ [M'], V ++ V', ?_, by rw [k3, k4]; exact g2, by rw [k1, g3, wtL_wts], ?_⟩
  · rcases List.mem_append.1 hN with h1 | h1
    · exact h.good N h1
    · simp at h1; subst h1
      exact ⟨hL.b, by have := hL.len; omega, hL.rng⟩
  · rw [List.drop_append_of_le_length (by omega), g1]; rfl
  · have hlast : (M0.ct :: tl.map Md.ct).getLast? = some M.ct := by
      rw [← List.map_cons (f := Md.ct), ← g1, List.getLast?_map, List.getLast?_drop, if_neg (by omega), hM]; rfl
    have := g4.snoc hlast k2
    simpa using this
theorem drop_last {α : Type} {l : List α} {a : α} (h : l.getLast? = some a) : l.drop (l.length - 1) = [a] := by
  obtain ⟨ys, rfl⟩ := List.getLast?_eq_some_iff.1 h
  simp
theorem CI.sync {i : Nat} {s s' : WS} {Ms : List Md} {σ : Nat} (h : CI i s Ms σ) {M : Md} (hM : Ms.getLast? = some M) (hs : s' = { s with L := s.F, lc := s.c, dk := none }) (hL : Lp (i + 1) s' M.f M.T) : CI (i + 1) s' Ms (Ms.length - 1) := by
  have hne : Ms ≠ [] := fun e => by rw [e] at hM; cases hM
  refine ⟨⟨M, hM, hL⟩, h.good, by have := h.len; omega, M, [], [], ?_, ?_, by rw [hs]; rfl, .nil⟩
  · exact drop_last hM
  · have := hL.inv.file
    rw [hs] at this ⊢
    exact this
noncomputable def lWcr : {F : LF // lowerF Try.prog 6 = some F} := ⟨_, rfl⟩
def crE (z : Bool) (ops : List WOp) (n torn again : Int) (m σ i : Nat) : Env := [(0, .c (.p (.tz z 3 (ops.map WOp.pc) none))), (1, .c (.p (.int .i64 n))), (2, .c (.p (.int .i64 torn))), (3, .c (.p (.int .i64 again))), (10, .c (.ptr 0 0)), (11, .c (.ptr 2 0)), (13, .c (.sl 8 0 m 2 none)), (14, .c (.p (.int .i64 σ))), (15, .c (.p (.int .i64 i)))]
def crX (n torn again : Int) (m σ : Nat) : Env := [(1, .c (.p (.int .i64 n))), (2, .c (.p (.int .i64 torn))), (3, .c (.p (.int .i64 again))), (10, .c (.ptr 0 0)), (13, .c (.sl 8 0 m 2 none)), (14, .c (.p (.int .i64 σ)))]
def crH (s : WS) (Ms : List Md) : HS := ⟨(8, some (.els 2 (Ms.map Md.pc))) :: (wFam.mem s).l, 9⟩
theorem crash_loop4 (z : Bool) (ops : List WOp) (hops : ∀ o ∈ ops, Bytes o.b) (n torn again : Int) (Q : QX) (hq : ∀ i s Ms σ, i ≤ 30 → CI i s Ms σ → Q (.exit 0) (crX n torn again Ms.length σ) (crH s Ms)) :
    ∀ (rem i : Nat) (s : WS) (Ms : List Md) (σ : Nat), i + rem = 30 → CI i s Ms σ → XH Try.prog base lWcr.1.n 0 (lWcr.1.c.lp 0) (crE z ops n torn again Ms.length σ i) (crH s Ms) Q := by
  intro rem
  induction rem with
  | zero =>
    intro i s Ms σ hi hL
    refine M.round (M.go rfl ?_)
    refine M.dec rfl (fun _ => ?_) (fun _ => ?_)
    · refine M.go rfl ?_
      refine M.cond rfl (fun h => absurd h (by omega)) (fun _ => ?_)
      refine M.go rfl ?_
      refine M.ren [(0, 0), (1, 1), (2, 2), (3, 3), (4, 4), (5, 5), (6, 6), (7, 7), (8, 8)] ?_ trivial rfl (by repeat' (first | exact True.intro | refine evC rfl rfl Wk.rfl ?_ | refine evC (accV_ren rfl) rfl Wk.rfl ?_ | refine evC (accV_ren rfl) rfl Wk.acc0 ?_ | refine evC rfl rfl Wk.uncap ?_ | refine evC rfl rfl Wk.nil ?_)) ⟨(hpX rfl rfl rfl), HeapOK.fam wOK (by repeat' (first | exact Tl.here | refine Tl.cons rfl ?_)) rfl⟩ (e' := crX n torn again Ms.length σ) (h' := crH s Ms)
      exact M.exit (M.go rfl (M.done (hq i s Ms σ (by omega) hL)))
    · refine M.go rfl ?_
      refine M.ren [(0, 0), (1, 1), (2, 2), (3, 3), (4, 4), (5, 5), (6, 6), (7, 7), (8, 8)] ?_ trivial rfl (by repeat' (first | exact True.intro | refine evC rfl rfl Wk.rfl ?_ | refine evC (accV_ren rfl) rfl Wk.rfl ?_ | refine evC (accV_ren rfl) rfl Wk.acc0 ?_ | refine evC rfl rfl Wk.uncap ?_ | refine evC rfl rfl Wk.nil ?_)) ⟨(hpX rfl rfl rfl), HeapOK.fam wOK (by repeat' (first | exact Tl.here | refine Tl.cons rfl ?_)) rfl⟩ (e' := crX n torn again Ms.length σ) (h' := crH s Ms)
      exact M.exit (M.go rfl (M.done (hq i s Ms σ (by omega) hL)))
  | succ rem ih =>
    intro i s Ms σ hi hL
    have hw : IntKind.i64.wrap ((i : Int) + 1) = ((i + 1 : Nat) : Int) := by rw [wr64 (by omega) (by omega)]; omega
    refine M.round (M.go rfl ?_)
    refine M.dec rfl (fun hlt => ?_) (fun _ => ?_)
    rotate_left
    · refine M.go rfl ?_
      refine M.ren [(0, 0), (1, 1), (2, 2), (3, 3), (4, 4), (5, 5), (6, 6), (7, 7), (8, 8)] ?_ trivial rfl (by repeat' (first | exact True.intro | refine evC rfl rfl Wk.rfl ?_ | refine evC (accV_ren rfl) rfl Wk.rfl ?_ | refine evC (accV_ren rfl) rfl Wk.acc0 ?_ | refine evC rfl rfl Wk.uncap ?_ | refine evC rfl rfl Wk.nil ?_)) ⟨(hpX rfl rfl rfl), HeapOK.fam wOK (by repeat' (first | exact Tl.here | refine Tl.cons rfl ?_)) rfl⟩ (e' := crX n torn again Ms.length σ) (h' := crH s Ms)
      exact M.exit (M.go rfl (M.done (hq i s Ms σ (by omega) hL)))
    refine M.go rfl ?_
    refine M.cond rfl (fun _ => ?_) (fun h => absurd (by omega) h)
    have hit : i < ops.length := by simp at hlt; omega
    obtain ⟨o, ho⟩ : ∃ o, ops[i]? = some o := ⟨ops[i], List.getElem?_eq_getElem hit⟩
    have hob := hops o (List.mem_of_getElem? ho)
    have hu : (ops.map WOp.pc)[((i : Nat) : Int).toNat]? = some o.pc := by rw [Int.toNat_natCast, List.getElem?_map, ho]; rfl
    obtain ⟨Ma, hM, hLp⟩ := hL.last
    have hMsl : 0 < Ms.length := by cases Ms with
      | nil => cases hM
      | cons a l => simp
    have hMl := hL.len
    have hMat : Ms[Ms.length - 1]? = some Ma := by rw [← List.getLast?_eq_getElem?]; exact hM
    have hMg := hL.good Ma (List.mem_of_getElem? hMat)
    refine M.go rfl ?_
    refine M.op (by first | exact True.intro | exact rfl) (SOp.ia rfl rfl (by omega) hu) ?_
    refine M.op (by first | exact True.intro | exact rfl) (SOp.ldne (m := 3) (u := o.pc) rfl (by rw [Int.toNat_natCast] at hu ⊢; exact hu) rfl rfl rfl) ?_
    refine M.go rfl ?_
    refine M.use0 trivial (cut4_spec o) rfl rfl rfl ?_
    refine M.go rfl ?_
    have hP : P50 = 1125899906842624 := rfl
    have hcn := o.cn_le
    have hbt : Bytes o.cb.2.1 ∧ o.cb.2.1.length ≤ 300 := ⟨fun y hy => hob y (List.mem_of_mem_take hy), by simp [WOp.cb]; omega⟩
    obtain ⟨z', cp', hdo⟩ := do_all (base := base) Ma.f Ma.z Ma.T Ma.cp o.k o.cn o.cb (fun h => by have := hLp.rng h; omega) (by have := hMg.len; omega) (by omega)
    obtain ⟨⟨f2, T2, e⟩, hD⟩ : ∃ D, D = doF Ma.f Ma.T o.k o.cn o.cb := ⟨_, rfl⟩
    rw [← hD] at hdo
    refine M.ren [(0, 0), (1, 1), (2, 2), (3, 3), (4, 4), (5, 5), (6, 6), (7, 7), (8, 8), (9, 9)] ?_ trivial rfl (by repeat' (first | exact True.intro | refine evC rfl rfl Wk.rfl ?_ | refine evC (accV_ren rfl) rfl Wk.rfl ?_ | refine evC (accV_ren rfl) rfl Wk.acc0 ?_ | refine evC rfl rfl Wk.uncap ?_ | refine evC rfl rfl Wk.nil ?_)) ⟨(hpX rfl rfl rfl), (hpX rfl rfl rfl), HeapOK.fam wOK (by repeat' (first | exact Tl.here | refine Tl.cons rfl ?_)) rfl⟩ (e' := [(0, .c (.p (.tz z 3 (ops.map WOp.pc) none))), (1, .c (.p (.int .i64 n))), (2, .c (.p (.int .i64 torn))), (3, .c (.p (.int .i64 again))), (10, .c (.ptr 0 0)), (11, .c (.ptr 2 0)), (13, .c (.sl 8 0 Ms.length 2 none)), (14, .c (.p (.int .i64 σ))), (15, .c (.p (.int .i64 i))), (16, .c (.ptr 9 0)), (17, err 0), (52, .c (.p (.int .i64 o.k))), (58, .c (.p (.bs (decide (o.k = 0)))))]) (h' := ⟨appL [(9, some (.row (opA o.k o.cn o.cb) true)), (8, some (.els 2 (Ms.map Md.pc)))] (wFam.mem s).l, 10⟩)
    by_cases hkk : o.k ≠ 0 ∧ o.k ≠ 1 ∧ o.k ≠ 2
    · refine M.cond rfl (fun h => absurd h hkk.1) (fun _ => ?_)
      refine M.go rfl ?_
      refine M.cond rfl (fun h => absurd h hkk.2.1) (fun _ => ?_)
      refine M.go rfl ?_
      refine M.cond rfl (fun h => absurd h hkk.2.2) (fun _ => ?_)
      refine M.go rfl ?_
      refine M.useR (s := s) wOK [(9, some (.row (opA o.k o.cn o.cb) true)), (8, some (.els 2 (Ms.map Md.pc)))] [(0, .c (.p (.tz z 3 (ops.map WOp.pc) none))), (1, .c (.p (.int .i64 n))), (2, .c (.p (.int .i64 torn))), (3, .c (.p (.int .i64 again))), (10, .c (.ptr 0 0)), (11, .c (.ptr 2 0)), (13, .c (.sl 8 0 Ms.length 2 none)), (14, .c (.p (.int .i64 σ))), (15, .c (.p (.int .i64 i)))] trivial hLp.sync rfl ⟨⟨rfl, rfl⟩, ⟨rfl, rfl⟩, trivial⟩ rfl rfl rfl rfl (fun r s' h => by rw [h.1]; rfl) (by repeat' (first | exact True.intro | refine evC rfl rfl Wk.rfl ?_ | refine evC (accV_ren rfl) rfl Wk.rfl ?_ | refine evC (accV_ren rfl) rfl Wk.acc0 ?_ | refine evC rfl rfl Wk.uncap ?_ | refine evC rfl rfl Wk.nil ?_)) (fun r s' h => ?_)
      obtain ⟨rfl, hs1, h3⟩ := h
      refine M.go rfl ?_
      refine M.exit (M.go rfl ?_)
      rw [hw, wr64 (n := (Ms.length : Int) - 1) (by omega) (by omega), show (Ms.length : Int) - 1 = ((Ms.length - 1 : Nat) : Int) by omega]
      exact M.again (XH.ren [(0, 0), (1, 1), (2, 2), (3, 3), (4, 4), (5, 5), (6, 6), (7, 7), (8, 8)] (ih (i + 1) s' Ms (Ms.length - 1) (by omega) (hL.sync hM hs1 h3)) rfl (by repeat' (first | exact True.intro | refine evC rfl rfl Wk.rfl ?_ | refine evC (accV_ren rfl) rfl Wk.rfl ?_ | refine evC (accV_ren rfl) rfl Wk.acc0 ?_ | refine evC rfl rfl Wk.uncap ?_ | refine evC rfl rfl Wk.nil ?_)) ⟨(hpX rfl rfl rfl), HeapOK.fam wOK (by repeat' (first | exact Tl.here | refine Tl.cons rfl ?_)) rfl⟩)
    refine M.midP (fun _ => [(0, .c (.p (.tz z 3 (ops.map WOp.pc) none))), (1, .c (.p (.int .i64 n))), (2, .c (.p (.int .i64 torn))), (3, .c (.p (.int .i64 again))), (10, .c (.ptr 0 0)), (11, .c (.ptr 2 0)), (13, .c (.sl 8 0 Ms.length 2 none)), (14, .c (.p (.int .i64 σ))), (15, .c (.p (.int .i64 i))), (16, .c (.ptr 9 0)), (17, err e)]) (fun s' => ⟨appL [(9, some (.row (opA o.k o.cn o.cb) true)), (8, some (.els 2 (Ms.map Md.pc)))] (wFam.mem s').l, 10⟩) (fun s' => Lp (i + 1) s' f2 T2 ∧ Stx s s' Ma.ct (flatR f2 (rsR T2)) ∧ (e ≠ 0 → s' = s)) ?_ (fun s' hs' => ?_)
    · refine M.cond rfl (fun hk => ?_) (fun hk0 => ?_)
      · refine M.go rfl ?_
        rw [hk] at hD
        refine M.useR (s := s) wOK [(9, some (.row (opA o.k o.cn o.cb) true)), (8, some (.els 2 (Ms.map Md.pc)))] [(0, .c (.p (.tz z 3 (ops.map WOp.pc) none))), (1, .c (.p (.int .i64 n))), (2, .c (.p (.int .i64 torn))), (3, .c (.p (.int .i64 again))), (10, .c (.ptr 0 0)), (11, .c (.ptr 2 0)), (13, .c (.sl 8 0 Ms.length 2 none)), (14, .c (.p (.int .i64 σ))), (15, .c (.p (.int .i64 i))), (16, .c (.ptr 9 0))] trivial (hLp.append2 (by omega) o.cn hcn o.cb hbt) rfl ⟨⟨rfl, rfl⟩, ⟨rfl, rfl⟩, trivial⟩ rfl rfl rfl rfl (fun r s' h => by rw [h.1]; rfl) (by repeat' (first | exact True.intro | refine evC rfl rfl Wk.rfl ?_ | refine evC (accV_ren rfl) rfl Wk.rfl ?_ | refine evC (accV_ren rfl) rfl Wk.acc0 ?_ | refine evC rfl rfl Wk.uncap ?_ | refine evC rfl rfl Wk.nil ?_)) (fun r s' h => ?_)
        obtain ⟨rfl, h2⟩ := h
        rw [← hD] at h2 ⊢
        refine M.go rfl ?_
        exact M.done ⟨rfl, s', h2, Sh.ren [(0, 0), (1, 1), (2, 2), (3, 3), (4, 4), (5, 5), (6, 6), (7, 7), (8, 8), (9, 9)] rfl (by repeat' (first | exact True.intro | refine evC rfl rfl Wk.rfl ?_ | refine evC (accV_ren rfl) rfl Wk.rfl ?_ | refine evC (accV_ren rfl) rfl Wk.acc0 ?_ | refine evC rfl rfl Wk.uncap ?_ | refine evC rfl rfl Wk.nil ?_)) ⟨(hpX rfl rfl rfl), (hpX rfl rfl rfl), HeapOK.fam wOK (by repeat' (first | exact Tl.here | refine Tl.cons rfl ?_)) rfl⟩⟩
      refine M.go rfl ?_
      refine M.cond rfl (fun hk => ?_) (fun hk1 => ?_)
      · refine M.go rfl ?_
        rw [hk] at hD
        refine M.useR (s := s) wOK [(9, some (.row (opA o.k o.cn o.cb) true)), (8, some (.els 2 (Ms.map Md.pc)))] [(0, .c (.p (.tz z 3 (ops.map WOp.pc) none))), (1, .c (.p (.int .i64 n))), (2, .c (.p (.int .i64 torn))), (3, .c (.p (.int .i64 again))), (10, .c (.ptr 0 0)), (11, .c (.ptr 2 0)), (13, .c (.sl 8 0 Ms.length 2 none)), (14, .c (.p (.int .i64 σ))), (15, .c (.p (.int .i64 i))), (16, .c (.ptr 9 0))] trivial (hLp.from2 (by omega) o.cn hcn o.cb) rfl ⟨⟨rfl, rfl⟩, ⟨rfl, rfl⟩, trivial⟩ rfl rfl rfl rfl (fun r s' h => by rw [h.1]; rfl) (by repeat' (first | exact True.intro | refine evC rfl rfl Wk.rfl ?_ | refine evC (accV_ren rfl) rfl Wk.rfl ?_ | refine evC (accV_ren rfl) rfl Wk.acc0 ?_ | refine evC rfl rfl Wk.uncap ?_ | refine evC rfl rfl Wk.nil ?_)) (fun r s' h => ?_)
        obtain ⟨rfl, h2⟩ := h
        rw [← hD] at h2 ⊢
        refine M.go rfl ?_
        exact M.done ⟨rfl, s', h2, Sh.ren [(0, 0), (1, 1), (2, 2), (3, 3), (4, 4), (5, 5), (6, 6), (7, 7), (8, 8), (9, 9)] rfl (by repeat' (first | exact True.intro | refine evC rfl rfl Wk.rfl ?_ | refine evC (accV_ren rfl) rfl Wk.rfl ?_ | refine evC (accV_ren rfl) rfl Wk.acc0 ?_ | refine evC rfl rfl Wk.uncap ?_ | refine evC rfl rfl Wk.nil ?_)) ⟨(hpX rfl rfl rfl), (hpX rfl rfl rfl), HeapOK.fam wOK (by repeat' (first | exact Tl.here | refine Tl.cons rfl ?_)) rfl⟩⟩
      refine M.go rfl ?_
      refine M.cond rfl (fun hk => ?_) (fun hk2 => absurd ⟨hk0, hk1, hk2⟩ hkk)
      · refine M.go rfl ?_
        rw [hk] at hD
        refine M.useR (s := s) wOK [(9, some (.row (opA o.k o.cn o.cb) true)), (8, some (.els 2 (Ms.map Md.pc)))] [(0, .c (.p (.tz z 3 (ops.map WOp.pc) none))), (1, .c (.p (.int .i64 n))), (2, .c (.p (.int .i64 torn))), (3, .c (.p (.int .i64 again))), (10, .c (.ptr 0 0)), (11, .c (.ptr 2 0)), (13, .c (.sl 8 0 Ms.length 2 none)), (14, .c (.p (.int .i64 σ))), (15, .c (.p (.int .i64 i))), (16, .c (.ptr 9 0))] trivial (hLp.until2 (by omega) o.cn hcn o.cb) rfl ⟨⟨rfl, rfl⟩, ⟨rfl, rfl⟩, trivial⟩ rfl rfl rfl rfl (fun r s' h => by rw [h.1]; rfl) (by repeat' (first | exact True.intro | refine evC rfl rfl Wk.rfl ?_ | refine evC (accV_ren rfl) rfl Wk.rfl ?_ | refine evC (accV_ren rfl) rfl Wk.acc0 ?_ | refine evC rfl rfl Wk.uncap ?_ | refine evC rfl rfl Wk.nil ?_)) (fun r s' h => ?_)
        obtain ⟨rfl, h2⟩ := h
        rw [← hD] at h2 ⊢
        refine M.go rfl ?_
        exact M.done ⟨rfl, s', h2, Sh.ren [(0, 0), (1, 1), (2, 2), (3, 3), (4, 4), (5, 5), (6, 6), (7, 7), (8, 8), (9, 9)] rfl (by repeat' (first | exact True.intro | refine evC rfl rfl Wk.rfl ?_ | refine evC (accV_ren rfl) rfl Wk.rfl ?_ | refine evC (accV_ren rfl) rfl Wk.acc0 ?_ | refine evC rfl rfl Wk.uncap ?_ | refine evC rfl rfl Wk.nil ?_)) ⟨(hpX rfl rfl rfl), (hpX rfl rfl rfl), HeapOK.fam wOK (by repeat' (first | exact Tl.here | refine Tl.cons rfl ?_)) rfl⟩⟩
    obtain ⟨h3, h4, h5⟩ := hs'
    have huM : (Ms.map Md.pc)[Ms.length - 1]? = some Ma.pc := by rw [List.getElem?_map, hMat]; rfl
    have hwl : IntKind.i64.wrap ((Ms.length : Int) - 1) = ((Ms.length - 1 : Nat) : Int) := by rw [wr64 (by omega) (by omega)]; omega
    refine M.go rfl ?_
    refine M.regG rfl (MN.go rfl ?_)
    rw [hwl]
    refine MN.op rfl trivial (SOp.iaOn rfl rfl (by omega)) (MN.go rfl ?_)
    refine MN.op rfl trivial (SOp.ldnO (m := 2) (u := Ma.pc) rfl rfl huM rfl rfl rfl) (MN.go rfl ?_)
    refine MN.use0 trivial hdo rfl rfl rfl (MN.go rfl ?_)
    refine MN.nil mixed (Fnl.nodup rfl) rfl ⟨⟨stepX_ok rfl, trivial⟩, ⟨SOp.ldnO (m := 2) (u := Ma.pc) rfl rfl huM rfl rfl rfl, trivial⟩, ⟨stepX_ok rfl, trivial⟩, trivial⟩ (M.go rfl ?_)
    refine M.condN rfl (fun h => absurd rfl h) (fun _ => ?_)
    refine M.go rfl ?_
    refine M.cond rfl (fun he => ?_) (fun he => ?_)
    · refine M.go rfl ?_
      refine M.op (by first | exact True.intro | exact rfl) (SOp.appO (ex := Ms.map Md.pc) (el := [Md.pc ⟨f2, z', T2, cp'⟩]) rfl rfl (by simp) rfl (.own rfl rfl) (by simp) (by simp; omega)) ?_
      refine M.go rfl ?_
      rw [hw, show Ms.map Md.pc ++ [Md.pc ⟨f2, z', T2, cp'⟩] = (Ms ++ [(⟨f2, z', T2, cp'⟩ : Md)]).map Md.pc by simp]
      have hlen : (Ms.map Md.pc).length + ([Md.pc ⟨f2, z', T2, cp'⟩] : List PC).length = (Ms ++ [(⟨f2, z', T2, cp'⟩ : Md)]).length := by simp
      exact M.again (XH.ren [(0, 0), (1, 1), (2, 2), (3, 3), (4, 4), (5, 5), (6, 6), (7, 7), (8, 25)] (ih (i + 1) s' (Ms ++ [⟨f2, z', T2, cp'⟩]) σ (by omega) (hL.next (M' := ⟨f2, z', T2, cp'⟩) (by omega) hM h3 h4)) rfl (by repeat' (first | exact True.intro | refine ⟨⟨_, _, rfl, rfl, Wk.rfl⟩, ?_⟩ | refine ⟨⟨_, _, rfl, rfl, Wk.of (by rw [← hlen]; rfl)⟩, ?_⟩)) ⟨(hpX rfl rfl rfl), HeapOK.fam wOK (by repeat' (first | exact Tl.here | refine Tl.cons rfl ?_)) rfl⟩)
    · refine M.go rfl ?_
      rw [hw, h5 he]
      exact M.again (XH.ren [(0, 0), (1, 1), (2, 2), (3, 3), (4, 4), (5, 5), (6, 6), (7, 7), (8, 8)] (ih (i + 1) s Ms σ (by omega) hL.keep) rfl (by repeat' (first | exact True.intro | refine evC rfl rfl Wk.rfl ?_ | refine evC (accV_ren rfl) rfl Wk.rfl ?_ | refine evC (accV_ren rfl) rfl Wk.acc0 ?_ | refine evC rfl rfl Wk.uncap ?_ | refine evC rfl rfl Wk.nil ?_)) ⟨(hpX rfl rfl rfl), HeapOK.fam wOK (by repeat' (first | exact Tl.here | refine Tl.cons rfl ?_)) rfl⟩)
end Go.Proofs.Ytjlfojgacnphmaa

namespace Go.Proofs.Ytjlfojgacnphmaa
open Go.RowKit Sim Go Sym
set_option maxRecDepth 100000
set_option linter.unusedVariables false
set_option linter.unusedSimpArgs false
variable {base : Nat}
theorem Md.good.b3 {A : Md} (h : A.good) : ∀ t ∈ A.T, Bytes t.2.1 ∧ t.2.1.length ≤ 30000 := fun t ht => ⟨(h.b t ht).1, by have := (h.b t ht).2; omega⟩
theorem Md.good.rb {A : Md} (h : A.good) : ∀ b ∈ rsR A.T, Bytes b ∧ b.length ≤ 30000 := fun b hb => by
  obtain ⟨t, ht, rfl⟩ := List.mem_map.1 hb
  exact h.b3 t ht
theorem Md.good.mb {A : Md} (h : A.good) : A.T ≠ [] → 1 ≤ A.f ∧ A.f ≤ 2000000000000000 := fun hne => by
  have := h.rng hne
  have h2 : P50 = 1125899906842624 := rfl
  omega
theorem cmp_loop {s : WS} (Ms : List Md) (hg : ∀ A ∈ Ms, A.good) (hMl : Ms.length ≤ 1000) (j : Nat) (B : Md) (hj : Ms[j]? = some B) (hi : WInv s B.f (rsR B.T)) (Q : QX) (hret : ∀ e : Env, Sym.look e 8 = some (.c (.p (.bool true))) → Q .ret e (crH s Ms)) :
    ∀ (rem i : Nat), i + rem = j → XH Try.prog base lWcr.1.n 0 (lWcr.1.c.lp 1) [(13, .c (.sl 8 0 Ms.length 2 none)), (21, .c (.ptr 2 0)), (22, .c (.p (.int .i64 i)))] (crH s Ms) Q := by
  have hjl := (List.getElem?_eq_some_iff.1 hj).1
  have hBg := hg B (List.mem_of_getElem? hj)
  intro rem
  induction rem with
  | zero =>
    intro i hij
    obtain rfl : i = j := by omega
    have huM : (Ms.map Md.pc)[i]? = some B.pc := by rw [List.getElem?_map, hj]; rfl
    refine M.round (M.go rfl ?_)
    refine M.cond rfl (fun _ => ?_) (fun h => absurd (by omega) h)
    refine M.go rfl ?_
    refine M.op (by first | exact True.intro | exact rfl) (SOp.iaOn rfl rfl (by omega)) ?_
    refine M.op (by first | exact True.intro | exact rfl) (SOp.ldnO (m := 2) (u := B.pc) rfl rfl huM rfl rfl rfl) ?_
    refine M.go rfl ?_
    refine M.useR (s := s) wOK [(8, some (.els 2 (Ms.map Md.pc)))] [(13, .c (.sl 8 0 Ms.length 2 none)), (21, .c (.ptr 2 0)), (22, .c (.p (.int .i64 i)))] trivial (W_same hi B.f B.z B.T B.cp rfl (fun _ => rfl) hBg.b3) rfl ⟨⟨rfl, rfl⟩, trivial⟩ rfl rfl rfl rfl (fun r s' h => by rw [h.1]; rfl) (by repeat' (first | exact True.intro | refine evC rfl rfl Wk.rfl ?_ | refine evC (accV_ren rfl) rfl Wk.rfl ?_ | refine evC (accV_ren rfl) rfl Wk.acc0 ?_ | refine evC rfl rfl Wk.uncap ?_ | refine evC rfl rfl Wk.nil ?_)) (fun r s' h => ?_)
    obtain ⟨rfl, h2⟩ := h
    rw [h2]
    refine M.go rfl ?_
    exact M.ret (M.go rfl (M.done (hret _ rfl)))
  | succ rem ih =>
    intro i hij
    have hil : i < Ms.length := by omega
    obtain ⟨A, hA⟩ : ∃ A, Ms[i]? = some A := ⟨Ms[i], List.getElem?_eq_getElem hil⟩
    have hAg := hg A (List.mem_of_getElem? hA)
    have huM : (Ms.map Md.pc)[i]? = some A.pc := by rw [List.getElem?_map, hA]; rfl
    have hw : IntKind.i64.wrap ((i : Int) + 1) = ((i + 1 : Nat) : Int) := by rw [wr64 (by omega) (by omega)]; omega
    refine M.round (M.go rfl ?_)
    refine M.cond rfl (fun _ => ?_) (fun h => absurd (by omega) h)
    refine M.go rfl ?_
    refine M.op (by first | exact True.intro | exact rfl) (SOp.iaOn rfl rfl (by omega)) ?_
    refine M.op (by first | exact True.intro | exact rfl) (SOp.ldnO (m := 2) (u := A.pc) rfl rfl huM rfl rfl rfl) ?_
    refine M.go rfl ?_
    refine M.useR (s := s) wOK [(8, some (.els 2 (Ms.map Md.pc)))] [(13, .c (.sl 8 0 Ms.length 2 none)), (21, .c (.ptr 2 0)), (22, .c (.p (.int .i64 i)))] trivial (W_samea hi hBg.rb A.f A.z A.T A.cp (by have := hAg.len; omega) hAg.mb hAg.b3) rfl ⟨⟨rfl, rfl⟩, trivial⟩ rfl rfl rfl rfl (fun r s' h => by obtain ⟨⟨b, h⟩, -⟩ := h; rw [h]; rfl) (by repeat' (first | exact True.intro | refine evC rfl rfl Wk.rfl ?_ | refine evC (accV_ren rfl) rfl Wk.rfl ?_ | refine evC (accV_ren rfl) rfl Wk.acc0 ?_ | refine evC rfl rfl Wk.uncap ?_ | refine evC rfl rfl Wk.nil ?_)) (fun r s' h => ?_)
    obtain ⟨⟨b, rfl⟩, h2⟩ := h
    rw [h2]
    refine M.go rfl ?_
    refine M.condB rfl (fun _ => ?_) (fun _ => ?_)
    · refine M.go rfl ?_
      exact M.ret (M.go rfl (M.done (hret _ rfl)))
    · refine M.go rfl ?_
      rw [hw]
      exact M.again (XH.ren [(0, 0), (1, 1), (2, 2), (3, 3), (4, 4), (5, 5), (6, 6), (7, 7), (8, 8)] (ih (i + 1) (by omega)) rfl (by repeat' (first | exact True.intro | refine evC rfl rfl Wk.rfl ?_ | refine evC (accV_ren rfl) rfl Wk.rfl ?_ | refine evC (accV_ren rfl) rfl Wk.acc0 ?_ | refine evC rfl rfl Wk.uncap ?_ | refine evC rfl rfl Wk.nil ?_)) ⟨(hpX rfl rfl rfl), HeapOK.fam wOK (by repeat' (first | exact Tl.here | refine Tl.cons rfl ?_)) rfl⟩)
theorem WalCrash_spec (z : Bool) (ops : List WOp) (hops : ∀ o ∈ ops, Bytes o.b) (n torn again : Int) : CallS Try.prog base 6 [.c (.p (.tz z 3 (ops.map WOp.pc) none)), .c (.p (.int .i64 n)), .c (.p (.int .i64 torn)), .c (.p (.int .i64 again))] ⟨[], 0⟩ (.c (.p (.bool true))) ⟨[], 0⟩ := by
  refine CallS.of noNG lWcr.2 rfl (M.start (M.go rfl ?_))
  refine M.use0 trivial begun4_spec rfl rfl rfl ?_
  refine M.go rfl ?_
  refine M.use trivial (dnew_spec 1048576) [] rfl rfl rfl trivial rfl rfl ?_
  refine M.go rfl ?_
  refine M.use trivial (wopen_empty mB [] 0 [] 0 rfl rfl) [(0, 0), (1, 1), (2, 2)] rfl rfl rfl (by repeat' (first | exact True.intro | refine hpC rfl rfl rfl ?_ | refine ⟨⟨_, _, _, rfl, rfl, rfl, @WkO.rfl _⟩, ?_⟩ | refine HeapOK.acc rfl rfl ?_)) rfl rfl ?_
  refine M.go rfl ?_
  refine M.condN rfl (fun hn => absurd rfl hn) (fun _ => ?_)
  refine M.go rfl ?_
  refine M.uncapS (i := 13) rfl rfl rfl ?_
  refine M.loop (XH.ren [(0, 0), (2, 3), (3, 1), (4, 2), (8, 4)] (crash_loop4 z ops hops n torn again _ (fun i s Ms σ hi hC => ?_) 30 0 ⟨mB, 0, 0, [], 0, [], 0, none, .nil⟩ [⟨0, true, [], none⟩] 0 (by omega) ⟨⟨_, rfl, ⟨⟨fun h => absurd rfl h, rfl, rfl, rfl, fun h => absurd rfl h, .inl ⟨rfl, rfl, rfl⟩, by simp [rsR, flatR]⟩, fun t ht => absurd ht (by simp), by simp, fun h => absurd rfl h, by simp [wtN], fun _ => rfl⟩⟩, fun A hA => ?_, by simp, ⟨0, true, [], none⟩, [], [], rfl, .inl ⟨rfl, rfl, rfl⟩, rfl, .nil⟩) rfl (by repeat' (first | exact True.intro | refine evC rfl rfl Wk.rfl ?_ | refine evC (accV_ren rfl) rfl Wk.rfl ?_ | refine evC (accV_ren rfl) rfl Wk.acc0 ?_ | refine evC rfl rfl Wk.uncap ?_ | refine evC rfl rfl Wk.nil ?_)) (by repeat' (first | exact True.intro | refine hpC rfl rfl rfl ?_ | refine ⟨⟨_, _, _, rfl, rfl, rfl, @WkO.rfl _⟩, ?_⟩ | refine HeapOK.acc rfl rfl ?_)))
  rotate_left
  · simp at hA
    subst hA
    exact ⟨fun t ht => absurd ht (by simp), by simp, fun h => absurd rfl h⟩
  refine M.q (M.go rfl ?_)
  obtain ⟨A, hA, hLp⟩ := hC.last
  obtain ⟨M0, tl, V, g1, g2, g3, g4⟩ := hC.path
  have hMl := hC.len
  have hdk := hLp.dk
  rw [g3, wts_N] at hdk
  have hin : ∀ B, B ∈ M0 :: tl → B ∈ Ms := fun B hB => by rw [← g1] at hB; exact List.mem_of_mem_drop hB
  obtain ⟨t, E, tl1, X, c1, c2⟩ := g4.crash (n := n) (torn := torn) 0 (s.L, s.lc) g2 (fun E hE => by
    rw [← List.map_cons (f := Md.ct)] at hE
    obtain ⟨B, hB, rfl⟩ := List.mem_map.1 hE
    have := (hC.good B (hin B hB)).ctl
    omega)
  have hE := c2.at_
  rw [← List.map_cons (f := Md.ct), ← g1] at hE
  obtain ⟨B, hB, rfl⟩ := List.mem_map.1 hE
  obtain ⟨k, hk⟩ := List.mem_iff_getElem?.1 hB
  rw [List.getElem?_drop] at hk
  have hBg := hC.good B (List.mem_of_getElem? hk)
  have hBl := hBg.ctl
  have hbare : s.bareW = ⟨mB, 0, 0, s.L, s.lc, s.F, s.c, wts V, .no⟩ := by simp only [WS.bareW]; rw [hLp.inv.room, g3]
  refine M.shO (Sh.ren (e' := crX n torn again Ms.length σ ++ [(98, .c (.ptr 0 0)), (99, .c (.p (.int .i64 n))), (100, .c (.p (.int .i64 torn)))]) (h' := ⟨(8, some (.els 2 (Ms.map Md.pc))) :: (wFam.mem s.bareW).l, 9⟩) [(0, 0), (1, 1), (2, 2), (3, 3), (4, 4), (5, 5), (6, 6), (7, 7), (8, 8)] rfl (by repeat' (first | exact True.intro | refine evC rfl rfl Wk.rfl ?_ | refine evC (accV_ren rfl) rfl Wk.rfl ?_ | refine evC (accV_ren rfl) rfl Wk.acc0 ?_ | refine evC rfl rfl Wk.uncap ?_ | refine evC rfl rfl Wk.nil ?_)) ⟨(hpX rfl rfl rfl), bareW_heap (by repeat' (first | exact Tl.here | refine Tl.cons rfl ?_)) rfl⟩) ?_
  rw [hbare]
  refine M.useR (s := (⟨mB, 0, 0, s.L, s.lc, s.F, s.c, wts V, .no⟩ : WS)) wOK [(8, some (.els 2 (Ms.map Md.pc)))] [(2, .c (.p (.int .i64 torn))), (3, .c (.p (.int .i64 again))), (13, .c (.sl 8 0 Ms.length 2 none)), (14, .c (.p (.int .i64 σ)))] trivial (W_crash mB 0 0 s.L s.lc s.F s.c V (by omega) n torn t c1) rfl ⟨⟨rfl, rfl⟩, trivial⟩ rfl rfl rfl rfl (fun r s' h => by rw [h.1]; rfl) (by repeat' (first | exact True.intro | refine evC rfl rfl Wk.rfl ?_ | refine evC (accV_ren rfl) rfl Wk.rfl ?_ | refine evC (accV_ren rfl) rfl Wk.acc0 ?_ | refine evC rfl rfl Wk.uncap ?_ | refine evC rfl rfl Wk.nil ?_)) (fun r s1 h => ?_)
  obtain ⟨rfl, rfl⟩ := h
  refine M.go rfl ?_
  have hRne : X ≠ none → rsR B.T ≠ [] := fun h e => (c2.fr h).2 (by show flatR B.f (rsR B.T) = []; rw [e]; rfl)
  refine M.useR (s := (⟨mB, 0, 0, t.1, t.2, t.1, t.2, none, .no⟩ : WS)) wOK [(8, some (.els 2 (Ms.map Md.pc)))] [(2, .c (.p (.int .i64 torn))), (3, .c (.p (.int .i64 again))), (13, .c (.sl 8 0 Ms.length 2 none)), (14, .c (.p (.int .i64 σ))), (20, .c (.ptr 0 0))] trivial (W_open 0 0 t.1 t.2 t.1 t.2 B.f (rsR B.T) tl1 X hBg.ok c2.dk c2.tail (fun h => ⟨(c2.fr h).1, hRne h⟩) (by show B.ct.length ≤ _; omega)) rfl ⟨⟨rfl, rfl⟩, trivial⟩ rfl rfl rfl rfl (fun r s' h => by rw [h.1]; rfl) (by repeat' (first | exact True.intro | refine evC rfl rfl Wk.rfl ?_ | refine evC (accV_ren rfl) rfl Wk.rfl ?_ | refine evC (accV_ren rfl) rfl Wk.acc0 ?_ | refine evC rfl rfl Wk.uncap ?_ | refine evC rfl rfl Wk.nil ?_)) (fun r s2 h => ?_)
  obtain ⟨rfl, w1, w2, w3, V2, w4, w5⟩ := h
  refine M.go rfl ?_
  obtain ⟨t2, tl2, X2, d1, d2, d3, d4⟩ := w5.crash (s := t) c2.dk c2.tail (fun h => (c2.fr h).1) again torn
  have hV2 : V2.length ≤ 1 := by rcases w5 with rfl | ⟨rfl, -⟩ | ⟨rfl, -⟩ <;> simp
  have hbare2 : s2.bareW = ⟨mB, 0, 0, t.1, t.2, s2.F, s2.c, wts V2, .no⟩ := by simp only [WS.bareW]; rw [w1.room, w2, w3, w4]
  refine M.shO (Sh.ren (e' := [(2, .c (.p (.int .i64 torn))), (3, .c (.p (.int .i64 again))), (13, .c (.sl 8 0 Ms.length 2 none)), (14, .c (.p (.int .i64 σ))), (104, .c (.ptr 0 0)), (105, .c (.p (.int .i64 again))), (106, .c (.p (.int .i64 torn)))]) (h' := ⟨(8, some (.els 2 (Ms.map Md.pc))) :: (wFam.mem s2.bareW).l, 9⟩) [(0, 0), (1, 1), (2, 2), (3, 3), (4, 4), (5, 5), (6, 6), (7, 7), (8, 8)] rfl (by repeat' (first | exact True.intro | refine evC rfl rfl Wk.rfl ?_ | refine evC (accV_ren rfl) rfl Wk.rfl ?_ | refine evC (accV_ren rfl) rfl Wk.acc0 ?_ | refine evC rfl rfl Wk.uncap ?_ | refine evC rfl rfl Wk.nil ?_)) ⟨(hpX rfl rfl rfl), bareW_heap (by repeat' (first | exact Tl.here | refine Tl.cons rfl ?_)) rfl⟩) ?_
  rw [hbare2]
  refine M.useR (s := (⟨mB, 0, 0, t.1, t.2, s2.F, s2.c, wts V2, .no⟩ : WS)) wOK [(8, some (.els 2 (Ms.map Md.pc)))] [(13, .c (.sl 8 0 Ms.length 2 none)), (14, .c (.p (.int .i64 σ)))] trivial (W_crash mB 0 0 t.1 t.2 s2.F s2.c V2 (by omega) again torn t2 d1) rfl ⟨⟨rfl, rfl⟩, trivial⟩ rfl rfl rfl rfl (fun r s' h => by rw [h.1]; rfl) (by repeat' (first | exact True.intro | refine evC rfl rfl Wk.rfl ?_ | refine evC (accV_ren rfl) rfl Wk.rfl ?_ | refine evC (accV_ren rfl) rfl Wk.acc0 ?_ | refine evC rfl rfl Wk.uncap ?_ | refine evC rfl rfl Wk.nil ?_)) (fun r s3 h => ?_)
  obtain ⟨rfl, rfl⟩ := h
  refine M.go rfl ?_
  refine M.useR (s := (⟨mB, 0, 0, t2.1, t2.2, t2.1, t2.2, none, .no⟩ : WS)) wOK [(8, some (.els 2 (Ms.map Md.pc)))] [(13, .c (.sl 8 0 Ms.length 2 none)), (14, .c (.p (.int .i64 σ)))] trivial (W_open 0 0 t2.1 t2.2 t2.1 t2.2 B.f (rsR B.T) tl2 X2 hBg.ok d2 d3 (fun h => ⟨(d4 h).2, hRne (d4 h).1⟩) (by show B.ct.length ≤ _; omega)) rfl ⟨⟨rfl, rfl⟩, trivial⟩ rfl rfl rfl rfl (fun r s' h => by rw [h.1]; rfl) (by repeat' (first | exact True.intro | refine evC rfl rfl Wk.rfl ?_ | refine evC (accV_ren rfl) rfl Wk.rfl ?_ | refine evC (accV_ren rfl) rfl Wk.acc0 ?_ | refine evC rfl rfl Wk.uncap ?_ | refine evC rfl rfl Wk.nil ?_)) (fun r s4 h => ?_)
  obtain ⟨rfl, v1, -, -, -⟩ := h
  refine M.go rfl ?_
  refine M.condN rfl (fun hn => absurd rfl hn) (fun _ => ?_)
  refine M.go rfl ?_
  refine M.loop (XH.ren [(0, 0), (1, 1), (2, 2), (3, 3), (4, 4), (5, 5), (6, 6), (7, 7), (8, 8)] (cmp_loop Ms hC.good (by omega) (σ + k) B hk v1 _ (fun e he => ?_) k σ rfl) rfl (by repeat' (first | exact True.intro | refine evC rfl rfl Wk.rfl ?_ | refine evC (accV_ren rfl) rfl Wk.rfl ?_ | refine evC (accV_ren rfl) rfl Wk.acc0 ?_ | refine evC rfl rfl Wk.uncap ?_ | refine evC rfl rfl Wk.nil ?_)) ⟨(hpX rfl rfl rfl), HeapOK.fam wOK (by repeat' (first | exact Tl.here | refine Tl.cons rfl ?_)) rfl⟩)
  exact M.q (M.go rfl (M.done (finQ.ret [] (retX_t (i := 8) he) rfl rfl Wk.rfl (by repeat' (first | exact True.intro | refine hpC rfl rfl rfl ?_ | refine ⟨⟨_, _, _, rfl, rfl, rfl, @WkO.rfl _⟩, ?_⟩ | refine HeapOK.acc rfl rfl ?_)))))
theorem WalCrash_law {p0 p1 p2 p3 : PC} (h0 : Is (.sl 3 40 tyWOp) p0) (h1 : Is (.int .i64) p1) (h2 : Is (.int .i64) p2) (h3 : Is (.int .i64) p3) : CallS Try.prog base 6 [xvP p0, xvP p1, xvP p2, xvP p3] ⟨[], 0⟩ (.c (.p (.bool true))) ⟨[], 0⟩ := by
  obtain ⟨z, el, rfl, g1, g2⟩ := h0.sl
  obtain ⟨ops, rfl, g3⟩ := lift (fun p hp => is_wop hp) g2
  obtain ⟨n, rfl, -⟩ := h1.i64
  obtain ⟨torn, rfl, -⟩ := h2.i64
  obtain ⟨again, rfl, -⟩ := h3.i64
  exact WalCrash_spec z ops g3 n torn again
end Go.Proofs.Ytjlfojgacnphmaa
