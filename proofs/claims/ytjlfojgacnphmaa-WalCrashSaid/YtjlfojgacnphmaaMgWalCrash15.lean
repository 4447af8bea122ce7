/- Texts of this claim, several in one: W14, W16, W9, W20, W21, W22, W23, W24, W25, W26, W27, W29, W30, W28, W31. -/
import Derived.Test.YtjlfojgacnphmaaMgWalCrash14
namespace Go.Proofs.Ytjlfojgacnphmaa
open Go.RowKit Sim Go Sym
set_option maxRecDepth 100000
set_option linter.unusedVariables false
set_option linter.unusedSimpArgs false
variable {base : Nat}
noncomputable def lWun : {F : LF // lowerF Try.prog 29 = some F} := ⟨_, rfl⟩
theorem may_fr : CallS Try.prog base 70 [.c (.p (.str frN))] ⟨[], 0⟩ (.c (.p (.bool true))) ⟨[], 0⟩ := CallS.reck (m := 200) (h' := noMem) mixed noNG (by kernel_rfl)
def subY (Y : List PC) (s : Nat) (P : Nat → Nat) (p : Nat) : Nat → List PC
  | 0 => Y
  | i + 1 => (subY Y s P p i).set (s + i) (.int .i64 ((P i : Int) - p))
theorem subY_len (Y : List PC) (s : Nat) (P : Nat → Nat) (p : Nat) : ∀ i, (subY Y s P p i).length = Y.length
  | 0 => rfl
  | i + 1 => by rw [subY, List.length_set, subY_len Y s P p i]
theorem subY_hi (Y : List PC) (s : Nat) (P : Nat → Nat) (p : Nat) : ∀ i j, i ≤ j → (subY Y s P p i)[s + j]? = Y[s + j]?
  | 0, _, _ => rfl
  | i + 1, j, h => by rw [subY, List.getElem?_set_ne (by omega), subY_hi Y s P p i j (by omega)]
theorem subY_lo (Y : List PC) (s : Nat) (P : Nat → Nat) (p : Nat) : ∀ i j, j < i → s + i ≤ Y.length → (subY Y s P p i)[s + j]? = some (.int .i64 ((P j : Int) - p))
  | i + 1, j, h, hl => by
    by_cases e : j = i
    · subst e; rw [subY, List.getElem?_set_self (by rw [subY_len]; omega)]
    · rw [subY, List.getElem?_set_ne (by omega), subY_lo Y s P p i j (by omega) (by omega)]
def chF (z : Bool) (b : List Int) : PC := .agg (chX 0 frN [] (fP z b none) 0)
def chM : PC := .agg (chX 3 frN [119] (fP true [] none) 0)
theorem until_loop1 (room first en : Int) (o m : Nat) (L : FS) (lc : Nat) (F : FS) (c : Nat) (w : PC) (W : List PC) (X Y : List PC) (P : Nat → Nat) (p : Nat) (hm : m ≤ 100000) (hY : ∀ j, j < m → Y[o + j]? = some (.int .i64 (P j : Nat))) (hP : ∀ j, j < m → p ≤ P j ∧ P j ≤ 1000000000) (hl : o + m ≤ Y.length) (Q : QX) (hq : Q (.exit 1) [] (hG1 8 5 6 9 room first en o m L lc F c w W X (subY Y o P p m))) :
    ∀ (rem i : Nat), i + rem = m → XH Try.prog base lWun.1.n 7 (lWun.1.c.lp 0) [(0, .c (.ptr 0 0)), (10, .c (.p (.int .i64 p))), (132, .c (.p (.int .i64 m))), (133, .c (.p (.int .i64 i)))] (hG1 8 5 6 9 room first en o m L lc F c w W X (subY Y o P p i)) Q := by
  intro rem
  induction rem with
  | zero =>
    intro i hi
    obtain rfl : m = i := by omega
    refine M.round (M.go rfl ?_)
    refine M.cond rfl (fun hn => absurd hn (by omega)) (fun _ => ?_)
    refine M.ren [(0, 0), (1, 1), (2, 2), (3, 3), (4, 4), (5, 5), (6, 6), (7, 7), (8, 8)] ?_ trivial rfl (by repeat' (first | exact True.intro | refine evC rfl rfl Wk.rfl ?_ | refine evC (accV_ren rfl) rfl Wk.rfl ?_ | refine evC (accV_ren rfl) rfl Wk.acc0 ?_ | refine evC rfl rfl Wk.uncap ?_ | refine evC rfl rfl Wk.nil ?_)) (by repeat' (first | exact True.intro | refine hpC rfl rfl rfl ?_ | refine ⟨⟨_, _, _, rfl, rfl, rfl, @WkO.rfl _⟩, ?_⟩ | refine HeapOK.acc rfl rfl ?_)) (e' := []) (h' := (hG1 8 5 6 9 room first en o m L lc F c w W X (subY Y o P p m)))
    exact M.exit (M.go rfl (M.done hq))
  | succ rem ih =>
    intro i hi
    have ih' := ih (i + 1) (by omega)
    have hw2 : IntKind.i64.wrap ((i : Int) + 1) = ((i + 1 : Nat) : Int) := by rw [wr64 (by omega) (by omega)]; omega
    have hPi := hP i (by omega)
    have hget : (subY Y o P p i)[o + i]? = some (.int .i64 (P i : Nat)) := by rw [subY_hi Y o P p i i (Nat.le_refl _), hY i (by omega)]
    have hw3 : IntKind.i64.wrap ((P i : Int) - p) = (P i : Int) - p := wr64 (by omega) (by omega)
    refine M.round (M.go rfl ?_)
    refine M.cond rfl (fun _ => ?_) (fun hn => absurd (by omega) hn)
    refine M.go rfl ?_
    refine M.op trivial (SOp.ia1 rfl rfl (by omega)) ?_
    refine M.op trivial (SOp.ld1A rfl rfl hget rfl rfl rfl) ?_
    refine M.go rfl ?_
    rw [hw3]
    refine M.op trivial (SOp.ia1 rfl rfl (by omega)) ?_
    refine M.op trivial (SOp.stA rfl rfl rfl rfl (by rw [subY_len]; omega)) ?_
    refine M.go rfl ?_
    rw [hw2]
    exact M.again (XH.ren [(0, 0), (1, 1), (2, 2), (3, 3), (4, 4), (5, 5), (6, 6), (7, 7), (8, 8)] ih' rfl (by repeat' (first | exact True.intro | refine evC rfl rfl Wk.rfl ?_ | refine evC (accV_ren rfl) rfl Wk.rfl ?_ | refine evC (accV_ren rfl) rfl Wk.acc0 ?_ | refine evC rfl rfl Wk.uncap ?_ | refine evC rfl rfl Wk.nil ?_)) (by repeat' (first | exact True.intro | refine hpC rfl rfl rfl ?_ | refine ⟨⟨_, _, _, rfl, rfl, rfl, @WkO.rfl _⟩, ?_⟩ | refine HeapOK.acc rfl rfl ?_)))
theorem guntil1_0 (room first en : Int) (o : Nat) (L : FS) (lc : Nat) (F : FS) (c : Nat) (w : PC) (W : List PC) (X Y : List PC) (n : Int) (hn : 1 ≤ n) : CallS Try.prog base 29 [.c (.ptr 0 0), .c (.p (.int .i64 n))] (hG1 4 5 6 7 room first en o 0 L lc F c w W X Y) (.c (.p (.int .i64 0))) (hG1 4 5 6 7 room first en o 0 L lc F c w W X Y) := by
  refine CallS.of noNG lWun.2 rfl (M.start (M.go rfl ?_))
  refine M.cond rfl (fun hh => absurd hh (by omega)) (fun _ => ?_)
  refine M.go rfl ?_
  refine M.dec rfl (fun _ => ?_) (fun hn => absurd (by simp) hn)
  refine M.go rfl ?_
  exact M.ret (M.go rfl (M.done (finQ.ret [(0, 0), (1, 1), (2, 2), (3, 3), (4, 4), (5, 5), (6, 6)] rfl rfl rfl (by first | exact Wk.rfl | exact Wk.uncap | exact Wk.nil | exact Wk.b1 rfl | exact Wk.t2 Wk.rfl (Wk.b1 rfl)) (by repeat' (first | exact True.intro | refine hpC rfl rfl rfl ?_ | refine ⟨⟨_, _, _, rfl, rfl, rfl, @WkO.rfl _⟩, ?_⟩ | refine HeapOK.acc rfl rfl ?_)))))
theorem guntil1_n (room first en : Int) (o m : Nat) (L : FS) (lc : Nat) (F : FS) (c : Nat) (w : PC) (W : List PC) (X Y : List PC) (n : Int) (hn : 1 ≤ n ∧ n < first) : CallS Try.prog base 29 [.c (.ptr 0 0), .c (.p (.int .i64 n))] (hG1 4 5 6 7 room first en o (m + 1) L lc F c w W X Y) (.c (.p (.int .i64 0))) (hG1 4 5 6 7 room first en o (m + 1) L lc F c w W X Y) := by
  refine CallS.of noNG lWun.2 rfl (M.start (M.go rfl ?_))
  refine M.cond rfl (fun hh => absurd hh (by omega)) (fun _ => ?_)
  refine M.go rfl ?_
  refine M.dec rfl (fun hh => absurd hh (by omega)) (fun _ => ?_)
  refine M.go rfl ?_
  refine M.cond rfl (fun _ => ?_) (fun hn => absurd (by omega) hn)
  refine M.go rfl ?_
  exact M.ret (M.go rfl (M.done (finQ.ret [(0, 0), (1, 1), (2, 2), (3, 3), (4, 4), (5, 5), (6, 6)] rfl rfl rfl (by first | exact Wk.rfl | exact Wk.uncap | exact Wk.nil | exact Wk.b1 rfl | exact Wk.t2 Wk.rfl (Wk.b1 rfl)) (by repeat' (first | exact True.intro | refine hpC rfl rfl rfl ?_ | refine ⟨⟨_, _, _, rfl, rfl, rfl, @WkO.rfl _⟩, ?_⟩ | refine HeapOK.acc rfl rfl ?_)))))
theorem guntil1_a (room first en : Int) (o m : Nat) (L : FS) (lc : Nat) (F : FS) (c : Nat) (w : PC) (W : List PC) (X Y : List PC) (n : Int) (hn : 1 ≤ n ∧ n ≤ 2000000000000000) (hm : m ≤ 100000) (hf1 : 1 ≤ first) (hf : 0 ≤ first ∧ first ≤ 2000000000000000) (hl : first + m ≤ n) (hW : W.length ≤ 1000000) (p : Nat) (z : Bool) (old : List Int) (oc : Option Nat) (hold : findP [119] F = some (fP z old oc)) (hp : p ≤ old.length) (hY : Y[o]? = some (.int .i64 (p : Nat))) :
    CallS Try.prog base 29 [.c (.ptr 0 0), .c (.p (.int .i64 n))] (hG1 4 5 6 7 room first en o (m + 1) L lc F c w W X Y) (.c (.p (.int .i64 0))) (hG1 7 5 6 8 room first ((p : Nat)) o 0 L lc (updP [119] (cutF z old p) c F) (updPC [119] (cutF z old p) c F) w (W ++ [chC p]) X Y) := by
  refine CallS.of noNG lWun.2 rfl (M.start (M.go rfl ?_))
  refine M.cond rfl (fun hh => absurd hh (by omega)) (fun _ => ?_)
  refine M.go rfl ?_
  refine M.dec rfl (fun hh => absurd hh (by omega)) (fun _ => ?_)
  refine M.go rfl ?_
  refine M.cond rfl (fun hh => absurd hh (by omega)) (fun _ => ?_)
  refine M.go rfl ?_
  refine M.use trivial (glast1_1 room first en o m L lc F c w W X Y hm hf) [(0, 0), (1, 1), (2, 2), (3, 3), (4, 4), (5, 5), (6, 6)] rfl rfl rfl (by repeat' (first | exact True.intro | refine hpC rfl rfl rfl ?_ | refine ⟨⟨_, _, _, rfl, rfl, rfl, @WkO.rfl _⟩, ?_⟩ | refine HeapOK.acc rfl rfl ?_)) rfl rfl ?_
  refine M.go rfl ?_
  refine M.cond rfl (fun _ => ?_) (fun hn => absurd (by omega) hn)
  refine M.go rfl ?_
  refine M.use trivial (gfrom1_y room first en o m L lc F c w W X Y first ⟨hf1, hf.2⟩ hm hf (by omega) hW 0 p (by simp) z old oc hold hp hY) [(0, 0), (1, 1), (2, 2), (3, 3), (4, 4), (5, 5), (6, 6)] rfl rfl rfl (by repeat' (first | exact True.intro | refine hpC rfl rfl rfl ?_ | refine ⟨⟨_, _, _, rfl, rfl, rfl, @WkO.rfl _⟩, ?_⟩ | refine HeapOK.acc rfl rfl ?_)) rfl rfl ?_
  refine M.go rfl ?_
  exact M.ret (M.go rfl (M.done (finQ.ret [(0, 0), (1, 1), (2, 2), (3, 3), (4, 4), (5, 5), (6, 6), (7, 7)] rfl rfl rfl (by first | exact Wk.rfl | exact Wk.uncap | exact Wk.nil | exact Wk.b1 rfl | exact Wk.t2 Wk.rfl (Wk.b1 rfl)) (by repeat' (first | exact True.intro | refine hpC rfl rfl rfl ?_ | refine ⟨⟨_, _, _, rfl, rfl, rfl, @WkO.rfl _⟩, ?_⟩ | refine HeapOK.acc rfl rfl ?_)))))
theorem guntil1_y (room first en : Int) (o m : Nat) (L : FS) (lc : Nat) (F : FS) (c : Nat) (w : PC) (W : List PC) (X Y : List PC) (n : Int) (hn : 1 ≤ n ∧ n ≤ 2000000000000000) (hm : m ≤ 100000) (hf1 : 1 ≤ first) (hf : 0 ≤ first ∧ first ≤ 2000000000000000) (k : Nat) (hk : n = first + k) (hkm : k < m) (hW : W.length ≤ 100000) (P : Nat → Nat) (p q : Nat) (hen : en = (q : Nat)) (hP0 : P (k + 1) = p) (hpq : p ≤ q) (z : Bool) (old : List Int) (oc : Option Nat) (hold : findP [119] F = some (fP z old oc)) (hne : (old.drop p).take (q - p) ≠ []) (hq : q ≤ old.length) (hol : old.length ≤ 100000000)
    (hY : ∀ j, j ≤ m → Y[o + j]? = some (.int .i64 (P j : Nat))) (hP : ∀ j, k < j → j ≤ m → p ≤ P j ∧ P j ≤ 1000000000) (hl : o + (m + 1) ≤ Y.length) (hF : FOK F c) (hr : room ≤ 100000000000) (hroom : ((usedN F + (q - p) : Nat) : Int) ≤ room) (hfile : F.length < 64) (hfr : findP frN F = none) (F2 F3 : FS) (c2 c3 : Nat) (hF2 : updP frN (fP false ((old.drop p).take (q - p)) none) c F = F2) (hc2 : updPC frN (fP false ((old.drop p).take (q - p)) none) c F = c2) (hg2 : findP frN F2 = some (fP false ((old.drop p).take (q - p)) none)) (hF3 : updP [119] (fP false ((old.drop p).take (q - p)) none) c2 (delP frN F2) = F3) (hc3 : updPC [119] (fP false ((old.drop p).take (q - p)) none) c2 (delP frN F2) = c3) :
    CallS Try.prog base 29 [.c (.ptr 0 0), .c (.p (.int .i64 n))] (hG1 4 5 6 7 room first en o (m + 1) L lc F c w W X Y) (.c (.p (.int .i64 0))) (hG1 8 5 6 9 room (n + 1) ((q : Int) - p) (o + (k + 1)) (m - k) L lc F3 c3 w (W ++ [(chF (z && (u8P old).isEmpty) ((old.drop p).take (q - p)))] ++ [chM]) X (subY Y (o + (k + 1)) (fun j => P (k + 1 + j)) p (m - k))) := by
  have hl1 : (u8P old).length = old.length := u8P_len old
  have hnl : ((old.drop p).take (q - p)).length = q - p := by rw [List.length_take, List.length_drop]; omega
  have d1 : CallS Try.prog base 66 [.c (.mp 0), .agg ((chX 0 frN [] (fP (z && (u8P old).isEmpty) ((old.drop p).take (q - p)) none) 0).map XC.p), .c (.p (.int .i64 ((old.drop p).take (q - p)).length))] ⟨[(0, some (fM F c))], 1⟩ (.tup []) ⟨[(0, some (fM F2 c2))], 1⟩ := by
    have := do_app0 (base := base) F c frN [] 0 hfr (z && (u8P old).isEmpty) ((old.drop p).take (q - p)) none _ (Nat.le_refl _) (by omega)
    rw [List.take_length, apF, if_neg hne, List.nil_append, hF2, hc2] at this
    exact this
  have hYk := hY (k + 1) (by omega)
  rw [hP0] at hYk
  have hw1 : IntKind.i64.wrap (IntKind.i64.wrap (first + (k : Int) - first) + 1) = ((k + 1 : Nat) : Int) := by
    rw [show first + (k : Int) - first = (k : Int) by omega, wr64 (n := (k : Int)) (by omega) (by omega), wr64 (by omega) (by omega)]; omega
  have hw2 : IntKind.i64.wrap (first + (k : Int) + 1) = first + (k : Int) + 1 := wr64 (by omega) (by omega)
  have hw3 : IntKind.i64.wrap ((q : Int) - (p : Int)) = (q : Int) - p := wr64 (by omega) (by omega)
  subst hk
  subst hen
  refine CallS.of noNG lWun.2 rfl (M.start (M.go rfl ?_))
  refine M.cond rfl (fun hh => absurd hh (by omega)) (fun _ => ?_)
  refine M.go rfl ?_
  refine M.dec rfl (fun hh => absurd hh (by omega)) (fun _ => ?_)
  refine M.go rfl ?_
  refine M.cond rfl (fun hh => absurd hh (by omega)) (fun _ => ?_)
  refine M.go rfl ?_
  refine M.use trivial (glast1_1 room first (q : Nat) o m L lc F c w W X Y hm hf) [(0, 0), (1, 1), (2, 2), (3, 3), (4, 4), (5, 5), (6, 6)] rfl rfl rfl (by repeat' (first | exact True.intro | refine hpC rfl rfl rfl ?_ | refine ⟨⟨_, _, _, rfl, rfl, rfl, @WkO.rfl _⟩, ?_⟩ | refine HeapOK.acc rfl rfl ?_)) rfl rfl ?_
  refine M.go rfl ?_
  refine M.cond rfl (fun hh => absurd hh (by omega)) (fun _ => ?_)
  refine M.go rfl ?_
  rw [hw1]
  refine M.use trivial (read1_spec room L lc F c w W [119] z old oc hold (by omega)) [(0, 1), (1, 2), (2, 3), (3, 4)] rfl rfl rfl (by repeat' (first | exact True.intro | refine hpC rfl rfl rfl ?_ | refine ⟨⟨_, _, _, rfl, rfl, rfl, @WkO.rfl _⟩, ?_⟩ | refine HeapOK.acc rfl rfl ?_)) rfl rfl ?_
  refine M.go rfl ?_
  refine M.regD (MD.go rfl ?_)
  refine MD.op trivial (SOp.ia1 rfl rfl (by omega)) ?_
  refine MD.op trivial (SOp.ld1A rfl rfl hYk rfl rfl rfl) ?_
  refine MD.go rfl ?_
  refine MD.op trivial (SOp.sl (l := p) (r := q) rfl ⟨_, _, rfl, by omega, by omega⟩ ⟨_, _, rfl, by omega, by omega⟩ (by omega) (by rw [hl1]; omega)) ?_
  rw [u8P_drop, u8P_take]
  refine MD.go rfl ?_
  refine MD.use trivial (append1_spec room L lc F c w W (by omega) frN (z && (u8P old).isEmpty) ((old.drop p).take (q - p)) none may_fr hF hr (by rw [hnl]; exact hroom) (.inr hfile) F2 c2 d1) [(0, 1), (1, 2), (2, 3), (3, 4)] rfl rfl rfl (by repeat' (first | exact True.intro | refine hpC rfl rfl rfl ?_ | refine ⟨⟨_, _, _, rfl, rfl, rfl, @WkO.rfl _⟩, ?_⟩ | refine HeapOK.acc rfl rfl ?_)) rfl rfl ?_
  refine MD.go rfl ?_
  refine MD.nil mixed (Fnl.nodup rfl) (M.go rfl ?_)
  refine M.condN rfl (fun hn => absurd rfl hn) (fun _ => ?_)
  refine M.go rfl ?_
  refine M.use trivial (move1_spec room L lc F2 c2 w (W ++ [(chF (z && (u8P old).isEmpty) ((old.drop p).take (q - p)))]) (by simp; omega) frN [119] may_w false ((old.drop p).take (q - p)) none hg2) [(0, 1), (1, 2), (2, 3), (3, 7)] rfl rfl rfl (by repeat' (first | exact True.intro | refine hpC rfl rfl rfl ?_ | refine ⟨⟨_, _, _, rfl, rfl, rfl, @WkO.rfl _⟩, ?_⟩ | refine HeapOK.acc rfl rfl ?_)) rfl rfl ?_
  rw [hF3, hc3]
  refine M.go rfl ?_
  refine M.condN rfl (fun hn => absurd rfl hn) (fun _ => ?_)
  refine M.go rfl ?_
  refine M.op trivial (SOp.ia1 rfl rfl (by omega)) ?_
  refine M.op trivial (SOp.ld1A rfl rfl hYk rfl rfl rfl) ?_
  refine M.go rfl ?_
  refine M.regF (MF.go rfl ?_)
  refine MF.op trivial (SOp.sl1 (l := k + 1) (r := m + 1) rfl ⟨_, _, rfl, by omega, by omega⟩ rfl (by omega) (by omega)) ?_
  refine MF.go rfl ?_
  refine MF.op trivial (SOp.sl1 (l := k + 1) (r := m + 1) rfl ⟨_, _, rfl, by omega, by omega⟩ rfl (by omega) (by omega)) ?_
  refine MF.go rfl ?_
  refine MF.nil mixed (Fnl.nodup rfl) rfl ⟨⟨SOp.sl1 (l := k + 1) (r := m + 1) rfl ⟨_, _, rfl, by omega, by omega⟩ rfl (by omega) (by omega), trivial⟩, ⟨SOp.sl1 (l := k + 1) (r := m + 1) rfl ⟨_, _, rfl, by omega, by omega⟩ rfl (by omega) (by omega), SOp.sl1 (l := k + 1) (r := m + 1) rfl ⟨_, _, rfl, by omega, by omega⟩ rfl (by omega) (by omega), trivial⟩, trivial⟩ (M.go rfl ?_)
  rw [hw2, hw3, show m + 1 - (k + 1) = m - k by omega]
  refine M.loop (XH.ren [(0, 0), (1, 1), (2, 2), (3, 3), (4, 4), (5, 5), (6, 6), (7, 7), (8, 8)] (until_loop1 room (first + (k : Int) + 1) ((q : Int) - p) (o + (k + 1)) (m - k) L lc F3 c3 w (W ++ [(chF (z && (u8P old).isEmpty) ((old.drop p).take (q - p)))] ++ [chM]) X Y (fun j => P (k + 1 + j)) p (by omega) (fun j hj => by rw [Nat.add_assoc]; exact hY (k + 1 + j) (by omega)) (fun j hj => hP (k + 1 + j) (by omega) (by omega)) (by omega) _ ?_ (m - k) 0 (by omega)) rfl (by repeat' (first | exact True.intro | refine evC rfl rfl Wk.rfl ?_ | refine evC (accV_ren rfl) rfl Wk.rfl ?_ | refine evC (accV_ren rfl) rfl Wk.acc0 ?_ | refine evC rfl rfl Wk.uncap ?_ | refine evC rfl rfl Wk.nil ?_)) (by repeat' (first | exact True.intro | refine hpC rfl rfl rfl ?_ | refine ⟨⟨_, _, _, rfl, rfl, rfl, @WkO.rfl _⟩, ?_⟩ | refine HeapOK.acc rfl rfl ?_)))
  refine M.q (M.go rfl ?_)
  exact M.ret (M.go rfl (M.done (finQ.ret [(0, 0), (1, 1), (2, 2), (3, 3), (4, 4), (5, 5), (6, 6), (7, 7), (8, 8)] rfl rfl rfl (by first | exact Wk.rfl | exact Wk.uncap | exact Wk.nil | exact Wk.b1 rfl | exact Wk.t2 Wk.rfl (Wk.b1 rfl)) (by repeat' (first | exact True.intro | refine hpC rfl rfl rfl ?_ | refine ⟨⟨_, _, _, rfl, rfl, rfl, @WkO.rfl _⟩, ?_⟩ | refine HeapOK.acc rfl rfl ?_)))))
theorem until_loop0 (room first en : Int) (o m : Nat) (L : FS) (lc : Nat) (F : FS) (c : Nat) (w : PC) (W : List PC) (X Y : List PC) (P : Nat → Nat) (p : Nat) (hm : m ≤ 100000) (hY : ∀ j, j < m → Y[o + j]? = some (.int .i64 (P j : Nat))) (hP : ∀ j, j < m → p ≤ P j ∧ P j ≤ 1000000000) (hl : o + m ≤ Y.length) (Q : QX) (hq : Q (.exit 1) [] (hG1 7 4 5 8 room first en o m L lc F c w W X (subY Y o P p m))) :
    ∀ (rem i : Nat), i + rem = m → XH Try.prog base lWun.1.n 6 (lWun.1.c.lp 0) [(0, .c (.ptr 0 0)), (10, .c (.p (.int .i64 p))), (132, .c (.p (.int .i64 m))), (133, .c (.p (.int .i64 i)))] (hG1 7 4 5 8 room first en o m L lc F c w W X (subY Y o P p i)) Q := by
  intro rem
  induction rem with
  | zero =>
    intro i hi
    obtain rfl : m = i := by omega
    refine M.round (M.go rfl ?_)
    refine M.cond rfl (fun hn => absurd hn (by omega)) (fun _ => ?_)
    refine M.ren [(0, 0), (1, 1), (2, 2), (3, 3), (4, 4), (5, 5), (6, 6), (7, 7)] ?_ trivial rfl (by repeat' (first | exact True.intro | refine evC rfl rfl Wk.rfl ?_ | refine evC (accV_ren rfl) rfl Wk.rfl ?_ | refine evC (accV_ren rfl) rfl Wk.acc0 ?_ | refine evC rfl rfl Wk.uncap ?_ | refine evC rfl rfl Wk.nil ?_)) (by repeat' (first | exact True.intro | refine hpC rfl rfl rfl ?_ | refine ⟨⟨_, _, _, rfl, rfl, rfl, @WkO.rfl _⟩, ?_⟩ | refine HeapOK.acc rfl rfl ?_)) (e' := []) (h' := (hG1 7 4 5 8 room first en o m L lc F c w W X (subY Y o P p m)))
    exact M.exit (M.go rfl (M.done hq))
  | succ rem ih =>
    intro i hi
    have ih' := ih (i + 1) (by omega)
    have hw2 : IntKind.i64.wrap ((i : Int) + 1) = ((i + 1 : Nat) : Int) := by rw [wr64 (by omega) (by omega)]; omega
    have hPi := hP i (by omega)
    have hget : (subY Y o P p i)[o + i]? = some (.int .i64 (P i : Nat)) := by rw [subY_hi Y o P p i i (Nat.le_refl _), hY i (by omega)]
    have hw3 : IntKind.i64.wrap ((P i : Int) - p) = (P i : Int) - p := wr64 (by omega) (by omega)
    refine M.round (M.go rfl ?_)
    refine M.cond rfl (fun _ => ?_) (fun hn => absurd (by omega) hn)
    refine M.go rfl ?_
    refine M.op trivial (SOp.ia1 rfl rfl (by omega)) ?_
    refine M.op trivial (SOp.ld1A rfl rfl hget rfl rfl rfl) ?_
    refine M.go rfl ?_
    rw [hw3]
    refine M.op trivial (SOp.ia1 rfl rfl (by omega)) ?_
    refine M.op trivial (SOp.stA rfl rfl rfl rfl (by rw [subY_len]; omega)) ?_
    refine M.go rfl ?_
    rw [hw2]
    exact M.again (XH.ren [(0, 0), (1, 1), (2, 2), (3, 3), (4, 4), (5, 5), (6, 6), (7, 7)] ih' rfl (by repeat' (first | exact True.intro | refine evC rfl rfl Wk.rfl ?_ | refine evC (accV_ren rfl) rfl Wk.rfl ?_ | refine evC (accV_ren rfl) rfl Wk.acc0 ?_ | refine evC rfl rfl Wk.uncap ?_ | refine evC rfl rfl Wk.nil ?_)) (by repeat' (first | exact True.intro | refine hpC rfl rfl rfl ?_ | refine ⟨⟨_, _, _, rfl, rfl, rfl, @WkO.rfl _⟩, ?_⟩ | refine HeapOK.acc rfl rfl ?_)))
theorem guntil0_0 (room first en : Int) (o : Nat) (L : FS) (lc : Nat) (F : FS) (c : Nat) (X Y : List PC) (n : Int) (hn : 1 ≤ n) : CallS Try.prog base 29 [.c (.ptr 0 0), .c (.p (.int .i64 n))] (hG0 4 5 6 room first en o 0 L lc F c X Y) (.c (.p (.int .i64 0))) (hG0 4 5 6 room first en o 0 L lc F c X Y) := by
  refine CallS.of noNG lWun.2 rfl (M.start (M.go rfl ?_))
  refine M.cond rfl (fun hh => absurd hh (by omega)) (fun _ => ?_)
  refine M.go rfl ?_
  refine M.dec rfl (fun _ => ?_) (fun hn => absurd (by simp) hn)
  refine M.go rfl ?_
  exact M.ret (M.go rfl (M.done (finQ.ret [(0, 0), (1, 1), (2, 2), (3, 3), (4, 4), (5, 5)] rfl rfl rfl (by first | exact Wk.rfl | exact Wk.uncap | exact Wk.nil | exact Wk.b1 rfl | exact Wk.t2 Wk.rfl (Wk.b1 rfl)) (by repeat' (first | exact True.intro | refine hpC rfl rfl rfl ?_ | refine ⟨⟨_, _, _, rfl, rfl, rfl, @WkO.rfl _⟩, ?_⟩ | refine HeapOK.acc rfl rfl ?_)))))
theorem guntil0_n (room first en : Int) (o m : Nat) (L : FS) (lc : Nat) (F : FS) (c : Nat) (X Y : List PC) (n : Int) (hn : 1 ≤ n ∧ n < first) : CallS Try.prog base 29 [.c (.ptr 0 0), .c (.p (.int .i64 n))] (hG0 4 5 6 room first en o (m + 1) L lc F c X Y) (.c (.p (.int .i64 0))) (hG0 4 5 6 room first en o (m + 1) L lc F c X Y) := by
  refine CallS.of noNG lWun.2 rfl (M.start (M.go rfl ?_))
  refine M.cond rfl (fun hh => absurd hh (by omega)) (fun _ => ?_)
  refine M.go rfl ?_
  refine M.dec rfl (fun hh => absurd hh (by omega)) (fun _ => ?_)
  refine M.go rfl ?_
  refine M.cond rfl (fun _ => ?_) (fun hn => absurd (by omega) hn)
  refine M.go rfl ?_
  exact M.ret (M.go rfl (M.done (finQ.ret [(0, 0), (1, 1), (2, 2), (3, 3), (4, 4), (5, 5)] rfl rfl rfl (by first | exact Wk.rfl | exact Wk.uncap | exact Wk.nil | exact Wk.b1 rfl | exact Wk.t2 Wk.rfl (Wk.b1 rfl)) (by repeat' (first | exact True.intro | refine hpC rfl rfl rfl ?_ | refine ⟨⟨_, _, _, rfl, rfl, rfl, @WkO.rfl _⟩, ?_⟩ | refine HeapOK.acc rfl rfl ?_)))))
theorem guntil0_a (room first en : Int) (o m : Nat) (L : FS) (lc : Nat) (F : FS) (c : Nat) (X Y : List PC) (n : Int) (hn : 1 ≤ n ∧ n ≤ 2000000000000000) (hm : m ≤ 100000) (hf1 : 1 ≤ first) (hf : 0 ≤ first ∧ first ≤ 2000000000000000) (hl : first + m ≤ n) (p : Nat) (z : Bool) (old : List Int) (oc : Option Nat) (hold : findP [119] F = some (fP z old oc)) (hp : p ≤ old.length) (hY : Y[o]? = some (.int .i64 (p : Nat))) :
    CallS Try.prog base 29 [.c (.ptr 0 0), .c (.p (.int .i64 n))] (hG0 4 5 6 room first en o (m + 1) L lc F c X Y) (.c (.p (.int .i64 0))) (hG1 6 4 5 7 room first ((p : Nat)) o 0 L lc (updP [119] (cutF z old p) c F) (updPC [119] (cutF z old p) c F) (chC p) ([]) X Y) := by
  refine CallS.of noNG lWun.2 rfl (M.start (M.go rfl ?_))
  refine M.cond rfl (fun hh => absurd hh (by omega)) (fun _ => ?_)
  refine M.go rfl ?_
  refine M.dec rfl (fun hh => absurd hh (by omega)) (fun _ => ?_)
  refine M.go rfl ?_
  refine M.cond rfl (fun hh => absurd hh (by omega)) (fun _ => ?_)
  refine M.go rfl ?_
  refine M.use trivial (glast0_1 room first en o m L lc F c X Y hm hf) [(0, 0), (1, 1), (2, 2), (3, 3), (4, 4), (5, 5)] rfl rfl rfl (by repeat' (first | exact True.intro | refine hpC rfl rfl rfl ?_ | refine ⟨⟨_, _, _, rfl, rfl, rfl, @WkO.rfl _⟩, ?_⟩ | refine HeapOK.acc rfl rfl ?_)) rfl rfl ?_
  refine M.go rfl ?_
  refine M.cond rfl (fun _ => ?_) (fun hn => absurd (by omega) hn)
  refine M.go rfl ?_
  refine M.use trivial (gfrom0_y room first en o m L lc F c X Y first ⟨hf1, hf.2⟩ hm hf (by omega) 0 p (by simp) z old oc hold hp hY) [(0, 0), (1, 1), (2, 2), (3, 3), (4, 4), (5, 5)] rfl rfl rfl (by repeat' (first | exact True.intro | refine hpC rfl rfl rfl ?_ | refine ⟨⟨_, _, _, rfl, rfl, rfl, @WkO.rfl _⟩, ?_⟩ | refine HeapOK.acc rfl rfl ?_)) rfl rfl ?_
  refine M.go rfl ?_
  exact M.ret (M.go rfl (M.done (finQ.ret [(0, 0), (1, 1), (2, 2), (3, 3), (4, 4), (5, 5), (6, 6)] rfl rfl rfl (by first | exact Wk.rfl | exact Wk.uncap | exact Wk.nil | exact Wk.b1 rfl | exact Wk.t2 Wk.rfl (Wk.b1 rfl)) (by repeat' (first | exact True.intro | refine hpC rfl rfl rfl ?_ | refine ⟨⟨_, _, _, rfl, rfl, rfl, @WkO.rfl _⟩, ?_⟩ | refine HeapOK.acc rfl rfl ?_)))))
theorem guntil0_y (room first en : Int) (o m : Nat) (L : FS) (lc : Nat) (F : FS) (c : Nat) (X Y : List PC) (n : Int) (hn : 1 ≤ n ∧ n ≤ 2000000000000000) (hm : m ≤ 100000) (hf1 : 1 ≤ first) (hf : 0 ≤ first ∧ first ≤ 2000000000000000) (k : Nat) (hk : n = first + k) (hkm : k < m) (P : Nat → Nat) (p q : Nat) (hen : en = (q : Nat)) (hP0 : P (k + 1) = p) (hpq : p ≤ q) (z : Bool) (old : List Int) (oc : Option Nat) (hold : findP [119] F = some (fP z old oc)) (hne : (old.drop p).take (q - p) ≠ []) (hq : q ≤ old.length) (hol : old.length ≤ 100000000)
    (hY : ∀ j, j ≤ m → Y[o + j]? = some (.int .i64 (P j : Nat))) (hP : ∀ j, k < j → j ≤ m → p ≤ P j ∧ P j ≤ 1000000000) (hl : o + (m + 1) ≤ Y.length) (hF : FOK F c) (hr : room ≤ 100000000000) (hroom : ((usedN F + (q - p) : Nat) : Int) ≤ room) (hfile : F.length < 64) (hfr : findP frN F = none) (F2 F3 : FS) (c2 c3 : Nat) (hF2 : updP frN (fP false ((old.drop p).take (q - p)) none) c F = F2) (hc2 : updPC frN (fP false ((old.drop p).take (q - p)) none) c F = c2) (hg2 : findP frN F2 = some (fP false ((old.drop p).take (q - p)) none)) (hF3 : updP [119] (fP false ((old.drop p).take (q - p)) none) c2 (delP frN F2) = F3) (hc3 : updPC [119] (fP false ((old.drop p).take (q - p)) none) c2 (delP frN F2) = c3) :
    CallS Try.prog base 29 [.c (.ptr 0 0), .c (.p (.int .i64 n))] (hG0 4 5 6 room first en o (m + 1) L lc F c X Y) (.c (.p (.int .i64 0))) (hG1 7 4 5 8 room (n + 1) ((q : Int) - p) (o + (k + 1)) (m - k) L lc F3 c3 ((chF (z && (u8P old).isEmpty) ((old.drop p).take (q - p)))) ([chM]) X (subY Y (o + (k + 1)) (fun j => P (k + 1 + j)) p (m - k))) := by
  have hl1 : (u8P old).length = old.length := u8P_len old
  have hnl : ((old.drop p).take (q - p)).length = q - p := by rw [List.length_take, List.length_drop]; omega
  have d1 : CallS Try.prog base 66 [.c (.mp 0), .agg ((chX 0 frN [] (fP (z && (u8P old).isEmpty) ((old.drop p).take (q - p)) none) 0).map XC.p), .c (.p (.int .i64 ((old.drop p).take (q - p)).length))] ⟨[(0, some (fM F c))], 1⟩ (.tup []) ⟨[(0, some (fM F2 c2))], 1⟩ := by
    have := do_app0 (base := base) F c frN [] 0 hfr (z && (u8P old).isEmpty) ((old.drop p).take (q - p)) none _ (Nat.le_refl _) (by omega)
    rw [List.take_length, apF, if_neg hne, List.nil_append, hF2, hc2] at this
    exact this
  have hYk := hY (k + 1) (by omega)
  rw [hP0] at hYk
  have hw1 : IntKind.i64.wrap (IntKind.i64.wrap (first + (k : Int) - first) + 1) = ((k + 1 : Nat) : Int) := by
    rw [show first + (k : Int) - first = (k : Int) by omega, wr64 (n := (k : Int)) (by omega) (by omega), wr64 (by omega) (by omega)]; omega
  have hw2 : IntKind.i64.wrap (first + (k : Int) + 1) = first + (k : Int) + 1 := wr64 (by omega) (by omega)
  have hw3 : IntKind.i64.wrap ((q : Int) - (p : Int)) = (q : Int) - p := wr64 (by omega) (by omega)
  subst hk
  subst hen
  refine CallS.of noNG lWun.2 rfl (M.start (M.go rfl ?_))
  refine M.cond rfl (fun hh => absurd hh (by omega)) (fun _ => ?_)
  refine M.go rfl ?_
  refine M.dec rfl (fun hh => absurd hh (by omega)) (fun _ => ?_)
  refine M.go rfl ?_
  refine M.cond rfl (fun hh => absurd hh (by omega)) (fun _ => ?_)
  refine M.go rfl ?_
  refine M.use trivial (glast0_1 room first (q : Nat) o m L lc F c X Y hm hf) [(0, 0), (1, 1), (2, 2), (3, 3), (4, 4), (5, 5)] rfl rfl rfl (by repeat' (first | exact True.intro | refine hpC rfl rfl rfl ?_ | refine ⟨⟨_, _, _, rfl, rfl, rfl, @WkO.rfl _⟩, ?_⟩ | refine HeapOK.acc rfl rfl ?_)) rfl rfl ?_
  refine M.go rfl ?_
  refine M.cond rfl (fun hh => absurd hh (by omega)) (fun _ => ?_)
  refine M.go rfl ?_
  rw [hw1]
  refine M.use trivial (read0_spec room L lc F c [119] z old oc hold (by omega)) [(0, 1), (1, 2), (2, 3)] rfl rfl rfl (by repeat' (first | exact True.intro | refine hpC rfl rfl rfl ?_ | refine ⟨⟨_, _, _, rfl, rfl, rfl, @WkO.rfl _⟩, ?_⟩ | refine HeapOK.acc rfl rfl ?_)) rfl rfl ?_
  refine M.go rfl ?_
  refine M.regD (MD.go rfl ?_)
  refine MD.op trivial (SOp.ia1 rfl rfl (by omega)) ?_
  refine MD.op trivial (SOp.ld1A rfl rfl hYk rfl rfl rfl) ?_
  refine MD.go rfl ?_
  refine MD.op trivial (SOp.sl (l := p) (r := q) rfl ⟨_, _, rfl, by omega, by omega⟩ ⟨_, _, rfl, by omega, by omega⟩ (by omega) (by rw [hl1]; omega)) ?_
  rw [u8P_drop, u8P_take]
  refine MD.go rfl ?_
  refine MD.use trivial (append0_spec room L lc F c frN (z && (u8P old).isEmpty) ((old.drop p).take (q - p)) none may_fr hF hr (by rw [hnl]; exact hroom) (.inr hfile) F2 c2 d1) [(0, 1), (1, 2), (2, 3)] rfl rfl rfl (by repeat' (first | exact True.intro | refine hpC rfl rfl rfl ?_ | refine ⟨⟨_, _, _, rfl, rfl, rfl, @WkO.rfl _⟩, ?_⟩ | refine HeapOK.acc rfl rfl ?_)) rfl rfl ?_
  refine MD.go rfl ?_
  refine MD.nil mixed (Fnl.nodup rfl) (M.go rfl ?_)
  refine M.condN rfl (fun hn => absurd rfl hn) (fun _ => ?_)
  refine M.go rfl ?_
  refine M.use trivial (move1_spec room L lc F2 c2 (chF (z && (u8P old).isEmpty) ((old.drop p).take (q - p))) [] (by simp) frN [119] may_w false ((old.drop p).take (q - p)) none hg2) [(0, 1), (1, 2), (2, 3), (3, 6)] rfl rfl rfl (by repeat' (first | exact True.intro | refine hpC rfl rfl rfl ?_ | refine ⟨⟨_, _, _, rfl, rfl, rfl, @WkO.rfl _⟩, ?_⟩ | refine HeapOK.acc rfl rfl ?_)) rfl rfl ?_
  rw [hF3, hc3]
  refine M.go rfl ?_
  refine M.condN rfl (fun hn => absurd rfl hn) (fun _ => ?_)
  refine M.go rfl ?_
  refine M.op trivial (SOp.ia1 rfl rfl (by omega)) ?_
  refine M.op trivial (SOp.ld1A rfl rfl hYk rfl rfl rfl) ?_
  refine M.go rfl ?_
  refine M.regF (MF.go rfl ?_)
  refine MF.op trivial (SOp.sl1 (l := k + 1) (r := m + 1) rfl ⟨_, _, rfl, by omega, by omega⟩ rfl (by omega) (by omega)) ?_
  refine MF.go rfl ?_
  refine MF.op trivial (SOp.sl1 (l := k + 1) (r := m + 1) rfl ⟨_, _, rfl, by omega, by omega⟩ rfl (by omega) (by omega)) ?_
  refine MF.go rfl ?_
  refine MF.nil mixed (Fnl.nodup rfl) rfl ⟨⟨SOp.sl1 (l := k + 1) (r := m + 1) rfl ⟨_, _, rfl, by omega, by omega⟩ rfl (by omega) (by omega), trivial⟩, ⟨SOp.sl1 (l := k + 1) (r := m + 1) rfl ⟨_, _, rfl, by omega, by omega⟩ rfl (by omega) (by omega), SOp.sl1 (l := k + 1) (r := m + 1) rfl ⟨_, _, rfl, by omega, by omega⟩ rfl (by omega) (by omega), trivial⟩, trivial⟩ (M.go rfl ?_)
  rw [hw2, hw3, show m + 1 - (k + 1) = m - k by omega]
  refine M.loop (XH.ren [(0, 0), (1, 1), (2, 2), (3, 3), (4, 4), (5, 5), (6, 6), (7, 7)] (until_loop0 room (first + (k : Int) + 1) ((q : Int) - p) (o + (k + 1)) (m - k) L lc F3 c3 (chF (z && (u8P old).isEmpty) ((old.drop p).take (q - p))) [chM] X Y (fun j => P (k + 1 + j)) p (by omega) (fun j hj => by rw [Nat.add_assoc]; exact hY (k + 1 + j) (by omega)) (fun j hj => hP (k + 1 + j) (by omega) (by omega)) (by omega) _ ?_ (m - k) 0 (by omega)) rfl (by repeat' (first | exact True.intro | refine evC rfl rfl Wk.rfl ?_ | refine evC (accV_ren rfl) rfl Wk.rfl ?_ | refine evC (accV_ren rfl) rfl Wk.acc0 ?_ | refine evC rfl rfl Wk.uncap ?_ | refine evC rfl rfl Wk.nil ?_)) (by repeat' (first | exact True.intro | refine hpC rfl rfl rfl ?_ | refine ⟨⟨_, _, _, rfl, rfl, rfl, @WkO.rfl _⟩, ?_⟩ | refine HeapOK.acc rfl rfl ?_)))
  refine M.q (M.go rfl ?_)
  exact M.ret (M.go rfl (M.done (finQ.ret [(0, 0), (1, 1), (2, 2), (3, 3), (4, 4), (5, 5), (6, 6), (7, 7)] rfl rfl rfl (by first | exact Wk.rfl | exact Wk.uncap | exact Wk.nil | exact Wk.b1 rfl | exact Wk.t2 Wk.rfl (Wk.b1 rfl)) (by repeat' (first | exact True.intro | refine hpC rfl rfl rfl ?_ | refine ⟨⟨_, _, _, rfl, rfl, rfl, @WkO.rfl _⟩, ?_⟩ | refine HeapOK.acc rfl rfl ?_)))))
end Go.Proofs.Ytjlfojgacnphmaa

namespace Go.Proofs.Ytjlfojgacnphmaa.Sym
open Go Go.RowKit Go.Proofs.Ytjlfojgacnphmaa.Sim
set_option linter.unusedVariables false
section
variable {P : Program} {base n k : Nat} {e : Env} {h : HS} {Q : QX} {K : List Fr}
def shP {ι : Type} (base n k : Nat) (E : ι → Env) (H : ι → HS) (Φ : ι → Prop) : QX := fun x e h => x = .normal ∧ ∃ i, Φ i ∧ Sh base n k e h (E i) (H i)
theorem M.midP {ι : Type} {c : LC} (E : ι → Env) (H : ι → HS) (Φ : ι → Prop) (hx : M P base n k (.code c) [] e h (shP base n k E H Φ)) (hq : ∀ i, Φ i → M P base n k (.out .normal) K (E i) (H i) Q) : M P base n k (.code c) K e h Q := ⟨⟨fun code hl φ a w ht hr =>
  wp_mono (hx.run.run code hl φ a w ht hr) fun ex a' w' ⟨x, e2, h2, φ', ⟨p0, i, pi, p1⟩, p2, p5, p6, p7, p8⟩ => by
    subst p0
    obtain ⟨ψ, g1, g2, g3⟩ := p1 φ' a' w' p5 p7
    exact ⟨.normal, E i, H i, ψ, (hq i pi).run, p2, g1, p6, g2, p8.trans g3⟩⟩⟩
end
end Go.Proofs.Ytjlfojgacnphmaa.Sym
namespace Go.Proofs.Ytjlfojgacnphmaa
open Go.RowKit Sim Go Sym
set_option maxRecDepth 100000
set_option linter.unusedVariables false
set_option linter.unusedSimpArgs false
variable {base : Nat}
theorem flatR_split : ∀ (R : List (List Int)) (f : Int) (j : Nat), flatR f R = flatR f (R.take j) ++ flatR (f + (min j R.length : Nat)) (R.drop j)
  | R, f, 0 => by simp [flatR]
  | [], f, j + 1 => by simp [flatR]
  | b :: R, f, j + 1 => by
    have := flatR_split R (f + 1) j
    rw [List.take_succ_cons, List.drop_succ_cons, flatR, flatR, this, List.append_assoc, List.length_cons, show f + 1 + ((min j R.length : Nat) : Int) = f + ((min (j + 1) (R.length + 1) : Nat) : Int) by omega]
theorem flatR_take (R : List (List Int)) (f : Int) (j : Nat) : (flatR f R).take (flatR f (R.take j)).length = flatR f (R.take j) := by
  conv => lhs; rw [flatR_split R f j]
  rw [List.take_left' rfl]
theorem flatR_drop (R : List (List Int)) (f : Int) (j : Nat) (h : j ≤ R.length) : (flatR f R).drop (flatR f (R.take j)).length = flatR (f + j) (R.drop j) := by
  conv => lhs; rw [flatR_split R f j]
  rw [List.drop_left' rfl, show min j R.length = j by omega]
theorem flatR_le (R : List (List Int)) (f : Int) (j : Nat) : (flatR f (R.take j)).length ≤ (flatR f R).length := by
  rw [flatR_split R f j, List.length_append]; omega
theorem flatR_mono (R : List (List Int)) (f : Int) {i j : Nat} (h : i ≤ j) : (flatR f (R.take i)).length ≤ (flatR f (R.take j)).length := by
  have := flatR_le (R.take j) f i
  rwa [List.take_take, show min i j = i by omega] at this
theorem posR_at : ∀ (R : List (List Int)) (E f : Int) (j : Nat), j < R.length → (posR E f R)[j]? = some (.int .i64 (E + (flatR f (R.take j)).length))
  | b :: R, E, f, 0, _ => by simp [posR, flatR]
  | b :: R, E, f, j + 1, h => by
    rw [posR, List.getElem?_cons_succ, posR_at R _ _ j (by simpa using h), List.take_succ_cons, flatR, List.length_append]
    rw [show E + ((sealB (recB f b)).length : Int) + ((flatR (f + 1) (R.take j)).length : Int) = E + (((sealB (recB f b)).length + (flatR (f + 1) (R.take j)).length : Nat) : Int) by omega]
theorem RecOK.take {f : Int} {R : List (List Int)} (h : RecOK f R) (j : Nat) : RecOK f (R.take j) := ⟨⟨h.f.1, by have := h.f.2; rw [List.length_take]; omega⟩, by have := h.l; rw [List.length_take]; omega, fun b hb => h.b b (List.mem_of_mem_take hb)⟩
theorem RecOK.drop {f : Int} {R : List (List Int)} (h : RecOK f R) (j : Nat) (hj : j ≤ R.length) : RecOK (f + j) (R.drop j) := ⟨⟨by have := h.f.1; omega, by have := h.f.2; rw [List.length_drop]; omega⟩, by have := h.l; rw [List.length_drop]; omega, fun b hb => h.b b (List.mem_of_mem_drop hb)⟩
theorem flatR_pos {f : Int} {b : List Int} {R : List (List Int)} (h : RecOK f (b :: R)) : 0 < (flatR f (b :: R)).length := by
  have h1 := h.b b (by simp)
  have h2 := recB_len (n := f) (b := b) h.f.1 (by have := h.f.2; simp only [List.length_cons] at this; omega) h1.2
  have := seal_len (xs := recB f b) (by omega)
  rw [flatR, List.length_append]; omega
theorem rcsP_at (R : List (List Int)) (j : Nat) (b : List Int) (h : R[j]? = some b) : (rcsP R)[j]? = some (fP false b none) := by rw [rcsP, List.getElem?_map, h]; rfl
theorem rcsP_len (R : List (List Int)) : (rcsP R).length = R.length := by simp [rcsP]
theorem first00_spec (room first en : Int) (L : FS) (lc : Nat) (F : FS) (c : Nat) : CallS Try.prog base 31 [.c (.ptr 0 0)] (hL00 room first en L lc F c) (.c (.p (.int .i64 0))) (hL00 room first en L lc F c) := by
  refine CallS.of noNG lWfi.2 rfl (M.start (M.go rfl ?_))
  refine M.cond rfl (fun _ => ?_) (fun hn => absurd (by simp) hn)
  refine M.go rfl ?_
  exact M.ret (M.go rfl (M.done (finQ.ret [(0, 0), (1, 1), (2, 2), (3, 3)] rfl rfl rfl (by first | exact Wk.rfl | exact Wk.uncap | exact Wk.nil | exact Wk.b1 rfl | exact Wk.t2 Wk.rfl (Wk.b1 rfl)) (by repeat' (first | exact True.intro | refine hpC rfl rfl rfl ?_ | refine ⟨⟨_, _, _, rfl, rfl, rfl, @WkO.rfl _⟩, ?_⟩ | refine HeapOK.acc rfl rfl ?_)))))
theorem get00_spec (room first en : Int) (L : FS) (lc : Nat) (F : FS) (c : Nat) (n : Int) : CallS Try.prog base 26 [.c (.ptr 0 0), .c (.p (.int .i64 n))] (hL00 room first en L lc F c) (.tup [.c (.p (.tz true 0 [] none)), .c (.p (.bool false))]) (hL00 room first en L lc F c) := by
  refine CallS.of noNG lWge.2 rfl (M.start (M.go rfl ?_))
  refine M.use trivial (first00_spec room first en L lc F c) [(0, 0), (1, 1), (2, 2), (3, 3)] rfl rfl rfl (by repeat' (first | exact True.intro | refine hpC rfl rfl rfl ?_ | refine ⟨⟨_, _, _, rfl, rfl, rfl, @WkO.rfl _⟩, ?_⟩ | refine HeapOK.acc rfl rfl ?_)) rfl rfl ?_
  refine M.go rfl ?_
  refine M.dec rfl (fun _ => ?_) (fun hn => absurd (by decide) hn)
  refine M.go rfl ?_
  exact M.ret (M.go rfl (M.done (finQ.ret [(0, 0), (1, 1), (2, 2), (3, 3)] rfl rfl rfl (Wk.of rfl) (by repeat' (first | exact True.intro | refine hpC rfl rfl rfl ?_ | refine ⟨⟨_, _, _, rfl, rfl, rfl, @WkO.rfl _⟩, ?_⟩ | refine HeapOK.acc rfl rfl ?_)))))
theorem first10_spec (room first en : Int) (L : FS) (lc : Nat) (F : FS) (c : Nat) (w : PC) (W : List PC) : CallS Try.prog base 31 [.c (.ptr 0 0)] (hL10 4 room first en L lc F c w W) (.c (.p (.int .i64 0))) (hL10 4 room first en L lc F c w W) := by
  refine CallS.of noNG lWfi.2 rfl (M.start (M.go rfl ?_))
  refine M.cond rfl (fun _ => ?_) (fun hn => absurd (by simp) hn)
  refine M.go rfl ?_
  exact M.ret (M.go rfl (M.done (finQ.ret [(0, 0), (1, 1), (2, 2), (3, 3), (4, 4)] rfl rfl rfl (by first | exact Wk.rfl | exact Wk.uncap | exact Wk.nil | exact Wk.b1 rfl | exact Wk.t2 Wk.rfl (Wk.b1 rfl)) (by repeat' (first | exact True.intro | refine hpC rfl rfl rfl ?_ | refine ⟨⟨_, _, _, rfl, rfl, rfl, @WkO.rfl _⟩, ?_⟩ | refine HeapOK.acc rfl rfl ?_)))))
theorem get10_spec (room first en : Int) (L : FS) (lc : Nat) (F : FS) (c : Nat) (w : PC) (W : List PC) (n : Int) : CallS Try.prog base 26 [.c (.ptr 0 0), .c (.p (.int .i64 n))] (hL10 4 room first en L lc F c w W) (.tup [.c (.p (.tz true 0 [] none)), .c (.p (.bool false))]) (hL10 4 room first en L lc F c w W) := by
  refine CallS.of noNG lWge.2 rfl (M.start (M.go rfl ?_))
  refine M.use trivial (first10_spec room first en L lc F c w W) [(0, 0), (1, 1), (2, 2), (3, 3), (4, 4)] rfl rfl rfl (by repeat' (first | exact True.intro | refine hpC rfl rfl rfl ?_ | refine ⟨⟨_, _, _, rfl, rfl, rfl, @WkO.rfl _⟩, ?_⟩ | refine HeapOK.acc rfl rfl ?_)) rfl rfl ?_
  refine M.go rfl ?_
  refine M.dec rfl (fun _ => ?_) (fun hn => absurd (by decide) hn)
  refine M.go rfl ?_
  exact M.ret (M.go rfl (M.done (finQ.ret [(0, 0), (1, 1), (2, 2), (3, 3), (4, 4)] rfl rfl rfl (Wk.of rfl) (by repeat' (first | exact True.intro | refine hpC rfl rfl rfl ?_ | refine ⟨⟨_, _, _, rfl, rfl, rfl, @WkO.rfl _⟩, ?_⟩ | refine HeapOK.acc rfl rfl ?_)))))
end Go.Proofs.Ytjlfojgacnphmaa

namespace Go.Proofs.Ytjlfojgacnphmaa
open Go.RowKit Sim Go Sym
set_option maxRecDepth 100000
set_option linter.unusedVariables false
set_option linter.unusedSimpArgs false
variable {base : Nat}
def hLs0 (room first en : Int) (F : FS) (c : Nat) : HS := ⟨[(4, some (fM F c)), (3, some (fM F c)), (1, some (.row [.p (.int .i64 room), .mp 4, .mp 3, .p (.tz true 5 [] none)] true)), (0, some (.row [.ptr 1 0, .p (.int .i64 first), .p (.tz true 1 [] none), .p (.tz true 1 [] none), .p (.int .i64 en)] true))], 5⟩
theorem wsync00_spec (room first en : Int) (L : FS) (lc : Nat) (F : FS) (c : Nat) : CallS Try.prog base 22 [.c (.ptr 0 0)] (hL00 room first en L lc F c) (.tup []) (hLs0 room first en F c) := by
  refine CallS.of noNG lWsy.2 rfl (M.start (M.go rfl ?_))
  refine M.use trivial (sync0_spec room L lc F c) [(0, 1), (1, 2), (2, 3)] rfl rfl rfl (by repeat' (first | exact True.intro | refine hpC rfl rfl rfl ?_ | refine ⟨⟨_, _, _, rfl, rfl, rfl, @WkO.rfl _⟩, ?_⟩ | refine HeapOK.acc rfl rfl ?_)) rfl rfl ?_
  refine M.go rfl ?_
  exact M.done (finQ.normal [(0, 0), (1, 1), (2, 2), (3, 3), (4, 4)] rfl rfl rfl Wk.rfl (by repeat' (first | exact True.intro | refine hpC rfl rfl rfl ?_ | refine ⟨⟨_, _, _, rfl, rfl, rfl, @WkO.rfl _⟩, ?_⟩ | refine HeapOK.acc rfl rfl ?_)))
def slS (s n : Nat) : List Int := sealB (recB n (zs s))
end Go.Proofs.Ytjlfojgacnphmaa

namespace Go.Proofs.Ytjlfojgacnphmaa
open Go.RowKit Sim Go Sym
set_option maxRecDepth 100000
set_option linter.unusedVariables false
set_option linter.unusedSimpArgs false
variable {base : Nat}
inductive LG where
  | no
  | nil
  | own (o m : Nat) (X Y : List PC)
structure WS where
  room : Int
  first : Int
  en : Int
  L : FS
  lc : Nat
  F : FS
  c : Nat
  dk : Option (PC × List PC)
  lg : LG
def WS.mem : WS → HS
  | ⟨room, first, en, L, lc, F, c, none, .no⟩ => ⟨[(4, some (fM F c)), (3, some (fM L lc)), (0, some (.row [.p (.int .i64 room), .mp 3, .mp 4, .p (.tz true 5 [] none)] true))], 8⟩
  | ⟨room, first, en, L, lc, F, c, some (w, W), .no⟩ => ⟨[(5, some (.els 5 (w :: W))), (4, some (fM F c)), (3, some (fM L lc)), (0, some (.row [.p (.int .i64 room), .mp 3, .mp 4, .acc 5 5 (w :: W)] true))], 8⟩
  | ⟨room, first, en, L, lc, F, c, none, .nil⟩ => ⟨[(4, some (fM F c)), (3, some (fM L lc)), (2, some (.row [.ptr 0 0, .p (.int .i64 first), .p (.tz true 1 [] none), .p (.tz true 1 [] none), .p (.int .i64 en)] true)), (0, some (.row [.p (.int .i64 room), .mp 3, .mp 4, .p (.tz true 5 [] none)] true))], 8⟩
  | ⟨room, first, en, L, lc, F, c, some (w, W), .nil⟩ => ⟨[(5, some (.els 5 (w :: W))), (4, some (fM F c)), (3, some (fM L lc)), (2, some (.row [.ptr 0 0, .p (.int .i64 first), .p (.tz true 1 [] none), .p (.tz true 1 [] none), .p (.int .i64 en)] true)), (0, some (.row [.p (.int .i64 room), .mp 3, .mp 4, .acc 5 5 (w :: W)] true))], 8⟩
  | ⟨room, first, en, L, lc, F, c, none, .own o m X Y⟩ => ⟨[(7, some (.els 1 Y)), (6, some (.els 1 X)), (4, some (fM F c)), (3, some (fM L lc)), (2, some (.row [.ptr 0 0, .p (.int .i64 first), .sl 6 o m 1 none, .sl 7 o m 1 none, .p (.int .i64 en)] true)), (0, some (.row [.p (.int .i64 room), .mp 3, .mp 4, .p (.tz true 5 [] none)] true))], 8⟩
  | ⟨room, first, en, L, lc, F, c, some (w, W), .own o m X Y⟩ => ⟨[(7, some (.els 1 Y)), (6, some (.els 1 X)), (5, some (.els 5 (w :: W))), (4, some (fM F c)), (3, some (fM L lc)), (2, some (.row [.ptr 0 0, .p (.int .i64 first), .sl 6 o m 1 none, .sl 7 o m 1 none, .p (.int .i64 en)] true)), (0, some (.row [.p (.int .i64 room), .mp 3, .mp 4, .acc 5 5 (w :: W)] true))], 8⟩
def wFam : Fam := ⟨WS, WS.mem, 8, fun b => Nat.beq b 1⟩
theorem wOK : wFam.OK := by
  refine ⟨?_, ?_, ?_⟩
  all_goals rintro ⟨room, first, en, L, lc, F, c, _ | ⟨w, W⟩, _ | _ | ⟨o, m, X, Y⟩⟩
  all_goals first
    | rfl
    | (repeat' (first | exact True.intro | refine ⟨⟨rfl, rfl⟩, ?_⟩))
abbrev CW (base : Nat) := CallR Try.prog base wFam 3
def wt (p : PC) : Option (PC × List PC) → Option (PC × List PC)
  | none => some (p, [])
  | some (w, W) => some (w, W ++ [p])
def wtN : Option (PC × List PC) → Nat
  | none => 0
  | some (_, W) => W.length + 1
def LGok (f : Int) (R : List (List Int)) : LG → Prop
  | .no => False
  | .nil => R = []
  | .own o m X Y => m = R.length ∧ o + m ≤ X.length ∧ Y.length = X.length ∧ (∀ j b, R[j]? = some b → ∃ z, X[o + j]? = some (fP z b none)) ∧ (∀ j, j < m → Y[o + j]? = some (.int .i64 ((flatR f (R.take j)).length : Nat)))
def Fok (B : List Int) (F : FS) (c : Nat) : Prop := (B = [] ∧ F = [] ∧ c = 0) ∨ ((∃ z cp, F = f1 [119] (fP z B cp)) ∧ 1 ≤ c)
structure WInv (s : WS) (f : Int) (R : List (List Int)) : Prop where
  ok : R ≠ [] → RecOK f R
  room : s.room = mB
  en : s.en = ((flatR f R).length : Nat)
  lg : LGok f R s.lg
  first : R ≠ [] → s.first = f
  file : Fok (flatR f R) s.F s.c
  sz : (flatR f R).length ≤ 400000
def lastI (f : Int) (R : List (List Int)) : Int := if R = [] then 0 else f + R.length - 1
theorem lastI_ne {f : Int} {R : List (List Int)} (h : R ≠ []) : lastI f R = f + R.length - 1 := if_neg h
theorem lastI_nil (f : Int) : lastI f [] = 0 := rfl
theorem RecOK.len {f : Int} {R : List (List Int)} (h : RecOK f R) : 1 ≤ f ∧ f + R.length ≤ 1200000000000000 ∧ R.length ≤ 10000 := ⟨h.f.1, h.f.2, h.l⟩
theorem W_last {s : WS} {f : Int} {R : List (List Int)} (hi : WInv s f R) : CW base 24 [.c (.ptr 2 0)] s (fun r s' => r = .c (.p (.int .i64 (lastI f R))) ∧ s' = s) := by
  obtain ⟨room, first, en, L, lc, F, c, _ | ⟨w, W⟩, _ | _ | ⟨o, m, X, Y⟩⟩ := s
  · exact hi.lg.elim
  · obtain rfl : R = [] := hi.lg
    exact CallR.leaf (last00_spec room first en L lc F c) [(0, 2), (1, 0), (2, 3), (3, 4)] rfl rfl (by repeat' (first | exact True.intro | refine hpC rfl rfl rfl ?_ | refine ⟨⟨_, _, _, rfl, rfl, rfl, @WkO.rfl _⟩, ?_⟩ | refine HeapOK.acc rfl rfl ?_)) rfl rfl (_) (_) [(0, 0), (1, 1), (2, 2), (3, 3), (4, 4), (5, 5), (6, 6), (7, 7)] rfl rfl Wk.rfl (by repeat' (first | exact True.intro | refine hpC rfl rfl rfl ?_ | refine ⟨⟨_, _, _, rfl, rfl, rfl, @WkO.rfl _⟩, ?_⟩ | refine HeapOK.acc rfl rfl ?_)) ⟨rfl, rfl⟩
  · have h := hi.lg
    obtain ⟨rfl, hX, hXY, hXr, hYr⟩ := h
    cases hR : R with
    | nil =>
      subst hR
      exact CallR.leaf (glast0_0 room first en o L lc F c X Y) [(0, 2), (1, 0), (2, 3), (3, 4), (4, 6), (5, 7)] rfl rfl (by repeat' (first | exact True.intro | refine hpC rfl rfl rfl ?_ | refine ⟨⟨_, _, _, rfl, rfl, rfl, @WkO.rfl _⟩, ?_⟩ | refine HeapOK.acc rfl rfl ?_)) rfl rfl (_) (_) [(0, 0), (1, 1), (2, 2), (3, 3), (4, 4), (5, 5), (6, 6), (7, 7)] rfl rfl Wk.rfl (by repeat' (first | exact True.intro | refine hpC rfl rfl rfl ?_ | refine ⟨⟨_, _, _, rfl, rfl, rfl, @WkO.rfl _⟩, ?_⟩ | refine HeapOK.acc rfl rfl ?_)) ⟨rfl, rfl⟩
    | cons b T =>
      have hne : R ≠ [] := by rw [hR]; simp
      obtain ⟨g1, g2, g3⟩ := (hi.ok hne).len
      have hf := hi.first hne
      rw [hR] at g2 g3 hX hXr hYr
      simp at g2 g3 hf hX
      subst hf
      refine CallR.leaf (glast0_1 room first en o T.length L lc F c X Y (by omega) ⟨by omega, by omega⟩) [(0, 2), (1, 0), (2, 3), (3, 4), (4, 6), (5, 7)] rfl rfl (by repeat' (first | exact True.intro | refine hpC rfl rfl rfl ?_ | refine ⟨⟨_, _, _, rfl, rfl, rfl, @WkO.rfl _⟩, ?_⟩ | refine HeapOK.acc rfl rfl ?_)) rfl rfl (.c (.p (.int .i64 (first + (T.length : Nat))))) (_) [(0, 0), (1, 1), (2, 2), (3, 3), (4, 4), (5, 5), (6, 6), (7, 7)] rfl rfl Wk.rfl (by repeat' (first | exact True.intro | refine hpC rfl rfl rfl ?_ | refine ⟨⟨_, _, _, rfl, rfl, rfl, @WkO.rfl _⟩, ?_⟩ | refine HeapOK.acc rfl rfl ?_)) ⟨?_, rfl⟩
      rw [lastI_ne (by simp)]
      simp
      omega
  · exact hi.lg.elim
  · obtain rfl : R = [] := hi.lg
    exact CallR.leaf (last10_spec room first en L lc F c w W) [(0, 2), (1, 0), (2, 3), (3, 4), (4, 5)] rfl rfl (by repeat' (first | exact True.intro | refine hpC rfl rfl rfl ?_ | refine ⟨⟨_, _, _, rfl, rfl, rfl, @WkO.rfl _⟩, ?_⟩ | refine HeapOK.acc rfl rfl ?_)) rfl rfl (_) (_) [(0, 0), (1, 1), (2, 2), (3, 3), (4, 4), (5, 5), (6, 6), (7, 7)] rfl rfl Wk.rfl (by repeat' (first | exact True.intro | refine hpC rfl rfl rfl ?_ | refine ⟨⟨_, _, _, rfl, rfl, rfl, @WkO.rfl _⟩, ?_⟩ | refine HeapOK.acc rfl rfl ?_)) ⟨rfl, rfl⟩
  · have h := hi.lg
    obtain ⟨rfl, hX, hXY, hXr, hYr⟩ := h
    cases hR : R with
    | nil =>
      subst hR
      exact CallR.leaf (glast1_0 room first en o L lc F c w W X Y) [(0, 2), (1, 0), (2, 3), (3, 4), (4, 5), (5, 6), (6, 7)] rfl rfl (by repeat' (first | exact True.intro | refine hpC rfl rfl rfl ?_ | refine ⟨⟨_, _, _, rfl, rfl, rfl, @WkO.rfl _⟩, ?_⟩ | refine HeapOK.acc rfl rfl ?_)) rfl rfl (_) (_) [(0, 0), (1, 1), (2, 2), (3, 3), (4, 4), (5, 5), (6, 6), (7, 7)] rfl rfl Wk.rfl (by repeat' (first | exact True.intro | refine hpC rfl rfl rfl ?_ | refine ⟨⟨_, _, _, rfl, rfl, rfl, @WkO.rfl _⟩, ?_⟩ | refine HeapOK.acc rfl rfl ?_)) ⟨rfl, rfl⟩
    | cons b T =>
      have hne : R ≠ [] := by rw [hR]; simp
      obtain ⟨g1, g2, g3⟩ := (hi.ok hne).len
      have hf := hi.first hne
      rw [hR] at g2 g3 hX hXr hYr
      simp at g2 g3 hf hX
      subst hf
      refine CallR.leaf (glast1_1 room first en o T.length L lc F c w W X Y (by omega) ⟨by omega, by omega⟩) [(0, 2), (1, 0), (2, 3), (3, 4), (4, 5), (5, 6), (6, 7)] rfl rfl (by repeat' (first | exact True.intro | refine hpC rfl rfl rfl ?_ | refine ⟨⟨_, _, _, rfl, rfl, rfl, @WkO.rfl _⟩, ?_⟩ | refine HeapOK.acc rfl rfl ?_)) rfl rfl (.c (.p (.int .i64 (first + (T.length : Nat))))) (_) [(0, 0), (1, 1), (2, 2), (3, 3), (4, 4), (5, 5), (6, 6), (7, 7)] rfl rfl Wk.rfl (by repeat' (first | exact True.intro | refine hpC rfl rfl rfl ?_ | refine ⟨⟨_, _, _, rfl, rfl, rfl, @WkO.rfl _⟩, ?_⟩ | refine HeapOK.acc rfl rfl ?_)) ⟨?_, rfl⟩
      rw [lastI_ne (by simp)]
      simp
      omega
theorem W_first {s : WS} {f : Int} {R : List (List Int)} (hi : WInv s f R) : CW base 31 [.c (.ptr 2 0)] s (fun r s' => r = .c (.p (.int .i64 (if R = [] then 0 else f))) ∧ s' = s) := by
  obtain ⟨room, first, en, L, lc, F, c, _ | ⟨w, W⟩, _ | _ | ⟨o, m, X, Y⟩⟩ := s
  · exact hi.lg.elim
  · obtain rfl : R = [] := hi.lg
    exact CallR.leaf (first00_spec room first en L lc F c) [(0, 2), (1, 0), (2, 3), (3, 4)] rfl rfl (by repeat' (first | exact True.intro | refine hpC rfl rfl rfl ?_ | refine ⟨⟨_, _, _, rfl, rfl, rfl, @WkO.rfl _⟩, ?_⟩ | refine HeapOK.acc rfl rfl ?_)) rfl rfl (_) (_) [(0, 0), (1, 1), (2, 2), (3, 3), (4, 4), (5, 5), (6, 6), (7, 7)] rfl rfl Wk.rfl (by repeat' (first | exact True.intro | refine hpC rfl rfl rfl ?_ | refine ⟨⟨_, _, _, rfl, rfl, rfl, @WkO.rfl _⟩, ?_⟩ | refine HeapOK.acc rfl rfl ?_)) ⟨rfl, rfl⟩
  · have h := hi.lg
    obtain ⟨rfl, hX, hXY, hXr, hYr⟩ := h
    cases hR : R with
    | nil =>
      subst hR
      exact CallR.leaf (gfirst0_0 room first en o L lc F c X Y) [(0, 2), (1, 0), (2, 3), (3, 4), (4, 6), (5, 7)] rfl rfl (by repeat' (first | exact True.intro | refine hpC rfl rfl rfl ?_ | refine ⟨⟨_, _, _, rfl, rfl, rfl, @WkO.rfl _⟩, ?_⟩ | refine HeapOK.acc rfl rfl ?_)) rfl rfl (_) (_) [(0, 0), (1, 1), (2, 2), (3, 3), (4, 4), (5, 5), (6, 6), (7, 7)] rfl rfl Wk.rfl (by repeat' (first | exact True.intro | refine hpC rfl rfl rfl ?_ | refine ⟨⟨_, _, _, rfl, rfl, rfl, @WkO.rfl _⟩, ?_⟩ | refine HeapOK.acc rfl rfl ?_)) ⟨rfl, rfl⟩
    | cons b T =>
      have hne : R ≠ [] := by rw [hR]; simp
      obtain ⟨g1, g2, g3⟩ := (hi.ok hne).len
      have hf := hi.first hne
      rw [hR] at g2 g3 hX hXr hYr
      simp at g2 g3 hf hX
      subst hf
      exact CallR.leaf (gfirst0_1 room first en o T.length L lc F c X Y) [(0, 2), (1, 0), (2, 3), (3, 4), (4, 6), (5, 7)] rfl rfl (by repeat' (first | exact True.intro | refine hpC rfl rfl rfl ?_ | refine ⟨⟨_, _, _, rfl, rfl, rfl, @WkO.rfl _⟩, ?_⟩ | refine HeapOK.acc rfl rfl ?_)) rfl rfl (.c (.p (.int .i64 first))) (_) [(0, 0), (1, 1), (2, 2), (3, 3), (4, 4), (5, 5), (6, 6), (7, 7)] rfl rfl Wk.rfl (by repeat' (first | exact True.intro | refine hpC rfl rfl rfl ?_ | refine ⟨⟨_, _, _, rfl, rfl, rfl, @WkO.rfl _⟩, ?_⟩ | refine HeapOK.acc rfl rfl ?_)) ⟨by rw [if_neg (by simp)], rfl⟩
  · exact hi.lg.elim
  · obtain rfl : R = [] := hi.lg
    exact CallR.leaf (first10_spec room first en L lc F c w W) [(0, 2), (1, 0), (2, 3), (3, 4), (4, 5)] rfl rfl (by repeat' (first | exact True.intro | refine hpC rfl rfl rfl ?_ | refine ⟨⟨_, _, _, rfl, rfl, rfl, @WkO.rfl _⟩, ?_⟩ | refine HeapOK.acc rfl rfl ?_)) rfl rfl (_) (_) [(0, 0), (1, 1), (2, 2), (3, 3), (4, 4), (5, 5), (6, 6), (7, 7)] rfl rfl Wk.rfl (by repeat' (first | exact True.intro | refine hpC rfl rfl rfl ?_ | refine ⟨⟨_, _, _, rfl, rfl, rfl, @WkO.rfl _⟩, ?_⟩ | refine HeapOK.acc rfl rfl ?_)) ⟨rfl, rfl⟩
  · have h := hi.lg
    obtain ⟨rfl, hX, hXY, hXr, hYr⟩ := h
    cases hR : R with
    | nil =>
      subst hR
      exact CallR.leaf (gfirst1_0 room first en o L lc F c w W X Y) [(0, 2), (1, 0), (2, 3), (3, 4), (4, 5), (5, 6), (6, 7)] rfl rfl (by repeat' (first | exact True.intro | refine hpC rfl rfl rfl ?_ | refine ⟨⟨_, _, _, rfl, rfl, rfl, @WkO.rfl _⟩, ?_⟩ | refine HeapOK.acc rfl rfl ?_)) rfl rfl (_) (_) [(0, 0), (1, 1), (2, 2), (3, 3), (4, 4), (5, 5), (6, 6), (7, 7)] rfl rfl Wk.rfl (by repeat' (first | exact True.intro | refine hpC rfl rfl rfl ?_ | refine ⟨⟨_, _, _, rfl, rfl, rfl, @WkO.rfl _⟩, ?_⟩ | refine HeapOK.acc rfl rfl ?_)) ⟨rfl, rfl⟩
    | cons b T =>
      have hne : R ≠ [] := by rw [hR]; simp
      obtain ⟨g1, g2, g3⟩ := (hi.ok hne).len
      have hf := hi.first hne
      rw [hR] at g2 g3 hX hXr hYr
      simp at g2 g3 hf hX
      subst hf
      exact CallR.leaf (gfirst1_1 room first en o T.length L lc F c w W X Y) [(0, 2), (1, 0), (2, 3), (3, 4), (4, 5), (5, 6), (6, 7)] rfl rfl (by repeat' (first | exact True.intro | refine hpC rfl rfl rfl ?_ | refine ⟨⟨_, _, _, rfl, rfl, rfl, @WkO.rfl _⟩, ?_⟩ | refine HeapOK.acc rfl rfl ?_)) rfl rfl (.c (.p (.int .i64 first))) (_) [(0, 0), (1, 1), (2, 2), (3, 3), (4, 4), (5, 5), (6, 6), (7, 7)] rfl rfl Wk.rfl (by repeat' (first | exact True.intro | refine hpC rfl rfl rfl ?_ | refine ⟨⟨_, _, _, rfl, rfl, rfl, @WkO.rfl _⟩, ?_⟩ | refine HeapOK.acc rfl rfl ?_)) ⟨by rw [if_neg (by simp)], rfl⟩
theorem W_getn {s : WS} {f : Int} {R : List (List Int)} (hi : WInv s f R) (n : Int) (hn : R ≠ [] → n < f ∨ f + R.length ≤ n) : CW base 26 [.c (.ptr 2 0), .c (.p (.int .i64 n))] s (fun r s' => r = .tup [.c (.p (.tz true 0 [] none)), .c (.p (.bool false))] ∧ s' = s) := by
  obtain ⟨room, first, en, L, lc, F, c, _ | ⟨w, W⟩, _ | _ | ⟨o, m, X, Y⟩⟩ := s
  · exact hi.lg.elim
  · obtain rfl : R = [] := hi.lg
    exact CallR.leaf (get00_spec room first en L lc F c n) [(0, 2), (1, 0), (2, 3), (3, 4)] rfl rfl (by repeat' (first | exact True.intro | refine hpC rfl rfl rfl ?_ | refine ⟨⟨_, _, _, rfl, rfl, rfl, @WkO.rfl _⟩, ?_⟩ | refine HeapOK.acc rfl rfl ?_)) rfl rfl (_) (_) [(0, 0), (1, 1), (2, 2), (3, 3), (4, 4), (5, 5), (6, 6), (7, 7)] rfl rfl Wk.rfl (by repeat' (first | exact True.intro | refine hpC rfl rfl rfl ?_ | refine ⟨⟨_, _, _, rfl, rfl, rfl, @WkO.rfl _⟩, ?_⟩ | refine HeapOK.acc rfl rfl ?_)) ⟨rfl, rfl⟩
  · have h := hi.lg
    obtain ⟨rfl, hX, hXY, hXr, hYr⟩ := h
    cases hR : R with
    | nil =>
      subst hR
      exact CallR.leaf (gget0_0 room first en o L lc F c X Y n) [(0, 2), (1, 0), (2, 3), (3, 4), (4, 6), (5, 7)] rfl rfl (by repeat' (first | exact True.intro | refine hpC rfl rfl rfl ?_ | refine ⟨⟨_, _, _, rfl, rfl, rfl, @WkO.rfl _⟩, ?_⟩ | refine HeapOK.acc rfl rfl ?_)) rfl rfl (_) (_) [(0, 0), (1, 1), (2, 2), (3, 3), (4, 4), (5, 5), (6, 6), (7, 7)] rfl rfl Wk.rfl (by repeat' (first | exact True.intro | refine hpC rfl rfl rfl ?_ | refine ⟨⟨_, _, _, rfl, rfl, rfl, @WkO.rfl _⟩, ?_⟩ | refine HeapOK.acc rfl rfl ?_)) ⟨rfl, rfl⟩
    | cons b T =>
      have hne : R ≠ [] := by rw [hR]; simp
      obtain ⟨g1, g2, g3⟩ := (hi.ok hne).len
      have hf := hi.first hne
      rw [hR] at g2 g3 hX hXr hYr
      simp at g2 g3 hf hX
      subst hf
      have hn := hn (by first | exact hne | simp)
      try rw [hR] at hn
      simp at hn
      exact CallR.leaf (gget0_n room first en o T.length L lc F c X Y (by omega) ⟨by omega, by omega⟩ n (by omega)) [(0, 2), (1, 0), (2, 3), (3, 4), (4, 6), (5, 7)] rfl rfl (by repeat' (first | exact True.intro | refine hpC rfl rfl rfl ?_ | refine ⟨⟨_, _, _, rfl, rfl, rfl, @WkO.rfl _⟩, ?_⟩ | refine HeapOK.acc rfl rfl ?_)) rfl rfl (_) (_) [(0, 0), (1, 1), (2, 2), (3, 3), (4, 4), (5, 5), (6, 6), (7, 7)] rfl rfl Wk.rfl (by repeat' (first | exact True.intro | refine hpC rfl rfl rfl ?_ | refine ⟨⟨_, _, _, rfl, rfl, rfl, @WkO.rfl _⟩, ?_⟩ | refine HeapOK.acc rfl rfl ?_)) ⟨rfl, rfl⟩
  · exact hi.lg.elim
  · obtain rfl : R = [] := hi.lg
    exact CallR.leaf (get10_spec room first en L lc F c w W n) [(0, 2), (1, 0), (2, 3), (3, 4), (4, 5)] rfl rfl (by repeat' (first | exact True.intro | refine hpC rfl rfl rfl ?_ | refine ⟨⟨_, _, _, rfl, rfl, rfl, @WkO.rfl _⟩, ?_⟩ | refine HeapOK.acc rfl rfl ?_)) rfl rfl (_) (_) [(0, 0), (1, 1), (2, 2), (3, 3), (4, 4), (5, 5), (6, 6), (7, 7)] rfl rfl Wk.rfl (by repeat' (first | exact True.intro | refine hpC rfl rfl rfl ?_ | refine ⟨⟨_, _, _, rfl, rfl, rfl, @WkO.rfl _⟩, ?_⟩ | refine HeapOK.acc rfl rfl ?_)) ⟨rfl, rfl⟩
  · have h := hi.lg
    obtain ⟨rfl, hX, hXY, hXr, hYr⟩ := h
    cases hR : R with
    | nil =>
      subst hR
      exact CallR.leaf (gget1_0 room first en o L lc F c w W X Y n) [(0, 2), (1, 0), (2, 3), (3, 4), (4, 5), (5, 6), (6, 7)] rfl rfl (by repeat' (first | exact True.intro | refine hpC rfl rfl rfl ?_ | refine ⟨⟨_, _, _, rfl, rfl, rfl, @WkO.rfl _⟩, ?_⟩ | refine HeapOK.acc rfl rfl ?_)) rfl rfl (_) (_) [(0, 0), (1, 1), (2, 2), (3, 3), (4, 4), (5, 5), (6, 6), (7, 7)] rfl rfl Wk.rfl (by repeat' (first | exact True.intro | refine hpC rfl rfl rfl ?_ | refine ⟨⟨_, _, _, rfl, rfl, rfl, @WkO.rfl _⟩, ?_⟩ | refine HeapOK.acc rfl rfl ?_)) ⟨rfl, rfl⟩
    | cons b T =>
      have hne : R ≠ [] := by rw [hR]; simp
      obtain ⟨g1, g2, g3⟩ := (hi.ok hne).len
      have hf := hi.first hne
      rw [hR] at g2 g3 hX hXr hYr
      simp at g2 g3 hf hX
      subst hf
      have hn := hn (by first | exact hne | simp)
      try rw [hR] at hn
      simp at hn
      exact CallR.leaf (gget1_n room first en o T.length L lc F c w W X Y (by omega) ⟨by omega, by omega⟩ n (by omega)) [(0, 2), (1, 0), (2, 3), (3, 4), (4, 5), (5, 6), (6, 7)] rfl rfl (by repeat' (first | exact True.intro | refine hpC rfl rfl rfl ?_ | refine ⟨⟨_, _, _, rfl, rfl, rfl, @WkO.rfl _⟩, ?_⟩ | refine HeapOK.acc rfl rfl ?_)) rfl rfl (_) (_) [(0, 0), (1, 1), (2, 2), (3, 3), (4, 4), (5, 5), (6, 6), (7, 7)] rfl rfl Wk.rfl (by repeat' (first | exact True.intro | refine hpC rfl rfl rfl ?_ | refine ⟨⟨_, _, _, rfl, rfl, rfl, @WkO.rfl _⟩, ?_⟩ | refine HeapOK.acc rfl rfl ?_)) ⟨rfl, rfl⟩
theorem W_gety {s : WS} {f : Int} {R : List (List Int)} (hi : WInv s f R) (j : Nat) (x : List Int) (hj : R[j]? = some x) (hxl : x.length ≤ 1000000000) : CW base 26 [.c (.ptr 2 0), .c (.p (.int .i64 (f + j)))] s (fun r s' => (∃ z, r = .tup [.c (.p (fP z x none)), .c (.p (.bool true))]) ∧ s' = s) := by
  obtain ⟨room, first, en, L, lc, F, c, _ | ⟨w, W⟩, _ | _ | ⟨o, m, X, Y⟩⟩ := s
  · exact hi.lg.elim
  · obtain rfl : R = [] := hi.lg
    simp at hj
  · have h := hi.lg
    obtain ⟨rfl, hX, hXY, hXr, hYr⟩ := h
    cases hR : R with
    | nil =>
      subst hR
      simp at hj
    | cons b T =>
      have hne : R ≠ [] := by rw [hR]; simp
      obtain ⟨g1, g2, g3⟩ := (hi.ok hne).len
      have hf := hi.first hne
      rw [hR] at g2 g3 hX hXr hYr
      simp at g2 g3 hf hX
      subst hf
      obtain ⟨z, hz⟩ := hXr j x (by rw [← hR]; exact hj)
      have hjl := (List.getElem?_eq_some_iff.1 hj).1
      rw [hR] at hjl
      simp at hjl
      exact CallR.leaf (gget0_y room first en o T.length L lc F c X Y (by omega) ⟨by omega, by omega⟩ j (by omega) (first + j) rfl z x none hz hxl) [(0, 2), (1, 0), (2, 3), (3, 4), (4, 6), (5, 7)] rfl rfl (by repeat' (first | exact True.intro | refine hpC rfl rfl rfl ?_ | refine ⟨⟨_, _, _, rfl, rfl, rfl, @WkO.rfl _⟩, ?_⟩ | refine HeapOK.acc rfl rfl ?_)) rfl rfl (.tup [.c (.p (fP z x none)), .c (.p (.bool true))]) (_) [(0, 0), (1, 1), (2, 2), (3, 3), (4, 4), (5, 5), (6, 6), (7, 7)] rfl rfl Wk.rfl (by repeat' (first | exact True.intro | refine hpC rfl rfl rfl ?_ | refine ⟨⟨_, _, _, rfl, rfl, rfl, @WkO.rfl _⟩, ?_⟩ | refine HeapOK.acc rfl rfl ?_)) ⟨⟨z, rfl⟩, rfl⟩
  · exact hi.lg.elim
  · obtain rfl : R = [] := hi.lg
    simp at hj
  · have h := hi.lg
    obtain ⟨rfl, hX, hXY, hXr, hYr⟩ := h
    cases hR : R with
    | nil =>
      subst hR
      simp at hj
    | cons b T =>
      have hne : R ≠ [] := by rw [hR]; simp
      obtain ⟨g1, g2, g3⟩ := (hi.ok hne).len
      have hf := hi.first hne
      rw [hR] at g2 g3 hX hXr hYr
      simp at g2 g3 hf hX
      subst hf
      obtain ⟨z, hz⟩ := hXr j x (by rw [← hR]; exact hj)
      have hjl := (List.getElem?_eq_some_iff.1 hj).1
      rw [hR] at hjl
      simp at hjl
      exact CallR.leaf (gget1_y room first en o T.length L lc F c w W X Y (by omega) ⟨by omega, by omega⟩ j (by omega) (first + j) rfl z x none hz hxl) [(0, 2), (1, 0), (2, 3), (3, 4), (4, 5), (5, 6), (6, 7)] rfl rfl (by repeat' (first | exact True.intro | refine hpC rfl rfl rfl ?_ | refine ⟨⟨_, _, _, rfl, rfl, rfl, @WkO.rfl _⟩, ?_⟩ | refine HeapOK.acc rfl rfl ?_)) rfl rfl (.tup [.c (.p (fP z x none)), .c (.p (.bool true))]) (_) [(0, 0), (1, 1), (2, 2), (3, 3), (4, 4), (5, 5), (6, 6), (7, 7)] rfl rfl Wk.rfl (by repeat' (first | exact True.intro | refine hpC rfl rfl rfl ?_ | refine ⟨⟨_, _, _, rfl, rfl, rfl, @WkO.rfl _⟩, ?_⟩ | refine HeapOK.acc rfl rfl ?_)) ⟨⟨z, rfl⟩, rfl⟩
end Go.Proofs.Ytjlfojgacnphmaa

namespace Go.Proofs.Ytjlfojgacnphmaa
open Go.RowKit Sim Go Sym
set_option maxRecDepth 100000
set_option linter.unusedVariables false
set_option linter.unusedSimpArgs false
variable {base : Nat}
theorem W_append_e1 (s : WS) (n : Int) (z : Bool) (b : List Int) (cb : Option Nat) (hn : n < 1) : CW base 21 [.c (.ptr 2 0), .c (.p (.int .i64 n)), .c (.p (.tz z 1 (u8P b) cb))] s (fun r s' => r = .c (.p (.int .i64 1)) ∧ s' = s) := by
  refine CallR.of wOK noNG lWap.2 rfl (M.start (M.go rfl ?_))
  refine M.dec rfl (fun _ => ?_) (fun hh => absurd hn hh)
  refine M.go rfl ?_
  exact M.ret (M.go rfl (M.done (finR.ret wOK (.c (.p (.int .i64 1))) s [(0, 0), (1, 1), (2, 2), (3, 3), (4, 4), (5, 5), (6, 6), (7, 7)] rfl rfl rfl Wk.rfl (by repeat' (first | exact True.intro | refine hpC rfl rfl rfl ?_ | refine HeapOK.acc rfl rfl ?_ | refine HeapOK.es rfl rfl ?_ | exact HeapOK.fam wOK (by repeat' (first | exact Tl.here | refine Tl.cons rfl ?_)) rfl)) ⟨rfl, rfl⟩)))
theorem W_from_e1 (s : WS) (n : Int) (hn : n < 1) : CW base 25 [.c (.ptr 2 0), .c (.p (.int .i64 n))] s (fun r s' => r = .c (.p (.int .i64 1)) ∧ s' = s) := by
  refine CallR.of wOK noNG lWfr.2 rfl (M.start (M.go rfl ?_))
  refine M.cond rfl (fun _ => ?_) (fun hh => absurd hn hh)
  refine M.go rfl ?_
  exact M.ret (M.go rfl (M.done (finR.ret wOK (.c (.p (.int .i64 1))) s [(0, 0), (1, 1), (2, 2), (3, 3), (4, 4), (5, 5), (6, 6), (7, 7)] rfl rfl rfl Wk.rfl (by repeat' (first | exact True.intro | refine hpC rfl rfl rfl ?_ | refine HeapOK.acc rfl rfl ?_ | refine HeapOK.es rfl rfl ?_ | exact HeapOK.fam wOK (by repeat' (first | exact Tl.here | refine Tl.cons rfl ?_)) rfl)) ⟨rfl, rfl⟩)))
theorem W_until_e1 (s : WS) (n : Int) (hn : n < 1) : CW base 29 [.c (.ptr 2 0), .c (.p (.int .i64 n))] s (fun r s' => r = .c (.p (.int .i64 1)) ∧ s' = s) := by
  refine CallR.of wOK noNG lWun.2 rfl (M.start (M.go rfl ?_))
  refine M.cond rfl (fun _ => ?_) (fun hh => absurd hn hh)
  refine M.go rfl ?_
  exact M.ret (M.go rfl (M.done (finR.ret wOK (.c (.p (.int .i64 1))) s [(0, 0), (1, 1), (2, 2), (3, 3), (4, 4), (5, 5), (6, 6), (7, 7)] rfl rfl rfl Wk.rfl (by repeat' (first | exact True.intro | refine hpC rfl rfl rfl ?_ | refine HeapOK.acc rfl rfl ?_ | refine HeapOK.es rfl rfl ?_ | exact HeapOK.fam wOK (by repeat' (first | exact Tl.here | refine Tl.cons rfl ?_)) rfl)) ⟨rfl, rfl⟩)))
theorem W_append_e2 {s : WS} {f : Int} {R : List (List Int)} (hi : WInv s f R) (n : Int) (z : Bool) (bb : List Int) (cb : Option Nat) (hn1 : 1 ≤ n) (hne0 : R ≠ []) (hn : n ≠ f + R.length) : CW base 21 [.c (.ptr 2 0), .c (.p (.int .i64 n)), .c (.p (.tz z 1 (u8P bb) cb))] s (fun r s' => r = .c (.p (.int .i64 1)) ∧ s' = s) := by
  obtain ⟨room, first, en, L, lc, F, c, _ | ⟨w, W⟩, _ | _ | ⟨o, m, X, Y⟩⟩ := s
  · exact hi.lg.elim
  · obtain rfl : R = [] := hi.lg
    exact absurd rfl hne0
  · have h := hi.lg
    obtain ⟨rfl, hX, hXY, hXr, hYr⟩ := h
    cases hR : R with
    | nil =>
      subst hR
      exact absurd rfl hne0
    | cons b T =>
      have hne : R ≠ [] := by rw [hR]; simp
      obtain ⟨g1, g2, g3⟩ := (hi.ok hne).len
      have hf := hi.first hne
      rw [hR] at g2 g3 hX hXr hYr
      simp at g2 g3 hf hX
      subst hf
      rw [hR] at hn
      have hi2 := hi
      rw [hR] at hi2
      refine CallR.of wOK noNG lWap.2 rfl (M.start (M.go rfl ?_))
      refine M.dec rfl (fun hh => absurd hh (by omega)) (fun _ => ?_)
      refine M.go rfl ?_
      refine M.dec rfl (fun _ => ?_) (fun hh => absurd (by first | (simp; done) | (simp; omega)) hh)
      refine M.go rfl ?_
      refine M.useR (s := (⟨room, first, en, L, lc, F, c, none, .own o (b :: T).length X Y⟩ : WS)) wOK [] [(0, .c (.ptr 2 0)), (1, .c (.p (.int .i64 n))), (6, .c (.p (.int .i64 0))), (16, .c (.p (.bool false))), (23, .c (.p (.bool true))), (24, .c (.p (.int .i64 n)))] rfl (W_last hi2) rfl trivial rfl rfl rfl rfl (fun r s' h => by rw [h.1]; rfl) (by repeat' (first | exact True.intro | refine evC rfl rfl Wk.rfl ?_ | refine evC (accV_ren rfl) rfl Wk.rfl ?_ | refine evC (accV_ren rfl) rfl Wk.acc0 ?_ | refine evC rfl rfl Wk.uncap ?_ | refine evC rfl rfl Wk.nil ?_)) (fun r s' h => ?_)
      obtain ⟨rfl, rfl⟩ := h
      refine M.go rfl ?_
      rw [lastI_ne (by simp), wr64 (n := first + ((b :: T).length : Nat) - 1 + 1) (by simp; omega) (by simp; omega)]
      refine M.condN rfl (fun _ => ?_) (fun hh => absurd hh (by simp at hn ⊢; omega))
      refine M.go rfl ?_
      exact M.ret (M.go rfl (M.done (finR.ret wOK (.c (.p (.int .i64 1))) (⟨room, first, en, L, lc, F, c, none, .own o (b :: T).length X Y⟩ : WS) [(0, 0), (1, 1), (2, 2), (3, 3), (4, 4), (5, 5), (6, 6), (7, 7)] rfl rfl rfl Wk.rfl (by repeat' (first | exact True.intro | refine hpC rfl rfl rfl ?_ | refine ⟨⟨_, _, _, rfl, rfl, rfl, @WkO.rfl _⟩, ?_⟩ | refine HeapOK.acc rfl rfl ?_)) ⟨rfl, rfl⟩)))
  · exact hi.lg.elim
  · obtain rfl : R = [] := hi.lg
    exact absurd rfl hne0
  · have h := hi.lg
    obtain ⟨rfl, hX, hXY, hXr, hYr⟩ := h
    cases hR : R with
    | nil =>
      subst hR
      exact absurd rfl hne0
    | cons b T =>
      have hne : R ≠ [] := by rw [hR]; simp
      obtain ⟨g1, g2, g3⟩ := (hi.ok hne).len
      have hf := hi.first hne
      rw [hR] at g2 g3 hX hXr hYr
      simp at g2 g3 hf hX
      subst hf
      rw [hR] at hn
      have hi2 := hi
      rw [hR] at hi2
      refine CallR.of wOK noNG lWap.2 rfl (M.start (M.go rfl ?_))
      refine M.dec rfl (fun hh => absurd hh (by omega)) (fun _ => ?_)
      refine M.go rfl ?_
      refine M.dec rfl (fun _ => ?_) (fun hh => absurd (by first | (simp; done) | (simp; omega)) hh)
      refine M.go rfl ?_
      refine M.useR (s := (⟨room, first, en, L, lc, F, c, some (w, W), .own o (b :: T).length X Y⟩ : WS)) wOK [] [(0, .c (.ptr 2 0)), (1, .c (.p (.int .i64 n))), (6, .c (.p (.int .i64 0))), (16, .c (.p (.bool false))), (23, .c (.p (.bool true))), (24, .c (.p (.int .i64 n)))] rfl (W_last hi2) rfl trivial rfl rfl rfl rfl (fun r s' h => by rw [h.1]; rfl) (by repeat' (first | exact True.intro | refine evC rfl rfl Wk.rfl ?_ | refine evC (accV_ren rfl) rfl Wk.rfl ?_ | refine evC (accV_ren rfl) rfl Wk.acc0 ?_ | refine evC rfl rfl Wk.uncap ?_ | refine evC rfl rfl Wk.nil ?_)) (fun r s' h => ?_)
      obtain ⟨rfl, rfl⟩ := h
      refine M.go rfl ?_
      rw [lastI_ne (by simp), wr64 (n := first + ((b :: T).length : Nat) - 1 + 1) (by simp; omega) (by simp; omega)]
      refine M.condN rfl (fun _ => ?_) (fun hh => absurd hh (by simp at hn ⊢; omega))
      refine M.go rfl ?_
      exact M.ret (M.go rfl (M.done (finR.ret wOK (.c (.p (.int .i64 1))) (⟨room, first, en, L, lc, F, c, some (w, W), .own o (b :: T).length X Y⟩ : WS) [(0, 0), (1, 1), (2, 2), (3, 3), (4, 4), (5, 5), (6, 6), (7, 7)] rfl rfl rfl Wk.rfl (by repeat' (first | exact True.intro | refine hpC rfl rfl rfl ?_ | refine ⟨⟨_, _, _, rfl, rfl, rfl, @WkO.rfl _⟩, ?_⟩ | refine HeapOK.acc rfl rfl ?_)) ⟨rfl, rfl⟩)))
theorem W_from_n {s : WS} {f : Int} {R : List (List Int)} (hi : WInv s f R) (n : Int) (hn1 : 1 ≤ n) (hn : R ≠ [] → f + R.length ≤ n) : CW base 25 [.c (.ptr 2 0), .c (.p (.int .i64 n))] s (fun r s' => r = .c (.p (.int .i64 0)) ∧ s' = s) := by
  obtain ⟨room, first, en, L, lc, F, c, _ | ⟨w, W⟩, _ | _ | ⟨o, m, X, Y⟩⟩ := s
  · exact hi.lg.elim
  · obtain rfl : R = [] := hi.lg
    refine CallR.of wOK noNG lWfr.2 rfl (M.start (M.go rfl ?_))
    refine M.cond rfl (fun hh => absurd hh (by omega)) (fun _ => ?_)
    refine M.go rfl ?_
    refine M.dec rfl (fun _ => ?_) (fun hh => absurd (by simp) hh)
    refine M.go rfl ?_
    exact M.ret (M.go rfl (M.done (finR.ret wOK (.c (.p (.int .i64 0))) (⟨room, first, en, L, lc, F, c, none, .nil⟩ : WS) [(0, 0), (1, 1), (2, 2), (3, 3), (4, 4), (5, 5), (6, 6), (7, 7)] rfl rfl rfl Wk.rfl (by repeat' (first | exact True.intro | refine hpC rfl rfl rfl ?_ | refine ⟨⟨_, _, _, rfl, rfl, rfl, @WkO.rfl _⟩, ?_⟩ | refine HeapOK.acc rfl rfl ?_)) ⟨rfl, rfl⟩)))
  · have h := hi.lg
    obtain ⟨rfl, hX, hXY, hXr, hYr⟩ := h
    cases hR : R with
    | nil =>
      subst hR
      exact CallR.leaf (gfrom0_0 room first en o L lc F c X Y n hn1) [(0, 2), (1, 0), (2, 3), (3, 4), (4, 6), (5, 7)] rfl rfl (by repeat' (first | exact True.intro | refine hpC rfl rfl rfl ?_ | refine ⟨⟨_, _, _, rfl, rfl, rfl, @WkO.rfl _⟩, ?_⟩ | refine HeapOK.acc rfl rfl ?_)) rfl rfl (_) (_) [(0, 0), (1, 1), (2, 2), (3, 3), (4, 4), (5, 5), (6, 6), (7, 7)] rfl rfl Wk.rfl (by repeat' (first | exact True.intro | refine hpC rfl rfl rfl ?_ | refine ⟨⟨_, _, _, rfl, rfl, rfl, @WkO.rfl _⟩, ?_⟩ | refine HeapOK.acc rfl rfl ?_)) ⟨rfl, rfl⟩
    | cons b T =>
      have hne : R ≠ [] := by rw [hR]; simp
      obtain ⟨g1, g2, g3⟩ := (hi.ok hne).len
      have hf := hi.first hne
      rw [hR] at g2 g3 hX hXr hYr
      simp at g2 g3 hf hX
      subst hf
      have hn := hn hne
      rw [hR] at hn
      have hi2 := hi
      rw [hR] at hi2
      simp at hn
      exact CallR.leaf (gfrom0_n room first en o T.length L lc F c X Y n hn1 (by omega) ⟨by omega, by omega⟩ (by omega)) [(0, 2), (1, 0), (2, 3), (3, 4), (4, 6), (5, 7)] rfl rfl (by repeat' (first | exact True.intro | refine hpC rfl rfl rfl ?_ | refine ⟨⟨_, _, _, rfl, rfl, rfl, @WkO.rfl _⟩, ?_⟩ | refine HeapOK.acc rfl rfl ?_)) rfl rfl (_) (_) [(0, 0), (1, 1), (2, 2), (3, 3), (4, 4), (5, 5), (6, 6), (7, 7)] rfl rfl Wk.rfl (by repeat' (first | exact True.intro | refine hpC rfl rfl rfl ?_ | refine ⟨⟨_, _, _, rfl, rfl, rfl, @WkO.rfl _⟩, ?_⟩ | refine HeapOK.acc rfl rfl ?_)) ⟨rfl, rfl⟩
  · exact hi.lg.elim
  · obtain rfl : R = [] := hi.lg
    refine CallR.of wOK noNG lWfr.2 rfl (M.start (M.go rfl ?_))
    refine M.cond rfl (fun hh => absurd hh (by omega)) (fun _ => ?_)
    refine M.go rfl ?_
    refine M.dec rfl (fun _ => ?_) (fun hh => absurd (by simp) hh)
    refine M.go rfl ?_
    exact M.ret (M.go rfl (M.done (finR.ret wOK (.c (.p (.int .i64 0))) (⟨room, first, en, L, lc, F, c, some (w, W), .nil⟩ : WS) [(0, 0), (1, 1), (2, 2), (3, 3), (4, 4), (5, 5), (6, 6), (7, 7)] rfl rfl rfl Wk.rfl (by repeat' (first | exact True.intro | refine hpC rfl rfl rfl ?_ | refine ⟨⟨_, _, _, rfl, rfl, rfl, @WkO.rfl _⟩, ?_⟩ | refine HeapOK.acc rfl rfl ?_)) ⟨rfl, rfl⟩)))
  · have h := hi.lg
    obtain ⟨rfl, hX, hXY, hXr, hYr⟩ := h
    cases hR : R with
    | nil =>
      subst hR
      exact CallR.leaf (gfrom1_0 room first en o L lc F c w W X Y n hn1) [(0, 2), (1, 0), (2, 3), (3, 4), (4, 5), (5, 6), (6, 7)] rfl rfl (by repeat' (first | exact True.intro | refine hpC rfl rfl rfl ?_ | refine ⟨⟨_, _, _, rfl, rfl, rfl, @WkO.rfl _⟩, ?_⟩ | refine HeapOK.acc rfl rfl ?_)) rfl rfl (_) (_) [(0, 0), (1, 1), (2, 2), (3, 3), (4, 4), (5, 5), (6, 6), (7, 7)] rfl rfl Wk.rfl (by repeat' (first | exact True.intro | refine hpC rfl rfl rfl ?_ | refine ⟨⟨_, _, _, rfl, rfl, rfl, @WkO.rfl _⟩, ?_⟩ | refine HeapOK.acc rfl rfl ?_)) ⟨rfl, rfl⟩
    | cons b T =>
      have hne : R ≠ [] := by rw [hR]; simp
      obtain ⟨g1, g2, g3⟩ := (hi.ok hne).len
      have hf := hi.first hne
      rw [hR] at g2 g3 hX hXr hYr
      simp at g2 g3 hf hX
      subst hf
      have hn := hn hne
      rw [hR] at hn
      have hi2 := hi
      rw [hR] at hi2
      simp at hn
      exact CallR.leaf (gfrom1_n room first en o T.length L lc F c w W X Y n hn1 (by omega) ⟨by omega, by omega⟩ (by omega)) [(0, 2), (1, 0), (2, 3), (3, 4), (4, 5), (5, 6), (6, 7)] rfl rfl (by repeat' (first | exact True.intro | refine hpC rfl rfl rfl ?_ | refine ⟨⟨_, _, _, rfl, rfl, rfl, @WkO.rfl _⟩, ?_⟩ | refine HeapOK.acc rfl rfl ?_)) rfl rfl (_) (_) [(0, 0), (1, 1), (2, 2), (3, 3), (4, 4), (5, 5), (6, 6), (7, 7)] rfl rfl Wk.rfl (by repeat' (first | exact True.intro | refine hpC rfl rfl rfl ?_ | refine ⟨⟨_, _, _, rfl, rfl, rfl, @WkO.rfl _⟩, ?_⟩ | refine HeapOK.acc rfl rfl ?_)) ⟨rfl, rfl⟩
theorem W_until_n {s : WS} {f : Int} {R : List (List Int)} (hi : WInv s f R) (n : Int) (hn1 : 1 ≤ n) (hn : R ≠ [] → n < f) : CW base 29 [.c (.ptr 2 0), .c (.p (.int .i64 n))] s (fun r s' => r = .c (.p (.int .i64 0)) ∧ s' = s) := by
  obtain ⟨room, first, en, L, lc, F, c, _ | ⟨w, W⟩, _ | _ | ⟨o, m, X, Y⟩⟩ := s
  · exact hi.lg.elim
  · obtain rfl : R = [] := hi.lg
    refine CallR.of wOK noNG lWun.2 rfl (M.start (M.go rfl ?_))
    refine M.cond rfl (fun hh => absurd hh (by omega)) (fun _ => ?_)
    refine M.go rfl ?_
    refine M.dec rfl (fun _ => ?_) (fun hh => absurd (by simp) hh)
    refine M.go rfl ?_
    exact M.ret (M.go rfl (M.done (finR.ret wOK (.c (.p (.int .i64 0))) (⟨room, first, en, L, lc, F, c, none, .nil⟩ : WS) [(0, 0), (1, 1), (2, 2), (3, 3), (4, 4), (5, 5), (6, 6), (7, 7)] rfl rfl rfl Wk.rfl (by repeat' (first | exact True.intro | refine hpC rfl rfl rfl ?_ | refine ⟨⟨_, _, _, rfl, rfl, rfl, @WkO.rfl _⟩, ?_⟩ | refine HeapOK.acc rfl rfl ?_)) ⟨rfl, rfl⟩)))
  · have h := hi.lg
    obtain ⟨rfl, hX, hXY, hXr, hYr⟩ := h
    cases hR : R with
    | nil =>
      subst hR
      exact CallR.leaf (guntil0_0 room first en o L lc F c X Y n hn1) [(0, 2), (1, 0), (2, 3), (3, 4), (4, 6), (5, 7)] rfl rfl (by repeat' (first | exact True.intro | refine hpC rfl rfl rfl ?_ | refine ⟨⟨_, _, _, rfl, rfl, rfl, @WkO.rfl _⟩, ?_⟩ | refine HeapOK.acc rfl rfl ?_)) rfl rfl (_) (_) [(0, 0), (1, 1), (2, 2), (3, 3), (4, 4), (5, 5), (6, 6), (7, 7)] rfl rfl Wk.rfl (by repeat' (first | exact True.intro | refine hpC rfl rfl rfl ?_ | refine ⟨⟨_, _, _, rfl, rfl, rfl, @WkO.rfl _⟩, ?_⟩ | refine HeapOK.acc rfl rfl ?_)) ⟨rfl, rfl⟩
    | cons b T =>
      have hne : R ≠ [] := by rw [hR]; simp
      obtain ⟨g1, g2, g3⟩ := (hi.ok hne).len
      have hf := hi.first hne
      rw [hR] at g2 g3 hX hXr hYr
      simp at g2 g3 hf hX
      subst hf
      have hn := hn hne
      exact CallR.leaf (guntil0_n room first en o T.length L lc F c X Y n ⟨hn1, hn⟩) [(0, 2), (1, 0), (2, 3), (3, 4), (4, 6), (5, 7)] rfl rfl (by repeat' (first | exact True.intro | refine hpC rfl rfl rfl ?_ | refine ⟨⟨_, _, _, rfl, rfl, rfl, @WkO.rfl _⟩, ?_⟩ | refine HeapOK.acc rfl rfl ?_)) rfl rfl (_) (_) [(0, 0), (1, 1), (2, 2), (3, 3), (4, 4), (5, 5), (6, 6), (7, 7)] rfl rfl Wk.rfl (by repeat' (first | exact True.intro | refine hpC rfl rfl rfl ?_ | refine ⟨⟨_, _, _, rfl, rfl, rfl, @WkO.rfl _⟩, ?_⟩ | refine HeapOK.acc rfl rfl ?_)) ⟨rfl, rfl⟩
  · exact hi.lg.elim
  · obtain rfl : R = [] := hi.lg
    refine CallR.of wOK noNG lWun.2 rfl (M.start (M.go rfl ?_))
    refine M.cond rfl (fun hh => absurd hh (by omega)) (fun _ => ?_)
    refine M.go rfl ?_
    refine M.dec rfl (fun _ => ?_) (fun hh => absurd (by simp) hh)
    refine M.go rfl ?_
    exact M.ret (M.go rfl (M.done (finR.ret wOK (.c (.p (.int .i64 0))) (⟨room, first, en, L, lc, F, c, some (w, W), .nil⟩ : WS) [(0, 0), (1, 1), (2, 2), (3, 3), (4, 4), (5, 5), (6, 6), (7, 7)] rfl rfl rfl Wk.rfl (by repeat' (first | exact True.intro | refine hpC rfl rfl rfl ?_ | refine ⟨⟨_, _, _, rfl, rfl, rfl, @WkO.rfl _⟩, ?_⟩ | refine HeapOK.acc rfl rfl ?_)) ⟨rfl, rfl⟩)))
  · have h := hi.lg
    obtain ⟨rfl, hX, hXY, hXr, hYr⟩ := h
    cases hR : R with
    | nil =>
      subst hR
      exact CallR.leaf (guntil1_0 room first en o L lc F c w W X Y n hn1) [(0, 2), (1, 0), (2, 3), (3, 4), (4, 5), (5, 6), (6, 7)] rfl rfl (by repeat' (first | exact True.intro | refine hpC rfl rfl rfl ?_ | refine ⟨⟨_, _, _, rfl, rfl, rfl, @WkO.rfl _⟩, ?_⟩ | refine HeapOK.acc rfl rfl ?_)) rfl rfl (_) (_) [(0, 0), (1, 1), (2, 2), (3, 3), (4, 4), (5, 5), (6, 6), (7, 7)] rfl rfl Wk.rfl (by repeat' (first | exact True.intro | refine hpC rfl rfl rfl ?_ | refine ⟨⟨_, _, _, rfl, rfl, rfl, @WkO.rfl _⟩, ?_⟩ | refine HeapOK.acc rfl rfl ?_)) ⟨rfl, rfl⟩
    | cons b T =>
      have hne : R ≠ [] := by rw [hR]; simp
      obtain ⟨g1, g2, g3⟩ := (hi.ok hne).len
      have hf := hi.first hne
      rw [hR] at g2 g3 hX hXr hYr
      simp at g2 g3 hf hX
      subst hf
      have hn := hn hne
      exact CallR.leaf (guntil1_n room first en o T.length L lc F c w W X Y n ⟨hn1, hn⟩) [(0, 2), (1, 0), (2, 3), (3, 4), (4, 5), (5, 6), (6, 7)] rfl rfl (by repeat' (first | exact True.intro | refine hpC rfl rfl rfl ?_ | refine ⟨⟨_, _, _, rfl, rfl, rfl, @WkO.rfl _⟩, ?_⟩ | refine HeapOK.acc rfl rfl ?_)) rfl rfl (_) (_) [(0, 0), (1, 1), (2, 2), (3, 3), (4, 4), (5, 5), (6, 6), (7, 7)] rfl rfl Wk.rfl (by repeat' (first | exact True.intro | refine hpC rfl rfl rfl ?_ | refine ⟨⟨_, _, _, rfl, rfl, rfl, @WkO.rfl _⟩, ?_⟩ | refine HeapOK.acc rfl rfl ?_)) ⟨rfl, rfl⟩
end Go.Proofs.Ytjlfojgacnphmaa

namespace Go.Proofs.Ytjlfojgacnphmaa
open Go.RowKit Sim Go Sym
set_option maxRecDepth 100000
set_option linter.unusedVariables false
set_option linter.unusedSimpArgs false
variable {base : Nat}
theorem LGok.free {f g : Int} {l : LG} (h : LGok f [] l) : LGok g [] l := by
  cases l with
  | no => exact h
  | nil => exact h
  | own o m X Y =>
    obtain ⟨rfl, h1, h2, h3, h4⟩ := h
    exact ⟨rfl, h1, h2, fun j b hj => by simp at hj, fun j hj => by simp at hj⟩
theorem LGok.app_i {f : Int} {R : List (List Int)} {o m : Nat} {X Y : List PC} {b : List Int} {z : Bool} (h : LGok f R (.own o m X Y)) (hl : o + m < X.length) : LGok f (R ++ [b]) (.own o (m + 1) (X.set (o + m) (fP z b none)) (Y.set (o + m) (.int .i64 ((flatR f R).length : Nat)))) := by
  obtain ⟨rfl, h1, h2, h3, h4⟩ := h
  refine ⟨by simp, by simp; omega, by simp [h2], fun j x hj => ?_, fun j hj => ?_⟩
  · by_cases hjl : j < R.length
    · rw [List.getElem?_append_left hjl] at hj
      obtain ⟨z', hz⟩ := h3 j x hj
      exact ⟨z', by rw [List.getElem?_set_ne (by omega)]; exact hz⟩
    · have hlt := (List.getElem?_eq_some_iff.1 hj).1
      simp at hlt
      obtain rfl : j = R.length := by omega
      simp at hj
      subst hj
      exact ⟨z, by rw [List.getElem?_set_self (by omega)]⟩
  · by_cases hjl : j < R.length
    · rw [List.getElem?_set_ne (by omega), List.take_append_of_le_length (by omega)]
      exact h4 j hjl
    · obtain rfl : j = R.length := by omega
      rw [List.getElem?_set_self (by omega), List.take_append_of_le_length (by omega), List.take_length]
theorem LGok.app_g {f : Int} {R : List (List Int)} {o m : Nat} {X Y : List PC} {b : List Int} {z : Bool} (h : LGok f R (.own o m X Y)) (hl : o + m = X.length) : LGok f (R ++ [b]) (.own 0 (m + 1) (X.drop o ++ [fP z b none]) (Y.drop o ++ [.int .i64 ((flatR f R).length : Nat)])) := by
  obtain ⟨rfl, h1, h2, h3, h4⟩ := h
  refine ⟨by simp, by simp; omega, by simp [h2], fun j x hj => ?_, fun j hj => ?_⟩
  · rw [Nat.zero_add]
    by_cases hjl : j < R.length
    · rw [List.getElem?_append_left hjl] at hj
      obtain ⟨z', hz⟩ := h3 j x hj
      exact ⟨z', by rw [List.getElem?_append_left (by simp; omega), List.getElem?_drop]; exact hz⟩
    · have hlt := (List.getElem?_eq_some_iff.1 hj).1
      simp at hlt
      obtain rfl : j = R.length := by omega
      simp at hj
      subst hj
      exact ⟨z, by rw [List.getElem?_append_right (by simp; omega)]; simp [← hl]⟩
  · rw [Nat.zero_add]
    by_cases hjl : j < R.length
    · rw [List.getElem?_append_left (by simp; omega), List.getElem?_drop, List.take_append_of_le_length (by omega)]
      exact h4 j hjl
    · obtain rfl : j = R.length := by omega
      rw [List.getElem?_append_right (by simp; omega), List.take_append_of_le_length (by omega), List.take_length]
      simp [h2, ← hl]
theorem LGok.first {f : Int} {b : List Int} {z : Bool} : LGok f [b] (.own 0 1 [fP z b none] [.int .i64 0]) := by
  refine ⟨rfl, by simp, rfl, fun j x hj => ?_, fun j hj => ?_⟩
  · have hlt := (List.getElem?_eq_some_iff.1 hj).1
    simp at hlt
    subst hlt
    simp at hj
    subst hj
    exact ⟨z, rfl⟩
  · obtain rfl : j = 0 := by omega
    rfl
theorem LGok.take {f : Int} {R : List (List Int)} {o m : Nat} {X Y : List PC} (h : LGok f R (.own o m X Y)) {k : Nat} (hk : k ≤ m) : LGok f (R.take k) (.own o k X Y) := by
  obtain ⟨rfl, h1, h2, h3, h4⟩ := h
  refine ⟨by simp; omega, by omega, h2, fun j x hj => ?_, fun j hj => ?_⟩
  · have hlt := (List.getElem?_eq_some_iff.1 hj).1
    simp at hlt
    rw [List.getElem?_take_of_lt (by omega)] at hj
    exact h3 j x hj
  · rw [List.take_take, show min j k = j by omega]
    exact h4 j (by omega)
theorem flat_sub (R : List (List Int)) (f : Int) (k j : Nat) (h : k + j ≤ R.length) : (flatR f (R.take (k + j))).length = (flatR f (R.take k)).length + (flatR (f + k) ((R.drop k).take j)).length := by
  have h1 := flatR_split (R.take (k + j)) f k
  rw [List.take_take, show min k (k + j) = k by omega, show min k (R.take (k + j)).length = k by rw [List.length_take]; omega] at h1
  rw [h1, List.length_append, show (R.take (k + j)).drop k = (R.drop k).take j by rw [List.drop_take, show k + j - k = j by omega]]
theorem LGok.drop {f : Int} {R : List (List Int)} {o m : Nat} {X Y : List PC} (h : LGok f R (.own o (m + 1) X Y)) {k : Nat} (hk : k < m) : LGok (f + (k + 1 : Nat)) (R.drop (k + 1)) (.own (o + (k + 1)) (m - k) X (subY Y (o + (k + 1)) (fun j => (flatR f (R.take (k + 1 + j))).length) (flatR f (R.take (k + 1))).length (m - k))) := by
  obtain ⟨h0, h1, h2, h3, h4⟩ := h
  refine ⟨by simp; omega, by omega, by rw [subY_len]; exact h2, fun j x hj => ?_, fun j hj => ?_⟩
  · rw [List.getElem?_drop] at hj
    obtain ⟨z, hz⟩ := h3 _ x hj
    exact ⟨z, by rw [show o + (k + 1) + j = o + (k + 1 + j) by omega]; exact hz⟩
  · rw [subY_lo _ _ _ _ _ _ hj (by omega)]
    have := flat_sub R f (k + 1) j (by omega)
    simp only [Option.some.injEq, PC.int.injEq, true_and]
    omega
theorem Fok.ok {B : List Int} {F : FS} {c : Nat} (h : Fok B F c) : FOK F c := by
  rcases h with ⟨-, rfl, -⟩ | ⟨⟨z, cp, rfl⟩, hc⟩
  · exact f0_ok c
  · have h1 := f1_ok [119] z B cp
    exact ⟨fun e he => Nat.lt_of_lt_of_le (h1.old e he) hc, h1.nd, h1.f⟩
theorem Fok.used {B : List Int} {F : FS} {c : Nat} (h : Fok B F c) : usedN F = B.length := by
  rcases h with ⟨rfl, rfl, -⟩ | ⟨⟨z, cp, rfl⟩, hc⟩
  · rfl
  · simp [usedN, f1, lenP, fP, u8P_len]
theorem Fok.len {B : List Int} {F : FS} {c : Nat} (h : Fok B F c) : F.length < 64 := by
  rcases h with ⟨rfl, rfl, -⟩ | ⟨⟨z, cp, rfl⟩, hc⟩
  · simp
  · simp [f1]
theorem Fok.fr {B : List Int} {F : FS} {c : Nat} (h : Fok B F c) : findP frN F = none := by
  rcases h with ⟨rfl, rfl, -⟩ | ⟨⟨z, cp, rfl⟩, hc⟩
  · rfl
  · rfl
theorem Fok.cut {B : List Int} {F : FS} {c : Nat} (h : Fok B F c) (hB : B ≠ []) : ∃ z cp, findP [119] F = some (fP z B cp) ∧ ∀ p, Fok (B.take p) (updP [119] (cutF z B p) c F) (updPC [119] (cutF z B p) c F) := by
  rcases h with ⟨rfl, rfl, -⟩ | ⟨⟨z, cp, rfl⟩, hc⟩
  · exact absurd rfl hB
  · exact ⟨z, cp, rfl, fun p => .inr ⟨⟨_, _, rfl⟩, hc⟩⟩
theorem Fok.app {B : List Int} {F : FS} {c : Nat} (h : Fok B F c) (S : List Int) (hS : S ≠ []) (hB : B.length ≤ 100000000) (hSl : S.length ≤ 100000000) : ∃ F2 c2, Fok (B ++ S) F2 c2 ∧ CallS Try.prog base 66 [.c (.mp 0), .agg ((chX 0 [119] [] (fP false S none) 0).map XC.p), .c (.p (.int .i64 S.length))] ⟨[(0, some (fM F c))], 1⟩ (.tup []) ⟨[(0, some (fM F2 c2))], 1⟩ := by
  rcases h with ⟨rfl, rfl, rfl⟩ | ⟨⟨z, cp, rfl⟩, hc⟩
  · exact ⟨_, _, .inr ⟨⟨_, _, by rw [List.nil_append]⟩, Nat.le_refl _⟩, do_first [119] [] 0 false S none hSl hS⟩
  · have := do_app (base := base) (f1 [119] (fP z B cp)) c [119] [] 0 z B cp rfl false S none _ (Nat.le_refl _) hB hSl
    rw [List.take_length, apF_ne hS] at this
    exact ⟨_, _, .inr ⟨⟨_, _, rfl⟩, hc⟩, this⟩
end Go.Proofs.Ytjlfojgacnphmaa

namespace Go.Proofs.Ytjlfojgacnphmaa
open Go.RowKit Sim Go Sym
set_option maxRecDepth 100000
set_option linter.unusedVariables false
set_option linter.unusedSimpArgs false
variable {base : Nat}
theorem seal_le {n : Int} {b : List Int} (h1 : 1 ≤ n) (h2 : n ≤ 2000000000000000) (hb : b.length ≤ 30000) : (sealB (recB n b)).length ≤ b.length + 18 := by
  have hn := numB_len (n := n) (by omega) (by omega)
  have hrl : (recB n b).length ≤ 65536 := by simp [recB]; omega
  rw [seal_len hrl]
  simp [recB]
  omega
theorem seal_ne {n : Int} {b : List Int} (h1 : 1 ≤ n) (h2 : n ≤ 2000000000000000) (hb : b.length ≤ 30000) : sealB (recB n b) ≠ [] := fun e => by
  have hn := numB_len (n := n) (by omega) (by omega)
  have hrl : (recB n b).length ≤ 65536 := by simp [recB]; omega
  have := seal_len hrl
  rw [e] at this
  simp at this
  omega
theorem W_append {s : WS} {f : Int} {R : List (List Int)} (hi : WInv s f R) (f2 n : Int) (hff : R ≠ [] → f2 = f) (hn : n = f2 + (R.length : Nat)) (z : Bool) (b : List Int) (cb : Option Nat) (hB : Bytes b) (hb : b.length ≤ 30000) (hok : RecOK f2 (R ++ [b])) (hRl : R.length ≤ 9000) (hsz2 : (flatR f R).length + b.length ≤ 390000) (hnl : s.lg = .nil → s.dk = none) (hdk : wtN s.dk ≤ 100000) :
    CW base 21 [.c (.ptr 2 0), .c (.p (.int .i64 n)), .c (.p (.tz z 1 (u8P b) cb))] s (fun r s' => r = .c (.p (.int .i64 0)) ∧ WInv s' f2 (R ++ [b]) ∧ s'.L = s.L ∧ s'.lc = s.lc ∧ s'.dk = wt (chA (sealB (recB n b))) s.dk ∧ s'.lg ≠ .nil) := by
  have hn1 := hok.len
  simp only [List.length_append, List.length_cons, List.length_nil] at hn1
  obtain ⟨room, first, en, L, lc, F, c, _ | ⟨w, W⟩, _ | _ | ⟨o, m, X, Y⟩⟩ := s
  · exact hi.lg.elim
  · obtain rfl : R = [] := hi.lg
    obtain rfl : n = f2 := by simp at hn; exact hn
    have hsl := seal_le (n := n) (b := b) (by omega) (by omega) hb
    have hF := hi.file
    have hrm : room = mB := hi.room
    have hen : en = _ := hi.en
    obtain ⟨F2, c2, hF2, hdo⟩ := hF.app (base := base) (sealB (recB n b)) (seal_ne (by omega) (by omega) hb) (by simp [flatR]) (by omega)
    refine CallR.leaf (wappend00_spec room first en L lc F c n ⟨by omega, by omega⟩ z b cb hB hb ⟨by omega, by omega⟩ hF.ok (by rw [hrm, mB_eq]; omega) (by rw [hF.used, hrm, mB_eq]; simp [flatR] at *; omega) (.inr hF.len) F2 c2 hdo) [(0, 2), (1, 0), (2, 3), (3, 4)] rfl rfl (by repeat' (first | exact True.intro | refine hpC rfl rfl rfl ?_ | refine ⟨⟨_, _, _, rfl, rfl, rfl, @WkO.rfl _⟩, ?_⟩ | refine HeapOK.acc rfl rfl ?_)) rfl rfl (.c (.p (.int .i64 0))) (⟨room, n, en + (sealB (recB n b)).length, L, lc, F2, c2, some (chA (sealB (recB n b)), []), .own 0 1 [fP z b none] [.int .i64 en]⟩ : WS) [(0, 0), (1, 1), (2, 2), (3, 3), (4, 4), (5, 8), (6, 9), (7, 10)] rfl rfl Wk.rfl ⟨(hpX rfl rfl rfl), (hpX rfl rfl rfl), (hpX rfl rfl rfl), (hpX rfl rfl rfl), (hpX rfl rfl rfl), ⟨_, _, _, rfl, rfl, rfl, WkO.row ⟨Wk.rfl, Wk.rfl, rowAcc rfl 1 _, rowAcc rfl 1 _, Wk.rfl, trivial⟩⟩, (hpX rfl rfl rfl), trivial⟩ ⟨rfl, ?_, rfl, rfl, rfl, fun h => by cases h⟩
    refine ⟨fun _ => hok, hrm, ?_, ?_, fun _ => rfl, ?_, ?_⟩
    · show en + _ = _
      rw [hen]
      simp [flatR]
    · rw [show en = 0 by rw [hen]; simp [flatR]]
      exact LGok.first
    · simpa [flatR] using hF2
    · simp [flatR]
      omega
  · have h := hi.lg
    obtain ⟨rfl, hX, hXY, hXr, hYr⟩ := h
    cases hR : R with
    | nil =>
      subst hR
      obtain rfl : n = f2 := by simp at hn; exact hn
      have hsl := seal_le (n := n) (b := b) (by omega) (by omega) hb
      have hF := hi.file
      have hrm : room = mB := hi.room
      have hen : en = _ := hi.en
      obtain ⟨F2, c2, hF2, hdo⟩ := hF.app (base := base) (sealB (recB n b)) (seal_ne (by omega) (by omega) hb) (by simp [flatR]) (by omega)
      have hlg : LGok n [] (.own o 0 X Y) := hi.lg.free
      have he0 : en = 0 := by rw [hen]; simp [flatR]
      by_cases hl : o < X.length
      · refine CallR.leaf (gapp0i0_spec room first en o L lc F c X Y n ⟨by omega, by omega⟩ (by omega) (by omega) z b cb hB hb ⟨by omega, by omega⟩ hF.ok (by rw [hrm, mB_eq]; omega) (by rw [hF.used, hrm, mB_eq]; simp [flatR] at *; omega) (.inr hF.len) F2 c2 hdo) [(0, 2), (1, 0), (2, 3), (3, 4), (4, 6), (5, 7)] rfl rfl (by repeat' (first | exact True.intro | refine hpC rfl rfl rfl ?_ | refine ⟨⟨_, _, _, rfl, rfl, rfl, @WkO.rfl _⟩, ?_⟩ | refine HeapOK.acc rfl rfl ?_)) rfl rfl (.c (.p (.int .i64 0))) (⟨room, n, en + (sealB (recB n b)).length, L, lc, F2, c2, wt (chA (sealB (recB n b))) (none), .own o (0 + 1) (X.set (o + 0) (fP z b none)) (Y.set (o + 0) (.int .i64 en))⟩ : WS) [(0, 0), (1, 1), (2, 2), (3, 3), (4, 4), (5, 8), (6, 6), (7, 7)] rfl rfl Wk.rfl (by repeat' (first | exact True.intro | refine hpC rfl rfl rfl ?_ | refine ⟨⟨_, _, _, rfl, rfl, rfl, @WkO.rfl _⟩, ?_⟩ | refine HeapOK.acc rfl rfl ?_)) ⟨rfl, ?_, rfl, rfl, rfl, fun h => by cases h⟩
        refine ⟨fun _ => hok, hrm, ?_, ?_, fun _ => rfl, ?_, ?_⟩
        · show en + _ = _
          rw [hen]
          simp [flatR]
        · have := hlg.app_i (b := b) (z := z) (by omega)
          rw [he0]
          simpa [flatR] using this
        · simpa [flatR] using hF2
        · simp [flatR]
          omega
      · refine CallR.leaf (gapp0g0_spec room first en o L lc F c X Y n ⟨by omega, by omega⟩ (by omega) (by omega) z b cb hB hb ⟨by omega, by omega⟩ hF.ok (by rw [hrm, mB_eq]; omega) (by rw [hF.used, hrm, mB_eq]; simp [flatR] at *; omega) (.inr hF.len) F2 c2 hdo) [(0, 2), (1, 0), (2, 3), (3, 4), (4, 6), (5, 7)] rfl rfl (by repeat' (first | exact True.intro | refine hpC rfl rfl rfl ?_ | refine ⟨⟨_, _, _, rfl, rfl, rfl, @WkO.rfl _⟩, ?_⟩ | refine HeapOK.acc rfl rfl ?_)) rfl rfl (.c (.p (.int .i64 0))) (⟨room, n, en + (sealB (recB n b)).length, L, lc, F2, c2, wt (chA (sealB (recB n b))) (none), .own 0 (0 + 1) (X.drop o ++ [fP z b none]) (Y.drop o ++ [.int .i64 en])⟩ : WS) [(0, 0), (1, 1), (2, 2), (3, 3), (4, 4), (5, 8), (6, 9), (7, 10)] rfl rfl Wk.rfl (by repeat' (first | exact True.intro | refine hpC rfl rfl rfl ?_ | refine ⟨⟨_, _, _, rfl, rfl, rfl, @WkO.rfl _⟩, ?_⟩ | refine HeapOK.acc rfl rfl ?_)) ⟨rfl, ?_, rfl, rfl, rfl, fun h => by cases h⟩
        refine ⟨fun _ => hok, hrm, ?_, ?_, fun _ => rfl, ?_, ?_⟩
        · show en + _ = _
          rw [hen]
          simp [flatR]
        · have := hlg.app_g (b := b) (z := z) (by omega)
          rw [he0]
          simpa [flatR] using this
        · simpa [flatR] using hF2
        · simp [flatR]
          omega
    | cons b1 T =>
      have hne : R ≠ [] := by rw [hR]; simp
      obtain ⟨g1, g2, g3⟩ := (hi.ok hne).len
      have hf := hi.first hne
      rw [hR] at g2 g3 hX hXr hYr
      simp at g2 g3 hf hX
      subst hf
      obtain rfl : f2 = first := hff hne
      rw [hR] at hn hok hRl
      have hlR : ((b1 :: T).length : Int) = T.length + 1 := by simp
      have hsl := seal_le (n := n) (b := b) (by omega) (by omega) hb
      have hF := hi.file
      have hrm : room = mB := hi.room
      have hen : en = _ := hi.en
      have hsz := hi.sz
      rw [hR] at hF hen hsz hsz2
      have hff2 := flatR_app (b1 :: T) f2 b
      rw [← hn] at hff2
      obtain ⟨F2, c2, hF2, hdo⟩ := hF.app (base := base) (sealB (recB n b)) (seal_ne (by omega) (by omega) hb) (by omega) (by omega)
      have hlg : LGok f2 (b1 :: T) (.own o (b1 :: T).length X Y) := by have := hi.lg; rw [hR] at this; exact this
      by_cases hl : o + (b1 :: T).length < X.length
      · refine CallR.leaf (gapp0i1_spec room f2 en o (b1 :: T).length L lc F c X Y n ⟨by omega, by omega⟩ (by omega) (by omega) (by rw [hXY]; omega) (by simp; omega) (by simp) ⟨by omega, by omega⟩ z b cb hB hb ⟨by omega, by omega⟩ hF.ok (by rw [hrm, mB_eq]; omega) (by rw [hF.used, hrm, mB_eq]; omega) (.inr hF.len) F2 c2 hdo) [(0, 2), (1, 0), (2, 3), (3, 4), (4, 6), (5, 7)] rfl rfl (by repeat' (first | exact True.intro | refine hpC rfl rfl rfl ?_ | refine ⟨⟨_, _, _, rfl, rfl, rfl, @WkO.rfl _⟩, ?_⟩ | refine HeapOK.acc rfl rfl ?_)) rfl rfl (.c (.p (.int .i64 0))) (⟨room, f2, en + (sealB (recB n b)).length, L, lc, F2, c2, wt (chA (sealB (recB n b))) (none), .own o ((b1 :: T).length + 1) (X.set (o + (b1 :: T).length) (fP z b none)) (Y.set (o + (b1 :: T).length) (.int .i64 en))⟩ : WS) [(0, 0), (1, 1), (2, 2), (3, 3), (4, 4), (5, 8), (6, 6), (7, 7)] rfl rfl Wk.rfl (by repeat' (first | exact True.intro | refine hpC rfl rfl rfl ?_ | refine ⟨⟨_, _, _, rfl, rfl, rfl, @WkO.rfl _⟩, ?_⟩ | refine HeapOK.acc rfl rfl ?_)) ⟨rfl, ?_, rfl, rfl, rfl, fun h => by cases h⟩
        refine ⟨fun _ => hok, hrm, ?_, ?_, fun _ => rfl, ?_, ?_⟩
        · show en + _ = _
          rw [hen, hff2, List.length_append]
          omega
        · have := hlg.app_i (b := b) (z := z) (by omega)
          rw [← hen] at this
          exact this
        · rw [hff2]
          exact hF2
        · rw [hff2, List.length_append]
          omega
      · refine CallR.leaf (gapp0g1_spec room f2 en o (b1 :: T).length L lc F c X Y n ⟨by omega, by omega⟩ (by omega) (by omega) (by rw [hXY]; omega) (by simp; omega) (by simp) ⟨by omega, by omega⟩ z b cb hB hb ⟨by omega, by omega⟩ hF.ok (by rw [hrm, mB_eq]; omega) (by rw [hF.used, hrm, mB_eq]; omega) (.inr hF.len) F2 c2 hdo) [(0, 2), (1, 0), (2, 3), (3, 4), (4, 6), (5, 7)] rfl rfl (by repeat' (first | exact True.intro | refine hpC rfl rfl rfl ?_ | refine ⟨⟨_, _, _, rfl, rfl, rfl, @WkO.rfl _⟩, ?_⟩ | refine HeapOK.acc rfl rfl ?_)) rfl rfl (.c (.p (.int .i64 0))) (⟨room, f2, en + (sealB (recB n b)).length, L, lc, F2, c2, wt (chA (sealB (recB n b))) (none), .own 0 ((b1 :: T).length + 1) (X.drop o ++ [fP z b none]) (Y.drop o ++ [.int .i64 en])⟩ : WS) [(0, 0), (1, 1), (2, 2), (3, 3), (4, 4), (5, 8), (6, 9), (7, 10)] rfl rfl Wk.rfl (by repeat' (first | exact True.intro | refine hpC rfl rfl rfl ?_ | refine ⟨⟨_, _, _, rfl, rfl, rfl, @WkO.rfl _⟩, ?_⟩ | refine HeapOK.acc rfl rfl ?_)) ⟨rfl, ?_, rfl, rfl, rfl, fun h => by cases h⟩
        refine ⟨fun _ => hok, hrm, ?_, ?_, fun _ => rfl, ?_, ?_⟩
        · show en + _ = _
          rw [hen, hff2, List.length_append]
          omega
        · have := hlg.app_g (b := b) (z := z) (by omega)
          rw [← hen] at this
          exact this
        · rw [hff2]
          exact hF2
        · rw [hff2, List.length_append]
          omega
  · exact hi.lg.elim
  · obtain rfl : R = [] := hi.lg
    exact absurd (hnl rfl) (by simp)
  · have h := hi.lg
    obtain ⟨rfl, hX, hXY, hXr, hYr⟩ := h
    cases hR : R with
    | nil =>
      subst hR
      obtain rfl : n = f2 := by simp at hn; exact hn
      have hsl := seal_le (n := n) (b := b) (by omega) (by omega) hb
      have hF := hi.file
      have hrm : room = mB := hi.room
      have hen : en = _ := hi.en
      obtain ⟨F2, c2, hF2, hdo⟩ := hF.app (base := base) (sealB (recB n b)) (seal_ne (by omega) (by omega) hb) (by simp [flatR]) (by omega)
      have hlg : LGok n [] (.own o 0 X Y) := hi.lg.free
      have he0 : en = 0 := by rw [hen]; simp [flatR]
      by_cases hl : o < X.length
      · refine CallR.leaf (gapp1i0_spec room first en o L lc F c w W X Y n ⟨by omega, by omega⟩ (by omega) (by omega) (by simp [wtN] at hdk; omega) z b cb hB hb ⟨by omega, by omega⟩ hF.ok (by rw [hrm, mB_eq]; omega) (by rw [hF.used, hrm, mB_eq]; simp [flatR] at *; omega) (.inr hF.len) F2 c2 hdo) [(0, 2), (1, 0), (2, 3), (3, 4), (4, 5), (5, 6), (6, 7)] rfl rfl (by repeat' (first | exact True.intro | refine hpC rfl rfl rfl ?_ | refine ⟨⟨_, _, _, rfl, rfl, rfl, @WkO.rfl _⟩, ?_⟩ | refine HeapOK.acc rfl rfl ?_)) rfl rfl (.c (.p (.int .i64 0))) (⟨room, n, en + (sealB (recB n b)).length, L, lc, F2, c2, wt (chA (sealB (recB n b))) (some (w, W)), .own o (0 + 1) (X.set (o + 0) (fP z b none)) (Y.set (o + 0) (.int .i64 en))⟩ : WS) [(0, 0), (1, 1), (2, 2), (3, 3), (4, 4), (5, 8), (6, 6), (7, 7)] rfl rfl Wk.rfl (by repeat' (first | exact True.intro | refine hpC rfl rfl rfl ?_ | refine ⟨⟨_, _, _, rfl, rfl, rfl, @WkO.rfl _⟩, ?_⟩ | refine HeapOK.acc rfl rfl ?_)) ⟨rfl, ?_, rfl, rfl, rfl, fun h => by cases h⟩
        refine ⟨fun _ => hok, hrm, ?_, ?_, fun _ => rfl, ?_, ?_⟩
        · show en + _ = _
          rw [hen]
          simp [flatR]
        · have := hlg.app_i (b := b) (z := z) (by omega)
          rw [he0]
          simpa [flatR] using this
        · simpa [flatR] using hF2
        · simp [flatR]
          omega
      · refine CallR.leaf (gapp1g0_spec room first en o L lc F c w W X Y n ⟨by omega, by omega⟩ (by omega) (by omega) (by simp [wtN] at hdk; omega) z b cb hB hb ⟨by omega, by omega⟩ hF.ok (by rw [hrm, mB_eq]; omega) (by rw [hF.used, hrm, mB_eq]; simp [flatR] at *; omega) (.inr hF.len) F2 c2 hdo) [(0, 2), (1, 0), (2, 3), (3, 4), (4, 5), (5, 6), (6, 7)] rfl rfl (by repeat' (first | exact True.intro | refine hpC rfl rfl rfl ?_ | refine ⟨⟨_, _, _, rfl, rfl, rfl, @WkO.rfl _⟩, ?_⟩ | refine HeapOK.acc rfl rfl ?_)) rfl rfl (.c (.p (.int .i64 0))) (⟨room, n, en + (sealB (recB n b)).length, L, lc, F2, c2, wt (chA (sealB (recB n b))) (some (w, W)), .own 0 (0 + 1) (X.drop o ++ [fP z b none]) (Y.drop o ++ [.int .i64 en])⟩ : WS) [(0, 0), (1, 1), (2, 2), (3, 3), (4, 4), (5, 8), (6, 9), (7, 10)] rfl rfl Wk.rfl (by repeat' (first | exact True.intro | refine hpC rfl rfl rfl ?_ | refine ⟨⟨_, _, _, rfl, rfl, rfl, @WkO.rfl _⟩, ?_⟩ | refine HeapOK.acc rfl rfl ?_)) ⟨rfl, ?_, rfl, rfl, rfl, fun h => by cases h⟩
        refine ⟨fun _ => hok, hrm, ?_, ?_, fun _ => rfl, ?_, ?_⟩
        · show en + _ = _
          rw [hen]
          simp [flatR]
        · have := hlg.app_g (b := b) (z := z) (by omega)
          rw [he0]
          simpa [flatR] using this
        · simpa [flatR] using hF2
        · simp [flatR]
          omega
    | cons b1 T =>
      have hne : R ≠ [] := by rw [hR]; simp
      obtain ⟨g1, g2, g3⟩ := (hi.ok hne).len
      have hf := hi.first hne
      rw [hR] at g2 g3 hX hXr hYr
      simp at g2 g3 hf hX
      subst hf
      obtain rfl : f2 = first := hff hne
      rw [hR] at hn hok hRl
      have hlR : ((b1 :: T).length : Int) = T.length + 1 := by simp
      have hsl := seal_le (n := n) (b := b) (by omega) (by omega) hb
      have hF := hi.file
      have hrm : room = mB := hi.room
      have hen : en = _ := hi.en
      have hsz := hi.sz
      rw [hR] at hF hen hsz hsz2
      have hff2 := flatR_app (b1 :: T) f2 b
      rw [← hn] at hff2
      obtain ⟨F2, c2, hF2, hdo⟩ := hF.app (base := base) (sealB (recB n b)) (seal_ne (by omega) (by omega) hb) (by omega) (by omega)
      have hlg : LGok f2 (b1 :: T) (.own o (b1 :: T).length X Y) := by have := hi.lg; rw [hR] at this; exact this
      by_cases hl : o + (b1 :: T).length < X.length
      · refine CallR.leaf (gapp1i1_spec room f2 en o (b1 :: T).length L lc F c w W X Y n ⟨by omega, by omega⟩ (by omega) (by omega) (by rw [hXY]; omega) (by simp; omega) (by simp) ⟨by omega, by omega⟩ (by simp [wtN] at hdk; omega) z b cb hB hb ⟨by omega, by omega⟩ hF.ok (by rw [hrm, mB_eq]; omega) (by rw [hF.used, hrm, mB_eq]; omega) (.inr hF.len) F2 c2 hdo) [(0, 2), (1, 0), (2, 3), (3, 4), (4, 5), (5, 6), (6, 7)] rfl rfl (by repeat' (first | exact True.intro | refine hpC rfl rfl rfl ?_ | refine ⟨⟨_, _, _, rfl, rfl, rfl, @WkO.rfl _⟩, ?_⟩ | refine HeapOK.acc rfl rfl ?_)) rfl rfl (.c (.p (.int .i64 0))) (⟨room, f2, en + (sealB (recB n b)).length, L, lc, F2, c2, wt (chA (sealB (recB n b))) (some (w, W)), .own o ((b1 :: T).length + 1) (X.set (o + (b1 :: T).length) (fP z b none)) (Y.set (o + (b1 :: T).length) (.int .i64 en))⟩ : WS) [(0, 0), (1, 1), (2, 2), (3, 3), (4, 4), (5, 8), (6, 6), (7, 7)] rfl rfl Wk.rfl (by repeat' (first | exact True.intro | refine hpC rfl rfl rfl ?_ | refine ⟨⟨_, _, _, rfl, rfl, rfl, @WkO.rfl _⟩, ?_⟩ | refine HeapOK.acc rfl rfl ?_)) ⟨rfl, ?_, rfl, rfl, rfl, fun h => by cases h⟩
        refine ⟨fun _ => hok, hrm, ?_, ?_, fun _ => rfl, ?_, ?_⟩
        · show en + _ = _
          rw [hen, hff2, List.length_append]
          omega
        · have := hlg.app_i (b := b) (z := z) (by omega)
          rw [← hen] at this
          exact this
        · rw [hff2]
          exact hF2
        · rw [hff2, List.length_append]
          omega
      · refine CallR.leaf (gapp1g1_spec room f2 en o (b1 :: T).length L lc F c w W X Y n ⟨by omega, by omega⟩ (by omega) (by omega) (by rw [hXY]; omega) (by simp; omega) (by simp) ⟨by omega, by omega⟩ (by simp [wtN] at hdk; omega) z b cb hB hb ⟨by omega, by omega⟩ hF.ok (by rw [hrm, mB_eq]; omega) (by rw [hF.used, hrm, mB_eq]; omega) (.inr hF.len) F2 c2 hdo) [(0, 2), (1, 0), (2, 3), (3, 4), (4, 5), (5, 6), (6, 7)] rfl rfl (by repeat' (first | exact True.intro | refine hpC rfl rfl rfl ?_ | refine ⟨⟨_, _, _, rfl, rfl, rfl, @WkO.rfl _⟩, ?_⟩ | refine HeapOK.acc rfl rfl ?_)) rfl rfl (.c (.p (.int .i64 0))) (⟨room, f2, en + (sealB (recB n b)).length, L, lc, F2, c2, wt (chA (sealB (recB n b))) (some (w, W)), .own 0 ((b1 :: T).length + 1) (X.drop o ++ [fP z b none]) (Y.drop o ++ [.int .i64 en])⟩ : WS) [(0, 0), (1, 1), (2, 2), (3, 3), (4, 4), (5, 8), (6, 9), (7, 10)] rfl rfl Wk.rfl (by repeat' (first | exact True.intro | refine hpC rfl rfl rfl ?_ | refine ⟨⟨_, _, _, rfl, rfl, rfl, @WkO.rfl _⟩, ?_⟩ | refine HeapOK.acc rfl rfl ?_)) ⟨rfl, ?_, rfl, rfl, rfl, fun h => by cases h⟩
        refine ⟨fun _ => hok, hrm, ?_, ?_, fun _ => rfl, ?_, ?_⟩
        · show en + _ = _
          rw [hen, hff2, List.length_append]
          omega
        · have := hlg.app_g (b := b) (z := z) (by omega)
          rw [← hen] at this
          exact this
        · rw [hff2]
          exact hF2
        · rw [hff2, List.length_append]
          omega
end Go.Proofs.Ytjlfojgacnphmaa

namespace Go.Proofs.Ytjlfojgacnphmaa
open Go.RowKit Sim Go Sym
set_option maxRecDepth 100000
set_option linter.unusedVariables false
set_option linter.unusedSimpArgs false
variable {base : Nat}
theorem W_sync {s : WS} {f : Int} {R : List (List Int)} (hi : WInv s f R) (hnl : s.lg = .nil → s.dk = none) : CW base 22 [.c (.ptr 2 0)] s (fun r s' => r = .tup [] ∧ s' = { s with L := s.F, lc := s.c, dk := none }) := by
  obtain ⟨room, first, en, L, lc, F, c, _ | ⟨w, W⟩, _ | _ | ⟨o, m, X, Y⟩⟩ := s
  · exact hi.lg.elim
  · obtain rfl : R = [] := hi.lg
    exact CallR.leaf (wsync00_spec room first en L lc F c) [(0, 2), (1, 0), (2, 3), (3, 4)] rfl rfl (by repeat' (first | exact True.intro | refine hpC rfl rfl rfl ?_ | refine ⟨⟨_, _, _, rfl, rfl, rfl, @WkO.rfl _⟩, ?_⟩ | refine HeapOK.acc rfl rfl ?_)) rfl rfl (.tup []) (⟨room, first, en, F, c, F, c, none, .nil⟩ : WS) [(0, 0), (1, 1), (2, 2), (3, 8), (4, 4), (5, 5), (6, 6), (7, 7)] rfl rfl Wk.rfl (by repeat' (first | exact True.intro | refine hpC rfl rfl rfl ?_ | refine ⟨⟨_, _, _, rfl, rfl, rfl, @WkO.rfl _⟩, ?_⟩ | refine HeapOK.acc rfl rfl ?_)) ⟨rfl, rfl⟩
  · have h := hi.lg
    obtain ⟨rfl, hX, hXY, hXr, hYr⟩ := h
    cases hR : R with
    | nil =>
      subst hR
      exact CallR.leaf (gsync0_spec room first en o 0 L lc F c X Y) [(0, 2), (1, 0), (2, 3), (3, 4), (4, 6), (5, 7)] rfl rfl (by repeat' (first | exact True.intro | refine hpC rfl rfl rfl ?_ | refine ⟨⟨_, _, _, rfl, rfl, rfl, @WkO.rfl _⟩, ?_⟩ | refine HeapOK.acc rfl rfl ?_)) rfl rfl (.tup []) (⟨room, first, en, F, c, F, c, none, .own o 0 X Y⟩ : WS) [(0, 0), (1, 1), (2, 2), (3, 8), (4, 4), (5, 5), (6, 6), (7, 7)] rfl rfl Wk.rfl (by repeat' (first | exact True.intro | refine hpC rfl rfl rfl ?_ | refine ⟨⟨_, _, _, rfl, rfl, rfl, @WkO.rfl _⟩, ?_⟩ | refine HeapOK.acc rfl rfl ?_)) ⟨rfl, rfl⟩
    | cons b1 T =>
      have hne : R ≠ [] := by rw [hR]; simp
      obtain ⟨g1, g2, g3⟩ := (hi.ok hne).len
      have hf := hi.first hne
      rw [hR] at g2 g3 hX hXr hYr
      simp at g2 g3 hf hX
      subst hf
      exact CallR.leaf (gsync0_spec room first en o (b1 :: T).length L lc F c X Y) [(0, 2), (1, 0), (2, 3), (3, 4), (4, 6), (5, 7)] rfl rfl (by repeat' (first | exact True.intro | refine hpC rfl rfl rfl ?_ | refine ⟨⟨_, _, _, rfl, rfl, rfl, @WkO.rfl _⟩, ?_⟩ | refine HeapOK.acc rfl rfl ?_)) rfl rfl (.tup []) (⟨room, first, en, F, c, F, c, none, .own o (b1 :: T).length X Y⟩ : WS) [(0, 0), (1, 1), (2, 2), (3, 8), (4, 4), (5, 5), (6, 6), (7, 7)] rfl rfl Wk.rfl (by repeat' (first | exact True.intro | refine hpC rfl rfl rfl ?_ | refine ⟨⟨_, _, _, rfl, rfl, rfl, @WkO.rfl _⟩, ?_⟩ | refine HeapOK.acc rfl rfl ?_)) ⟨rfl, rfl⟩
  · exact hi.lg.elim
  · obtain rfl : R = [] := hi.lg
    exact absurd (hnl rfl) (by simp)
  · have h := hi.lg
    obtain ⟨rfl, hX, hXY, hXr, hYr⟩ := h
    cases hR : R with
    | nil =>
      subst hR
      exact CallR.leaf (gsync1_spec room first en o 0 L lc F c w W X Y) [(0, 2), (1, 0), (2, 3), (3, 4), (4, 5), (5, 6), (6, 7)] rfl rfl (by repeat' (first | exact True.intro | refine hpC rfl rfl rfl ?_ | refine ⟨⟨_, _, _, rfl, rfl, rfl, @WkO.rfl _⟩, ?_⟩ | refine HeapOK.acc rfl rfl ?_)) rfl rfl (.tup []) (⟨room, first, en, F, c, F, c, none, .own o 0 X Y⟩ : WS) [(0, 0), (1, 1), (2, 2), (3, 8), (4, 4), (5, 5), (6, 6), (7, 7)] rfl rfl Wk.rfl (by repeat' (first | exact True.intro | refine hpC rfl rfl rfl ?_ | refine ⟨⟨_, _, _, rfl, rfl, rfl, @WkO.rfl _⟩, ?_⟩ | refine HeapOK.acc rfl rfl ?_)) ⟨rfl, rfl⟩
    | cons b1 T =>
      have hne : R ≠ [] := by rw [hR]; simp
      obtain ⟨g1, g2, g3⟩ := (hi.ok hne).len
      have hf := hi.first hne
      rw [hR] at g2 g3 hX hXr hYr
      simp at g2 g3 hf hX
      subst hf
      exact CallR.leaf (gsync1_spec room first en o (b1 :: T).length L lc F c w W X Y) [(0, 2), (1, 0), (2, 3), (3, 4), (4, 5), (5, 6), (6, 7)] rfl rfl (by repeat' (first | exact True.intro | refine hpC rfl rfl rfl ?_ | refine ⟨⟨_, _, _, rfl, rfl, rfl, @WkO.rfl _⟩, ?_⟩ | refine HeapOK.acc rfl rfl ?_)) rfl rfl (.tup []) (⟨room, first, en, F, c, F, c, none, .own o (b1 :: T).length X Y⟩ : WS) [(0, 0), (1, 1), (2, 2), (3, 8), (4, 4), (5, 5), (6, 6), (7, 7)] rfl rfl Wk.rfl (by repeat' (first | exact True.intro | refine hpC rfl rfl rfl ?_ | refine ⟨⟨_, _, _, rfl, rfl, rfl, @WkO.rfl _⟩, ?_⟩ | refine HeapOK.acc rfl rfl ?_)) ⟨rfl, rfl⟩
theorem W_from_y {s : WS} {f : Int} {R : List (List Int)} (hi : WInv s f R) (n : Int) (hne0 : R ≠ []) (hn1 : 1 ≤ n) (hn : n < f + R.length) (κ : Nat) (hk : (κ : Int) = max 0 (n - f)) (hdk : wtN s.dk ≤ 100000) : CW base 25 [.c (.ptr 2 0), .c (.p (.int .i64 n))] s (fun r s' => r = .c (.p (.int .i64 0)) ∧ WInv s' f (R.take κ) ∧ s'.L = s.L ∧ s'.lc = s.lc ∧ s'.dk = wt (chC (flatR f (R.take κ)).length) s.dk ∧ s'.lg ≠ .nil) := by
  obtain ⟨room, first, en, L, lc, F, c, _ | ⟨w, W⟩, _ | _ | ⟨o, m, X, Y⟩⟩ := s
  · exact hi.lg.elim
  · obtain rfl : R = [] := hi.lg
    exact absurd rfl hne0
  · have h := hi.lg
    obtain ⟨rfl, hX, hXY, hXr, hYr⟩ := h
    cases hR : R with
    | nil =>
      subst hR
      exact absurd rfl hne0
    | cons b1 T =>
      have hne : R ≠ [] := by rw [hR]; simp
      obtain ⟨g1, g2, g3⟩ := (hi.ok hne).len
      have hf := hi.first hne
      rw [hR] at g2 g3 hX hXr hYr
      simp at g2 g3 hf hX
      subst hf
      obtain hff : first = _ := hi.first hne
      have hF := hi.file
      have hrm : room = mB := hi.room
      have hen : en = _ := hi.en
      have hsz := hi.sz
      have hok := hi.ok hne
      rw [hR] at hF hen hsz hok
      have hlR : ((b1 :: T).length : Int) = T.length + 1 := by simp
      rw [hR] at hn
      have hκ : κ < (b1 :: T).length := by omega
      have hTl : (b1 :: T).length = T.length + 1 := rfl
      have hlg : LGok first (b1 :: T) (.own o (T.length + 1) X Y) := by have := hi.lg; rw [hR] at this; exact this
      have hBne : flatR first (b1 :: T) ≠ [] := fun e => by have := flatR_pos hok; rw [e] at this; simp at this
      obtain ⟨z, cp, hfd, hFc⟩ := hF.cut hBne
      refine CallR.leaf (gfrom0_y room first en o T.length L lc F c X Y n ⟨hn1, by omega⟩ (by omega) ⟨by omega, by omega⟩ (by omega) κ (flatR first ((b1 :: T).take κ)).length (by rw [hk]; split <;> omega) z (flatR first (b1 :: T)) cp hfd (flatR_le _ _ _) (hlg.2.2.2.2 κ (by omega))) [(0, 2), (1, 0), (2, 3), (3, 4), (4, 6), (5, 7)] rfl rfl (by repeat' (first | exact True.intro | refine hpC rfl rfl rfl ?_ | refine ⟨⟨_, _, _, rfl, rfl, rfl, @WkO.rfl _⟩, ?_⟩ | refine HeapOK.acc rfl rfl ?_)) rfl rfl (.c (.p (.int .i64 0))) (⟨room, first, ((flatR first ((b1 :: T).take κ)).length : Nat), L, lc, updP [119] (cutF z (flatR first (b1 :: T)) (flatR first ((b1 :: T).take κ)).length) c F, updPC [119] (cutF z (flatR first (b1 :: T)) (flatR first ((b1 :: T).take κ)).length) c F, wt (chC (flatR first ((b1 :: T).take κ)).length) (none), .own o κ X Y⟩ : WS) [(0, 0), (1, 1), (2, 2), (3, 3), (4, 4), (5, 8), (6, 6), (7, 7)] rfl rfl Wk.rfl (by repeat' (first | exact True.intro | refine hpC rfl rfl rfl ?_ | refine ⟨⟨_, _, _, rfl, rfl, rfl, @WkO.rfl _⟩, ?_⟩ | refine HeapOK.acc rfl rfl ?_)) ⟨rfl, ?_, rfl, rfl, rfl, fun h => by cases h⟩
      refine ⟨fun _ => hok.take κ, hrm, rfl, hlg.take (by omega), fun _ => rfl, ?_, ?_⟩
      · have := hFc (flatR first ((b1 :: T).take κ)).length
        rw [flatR_take] at this
        exact this
      · exact Nat.le_trans (flatR_le _ _ _) hsz
  · exact hi.lg.elim
  · obtain rfl : R = [] := hi.lg
    exact absurd rfl hne0
  · have h := hi.lg
    obtain ⟨rfl, hX, hXY, hXr, hYr⟩ := h
    cases hR : R with
    | nil =>
      subst hR
      exact absurd rfl hne0
    | cons b1 T =>
      have hne : R ≠ [] := by rw [hR]; simp
      obtain ⟨g1, g2, g3⟩ := (hi.ok hne).len
      have hf := hi.first hne
      rw [hR] at g2 g3 hX hXr hYr
      simp at g2 g3 hf hX
      subst hf
      obtain hff : first = _ := hi.first hne
      have hF := hi.file
      have hrm : room = mB := hi.room
      have hen : en = _ := hi.en
      have hsz := hi.sz
      have hok := hi.ok hne
      rw [hR] at hF hen hsz hok
      have hlR : ((b1 :: T).length : Int) = T.length + 1 := by simp
      rw [hR] at hn
      have hκ : κ < (b1 :: T).length := by omega
      have hTl : (b1 :: T).length = T.length + 1 := rfl
      have hlg : LGok first (b1 :: T) (.own o (T.length + 1) X Y) := by have := hi.lg; rw [hR] at this; exact this
      have hBne : flatR first (b1 :: T) ≠ [] := fun e => by have := flatR_pos hok; rw [e] at this; simp at this
      obtain ⟨z, cp, hfd, hFc⟩ := hF.cut hBne
      refine CallR.leaf (gfrom1_y room first en o T.length L lc F c w W X Y n ⟨hn1, by omega⟩ (by omega) ⟨by omega, by omega⟩ (by omega) (by simp [wtN] at hdk; omega) κ (flatR first ((b1 :: T).take κ)).length (by rw [hk]; split <;> omega) z (flatR first (b1 :: T)) cp hfd (flatR_le _ _ _) (hlg.2.2.2.2 κ (by omega))) [(0, 2), (1, 0), (2, 3), (3, 4), (4, 5), (5, 6), (6, 7)] rfl rfl (by repeat' (first | exact True.intro | refine hpC rfl rfl rfl ?_ | refine ⟨⟨_, _, _, rfl, rfl, rfl, @WkO.rfl _⟩, ?_⟩ | refine HeapOK.acc rfl rfl ?_)) rfl rfl (.c (.p (.int .i64 0))) (⟨room, first, ((flatR first ((b1 :: T).take κ)).length : Nat), L, lc, updP [119] (cutF z (flatR first (b1 :: T)) (flatR first ((b1 :: T).take κ)).length) c F, updPC [119] (cutF z (flatR first (b1 :: T)) (flatR first ((b1 :: T).take κ)).length) c F, wt (chC (flatR first ((b1 :: T).take κ)).length) (some (w, W)), .own o κ X Y⟩ : WS) [(0, 0), (1, 1), (2, 2), (3, 3), (4, 4), (5, 8), (6, 6), (7, 7)] rfl rfl Wk.rfl (by repeat' (first | exact True.intro | refine hpC rfl rfl rfl ?_ | refine ⟨⟨_, _, _, rfl, rfl, rfl, @WkO.rfl _⟩, ?_⟩ | refine HeapOK.acc rfl rfl ?_)) ⟨rfl, ?_, rfl, rfl, rfl, fun h => by cases h⟩
      refine ⟨fun _ => hok.take κ, hrm, rfl, hlg.take (by omega), fun _ => rfl, ?_, ?_⟩
      · have := hFc (flatR first ((b1 :: T).take κ)).length
        rw [flatR_take] at this
        exact this
      · exact Nat.le_trans (flatR_le _ _ _) hsz
theorem W_until_a {s : WS} {f : Int} {R : List (List Int)} (hi : WInv s f R) (n : Int) (hne0 : R ≠ []) (hn : f + R.length ≤ n + 1) (hnu : n ≤ 2000000000000000) (hdk : wtN s.dk ≤ 100000) (g : Int) : CW base 29 [.c (.ptr 2 0), .c (.p (.int .i64 n))] s (fun r s' => r = .c (.p (.int .i64 0)) ∧ WInv s' g [] ∧ s'.L = s.L ∧ s'.lc = s.lc ∧ s'.dk = wt (chC 0) s.dk ∧ s'.lg ≠ .nil) := by
  obtain ⟨room, first, en, L, lc, F, c, _ | ⟨w, W⟩, _ | _ | ⟨o, m, X, Y⟩⟩ := s
  · exact hi.lg.elim
  · obtain rfl : R = [] := hi.lg
    exact absurd rfl hne0
  · have h := hi.lg
    obtain ⟨rfl, hX, hXY, hXr, hYr⟩ := h
    cases hR : R with
    | nil =>
      subst hR
      exact absurd rfl hne0
    | cons b1 T =>
      have hne : R ≠ [] := by rw [hR]; simp
      obtain ⟨g1, g2, g3⟩ := (hi.ok hne).len
      have hf := hi.first hne
      rw [hR] at g2 g3 hX hXr hYr
      simp at g2 g3 hf hX
      subst hf
      obtain hff : first = _ := hi.first hne
      have hF := hi.file
      have hrm : room = mB := hi.room
      have hen : en = _ := hi.en
      have hsz := hi.sz
      have hok := hi.ok hne
      rw [hR] at hF hen hsz hok
      have hlR : ((b1 :: T).length : Int) = T.length + 1 := by simp
      rw [hR] at hn
      have hlg : LGok first (b1 :: T) (.own o (T.length + 1) X Y) := by have := hi.lg; rw [hR] at this; exact this
      have hBne : flatR first (b1 :: T) ≠ [] := fun e => by have := flatR_pos hok; rw [e] at this; simp at this
      obtain ⟨z, cp, hfd, hFc⟩ := hF.cut hBne
      refine CallR.leaf (guntil0_a room first en o T.length L lc F c X Y n ⟨by omega, by omega⟩ (by omega) (by omega) ⟨by omega, by omega⟩ (by omega) 0 z (flatR first (b1 :: T)) cp hfd (by omega) (hlg.2.2.2.2 0 (by omega))) [(0, 2), (1, 0), (2, 3), (3, 4), (4, 6), (5, 7)] rfl rfl (by repeat' (first | exact True.intro | refine hpC rfl rfl rfl ?_ | refine ⟨⟨_, _, _, rfl, rfl, rfl, @WkO.rfl _⟩, ?_⟩ | refine HeapOK.acc rfl rfl ?_)) rfl rfl (.c (.p (.int .i64 0))) (⟨room, first, ((0 : Nat) : Int), L, lc, updP [119] (cutF z (flatR first (b1 :: T)) 0) c F, updPC [119] (cutF z (flatR first (b1 :: T)) 0) c F, wt (chC 0) (none), .own o 0 X Y⟩ : WS) [(0, 0), (1, 1), (2, 2), (3, 3), (4, 4), (5, 8), (6, 6), (7, 7)] rfl rfl Wk.rfl (by repeat' (first | exact True.intro | refine hpC rfl rfl rfl ?_ | refine ⟨⟨_, _, _, rfl, rfl, rfl, @WkO.rfl _⟩, ?_⟩ | refine HeapOK.acc rfl rfl ?_)) ⟨rfl, ?_, rfl, rfl, rfl, fun h => by cases h⟩
      refine ⟨fun h => absurd rfl h, hrm, rfl, (hlg.take (Nat.zero_le _)).free, fun h => absurd rfl h, hFc 0, by simp [flatR]⟩
  · exact hi.lg.elim
  · obtain rfl : R = [] := hi.lg
    exact absurd rfl hne0
  · have h := hi.lg
    obtain ⟨rfl, hX, hXY, hXr, hYr⟩ := h
    cases hR : R with
    | nil =>
      subst hR
      exact absurd rfl hne0
    | cons b1 T =>
      have hne : R ≠ [] := by rw [hR]; simp
      obtain ⟨g1, g2, g3⟩ := (hi.ok hne).len
      have hf := hi.first hne
      rw [hR] at g2 g3 hX hXr hYr
      simp at g2 g3 hf hX
      subst hf
      obtain hff : first = _ := hi.first hne
      have hF := hi.file
      have hrm : room = mB := hi.room
      have hen : en = _ := hi.en
      have hsz := hi.sz
      have hok := hi.ok hne
      rw [hR] at hF hen hsz hok
      have hlR : ((b1 :: T).length : Int) = T.length + 1 := by simp
      rw [hR] at hn
      have hlg : LGok first (b1 :: T) (.own o (T.length + 1) X Y) := by have := hi.lg; rw [hR] at this; exact this
      have hBne : flatR first (b1 :: T) ≠ [] := fun e => by have := flatR_pos hok; rw [e] at this; simp at this
      obtain ⟨z, cp, hfd, hFc⟩ := hF.cut hBne
      refine CallR.leaf (guntil1_a room first en o T.length L lc F c w W X Y n ⟨by omega, by omega⟩ (by omega) (by omega) ⟨by omega, by omega⟩ (by omega) (by simp [wtN] at hdk; omega) 0 z (flatR first (b1 :: T)) cp hfd (by omega) (hlg.2.2.2.2 0 (by omega))) [(0, 2), (1, 0), (2, 3), (3, 4), (4, 5), (5, 6), (6, 7)] rfl rfl (by repeat' (first | exact True.intro | refine hpC rfl rfl rfl ?_ | refine ⟨⟨_, _, _, rfl, rfl, rfl, @WkO.rfl _⟩, ?_⟩ | refine HeapOK.acc rfl rfl ?_)) rfl rfl (.c (.p (.int .i64 0))) (⟨room, first, ((0 : Nat) : Int), L, lc, updP [119] (cutF z (flatR first (b1 :: T)) 0) c F, updPC [119] (cutF z (flatR first (b1 :: T)) 0) c F, wt (chC 0) (some (w, W)), .own o 0 X Y⟩ : WS) [(0, 0), (1, 1), (2, 2), (3, 3), (4, 4), (5, 8), (6, 6), (7, 7)] rfl rfl Wk.rfl (by repeat' (first | exact True.intro | refine hpC rfl rfl rfl ?_ | refine ⟨⟨_, _, _, rfl, rfl, rfl, @WkO.rfl _⟩, ?_⟩ | refine HeapOK.acc rfl rfl ?_)) ⟨rfl, ?_, rfl, rfl, rfl, fun h => by cases h⟩
      refine ⟨fun h => absurd rfl h, hrm, rfl, (hlg.take (Nat.zero_le _)).free, fun h => absurd rfl h, hFc 0, by simp [flatR]⟩
theorem W_until_y {s : WS} {f : Int} {R : List (List Int)} (hi : WInv s f R) (n : Int) (hne0 : R ≠ []) (κ : Nat) (hn : n = f + κ) (hκ : κ + 1 < R.length) (hdk : wtN s.dk ≤ 90000) : CW base 29 [.c (.ptr 2 0), .c (.p (.int .i64 n))] s (fun r s' => r = .c (.p (.int .i64 0)) ∧ WInv s' (f + (κ + 1 : Nat)) (R.drop (κ + 1)) ∧ s'.L = s.L ∧ s'.lc = s.lc ∧ s'.dk = wt chM (wt (chF false (flatR (f + (κ + 1 : Nat)) (R.drop (κ + 1)))) s.dk) ∧ s'.lg ≠ .nil) := by
  obtain ⟨room, first, en, L, lc, F, c, _ | ⟨w, W⟩, _ | _ | ⟨o, m, X, Y⟩⟩ := s
  · exact hi.lg.elim
  · obtain rfl : R = [] := hi.lg
    exact absurd rfl hne0
  · have h := hi.lg
    obtain ⟨rfl, hX, hXY, hXr, hYr⟩ := h
    cases hR : R with
    | nil =>
      subst hR
      exact absurd rfl hne0
    | cons b1 T =>
      have hne : R ≠ [] := by rw [hR]; simp
      obtain ⟨g1, g2, g3⟩ := (hi.ok hne).len
      have hf := hi.first hne
      rw [hR] at g2 g3 hX hXr hYr
      simp at g2 g3 hf hX
      subst hf
      obtain hff : first = _ := hi.first hne
      have hF := hi.file
      have hrm : room = mB := hi.room
      have hen : en = _ := hi.en
      have hsz := hi.sz
      have hok := hi.ok hne
      rw [hR] at hF hen hsz hok
      have hlR : ((b1 :: T).length : Int) = T.length + 1 := by simp
      rw [hR] at hκ
      have hTl : (b1 :: T).length = T.length + 1 := rfl
      have hlg : LGok first (b1 :: T) (.own o (T.length + 1) X Y) := by have := hi.lg; rw [hR] at this; exact this
      have hBne : flatR first (b1 :: T) ≠ [] := fun e => by have := flatR_pos hok; rw [e] at this; simp at this
      have hzf : ∀ z : Bool, (z && (u8P (flatR first (b1 :: T))).isEmpty) = false := fun z => by
        cases hh : flatR first (b1 :: T) with
        | nil => exact absurd hh hBne
        | cons x l => cases z <;> rfl
      have hdr := flatR_drop (b1 :: T) first (κ + 1) (by omega)
      have htk : ((flatR first (b1 :: T)).drop (flatR first ((b1 :: T).take (κ + 1))).length).take ((flatR first (b1 :: T)).length - (flatR first ((b1 :: T).take (κ + 1))).length) = (flatR (first + (κ + 1 : Nat)) ((b1 :: T).drop (κ + 1))) := by
        rw [← hdr, List.take_of_length_le (by simp)]
      have hokd := hok.drop (κ + 1) (by omega)
      have hNne : (flatR (first + (κ + 1 : Nat)) ((b1 :: T).drop (κ + 1))) ≠ [] := fun e => by
        cases hd : (b1 :: T).drop (κ + 1) with
        | nil => have := congrArg List.length hd; simp at this; omega
        | cons x l => rw [hd] at e hokd; have := flatR_pos hokd; rw [e] at this; simp at this
      have hne2 := hNne
      rw [← htk] at hne2
      have hln := congrArg List.length hdr
      rw [List.length_drop] at hln
      have hle := flatR_le (b1 :: T) first (κ + 1)
      rcases hF with ⟨h0, -, -⟩ | ⟨⟨z, cp, rfl⟩, hc⟩
      · exact absurd h0 hBne
      have hF : Fok (flatR first (b1 :: T)) (f1 [119] (fP z (flatR first (b1 :: T)) cp)) c := .inr ⟨⟨_, _, rfl⟩, hc⟩
      have C := guntil0_y (base := base) room first en o T.length L lc _ c X Y n ⟨by omega, by omega⟩ (by omega) (by omega) ⟨by omega, by omega⟩ κ hn (by omega) (fun j => (flatR first ((b1 :: T).take j)).length) (flatR first ((b1 :: T).take (κ + 1))).length (flatR first (b1 :: T)).length hen rfl (flatR_le _ _ _) z (flatR first (b1 :: T)) cp rfl hne2 (Nat.le_refl _) (by omega) (fun j hj => hlg.2.2.2.2 j (by omega)) (fun j h1 h2 => ⟨flatR_mono _ _ (by omega), by have := flatR_le (b1 :: T) first j; omega⟩) (by rw [hXY]; have := hlg.2.1; omega) hF.ok (by rw [hrm, mB_eq]; omega) (by rw [hF.used, hrm, mB_eq]; omega) hF.len hF.fr _ _ _ _ rfl rfl rfl rfl rfl
      rw [htk, hzf] at C
      refine CallR.leaf (C) [(0, 2), (1, 0), (2, 3), (3, 4), (4, 6), (5, 7)] rfl rfl (by repeat' (first | exact True.intro | refine hpC rfl rfl rfl ?_ | refine ⟨⟨_, _, _, rfl, rfl, rfl, @WkO.rfl _⟩, ?_⟩ | refine HeapOK.acc rfl rfl ?_)) rfl rfl (.c (.p (.int .i64 0))) (⟨room, n + 1, ((flatR first (b1 :: T)).length : Int) - (flatR first ((b1 :: T).take (κ + 1))).length, L, lc, f1 [119] (fP false (flatR (first + (κ + 1 : Nat)) ((b1 :: T).drop (κ + 1))) none), c + 1, wt chM (wt (chF false (flatR (first + (κ + 1 : Nat)) ((b1 :: T).drop (κ + 1)))) (none)), .own (o + (κ + 1)) (T.length - κ) X (subY Y (o + (κ + 1)) (fun j => (flatR first ((b1 :: T).take (κ + 1 + j))).length) (flatR first ((b1 :: T).take (κ + 1))).length (T.length - κ))⟩ : WS) [(0, 0), (1, 1), (2, 2), (3, 3), (4, 4), (5, 9), (6, 6), (7, 7)] rfl rfl Wk.rfl (by repeat' (first | exact True.intro | refine hpC rfl rfl rfl ?_ | refine ⟨⟨_, _, _, rfl, rfl, rfl, @WkO.rfl _⟩, ?_⟩ | refine HeapOK.acc rfl rfl ?_)) ⟨rfl, ?_, rfl, rfl, rfl, fun h => by cases h⟩
      refine ⟨fun _ => hokd, hrm, ?_, hlg.drop (by omega), fun _ => ?_, .inr ⟨⟨_, _, rfl⟩, Nat.le_add_left 1 c⟩, ?_⟩
      · show ((flatR first (b1 :: T)).length : Int) - _ = _
        omega
      · show n + 1 = _
        omega
      · omega
  · exact hi.lg.elim
  · obtain rfl : R = [] := hi.lg
    exact absurd rfl hne0
  · have h := hi.lg
    obtain ⟨rfl, hX, hXY, hXr, hYr⟩ := h
    cases hR : R with
    | nil =>
      subst hR
      exact absurd rfl hne0
    | cons b1 T =>
      have hne : R ≠ [] := by rw [hR]; simp
      obtain ⟨g1, g2, g3⟩ := (hi.ok hne).len
      have hf := hi.first hne
      rw [hR] at g2 g3 hX hXr hYr
      simp at g2 g3 hf hX
      subst hf
      obtain hff : first = _ := hi.first hne
      have hF := hi.file
      have hrm : room = mB := hi.room
      have hen : en = _ := hi.en
      have hsz := hi.sz
      have hok := hi.ok hne
      rw [hR] at hF hen hsz hok
      have hlR : ((b1 :: T).length : Int) = T.length + 1 := by simp
      rw [hR] at hκ
      have hTl : (b1 :: T).length = T.length + 1 := rfl
      have hlg : LGok first (b1 :: T) (.own o (T.length + 1) X Y) := by have := hi.lg; rw [hR] at this; exact this
      have hBne : flatR first (b1 :: T) ≠ [] := fun e => by have := flatR_pos hok; rw [e] at this; simp at this
      have hzf : ∀ z : Bool, (z && (u8P (flatR first (b1 :: T))).isEmpty) = false := fun z => by
        cases hh : flatR first (b1 :: T) with
        | nil => exact absurd hh hBne
        | cons x l => cases z <;> rfl
      have hdr := flatR_drop (b1 :: T) first (κ + 1) (by omega)
      have htk : ((flatR first (b1 :: T)).drop (flatR first ((b1 :: T).take (κ + 1))).length).take ((flatR first (b1 :: T)).length - (flatR first ((b1 :: T).take (κ + 1))).length) = (flatR (first + (κ + 1 : Nat)) ((b1 :: T).drop (κ + 1))) := by
        rw [← hdr, List.take_of_length_le (by simp)]
      have hokd := hok.drop (κ + 1) (by omega)
      have hNne : (flatR (first + (κ + 1 : Nat)) ((b1 :: T).drop (κ + 1))) ≠ [] := fun e => by
        cases hd : (b1 :: T).drop (κ + 1) with
        | nil => have := congrArg List.length hd; simp at this; omega
        | cons x l => rw [hd] at e hokd; have := flatR_pos hokd; rw [e] at this; simp at this
      have hne2 := hNne
      rw [← htk] at hne2
      have hln := congrArg List.length hdr
      rw [List.length_drop] at hln
      have hle := flatR_le (b1 :: T) first (κ + 1)
      rcases hF with ⟨h0, -, -⟩ | ⟨⟨z, cp, rfl⟩, hc⟩
      · exact absurd h0 hBne
      have hF : Fok (flatR first (b1 :: T)) (f1 [119] (fP z (flatR first (b1 :: T)) cp)) c := .inr ⟨⟨_, _, rfl⟩, hc⟩
      have C := guntil1_y (base := base) room first en o T.length L lc _ c w W X Y n ⟨by omega, by omega⟩ (by omega) (by omega) ⟨by omega, by omega⟩ κ hn (by omega) (by simp [wtN] at hdk; omega) (fun j => (flatR first ((b1 :: T).take j)).length) (flatR first ((b1 :: T).take (κ + 1))).length (flatR first (b1 :: T)).length hen rfl (flatR_le _ _ _) z (flatR first (b1 :: T)) cp rfl hne2 (Nat.le_refl _) (by omega) (fun j hj => hlg.2.2.2.2 j (by omega)) (fun j h1 h2 => ⟨flatR_mono _ _ (by omega), by have := flatR_le (b1 :: T) first j; omega⟩) (by rw [hXY]; have := hlg.2.1; omega) hF.ok (by rw [hrm, mB_eq]; omega) (by rw [hF.used, hrm, mB_eq]; omega) hF.len hF.fr _ _ _ _ rfl rfl rfl rfl rfl
      rw [htk, hzf] at C
      refine CallR.leaf (C) [(0, 2), (1, 0), (2, 3), (3, 4), (4, 5), (5, 6), (6, 7)] rfl rfl (by repeat' (first | exact True.intro | refine hpC rfl rfl rfl ?_ | refine ⟨⟨_, _, _, rfl, rfl, rfl, @WkO.rfl _⟩, ?_⟩ | refine HeapOK.acc rfl rfl ?_)) rfl rfl (.c (.p (.int .i64 0))) (⟨room, n + 1, ((flatR first (b1 :: T)).length : Int) - (flatR first ((b1 :: T).take (κ + 1))).length, L, lc, f1 [119] (fP false (flatR (first + (κ + 1 : Nat)) ((b1 :: T).drop (κ + 1))) none), c + 1, wt chM (wt (chF false (flatR (first + (κ + 1 : Nat)) ((b1 :: T).drop (κ + 1)))) (some (w, W))), .own (o + (κ + 1)) (T.length - κ) X (subY Y (o + (κ + 1)) (fun j => (flatR first ((b1 :: T).take (κ + 1 + j))).length) (flatR first ((b1 :: T).take (κ + 1))).length (T.length - κ))⟩ : WS) [(0, 0), (1, 1), (2, 2), (3, 3), (4, 4), (5, 9), (6, 6), (7, 7)] rfl rfl Wk.rfl (by repeat' (first | exact True.intro | refine hpC rfl rfl rfl ?_ | refine ⟨⟨_, _, _, rfl, rfl, rfl, @WkO.rfl _⟩, ?_⟩ | refine HeapOK.acc rfl rfl ?_)) ⟨rfl, ?_, rfl, rfl, rfl, fun h => by cases h⟩
      refine ⟨fun _ => hokd, hrm, ?_, hlg.drop (by omega), fun _ => ?_, .inr ⟨⟨_, _, rfl⟩, Nat.le_add_left 1 c⟩, ?_⟩
      · show ((flatR first (b1 :: T)).length : Int) - _ = _
        omega
      · show n + 1 = _
        omega
      · omega
end Go.Proofs.Ytjlfojgacnphmaa

namespace Go.Proofs.Ytjlfojgacnphmaa
open Go.RowKit Sim Go Sym
set_option maxRecDepth 100000
set_option linter.unusedVariables false
set_option linter.unusedSimpArgs false
variable {base : Nat}
abbrev Rc := Bool × List Int × Option Nat
def recP (t : Rc) : PC := fP t.1 t.2.1 t.2.2
def msP (T : List Rc) : List PC := T.map recP
theorem msP_len (T : List Rc) : (msP T).length = T.length := by simp [msP]
def rsR (T : List Rc) : List (List Int) := T.map (·.2.1)
noncomputable def lMla : {F : LF // lowerF Try.prog 69 = some F} := ⟨_, rfl⟩
def lastM (f : Int) (T : List Rc) : Int := if T = [] then 0 else f + T.length - 1
theorem mlast_spec (f : Int) (z : Bool) (T : List Rc) (cp : Option Nat) (hf : T ≠ [] → 0 ≤ f ∧ f ≤ 2000000000000000) (hT : T.length ≤ 100000) : CallS Try.prog base 69 [.agg [.p (.int .i64 f), .p (.tz z 1 (msP T) cp)]] ⟨[], 0⟩ (.c (.p (.int .i64 (lastM f T)))) ⟨[], 0⟩ := by
  have hl := msP_len T
  refine CallS.of noNG lMla.2 rfl (M.start (M.go rfl ?_))
  refine M.cond rfl (fun h => ?_) (fun h => ?_)
  · refine M.go rfl ?_
    obtain rfl : T = [] := by cases T with
      | nil => rfl
      | cons t T => rw [hl] at h; simp at h; omega
    exact M.ret (M.go rfl (M.done (finQ.ret [] rfl rfl rfl (by first | exact Wk.rfl | exact Wk.uncap | exact Wk.nil | exact Wk.b1 rfl | exact Wk.t2 Wk.rfl (Wk.b1 rfl)) (by repeat' (first | exact True.intro | refine hpC rfl rfl rfl ?_ | refine ⟨⟨_, _, _, rfl, rfl, rfl, @WkO.rfl _⟩, ?_⟩ | refine HeapOK.acc rfl rfl ?_)))))
  · refine M.go rfl ?_
    have hne : T ≠ [] := fun e => h (by rw [e]; rfl)
    have := hf hne
    rw [hl, wr64 (n := f + (T.length : Int)) (by omega) (by omega), wr64 (n := f + (T.length : Int) - 1) (by omega) (by omega), show f + (T.length : Int) - 1 = lastM f T from (if_neg hne).symm]
    exact M.ret (M.go rfl (M.done (finQ.ret [] rfl rfl rfl (by first | exact Wk.rfl | exact Wk.uncap | exact Wk.nil | exact Wk.b1 rfl | exact Wk.t2 Wk.rfl (Wk.b1 rfl)) (by repeat' (first | exact True.intro | refine hpC rfl rfl rfl ?_ | refine ⟨⟨_, _, _, rfl, rfl, rfl, @WkO.rfl _⟩, ?_⟩ | refine HeapOK.acc rfl rfl ?_)))))
noncomputable def lMdo : {F : LF // lowerF Try.prog 28 = some F} := ⟨_, rfl⟩
def mdA (f : Int) (z : Bool) (T : List Rc) (cp : Option Nat) : List XC := [.p (.int .i64 f), .p (.tz z 1 (msP T) cp)]
def opA (k n : Int) (b : Rc) : List XC := [.p (.int .i64 k), .p (.int .i64 n), .p (recP b)]
abbrev DoS (base : Nat) (f : Int) (z : Bool) (T : List Rc) (cp : Option Nat) (k n : Int) (b : Rc) (f' : Int) (z' : Bool) (T' : List Rc) (cp' : Option Nat) (e : Int) := CallS Try.prog base 28 [.agg (mdA f z T cp), .agg (opA k n b)] ⟨[], 0⟩ (.tup [.agg (mdA f' z' T' cp'), .c (.p (.int .i64 e))]) ⟨[], 0⟩
section
variable (f : Int) (z : Bool) (T : List Rc) (cp : Option Nat) (n : Int) (b : Rc)
theorem do_0e1 (hn : n < 1) : DoS base f z T cp 0 n b f z T cp 1 := by
  refine CallS.of noNG lMdo.2 rfl (M.start (M.go rfl ?_))
  refine M.cond rfl (fun _ => ?_) (fun h => absurd rfl h)
  refine M.go rfl ?_
  refine M.regF (MF.go rfl ?_)
  refine MF.dec rfl rfl rfl (fun _ => MF.go rfl ?_) (fun h => absurd hn h)
  refine MF.nil mixed (Fnl.nodup rfl) rfl ⟨trivial, trivial⟩ (M.go rfl ?_)
  exact M.ret (M.go rfl (M.done (finQ.ret [] rfl rfl rfl (by first | exact Wk.rfl | exact Wk.uncap | exact Wk.nil | exact Wk.b1 rfl | exact Wk.t2 Wk.rfl (Wk.b1 rfl)) (by repeat' (first | exact True.intro | refine hpC rfl rfl rfl ?_ | refine ⟨⟨_, _, _, rfl, rfl, rfl, @WkO.rfl _⟩, ?_⟩ | refine HeapOK.acc rfl rfl ?_)))))
theorem do_1e (hn : n < 1) : DoS base f z T cp 1 n b f z T cp 1 := by
  refine CallS.of noNG lMdo.2 rfl (M.start (M.go rfl ?_))
  refine M.cond rfl (fun h => absurd h (by decide)) (fun _ => ?_)
  refine M.go rfl ?_
  refine M.cond rfl (fun _ => ?_) (fun h => absurd rfl h)
  refine M.go rfl ?_
  refine M.cond rfl (fun _ => ?_) (fun h => absurd hn h)
  refine M.go rfl ?_
  exact M.ret (M.go rfl (M.done (finQ.ret [] rfl rfl rfl (by first | exact Wk.rfl | exact Wk.uncap | exact Wk.nil | exact Wk.b1 rfl | exact Wk.t2 Wk.rfl (Wk.b1 rfl)) (by repeat' (first | exact True.intro | refine hpC rfl rfl rfl ?_ | refine ⟨⟨_, _, _, rfl, rfl, rfl, @WkO.rfl _⟩, ?_⟩ | refine HeapOK.acc rfl rfl ?_)))))
theorem do_2e (hn : n < 1) : DoS base f z T cp 2 n b f z T cp 1 := by
  refine CallS.of noNG lMdo.2 rfl (M.start (M.go rfl ?_))
  refine M.cond rfl (fun h => absurd h (by decide)) (fun _ => ?_)
  refine M.go rfl ?_
  refine M.cond rfl (fun h => absurd h (by decide)) (fun _ => ?_)
  refine M.go rfl ?_
  refine M.cond rfl (fun _ => ?_) (fun h => absurd rfl h)
  refine M.go rfl ?_
  refine M.cond rfl (fun _ => ?_) (fun h => absurd hn h)
  refine M.go rfl ?_
  exact M.ret (M.go rfl (M.done (finQ.ret [] rfl rfl rfl (by first | exact Wk.rfl | exact Wk.uncap | exact Wk.nil | exact Wk.b1 rfl | exact Wk.t2 Wk.rfl (Wk.b1 rfl)) (by repeat' (first | exact True.intro | refine hpC rfl rfl rfl ?_ | refine ⟨⟨_, _, _, rfl, rfl, rfl, @WkO.rfl _⟩, ?_⟩ | refine HeapOK.acc rfl rfl ?_)))))
theorem do_o (k : Int) (h0 : k ≠ 0) (h1 : k ≠ 1) (h2 : k ≠ 2) : DoS base f z T cp k n b f z T cp 0 := by
  refine CallS.of noNG lMdo.2 rfl (M.start (M.go rfl ?_))
  refine M.cond rfl (fun h => absurd h h0) (fun _ => ?_)
  refine M.go rfl ?_
  refine M.cond rfl (fun h => absurd h h1) (fun _ => ?_)
  refine M.go rfl ?_
  refine M.cond rfl (fun h => absurd h h2) (fun _ => ?_)
  refine M.go rfl ?_
  exact M.ret (M.go rfl (M.done (finQ.ret [] rfl rfl rfl (by first | exact Wk.rfl | exact Wk.uncap | exact Wk.nil | exact Wk.b1 rfl | exact Wk.t2 Wk.rfl (Wk.b1 rfl)) (by repeat' (first | exact True.intro | refine hpC rfl rfl rfl ?_ | refine ⟨⟨_, _, _, rfl, rfl, rfl, @WkO.rfl _⟩, ?_⟩ | refine HeapOK.acc rfl rfl ?_)))))
variable (hf : T ≠ [] → 1 ≤ f ∧ f ≤ 1500000000000000) (hT : T.length ≤ 100000)
include hf hT
theorem do_0e2 (hn1 : 1 ≤ n) (hne : T ≠ []) (hn : n - 1 ≠ lastM f T) (hn2 : n ≤ 2000000000000000) : DoS base f z T cp 0 n b f z T cp 1 := by
  have hl := msP_len T
  have hp : 0 < T.length := by cases T with
    | nil => exact absurd rfl hne
    | cons t T => simp
  refine CallS.of noNG lMdo.2 rfl (M.start (M.go rfl ?_))
  refine M.cond rfl (fun _ => ?_) (fun h => absurd rfl h)
  refine M.go rfl ?_
  refine M.regF (MF.go rfl ?_)
  refine MF.dec rfl rfl rfl (fun h => absurd h (by omega)) (fun _ => MF.go rfl ?_)
  refine MF.dec rfl rfl rfl (fun _ => MF.go rfl ?_) (fun h => absurd (by rw [hl]; omega) h)
  rw [wr64 (n := n - 1) (by omega) (by omega)]
  refine MF.use0 rfl (mlast_spec f z T cp (fun h => by have := hf h; omega) hT) rfl rfl rfl (MF.go rfl ?_)
  refine MF.nil mixed (Fnl.nodup rfl) rfl ⟨⟨stepX_ok rfl, trivial⟩, trivial⟩ (M.go rfl ?_)
  refine M.condN rfl (fun _ => ?_) (fun h => absurd h hn)
  refine M.go rfl ?_
  exact M.ret (M.go rfl (M.done (finQ.ret [] rfl rfl rfl (by first | exact Wk.rfl | exact Wk.uncap | exact Wk.nil | exact Wk.b1 rfl | exact Wk.t2 Wk.rfl (Wk.b1 rfl)) (by repeat' (first | exact True.intro | refine hpC rfl rfl rfl ?_ | refine ⟨⟨_, _, _, rfl, rfl, rfl, @WkO.rfl _⟩, ?_⟩ | refine HeapOK.acc rfl rfl ?_)))))
theorem do_0y (hn1 : 1 ≤ n) (hn : T ≠ [] → n - 1 = lastM f T) (hn2 : n ≤ 2000000000000000) : DoS base f z T cp 0 n b (if T = [] then n else f) false (T ++ [b]) none 0 := by
  have hl := msP_len T
  refine CallS.of noNG lMdo.2 rfl (M.start (M.go rfl ?_))
  refine M.cond rfl (fun _ => ?_) (fun h => absurd rfl h)
  refine M.go rfl ?_
  refine M.regF (MF.go rfl ?_)
  refine MF.dec rfl rfl rfl (fun h => absurd h (by omega)) (fun _ => MF.go rfl ?_)
  by_cases hne : T = []
  · subst hne
    refine MF.dec rfl rfl rfl (fun h => absurd h (by simp [msP])) (fun _ => MF.go rfl ?_)
    refine MF.nil mixed (Fnl.nodup rfl) rfl ⟨trivial, trivial⟩ (M.go rfl ?_)
    refine M.cond rfl (fun _ => ?_) (fun h => absurd rfl h)
    refine M.go rfl ?_
    refine M.regG rfl (MN.go rfl ?_)
    refine MN.op rfl trivial (SOp.app0 rfl rfl .tz (.inr ⟨_, _, _, _, rfl⟩)) (MN.go rfl ?_)
    refine MN.op rfl trivial (SOp.appN (el := [recP b]) rfl rfl (.own rfl rfl) (by simp) (by simp)) (MN.go rfl ?_)
    refine MN.nil mixed (Fnl.nodup rfl) rfl ⟨⟨stepX_ok rfl, trivial⟩, ⟨stepX_ok rfl, stepX_ok rfl, trivial⟩, trivial⟩ (M.goN 2 rfl ?_)
    refine M.freezeR (b0 := 0) (o := 1) (b := 12) rfl rfl rfl rfl rfl rfl ?_
    refine M.go rfl ?_
    exact M.ret (M.go rfl (M.done (finQ.ret [] rfl rfl rfl (by first | exact Wk.rfl | exact Wk.uncap | exact Wk.nil | exact Wk.b1 rfl | exact Wk.t2 Wk.rfl (Wk.b1 rfl)) (by repeat' (first | exact True.intro | refine hpC rfl rfl rfl ?_ | refine ⟨⟨_, _, _, rfl, rfl, rfl, @WkO.rfl _⟩, ?_⟩ | refine HeapOK.acc rfl rfl ?_)))))
  · have hp : 0 < T.length := by cases T with
      | nil => exact absurd rfl hne
      | cons t T => simp
    refine MF.dec rfl rfl rfl (fun _ => MF.go rfl ?_) (fun h => absurd (by rw [hl]; omega) h)
    rw [wr64 (n := n - 1) (by omega) (by omega)]
    refine MF.use0 rfl (mlast_spec f z T cp (fun h => by have := hf h; omega) hT) rfl rfl rfl (MF.go rfl ?_)
    refine MF.nil mixed (Fnl.nodup rfl) rfl ⟨⟨stepX_ok rfl, trivial⟩, trivial⟩ (M.go rfl ?_)
    refine M.condN rfl (fun h => absurd (hn hne) h) (fun _ => ?_)
    refine M.go rfl ?_
    refine M.cond rfl (fun h => absurd h (by rw [hl]; omega)) (fun _ => ?_)
    refine M.go rfl ?_
    refine M.regG rfl (MN.go rfl ?_)
    refine MN.op rfl trivial (SOp.appN (el := msP T) rfl rfl .tz (by simpa [msP] using hne) (by rw [hl]; omega)) (MN.go rfl ?_)
    refine MN.op rfl trivial (SOp.appO (ex := msP T) (el := [recP b]) rfl rfl rfl rfl (.own rfl rfl) (by simp) (by rw [hl]; simp; omega)) (MN.go rfl ?_)
    refine MN.nil mixed (Fnl.nodup rfl) rfl ⟨⟨stepX_ok rfl, trivial⟩, ⟨stepX_ok rfl, stepX_ok rfl, trivial⟩, trivial⟩ (M.goN 2 rfl ?_)
    refine M.freezeR (b0 := 0) (o := 1) (b := 13) (el := msP T ++ [recP b]) rfl rfl rfl rfl rfl (by simp) ?_
    rw [if_neg hne, show msP T ++ [recP b] = msP (T ++ [b]) by simp [msP]]
    refine M.go rfl ?_
    exact M.ret (M.go rfl (M.done (finQ.ret [] rfl rfl rfl (by first | exact Wk.rfl | exact Wk.uncap | exact Wk.nil | exact Wk.b1 rfl | exact Wk.t2 Wk.rfl (Wk.b1 rfl)) (by repeat' (first | exact True.intro | refine hpC rfl rfl rfl ?_ | refine ⟨⟨_, _, _, rfl, rfl, rfl, @WkO.rfl _⟩, ?_⟩ | refine HeapOK.acc rfl rfl ?_)))))
theorem do_1n (hn1 : 1 ≤ n) (hn : T ≠ [] → lastM f T < n) : DoS base f z T cp 1 n b f z T cp 0 := by
  have hl := msP_len T
  refine CallS.of noNG lMdo.2 rfl (M.start (M.go rfl ?_))
  refine M.cond rfl (fun h => absurd h (by decide)) (fun _ => ?_)
  refine M.go rfl ?_
  refine M.cond rfl (fun _ => ?_) (fun h => absurd rfl h)
  refine M.go rfl ?_
  refine M.cond rfl (fun h => absurd h (by omega)) (fun _ => ?_)
  refine M.go rfl ?_
  refine M.regF (MF.go rfl ?_)
  by_cases hne : T = []
  · subst hne
    refine MF.dec rfl rfl rfl (fun h => absurd h (by simp [msP])) (fun _ => MF.go rfl ?_)
    refine MF.nil mixed (Fnl.nodup rfl) rfl ⟨trivial, trivial⟩ (M.go rfl ?_)
    exact M.ret (M.go rfl (M.done (finQ.ret [] rfl rfl rfl (by first | exact Wk.rfl | exact Wk.uncap | exact Wk.nil | exact Wk.b1 rfl | exact Wk.t2 Wk.rfl (Wk.b1 rfl)) (by repeat' (first | exact True.intro | refine hpC rfl rfl rfl ?_ | refine ⟨⟨_, _, _, rfl, rfl, rfl, @WkO.rfl _⟩, ?_⟩ | refine HeapOK.acc rfl rfl ?_)))))
  · have hp : 0 < T.length := by cases T with
      | nil => exact absurd rfl hne
      | cons t T => simp
    refine MF.dec rfl rfl rfl (fun _ => MF.go rfl ?_) (fun h => absurd (by rw [hl]; omega) h)
    refine MF.use0 rfl (mlast_spec f z T cp (fun h => by have := hf h; omega) hT) rfl rfl rfl (MF.go rfl ?_)
    refine MF.nil mixed (Fnl.nodup rfl) rfl ⟨⟨stepX_ok rfl, trivial⟩, trivial⟩ (M.go rfl ?_)
    refine M.cond rfl (fun h => absurd h (by have := hn hne; omega)) (fun _ => ?_)
    refine M.go rfl ?_
    exact M.ret (M.go rfl (M.done (finQ.ret [] rfl rfl rfl (by first | exact Wk.rfl | exact Wk.uncap | exact Wk.nil | exact Wk.b1 rfl | exact Wk.t2 Wk.rfl (Wk.b1 rfl)) (by repeat' (first | exact True.intro | refine hpC rfl rfl rfl ?_ | refine ⟨⟨_, _, _, rfl, rfl, rfl, @WkO.rfl _⟩, ?_⟩ | refine HeapOK.acc rfl rfl ?_)))))
theorem do_1y (hn1 : 1 ≤ n) (hne : T ≠ []) (hn : n ≤ lastM f T) (κ : Nat) (hk : (κ : Int) = max 0 (n - f)) : DoS base f z T cp 1 n b f (z && (msP T).isEmpty) (T.take κ) (some κ) 0 := by
  have hl := msP_len T
  have hp : 0 < T.length := by cases T with
    | nil => exact absurd rfl hne
    | cons t T => simp
  have h1 := hf hne
  have hla : lastM f T = f + T.length - 1 := if_neg hne
  refine CallS.of noNG lMdo.2 rfl (M.start (M.go rfl ?_))
  refine M.cond rfl (fun h => absurd h (by decide)) (fun _ => ?_)
  refine M.go rfl ?_
  refine M.cond rfl (fun _ => ?_) (fun h => absurd rfl h)
  refine M.go rfl ?_
  refine M.cond rfl (fun h => absurd h (by omega)) (fun _ => ?_)
  refine M.go rfl ?_
  refine M.regF (MF.go rfl ?_)
  refine MF.dec rfl rfl rfl (fun _ => MF.go rfl ?_) (fun h => absurd (by rw [hl]; omega) h)
  refine MF.use0 rfl (mlast_spec f z T cp (fun h => by have := hf h; omega) hT) rfl rfl rfl (MF.go rfl ?_)
  refine MF.nil mixed (Fnl.nodup rfl) rfl ⟨⟨stepX_ok rfl, trivial⟩, trivial⟩ (M.go rfl ?_)
  refine M.cond rfl (fun _ => ?_) (fun h => absurd hn h)
  refine M.go rfl ?_
  rw [wr64 (n := n - f) (by omega) (by omega), show maxI 0 (n - f) = (κ : Int) by unfold maxI; split <;> omega]
  refine M.op trivial (SOp.slM (l := 0) (r := κ) (m := κ) rfl rfl ⟨_, _, rfl, by omega, by omega⟩ ⟨_, _, rfl, by omega, rfl⟩ (by omega) (by omega) (by omega)) ?_
  rw [List.drop_zero, Nat.sub_zero, show (msP T).take κ = msP (T.take κ) by simp [msP]]
  refine M.go rfl ?_
  exact M.ret (M.go rfl (M.done (finQ.ret [] rfl rfl rfl (by first | exact Wk.rfl | exact Wk.uncap | exact Wk.nil | exact Wk.b1 rfl | exact Wk.t2 Wk.rfl (Wk.b1 rfl)) (by repeat' (first | exact True.intro | refine hpC rfl rfl rfl ?_ | refine ⟨⟨_, _, _, rfl, rfl, rfl, @WkO.rfl _⟩, ?_⟩ | refine HeapOK.acc rfl rfl ?_)))))
theorem do_2n (hn1 : 1 ≤ n) (hn : T ≠ [] → n < f) : DoS base f z T cp 2 n b f z T cp 0 := by
  have hl := msP_len T
  refine CallS.of noNG lMdo.2 rfl (M.start (M.go rfl ?_))
  refine M.cond rfl (fun h => absurd h (by decide)) (fun _ => ?_)
  refine M.go rfl ?_
  refine M.cond rfl (fun h => absurd h (by decide)) (fun _ => ?_)
  refine M.go rfl ?_
  refine M.cond rfl (fun _ => ?_) (fun h => absurd rfl h)
  refine M.go rfl ?_
  refine M.cond rfl (fun h => absurd h (by omega)) (fun _ => ?_)
  refine M.go rfl ?_
  by_cases hne : T = []
  · subst hne
    refine M.dec rfl (fun h => absurd h (by simp [msP])) (fun _ => ?_)
    refine M.go rfl ?_
    exact M.ret (M.go rfl (M.done (finQ.ret [] rfl rfl rfl (by first | exact Wk.rfl | exact Wk.uncap | exact Wk.nil | exact Wk.b1 rfl | exact Wk.t2 Wk.rfl (Wk.b1 rfl)) (by repeat' (first | exact True.intro | refine hpC rfl rfl rfl ?_ | refine ⟨⟨_, _, _, rfl, rfl, rfl, @WkO.rfl _⟩, ?_⟩ | refine HeapOK.acc rfl rfl ?_)))))
  · have hp : 0 < T.length := by cases T with
      | nil => exact absurd rfl hne
      | cons t T => simp
    refine M.dec rfl (fun _ => ?_) (fun h => absurd (by rw [hl]; omega) h)
    refine M.go rfl ?_
    refine M.cond rfl (fun h => absurd h (by have := hn hne; omega)) (fun _ => ?_)
    refine M.go rfl ?_
    exact M.ret (M.go rfl (M.done (finQ.ret [] rfl rfl rfl (by first | exact Wk.rfl | exact Wk.uncap | exact Wk.nil | exact Wk.b1 rfl | exact Wk.t2 Wk.rfl (Wk.b1 rfl)) (by repeat' (first | exact True.intro | refine hpC rfl rfl rfl ?_ | refine ⟨⟨_, _, _, rfl, rfl, rfl, @WkO.rfl _⟩, ?_⟩ | refine HeapOK.acc rfl rfl ?_)))))
theorem do_2y (hn1 : 1 ≤ n) (hne : T ≠ []) (hn : f ≤ n) (hn2 : n ≤ 2000000000000000) (κ : Nat) (hk : (κ : Int) = min (T.length : Int) (n - f + 1)) : ∃ z' cp', DoS base f z T cp 2 n b (f + κ) z' (T.drop κ) cp' 0 := by
  have hl := msP_len T
  have hp : 0 < T.length := by cases T with
    | nil => exact absurd rfl hne
    | cons t T => simp
  have h1 := hf hne
  refine ⟨(msP (T.drop κ)).isEmpty, none, CallS.of noNG lMdo.2 rfl (M.start (M.go rfl ?_))⟩
  refine M.cond rfl (fun h => absurd h (by decide)) (fun _ => ?_)
  refine M.go rfl ?_
  refine M.cond rfl (fun h => absurd h (by decide)) (fun _ => ?_)
  refine M.go rfl ?_
  refine M.cond rfl (fun _ => ?_) (fun h => absurd rfl h)
  refine M.go rfl ?_
  refine M.cond rfl (fun h => absurd h (by omega)) (fun _ => ?_)
  refine M.go rfl ?_
  refine M.dec rfl (fun _ => ?_) (fun h => absurd (by rw [hl]; omega) h)
  refine M.go rfl ?_
  refine M.cond rfl (fun _ => ?_) (fun h => absurd hn h)
  refine M.go rfl ?_
  rw [wr64 (n := n - f) (by omega) (by omega), wr64 (n := n - f + 1) (by omega) (by omega), hl, show minI (T.length : Int) (n - f + 1) = (κ : Int) by unfold minI; split <;> omega]
  refine M.op trivial (SOp.sl (l := κ) (r := T.length) rfl ⟨_, _, rfl, by omega, by omega⟩ (by rw [hl]; rfl) (by omega) (by omega)) ?_
  rw [show ((msP T).drop κ).take (T.length - κ) = msP (T.drop κ) by rw [List.take_of_length_le (by simp [msP])]; simp [msP]]
  by_cases h0 : T.drop κ = []
  · rw [h0]
    refine M.op trivial (SOp.app0 rfl rfl .tz (.inr ⟨_, _, _, _, rfl⟩)) ?_
    refine M.go rfl ?_
    rw [wr64 (n := f + (κ : Int)) (by omega) (by omega)]
    exact M.ret (M.go rfl (M.done (finQ.ret [] rfl rfl rfl (Wk.of rfl) (by repeat' (first | exact True.intro | refine hpC rfl rfl rfl ?_ | refine ⟨⟨_, _, _, rfl, rfl, rfl, @WkO.rfl _⟩, ?_⟩ | refine HeapOK.acc rfl rfl ?_)))))
  · refine M.op trivial (SOp.appN (el := msP (T.drop κ)) rfl rfl .tz (by simpa [msP] using h0) (by rw [msP_len]; simp; omega)) ?_
    refine M.goN 4 rfl ?_
    refine M.freezeR (b0 := 0) (o := 1) (b := 3) (el := msP (T.drop κ)) rfl rfl rfl rfl rfl (by simp) ?_
    refine M.go rfl ?_
    rw [wr64 (n := f + (κ : Int)) (by omega) (by omega), show (msP (T.drop κ)).isEmpty = false by simpa [msP] using h0]
    exact M.ret (M.go rfl (M.done (finQ.ret [] rfl rfl rfl (by first | exact Wk.rfl | exact Wk.uncap | exact Wk.nil | exact Wk.b1 rfl | exact Wk.t2 Wk.rfl (Wk.b1 rfl)) (by repeat' (first | exact True.intro | refine hpC rfl rfl rfl ?_ | refine ⟨⟨_, _, _, rfl, rfl, rfl, @WkO.rfl _⟩, ?_⟩ | refine HeapOK.acc rfl rfl ?_)))))
end
end Go.Proofs.Ytjlfojgacnphmaa

namespace Go.Proofs.Ytjlfojgacnphmaa
open Go.RowKit Sim Go Sym
set_option maxRecDepth 100000
set_option linter.unusedVariables false
set_option linter.unusedSimpArgs false
variable {base : Nat}
theorem bytesX_w : ∀ {l : List Int}, Bytes l → bytesX (u8P l) = some (l.map Int.toNat)
  | [], _ => rfl
  | x :: l, h => by
    have h1 := h x (by simp)
    have h2 := bytesX_w (l := l) fun y hy => h y (by simp [hy])
    simp only [u8P, List.map_cons] at h2 ⊢
    have h3 : byX (.int .u8 x) = some x.toNat := by
      simp only [byX]
      first | rw [if_pos ⟨h1.1, by omega⟩] | rw [if_pos (by omega)] | skip
    simp only [bytesX, h3, h2]
theorem byP_w (l : List Nat) : byP l = u8P (l.map fun (b : Nat) => (b : Int)) := by simp [u8P, byP]
def doF (f : Int) (T : List Rc) (k n : Int) (b : Rc) : Int × List Rc × Int :=
  if k = 0 then (if n < 1 ∨ (T ≠ [] ∧ n - 1 ≠ lastM f T) then (f, T, 1) else (if T = [] then n else f, T ++ [b], 0))
  else if k = 1 then (if n < 1 then (f, T, 1) else if T ≠ [] ∧ n ≤ lastM f T then (f, T.take (max 0 (n - f)).toNat, 0) else (f, T, 0))
  else if k = 2 then (if n < 1 then (f, T, 1) else if T ≠ [] ∧ f ≤ n then (f + (min (T.length : Int) (n - f + 1)).toNat, T.drop (min (T.length : Int) (n - f + 1)).toNat, 0) else (f, T, 0))
  else (f, T, 0)
theorem do_all (f : Int) (z : Bool) (T : List Rc) (cp : Option Nat) (k n : Int) (b : Rc) (hf : T ≠ [] → 1 ≤ f ∧ f ≤ 1500000000000000) (hT : T.length ≤ 100000) (hn : n ≤ 2000000000000000) : ∃ z' cp', DoS base f z T cp k n b (doF f T k n b).1 z' (doF f T k n b).2.1 cp' (doF f T k n b).2.2 := by
  have hp : T ≠ [] → 0 < T.length := fun h => by cases T with
    | nil => exact absurd rfl h
    | cons t T => simp
  unfold doF
  by_cases k0 : k = 0
  · subst k0
    rw [if_pos rfl]
    by_cases h1 : n < 1
    · rw [if_pos (.inl h1)]
      exact ⟨_, _, do_0e1 f z T cp n b h1⟩
    · by_cases h2 : T ≠ [] ∧ n - 1 ≠ lastM f T
      · rw [if_pos (.inr h2)]
        exact ⟨_, _, do_0e2 f z T cp n b hf hT (by omega) h2.1 h2.2 hn⟩
      · rw [if_neg (fun h => h.elim h1 h2)]
        exact ⟨_, _, do_0y f z T cp n b hf hT (by omega) (fun h => Decidable.byContradiction fun h3 => h2 ⟨h, h3⟩) hn⟩
  rw [if_neg k0]
  by_cases k1 : k = 1
  · subst k1
    rw [if_pos rfl]
    by_cases h1 : n < 1
    · rw [if_pos h1]
      exact ⟨_, _, do_1e f z T cp n b h1⟩
    rw [if_neg h1]
    by_cases h2 : T ≠ [] ∧ n ≤ lastM f T
    · rw [if_pos h2]
      exact ⟨_, _, do_1y f z T cp n b hf hT (by omega) h2.1 h2.2 _ (by omega)⟩
    · rw [if_neg h2]
      exact ⟨_, _, do_1n f z T cp n b hf hT (by omega) (fun h => Int.not_le.1 fun h3 => h2 ⟨h, h3⟩)⟩
  rw [if_neg k1]
  by_cases k2 : k = 2
  · subst k2
    rw [if_pos rfl]
    by_cases h1 : n < 1
    · rw [if_pos h1]
      exact ⟨_, _, do_2e f z T cp n b h1⟩
    rw [if_neg h1]
    by_cases h2 : T ≠ [] ∧ f ≤ n
    · rw [if_pos h2]
      exact do_2y f z T cp n b hf hT (by omega) h2.1 h2.2 hn _ (by omega)
    · rw [if_neg h2]
      exact ⟨_, _, do_2n f z T cp n b hf hT (by omega) (fun h => Int.not_le.1 fun h3 => h2 ⟨h, h3⟩)⟩
  rw [if_neg k2]
  exact ⟨_, _, do_o f z T cp n b k k0 k1 k2⟩
noncomputable def lSam : {F : LF // lowerF Try.prog 30 = some F} := ⟨_, rfl⟩
def saX (s : WS) (mf : Int) (zm : Bool) (T : List Rc) (cm : Option Nat) : HS := ⟨(8, some (.row (mdA mf zm T cm) true)) :: (wFam.mem s).l, 9⟩
theorem same_loop {s : WS} {f : Int} {R : List (List Int)} (hi : WInv s f R) (zm : Bool) (T : List Rc) (cm : Option Nat) (hR : R = rsR T) (hne : T ≠ []) (hB : ∀ t ∈ T, Bytes t.2.1 ∧ t.2.1.length ≤ 30000) (Q : QX) (hq : Q (.exit 0) [(0, .c (.ptr 2 0)), (3, .c (.ptr 8 0))] (saX s f zm T cm)) :
    ∀ (rem i : Nat), i + rem = T.length → XH Try.prog base lSam.1.n 3 (lSam.1.c.lp 0) [(0, .c (.ptr 2 0)), (3, .c (.ptr 8 0)), (5, .c (.p (.int .i64 i)))] (saX s f zm T cm) Q := by
  have hl := msP_len T
  have hRne : R ≠ [] := by rw [hR]; simpa [rsR] using hne
  obtain ⟨g1, g2, g3⟩ := (hi.ok hRne).len
  have hRl : R.length = T.length := by rw [hR]; simp [rsR]
  intro rem
  induction rem with
  | zero =>
    intro i hi2
    refine M.round (M.go rfl ?_)
    refine M.cond rfl (fun h => absurd h (by rw [hl]; omega)) (fun _ => ?_)
    refine M.go rfl ?_
    refine M.ren [(0, 0), (1, 1), (2, 2), (3, 3), (4, 4), (5, 5), (6, 6), (7, 7), (8, 8)] ?_ trivial rfl (by repeat' (first | exact True.intro | refine evC rfl rfl Wk.rfl ?_ | refine evC (accV_ren rfl) rfl Wk.rfl ?_ | refine evC (accV_ren rfl) rfl Wk.acc0 ?_ | refine evC rfl rfl Wk.uncap ?_ | refine evC rfl rfl Wk.nil ?_)) ⟨(hpX rfl rfl rfl), HeapOK.fam wOK (by repeat' (first | exact Tl.here | refine Tl.cons rfl ?_)) rfl⟩ (e' := [(0, .c (.ptr 2 0)), (3, .c (.ptr 8 0))]) (h' := saX s f zm T cm)
    exact M.exit (M.go rfl (M.done hq))
  | succ rem ih =>
    intro i hi2
    have hit : i < T.length := by omega
    obtain ⟨t, ht⟩ : ∃ t, T[i]? = some t := ⟨T[i], List.getElem?_eq_getElem hit⟩
    have htm : t ∈ T := List.mem_of_getElem? ht
    have hRi : R[i]? = some t.2.1 := by rw [hR, rsR, List.getElem?_map, ht]; rfl
    have hu : (msP T)[((i : Nat) : Int).toNat]? = some (recP t) := by rw [Int.toNat_natCast, msP, List.getElem?_map, ht]; rfl
    have hw : IntKind.i64.wrap ((i : Int) + 1) = ((i + 1 : Nat) : Int) := by rw [wr64 (by omega) (by omega)]; omega
    have hw2 : IntKind.i64.wrap (f + (i : Int)) = f + (i : Nat) := wr64 (by omega) (by omega)
    refine M.round (M.go rfl ?_)
    refine M.cond rfl (fun _ => ?_) (fun h => absurd (by rw [hl]; omega) h)
    refine M.go rfl ?_
    rw [hw2]
    refine M.useR (s := s) wOK [(8, some (.row (mdA f zm T cm) true))] [(0, .c (.ptr 2 0)), (3, .c (.ptr 8 0)), (5, .c (.p (.int .i64 i)))] trivial (W_gety hi i t.2.1 hRi (by have := (hB t htm).2; omega)) rfl ⟨⟨rfl, rfl⟩, trivial⟩ rfl rfl rfl rfl (fun r s' h => by obtain ⟨⟨z, rfl⟩, -⟩ := h; rfl) (by repeat' (first | exact True.intro | refine evC rfl rfl Wk.rfl ?_ | refine evC (accV_ren rfl) rfl Wk.rfl ?_ | refine evC (accV_ren rfl) rfl Wk.acc0 ?_ | refine evC rfl rfl Wk.uncap ?_ | refine evC rfl rfl Wk.nil ?_)) (fun r s' h => ?_)
    obtain ⟨⟨z, rfl⟩, h2⟩ := h
    rw [h2]
    refine M.go rfl ?_
    refine M.regD (MD.go rfl ?_)
    refine MD.op rfl (SOp.cvBS rfl (bytesX_w (hB t htm).1)) (MD.go rfl ?_)
    refine MD.op rfl (SOp.ia rfl rfl (by omega) hu) (MD.go rfl ?_)
    refine MD.op rfl (SOp.ld1e rfl (u := recP t) (by rw [Int.toNat_natCast] at hu ⊢; exact hu) rfl rfl rfl) (MD.go rfl ?_)
    refine MD.op rfl (SOp.cvBS rfl (bytesX_w (hB t htm).1)) (MD.go rfl ?_)
    refine MD.nil mixed (Fnl.nodup rfl) (M.go rfl ?_)
    rw [eqL_dec]
    refine M.condN rfl (fun h => absurd rfl h) (fun _ => ?_)
    refine M.go rfl ?_
    rw [hw]
    exact M.again (XH.ren [(0, 0), (1, 1), (2, 2), (3, 3), (4, 4), (5, 5), (6, 6), (7, 7), (8, 8)] (ih (i + 1) (by omega)) rfl (by repeat' (first | exact True.intro | refine evC rfl rfl Wk.rfl ?_ | refine evC (accV_ren rfl) rfl Wk.rfl ?_ | refine evC (accV_ren rfl) rfl Wk.acc0 ?_ | refine evC rfl rfl Wk.uncap ?_ | refine evC rfl rfl Wk.nil ?_)) ⟨(hpX rfl rfl rfl), HeapOK.fam wOK (by repeat' (first | exact Tl.here | refine Tl.cons rfl ?_)) rfl⟩)
theorem W_same {s : WS} {f : Int} {R : List (List Int)} (hi : WInv s f R) (mf : Int) (zm : Bool) (T : List Rc) (cm : Option Nat) (hR : R = rsR T) (hmf : T ≠ [] → mf = f) (hB : ∀ t ∈ T, Bytes t.2.1 ∧ t.2.1.length ≤ 30000) :
    CW base 30 [.c (.ptr 2 0), .agg (mdA mf zm T cm)] s (fun r s' => r = .c (.p (.bool true)) ∧ s' = s) := by
  have hl := msP_len T
  have hRl : R.length = T.length := by rw [hR]; simp [rsR]
  have hRT : T ≠ [] → R ≠ [] := fun h => by rw [hR]; simpa [rsR] using h
  have hTl : T.length ≤ 100000 := by
    by_cases h : T = []
    · rw [h]; simp
    · have := (hi.ok (hRT h)).len; omega
  have hmb : T ≠ [] → 0 ≤ mf ∧ mf ≤ 2000000000000000 := fun h => by have := (hi.ok (hRT h)).len; rw [hmf h]; omega
  have hlast : lastI f R = lastM mf T := by
    by_cases h : T = []
    · subst h; rw [hR]; rfl
    · rw [lastI_ne (hRT h), lastM, if_neg h, hmf h, hRl]
  refine CallR.of wOK noNG lSam.2 rfl (M.start (M.go rfl ?_))
  refine M.midC [(0, .c (.ptr 2 0)), (3, .c (.ptr 8 0)), (20, .c (.p (.bs (!decide (lastI f R = lastM mf T)))))] (saX s mf zm T cm) ?_ ?_
  · refine M.regF (MF.go rfl ?_)
    obtain ⟨room, first, en, L, lc, F, c, _ | ⟨w, W⟩, _ | _ | ⟨o, m, X, Y⟩⟩ := s
    · exact hi.lg.elim
    · obtain rfl : R = [] := hi.lg
      refine MF.use rfl (last00_spec room first en L lc F c) [(0, 2), (1, 0), (2, 3), (3, 4)] rfl rfl rfl (by repeat' (first | exact True.intro | refine hpC rfl rfl rfl ?_ | refine ⟨⟨_, _, _, rfl, rfl, rfl, @WkO.rfl _⟩, ?_⟩ | refine HeapOK.acc rfl rfl ?_)) rfl rfl (MF.go rfl ?_)
      refine MF.use0 rfl (mlast_spec mf zm T cm hmb hTl) rfl rfl rfl (MF.go rfl ?_)
      refine MF.nil mixed (Fnl.nodup rfl) rfl ⟨⟨stepX_ok rfl, trivial⟩, trivial⟩ (M.go rfl ?_)
      exact M.end [(0, 0), (1, 1), (2, 2), (3, 3), (4, 4), (5, 5), (6, 6), (7, 7), (8, 8)] rfl (by repeat' (first | exact True.intro | refine evC rfl rfl Wk.rfl ?_ | refine evC (accV_ren rfl) rfl Wk.rfl ?_ | refine evC (accV_ren rfl) rfl Wk.acc0 ?_ | refine evC rfl rfl Wk.uncap ?_ | refine evC rfl rfl Wk.nil ?_)) (by repeat' (first | exact True.intro | refine hpC rfl rfl rfl ?_ | refine ⟨⟨_, _, _, rfl, rfl, rfl, @WkO.rfl _⟩, ?_⟩ | refine HeapOK.acc rfl rfl ?_))
    · have h := hi.lg
      obtain ⟨rfl, hX, hXY, hXr, hYr⟩ := h
      cases hRc : R with
      | nil =>
        subst hRc
        refine MF.use rfl (glast0_0 room first en o L lc F c X Y) [(0, 2), (1, 0), (2, 3), (3, 4), (4, 6), (5, 7)] rfl rfl rfl (by repeat' (first | exact True.intro | refine hpC rfl rfl rfl ?_ | refine ⟨⟨_, _, _, rfl, rfl, rfl, @WkO.rfl _⟩, ?_⟩ | refine HeapOK.acc rfl rfl ?_)) rfl rfl (MF.go rfl ?_)
        refine MF.use0 rfl (mlast_spec mf zm T cm hmb hTl) rfl rfl rfl (MF.go rfl ?_)
        refine MF.nil mixed (Fnl.nodup rfl) rfl ⟨⟨stepX_ok rfl, trivial⟩, trivial⟩ (M.go rfl ?_)
        exact M.end [(0, 0), (1, 1), (2, 2), (3, 3), (4, 4), (5, 5), (6, 6), (7, 7), (8, 8)] rfl (by repeat' (first | exact True.intro | refine evC rfl rfl Wk.rfl ?_ | refine evC (accV_ren rfl) rfl Wk.rfl ?_ | refine evC (accV_ren rfl) rfl Wk.acc0 ?_ | refine evC rfl rfl Wk.uncap ?_ | refine evC rfl rfl Wk.nil ?_)) (by repeat' (first | exact True.intro | refine hpC rfl rfl rfl ?_ | refine ⟨⟨_, _, _, rfl, rfl, rfl, @WkO.rfl _⟩, ?_⟩ | refine HeapOK.acc rfl rfl ?_))
      | cons b1 T2 =>
        have hne : R ≠ [] := by rw [hRc]; simp
        obtain ⟨g1, g2, g3⟩ := (hi.ok hne).len
        have hff := hi.first hne
        rw [hRc] at g2 g3
        simp at g2 g3 hff
        subst hff
        have hla : lastI first (b1 :: T2) = first + (T2.length : Nat) := by rw [lastI_ne (by simp)]; simp; omega
        rw [hla]
        refine MF.use rfl (glast0_1 room first en o T2.length L lc F c X Y (by omega) ⟨by omega, by omega⟩) [(0, 2), (1, 0), (2, 3), (3, 4), (4, 6), (5, 7)] rfl rfl rfl (by repeat' (first | exact True.intro | refine hpC rfl rfl rfl ?_ | refine ⟨⟨_, _, _, rfl, rfl, rfl, @WkO.rfl _⟩, ?_⟩ | refine HeapOK.acc rfl rfl ?_)) rfl rfl (MF.go rfl ?_)
        refine MF.use0 rfl (mlast_spec mf zm T cm hmb hTl) rfl rfl rfl (MF.go rfl ?_)
        refine MF.nil mixed (Fnl.nodup rfl) rfl ⟨⟨stepX_ok rfl, trivial⟩, trivial⟩ (M.go rfl ?_)
        exact M.end [(0, 0), (1, 1), (2, 2), (3, 3), (4, 4), (5, 5), (6, 6), (7, 7), (8, 8)] rfl (by repeat' (first | exact True.intro | refine evC rfl rfl Wk.rfl ?_ | refine evC (accV_ren rfl) rfl Wk.rfl ?_ | refine evC (accV_ren rfl) rfl Wk.acc0 ?_ | refine evC rfl rfl Wk.uncap ?_ | refine evC rfl rfl Wk.nil ?_)) (by repeat' (first | exact True.intro | refine hpC rfl rfl rfl ?_ | refine ⟨⟨_, _, _, rfl, rfl, rfl, @WkO.rfl _⟩, ?_⟩ | refine HeapOK.acc rfl rfl ?_))
    · exact hi.lg.elim
    · obtain rfl : R = [] := hi.lg
      refine MF.use rfl (last10_spec room first en L lc F c w W) [(0, 2), (1, 0), (2, 3), (3, 4), (4, 5)] rfl rfl rfl (by repeat' (first | exact True.intro | refine hpC rfl rfl rfl ?_ | refine ⟨⟨_, _, _, rfl, rfl, rfl, @WkO.rfl _⟩, ?_⟩ | refine HeapOK.acc rfl rfl ?_)) rfl rfl (MF.go rfl ?_)
      refine MF.use0 rfl (mlast_spec mf zm T cm hmb hTl) rfl rfl rfl (MF.go rfl ?_)
      refine MF.nil mixed (Fnl.nodup rfl) rfl ⟨⟨stepX_ok rfl, trivial⟩, trivial⟩ (M.go rfl ?_)
      exact M.end [(0, 0), (1, 1), (2, 2), (3, 3), (4, 4), (5, 5), (6, 6), (7, 7), (8, 8)] rfl (by repeat' (first | exact True.intro | refine evC rfl rfl Wk.rfl ?_ | refine evC (accV_ren rfl) rfl Wk.rfl ?_ | refine evC (accV_ren rfl) rfl Wk.acc0 ?_ | refine evC rfl rfl Wk.uncap ?_ | refine evC rfl rfl Wk.nil ?_)) (by repeat' (first | exact True.intro | refine hpC rfl rfl rfl ?_ | refine ⟨⟨_, _, _, rfl, rfl, rfl, @WkO.rfl _⟩, ?_⟩ | refine HeapOK.acc rfl rfl ?_))
    · have h := hi.lg
      obtain ⟨rfl, hX, hXY, hXr, hYr⟩ := h
      cases hRc : R with
      | nil =>
        subst hRc
        refine MF.use rfl (glast1_0 room first en o L lc F c w W X Y) [(0, 2), (1, 0), (2, 3), (3, 4), (4, 5), (5, 6), (6, 7)] rfl rfl rfl (by repeat' (first | exact True.intro | refine hpC rfl rfl rfl ?_ | refine ⟨⟨_, _, _, rfl, rfl, rfl, @WkO.rfl _⟩, ?_⟩ | refine HeapOK.acc rfl rfl ?_)) rfl rfl (MF.go rfl ?_)
        refine MF.use0 rfl (mlast_spec mf zm T cm hmb hTl) rfl rfl rfl (MF.go rfl ?_)
        refine MF.nil mixed (Fnl.nodup rfl) rfl ⟨⟨stepX_ok rfl, trivial⟩, trivial⟩ (M.go rfl ?_)
        exact M.end [(0, 0), (1, 1), (2, 2), (3, 3), (4, 4), (5, 5), (6, 6), (7, 7), (8, 8)] rfl (by repeat' (first | exact True.intro | refine evC rfl rfl Wk.rfl ?_ | refine evC (accV_ren rfl) rfl Wk.rfl ?_ | refine evC (accV_ren rfl) rfl Wk.acc0 ?_ | refine evC rfl rfl Wk.uncap ?_ | refine evC rfl rfl Wk.nil ?_)) (by repeat' (first | exact True.intro | refine hpC rfl rfl rfl ?_ | refine ⟨⟨_, _, _, rfl, rfl, rfl, @WkO.rfl _⟩, ?_⟩ | refine HeapOK.acc rfl rfl ?_))
      | cons b1 T2 =>
        have hne : R ≠ [] := by rw [hRc]; simp
        obtain ⟨g1, g2, g3⟩ := (hi.ok hne).len
        have hff := hi.first hne
        rw [hRc] at g2 g3
        simp at g2 g3 hff
        subst hff
        have hla : lastI first (b1 :: T2) = first + (T2.length : Nat) := by rw [lastI_ne (by simp)]; simp; omega
        rw [hla]
        refine MF.use rfl (glast1_1 room first en o T2.length L lc F c w W X Y (by omega) ⟨by omega, by omega⟩) [(0, 2), (1, 0), (2, 3), (3, 4), (4, 5), (5, 6), (6, 7)] rfl rfl rfl (by repeat' (first | exact True.intro | refine hpC rfl rfl rfl ?_ | refine ⟨⟨_, _, _, rfl, rfl, rfl, @WkO.rfl _⟩, ?_⟩ | refine HeapOK.acc rfl rfl ?_)) rfl rfl (MF.go rfl ?_)
        refine MF.use0 rfl (mlast_spec mf zm T cm hmb hTl) rfl rfl rfl (MF.go rfl ?_)
        refine MF.nil mixed (Fnl.nodup rfl) rfl ⟨⟨stepX_ok rfl, trivial⟩, trivial⟩ (M.go rfl ?_)
        exact M.end [(0, 0), (1, 1), (2, 2), (3, 3), (4, 4), (5, 5), (6, 6), (7, 7), (8, 8)] rfl (by repeat' (first | exact True.intro | refine evC rfl rfl Wk.rfl ?_ | refine evC (accV_ren rfl) rfl Wk.rfl ?_ | refine evC (accV_ren rfl) rfl Wk.acc0 ?_ | refine evC rfl rfl Wk.uncap ?_ | refine evC rfl rfl Wk.nil ?_)) (by repeat' (first | exact True.intro | refine hpC rfl rfl rfl ?_ | refine ⟨⟨_, _, _, rfl, rfl, rfl, @WkO.rfl _⟩, ?_⟩ | refine HeapOK.acc rfl rfl ?_))
  refine M.go rfl ?_
  refine M.condN rfl (fun h => absurd hlast h) (fun _ => ?_)
  refine M.go rfl ?_
  by_cases hTe : T = []
  · subst hTe
    refine M.cond rfl (fun _ => ?_) (fun h => absurd (by simp [msP]) h)
    refine M.go rfl ?_
    have hRe : R = [] := hR
    refine M.useR (s := s) wOK [(8, some (.row (mdA mf zm [] cm) true))] [(0, .c (.ptr 2 0)), (3, .c (.ptr 8 0))] trivial (W_first hi) rfl ⟨⟨rfl, rfl⟩, trivial⟩ rfl rfl rfl rfl (fun r s' h => by rw [h.1]; rfl) (by repeat' (first | exact True.intro | refine evC rfl rfl Wk.rfl ?_ | refine evC (accV_ren rfl) rfl Wk.rfl ?_ | refine evC (accV_ren rfl) rfl Wk.acc0 ?_ | refine evC rfl rfl Wk.uncap ?_ | refine evC rfl rfl Wk.nil ?_)) (fun r s' h => ?_)
    obtain ⟨rfl, h2⟩ := h
    rw [h2, if_pos hRe]
    refine M.go rfl ?_
    exact M.ret (M.go rfl (M.done (finR.ret wOK (.c (.p (.bool true))) s [(0, 0), (1, 1), (2, 2), (3, 3), (4, 4), (5, 5), (6, 6), (7, 7)] rfl rfl rfl (Wk.b1 (by simp)) (by repeat' (first | exact True.intro | refine hpC rfl rfl rfl ?_ | refine HeapOK.acc rfl rfl ?_ | refine HeapOK.es rfl rfl ?_ | exact HeapOK.fam wOK (by repeat' (first | exact Tl.here | refine Tl.cons rfl ?_)) rfl)) ⟨rfl, rfl⟩)))
  have hTne : R ≠ [] := hRT hTe
  have hTp : 0 < T.length := by cases T with
    | nil => exact absurd rfl hTe
    | cons t T => simp
  obtain rfl := hmf hTe
  refine M.cond rfl (fun h => absurd h (by rw [hl]; omega)) (fun _ => ?_)
  refine M.go rfl ?_
  refine M.midC [(0, .c (.ptr 2 0)), (3, .c (.ptr 8 0)), (32, .c (.p (.bs (!decide (mf = mf)))))] (saX s mf zm T cm) ?_ ?_
  · refine M.regF (MF.go rfl ?_)
    obtain ⟨room, first, en, L, lc, F, c, _ | ⟨w, W⟩, _ | _ | ⟨o, m, X, Y⟩⟩ := s
    · exact hi.lg.elim
    · obtain rfl : R = [] := hi.lg
      exact absurd rfl hTne
    · have h := hi.lg
      obtain ⟨rfl, hX, hXY, hXr, hYr⟩ := h
      cases hRc : R with
      | nil =>
        subst hRc
        exact absurd rfl hTne
      | cons b1 T2 =>
        have hne : R ≠ [] := by rw [hRc]; simp
        obtain ⟨g1, g2, g3⟩ := (hi.ok hne).len
        have hff := hi.first hne
        rw [hRc] at g2 g3
        simp at g2 g3 hff
        subst hff
        refine MF.use trivial (gfirst0_1 room first en o T2.length L lc F c X Y) [(0, 2), (1, 0), (2, 3), (3, 4), (4, 6), (5, 7)] rfl rfl rfl (by repeat' (first | exact True.intro | refine hpC rfl rfl rfl ?_ | refine ⟨⟨_, _, _, rfl, rfl, rfl, @WkO.rfl _⟩, ?_⟩ | refine HeapOK.acc rfl rfl ?_)) rfl rfl (MF.go rfl ?_)
        refine MF.nil mixed (Fnl.nodup rfl) rfl ⟨⟨stepX_ok rfl, trivial⟩, trivial⟩ (M.go rfl ?_)
        exact M.end [(0, 0), (1, 1), (2, 2), (3, 3), (4, 4), (5, 5), (6, 6), (7, 7), (8, 8)] rfl (by repeat' (first | exact True.intro | refine evC rfl rfl Wk.rfl ?_ | refine evC (accV_ren rfl) rfl Wk.rfl ?_ | refine evC (accV_ren rfl) rfl Wk.acc0 ?_ | refine evC rfl rfl Wk.uncap ?_ | refine evC rfl rfl Wk.nil ?_)) (by repeat' (first | exact True.intro | refine hpC rfl rfl rfl ?_ | refine ⟨⟨_, _, _, rfl, rfl, rfl, @WkO.rfl _⟩, ?_⟩ | refine HeapOK.acc rfl rfl ?_))
    · exact hi.lg.elim
    · obtain rfl : R = [] := hi.lg
      exact absurd rfl hTne
    · have h := hi.lg
      obtain ⟨rfl, hX, hXY, hXr, hYr⟩ := h
      cases hRc : R with
      | nil =>
        subst hRc
        exact absurd rfl hTne
      | cons b1 T2 =>
        have hne : R ≠ [] := by rw [hRc]; simp
        obtain ⟨g1, g2, g3⟩ := (hi.ok hne).len
        have hff := hi.first hne
        rw [hRc] at g2 g3
        simp at g2 g3 hff
        subst hff
        refine MF.use trivial (gfirst1_1 room first en o T2.length L lc F c w W X Y) [(0, 2), (1, 0), (2, 3), (3, 4), (4, 5), (5, 6), (6, 7)] rfl rfl rfl (by repeat' (first | exact True.intro | refine hpC rfl rfl rfl ?_ | refine ⟨⟨_, _, _, rfl, rfl, rfl, @WkO.rfl _⟩, ?_⟩ | refine HeapOK.acc rfl rfl ?_)) rfl rfl (MF.go rfl ?_)
        refine MF.nil mixed (Fnl.nodup rfl) rfl ⟨⟨stepX_ok rfl, trivial⟩, trivial⟩ (M.go rfl ?_)
        exact M.end [(0, 0), (1, 1), (2, 2), (3, 3), (4, 4), (5, 5), (6, 6), (7, 7), (8, 8)] rfl (by repeat' (first | exact True.intro | refine evC rfl rfl Wk.rfl ?_ | refine evC (accV_ren rfl) rfl Wk.rfl ?_ | refine evC (accV_ren rfl) rfl Wk.acc0 ?_ | refine evC rfl rfl Wk.uncap ?_ | refine evC rfl rfl Wk.nil ?_)) (by repeat' (first | exact True.intro | refine hpC rfl rfl rfl ?_ | refine ⟨⟨_, _, _, rfl, rfl, rfl, @WkO.rfl _⟩, ?_⟩ | refine HeapOK.acc rfl rfl ?_))
  refine M.go rfl ?_
  refine M.condN rfl (fun h => absurd rfl h) (fun _ => ?_)
  refine M.go rfl ?_
  refine M.loop (XH.ren [(0, 0), (1, 1), (2, 2), (3, 3), (4, 4), (5, 5), (6, 6), (7, 7), (8, 8)] (same_loop hi zm T cm hR hTe hB _ ?_ T.length 0 (by omega)) rfl (by repeat' (first | exact True.intro | refine evC rfl rfl Wk.rfl ?_ | refine evC (accV_ren rfl) rfl Wk.rfl ?_ | refine evC (accV_ren rfl) rfl Wk.acc0 ?_ | refine evC rfl rfl Wk.uncap ?_ | refine evC rfl rfl Wk.nil ?_)) ⟨(hpX rfl rfl rfl), HeapOK.fam wOK (by repeat' (first | exact Tl.here | refine Tl.cons rfl ?_)) rfl⟩)
  refine M.q (M.go rfl ?_)
  obtain ⟨g1, g2, g3⟩ := (hi.ok hTne).len
  rw [wr64 (n := mf - 1) (by omega) (by omega)]
  refine M.useR (s := s) wOK [(8, some (.row (mdA mf zm T cm) true))] [(0, .c (.ptr 2 0)), (3, .c (.ptr 8 0))] trivial (W_getn hi (mf - 1) (fun _ => by omega)) rfl ⟨⟨rfl, rfl⟩, trivial⟩ rfl rfl rfl rfl (fun r s' h => by rw [h.1]; rfl) (by repeat' (first | exact True.intro | refine evC rfl rfl Wk.rfl ?_ | refine evC (accV_ren rfl) rfl Wk.rfl ?_ | refine evC (accV_ren rfl) rfl Wk.acc0 ?_ | refine evC rfl rfl Wk.uncap ?_ | refine evC rfl rfl Wk.nil ?_)) (fun r s' h => ?_)
  obtain ⟨rfl, h2⟩ := h
  rw [h2]
  refine M.go rfl ?_
  refine M.use0 trivial (mlast_spec mf zm T cm hmb hTl) rfl rfl rfl ?_
  refine M.go rfl ?_
  rw [lastM, if_neg hTe, wr64 (n := mf + (T.length : Int) - 1 + 1) (by omega) (by omega)]
  refine M.useR (s := s) wOK [(8, some (.row (mdA mf zm T cm) true))] [(0, .c (.ptr 2 0)), (3, .c (.ptr 8 0)), (9, .c (.p (.bool false)))] trivial (W_getn hi (mf + (T.length : Int) - 1 + 1) (fun _ => by omega)) rfl ⟨⟨rfl, rfl⟩, trivial⟩ rfl rfl rfl rfl (fun r s' h => by rw [h.1]; rfl) (by repeat' (first | exact True.intro | refine evC rfl rfl Wk.rfl ?_ | refine evC (accV_ren rfl) rfl Wk.rfl ?_ | refine evC (accV_ren rfl) rfl Wk.acc0 ?_ | refine evC rfl rfl Wk.uncap ?_ | refine evC rfl rfl Wk.nil ?_)) (fun r s' h => ?_)
  obtain ⟨rfl, h2⟩ := h
  rw [h2]
  refine M.go rfl ?_
  exact M.ret (M.go rfl (M.done (finR.ret wOK (.c (.p (.bool true))) s [(0, 0), (1, 1), (2, 2), (3, 3), (4, 4), (5, 5), (6, 6), (7, 7)] rfl rfl rfl Wk.rfl (by repeat' (first | exact True.intro | refine hpC rfl rfl rfl ?_ | refine HeapOK.acc rfl rfl ?_ | refine HeapOK.es rfl rfl ?_ | exact HeapOK.fam wOK (by repeat' (first | exact Tl.here | refine Tl.cons rfl ?_)) rfl)) ⟨rfl, rfl⟩)))
end Go.Proofs.Ytjlfojgacnphmaa

namespace Go.Proofs.Ytjlfojgacnphmaa
open Go.RowKit Sim Go Sym
set_option maxRecDepth 100000
set_option linter.unusedVariables false
set_option linter.unusedSimpArgs false
variable {base : Nat}
theorem flat_le {B : Nat} : ∀ (R : List (List Int)) (f : Int), (∀ b ∈ R, b.length ≤ B) → B ≤ 30000 → (R ≠ [] → 1 ≤ f ∧ f + R.length ≤ 1200000000000000) → (flatR f R).length ≤ R.length * (B + 18)
  | [], f, _, _, _ => by simp [flatR]
  | b :: R, f, h, hB, hf => by
    have h1 := hf (by simp)
    simp only [List.length_cons] at h1
    have h2 := h b (by simp)
    have h3 := seal_le (n := f) (b := b) (by omega) (by omega) (by omega)
    have h4 := flat_le R (f + 1) (fun x hx => h x (by simp [hx])) hB (fun _ => by omega)
    rw [flatR, List.length_append, List.length_cons, Nat.succ_mul]
    omega
theorem WInv.free {s : WS} {f g : Int} (h : WInv s f []) : WInv s g [] := ⟨fun h => absurd rfl h, h.room, by rw [h.en]; rfl, h.lg.free, fun h => absurd rfl h, h.file, h.sz⟩
def P50 : Int := 1125899906842624
structure Lp (i : Nat) (s : WS) (f : Int) (T : List Rc) : Prop where
  inv : WInv s f (rsR T)
  b : ∀ t ∈ T, Bytes t.2.1 ∧ t.2.1.length ≤ 300
  len : T.length ≤ i
  rng : T ≠ [] → 1 ≤ f ∧ f + T.length ≤ P50 + 1
  dk : wtN s.dk ≤ 2 * i
  nl : s.lg = .nil → s.dk = none
theorem rsR_len (T : List Rc) : (rsR T).length = T.length := by simp [rsR]
theorem rsR_ne {T : List Rc} : rsR T ≠ [] ↔ T ≠ [] := by simp [rsR]
theorem rec_ok {f : Int} {T : List Rc} (hb : ∀ t ∈ T, Bytes t.2.1 ∧ t.2.1.length ≤ 300) (hl : T.length ≤ 1000) (hr : 1 ≤ f ∧ f + T.length ≤ P50 + 1) : RecOK f (rsR T) := by
  have : P50 = 1125899906842624 := rfl
  refine ⟨by rw [rsR_len]; omega, by rw [rsR_len]; omega, fun x hx => ?_⟩
  obtain ⟨t, ht, rfl⟩ := List.mem_map.1 hx
  have := hb t ht
  exact ⟨this.1, by omega⟩
theorem Lp.flat {i : Nat} {s : WS} {f : Int} {T : List Rc} (h : Lp i s f T) (hi : i ≤ 100) : (flatR f (rsR T)).length ≤ 31800 := by
  have h1 := flat_le (B := 300) (rsR T) f (fun x hx => by obtain ⟨t, ht, rfl⟩ := List.mem_map.1 hx; exact (h.b t ht).2) (by omega) (fun hne => by
    have := h.rng (rsR_ne.1 hne)
    have h2 : P50 = 1125899906842624 := rfl
    rw [rsR_len]; omega)
  rw [rsR_len] at h1
  have := h.len
  omega
theorem wtN_wt (p : PC) (d : Option (PC × List PC)) : wtN (wt p d) = wtN d + 1 := by
  cases d with
  | none => rfl
  | some x => simp [wt, wtN]
theorem lastM_ne {f : Int} {T : List Rc} (h : T ≠ []) : lastM f T = f + T.length - 1 := if_neg h
abbrev err (e : Int) : XV := .c (.p (.int .i64 e))
theorem Lp.more {i : Nat} {s : WS} {f : Int} {T : List Rc} (h : Lp i s f T) : Lp (i + 1) s f T := ⟨h.inv, h.b, by have := h.len; omega, h.rng, by have := h.dk; omega, h.nl⟩
section
variable {i : Nat} {s : WS} {f : Int} {T : List Rc} (h : Lp i s f T) (hi : i ≤ 100)
include h hi
theorem Lp.append (n : Int) (hn : n ≤ P50) (b : Rc) (hb : Bytes b.2.1 ∧ b.2.1.length ≤ 300) : CW base 21 [.c (.ptr 2 0), .c (.p (.int .i64 n)), .c (.p (recP b))] s (fun r s' => r = err (doF f T 0 n b).2.2 ∧ Lp (i + 1) s' (doF f T 0 n b).1 (doF f T 0 n b).2.1) := by
  have hP : P50 = 1125899906842624 := rfl
  unfold doF
  rw [if_pos rfl]
  have hRl := rsR_len T
  by_cases h1 : n < 1
  · rw [if_pos (.inl h1)]
    exact (W_append_e1 s n b.1 b.2.1 b.2.2 h1).mono fun r s' hr => ⟨hr.1, by rw [hr.2]; exact h.more⟩
  · by_cases h2 : T ≠ [] ∧ n - 1 ≠ lastM f T
    · rw [if_pos (.inr h2)]
      rw [lastM_ne h2.1] at h2
      exact (W_append_e2 h.inv n b.1 b.2.1 b.2.2 (by omega) (rsR_ne.2 h2.1) (by rw [hRl]; omega)).mono fun r s' hr => ⟨hr.1, by rw [hr.2]; exact h.more⟩
    · rw [if_neg (fun h => h.elim h1 h2)]
      obtain ⟨g, hg⟩ : ∃ g, g = if T = [] then n else f := ⟨_, rfl⟩
      have hgT : T ≠ [] → g = f := fun hT => by rw [hg, if_neg hT]
      have hgn : n = g + T.length := by
        by_cases hT : T = []
        · rw [hg, if_pos hT, hT]; simp
        · have h3 : n - 1 = lastM f T := Decidable.byContradiction fun h3 => h2 ⟨hT, h3⟩
          rw [lastM_ne hT] at h3
          rw [hgT hT]; omega
      have hlen := h.len
      have hr2 : 1 ≤ g ∧ g + (T ++ [b]).length ≤ P50 + 1 := by
        rw [List.length_append, List.length_cons, List.length_nil]
        by_cases hT : T = []
        · rw [hT] at hgn ⊢; simp at hgn ⊢; omega
        · have := h.rng hT
          rw [hgT hT] at hgn ⊢; omega
      have hb2 : ∀ t ∈ T ++ [b], Bytes t.2.1 ∧ t.2.1.length ≤ 300 := fun t ht => by
        rcases List.mem_append.1 ht with h4 | h4
        · exact h.b t h4
        · simp at h4; subst h4; exact hb
      have happ : rsR (T ++ [b]) = rsR T ++ [b.2.1] := by simp [rsR]
      have hok := rec_ok hb2 (by simp; omega) hr2
      rw [happ] at hok
      have hfl := h.flat hi
      refine (W_append h.inv g n (fun hR => hgT (rsR_ne.1 hR)) (by rw [hRl]; exact hgn) b.1 b.2.1 b.2.2 hb.1 (by omega) hok (by rw [hRl]; omega) (by omega) h.nl (by have := h.dk; omega)).mono fun r s' hr => ?_
      obtain ⟨r1, r2, r3, r4, r5, r6⟩ := hr
      rw [← hg]
      exact ⟨r1, by rw [happ]; exact r2, hb2, by simp; omega, fun _ => hr2, by rw [r5, wtN_wt]; have := h.dk; omega, fun hl => absurd hl r6⟩
theorem Lp.from (n : Int) (hn : n ≤ P50) (b : Rc) : CW base 25 [.c (.ptr 2 0), .c (.p (.int .i64 n))] s (fun r s' => r = err (doF f T 1 n b).2.2 ∧ Lp (i + 1) s' (doF f T 1 n b).1 (doF f T 1 n b).2.1) := by
  have hP : P50 = 1125899906842624 := rfl
  unfold doF
  rw [if_neg (by decide), if_pos rfl]
  have hRl := rsR_len T
  by_cases h1 : n < 1
  · rw [if_pos h1]
    exact (W_from_e1 s n h1).mono fun r s' hr => ⟨hr.1, by rw [hr.2]; exact h.more⟩
  rw [if_neg h1]
  by_cases h2 : T ≠ [] ∧ n ≤ lastM f T
  · rw [if_pos h2]
    obtain ⟨hT, h3⟩ := h2
    rw [lastM_ne hT] at h3
    have hlen := h.len
    obtain ⟨κ, hκ⟩ : ∃ κ, κ = (max 0 (n - f)).toNat := ⟨_, rfl⟩
    rw [← hκ]
    refine (W_from_y h.inv n (rsR_ne.2 hT) (by omega) (by rw [hRl]; omega) κ (by omega) (by have := h.dk; omega)).mono fun r s' hr => ?_
    obtain ⟨r1, r2, r3, r4, r5, r6⟩ := hr
    have hr := h.rng hT
    refine ⟨r1, by rw [rsR, List.map_take]; exact r2, fun t ht => h.b t (List.mem_of_mem_take ht), by rw [List.length_take]; omega, fun _ => by rw [List.length_take]; omega, by rw [r5, wtN_wt]; have := h.dk; omega, fun hl => absurd hl r6⟩
  · rw [if_neg h2]
    refine (W_from_n h.inv n (by omega) (fun hR => ?_)).mono fun r s' hr => ⟨hr.1, by rw [hr.2]; exact h.more⟩
    have hT := rsR_ne.1 hR
    have h3 : ¬ n ≤ lastM f T := fun h3 => h2 ⟨hT, h3⟩
    rw [lastM_ne hT] at h3
    rw [hRl]; omega
end
theorem Lp.sync {i : Nat} {s : WS} {f : Int} {T : List Rc} (h : Lp i s f T) : CW base 22 [.c (.ptr 2 0)] s (fun r s' => r = .tup [] ∧ s' = { s with L := s.F, lc := s.c, dk := none } ∧ Lp (i + 1) s' f T) :=
  (W_sync h.inv h.nl).mono fun r s' ⟨h1, h2⟩ => ⟨h1, h2, by
    subst h2
    exact ⟨⟨h.inv.ok, h.inv.room, h.inv.en, h.inv.lg, h.inv.first, h.inv.file, h.inv.sz⟩, h.b, by have := h.len; omega, h.rng, by simp [wtN], fun _ => rfl⟩⟩
theorem W_crash0 (room a b : Int) (L : FS) (lc : Nat) (F : FS) (c : Nat) (n torn : Int) : CallR Try.prog base wFam 0 23 [.c (.ptr 0 0), .c (.p (.int .i64 n)), .c (.p (.int .i64 torn))] ⟨room, a, b, L, lc, F, c, none, .no⟩ (fun r s' => r = .c (.ptr 0 0) ∧ s' = ⟨room, 0, 0, L, lc, L, lc, none, .no⟩) :=
  CallR.leaf (crash0_spec room L lc F c n torn) [(0, 0), (1, 3), (2, 4)] rfl rfl (by repeat' (first | exact True.intro | refine hpC rfl rfl rfl ?_ | refine ⟨⟨_, _, _, rfl, rfl, rfl, @WkO.rfl _⟩, ?_⟩ | refine HeapOK.acc rfl rfl ?_)) rfl rfl (.c (.ptr 0 0)) (⟨room, 0, 0, L, lc, L, lc, none, .no⟩ : WS) [(0, 8), (3, 9), (4, 10)] rfl rfl Wk.rfl (by repeat' (first | exact True.intro | refine hpC rfl rfl rfl ?_ | refine ⟨⟨_, _, _, rfl, rfl, rfl, @WkO.rfl _⟩, ?_⟩ | refine HeapOK.acc rfl rfl ?_)) ⟨rfl, rfl⟩
theorem LGok.opened (f : Int) (R : List (List Int)) : LGok f R (.own 0 R.length (rcsP R) (posR 0 f R)) := by
  refine ⟨rfl, by rw [rcsP_len]; omega, by rw [posR_len, rcsP_len], fun j b hj => ⟨false, ?_⟩, fun j hj => ?_⟩
  · rw [Nat.zero_add]; exact rcsP_at R j b hj
  · rw [Nat.zero_add, posR_at R 0 f j hj, Int.zero_add]
theorem W_open0 (a b : Int) (L : FS) (lc : Nat) (F : FS) (c : Nat) (f : Int) (R : List (List Int)) (hR : R ≠ [] → RecOK f R) (hF : Fok (flatR f R) F c) (hsz : (flatR f R).length ≤ 400000) :
    CallR Try.prog base wFam 1 20 [.c (.ptr 0 0)] ⟨mB, a, b, L, lc, F, c, none, .no⟩ (fun r s' => r = .tup [.c (.ptr 2 0), err 0] ∧ WInv s' f R ∧ s'.L = L ∧ s'.lc = lc ∧ s'.F = F ∧ s'.c = c ∧ s'.dk = none) := by
  cases R with
  | nil =>
    have hF' := hF
    rcases hF with ⟨-, rfl, rfl⟩ | ⟨⟨z, cp, rfl⟩, hc⟩
    · exact CallR.leaf (wopen_empty mB L lc [] 0 rfl rfl) [(0, 0), (1, 3), (2, 4)] rfl rfl (by repeat' (first | exact True.intro | refine hpC rfl rfl rfl ?_ | refine ⟨⟨_, _, _, rfl, rfl, rfl, @WkO.rfl _⟩, ?_⟩ | refine HeapOK.acc rfl rfl ?_)) rfl rfl (.tup [.c (.ptr 2 0), err 0]) (⟨mB, 0, 0, L, lc, [], 0, none, .nil⟩ : WS) [(0, 0), (2, 8), (3, 3), (4, 4)] rfl rfl Wk.rfl (by repeat' (first | exact True.intro | refine hpC rfl rfl rfl ?_ | refine ⟨⟨_, _, _, rfl, rfl, rfl, @WkO.rfl _⟩, ?_⟩ | refine HeapOK.acc rfl rfl ?_)) ⟨rfl, ⟨fun h => absurd rfl h, rfl, rfl, rfl, fun h => absurd rfl h, hF', by simp [flatR]⟩, rfl, rfl, rfl, rfl, rfl⟩
    · exact CallR.leaf (gopen_e mB L lc (f1 [119] (fP z (flatR f []) cp)) c z cp [] Bytes.nil (by simp) rfl rfl rfl rfl) [(0, 0), (1, 3), (2, 4)] rfl rfl (by repeat' (first | exact True.intro | refine hpC rfl rfl rfl ?_ | refine ⟨⟨_, _, _, rfl, rfl, rfl, @WkO.rfl _⟩, ?_⟩ | refine HeapOK.acc rfl rfl ?_)) rfl rfl (.tup [.c (.ptr 2 0), err 0]) (⟨mB, 0, 0, L, lc, f1 [119] (fP z (flatR f []) cp), c, none, .nil⟩ : WS) [(0, 0), (2, 8), (3, 3), (4, 4)] rfl rfl Wk.rfl (by repeat' (first | exact True.intro | refine hpC rfl rfl rfl ?_ | refine ⟨⟨_, _, _, rfl, rfl, rfl, @WkO.rfl _⟩, ?_⟩ | refine HeapOK.acc rfl rfl ?_)) ⟨rfl, ⟨fun h => absurd rfl h, rfl, rfl, rfl, fun h => absurd rfl h, hF', by simp [flatR]⟩, rfl, rfl, rfl, rfl, rfl⟩
  | cons b1 rest =>
    have hok := hR (by simp)
    have hF' := hF
    have hpos := flatR_pos hok
    rcases hF with ⟨h0, -, -⟩ | ⟨⟨z, cp, rfl⟩, hc⟩
    · rw [h0] at hpos; simp at hpos
    · exact CallR.leaf (gopen_n mB L lc (f1 [119] (fP z (flatR f (b1 :: rest)) cp)) c f b1 rest hok z cp (flatR f (b1 :: rest)) (flatR_bytes _ _ hok) (by omega) (scan_flat _ _ hok) rfl rfl rfl) [(0, 0), (1, 3), (2, 4)] rfl rfl (by repeat' (first | exact True.intro | refine hpC rfl rfl rfl ?_ | refine ⟨⟨_, _, _, rfl, rfl, rfl, @WkO.rfl _⟩, ?_⟩ | refine HeapOK.acc rfl rfl ?_)) rfl rfl (.tup [.c (.ptr 2 0), err 0]) (⟨mB, f, ((flatR f (b1 :: rest)).length : Nat), L, lc, f1 [119] (fP z (flatR f (b1 :: rest)) cp), c, none, .own 0 (b1 :: rest).length (rcsP (b1 :: rest)) (posR 0 f (b1 :: rest))⟩ : WS) [(0, 0), (2, 8), (3, 3), (4, 4), (6, 9), (7, 10)] rfl rfl Wk.rfl (by repeat' (first | exact True.intro | refine hpC rfl rfl rfl ?_ | refine ⟨⟨_, _, _, rfl, rfl, rfl, @WkO.rfl _⟩, ?_⟩ | refine HeapOK.acc rfl rfl ?_)) ⟨rfl, ⟨fun _ => hok, rfl, rfl, LGok.opened _ _, fun _ => rfl, hF', hsz⟩, rfl, rfl, rfl, rfl, rfl⟩
end Go.Proofs.Ytjlfojgacnphmaa

namespace Go.Proofs.Ytjlfojgacnphmaa
open Go.RowKit Sim Go Sym
set_option maxRecDepth 100000
set_option linter.unusedVariables false
set_option linter.unusedSimpArgs false
variable {base : Nat}
def cA (S : List Int) : Chg := ⟨0, [119], [], false, S, none, 0⟩
def cC (p : Nat) : Chg := ⟨1, [119], [], true, [], none, p⟩
def cF (X : List Int) : Chg := ⟨0, frN, [], false, X, none, 0⟩
def cM : Chg := ⟨3, frN, [119], true, [], none, 0⟩
def cR : Chg := ⟨2, frN, [], true, [], none, 0⟩
def Dk (B : List Int) : Option (List Int) → FS × Nat → Prop
  | none, s => Fok B s.1 s.2
  | some X, s => ∃ z cp z' cp' b, s.1 = [(0, [119], fP z B cp), (b, frN, fP z' X cp')] ∧ 1 ≤ b ∧ b < s.2
theorem Dk.app {B : List Int} {s : FS × Nat} (h : Dk B none s) (S : List Int) (k : Nat) (hk : k ≤ S.length) (hB : B.length ≤ 100000000) (hS : S.length ≤ 100000000) : ∃ t, Do (cA S) k s t ∧ Dk (B ++ S.take k) none t := by
  obtain ⟨F, c⟩ := s
  have h : Fok B F c := h
  rcases h with ⟨rfl, rfl, rfl⟩ | ⟨⟨z, cp, rfl⟩, hc⟩
  · refine ⟨_, .new rfl hk hS rfl, ?_⟩
    show Fok _ (f1 [119] (apF true [] (S.take k))) 1
    by_cases h0 : S.take k = []
    · rw [h0]; exact .inr ⟨⟨_, _, rfl⟩, Nat.le_refl _⟩
    · rw [apF, if_neg h0]; exact .inr ⟨⟨_, _, rfl⟩, Nat.le_refl _⟩
  · refine ⟨_, .app rfl hk hS rfl hB, ?_⟩
    show Fok _ (f1 [119] (apF (z && (u8P B).isEmpty) B (S.take k))) c
    by_cases h0 : S.take k = []
    · rw [h0, List.append_nil]; exact .inr ⟨⟨_, _, rfl⟩, hc⟩
    · rw [apF, if_neg h0]; exact .inr ⟨⟨_, _, rfl⟩, hc⟩
theorem Dk.cutd {B : List Int} {s : FS × Nat} (h : Dk B none s) (hB : B ≠ []) (p k : Nat) (hp : p ≤ B.length) : ∃ t, Do (cC p) k s t ∧ Dk (B.take p) none t := by
  obtain ⟨F, c⟩ := s
  have h : Fok B F c := h
  rcases h with ⟨rfl, rfl, rfl⟩ | ⟨⟨z, cp, rfl⟩, hc⟩
  · exact absurd rfl hB
  · exact ⟨_, .cut rfl rfl rfl hp, .inr ⟨⟨_, _, rfl⟩, hc⟩⟩
theorem Dk.frs {B : List Int} {s : FS × Nat} (h : Dk B none s) (hB : B ≠ []) (X : List Int) (k : Nat) (hk : k ≤ X.length) (hX : X.length ≤ 100000000) : ∃ t, Do (cF X) k s t ∧ Dk B (some (X.take k)) t := by
  obtain ⟨F, c⟩ := s
  have h : Fok B F c := h
  rcases h with ⟨rfl, rfl, rfl⟩ | ⟨⟨z, cp, rfl⟩, hc⟩
  · exact absurd rfl hB
  · refine ⟨_, .new rfl hk hX rfl, ?_⟩
    have hc' : 1 ≤ c := hc
    by_cases h0 : X.take k = []
    · refine ⟨z, cp, true, some 0, c, ?_, hc', Nat.lt_succ_self c⟩
      show [(0, [119], fP z B cp), (c, frN, apF true [] (X.take k))] = _
      rw [h0, apF, if_pos rfl]; rfl
    · refine ⟨z, cp, false, none, c, ?_, hc', Nat.lt_succ_self c⟩
      show [(0, [119], fP z B cp), (c, frN, apF true [] (X.take k))] = _
      rw [apF, if_neg h0]; rfl
theorem Dk.mvd {B X : List Int} {s : FS × Nat} (h : Dk B (some X) s) (k : Nat) : ∃ t, Do cM k s t ∧ Dk X none t := by
  obtain ⟨F, c⟩ := s
  obtain ⟨z, cp, z', cp', b, h1, h2, h3⟩ := h
  have h1 : F = _ := h1
  subst h1
  have h3 : b < c := h3
  exact ⟨_, .mv (z := z') (old := X) (oc := cp') rfl rfl, .inr ⟨⟨_, _, rfl⟩, show 1 ≤ c by omega⟩⟩
theorem Dk.rmd {B X : List Int} {s : FS × Nat} (h : Dk B (some X) s) (k : Nat) : ∃ t, Do cR k s t ∧ Dk B none t := by
  obtain ⟨F, c⟩ := s
  obtain ⟨z, cp, z', cp', b, h1, h2, h3⟩ := h
  have h1 : F = _ := h1
  subst h1
  have h3 : b < c := h3
  exact ⟨_, .rm rfl rfl, .inr ⟨⟨_, _, rfl⟩, show 1 ≤ c by omega⟩⟩
inductive Stp : List Int → List Chg → List Int → Prop where
  | nop {B : List Int} : Stp B [] B
  | app {B : List Int} (x : List Int) (hx : x.length ≤ 65536) (hb : Bytes x) : Stp B [cA (sealB x)] (B ++ sealB x)
  | cut {B : List Int} (p : Nat) (hB : B ≠ []) (hp : p ≤ B.length) : Stp B [cC p] (B.take p)
  | unt {B : List Int} (X : List Int) (hB : B ≠ []) : Stp B [cF X, cM] X
inductive Pth : List Int → List Chg → List (List Int) → Prop where
  | nil {B : List Int} : Pth B [] []
  | cons {B B' : List Int} {V W : List Chg} {l : List (List Int)} (h : Stp B V B') (t : Pth B' W l) : Pth B (V ++ W) (B' :: l)
theorem Pth.snoc {B : List Int} {V : List Chg} {l : List (List Int)} (h : Pth B V l) : ∀ {E B' : List Int} {W : List Chg}, (B :: l).getLast? = some E → Stp E W B' → Pth B (V ++ W) (l ++ [B']) := by
  induction h with
  | nil =>
    intro E B' W he hs
    simp at he
    subst he
    have := Pth.cons hs .nil
    simpa using this
  | @cons B B1 V V2 l hs hp ih =>
    intro E B' W he hs2
    have := ih (E := E) (B' := B') (W := W) (by rw [List.getLast?_cons_cons] at he; exact he) hs2
    rw [List.append_assoc]
    exact .cons hs this
theorem CrR.stop {n torn : Int} : ∀ (V : List Chg) (j : Nat) (s : FS × Nat), n < j → CrR n torn V j s s
  | [], _, _, _ => rfl
  | x :: V, j, s, h => ⟨s, by rw [Cr1, if_neg (by omega), if_neg (by omega)], CrR.stop V (j + 1) s (by omega)⟩
def Tl1 (tl : List Int) : Prop := ∃ x k, (x.length ≤ 65536 ∧ Bytes x) ∧ tl = (sealB x).take k ∧ k < (sealB x).length
theorem Tl1.nil : Tl1 [] := ⟨[], 0, ⟨by simp, Bytes.nil⟩, rfl, by rw [seal_len (by simp)]; simp⟩
theorem Tl1.first {tl : List Int} (h : Tl1 tl) : firstB tl = none := by
  obtain ⟨x, k, ⟨hx, hb⟩, rfl, hk⟩ := h
  rw [seal_len hx] at hk
  exact cut_first hx hk
theorem Tl1.bytes {tl : List Int} (h : Tl1 tl) : tl.length ≤ 65544 := by
  obtain ⟨x, k, ⟨hx, hb⟩, rfl, hk⟩ := h
  rw [seal_len hx] at hk
  rw [List.length_take]; omega
theorem Tl1.isB {tl : List Int} (h : Tl1 tl) : Bytes tl := by
  obtain ⟨x, k, ⟨hx, hb⟩, rfl, hk⟩ := h
  exact fun y hy => seal_bytes hb y (List.mem_of_mem_take hy)
theorem scan_torn {tl : List Int} (ht : Tl1 tl) : ∀ (R : List (List Int)) (f : Int), (R ≠ [] → RecOK f R) → scan (flatR f R ++ tl) = (recsR f R, (flatR f R).length)
  | [], f, _ => by rw [flatR, List.nil_append, scan_none ht.first]; rfl
  | b :: R, f, h => by
    have h := h (by simp)
    have hb := h.b b (by simp)
    have hl := recB_len (n := f) h.f.1 (by have := h.f.2; simp only [List.length_cons] at this; omega) hb.2
    have h1 : firstB (flatR f (b :: R) ++ tl) = some (recB f b) := by rw [flatR, List.append_assoc]; exact first_seal (by omega) _
    have hs := seal_len (xs := recB f b) (by omega)
    rw [scan_some h1]
    have hd : (flatR f (b :: R) ++ tl).drop (8 + (recB f b).length) = flatR (f + 1) R ++ tl := by rw [flatR, List.append_assoc]; exact List.drop_left' hs
    rw [hd, scan_torn ht R (f + 1) (fun _ => h.tail)]
    simp only [flatR, recsR, List.length_append, hs]
structure Left (B : List Int) (l : List (List Int)) (t : FS × Nat) (E tl : List Int) (X : Option (List Int)) : Prop where
  at_ : E ∈ B :: l
  dk : Dk (E ++ tl) X t
  tail : Tl1 tl
  fr : X ≠ none → tl = [] ∧ E ≠ []
theorem Left.more {B B' : List Int} {l : List (List Int)} {t : FS × Nat} {E tl : List Int} {X : Option (List Int)} (h : Left B' l t E tl X) : Left B (B' :: l) t E tl X := ⟨List.mem_cons_of_mem _ h.at_, h.dk, h.tail, h.fr⟩
theorem Pth.crash {n torn : Int} {B : List Int} {V : List Chg} {l : List (List Int)} (h : Pth B V l) : ∀ (j : Nat) (s : FS × Nat), Dk B none s → (∀ E ∈ B :: l, E.length ≤ 10000000) → ∃ t E tl X, CrR n torn V j s t ∧ Left B l t E tl X := by
  induction h with
  | @nil B => exact fun j s hs _ => ⟨s, B, [], none, rfl, List.mem_cons_self .., by rw [List.append_nil]; exact hs, Tl1.nil, fun h => absurd rfl h⟩
  | @cons B B' V W l st hp ih =>
    intro j s hs hE
    have hB := hE B (by simp)
    have hE' : ∀ E ∈ B' :: l, E.length ≤ 10000000 := fun E h => hE E (List.mem_cons_of_mem _ h)
    have stay : Left B (B' :: l) s B [] none := ⟨List.mem_cons_self .., by rw [List.append_nil]; exact hs, Tl1.nil, fun h => absurd rfl h⟩
    cases st with
    | nop =>
      obtain ⟨t, E, tl, X, h1, h2⟩ := ih j s hs hE'
      exact ⟨t, E, tl, X, h1, h2.more⟩
    | app x hx hb =>
      have hsl := seal_len hx
      have hd : ∀ k, k ≤ (sealB x).length → ∃ t, Do (cA (sealB x)) k s t ∧ Dk (B ++ (sealB x).take k) none t := fun k hk => hs.app (sealB x) k hk (by omega) (by omega)
      by_cases h1 : (j : Int) < n
      · obtain ⟨u, d1, d2⟩ := hd _ (Nat.le_refl _)
        rw [List.take_length] at d2
        obtain ⟨t, E, tl, X, g1, g2⟩ := ih (j + 1) u d2 hE'
        exact ⟨t, E, tl, X, ⟨u, by rw [Cr1, if_pos h1]; exact d1, g1⟩, g2.more⟩
      by_cases h2 : (j : Int) = n ∧ 0 ≤ torn
      · obtain ⟨k, hk⟩ : ∃ k, k = min torn.toNat (sealB x).length := ⟨_, rfl⟩
        obtain ⟨u, d1, d2⟩ := hd k (by omega)
        have hc : CrR n torn (cA (sealB x) :: W) j s u := ⟨u, by rw [Cr1, if_neg h1, if_pos ⟨h2.1, h2.2, rfl⟩]; rw [hk] at d1; exact d1, CrR.stop W (j + 1) u (by omega)⟩
        by_cases h3 : k = (sealB x).length
        · rw [h3, List.take_length] at d2
          exact ⟨u, B ++ sealB x, [], none, hc, List.mem_cons_of_mem _ (List.mem_cons_self ..), by rw [List.append_nil]; exact d2, Tl1.nil, fun h => absurd rfl h⟩
        · exact ⟨u, B, (sealB x).take k, none, hc, List.mem_cons_self .., d2, ⟨x, k, ⟨hx, hb⟩, rfl, by omega⟩, fun h => absurd rfl h⟩
      · exact ⟨s, B, [], none, ⟨s, by rw [Cr1, if_neg h1, if_neg (fun h => h2 ⟨h.1, h.2.1⟩)], CrR.stop W (j + 1) s (by omega)⟩, stay⟩
    | cut p hBn hp2 =>
      by_cases h1 : (j : Int) < n
      · obtain ⟨u, d1, d2⟩ := hs.cutd hBn p 0 hp2
        obtain ⟨t, E, tl, X, g1, g2⟩ := ih (j + 1) u d2 hE'
        exact ⟨t, E, tl, X, ⟨u, by rw [Cr1, if_pos h1]; exact d1, g1⟩, g2.more⟩
      · exact ⟨s, B, [], none, ⟨s, by rw [Cr1, if_neg h1, if_neg (fun h => absurd h.2.2 (show ¬ (1 : Int) = 0 by decide))], CrR.stop W (j + 1) s (by omega)⟩, stay⟩
    | unt X hBn =>
      have hXl : B'.length ≤ 10000000 := hE' B' (by simp)
      by_cases h1 : (j : Int) < n
      · obtain ⟨u, d1, d2⟩ := hs.frs hBn B' _ (Nat.le_refl _) (by omega)
        rw [List.take_length] at d2
        by_cases h2 : ((j + 1 : Nat) : Int) < n
        · obtain ⟨v, e1, e2⟩ := d2.mvd 0
          obtain ⟨t, E, tl, X, g1, g2⟩ := ih (j + 1 + 1) v e2 hE'
          exact ⟨t, E, tl, X, ⟨u, by rw [Cr1, if_pos h1]; exact d1, v, by rw [Cr1, if_pos h2]; exact e1, g1⟩, g2.more⟩
        · exact ⟨u, B, [], some B', ⟨u, by rw [Cr1, if_pos h1]; exact d1, u, by rw [Cr1, if_neg h2, if_neg (fun h => absurd h.2.2 (show ¬ (3 : Int) = 0 by decide))], CrR.stop W (j + 1 + 1) u (by omega)⟩, List.mem_cons_self .., by rw [List.append_nil]; exact d2, Tl1.nil, fun _ => ⟨rfl, hBn⟩⟩
      by_cases h2 : (j : Int) = n ∧ 0 ≤ torn
      · obtain ⟨k, hk⟩ : ∃ k, k = min torn.toNat B'.length := ⟨_, rfl⟩
        obtain ⟨u, d1, d2⟩ := hs.frs hBn B' k (by omega) (by omega)
        rw [hk] at d1
        exact ⟨u, B, [], some (B'.take k), ⟨u, by rw [Cr1, if_neg h1, if_pos ⟨h2.1, h2.2, rfl⟩]; exact d1, CrR.stop (cM :: W) (j + 1) u (by omega)⟩, List.mem_cons_self .., by rw [List.append_nil]; exact d2, Tl1.nil, fun _ => ⟨rfl, hBn⟩⟩
      · exact ⟨s, B, [], none, ⟨s, by rw [Cr1, if_neg h1, if_neg (fun h => h2 ⟨h.1, h.2.1⟩)], CrR.stop (cM :: W) (j + 1) s (by omega)⟩, stay⟩
end Go.Proofs.Ytjlfojgacnphmaa

namespace Go.Proofs.Ytjlfojgacnphmaa
open Go.RowKit Sim Go Sym
set_option maxRecDepth 100000
set_option linter.unusedVariables false
set_option linter.unusedSimpArgs false
variable {base : Nat}
def hO1w (room first en : Int) (L : FS) (lc : Nat) (F : FS) (c : Nat) (w : PC) (W : List PC) (x : PC) (X : List PC) (y : PC) (Y : List PC) : HS := ⟨[(6, some (.els 1 (y :: Y))), (5, some (.els 1 (x :: X))), (4, some (.els 5 (w :: W))), (3, some (.row [.ptr 0 0, .p (.int .i64 first), .acc 5 1 (x :: X), .acc 6 1 (y :: Y), .p (.int .i64 en)] true)), (2, some (fM F c)), (1, some (fM L lc)), (0, some (.row [.p (.int .i64 room), .mp 1, .mp 2, .acc 4 5 (w :: W)] true))], 7⟩
def hOGw (room first en : Int) (m : Nat) (L : FS) (lc : Nat) (F : FS) (c : Nat) (w : PC) (W : List PC) (X Y : List PC) : HS := ⟨[(6, some (.els 1 Y)), (5, some (.els 1 X)), (4, some (.els 5 (w :: W))), (3, some (.row [.ptr 0 0, .p (.int .i64 first), .sl 5 0 m 1 none, .sl 6 0 m 1 none, .p (.int .i64 en)] true)), (2, some (fM F c)), (1, some (fM L lc)), (0, some (.row [.p (.int .i64 room), .mp 1, .mp 2, .acc 4 5 (w :: W)] true))], 7⟩
theorem open_loopw (room : Int) (L : FS) (lc : Nat) (F : FS) (c : Nat) (w : PC) (W : List PC) (B : List Int) (zb : Bool) (f : Int) (R : List (List Int)) (h : RecOK f R) (Q : QX) (hq : ∀ b0 pr, R = b0 :: pr → Q (.exit 0) (opE B zb) (hO1w room f ((flatR f R).length : Nat) L lc F c w W (rcP b0) (rcsP pr) (.int .i64 0) (yP b0 f pr))) :
    ∀ (rest : List (List Int)) (b0 : List Int) (pr : List (List Int)), R = (b0 :: pr) ++ rest → XH Try.prog base lWop.1.n 3 (lWop.1.c.lp 0) (opE B zb ++ [(31, .c (.p (.tz true 1 (sksP (recsR f R)) none))), (32, .c (.p (.int .i64 R.length))), (33, .c (.p (.int .i64 (b0 :: pr).length)))]) (hO1w room f ((flatR f (b0 :: pr)).length : Nat) L lc F c w W (rcP b0) (rcsP pr) (.int .i64 0) (yP b0 f pr)) Q := by
  have hsl : (sksP (recsR f R)).length = R.length := by simp [sksP, recsR_len]
  intro rest
  induction rest with
  | nil =>
    intro b0 pr hp
    rw [List.append_nil] at hp
    have hq' := hq b0 pr hp
    rw [hp] at hq'
    have hlen : R.length = (b0 :: pr).length := by rw [hp]
    refine M.round (M.go rfl ?_)
    refine M.cond rfl (fun hn => absurd hn (by omega)) (fun _ => ?_)
    refine M.ren [(0, 0), (1, 1), (2, 2), (3, 3), (4, 4), (5, 5), (6, 6)] ?_ trivial rfl (by repeat' (first | exact True.intro | refine evC rfl rfl Wk.rfl ?_ | refine evC (accV_ren rfl) rfl Wk.rfl ?_ | refine evC (accV_ren rfl) rfl Wk.acc0 ?_ | refine evC rfl rfl Wk.uncap ?_ | refine evC rfl rfl Wk.nil ?_)) (by repeat' (first | exact True.intro | refine hpC rfl rfl rfl ?_ | refine ⟨⟨_, _, _, rfl, rfl, rfl, @WkO.rfl _⟩, ?_⟩ | refine HeapOK.acc rfl rfl ?_)) (e' := opE B zb) (h' := hO1w room f ((flatR f (b0 :: pr)).length : Nat) L lc F c w W (rcP b0) (rcsP pr) (.int .i64 0) (yP b0 f pr))
    exact M.exit (M.go rfl (M.done hq'))
  | cons b rest ih =>
    intro b0 pr hp
    have hY := yP_len b0 f pr
    have hya := yP_app b0 f pr b
    have hlen : R.length = (b0 :: pr).length + (rest.length + 1) := by rw [hp]; simp; omega
    obtain ⟨j, hj⟩ : ∃ j, j = (b0 :: pr).length := ⟨_, rfl⟩
    have hj2 : j = pr.length + 1 := hj
    obtain ⟨n, hn⟩ : ∃ n : Int, n = f + j := ⟨_, rfl⟩
    have hRl := h.l
    have hf := h.f
    have hbb := h.b b (by rw [hp]; simp)
    have hl := recB_len (n := n) (b := b) (by omega) (by omega) hbb.2
    have hBs := recB_bytes (n := n) hbb.1
    have hn64 : InI64 n := ⟨by omega, by omega⟩
    have hnum := num_rec hn64 b
    have hat := recsR_at R f (b0 :: pr) b rest hp
    rw [← hj, ← hn] at hat
    have hu : (sksP (recsR f R))[((j : Int)).toNat]? = some (skP (recB n b)) := by rw [show ((j : Int)).toNat = j by omega, sksP, List.getElem?_map, hat]; rfl
    have hw2 : IntKind.i64.wrap ((j : Int) + 1) = ((j + 1 : Nat) : Int) := by rw [wr64 (by omega) (by omega)]; omega
    have hrok : (⟨false, recB n b, false⟩ : RS).ok := ⟨by show (recB n b).length ≤ _; omega, hBs, fun e => (by cases e), fun e => (by cases e)⟩
    have hrn := rnum_spec (base := base) ⟨false, recB n b, false⟩ hrok
    rw [hnum] at hrn
    have hfl : flatR f (b0 :: pr ++ [b]) = flatR f (b0 :: pr) ++ sealB (recB n b) := by rw [flatR_app, ← hj, ← hn]
    have hsn := seal_len (xs := recB n b) (by omega)
    have hfle := flatR_len (b0 :: pr) f ⟨⟨hf.1, by rw [hlen] at hf; omega⟩, by omega, fun c hc => h.b c (by rw [hp]; exact List.mem_append_left _ hc)⟩
    rw [← hj] at hfle ⊢
    have ih' := ih b0 (pr ++ [b])
    rw [show b0 :: (pr ++ [b]) = b0 :: pr ++ [b] from rfl, hfl, show (b0 :: pr ++ [b]).length = j + 1 by rw [hj]; simp, show (flatR f (b0 :: pr) ++ sealB (recB n b)).length = (flatR f (b0 :: pr)).length + (sealB (recB n b)).length from List.length_append] at ih'
    obtain ⟨E, hE⟩ : ∃ E, E = (flatR f (b0 :: pr)).length := ⟨_, rfl⟩
    rw [hya] at ih'
    rw [← hE] at ih' hfle ⊢
    generalize yP b0 f pr = Y at *
    generalize hy0 : PC.int .i64 (0 : Int) = y at *
    refine M.round (M.go rfl ?_)
    refine M.cond rfl (fun _ => ?_) (fun hn => absurd (by omega) hn)
    refine M.go rfl ?_
    refine M.op trivial (SOp.ia rfl rfl (by omega) hu) ?_
    refine M.op trivial (SOp.ld1e rfl hu rfl rfl rfl) ?_
    refine M.go rfl ?_
    refine M.use trivial (rread_spec false (recB n b) none (by omega)) [] rfl rfl rfl trivial rfl rfl ?_
    refine M.go rfl ?_
    refine M.use trivial hrn [(0, 7)] rfl rfl rfl (by repeat' (first | exact True.intro | refine hpC rfl rfl rfl ?_ | refine ⟨⟨_, _, _, rfl, rfl, rfl, @WkO.rfl _⟩, ?_⟩ | refine HeapOK.acc rfl rfl ?_)) rfl rfl ?_
    refine M.go rfl ?_
    refine M.use trivial (rleft_spec ⟨false, b, false⟩) [(0, 7)] rfl rfl rfl (by repeat' (first | exact True.intro | refine hpC rfl rfl rfl ?_ | refine ⟨⟨_, _, _, rfl, rfl, rfl, @WkO.rfl _⟩, ?_⟩ | refine HeapOK.acc rfl rfl ?_)) rfl rfl ?_
    refine M.go rfl ?_
    rw [u8P_len]
    have hdr : (recB n b).drop ((recB n b).length - b.length) = b := by rw [recB, List.length_append, Nat.add_sub_cancel]; exact List.drop_left' rfl
    rw [wr64 (n := ((recB n b).length : Int) - (b.length : Int)) (by omega) (by omega)]
    refine M.op trivial (SOp.sl (l := (recB n b).length - b.length) (r := (recB n b).length) rfl ⟨_, _, rfl, by omega, by omega⟩ (u8P_len _).symm (by omega) (by rw [u8P_len]; omega)) ?_
    rw [u8P_drop, hdr, List.take_of_length_le (by rw [u8P_len]; omega)]
    refine M.go rfl ?_
    refine M.use trivial (rok_spec ⟨false, b, false⟩) [(0, 7)] rfl rfl rfl (by repeat' (first | exact True.intro | refine hpC rfl rfl rfl ?_ | refine ⟨⟨_, _, _, rfl, rfl, rfl, @WkO.rfl _⟩, ?_⟩ | refine HeapOK.acc rfl rfl ?_)) rfl rfl ?_
    refine M.go rfl ?_
    refine M.decB rfl (fun hn => by cases hn) (fun _ => ?_)
    refine M.go rfl ?_
    refine M.dec rfl (fun hn => absurd hn (by omega)) (fun _ => ?_)
    refine M.go rfl ?_
    refine M.dec rfl (fun hn => absurd hn (by rw [u8P_len]; omega)) (fun _ => ?_)
    refine M.go rfl ?_
    refine M.dec rfl (fun _ => ?_) (fun hn => absurd (by simp) hn)
    refine M.go rfl ?_
    have hXl : (rcsP pr).length = pr.length := by simp [rcsP]
    refine M.use (by first | exact True.intro | exact rfl) (last11_spec room f (E : Int) L lc F c w W (rcP b0) (rcsP pr) y Y (by omega) ⟨by omega, by omega⟩) [(0, 3), (1, 0), (2, 1), (3, 2), (4, 4), (5, 5), (6, 6)] rfl rfl rfl (by repeat' (first | exact True.intro | refine hpC rfl rfl rfl ?_ | refine ⟨⟨_, _, _, rfl, rfl, rfl, @WkO.rfl _⟩, ?_⟩ | refine HeapOK.acc rfl rfl ?_)) rfl rfl ?_
    refine M.go rfl ?_
    rw [hXl, wr64 (n := f + (pr.length : Int) + 1) (by omega) (by omega)]
    refine M.condN rfl (fun hn' => absurd (by omega) hn') (fun _ => ?_)
    refine M.go rfl ?_
    refine M.use0 trivial (sealS_yes false none (recB n b) hBs (by omega)) rfl rfl rfl ?_
    refine M.go rfl ?_
    rw [u8P_len]
    refine M.use trivial (add11_spec room f (E : Int) L lc F c w W (rcP b0) (rcsP pr) y Y n false b none ((sealB (recB n b)).length : Int) (by omega) (by omega) (by omega) ⟨by omega, by omega⟩ ⟨by omega, by omega⟩) [(0, 3), (1, 0), (2, 1), (3, 2), (4, 4), (5, 5), (6, 6)] rfl rfl rfl (by repeat' (first | exact True.intro | refine hpC rfl rfl rfl ?_ | refine ⟨⟨_, _, _, rfl, rfl, rfl, @WkO.rfl _⟩, ?_⟩ | refine HeapOK.acc rfl rfl ?_)) rfl rfl ?_
    refine M.go rfl ?_
    rw [hw2, show (E : Int) + ((sealB (recB n b)).length : Int) = ((E + (sealB (recB n b)).length : Nat) : Int) by omega, show rcsP pr ++ [fP false b none] = rcsP (pr ++ [b]) by simp [rcsP, rcP]]
    exact M.again (XH.ren [(0, 0), (1, 1), (2, 2), (3, 3), (4, 4), (5, 8), (6, 9)] (ih' (by rw [hp]; simp)) rfl (by repeat' (first | exact True.intro | refine evC rfl rfl Wk.rfl ?_ | refine evC (accV_ren rfl) rfl Wk.rfl ?_ | refine evC (accV_ren rfl) rfl Wk.acc0 ?_ | refine evC rfl rfl Wk.uncap ?_ | refine evC rfl rfl Wk.nil ?_)) (by repeat' (first | exact True.intro | refine hpC rfl rfl rfl ?_ | refine ⟨⟨_, _, _, rfl, rfl, rfl, @WkO.rfl _⟩, ?_⟩ | refine HeapOK.acc rfl rfl ?_)))
theorem gopen_nf (room : Int) (L : FS) (lc : Nat) (F : FS) (c : Nat) (f : Int) (b : List Int) (rest : List (List Int)) (h : RecOK f (b :: rest)) (zF : Bool) (cp : Option Nat) (B : List Int) (hBB : Bytes B) (hBl : B.length ≤ 1000000000) (hscan : scan B = (recsR f (b :: rest), (flatR f (b :: rest)).length)) (hT : (flatR f (b :: rest)).length = B.length) (v : PC) (h1 : findP frN F = some v) (h2 : findP [119] (delP frN F) = some (fP zF B cp)) : CallS Try.prog base 20 [.c (.ptr 0 0)] (hD0 room L lc F c) (.tup [.c (.ptr 3 0), .c (.p (.int .i64 0))]) (hOGw room f ((flatR f (b :: rest)).length : Nat) (rest.length + 1) L lc (delP frN F) c cR.pc [] (rcsP (b :: rest)) (posR 0 f (b :: rest))) := by
  rw [posR_cons]
  have hBF := flatR_bytes (b :: rest) f h
  have hFl := flatR_len (b :: rest) f h
  have hRl := h.l
  have hf := h.f
  have hsc := scan_spec (base := base) zF B none hBB (by omega)
  rw [hscan] at hsc
  have hsl : (sksP (recsR f (b :: rest))).length = (b :: rest).length := by simp [sksP, recsR_len]
  have hbb := h.b b (by simp)
  have hl := recB_len (n := f) (b := b) (by omega) (by omega) hbb.2
  have hBs := recB_bytes (n := f) hbb.1
  have hn64 : InI64 f := ⟨by omega, by omega⟩
  have hnum := num_rec hn64 b
  have hrok : (⟨false, recB f b, false⟩ : RS).ok := ⟨by show (recB f b).length ≤ _; omega, hBs, fun e => (by cases e), fun e => (by cases e)⟩
  have hrn := rnum_spec (base := base) ⟨false, recB f b, false⟩ hrok
  rw [hnum] at hrn
  have hsn := seal_len (xs := recB f b) (by omega)
  have hu : (sksP (recsR f (b :: rest)))[((0 : Int)).toNat]? = some (skP (recB f b)) := rfl
  have h1f : (flatR f [b]).length = (sealB (recB f b)).length := by simp [flatR]
  refine CallS.of noNG lWop.2 rfl (M.start (M.go rfl ?_))
  refine M.use trivial (remove0_spec room L lc F c frN v h1) [(0, 0), (1, 1), (2, 2)] rfl rfl rfl (by repeat' (first | exact True.intro | refine hpC rfl rfl rfl ?_ | refine ⟨⟨_, _, _, rfl, rfl, rfl, @WkO.rfl _⟩, ?_⟩ | refine HeapOK.acc rfl rfl ?_)) rfl rfl ?_
  refine M.go rfl ?_
  refine M.use trivial (read1_spec room L lc (delP frN F) c cR.pc [] [119] zF B cp h2 (by omega)) [(0, 0), (1, 1), (2, 2), (3, 4)] rfl rfl rfl (by repeat' (first | exact True.intro | refine hpC rfl rfl rfl ?_ | refine ⟨⟨_, _, _, rfl, rfl, rfl, @WkO.rfl _⟩, ?_⟩ | refine HeapOK.acc rfl rfl ?_)) rfl rfl ?_
  refine M.go rfl ?_
  refine M.use0 trivial hsc rfl rfl rfl ?_
  refine M.go rfl ?_
  refine M.loop (M.round (M.go rfl ?_))
  refine M.cond rfl (fun _ => ?_) (fun hn => absurd (by rw [hsl]; simp) hn)
  refine M.go rfl ?_
  refine M.op trivial (SOp.ia rfl rfl (by omega) hu) ?_
  refine M.op trivial (SOp.ld1e rfl hu rfl rfl rfl) ?_
  refine M.go rfl ?_
  refine M.use trivial (rread_spec false (recB f b) none (by omega)) [] rfl rfl rfl trivial rfl rfl ?_
  refine M.go rfl ?_
  refine M.use trivial hrn [(0, 5)] rfl rfl rfl (by repeat' (first | exact True.intro | refine hpC rfl rfl rfl ?_ | refine ⟨⟨_, _, _, rfl, rfl, rfl, @WkO.rfl _⟩, ?_⟩ | refine HeapOK.acc rfl rfl ?_)) rfl rfl ?_
  refine M.go rfl ?_
  refine M.use trivial (rleft_spec ⟨false, b, false⟩) [(0, 5)] rfl rfl rfl (by repeat' (first | exact True.intro | refine hpC rfl rfl rfl ?_ | refine ⟨⟨_, _, _, rfl, rfl, rfl, @WkO.rfl _⟩, ?_⟩ | refine HeapOK.acc rfl rfl ?_)) rfl rfl ?_
  refine M.go rfl ?_
  rw [u8P_len (recB f b)]
  have hdr : (recB f b).drop ((recB f b).length - b.length) = b := by rw [recB, List.length_append, Nat.add_sub_cancel]; exact List.drop_left' rfl
  rw [wr64 (n := ((recB f b).length : Int) - (b.length : Int)) (by omega) (by omega)]
  refine M.op trivial (SOp.sl (l := (recB f b).length - b.length) (r := (recB f b).length) rfl ⟨_, _, rfl, by omega, by omega⟩ (u8P_len _).symm (by omega) (by rw [u8P_len]; omega)) ?_
  rw [u8P_drop, hdr, List.take_of_length_le (by rw [u8P_len]; omega)]
  refine M.go rfl ?_
  refine M.use trivial (rok_spec ⟨false, b, false⟩) [(0, 5)] rfl rfl rfl (by repeat' (first | exact True.intro | refine hpC rfl rfl rfl ?_ | refine ⟨⟨_, _, _, rfl, rfl, rfl, @WkO.rfl _⟩, ?_⟩ | refine HeapOK.acc rfl rfl ?_)) rfl rfl ?_
  refine M.go rfl ?_
  refine M.decB rfl (fun hn => by cases hn) (fun _ => ?_)
  refine M.go rfl ?_
  refine M.dec rfl (fun hn => absurd hn (by omega)) (fun _ => ?_)
  refine M.go rfl ?_
  refine M.dec rfl (fun hn => absurd hn (by rw [u8P_len]; omega)) (fun _ => ?_)
  refine M.go rfl ?_
  refine M.dec rfl (fun hn => absurd hn (by simp)) (fun _ => ?_)
  refine M.go rfl ?_
  refine M.use0 trivial (sealS_yes false none (recB f b) hBs (by omega)) rfl rfl rfl ?_
  refine M.go rfl ?_
  rw [u8P_len (sealB (recB f b))]
  refine M.shO (Sh.wkH (b0 := 3) (o' := .row [.ptr 0 0, .p (.int .i64 0), .p (.tz true 1 [] none), .p (.tz true 1 [] none), .p (.int .i64 0)] true) rfl rfl (WkO.row ⟨Wk.rfl, Wk.rfl, Wk.nil, Wk.nil, Wk.rfl, trivial⟩) Sh.refl) ?_
  refine M.use trivial (add10_spec room 0 0 L lc (delP frN F) c cR.pc [] f false b none ((sealB (recB f b)).length : Int) (by omega) (by omega) ⟨by omega, by omega⟩) [(0, 3), (1, 0), (2, 1), (3, 2), (4, 4)] rfl rfl rfl (by repeat' (first | exact True.intro | refine hpC rfl rfl rfl ?_ | refine ⟨⟨_, _, _, rfl, rfl, rfl, @WkO.rfl _⟩, ?_⟩ | refine HeapOK.acc rfl rfl ?_)) rfl rfl ?_
  refine M.go rfl ?_
  rw [hsl, show (0 : Int) + ((sealB (recB f b)).length : Int) = ((flatR f [b]).length : Nat) by rw [h1f]; omega]
  refine M.again (XH.ren [(0, 0), (1, 1), (2, 2), (3, 3), (4, 4), (5, 6), (6, 7)] (open_loopw room L lc (delP frN F) c cR.pc [] B zF f (b :: rest) h _ (fun b0 pr hp => ?_) rest b [] rfl) rfl (by repeat' (first | exact True.intro | refine evC rfl rfl Wk.rfl ?_ | refine evC (accV_ren rfl) rfl Wk.rfl ?_ | refine evC (accV_ren rfl) rfl Wk.acc0 ?_ | refine evC rfl rfl Wk.uncap ?_ | refine evC rfl rfl Wk.nil ?_)) (by repeat' (first | exact True.intro | refine hpC rfl rfl rfl ?_ | refine ⟨⟨_, _, _, rfl, rfl, rfl, @WkO.rfl _⟩, ?_⟩ | refine HeapOK.acc rfl rfl ?_)))
  obtain ⟨rfl, rfl⟩ := List.cons.inj hp
  refine M.q (M.go rfl (M.done (M.q (M.go rfl ?_))))
  refine M.cond rfl (fun hn => absurd hn (by rw [u8P_len]; omega)) (fun _ => ?_)
  refine M.go rfl ?_
  exact M.ret (M.go rfl (M.done (finQ.ret [(0, 0), (1, 1), (2, 2), (3, 3), (4, 4), (5, 5), (6, 6)] rfl rfl rfl (Wk.of rfl) ⟨(hpX rfl rfl rfl), (hpX rfl rfl rfl), (hpX rfl rfl rfl), ⟨_, _, _, rfl, rfl, rfl, WkO.row ⟨Wk.rfl, Wk.rfl, rowAcc (by simp [rcsP]) _ _, rowAcc (by simp [yP_len]) _ _, Wk.rfl, trivial⟩⟩, (hpX rfl rfl rfl), (hpX rfl rfl rfl), (hpX rfl rfl rfl), trivial⟩)))
end Go.Proofs.Ytjlfojgacnphmaa

namespace Go.Proofs.Ytjlfojgacnphmaa
open Go.RowKit Sim Go Sym
set_option maxRecDepth 100000
set_option linter.unusedVariables false
set_option linter.unusedSimpArgs false
variable {base : Nat}
noncomputable def lShr : {F : LF // lowerF Try.prog 68 = some F} := ⟨_, rfl⟩
theorem short4_spec (z : Bool) (el : List PC) (c : Option Nat) (n : Nat) (hn : 0 < n) : CallS Try.prog base 68 [.c (.p (.tz z 1 el c)), .c (.p (.int .i64 n))] ⟨[], 0⟩ (.c (.p (.tz z 1 (el.take n) none))) ⟨[], 0⟩ := by
  refine CallS.of noNG lShr.2 rfl (M.start (M.go rfl ?_))
  refine M.cond rfl (fun h => ?_) (fun h => ?_)
  · refine M.go rfl ?_
    refine M.op trivial (SOp.sl (r := n) rfl rfl ⟨_, _, rfl, by omega, by omega⟩ (Nat.zero_le _) (by omega)) ?_
    refine M.go rfl ?_
    have h1 : (el.drop 0).take (n - 0) = el.take n := by simp
    rw [h1]
    have h2 : el.take n ≠ [] := by
      intro e
      have := congrArg List.length e
      simp at this
      rcases this with h3 | h3
      · omega
      · subst h3; simp at h; omega
    exact M.ret (M.go rfl (M.done (finQ.ret [] rfl rfl rfl (Wk.trans Wk.uncap (Wk.some h2)) (by repeat' (first | exact True.intro | refine hpC rfl rfl rfl ?_ | refine ⟨⟨_, _, _, rfl, rfl, rfl, @WkO.rfl _⟩, ?_⟩ | refine HeapOK.acc rfl rfl ?_)))))
  · refine M.go rfl ?_
    rw [List.take_of_length_le (by omega)]
    exact M.ret (M.go rfl (M.done (finQ.ret [] rfl rfl rfl (by first | exact Wk.rfl | exact Wk.uncap | exact Wk.nil | exact Wk.b1 rfl | exact Wk.t2 Wk.rfl (Wk.b1 rfl)) (by repeat' (first | exact True.intro | refine hpC rfl rfl rfl ?_ | refine ⟨⟨_, _, _, rfl, rfl, rfl, @WkO.rfl _⟩, ?_⟩ | refine HeapOK.acc rfl rfl ?_)))))
structure WOp where
  k : Int
  n : Int
  z : Bool
  b : List Int
def WOp.pc (o : WOp) : PC := .agg [.int .i64 o.k, .int .i64 o.n, .tz o.z 1 (u8P o.b) none]
def WOp.cn (o : WOp) : Int := if o.n > P50 then P50 else o.n
def WOp.cb (o : WOp) : Rc := (o.z, o.b.take 300, none)
noncomputable def lCutO : {F : LF // lowerF Try.prog 27 = some F} := ⟨_, rfl⟩
theorem cut4_spec (o : WOp) : CallS Try.prog base 27 [.agg [.p (.int .i64 o.k), .p (.int .i64 o.n), .p (.tz o.z 1 (u8P o.b) none)]] ⟨[], 0⟩ (.agg (opA o.k o.cn o.cb)) ⟨[], 0⟩ := by
  refine CallS.of noNG lCutO.2 rfl (M.start (M.go rfl ?_))
  refine M.use0 trivial (short4_spec o.z (u8P o.b) none 300 (by decide)) rfl rfl rfl ?_
  rw [show (u8P o.b).take 300 = u8P (o.b.take 300) by simp [u8P]]
  refine M.go rfl ?_
  refine M.cond rfl (fun h => ?_) (fun h => ?_)
  · rw [WOp.cn, if_pos (show o.n > P50 from h)]
    refine M.go rfl ?_
    exact M.ret (M.go rfl (M.done (finQ.ret [] rfl rfl rfl (by first | exact Wk.rfl | exact Wk.uncap | exact Wk.nil | exact Wk.b1 rfl | exact Wk.t2 Wk.rfl (Wk.b1 rfl)) (by repeat' (first | exact True.intro | refine hpC rfl rfl rfl ?_ | refine ⟨⟨_, _, _, rfl, rfl, rfl, @WkO.rfl _⟩, ?_⟩ | refine HeapOK.acc rfl rfl ?_)))))
  · rw [WOp.cn, if_neg (show ¬ o.n > P50 from h)]
    refine M.go rfl ?_
    exact M.ret (M.go rfl (M.done (finQ.ret [] rfl rfl rfl (by first | exact Wk.rfl | exact Wk.uncap | exact Wk.nil | exact Wk.b1 rfl | exact Wk.t2 Wk.rfl (Wk.b1 rfl)) (by repeat' (first | exact True.intro | refine hpC rfl rfl rfl ?_ | refine ⟨⟨_, _, _, rfl, rfl, rfl, @WkO.rfl _⟩, ?_⟩ | refine HeapOK.acc rfl rfl ?_)))))
theorem WOp.cn_le (o : WOp) : o.cn ≤ P50 := by unfold WOp.cn; split <;> omega
def tyWOp : Ty := .st [.int .i64, .int .i64, .sl 1 1 (.int .u8)]
theorem is_wop {p : PC} (h : Is tyWOp p) : ∃ o : WOp, p = o.pc ∧ Bytes o.b := by
  obtain ⟨l, rfl, k0⟩ := h.st
  obtain ⟨a, r1, ha, rfl, k1⟩ := k0.cons
  obtain ⟨a, rfl, a1⟩ := ha.i64
  obtain ⟨b, r2, hb, rfl, k2⟩ := k1.cons
  obtain ⟨b, rfl, b1⟩ := hb.i64
  obtain ⟨d, r3, hd, rfl, k3⟩ := k2.cons
  obtain ⟨z, d, rfl, d1, d2⟩ := hd.bytes
  obtain rfl := k3.nil
  refine ⟨⟨a, b, z, d.map fun (b : Nat) => (b : Int)⟩, ?_, fun y hy => ?_⟩
  · rw [WOp.pc, ← byP_w]; rfl
  · obtain ⟨x, hx, rfl⟩ := List.mem_map.1 hy
    have := d2 x hx
    omega
end Go.Proofs.Ytjlfojgacnphmaa

namespace Go.Proofs.Ytjlfojgacnphmaa
open Go.RowKit Sim Go Sym
set_option maxRecDepth 100000
set_option linter.unusedVariables false
set_option linter.unusedSimpArgs false
variable {base : Nat}
def wtL (V : List Chg) (d : Option (PC × List PC)) : Option (PC × List PC) := V.foldl (fun d x => wt x.pc d) d
def wts : List Chg → Option (PC × List PC)
  | [] => none
  | x :: V => some (x.pc, V.map Chg.pc)
theorem wtL_wts (V W : List Chg) : wtL W (wts V) = wts (V ++ W) := by
  induction W generalizing V with
  | nil => simp [wtL]
  | cons x W ih =>
    have h : wt x.pc (wts V) = wts (V ++ [x]) := by cases V <;> simp [wts, wt]
    show wtL W (wt x.pc (wts V)) = _
    rw [h, ih, List.append_assoc]; rfl
theorem wts_N (V : List Chg) : wtN (wts V) = V.length := by cases V <;> simp [wts, wtN]
def Stx (s s' : WS) (B B' : List Int) : Prop := ∃ V, s'.dk = wtL V s.dk ∧ Stp B V B' ∧ s'.L = s.L ∧ s'.lc = s.lc
theorem Stx.refl (s : WS) (B : List Int) : Stx s s B B := ⟨[], rfl, .nop, rfl, rfl⟩
theorem flat_ne {f : Int} {R : List (List Int)} (h : RecOK f R) (hR : R ≠ []) : flatR f R ≠ [] := fun e => by
  cases R with
  | nil => exact hR rfl
  | cons b R => have := flatR_pos h; rw [e] at this; simp at this
section
variable {i : Nat} {s : WS} {f : Int} {T : List Rc} (h : Lp i s f T) (hi : i ≤ 100)
include h hi
theorem Lp.append2 (n : Int) (hn : n ≤ P50) (b : Rc) (hb : Bytes b.2.1 ∧ b.2.1.length ≤ 300) : CW base 21 [.c (.ptr 2 0), .c (.p (.int .i64 n)), .c (.p (recP b))] s (fun r s' => r = err (doF f T 0 n b).2.2 ∧ Lp (i + 1) s' (doF f T 0 n b).1 (doF f T 0 n b).2.1 ∧ Stx s s' (flatR f (rsR T)) (flatR (doF f T 0 n b).1 (rsR (doF f T 0 n b).2.1)) ∧ ((doF f T 0 n b).2.2 ≠ 0 → s' = s)) := by
  have hP : P50 = 1125899906842624 := rfl
  unfold doF
  rw [if_pos rfl]
  have hRl := rsR_len T
  by_cases h1 : n < 1
  · rw [if_pos (.inl h1)]
    exact (W_append_e1 s n b.1 b.2.1 b.2.2 h1).mono fun r s' hr => ⟨hr.1, by rw [hr.2]; exact h.more, by rw [hr.2]; exact Stx.refl _ _, fun _ => hr.2⟩
  · by_cases h2 : T ≠ [] ∧ n - 1 ≠ lastM f T
    · rw [if_pos (.inr h2)]
      rw [lastM_ne h2.1] at h2
      exact (W_append_e2 h.inv n b.1 b.2.1 b.2.2 (by omega) (rsR_ne.2 h2.1) (by rw [hRl]; omega)).mono fun r s' hr => ⟨hr.1, by rw [hr.2]; exact h.more, by rw [hr.2]; exact Stx.refl _ _, fun _ => hr.2⟩
    · rw [if_neg (fun h => h.elim h1 h2)]
      obtain ⟨g, hg⟩ : ∃ g, g = if T = [] then n else f := ⟨_, rfl⟩
      have hgT : T ≠ [] → g = f := fun hT => by rw [hg, if_neg hT]
      have hgn : n = g + T.length := by
        by_cases hT : T = []
        · rw [hg, if_pos hT, hT]; simp
        · have h3 : n - 1 = lastM f T := Decidable.byContradiction fun h3 => h2 ⟨hT, h3⟩
          rw [lastM_ne hT] at h3
          rw [hgT hT]; omega
      have hlen := h.len
      have hr2 : 1 ≤ g ∧ g + (T ++ [b]).length ≤ P50 + 1 := by
        rw [List.length_append, List.length_cons, List.length_nil]
        by_cases hT : T = []
        · rw [hT] at hgn ⊢; simp at hgn ⊢; omega
        · have := h.rng hT
          rw [hgT hT] at hgn ⊢; omega
      have hb2 : ∀ t ∈ T ++ [b], Bytes t.2.1 ∧ t.2.1.length ≤ 300 := fun t ht => by
        rcases List.mem_append.1 ht with h4 | h4
        · exact h.b t h4
        · simp at h4; subst h4; exact hb
      have happ : rsR (T ++ [b]) = rsR T ++ [b.2.1] := by simp [rsR]
      have hok := rec_ok hb2 (by simp; omega) hr2
      rw [happ] at hok
      have hfl := h.flat hi
      refine (W_append h.inv g n (fun hR => hgT (rsR_ne.1 hR)) (by rw [hRl]; exact hgn) b.1 b.2.1 b.2.2 hb.1 (by omega) hok (by rw [hRl]; omega) (by omega) h.nl (by have := h.dk; omega)).mono fun r s' hr => ?_
      obtain ⟨r1, r2, r3, r4, r5, r6⟩ := hr
      rw [← hg]
      refine ⟨r1, ⟨by rw [happ]; exact r2, hb2, by simp; omega, fun _ => hr2, by rw [r5, wtN_wt]; have := h.dk; omega, fun hl => absurd hl r6⟩, ?_⟩
      refine ⟨⟨[cA (sealB (recB n b.2.1))], by rw [r5]; rfl, ?_, r3, r4⟩, fun h => absurd rfl h⟩
      have hff : flatR g (rsR T) = flatR f (rsR T) := by
        by_cases hT : T = []
        · rw [hT]; rfl
        · rw [hgT hT]
      rw [happ, flatR_app, hRl, ← hgn, hff]
      have hnb := numB_len (n := n) (by omega) (by omega)
      exact .app _ (by simp [recB]; omega) (recB_bytes hb.1)
theorem Lp.from2 (n : Int) (hn : n ≤ P50) (b : Rc) : CW base 25 [.c (.ptr 2 0), .c (.p (.int .i64 n))] s (fun r s' => r = err (doF f T 1 n b).2.2 ∧ Lp (i + 1) s' (doF f T 1 n b).1 (doF f T 1 n b).2.1 ∧ Stx s s' (flatR f (rsR T)) (flatR (doF f T 1 n b).1 (rsR (doF f T 1 n b).2.1)) ∧ ((doF f T 1 n b).2.2 ≠ 0 → s' = s)) := by
  have hP : P50 = 1125899906842624 := rfl
  unfold doF
  rw [if_neg (by decide), if_pos rfl]
  have hRl := rsR_len T
  by_cases h1 : n < 1
  · rw [if_pos h1]
    exact (W_from_e1 s n h1).mono fun r s' hr => ⟨hr.1, by rw [hr.2]; exact h.more, by rw [hr.2]; exact Stx.refl _ _, fun _ => hr.2⟩
  rw [if_neg h1]
  by_cases h2 : T ≠ [] ∧ n ≤ lastM f T
  · rw [if_pos h2]
    obtain ⟨hT, h3⟩ := h2
    rw [lastM_ne hT] at h3
    have hlen := h.len
    obtain ⟨κ, hκ⟩ : ∃ κ, κ = (max 0 (n - f)).toNat := ⟨_, rfl⟩
    rw [← hκ]
    refine (W_from_y h.inv n (rsR_ne.2 hT) (by omega) (by rw [hRl]; omega) κ (by omega) (by have := h.dk; omega)).mono fun r s' hr => ?_
    obtain ⟨r1, r2, r3, r4, r5, r6⟩ := hr
    have hr := h.rng hT
    refine ⟨r1, ⟨by rw [rsR, List.map_take]; exact r2, fun t ht => h.b t (List.mem_of_mem_take ht), by rw [List.length_take]; omega, fun _ => by rw [List.length_take]; omega, by rw [r5, wtN_wt]; have := h.dk; omega, fun hl => absurd hl r6⟩, ?_⟩
    refine ⟨⟨[cC (flatR f ((rsR T).take κ)).length], by rw [r5]; rfl, ?_, r3, r4⟩, fun h => absurd rfl h⟩
    have hmt : rsR (T.take κ) = (rsR T).take κ := by simp [rsR, List.map_take]
    have hst := Stp.cut (B := flatR f (rsR T)) (flatR f ((rsR T).take κ)).length (flat_ne (h.inv.ok (rsR_ne.2 hT)) (rsR_ne.2 hT)) (flatR_le _ _ _)
    rw [flatR_take] at hst
    rw [hmt]
    exact hst
  · rw [if_neg h2]
    refine (W_from_n h.inv n (by omega) (fun hR => ?_)).mono fun r s' hr => ⟨hr.1, by rw [hr.2]; exact h.more, by rw [hr.2]; exact Stx.refl _ _, fun _ => hr.2⟩
    have hT := rsR_ne.1 hR
    have h3 : ¬ n ≤ lastM f T := fun h3 => h2 ⟨hT, h3⟩
    rw [lastM_ne hT] at h3
    rw [hRl]; omega
theorem Lp.until2 (n : Int) (hn : n ≤ P50) (b : Rc) : CW base 29 [.c (.ptr 2 0), .c (.p (.int .i64 n))] s (fun r s' => r = err (doF f T 2 n b).2.2 ∧ Lp (i + 1) s' (doF f T 2 n b).1 (doF f T 2 n b).2.1 ∧ Stx s s' (flatR f (rsR T)) (flatR (doF f T 2 n b).1 (rsR (doF f T 2 n b).2.1)) ∧ ((doF f T 2 n b).2.2 ≠ 0 → s' = s)) := by
  have hP : P50 = 1125899906842624 := rfl
  unfold doF
  rw [if_neg (by decide), if_neg (by decide), if_pos rfl]
  have hRl := rsR_len T
  by_cases h1 : n < 1
  · rw [if_pos h1]
    exact (W_until_e1 s n h1).mono fun r s' hr => ⟨hr.1, by rw [hr.2]; exact h.more, by rw [hr.2]; exact Stx.refl _ _, fun _ => hr.2⟩
  rw [if_neg h1]
  by_cases h2 : T ≠ [] ∧ f ≤ n
  · rw [if_pos h2]
    obtain ⟨hT, h3⟩ := h2
    have hlen := h.len
    have hr := h.rng hT
    by_cases h4 : f + T.length ≤ n + 1
    · have hm : (min (T.length : Int) (n - f + 1)).toNat = T.length := by omega
      rw [hm]
      refine (W_until_a h.inv n (rsR_ne.2 hT) (by rw [hRl]; omega) (by omega) (by have := h.dk; omega) (f + T.length)).mono fun r s' hr => ?_
      obtain ⟨r1, r2, r3, r4, r5, r6⟩ := hr
      refine ⟨r1, ⟨by rw [List.drop_length]; exact r2, fun t ht => absurd ht (by simp), by simp, fun h => absurd (by simp) h, by rw [r5, wtN_wt]; have := h.dk; omega, fun hl => absurd hl r6⟩, ?_⟩
      refine ⟨⟨[cC 0], by rw [r5]; rfl, ?_, r3, r4⟩, fun h => absurd rfl h⟩
      rw [List.drop_length]
      exact .cut 0 (flat_ne (h.inv.ok (rsR_ne.2 hT)) (rsR_ne.2 hT)) (Nat.zero_le _)
    · obtain ⟨κ, hκ⟩ : ∃ κ : Nat, n = f + κ := ⟨(n - f).toNat, by omega⟩
      have hm : (min (T.length : Int) (n - f + 1)).toNat = κ + 1 := by omega
      rw [hm]
      refine (W_until_y h.inv n (rsR_ne.2 hT) κ hκ (by rw [hRl]; omega) (by have := h.dk; omega)).mono fun r s' hr => ?_
      obtain ⟨r1, r2, r3, r4, r5, r6⟩ := hr
      refine ⟨r1, ⟨by rw [rsR, List.map_drop]; exact r2, fun t ht => h.b t (List.mem_of_mem_drop ht), by simp; omega, fun _ => by rw [List.length_drop]; omega, by rw [r5, wtN_wt, wtN_wt]; have := h.dk; omega, fun hl => absurd hl r6⟩, ?_⟩
      refine ⟨⟨[cF _, cM], by rw [r5]; rfl, ?_, r3, r4⟩, fun h => absurd rfl h⟩
      rw [show rsR (T.drop (κ + 1)) = (rsR T).drop (κ + 1) by simp [rsR, List.map_drop]]
      exact .unt _ (flat_ne (h.inv.ok (rsR_ne.2 hT)) (rsR_ne.2 hT))
  · rw [if_neg h2]
    refine (W_until_n h.inv n (by omega) (fun hR => ?_)).mono fun r s' hr => ⟨hr.1, by rw [hr.2]; exact h.more, by rw [hr.2]; exact Stx.refl _ _, fun _ => hr.2⟩
    have hT := rsR_ne.1 hR
    exact Int.not_le.1 fun h3 => h2 ⟨hT, h3⟩
end
def WS.bareW (s : WS) : WS := ⟨s.room, 0, 0, s.L, s.lc, s.F, s.c, s.dk, .no⟩
theorem bareW_heap {s : WS} {H : HS} (ht : Tl wFam s H.l) {g : Nat → Option Nat} (hg : fid wFam g = true) : HeapOK g H (wFam.mem s.bareW).l := by
  have hgi : ∀ b, b < 8 → Nat.beq b 1 = false → g b = some b := fun b h1 h2 => by
    have := List.all_eq_true.1 hg b (List.mem_range.2 h1)
    rw [show wFam.hole b = false from h2, Bool.false_or] at this
    split at this
    · rename_i d hd; rw [hd, Nat.eq_of_beq_eq_true this]
    · cases this
  have hget : ∀ b o, b < 8 → Nat.beq b 1 = false → Sym.look (wFam.mem s).l b = some (some o) → H.get b = some o := fun b o h1 h2 h3 => by
    unfold HS.get
    rw [ht.look wOK b h1 h2, h3]
  obtain ⟨room, first, en, L, lc, F, c, _ | ⟨w, W⟩, lg⟩ := s
  · rcases lg with _ | _ | ⟨o, m, X, Y⟩
    all_goals exact ⟨⟨4, _, _, hgi 4 (by decide) rfl, rfl, hget 4 _ (by decide) rfl rfl, WkO.rfl⟩, ⟨3, _, _, hgi 3 (by decide) rfl, rfl, hget 3 _ (by decide) rfl rfl, WkO.rfl⟩, ⟨0, _, _, hgi 0 (by decide) rfl, (by simp only [XO.ren, XC.rens, XC.ren, hgi 3 (by decide) rfl, hgi 4 (by decide) rfl]), hget 0 _ (by decide) rfl rfl, WkO.rfl⟩, trivial⟩
  · rcases lg with _ | _ | ⟨o, m, X, Y⟩
    all_goals exact ⟨⟨5, _, _, hgi 5 (by decide) rfl, rfl, hget 5 _ (by decide) rfl rfl, WkO.rfl⟩, ⟨4, _, _, hgi 4 (by decide) rfl, rfl, hget 4 _ (by decide) rfl rfl, WkO.rfl⟩, ⟨3, _, _, hgi 3 (by decide) rfl, rfl, hget 3 _ (by decide) rfl rfl, WkO.rfl⟩, ⟨0, _, _, hgi 0 (by decide) rfl, (by simp only [XO.ren, XC.rens, XC.ren, hgi 3 (by decide) rfl, hgi 4 (by decide) rfl, hgi 5 (by decide) rfl]), hget 0 _ (by decide) rfl rfl, WkO.rfl⟩, trivial⟩
theorem W_crash (room a b : Int) (L : FS) (lc : Nat) (F : FS) (c : Nat) (V : List Chg) (hV : V.length ≤ 1000000) (n torn : Int) (t : FS × Nat) (hc : CrR n torn V 0 (L, lc) t) : CallR Try.prog base wFam 0 23 [.c (.ptr 0 0), .c (.p (.int .i64 n)), .c (.p (.int .i64 torn))] ⟨room, a, b, L, lc, F, c, wts V, .no⟩ (fun r s' => r = .c (.ptr 0 0) ∧ s' = ⟨room, 0, 0, t.1, t.2, t.1, t.2, none, .no⟩) := by
  cases V with
  | nil =>
    obtain rfl : t = (L, lc) := hc
    exact W_crash0 room a b L lc F c n torn
  | cons x V =>
    exact CallR.leaf (crash1_spec room L lc F c x.pc (V.map Chg.pc) (x :: V) rfl hV n torn t hc) [(0, 0), (1, 3), (2, 4), (3, 5)] rfl rfl (by repeat' (first | exact True.intro | refine hpC rfl rfl rfl ?_ | refine ⟨⟨_, _, _, rfl, rfl, rfl, @WkO.rfl _⟩, ?_⟩ | refine HeapOK.acc rfl rfl ?_)) rfl rfl (.c (.ptr 0 0)) (⟨room, 0, 0, t.1, t.2, t.1, t.2, none, .no⟩ : WS) [(0, 8), (3, 9), (4, 10)] rfl rfl Wk.rfl (by repeat' (first | exact True.intro | refine hpC rfl rfl rfl ?_ | refine ⟨⟨_, _, _, rfl, rfl, rfl, @WkO.rfl _⟩, ?_⟩ | refine HeapOK.acc rfl rfl ?_)) ⟨rfl, rfl⟩
def Aft (B tl : List Int) (X : Option (List Int)) (V : List Chg) : Prop := V = [] ∨ (V = [cR] ∧ X ≠ none) ∨ (V = [cC B.length] ∧ tl ≠ [] ∧ X = none)
theorem Aft.crash {B tl : List Int} {X : Option (List Int)} {V : List Chg} (h : Aft B tl X V) {s : FS × Nat} (hs : Dk (B ++ tl) X s) (ht : Tl1 tl) (hX : X ≠ none → tl = []) (n torn : Int) : ∃ t tl' X', CrR n torn V 0 s t ∧ Dk (B ++ tl') X' t ∧ Tl1 tl' ∧ (X' ≠ none → X ≠ none ∧ tl' = []) := by
  rcases h with rfl | ⟨rfl, h⟩ | ⟨rfl, h, rfl⟩
  · exact ⟨s, tl, X, rfl, hs, ht, fun h => ⟨h, hX h⟩⟩
  · cases X with
    | none => exact absurd rfl h
    | some X =>
      by_cases h1 : ((0 : Nat) : Int) < n
      · obtain ⟨t, d1, d2⟩ := hs.rmd 0
        exact ⟨t, tl, none, ⟨t, by rw [Cr1, if_pos h1]; exact d1, rfl⟩, d2, ht, fun h => absurd rfl h⟩
      · exact ⟨s, tl, some X, ⟨s, by rw [Cr1, if_neg h1, if_neg (fun h => absurd h.2.2 (show ¬ (2 : Int) = 0 by decide))], rfl⟩, hs, ht, fun h => ⟨h, hX h⟩⟩
  · by_cases h1 : ((0 : Nat) : Int) < n
    · obtain ⟨t, d1, d2⟩ := hs.cutd (by simp [h]) B.length 0 (by simp)
      rw [List.take_left' rfl] at d2
      exact ⟨t, [], none, ⟨t, by rw [Cr1, if_pos h1]; exact d1, rfl⟩, by rw [List.append_nil]; exact d2, Tl1.nil, fun h => absurd rfl h⟩
    · exact ⟨s, tl, none, ⟨s, by rw [Cr1, if_neg h1, if_neg (fun h => absurd h.2.2 (show ¬ (1 : Int) = 0 by decide))], rfl⟩, hs, ht, fun h => absurd rfl h⟩
theorem W_open (a b : Int) (L : FS) (lc : Nat) (F : FS) (c : Nat) (f : Int) (R : List (List Int)) (tl : List Int) (X : Option (List Int)) (hR : R ≠ [] → RecOK f R) (hF : Dk (flatR f R ++ tl) X (F, c)) (ht : Tl1 tl) (hX : X ≠ none → tl = [] ∧ R ≠ []) (hsz : (flatR f R).length ≤ 400000) :
    CallR Try.prog base wFam 1 20 [.c (.ptr 0 0)] ⟨mB, a, b, L, lc, F, c, none, .no⟩ (fun r s' => r = .tup [.c (.ptr 2 0), err 0] ∧ WInv s' f R ∧ s'.L = L ∧ s'.lc = lc ∧ ∃ V, s'.dk = wts V ∧ Aft (flatR f R) tl X V) := by
  have htb := ht.isB
  cases X with
  | some X =>
    obtain ⟨rfl, hne⟩ := hX (by simp)
    rw [List.append_nil] at hF
    have hok := hR hne
    obtain ⟨z, cp, z', cp', b2, h1, h2, h3⟩ := hF
    have h1 : F = _ := h1
    have h3 : b2 < c := h3
    subst h1
    cases R with
    | nil => exact absurd rfl hne
    | cons b1 rest =>
      exact CallR.leaf (gopen_nf mB L lc [(0, [119], fP z (flatR f (b1 :: rest)) cp), (b2, frN, fP z' X cp')] c f b1 rest hok z cp (flatR f (b1 :: rest)) (flatR_bytes _ _ hok) (by omega) (scan_flat _ _ hok) rfl (fP z' X cp') rfl rfl) [(0, 0), (1, 3), (2, 4)] rfl rfl (by repeat' (first | exact True.intro | refine hpC rfl rfl rfl ?_ | refine ⟨⟨_, _, _, rfl, rfl, rfl, @WkO.rfl _⟩, ?_⟩ | refine HeapOK.acc rfl rfl ?_)) rfl rfl (.tup [.c (.ptr 2 0), err 0]) (⟨mB, f, ((flatR f (b1 :: rest)).length : Nat), L, lc, f1 [119] (fP z (flatR f (b1 :: rest)) cp), c, some (cR.pc, []), .own 0 (b1 :: rest).length (rcsP (b1 :: rest)) (posR 0 f (b1 :: rest))⟩ : WS) [(0, 0), (2, 8), (3, 3), (4, 4), (5, 9), (6, 10), (7, 11)] rfl rfl Wk.rfl (by repeat' (first | exact True.intro | refine hpC rfl rfl rfl ?_ | refine ⟨⟨_, _, _, rfl, rfl, rfl, @WkO.rfl _⟩, ?_⟩ | refine HeapOK.acc rfl rfl ?_)) ⟨rfl, ⟨fun _ => hok, rfl, rfl, LGok.opened _ _, fun _ => rfl, .inr ⟨⟨_, _, rfl⟩, show 1 ≤ c by omega⟩, hsz⟩, rfl, rfl, [cR], rfl, .inr (.inl ⟨rfl, by simp⟩)⟩
  | none =>
    by_cases ht0 : tl = []
    · subst ht0
      rw [List.append_nil] at hF
      exact (W_open0 a b L lc F c f R hR hF hsz).mono fun r s' ⟨h1, h2, h3, h4, h5, h6, h7⟩ => ⟨h1, h2, h3, h4, [], h7, .inl rfl⟩
    · have hF : Fok (flatR f R ++ tl) F c := hF
      have htp : 0 < tl.length := by cases tl with
        | nil => exact absurd rfl ht0
        | cons x l => simp
      have htl := ht.bytes
      rcases hF with ⟨h0, -, -⟩ | ⟨⟨z, cp, rfl⟩, hc⟩
      · exact absurd h0 (by simp [ht0])
      have hsc := scan_torn ht R f hR
      cases R with
      | nil =>
        have hsc : scan tl = ([], 0) := hsc
        have hfl : flatR f [] ++ tl = tl := rfl
        rw [hfl]
        exact CallR.leaf (gopen_et mB L lc (f1 [119] (fP z tl cp)) c z cp tl htb (by omega) hsc htp rfl rfl) [(0, 0), (1, 3), (2, 4)] rfl rfl (by repeat' (first | exact True.intro | refine hpC rfl rfl rfl ?_ | refine ⟨⟨_, _, _, rfl, rfl, rfl, @WkO.rfl _⟩, ?_⟩ | refine HeapOK.acc rfl rfl ?_)) rfl rfl (.tup [.c (.ptr 2 0), err 0]) (⟨mB, 0, 0, L, lc, f1 [119] (cutF z tl 0), c, some (chC 0, []), .nil⟩ : WS) [(0, 0), (2, 8), (3, 3), (4, 4), (5, 9)] rfl rfl Wk.rfl (by repeat' (first | exact True.intro | refine hpC rfl rfl rfl ?_ | refine ⟨⟨_, _, _, rfl, rfl, rfl, @WkO.rfl _⟩, ?_⟩ | refine HeapOK.acc rfl rfl ?_)) ⟨rfl, ⟨fun h => absurd rfl h, rfl, rfl, rfl, fun h => absurd rfl h, .inr ⟨⟨_, _, rfl⟩, hc⟩, by simp [flatR]⟩, rfl, rfl, [cC 0], rfl, .inr (.inr ⟨rfl, ht0, rfl⟩)⟩
      | cons b1 rest =>
        have hok := hR (by simp)
        have hct : cutF z (flatR f (b1 :: rest) ++ tl) (flatR f (b1 :: rest)).length = fP (z && (u8P (flatR f (b1 :: rest) ++ tl)).isEmpty) (flatR f (b1 :: rest)) (some (flatR f (b1 :: rest)).length) := by rw [cutF, List.take_left' rfl]
        exact CallR.leaf (gopen_t mB L lc (f1 [119] (fP z (flatR f (b1 :: rest) ++ tl) cp)) c f b1 rest hok z cp (flatR f (b1 :: rest) ++ tl) ((flatR_bytes _ _ hok).app htb) (by rw [List.length_append]; omega) hsc (by rw [List.length_append]; omega) rfl rfl) [(0, 0), (1, 3), (2, 4)] rfl rfl (by repeat' (first | exact True.intro | refine hpC rfl rfl rfl ?_ | refine ⟨⟨_, _, _, rfl, rfl, rfl, @WkO.rfl _⟩, ?_⟩ | refine HeapOK.acc rfl rfl ?_)) rfl rfl (.tup [.c (.ptr 2 0), err 0]) (⟨mB, f, ((flatR f (b1 :: rest)).length : Nat), L, lc, f1 [119] (cutF z (flatR f (b1 :: rest) ++ tl) (flatR f (b1 :: rest)).length), c, some (chC (flatR f (b1 :: rest)).length, []), .own 0 (b1 :: rest).length (rcsP (b1 :: rest)) (posR 0 f (b1 :: rest))⟩ : WS) [(0, 0), (2, 8), (3, 3), (4, 4), (5, 11), (6, 9), (7, 10)] rfl rfl Wk.rfl (by repeat' (first | exact True.intro | refine hpC rfl rfl rfl ?_ | refine ⟨⟨_, _, _, rfl, rfl, rfl, @WkO.rfl _⟩, ?_⟩ | refine HeapOK.acc rfl rfl ?_)) ⟨rfl, ⟨fun _ => hok, rfl, rfl, LGok.opened _ _, fun _ => rfl, .inr ⟨⟨_, _, by rw [hct]⟩, hc⟩, hsz⟩, rfl, rfl, [cC (flatR f (b1 :: rest)).length], rfl, .inr (.inr ⟨rfl, ht0, rfl⟩)⟩
end Go.Proofs.Ytjlfojgacnphmaa
