/- Texts of this claim, several in one: W14, W16, W17, W19, W18. -/
import Derived.Test.YtjlfojgacnphmaaMgWalEnds13
namespace Go.Proofs.Ytjlfojgacnphmaa
open Go.RowKit Sim Go Sym
set_option maxRecDepth 100000
set_option linter.unusedVariables false
set_option linter.unusedSimpArgs false
variable {base : Nat}
noncomputable def lWun : {F : LF // lowerF Try.prog 29 = some F} := ⟨_, rfl⟩
theorem may_fr : CallS Try.prog base 70 [.c (.p (.str frN))] ⟨[], 0⟩ (.c (.p (.bool true))) ⟨[], 0⟩ := CallS.reck (m := 200) (h' := noMem) mixed noNG (by kernel_rfl)
def subY (Y : List PC) (s : Nat) (P : Nat → Nat) (p : Nat) : Nat → List PC
  | 0 => Y
  | i + 1 => (subY Y s P p i).set (s + i) (.int .i64 ((P i : Int) - p))
theorem subY_len (Y : List PC) (s : Nat) (P : Nat → Nat) (p : Nat) : ∀ i, (subY Y s P p i).length = Y.length
  | 0 => rfl
  | i + 1 => by rw [subY, List.length_set, subY_len Y s P p i]
theorem subY_hi (Y : List PC) (s : Nat) (P : Nat → Nat) (p : Nat) : ∀ i j, i ≤ j → (subY Y s P p i)[s + j]? = Y[s + j]?
  | 0, _, _ => rfl
  | i + 1, j, h => by rw [subY, List.getElem?_set_ne (by omega), subY_hi Y s P p i j (by omega)]
theorem subY_lo (Y : List PC) (s : Nat) (P : Nat → Nat) (p : Nat) : ∀ i j, j < i → s + i ≤ Y.length → (subY Y s P p i)[s + j]? = some (.int .i64 ((P j : Int) - p))
  | i + 1, j, h, hl => by
    by_cases e : j = i
    · subst e; rw [subY, List.getElem?_set_self (by rw [subY_len]; omega)]
    · rw [subY, List.getElem?_set_ne (by omega), subY_lo Y s P p i j (by omega) (by omega)]
def chF (z : Bool) (b : List Int) : PC := .agg (chX 0 frN [] (fP z b none) 0)
def chM : PC := .agg (chX 3 frN [119] (fP true [] none) 0)
theorem until_loop1 (room first en : Int) (o m : Nat) (L : FS) (lc : Nat) (F : FS) (c : Nat) (w : PC) (W : List PC) (X Y : List PC) (P : Nat → Nat) (p : Nat) (hm : m ≤ 100000) (hY : ∀ j, j < m → Y[o + j]? = some (.int .i64 (P j : Nat))) (hP : ∀ j, j < m → p ≤ P j ∧ P j ≤ 1000000000) (hl : o + m ≤ Y.length) (Q : QX) (hq : Q (.exit 1) [] (hG1 8 5 6 9 room first en o m L lc F c w W X (subY Y o P p m))) :
    ∀ (rem i : Nat), i + rem = m → XH Try.prog base lWun.1.n 7 (lWun.1.c.lp 0) [(0, .c (.ptr 0 0)), (10, .c (.p (.int .i64 p))), (132, .c (.p (.int .i64 m))), (133, .c (.p (.int .i64 i)))] (hG1 8 5 6 9 room first en o m L lc F c w W X (subY Y o P p i)) Q := by
  intro rem
  induction rem with
  | zero =>
    intro i hi
    obtain rfl : m = i := by omega
    refine M.round (M.go rfl ?_)
    refine M.cond rfl (fun hn => absurd hn (by omega)) (fun _ => ?_)
    refine M.ren [(0, 0), (1, 1), (2, 2), (3, 3), (4, 4), (5, 5), (6, 6), (7, 7), (8, 8)] ?_ trivial rfl (by repeat' (first | exact True.intro | refine ⟨⟨_, _, rfl, rfl, Wk.rfl⟩, ?_⟩ | refine ⟨⟨_, _, accV_ren rfl, rfl, Wk.rfl⟩, ?_⟩ | refine ⟨⟨_, _, accV_ren rfl, rfl, Wk.acc0⟩, ?_⟩ | refine ⟨⟨_, _, rfl, rfl, Wk.uncap⟩, ?_⟩ | refine ⟨⟨_, _, rfl, rfl, Wk.nil⟩, ?_⟩)) (by repeat' (first | exact True.intro | refine ⟨⟨_, _, _, rfl, rfl, rfl, WkO.rfl⟩, ?_⟩ | refine HeapOK.acc rfl rfl ?_ | refine HeapOK.es rfl rfl ?_)) (e' := []) (h' := (hG1 8 5 6 9 room first en o m L lc F c w W X (subY Y o P p m)))
    exact M.exit (M.go rfl (M.done hq))
  | succ rem ih =>
    intro i hi
    have ih' := ih (i + 1) (by omega)
    have hw2 : IntKind.i64.wrap ((i : Int) + 1) = ((i + 1 : Nat) : Int) := by rw [wr64 (by omega) (by omega)]; omega
    have hPi := hP i (by omega)
    have hget : (subY Y o P p i)[o + i]? = some (.int .i64 (P i : Nat)) := by rw [subY_hi Y o P p i i (Nat.le_refl _), hY i (by omega)]
    have hw3 : IntKind.i64.wrap ((P i : Int) - p) = (P i : Int) - p := wr64 (by omega) (by omega)
    refine M.round (M.go rfl ?_)
    refine M.cond rfl (fun _ => ?_) (fun hn => absurd (by omega) hn)
    refine M.go rfl ?_
    refine M.op trivial (SOp.ia1 rfl rfl (by omega)) ?_
    refine M.op trivial (SOp.ld1A rfl rfl hget rfl rfl rfl) ?_
    refine M.go rfl ?_
    rw [hw3]
    refine M.op trivial (SOp.ia1 rfl rfl (by omega)) ?_
    refine M.op trivial (SOp.stA rfl rfl rfl rfl (by rw [subY_len]; omega)) ?_
    refine M.go rfl ?_
    rw [hw2]
    exact M.again (XH.ren [(0, 0), (1, 1), (2, 2), (3, 3), (4, 4), (5, 5), (6, 6), (7, 7), (8, 8)] ih' rfl (by repeat' (first | exact True.intro | refine ⟨⟨_, _, rfl, rfl, Wk.rfl⟩, ?_⟩ | refine ⟨⟨_, _, accV_ren rfl, rfl, Wk.rfl⟩, ?_⟩ | refine ⟨⟨_, _, accV_ren rfl, rfl, Wk.acc0⟩, ?_⟩ | refine ⟨⟨_, _, rfl, rfl, Wk.uncap⟩, ?_⟩ | refine ⟨⟨_, _, rfl, rfl, Wk.nil⟩, ?_⟩)) (by repeat' (first | exact True.intro | refine ⟨⟨_, _, _, rfl, rfl, rfl, WkO.rfl⟩, ?_⟩ | refine HeapOK.acc rfl rfl ?_ | refine HeapOK.es rfl rfl ?_)))
theorem guntil1_0 (room first en : Int) (o : Nat) (L : FS) (lc : Nat) (F : FS) (c : Nat) (w : PC) (W : List PC) (X Y : List PC) (n : Int) (hn : 1 ≤ n) : CallS Try.prog base 29 [.c (.ptr 0 0), .c (.p (.int .i64 n))] (hG1 4 5 6 7 room first en o 0 L lc F c w W X Y) (.c (.p (.int .i64 0))) (hG1 4 5 6 7 room first en o 0 L lc F c w W X Y) := by
  refine CallS.of noNG lWun.2 rfl (M.start (M.go rfl ?_))
  refine M.cond rfl (fun hh => absurd hh (by omega)) (fun _ => ?_)
  refine M.go rfl ?_
  refine M.dec rfl (fun _ => ?_) (fun hn => absurd (by simp) hn)
  refine M.go rfl ?_
  exact M.ret (M.go rfl (M.done (finQ.ret [(0, 0), (1, 1), (2, 2), (3, 3), (4, 4), (5, 5), (6, 6)] rfl rfl rfl (by first | exact Wk.rfl | exact Wk.uncap | exact Wk.nil | exact Wk.b1 rfl | exact Wk.t2 Wk.rfl (Wk.b1 rfl)) (by repeat' (first | exact True.intro | refine ⟨⟨_, _, _, rfl, rfl, rfl, WkO.rfl⟩, ?_⟩ | refine HeapOK.acc rfl rfl ?_ | refine HeapOK.es rfl rfl ?_)))))
theorem guntil1_n (room first en : Int) (o m : Nat) (L : FS) (lc : Nat) (F : FS) (c : Nat) (w : PC) (W : List PC) (X Y : List PC) (n : Int) (hn : 1 ≤ n ∧ n < first) : CallS Try.prog base 29 [.c (.ptr 0 0), .c (.p (.int .i64 n))] (hG1 4 5 6 7 room first en o (m + 1) L lc F c w W X Y) (.c (.p (.int .i64 0))) (hG1 4 5 6 7 room first en o (m + 1) L lc F c w W X Y) := by
  refine CallS.of noNG lWun.2 rfl (M.start (M.go rfl ?_))
  refine M.cond rfl (fun hh => absurd hh (by omega)) (fun _ => ?_)
  refine M.go rfl ?_
  refine M.dec rfl (fun hh => absurd hh (by omega)) (fun _ => ?_)
  refine M.go rfl ?_
  refine M.cond rfl (fun _ => ?_) (fun hn => absurd (by omega) hn)
  refine M.go rfl ?_
  exact M.ret (M.go rfl (M.done (finQ.ret [(0, 0), (1, 1), (2, 2), (3, 3), (4, 4), (5, 5), (6, 6)] rfl rfl rfl (by first | exact Wk.rfl | exact Wk.uncap | exact Wk.nil | exact Wk.b1 rfl | exact Wk.t2 Wk.rfl (Wk.b1 rfl)) (by repeat' (first | exact True.intro | refine ⟨⟨_, _, _, rfl, rfl, rfl, WkO.rfl⟩, ?_⟩ | refine HeapOK.acc rfl rfl ?_ | refine HeapOK.es rfl rfl ?_)))))
theorem guntil1_a (room first en : Int) (o m : Nat) (L : FS) (lc : Nat) (F : FS) (c : Nat) (w : PC) (W : List PC) (X Y : List PC) (n : Int) (hn : 1 ≤ n ∧ n ≤ 2000000000000000) (hm : m ≤ 100000) (hf1 : 1 ≤ first) (hf : 0 ≤ first ∧ first ≤ 2000000000000000) (hl : first + m ≤ n) (hW : W.length ≤ 1000000) (p : Nat) (z : Bool) (old : List Int) (oc : Option Nat) (hold : findP [119] F = some (fP z old oc)) (hp : p ≤ old.length) (hY : Y[o]? = some (.int .i64 (p : Nat))) :
    CallS Try.prog base 29 [.c (.ptr 0 0), .c (.p (.int .i64 n))] (hG1 4 5 6 7 room first en o (m + 1) L lc F c w W X Y) (.c (.p (.int .i64 0))) (hG1 7 5 6 8 room first ((p : Nat)) o 0 L lc (updP [119] (cutF z old p) c F) (updPC [119] (cutF z old p) c F) w (W ++ [chC p]) X Y) := by
  refine CallS.of noNG lWun.2 rfl (M.start (M.go rfl ?_))
  refine M.cond rfl (fun hh => absurd hh (by omega)) (fun _ => ?_)
  refine M.go rfl ?_
  refine M.dec rfl (fun hh => absurd hh (by omega)) (fun _ => ?_)
  refine M.go rfl ?_
  refine M.cond rfl (fun hh => absurd hh (by omega)) (fun _ => ?_)
  refine M.go rfl ?_
  refine M.use trivial (glast1_1 room first en o m L lc F c w W X Y hm hf) [(0, 0), (1, 1), (2, 2), (3, 3), (4, 4), (5, 5), (6, 6)] rfl rfl rfl (by repeat' (first | exact True.intro | refine ⟨⟨_, _, _, rfl, rfl, rfl, WkO.rfl⟩, ?_⟩ | refine HeapOK.acc rfl rfl ?_ | refine HeapOK.es rfl rfl ?_)) rfl rfl ?_
  refine M.go rfl ?_
  refine M.cond rfl (fun _ => ?_) (fun hn => absurd (by omega) hn)
  refine M.go rfl ?_
  refine M.use trivial (gfrom1_y room first en o m L lc F c w W X Y first ⟨hf1, hf.2⟩ hm hf (by omega) hW 0 p (by simp) z old oc hold hp hY) [(0, 0), (1, 1), (2, 2), (3, 3), (4, 4), (5, 5), (6, 6)] rfl rfl rfl (by repeat' (first | exact True.intro | refine ⟨⟨_, _, _, rfl, rfl, rfl, WkO.rfl⟩, ?_⟩ | refine HeapOK.acc rfl rfl ?_ | refine HeapOK.es rfl rfl ?_)) rfl rfl ?_
  refine M.go rfl ?_
  exact M.ret (M.go rfl (M.done (finQ.ret [(0, 0), (1, 1), (2, 2), (3, 3), (4, 4), (5, 5), (6, 6), (7, 7)] rfl rfl rfl (by first | exact Wk.rfl | exact Wk.uncap | exact Wk.nil | exact Wk.b1 rfl | exact Wk.t2 Wk.rfl (Wk.b1 rfl)) (by repeat' (first | exact True.intro | refine ⟨⟨_, _, _, rfl, rfl, rfl, WkO.rfl⟩, ?_⟩ | refine HeapOK.acc rfl rfl ?_ | refine HeapOK.es rfl rfl ?_)))))
theorem guntil1_y (room first en : Int) (o m : Nat) (L : FS) (lc : Nat) (F : FS) (c : Nat) (w : PC) (W : List PC) (X Y : List PC) (n : Int) (hn : 1 ≤ n ∧ n ≤ 2000000000000000) (hm : m ≤ 100000) (hf1 : 1 ≤ first) (hf : 0 ≤ first ∧ first ≤ 2000000000000000) (k : Nat) (hk : n = first + k) (hkm : k < m) (hW : W.length ≤ 100000) (P : Nat → Nat) (p q : Nat) (hen : en = (q : Nat)) (hP0 : P (k + 1) = p) (hpq : p ≤ q) (z : Bool) (old : List Int) (oc : Option Nat) (hold : findP [119] F = some (fP z old oc)) (hne : (old.drop p).take (q - p) ≠ []) (hq : q ≤ old.length) (hol : old.length ≤ 100000000)
    (hY : ∀ j, j ≤ m → Y[o + j]? = some (.int .i64 (P j : Nat))) (hP : ∀ j, k < j → j ≤ m → p ≤ P j ∧ P j ≤ 1000000000) (hl : o + (m + 1) ≤ Y.length) (hF : FOK F c) (hr : room ≤ 100000000000) (hroom : ((usedN F + (q - p) : Nat) : Int) ≤ room) (hfile : F.length < 64) (hfr : findP frN F = none) (F2 F3 : FS) (c2 c3 : Nat) (hF2 : updP frN (fP false ((old.drop p).take (q - p)) none) c F = F2) (hc2 : updPC frN (fP false ((old.drop p).take (q - p)) none) c F = c2) (hg2 : findP frN F2 = some (fP false ((old.drop p).take (q - p)) none)) (hF3 : updP [119] (fP false ((old.drop p).take (q - p)) none) c2 (delP frN F2) = F3) (hc3 : updPC [119] (fP false ((old.drop p).take (q - p)) none) c2 (delP frN F2) = c3) :
    CallS Try.prog base 29 [.c (.ptr 0 0), .c (.p (.int .i64 n))] (hG1 4 5 6 7 room first en o (m + 1) L lc F c w W X Y) (.c (.p (.int .i64 0))) (hG1 8 5 6 9 room (n + 1) ((q : Int) - p) (o + (k + 1)) (m - k) L lc F3 c3 w (W ++ [(chF (z && (u8P old).isEmpty) ((old.drop p).take (q - p)))] ++ [chM]) X (subY Y (o + (k + 1)) (fun j => P (k + 1 + j)) p (m - k))) := by
  have hl1 : (u8P old).length = old.length := u8P_len old
  have hnl : ((old.drop p).take (q - p)).length = q - p := by rw [List.length_take, List.length_drop]; omega
  have d1 : CallS Try.prog base 66 [.c (.mp 0), .agg ((chX 0 frN [] (fP (z && (u8P old).isEmpty) ((old.drop p).take (q - p)) none) 0).map XC.p), .c (.p (.int .i64 ((old.drop p).take (q - p)).length))] ⟨[(0, some (fM F c))], 1⟩ (.tup []) ⟨[(0, some (fM F2 c2))], 1⟩ := by
    have := do_app0 (base := base) F c frN [] 0 hfr (z && (u8P old).isEmpty) ((old.drop p).take (q - p)) none _ (Nat.le_refl _) (by omega)
    rw [List.take_length, apF, if_neg hne, List.nil_append, hF2, hc2] at this
    exact this
  have hYk := hY (k + 1) (by omega)
  rw [hP0] at hYk
  have hw1 : IntKind.i64.wrap (IntKind.i64.wrap (first + (k : Int) - first) + 1) = ((k + 1 : Nat) : Int) := by
    rw [show first + (k : Int) - first = (k : Int) by omega, wr64 (n := (k : Int)) (by omega) (by omega), wr64 (by omega) (by omega)]; omega
  have hw2 : IntKind.i64.wrap (first + (k : Int) + 1) = first + (k : Int) + 1 := wr64 (by omega) (by omega)
  have hw3 : IntKind.i64.wrap ((q : Int) - (p : Int)) = (q : Int) - p := wr64 (by omega) (by omega)
  subst hk
  subst hen
  refine CallS.of noNG lWun.2 rfl (M.start (M.go rfl ?_))
  refine M.cond rfl (fun hh => absurd hh (by omega)) (fun _ => ?_)
  refine M.go rfl ?_
  refine M.dec rfl (fun hh => absurd hh (by omega)) (fun _ => ?_)
  refine M.go rfl ?_
  refine M.cond rfl (fun hh => absurd hh (by omega)) (fun _ => ?_)
  refine M.go rfl ?_
  refine M.use trivial (glast1_1 room first (q : Nat) o m L lc F c w W X Y hm hf) [(0, 0), (1, 1), (2, 2), (3, 3), (4, 4), (5, 5), (6, 6)] rfl rfl rfl (by repeat' (first | exact True.intro | refine ⟨⟨_, _, _, rfl, rfl, rfl, WkO.rfl⟩, ?_⟩ | refine HeapOK.acc rfl rfl ?_ | refine HeapOK.es rfl rfl ?_)) rfl rfl ?_
  refine M.go rfl ?_
  refine M.cond rfl (fun hh => absurd hh (by omega)) (fun _ => ?_)
  refine M.go rfl ?_
  rw [hw1]
  refine M.use trivial (read1_spec room L lc F c w W [119] z old oc hold (by omega)) [(0, 1), (1, 2), (2, 3), (3, 4)] rfl rfl rfl (by repeat' (first | exact True.intro | refine ⟨⟨_, _, _, rfl, rfl, rfl, WkO.rfl⟩, ?_⟩ | refine HeapOK.acc rfl rfl ?_ | refine HeapOK.es rfl rfl ?_)) rfl rfl ?_
  refine M.go rfl ?_
  refine M.regD (MD.go rfl ?_)
  refine MD.op trivial (SOp.ia1 rfl rfl (by omega)) ?_
  refine MD.op trivial (SOp.ld1A rfl rfl hYk rfl rfl rfl) ?_
  refine MD.go rfl ?_
  refine MD.op trivial (SOp.sl (l := p) (r := q) rfl ⟨_, _, rfl, by omega, by omega⟩ ⟨_, _, rfl, by omega, by omega⟩ (by omega) (by rw [hl1]; omega)) ?_
  rw [u8P_drop, u8P_take]
  refine MD.go rfl ?_
  refine MD.use trivial (append1_spec room L lc F c w W (by omega) frN (z && (u8P old).isEmpty) ((old.drop p).take (q - p)) none may_fr hF hr (by rw [hnl]; exact hroom) (.inr hfile) F2 c2 d1) [(0, 1), (1, 2), (2, 3), (3, 4)] rfl rfl rfl (by repeat' (first | exact True.intro | refine ⟨⟨_, _, _, rfl, rfl, rfl, WkO.rfl⟩, ?_⟩ | refine HeapOK.acc rfl rfl ?_ | refine HeapOK.es rfl rfl ?_)) rfl rfl ?_
  refine MD.go rfl ?_
  refine MD.nil mixed (Fnl.nodup rfl) (M.go rfl ?_)
  refine M.condN rfl (fun hn => absurd rfl hn) (fun _ => ?_)
  refine M.go rfl ?_
  refine M.use trivial (move1_spec room L lc F2 c2 w (W ++ [(chF (z && (u8P old).isEmpty) ((old.drop p).take (q - p)))]) (by simp; omega) frN [119] may_w false ((old.drop p).take (q - p)) none hg2) [(0, 1), (1, 2), (2, 3), (3, 7)] rfl rfl rfl (by repeat' (first | exact True.intro | refine ⟨⟨_, _, _, rfl, rfl, rfl, WkO.rfl⟩, ?_⟩ | refine HeapOK.acc rfl rfl ?_ | refine HeapOK.es rfl rfl ?_)) rfl rfl ?_
  rw [hF3, hc3]
  refine M.go rfl ?_
  refine M.condN rfl (fun hn => absurd rfl hn) (fun _ => ?_)
  refine M.go rfl ?_
  refine M.op trivial (SOp.ia1 rfl rfl (by omega)) ?_
  refine M.op trivial (SOp.ld1A rfl rfl hYk rfl rfl rfl) ?_
  refine M.go rfl ?_
  refine M.regF (MF.go rfl ?_)
  refine MF.op trivial (SOp.sl1 (l := k + 1) (r := m + 1) rfl ⟨_, _, rfl, by omega, by omega⟩ rfl (by omega) (by omega)) ?_
  refine MF.go rfl ?_
  refine MF.op trivial (SOp.sl1 (l := k + 1) (r := m + 1) rfl ⟨_, _, rfl, by omega, by omega⟩ rfl (by omega) (by omega)) ?_
  refine MF.go rfl ?_
  refine MF.nil mixed (Fnl.nodup rfl) rfl ⟨⟨SOp.sl1 (l := k + 1) (r := m + 1) rfl ⟨_, _, rfl, by omega, by omega⟩ rfl (by omega) (by omega), trivial⟩, ⟨SOp.sl1 (l := k + 1) (r := m + 1) rfl ⟨_, _, rfl, by omega, by omega⟩ rfl (by omega) (by omega), SOp.sl1 (l := k + 1) (r := m + 1) rfl ⟨_, _, rfl, by omega, by omega⟩ rfl (by omega) (by omega), trivial⟩, trivial⟩ (M.go rfl ?_)
  rw [hw2, hw3, show m + 1 - (k + 1) = m - k by omega]
  refine M.loop (XH.ren [(0, 0), (1, 1), (2, 2), (3, 3), (4, 4), (5, 5), (6, 6), (7, 7), (8, 8)] (until_loop1 room (first + (k : Int) + 1) ((q : Int) - p) (o + (k + 1)) (m - k) L lc F3 c3 w (W ++ [(chF (z && (u8P old).isEmpty) ((old.drop p).take (q - p)))] ++ [chM]) X Y (fun j => P (k + 1 + j)) p (by omega) (fun j hj => by rw [Nat.add_assoc]; exact hY (k + 1 + j) (by omega)) (fun j hj => hP (k + 1 + j) (by omega) (by omega)) (by omega) _ ?_ (m - k) 0 (by omega)) rfl (by repeat' (first | exact True.intro | refine ⟨⟨_, _, rfl, rfl, Wk.rfl⟩, ?_⟩ | refine ⟨⟨_, _, accV_ren rfl, rfl, Wk.rfl⟩, ?_⟩ | refine ⟨⟨_, _, accV_ren rfl, rfl, Wk.acc0⟩, ?_⟩ | refine ⟨⟨_, _, rfl, rfl, Wk.uncap⟩, ?_⟩ | refine ⟨⟨_, _, rfl, rfl, Wk.nil⟩, ?_⟩)) (by repeat' (first | exact True.intro | refine ⟨⟨_, _, _, rfl, rfl, rfl, WkO.rfl⟩, ?_⟩ | refine HeapOK.acc rfl rfl ?_ | refine HeapOK.es rfl rfl ?_)))
  refine M.q (M.go rfl ?_)
  exact M.ret (M.go rfl (M.done (finQ.ret [(0, 0), (1, 1), (2, 2), (3, 3), (4, 4), (5, 5), (6, 6), (7, 7), (8, 8)] rfl rfl rfl (by first | exact Wk.rfl | exact Wk.uncap | exact Wk.nil | exact Wk.b1 rfl | exact Wk.t2 Wk.rfl (Wk.b1 rfl)) (by repeat' (first | exact True.intro | refine ⟨⟨_, _, _, rfl, rfl, rfl, WkO.rfl⟩, ?_⟩ | refine HeapOK.acc rfl rfl ?_ | refine HeapOK.es rfl rfl ?_)))))
theorem until_loop0 (room first en : Int) (o m : Nat) (L : FS) (lc : Nat) (F : FS) (c : Nat) (w : PC) (W : List PC) (X Y : List PC) (P : Nat → Nat) (p : Nat) (hm : m ≤ 100000) (hY : ∀ j, j < m → Y[o + j]? = some (.int .i64 (P j : Nat))) (hP : ∀ j, j < m → p ≤ P j ∧ P j ≤ 1000000000) (hl : o + m ≤ Y.length) (Q : QX) (hq : Q (.exit 1) [] (hG1 7 4 5 8 room first en o m L lc F c w W X (subY Y o P p m))) :
    ∀ (rem i : Nat), i + rem = m → XH Try.prog base lWun.1.n 6 (lWun.1.c.lp 0) [(0, .c (.ptr 0 0)), (10, .c (.p (.int .i64 p))), (132, .c (.p (.int .i64 m))), (133, .c (.p (.int .i64 i)))] (hG1 7 4 5 8 room first en o m L lc F c w W X (subY Y o P p i)) Q := by
  intro rem
  induction rem with
  | zero =>
    intro i hi
    obtain rfl : m = i := by omega
    refine M.round (M.go rfl ?_)
    refine M.cond rfl (fun hn => absurd hn (by omega)) (fun _ => ?_)
    refine M.ren [(0, 0), (1, 1), (2, 2), (3, 3), (4, 4), (5, 5), (6, 6), (7, 7)] ?_ trivial rfl (by repeat' (first | exact True.intro | refine ⟨⟨_, _, rfl, rfl, Wk.rfl⟩, ?_⟩ | refine ⟨⟨_, _, accV_ren rfl, rfl, Wk.rfl⟩, ?_⟩ | refine ⟨⟨_, _, accV_ren rfl, rfl, Wk.acc0⟩, ?_⟩ | refine ⟨⟨_, _, rfl, rfl, Wk.uncap⟩, ?_⟩ | refine ⟨⟨_, _, rfl, rfl, Wk.nil⟩, ?_⟩)) (by repeat' (first | exact True.intro | refine ⟨⟨_, _, _, rfl, rfl, rfl, WkO.rfl⟩, ?_⟩ | refine HeapOK.acc rfl rfl ?_ | refine HeapOK.es rfl rfl ?_)) (e' := []) (h' := (hG1 7 4 5 8 room first en o m L lc F c w W X (subY Y o P p m)))
    exact M.exit (M.go rfl (M.done hq))
  | succ rem ih =>
    intro i hi
    have ih' := ih (i + 1) (by omega)
    have hw2 : IntKind.i64.wrap ((i : Int) + 1) = ((i + 1 : Nat) : Int) := by rw [wr64 (by omega) (by omega)]; omega
    have hPi := hP i (by omega)
    have hget : (subY Y o P p i)[o + i]? = some (.int .i64 (P i : Nat)) := by rw [subY_hi Y o P p i i (Nat.le_refl _), hY i (by omega)]
    have hw3 : IntKind.i64.wrap ((P i : Int) - p) = (P i : Int) - p := wr64 (by omega) (by omega)
    refine M.round (M.go rfl ?_)
    refine M.cond rfl (fun _ => ?_) (fun hn => absurd (by omega) hn)
    refine M.go rfl ?_
    refine M.op trivial (SOp.ia1 rfl rfl (by omega)) ?_
    refine M.op trivial (SOp.ld1A rfl rfl hget rfl rfl rfl) ?_
    refine M.go rfl ?_
    rw [hw3]
    refine M.op trivial (SOp.ia1 rfl rfl (by omega)) ?_
    refine M.op trivial (SOp.stA rfl rfl rfl rfl (by rw [subY_len]; omega)) ?_
    refine M.go rfl ?_
    rw [hw2]
    exact M.again (XH.ren [(0, 0), (1, 1), (2, 2), (3, 3), (4, 4), (5, 5), (6, 6), (7, 7)] ih' rfl (by repeat' (first | exact True.intro | refine ⟨⟨_, _, rfl, rfl, Wk.rfl⟩, ?_⟩ | refine ⟨⟨_, _, accV_ren rfl, rfl, Wk.rfl⟩, ?_⟩ | refine ⟨⟨_, _, accV_ren rfl, rfl, Wk.acc0⟩, ?_⟩ | refine ⟨⟨_, _, rfl, rfl, Wk.uncap⟩, ?_⟩ | refine ⟨⟨_, _, rfl, rfl, Wk.nil⟩, ?_⟩)) (by repeat' (first | exact True.intro | refine ⟨⟨_, _, _, rfl, rfl, rfl, WkO.rfl⟩, ?_⟩ | refine HeapOK.acc rfl rfl ?_ | refine HeapOK.es rfl rfl ?_)))
theorem guntil0_0 (room first en : Int) (o : Nat) (L : FS) (lc : Nat) (F : FS) (c : Nat) (X Y : List PC) (n : Int) (hn : 1 ≤ n) : CallS Try.prog base 29 [.c (.ptr 0 0), .c (.p (.int .i64 n))] (hG0 4 5 6 room first en o 0 L lc F c X Y) (.c (.p (.int .i64 0))) (hG0 4 5 6 room first en o 0 L lc F c X Y) := by
  refine CallS.of noNG lWun.2 rfl (M.start (M.go rfl ?_))
  refine M.cond rfl (fun hh => absurd hh (by omega)) (fun _ => ?_)
  refine M.go rfl ?_
  refine M.dec rfl (fun _ => ?_) (fun hn => absurd (by simp) hn)
  refine M.go rfl ?_
  exact M.ret (M.go rfl (M.done (finQ.ret [(0, 0), (1, 1), (2, 2), (3, 3), (4, 4), (5, 5)] rfl rfl rfl (by first | exact Wk.rfl | exact Wk.uncap | exact Wk.nil | exact Wk.b1 rfl | exact Wk.t2 Wk.rfl (Wk.b1 rfl)) (by repeat' (first | exact True.intro | refine ⟨⟨_, _, _, rfl, rfl, rfl, WkO.rfl⟩, ?_⟩ | refine HeapOK.acc rfl rfl ?_ | refine HeapOK.es rfl rfl ?_)))))
theorem guntil0_n (room first en : Int) (o m : Nat) (L : FS) (lc : Nat) (F : FS) (c : Nat) (X Y : List PC) (n : Int) (hn : 1 ≤ n ∧ n < first) : CallS Try.prog base 29 [.c (.ptr 0 0), .c (.p (.int .i64 n))] (hG0 4 5 6 room first en o (m + 1) L lc F c X Y) (.c (.p (.int .i64 0))) (hG0 4 5 6 room first en o (m + 1) L lc F c X Y) := by
  refine CallS.of noNG lWun.2 rfl (M.start (M.go rfl ?_))
  refine M.cond rfl (fun hh => absurd hh (by omega)) (fun _ => ?_)
  refine M.go rfl ?_
  refine M.dec rfl (fun hh => absurd hh (by omega)) (fun _ => ?_)
  refine M.go rfl ?_
  refine M.cond rfl (fun _ => ?_) (fun hn => absurd (by omega) hn)
  refine M.go rfl ?_
  exact M.ret (M.go rfl (M.done (finQ.ret [(0, 0), (1, 1), (2, 2), (3, 3), (4, 4), (5, 5)] rfl rfl rfl (by first | exact Wk.rfl | exact Wk.uncap | exact Wk.nil | exact Wk.b1 rfl | exact Wk.t2 Wk.rfl (Wk.b1 rfl)) (by repeat' (first | exact True.intro | refine ⟨⟨_, _, _, rfl, rfl, rfl, WkO.rfl⟩, ?_⟩ | refine HeapOK.acc rfl rfl ?_ | refine HeapOK.es rfl rfl ?_)))))
theorem guntil0_a (room first en : Int) (o m : Nat) (L : FS) (lc : Nat) (F : FS) (c : Nat) (X Y : List PC) (n : Int) (hn : 1 ≤ n ∧ n ≤ 2000000000000000) (hm : m ≤ 100000) (hf1 : 1 ≤ first) (hf : 0 ≤ first ∧ first ≤ 2000000000000000) (hl : first + m ≤ n) (p : Nat) (z : Bool) (old : List Int) (oc : Option Nat) (hold : findP [119] F = some (fP z old oc)) (hp : p ≤ old.length) (hY : Y[o]? = some (.int .i64 (p : Nat))) :
    CallS Try.prog base 29 [.c (.ptr 0 0), .c (.p (.int .i64 n))] (hG0 4 5 6 room first en o (m + 1) L lc F c X Y) (.c (.p (.int .i64 0))) (hG1 6 4 5 7 room first ((p : Nat)) o 0 L lc (updP [119] (cutF z old p) c F) (updPC [119] (cutF z old p) c F) (chC p) ([]) X Y) := by
  refine CallS.of noNG lWun.2 rfl (M.start (M.go rfl ?_))
  refine M.cond rfl (fun hh => absurd hh (by omega)) (fun _ => ?_)
  refine M.go rfl ?_
  refine M.dec rfl (fun hh => absurd hh (by omega)) (fun _ => ?_)
  refine M.go rfl ?_
  refine M.cond rfl (fun hh => absurd hh (by omega)) (fun _ => ?_)
  refine M.go rfl ?_
  refine M.use trivial (glast0_1 room first en o m L lc F c X Y hm hf) [(0, 0), (1, 1), (2, 2), (3, 3), (4, 4), (5, 5)] rfl rfl rfl (by repeat' (first | exact True.intro | refine ⟨⟨_, _, _, rfl, rfl, rfl, WkO.rfl⟩, ?_⟩ | refine HeapOK.acc rfl rfl ?_ | refine HeapOK.es rfl rfl ?_)) rfl rfl ?_
  refine M.go rfl ?_
  refine M.cond rfl (fun _ => ?_) (fun hn => absurd (by omega) hn)
  refine M.go rfl ?_
  refine M.use trivial (gfrom0_y room first en o m L lc F c X Y first ⟨hf1, hf.2⟩ hm hf (by omega) 0 p (by simp) z old oc hold hp hY) [(0, 0), (1, 1), (2, 2), (3, 3), (4, 4), (5, 5)] rfl rfl rfl (by repeat' (first | exact True.intro | refine ⟨⟨_, _, _, rfl, rfl, rfl, WkO.rfl⟩, ?_⟩ | refine HeapOK.acc rfl rfl ?_ | refine HeapOK.es rfl rfl ?_)) rfl rfl ?_
  refine M.go rfl ?_
  exact M.ret (M.go rfl (M.done (finQ.ret [(0, 0), (1, 1), (2, 2), (3, 3), (4, 4), (5, 5), (6, 6)] rfl rfl rfl (by first | exact Wk.rfl | exact Wk.uncap | exact Wk.nil | exact Wk.b1 rfl | exact Wk.t2 Wk.rfl (Wk.b1 rfl)) (by repeat' (first | exact True.intro | refine ⟨⟨_, _, _, rfl, rfl, rfl, WkO.rfl⟩, ?_⟩ | refine HeapOK.acc rfl rfl ?_ | refine HeapOK.es rfl rfl ?_)))))
theorem guntil0_y (room first en : Int) (o m : Nat) (L : FS) (lc : Nat) (F : FS) (c : Nat) (X Y : List PC) (n : Int) (hn : 1 ≤ n ∧ n ≤ 2000000000000000) (hm : m ≤ 100000) (hf1 : 1 ≤ first) (hf : 0 ≤ first ∧ first ≤ 2000000000000000) (k : Nat) (hk : n = first + k) (hkm : k < m) (P : Nat → Nat) (p q : Nat) (hen : en = (q : Nat)) (hP0 : P (k + 1) = p) (hpq : p ≤ q) (z : Bool) (old : List Int) (oc : Option Nat) (hold : findP [119] F = some (fP z old oc)) (hne : (old.drop p).take (q - p) ≠ []) (hq : q ≤ old.length) (hol : old.length ≤ 100000000)
    (hY : ∀ j, j ≤ m → Y[o + j]? = some (.int .i64 (P j : Nat))) (hP : ∀ j, k < j → j ≤ m → p ≤ P j ∧ P j ≤ 1000000000) (hl : o + (m + 1) ≤ Y.length) (hF : FOK F c) (hr : room ≤ 100000000000) (hroom : ((usedN F + (q - p) : Nat) : Int) ≤ room) (hfile : F.length < 64) (hfr : findP frN F = none) (F2 F3 : FS) (c2 c3 : Nat) (hF2 : updP frN (fP false ((old.drop p).take (q - p)) none) c F = F2) (hc2 : updPC frN (fP false ((old.drop p).take (q - p)) none) c F = c2) (hg2 : findP frN F2 = some (fP false ((old.drop p).take (q - p)) none)) (hF3 : updP [119] (fP false ((old.drop p).take (q - p)) none) c2 (delP frN F2) = F3) (hc3 : updPC [119] (fP false ((old.drop p).take (q - p)) none) c2 (delP frN F2) = c3) :
    CallS Try.prog base 29 [.c (.ptr 0 0), .c (.p (.int .i64 n))] (hG0 4 5 6 room first en o (m + 1) L lc F c X Y) (.c (.p (.int .i64 0))) (hG1 7 4 5 8 room (n + 1) ((q : Int) - p) (o + (k + 1)) (m - k) L lc F3 c3 ((chF (z && (u8P old).isEmpty) ((old.drop p).take (q - p)))) ([chM]) X (subY Y (o + (k + 1)) (fun j => P (k + 1 + j)) p (m - k))) := by
  have hl1 : (u8P old).length = old.length := u8P_len old
  have hnl : ((old.drop p).take (q - p)).length = q - p := by rw [List.length_take, List.length_drop]; omega
  have d1 : CallS Try.prog base 66 [.c (.mp 0), .agg ((chX 0 frN [] (fP (z && (u8P old).isEmpty) ((old.drop p).take (q - p)) none) 0).map XC.p), .c (.p (.int .i64 ((old.drop p).take (q - p)).length))] ⟨[(0, some (fM F c))], 1⟩ (.tup []) ⟨[(0, some (fM F2 c2))], 1⟩ := by
    have := do_app0 (base := base) F c frN [] 0 hfr (z && (u8P old).isEmpty) ((old.drop p).take (q - p)) none _ (Nat.le_refl _) (by omega)
    rw [List.take_length, apF, if_neg hne, List.nil_append, hF2, hc2] at this
    exact this
  have hYk := hY (k + 1) (by omega)
  rw [hP0] at hYk
  have hw1 : IntKind.i64.wrap (IntKind.i64.wrap (first + (k : Int) - first) + 1) = ((k + 1 : Nat) : Int) := by
    rw [show first + (k : Int) - first = (k : Int) by omega, wr64 (n := (k : Int)) (by omega) (by omega), wr64 (by omega) (by omega)]; omega
  have hw2 : IntKind.i64.wrap (first + (k : Int) + 1) = first + (k : Int) + 1 := wr64 (by omega) (by omega)
  have hw3 : IntKind.i64.wrap ((q : Int) - (p : Int)) = (q : Int) - p := wr64 (by omega) (by omega)
  subst hk
  subst hen
  refine CallS.of noNG lWun.2 rfl (M.start (M.go rfl ?_))
  refine M.cond rfl (fun hh => absurd hh (by omega)) (fun _ => ?_)
  refine M.go rfl ?_
  refine M.dec rfl (fun hh => absurd hh (by omega)) (fun _ => ?_)
  refine M.go rfl ?_
  refine M.cond rfl (fun hh => absurd hh (by omega)) (fun _ => ?_)
  refine M.go rfl ?_
  refine M.use trivial (glast0_1 room first (q : Nat) o m L lc F c X Y hm hf) [(0, 0), (1, 1), (2, 2), (3, 3), (4, 4), (5, 5)] rfl rfl rfl (by repeat' (first | exact True.intro | refine ⟨⟨_, _, _, rfl, rfl, rfl, WkO.rfl⟩, ?_⟩ | refine HeapOK.acc rfl rfl ?_ | refine HeapOK.es rfl rfl ?_)) rfl rfl ?_
  refine M.go rfl ?_
  refine M.cond rfl (fun hh => absurd hh (by omega)) (fun _ => ?_)
  refine M.go rfl ?_
  rw [hw1]
  refine M.use trivial (read0_spec room L lc F c [119] z old oc hold (by omega)) [(0, 1), (1, 2), (2, 3)] rfl rfl rfl (by repeat' (first | exact True.intro | refine ⟨⟨_, _, _, rfl, rfl, rfl, WkO.rfl⟩, ?_⟩ | refine HeapOK.acc rfl rfl ?_ | refine HeapOK.es rfl rfl ?_)) rfl rfl ?_
  refine M.go rfl ?_
  refine M.regD (MD.go rfl ?_)
  refine MD.op trivial (SOp.ia1 rfl rfl (by omega)) ?_
  refine MD.op trivial (SOp.ld1A rfl rfl hYk rfl rfl rfl) ?_
  refine MD.go rfl ?_
  refine MD.op trivial (SOp.sl (l := p) (r := q) rfl ⟨_, _, rfl, by omega, by omega⟩ ⟨_, _, rfl, by omega, by omega⟩ (by omega) (by rw [hl1]; omega)) ?_
  rw [u8P_drop, u8P_take]
  refine MD.go rfl ?_
  refine MD.use trivial (append0_spec room L lc F c frN (z && (u8P old).isEmpty) ((old.drop p).take (q - p)) none may_fr hF hr (by rw [hnl]; exact hroom) (.inr hfile) F2 c2 d1) [(0, 1), (1, 2), (2, 3)] rfl rfl rfl (by repeat' (first | exact True.intro | refine ⟨⟨_, _, _, rfl, rfl, rfl, WkO.rfl⟩, ?_⟩ | refine HeapOK.acc rfl rfl ?_ | refine HeapOK.es rfl rfl ?_)) rfl rfl ?_
  refine MD.go rfl ?_
  refine MD.nil mixed (Fnl.nodup rfl) (M.go rfl ?_)
  refine M.condN rfl (fun hn => absurd rfl hn) (fun _ => ?_)
  refine M.go rfl ?_
  refine M.use trivial (move1_spec room L lc F2 c2 (chF (z && (u8P old).isEmpty) ((old.drop p).take (q - p))) [] (by simp) frN [119] may_w false ((old.drop p).take (q - p)) none hg2) [(0, 1), (1, 2), (2, 3), (3, 6)] rfl rfl rfl (by repeat' (first | exact True.intro | refine ⟨⟨_, _, _, rfl, rfl, rfl, WkO.rfl⟩, ?_⟩ | refine HeapOK.acc rfl rfl ?_ | refine HeapOK.es rfl rfl ?_)) rfl rfl ?_
  rw [hF3, hc3]
  refine M.go rfl ?_
  refine M.condN rfl (fun hn => absurd rfl hn) (fun _ => ?_)
  refine M.go rfl ?_
  refine M.op trivial (SOp.ia1 rfl rfl (by omega)) ?_
  refine M.op trivial (SOp.ld1A rfl rfl hYk rfl rfl rfl) ?_
  refine M.go rfl ?_
  refine M.regF (MF.go rfl ?_)
  refine MF.op trivial (SOp.sl1 (l := k + 1) (r := m + 1) rfl ⟨_, _, rfl, by omega, by omega⟩ rfl (by omega) (by omega)) ?_
  refine MF.go rfl ?_
  refine MF.op trivial (SOp.sl1 (l := k + 1) (r := m + 1) rfl ⟨_, _, rfl, by omega, by omega⟩ rfl (by omega) (by omega)) ?_
  refine MF.go rfl ?_
  refine MF.nil mixed (Fnl.nodup rfl) rfl ⟨⟨SOp.sl1 (l := k + 1) (r := m + 1) rfl ⟨_, _, rfl, by omega, by omega⟩ rfl (by omega) (by omega), trivial⟩, ⟨SOp.sl1 (l := k + 1) (r := m + 1) rfl ⟨_, _, rfl, by omega, by omega⟩ rfl (by omega) (by omega), SOp.sl1 (l := k + 1) (r := m + 1) rfl ⟨_, _, rfl, by omega, by omega⟩ rfl (by omega) (by omega), trivial⟩, trivial⟩ (M.go rfl ?_)
  rw [hw2, hw3, show m + 1 - (k + 1) = m - k by omega]
  refine M.loop (XH.ren [(0, 0), (1, 1), (2, 2), (3, 3), (4, 4), (5, 5), (6, 6), (7, 7)] (until_loop0 room (first + (k : Int) + 1) ((q : Int) - p) (o + (k + 1)) (m - k) L lc F3 c3 (chF (z && (u8P old).isEmpty) ((old.drop p).take (q - p))) [chM] X Y (fun j => P (k + 1 + j)) p (by omega) (fun j hj => by rw [Nat.add_assoc]; exact hY (k + 1 + j) (by omega)) (fun j hj => hP (k + 1 + j) (by omega) (by omega)) (by omega) _ ?_ (m - k) 0 (by omega)) rfl (by repeat' (first | exact True.intro | refine ⟨⟨_, _, rfl, rfl, Wk.rfl⟩, ?_⟩ | refine ⟨⟨_, _, accV_ren rfl, rfl, Wk.rfl⟩, ?_⟩ | refine ⟨⟨_, _, accV_ren rfl, rfl, Wk.acc0⟩, ?_⟩ | refine ⟨⟨_, _, rfl, rfl, Wk.uncap⟩, ?_⟩ | refine ⟨⟨_, _, rfl, rfl, Wk.nil⟩, ?_⟩)) (by repeat' (first | exact True.intro | refine ⟨⟨_, _, _, rfl, rfl, rfl, WkO.rfl⟩, ?_⟩ | refine HeapOK.acc rfl rfl ?_ | refine HeapOK.es rfl rfl ?_)))
  refine M.q (M.go rfl ?_)
  exact M.ret (M.go rfl (M.done (finQ.ret [(0, 0), (1, 1), (2, 2), (3, 3), (4, 4), (5, 5), (6, 6), (7, 7)] rfl rfl rfl (by first | exact Wk.rfl | exact Wk.uncap | exact Wk.nil | exact Wk.b1 rfl | exact Wk.t2 Wk.rfl (Wk.b1 rfl)) (by repeat' (first | exact True.intro | refine ⟨⟨_, _, _, rfl, rfl, rfl, WkO.rfl⟩, ?_⟩ | refine HeapOK.acc rfl rfl ?_ | refine HeapOK.es rfl rfl ?_)))))
end Go.Proofs.Ytjlfojgacnphmaa

namespace Go.Proofs.Ytjlfojgacnphmaa.Sym
open Go Go.RowKit Go.Proofs.Ytjlfojgacnphmaa.Sim
set_option linter.unusedVariables false
section
variable {P : Program} {base n k : Nat} {e : Env} {h : HS} {Q : QX} {K : List Fr}
def shP {ι : Type} (base n k : Nat) (E : ι → Env) (H : ι → HS) (Φ : ι → Prop) : QX := fun x e h => x = .normal ∧ ∃ i, Φ i ∧ Sh base n k e h (E i) (H i)
theorem M.midP {ι : Type} {c : LC} (E : ι → Env) (H : ι → HS) (Φ : ι → Prop) (hx : M P base n k (.code c) [] e h (shP base n k E H Φ)) (hq : ∀ i, Φ i → M P base n k (.out .normal) K (E i) (H i) Q) : M P base n k (.code c) K e h Q := ⟨⟨fun code hl φ a w ht hr =>
  wp_mono (hx.run.run code hl φ a w ht hr) fun ex a' w' ⟨x, e2, h2, φ', ⟨p0, i, pi, p1⟩, p2, p5, p6, p7, p8⟩ => by
    subst p0
    obtain ⟨ψ, g1, g2, g3⟩ := p1 φ' a' w' p5 p7
    exact ⟨.normal, E i, H i, ψ, (hq i pi).run, p2, g1, p6, g2, p8.trans g3⟩⟩⟩
theorem M.midPO {ι : Type} {l : List LOp} (E : ι → Env) (H : ι → HS) (Φ : ι → Prop) (hx : M P base n k (.ops l) [] e h (shP base n k E H Φ)) (hq : ∀ i, Φ i → M P base n k (.out .normal) K (E i) (H i) Q) : M P base n k (.ops l) K e h Q := ⟨⟨fun ops lo hl φ a w ht hr R hR =>
  hx.run.run ops lo hl φ a w ht hr R fun ex a' w' ⟨x, e2, h2, φ', ⟨p0, i, pi, p1⟩, p2, p5, p6, p7, p8⟩ => hR _ _ _ (by
    subst p0
    obtain ⟨ψ, g1, g2, g3⟩ := p1 φ' a' w' p5 p7
    exact ⟨.normal, E i, H i, ψ, (hq i pi).run, p2, g1, p6, g2, p8.trans g3⟩)⟩⟩
end
end Go.Proofs.Ytjlfojgacnphmaa.Sym
namespace Go.Proofs.Ytjlfojgacnphmaa
open Go.RowKit Sim Go Sym
set_option maxRecDepth 100000
set_option linter.unusedVariables false
set_option linter.unusedSimpArgs false
variable {base : Nat}
theorem flatR_split : ∀ (R : List (List Int)) (f : Int) (j : Nat), flatR f R = flatR f (R.take j) ++ flatR (f + (min j R.length : Nat)) (R.drop j)
  | R, f, 0 => by simp [flatR]
  | [], f, j + 1 => by simp [flatR]
  | b :: R, f, j + 1 => by
    have := flatR_split R (f + 1) j
    rw [List.take_succ_cons, List.drop_succ_cons, flatR, flatR, this, List.append_assoc, List.length_cons, show f + 1 + ((min j R.length : Nat) : Int) = f + ((min (j + 1) (R.length + 1) : Nat) : Int) by omega]
theorem flatR_take (R : List (List Int)) (f : Int) (j : Nat) : (flatR f R).take (flatR f (R.take j)).length = flatR f (R.take j) := by
  conv => lhs; rw [flatR_split R f j]
  rw [List.take_left' rfl]
theorem flatR_drop (R : List (List Int)) (f : Int) (j : Nat) (h : j ≤ R.length) : (flatR f R).drop (flatR f (R.take j)).length = flatR (f + j) (R.drop j) := by
  conv => lhs; rw [flatR_split R f j]
  rw [List.drop_left' rfl, show min j R.length = j by omega]
theorem flatR_le (R : List (List Int)) (f : Int) (j : Nat) : (flatR f (R.take j)).length ≤ (flatR f R).length := by
  rw [flatR_split R f j, List.length_append]; omega
theorem flatR_mono (R : List (List Int)) (f : Int) {i j : Nat} (h : i ≤ j) : (flatR f (R.take i)).length ≤ (flatR f (R.take j)).length := by
  have := flatR_le (R.take j) f i
  rwa [List.take_take, show min i j = i by omega] at this
theorem posR_at : ∀ (R : List (List Int)) (E f : Int) (j : Nat), j < R.length → (posR E f R)[j]? = some (.int .i64 (E + (flatR f (R.take j)).length))
  | b :: R, E, f, 0, _ => by simp [posR, flatR]
  | b :: R, E, f, j + 1, h => by
    rw [posR, List.getElem?_cons_succ, posR_at R _ _ j (by simpa using h), List.take_succ_cons, flatR, List.length_append]
    rw [show E + ((sealB (recB f b)).length : Int) + ((flatR (f + 1) (R.take j)).length : Int) = E + (((sealB (recB f b)).length + (flatR (f + 1) (R.take j)).length : Nat) : Int) by omega]
theorem RecOK.take {f : Int} {R : List (List Int)} (h : RecOK f R) (j : Nat) : RecOK f (R.take j) := ⟨⟨h.f.1, by have := h.f.2; rw [List.length_take]; omega⟩, by have := h.l; rw [List.length_take]; omega, fun b hb => h.b b (List.mem_of_mem_take hb)⟩
theorem RecOK.drop {f : Int} {R : List (List Int)} (h : RecOK f R) (j : Nat) (hj : j ≤ R.length) : RecOK (f + j) (R.drop j) := ⟨⟨by have := h.f.1; omega, by have := h.f.2; rw [List.length_drop]; omega⟩, by have := h.l; rw [List.length_drop]; omega, fun b hb => h.b b (List.mem_of_mem_drop hb)⟩
theorem flatR_pos {f : Int} {b : List Int} {R : List (List Int)} (h : RecOK f (b :: R)) : 0 < (flatR f (b :: R)).length := by
  have h1 := h.b b (by simp)
  have h2 := recB_len (n := f) (b := b) h.f.1 (by have := h.f.2; simp only [List.length_cons] at this; omega) h1.2
  have := seal_len (xs := recB f b) (by omega)
  rw [flatR, List.length_append]; omega
theorem rcsP_at (R : List (List Int)) (j : Nat) (b : List Int) (h : R[j]? = some b) : (rcsP R)[j]? = some (fP false b none) := by rw [rcsP, List.getElem?_map, h]; rfl
theorem rcsP_len (R : List (List Int)) : (rcsP R).length = R.length := by simp [rcsP]
theorem first00_spec (room first en : Int) (L : FS) (lc : Nat) (F : FS) (c : Nat) : CallS Try.prog base 31 [.c (.ptr 0 0)] (hL00 room first en L lc F c) (.c (.p (.int .i64 0))) (hL00 room first en L lc F c) := by
  refine CallS.of noNG lWfi.2 rfl (M.start (M.go rfl ?_))
  refine M.cond rfl (fun _ => ?_) (fun hn => absurd (by simp) hn)
  refine M.go rfl ?_
  exact M.ret (M.go rfl (M.done (finQ.ret [(0, 0), (1, 1), (2, 2), (3, 3)] rfl rfl rfl (by first | exact Wk.rfl | exact Wk.uncap | exact Wk.nil | exact Wk.b1 rfl | exact Wk.t2 Wk.rfl (Wk.b1 rfl)) (by repeat' (first | exact True.intro | refine ⟨⟨_, _, _, rfl, rfl, rfl, WkO.rfl⟩, ?_⟩ | refine HeapOK.acc rfl rfl ?_ | refine HeapOK.es rfl rfl ?_)))))
theorem get00_spec (room first en : Int) (L : FS) (lc : Nat) (F : FS) (c : Nat) (n : Int) : CallS Try.prog base 26 [.c (.ptr 0 0), .c (.p (.int .i64 n))] (hL00 room first en L lc F c) (.tup [.c (.p (.tz true 0 [] none)), .c (.p (.bool false))]) (hL00 room first en L lc F c) := by
  refine CallS.of noNG lWge.2 rfl (M.start (M.go rfl ?_))
  refine M.use trivial (first00_spec room first en L lc F c) [(0, 0), (1, 1), (2, 2), (3, 3)] rfl rfl rfl (by repeat' (first | exact True.intro | refine ⟨⟨_, _, _, rfl, rfl, rfl, WkO.rfl⟩, ?_⟩ | refine HeapOK.acc rfl rfl ?_ | refine HeapOK.es rfl rfl ?_)) rfl rfl ?_
  refine M.go rfl ?_
  refine M.dec rfl (fun _ => ?_) (fun hn => absurd (by decide) hn)
  refine M.go rfl ?_
  exact M.ret (M.go rfl (M.done (finQ.ret [(0, 0), (1, 1), (2, 2), (3, 3)] rfl rfl rfl (Wk.of rfl) (by repeat' (first | exact True.intro | refine ⟨⟨_, _, _, rfl, rfl, rfl, WkO.rfl⟩, ?_⟩ | refine HeapOK.acc rfl rfl ?_ | refine HeapOK.es rfl rfl ?_)))))
theorem first10_spec (room first en : Int) (L : FS) (lc : Nat) (F : FS) (c : Nat) (w : PC) (W : List PC) : CallS Try.prog base 31 [.c (.ptr 0 0)] (hL10 4 room first en L lc F c w W) (.c (.p (.int .i64 0))) (hL10 4 room first en L lc F c w W) := by
  refine CallS.of noNG lWfi.2 rfl (M.start (M.go rfl ?_))
  refine M.cond rfl (fun _ => ?_) (fun hn => absurd (by simp) hn)
  refine M.go rfl ?_
  exact M.ret (M.go rfl (M.done (finQ.ret [(0, 0), (1, 1), (2, 2), (3, 3), (4, 4)] rfl rfl rfl (by first | exact Wk.rfl | exact Wk.uncap | exact Wk.nil | exact Wk.b1 rfl | exact Wk.t2 Wk.rfl (Wk.b1 rfl)) (by repeat' (first | exact True.intro | refine ⟨⟨_, _, _, rfl, rfl, rfl, WkO.rfl⟩, ?_⟩ | refine HeapOK.acc rfl rfl ?_ | refine HeapOK.es rfl rfl ?_)))))
theorem get10_spec (room first en : Int) (L : FS) (lc : Nat) (F : FS) (c : Nat) (w : PC) (W : List PC) (n : Int) : CallS Try.prog base 26 [.c (.ptr 0 0), .c (.p (.int .i64 n))] (hL10 4 room first en L lc F c w W) (.tup [.c (.p (.tz true 0 [] none)), .c (.p (.bool false))]) (hL10 4 room first en L lc F c w W) := by
  refine CallS.of noNG lWge.2 rfl (M.start (M.go rfl ?_))
  refine M.use trivial (first10_spec room first en L lc F c w W) [(0, 0), (1, 1), (2, 2), (3, 3), (4, 4)] rfl rfl rfl (by repeat' (first | exact True.intro | refine ⟨⟨_, _, _, rfl, rfl, rfl, WkO.rfl⟩, ?_⟩ | refine HeapOK.acc rfl rfl ?_ | refine HeapOK.es rfl rfl ?_)) rfl rfl ?_
  refine M.go rfl ?_
  refine M.dec rfl (fun _ => ?_) (fun hn => absurd (by decide) hn)
  refine M.go rfl ?_
  exact M.ret (M.go rfl (M.done (finQ.ret [(0, 0), (1, 1), (2, 2), (3, 3), (4, 4)] rfl rfl rfl (Wk.of rfl) (by repeat' (first | exact True.intro | refine ⟨⟨_, _, _, rfl, rfl, rfl, WkO.rfl⟩, ?_⟩ | refine HeapOK.acc rfl rfl ?_ | refine HeapOK.es rfl rfl ?_)))))
theorem guntil1_err (room first en : Int) (o m : Nat) (L : FS) (lc : Nat) (F : FS) (c : Nat) (w : PC) (W : List PC) (X Y : List PC) (n : Int) (hn : n < 1) : CallS Try.prog base 29 [.c (.ptr 0 0), .c (.p (.int .i64 n))] (hG1 4 5 6 7 room first en o m L lc F c w W X Y) (.c (.p (.int .i64 1))) (hG1 4 5 6 7 room first en o m L lc F c w W X Y) := by
  refine CallS.of noNG lWun.2 rfl (M.start (M.go rfl ?_))
  refine M.cond rfl (fun _ => ?_) (fun hn => absurd (by omega) hn)
  refine M.go rfl ?_
  exact M.ret (M.go rfl (M.done (finQ.ret [(0, 0), (1, 1), (2, 2), (3, 3), (4, 4), (5, 5), (6, 6)] rfl rfl rfl (by first | exact Wk.rfl | exact Wk.uncap | exact Wk.nil | exact Wk.b1 rfl | exact Wk.t2 Wk.rfl (Wk.b1 rfl)) (by repeat' (first | exact True.intro | refine ⟨⟨_, _, _, rfl, rfl, rfl, WkO.rfl⟩, ?_⟩ | refine HeapOK.acc rfl rfl ?_ | refine HeapOK.es rfl rfl ?_)))))
end Go.Proofs.Ytjlfojgacnphmaa

namespace Go.Proofs.Ytjlfojgacnphmaa.Sym
open Go Go.RowKit Go.Proofs.Ytjlfojgacnphmaa.Sim
section
variable {P : Program} {base n k : Nat} {e : Env} {h : HS} {Q : QX} {K : List Fr}
theorem M.cut1 {ι : Type} {op : LOp} {l : List LOp} (E : ι → Env) (H : ι → HS) (Φ : ι → Prop) (hx : (∀ i, Φ i → M P base n k (.ops l) K (E i) (H i) Q) → M P base n k (.ops (op :: l)) K e h Q) (hq : ∀ i, Φ i → M P base n k (.ops l) K (E i) (H i) Q) : M P base n k (.ops (op :: l)) K e h Q := hx hq
end
end Go.Proofs.Ytjlfojgacnphmaa.Sym
namespace Go.Proofs.Ytjlfojgacnphmaa
open Go.RowKit Sim Go Sym
set_option maxRecDepth 100000
set_option linter.unusedVariables false
set_option linter.unusedSimpArgs false
variable {base : Nat}
noncomputable def lWen : {F : LF // lowerF Try.prog 8 = some F} := ⟨_, rfl⟩
def rE : Nat → List (List Int)
  | 0 => []
  | k + 1 => rE k ++ [[(k : Int), 7]]
theorem rE_len : ∀ k, (rE k).length = k
  | 0 => rfl
  | k + 1 => by rw [rE, List.length_append, rE_len k]; rfl
theorem rE_at : ∀ k i, i < k → (rE k)[i]? = some [(i : Int), 7]
  | k + 1, i, h => by
    by_cases e : i = k
    · subst e; rw [rE, List.getElem?_append_right (by rw [rE_len]; omega), rE_len, Nat.sub_self]; rfl
    · rw [rE, List.getElem?_append_left (by rw [rE_len]; omega), rE_at k i (by omega)]
theorem rE_mem : ∀ k, k ≤ 200 → ∀ b ∈ rE k, Bytes b ∧ b.length = 2
  | 0, _, b, h => by cases h
  | k + 1, hk, b, h => by
    rw [rE, List.mem_append] at h
    rcases h with h | h
    · exact rE_mem k (by omega) b h
    · simp only [List.mem_singleton] at h
      subst h
      exact ⟨fun x hx => by simp at hx; omega, rfl⟩
theorem rE_ok (f : Int) (hf : 1 ≤ f ∧ f ≤ 2000000000000) (k : Nat) (hk : k ≤ 200) : RecOK f (rE k) := ⟨⟨hf.1, by rw [rE_len]; omega⟩, by rw [rE_len]; omega, fun b hb => ⟨(rE_mem k hk b hb).1, by have := (rE_mem k hk b hb).2; omega⟩⟩
def fE (f : Int) (k : Nat) : List Int := flatR f (rE k)
def slE (f : Int) (k : Nat) : List Int := sealB (recB (f + k) [(k : Int), 7])
theorem fE_succ (f : Int) (k : Nat) : fE f (k + 1) = fE f k ++ slE f k := by rw [fE, rE, flatR_app, rE_len]; rfl
theorem slE_len (f : Int) (hf : 1 ≤ f ∧ f ≤ 2000000000000) (k : Nat) (hk : k ≤ 200) : 8 ≤ (slE f k).length ∧ (slE f k).length ≤ 30 := by
  have h1 := numB_len (n := f + k) (by omega) (by omega)
  have h2 : (recB (f + k) [(k : Int), 7]).length = (numB (f + k)).length + 2 := by simp [recB]
  rw [slE, seal_len (by omega)]
  omega
theorem fE_len (f : Int) (hf : 1 ≤ f ∧ f ≤ 2000000000000) : ∀ k, k ≤ 200 → (fE f k).length ≤ 30 * k
  | 0, _ => by simp [fE, rE, flatR]
  | k + 1, h => by
    have := fE_len f hf k (by omega)
    have := slE_len f hf k (by omega)
    rw [fE_succ, List.length_append]
    omega
theorem posE_succ (f : Int) (k : Nat) : posR 0 f (rE (k + 1)) = posR 0 f (rE k) ++ [.int .i64 ((fE f k).length : Nat)] := by rw [rE, posR_app, Int.zero_add]; rfl
theorem rcsE_succ (k : Nat) : rcsP (rE (k + 1)) = rcsP (rE k) ++ [fP false [(k : Int), 7] none] := by rw [rE]; simp [rcsP, rcP]
def wE (B : List Int) (cp : Option Nat) : FS := f1 [119] (fP false B cp)
theorem wE_used (B : List Int) (cp : Option Nat) : usedN (wE B cp) = B.length := by simp [usedN, wE, f1, lenP, fP, u8P_len]
theorem wE_do (f : Int) (hf : 1 ≤ f ∧ f ≤ 2000000000000) (k : Nat) (hk : k ≤ 200) : CallS Try.prog base 66 [.c (.mp 0), .agg ((chX 0 [119] [] (fP false (slE f k) none) 0).map XC.p), .c (.p (.int .i64 (slE f k).length))] ⟨[(0, some (fM (wE (fE f k) none) 1))], 1⟩ (.tup []) ⟨[(0, some (fM (wE (fE f (k + 1)) none) 1))], 1⟩ := by
  have h2 := slE_len f hf k hk
  have h3 := fE_len f hf k hk
  have := do_app (base := base) (wE (fE f k) none) 1 [119] [] 0 false (fE f k) none rfl false (slE f k) none _ (Nat.le_refl _) (by omega) (by omega)
  rw [List.take_length, apF_ne (by intro e; rw [e] at h2; simp at h2), ← fE_succ] at this
  exact this
theorem wE_do0 (f : Int) (hf : 1 ≤ f ∧ f ≤ 2000000000000) : CallS Try.prog base 66 [.c (.mp 0), .agg ((chX 0 [119] [] (fP false (slE f 0) none) 0).map XC.p), .c (.p (.int .i64 (slE f 0).length))] ⟨[(0, some (fM [] 0))], 1⟩ (.tup []) ⟨[(0, some (fM (wE (fE f 1) none) 1))], 1⟩ := by
  have h2 := slE_len f hf 0 (by omega)
  have := do_first (base := base) [119] [] 0 false (slE f 0) none (by omega) (by intro e; rw [e] at h2; simp at h2)
  have e : fE f 1 = slE f 0 := by rw [fE_succ]; rfl
  rw [wE, e]
  exact this
structure EI where
  fi : Int
  en : Int
  o : Nat
  m : Nat
  F : FS
  c : Nat
  w : PC
  W : List PC
  X : List PC
  Y : List PC
def hEg (i : EI) : HS := ⟨[(6, some (.els 1 i.Y)), (5, some (.els 1 i.X)), (4, some (.els 5 (i.w :: i.W))), (3, some (.row [.ptr 0 0, .p (.int .i64 i.fi), .sl 5 i.o i.m 1 none, .sl 6 i.o i.m 1 none, .p (.int .i64 i.en)] true)), (2, some (fM i.F i.c)), (1, some (fM [] 0)), (0, some (.row [.p (.int .i64 mB), .mp 1, .mp 2, .acc 4 5 (i.w :: i.W)] true))], 7⟩
def enE (f : Int) (N a u : Nat) : Env := [(0, .c (.p (.int .i64 f))), (1, .c (.p (.int .i64 N))), (2, .c (.p (.int .i64 a))), (3, .c (.p (.int .i64 u))), (10, .c (.ptr 0 0)), (11, .c (.ptr 3 0))]
def enS (f : Int) (k : Nat) (w : PC) (W : List PC) : EI := ⟨f, ((fE f k).length : Nat), 0, k, wE (fE f k) none, 1, w, W, rcsP (rE k), posR 0 f (rE k)⟩
theorem u8w {n : Int} (h0 : 0 ≤ n) (h : n < 256) : IntKind.u8.wrap n = n := by
  have e : IntKind.u8.wrap n = n % 256 := by simp [IntKind.wrap, IntKind.bits, IntKind.signed]
  rw [e]
  omega
theorem ends_loop (f : Int) (hf : 1 ≤ f ∧ f ≤ 2000000000000) (N a u : Nat) (hN : N ≤ 100) (Q : QX) (hq : ∀ w W, W.length ≤ N → Q (.exit 0) (enE f N a u) (hEg (enS f N w W))) :
    ∀ (rem k : Nat) (w : PC) (W : List PC), k + rem = N → 0 < k → W.length ≤ k → XH Try.prog base lWen.1.n 0 (lWen.1.c.lp 0) (enE f N a u ++ [(13, .c (.p (.int .i64 k)))]) (hEg (enS f k w W)) Q := by
  intro rem
  induction rem with
  | zero =>
    intro k w W hk h0 hW
    obtain rfl : N = k := by omega
    refine M.round (M.go rfl ?_)
    refine M.cond rfl (fun hn => absurd hn (by omega)) (fun _ => ?_)
    refine M.ren [(0, 0), (1, 1), (2, 2), (3, 3), (4, 4), (5, 5), (6, 6)] ?_ trivial rfl (by repeat' (first | exact True.intro | refine ⟨⟨_, _, rfl, rfl, Wk.rfl⟩, ?_⟩ | refine ⟨⟨_, _, accV_ren rfl, rfl, Wk.rfl⟩, ?_⟩ | refine ⟨⟨_, _, accV_ren rfl, rfl, Wk.acc0⟩, ?_⟩ | refine ⟨⟨_, _, rfl, rfl, Wk.uncap⟩, ?_⟩ | refine ⟨⟨_, _, rfl, rfl, Wk.nil⟩, ?_⟩)) (by repeat' (first | exact True.intro | refine ⟨⟨_, _, _, rfl, rfl, rfl, WkO.rfl⟩, ?_⟩ | refine HeapOK.acc rfl rfl ?_ | refine HeapOK.es rfl rfl ?_)) (e' := enE f N a u) (h' := hEg (enS f N w W))
    exact M.exit (M.go rfl (M.done (hq w W hW)))
  | succ rem ih =>
    intro k w W hk h0 hW
    have h1 := fE_len f hf k (by omega)
    have h2 := slE_len f hf k (by omega)
    have hw : IntKind.i64.wrap ((k : Int) + 1) = ((k + 1 : Nat) : Int) := by rw [wr64 (by omega) (by omega)]; omega
    have hw2 : IntKind.i64.wrap (f + (k : Int)) = f + (k : Int) := wr64 (by omega) (by omega)
    have hw3 : IntKind.u8.wrap (k : Int) = (k : Int) := u8w (by omega) (by omega)
    refine M.round (M.go rfl ?_)
    refine M.cond rfl (fun _ => ?_) (fun hn => absurd (by omega) hn)
    refine M.go rfl ?_
    rw [hw2, hw3]
    refine M.freezeO (i := 72) rfl rfl rfl ?_
    have A := gapp1g1_spec (base := base) mB f ((fE f k).length : Nat) 0 k [] 0 (wE (fE f k) none) 1 w W (rcsP (rE k)) (posR 0 f (rE k)) (f + k) ⟨by omega, by omega⟩ rfl (by rw [rcsP_len, rE_len]; omega) (by rw [posR_len, rE_len]; omega) (by omega) h0 ⟨by omega, by omega⟩ (by omega) false [(k : Int), 7] (some 2) (rE_mem (k + 1) (by omega) _ (by rw [rE]; simp)).1 (by simp) ⟨by omega, by omega⟩ (f1_ok _ _ _ _) (by decide) (by rw [wE_used, mB_eq]; show (((fE f k).length + (slE f k).length : Nat) : Int) ≤ _; omega) (.inl rfl) _ _ (wE_do f hf k (by omega))
    have ih' := ih (k + 1) w (W ++ [chA (slE f k)]) (by omega) (by omega) (by simp; omega)
    have e2 : (((fE f k).length : Nat) : Int) + ((slE f k).length : Int) = ((fE f (k + 1)).length : Nat) := by rw [fE_succ, List.length_append]; omega
    rw [show sealB (recB (f + k) [(k : Int), 7]) = slE f k from rfl, List.drop_zero, List.drop_zero, e2, ← posE_succ, ← rcsE_succ] at A
    refine M.use trivial A [(0, 3), (1, 0), (2, 1), (3, 2), (4, 4), (5, 5), (6, 6)] rfl rfl rfl (by repeat' (first | exact True.intro | refine ⟨⟨_, _, _, rfl, rfl, rfl, WkO.rfl⟩, ?_⟩ | refine HeapOK.acc rfl rfl ?_ | refine HeapOK.es rfl rfl ?_)) rfl rfl ?_
    refine M.go rfl ?_
    refine M.condN rfl (fun hn => absurd rfl hn) (fun _ => ?_)
    refine M.go rfl ?_
    rw [hw]
    exact M.again (XH.ren [(0, 0), (1, 1), (2, 2), (3, 3), (4, 8), (5, 9), (6, 10)] ih' rfl (by repeat' (first | exact True.intro | refine ⟨⟨_, _, rfl, rfl, Wk.rfl⟩, ?_⟩ | refine ⟨⟨_, _, accV_ren rfl, rfl, Wk.rfl⟩, ?_⟩ | refine ⟨⟨_, _, accV_ren rfl, rfl, Wk.acc0⟩, ?_⟩ | refine ⟨⟨_, _, rfl, rfl, Wk.uncap⟩, ?_⟩ | refine ⟨⟨_, _, rfl, rfl, Wk.nil⟩, ?_⟩)) (by repeat' (first | exact True.intro | refine ⟨⟨_, _, _, rfl, rfl, rfl, WkO.rfl⟩, ?_⟩ | refine HeapOK.acc rfl rfl ?_ | refine HeapOK.es rfl rfl ?_)))
end Go.Proofs.Ytjlfojgacnphmaa

namespace Go.Proofs.Ytjlfojgacnphmaa
open Go.RowKit Sim Go Sym
set_option maxRecDepth 100000
set_option linter.unusedVariables false
set_option linter.unusedSimpArgs false
variable {base : Nat}
def enG (f : Int) (N K u : Nat) : Env := [(0, .c (.p (.int .i64 f))), (1, .c (.p (.int .i64 N))), (3, .c (.p (.int .i64 u))), (14, .c (.ptr 3 0)), (15, .c (.p (.int .i64 K)))]
theorem ends_loop2 (f : Int) (hf : 1 ≤ f ∧ f ≤ 2000000000000) (N K u m : Nat) (hN : N ≤ 100) (hu : u ≤ 100) (hK : K = u + (m + 1)) (hKN : K ≤ N) (en : Int) (L : FS) (lc : Nat) (F : FS) (c : Nat) (X Y : List PC) (hX : ∀ j, j ≤ m → X[j]? = some (fP false [((u + j : Nat) : Int), 7] none)) (Q : QX) (hq : Q (.exit 2) (enG f N K u) (hOG0 mB (f + u) en (m + 1) L lc F c X Y)) :
    ∀ (rem i : Nat), i + rem = N → XH Try.prog base lWen.1.n 0 (lWen.1.c.lp 1) (enG f N K u ++ [(16, .c (.p (.int .i64 i)))]) (hOG0 mB (f + u) en (m + 1) L lc F c X Y) Q := by
  intro rem
  induction rem with
  | zero =>
    intro i hi
    obtain rfl : N = i := by omega
    refine M.round (M.go rfl ?_)
    refine M.cond rfl (fun hn => absurd hn (by omega)) (fun _ => ?_)
    refine M.ren [(0, 0), (1, 1), (2, 2), (3, 3), (4, 4), (5, 5)] ?_ trivial rfl (by repeat' (first | exact True.intro | refine ⟨⟨_, _, rfl, rfl, Wk.rfl⟩, ?_⟩ | refine ⟨⟨_, _, accV_ren rfl, rfl, Wk.rfl⟩, ?_⟩ | refine ⟨⟨_, _, accV_ren rfl, rfl, Wk.acc0⟩, ?_⟩ | refine ⟨⟨_, _, rfl, rfl, Wk.uncap⟩, ?_⟩ | refine ⟨⟨_, _, rfl, rfl, Wk.nil⟩, ?_⟩)) (by repeat' (first | exact True.intro | refine ⟨⟨_, _, _, rfl, rfl, rfl, WkO.rfl⟩, ?_⟩ | refine HeapOK.acc rfl rfl ?_ | refine HeapOK.es rfl rfl ?_)) (e' := enG f N K u) (h' := hOG0 mB (f + u) en (m + 1) L lc F c X Y)
    exact M.exit (M.go rfl (M.done hq))
  | succ rem ih =>
    intro i hi
    have ih' := ih (i + 1) (by omega)
    have hw : IntKind.i64.wrap ((i : Int) + 1) = ((i + 1 : Nat) : Int) := by rw [wr64 (by omega) (by omega)]; omega
    have hw2 : IntKind.i64.wrap (f + (i : Int)) = f + (i : Int) := wr64 (by omega) (by omega)
    have hw3 : IntKind.u8.wrap (i : Int) = (i : Int) := u8w (by omega) (by omega)
    refine M.round (M.go rfl ?_)
    refine M.cond rfl (fun _ => ?_) (fun hn => absurd (by omega) hn)
    refine M.go rfl ?_
    rw [hw2]
    by_cases h1 : u ≤ i ∧ i < K
    · have hXi := hX (i - u) (by omega)
      rw [show u + (i - u) = i by omega] at hXi
      refine M.use trivial (gget0_y mB (f + u) en 0 m L lc F c X Y (by omega) ⟨by omega, by omega⟩ (i - u) (by omega) (f + (i : Int)) (by omega) false [(i : Int), 7] none (by rw [Nat.zero_add]; exact hXi) (by simp)) [(0, 3), (1, 0), (2, 1), (3, 2), (4, 4), (5, 5)] rfl rfl rfl (by repeat' (first | exact True.intro | refine ⟨⟨_, _, _, rfl, rfl, rfl, WkO.rfl⟩, ?_⟩ | refine HeapOK.acc rfl rfl ?_ | refine HeapOK.es rfl rfl ?_)) rfl rfl ?_
      refine M.go rfl ?_
      refine M.dec rfl (fun _ => ?_) (fun hn => absurd (by omega) hn)
      refine M.go rfl ?_
      refine M.decB rfl (fun hn => absurd hn (by simp; omega)) (fun _ => ?_)
      refine M.go rfl ?_
      refine M.dec rfl (fun _ => ?_) (fun hn => absurd (by omega) hn)
      refine M.go rfl ?_
      refine M.decN rfl (fun hn => absurd rfl hn) (fun _ => ?_)
      refine M.go rfl ?_
      refine M.op (by first | exact True.intro | exact rfl) (SOp.ia rfl rfl (by omega) (u := .int .u8 (i : Int)) rfl) ?_
      refine M.op (by first | exact True.intro | exact rfl) (SOp.ld1e rfl (u := .int .u8 (i : Int)) rfl rfl rfl rfl) ?_
      refine M.go rfl ?_
      rw [hw3]
      refine M.condN rfl (fun hn => absurd rfl hn) (fun _ => ?_)
      refine M.go rfl ?_
      rw [hw]
      exact M.again (XH.ren [(0, 0), (1, 1), (2, 2), (3, 3), (4, 4), (5, 5)] ih' rfl (by repeat' (first | exact True.intro | refine ⟨⟨_, _, rfl, rfl, Wk.rfl⟩, ?_⟩ | refine ⟨⟨_, _, accV_ren rfl, rfl, Wk.rfl⟩, ?_⟩ | refine ⟨⟨_, _, accV_ren rfl, rfl, Wk.acc0⟩, ?_⟩ | refine ⟨⟨_, _, rfl, rfl, Wk.uncap⟩, ?_⟩ | refine ⟨⟨_, _, rfl, rfl, Wk.nil⟩, ?_⟩)) (by repeat' (first | exact True.intro | refine ⟨⟨_, _, _, rfl, rfl, rfl, WkO.rfl⟩, ?_⟩ | refine HeapOK.acc rfl rfl ?_ | refine HeapOK.es rfl rfl ?_)))
    · refine M.use trivial (gget0_n mB (f + u) en 0 m L lc F c X Y (by omega) ⟨by omega, by omega⟩ (f + (i : Int)) (by omega)) [(0, 3), (1, 0), (2, 1), (3, 2), (4, 4), (5, 5)] rfl rfl rfl (by repeat' (first | exact True.intro | refine ⟨⟨_, _, _, rfl, rfl, rfl, WkO.rfl⟩, ?_⟩ | refine HeapOK.acc rfl rfl ?_ | refine HeapOK.es rfl rfl ?_)) rfl rfl ?_
      refine M.go rfl ?_
      refine M.dec rfl (fun h2 => ?_) (fun h2 => ?_)
      · refine M.go rfl ?_
        refine M.decB rfl (fun hn => absurd hn (by simp; omega)) (fun _ => ?_)
        refine M.go rfl ?_
        refine M.dec rfl (fun hn => absurd hn (by omega)) (fun _ => ?_)
        refine M.go rfl ?_
        rw [hw]
        exact M.again (XH.ren [(0, 0), (1, 1), (2, 2), (3, 3), (4, 4), (5, 5)] ih' rfl (by repeat' (first | exact True.intro | refine ⟨⟨_, _, rfl, rfl, Wk.rfl⟩, ?_⟩ | refine ⟨⟨_, _, accV_ren rfl, rfl, Wk.rfl⟩, ?_⟩ | refine ⟨⟨_, _, accV_ren rfl, rfl, Wk.acc0⟩, ?_⟩ | refine ⟨⟨_, _, rfl, rfl, Wk.uncap⟩, ?_⟩ | refine ⟨⟨_, _, rfl, rfl, Wk.nil⟩, ?_⟩)) (by repeat' (first | exact True.intro | refine ⟨⟨_, _, _, rfl, rfl, rfl, WkO.rfl⟩, ?_⟩ | refine HeapOK.acc rfl rfl ?_ | refine HeapOK.es rfl rfl ?_)))
      · refine M.go rfl ?_
        refine M.decB rfl (fun hn => absurd hn (by decide)) (fun _ => ?_)
        refine M.go rfl ?_
        rw [hw]
        exact M.again (XH.ren [(0, 0), (1, 1), (2, 2), (3, 3), (4, 4), (5, 5)] ih' rfl (by repeat' (first | exact True.intro | refine ⟨⟨_, _, rfl, rfl, Wk.rfl⟩, ?_⟩ | refine ⟨⟨_, _, accV_ren rfl, rfl, Wk.rfl⟩, ?_⟩ | refine ⟨⟨_, _, accV_ren rfl, rfl, Wk.acc0⟩, ?_⟩ | refine ⟨⟨_, _, rfl, rfl, Wk.uncap⟩, ?_⟩ | refine ⟨⟨_, _, rfl, rfl, Wk.nil⟩, ?_⟩)) (by repeat' (first | exact True.intro | refine ⟨⟨_, _, _, rfl, rfl, rfl, WkO.rfl⟩, ?_⟩ | refine HeapOK.acc rfl rfl ?_ | refine HeapOK.es rfl rfl ?_)))
theorem ends_loop0 (f : Int) (hf : 1 ≤ f ∧ f ≤ 2000000000000) (N K u : Nat) (hN : N ≤ 100) (hK : K ≤ u) (first en : Int) (L : FS) (lc : Nat) (F : FS) (c : Nat) (Q : QX) (hq : Q (.exit 2) (enG f N K u) (hO0 mB first en L lc F c)) :
    ∀ (rem i : Nat), i + rem = N → XH Try.prog base lWen.1.n 0 (lWen.1.c.lp 1) (enG f N K u ++ [(16, .c (.p (.int .i64 i)))]) (hO0 mB first en L lc F c) Q := by
  intro rem
  induction rem with
  | zero =>
    intro i hi
    obtain rfl : N = i := by omega
    refine M.round (M.go rfl ?_)
    refine M.cond rfl (fun hn => absurd hn (by omega)) (fun _ => ?_)
    refine M.ren [(0, 0), (1, 1), (2, 2), (3, 3)] ?_ trivial rfl (by repeat' (first | exact True.intro | refine ⟨⟨_, _, rfl, rfl, Wk.rfl⟩, ?_⟩ | refine ⟨⟨_, _, accV_ren rfl, rfl, Wk.rfl⟩, ?_⟩ | refine ⟨⟨_, _, accV_ren rfl, rfl, Wk.acc0⟩, ?_⟩ | refine ⟨⟨_, _, rfl, rfl, Wk.uncap⟩, ?_⟩ | refine ⟨⟨_, _, rfl, rfl, Wk.nil⟩, ?_⟩)) (by repeat' (first | exact True.intro | refine ⟨⟨_, _, _, rfl, rfl, rfl, WkO.rfl⟩, ?_⟩ | refine HeapOK.acc rfl rfl ?_ | refine HeapOK.es rfl rfl ?_)) (e' := enG f N K u) (h' := hO0 mB first en L lc F c)
    exact M.exit (M.go rfl (M.done hq))
  | succ rem ih =>
    intro i hi
    have ih' := ih (i + 1) (by omega)
    have hw : IntKind.i64.wrap ((i : Int) + 1) = ((i + 1 : Nat) : Int) := by rw [wr64 (by omega) (by omega)]; omega
    have hw2 : IntKind.i64.wrap (f + (i : Int)) = f + (i : Int) := wr64 (by omega) (by omega)
    refine M.round (M.go rfl ?_)
    refine M.cond rfl (fun _ => ?_) (fun hn => absurd (by omega) hn)
    refine M.go rfl ?_
    rw [hw2]
    refine M.use trivial (get00_spec mB first en L lc F c (f + (i : Int))) [(0, 3), (1, 0), (2, 1), (3, 2)] rfl rfl rfl (by repeat' (first | exact True.intro | refine ⟨⟨_, _, _, rfl, rfl, rfl, WkO.rfl⟩, ?_⟩ | refine HeapOK.acc rfl rfl ?_ | refine HeapOK.es rfl rfl ?_)) rfl rfl ?_
    refine M.go rfl ?_
    refine M.dec rfl (fun h2 => ?_) (fun h2 => ?_)
    · refine M.go rfl ?_
      refine M.decB rfl (fun hn => absurd hn (by simp; omega)) (fun _ => ?_)
      refine M.go rfl ?_
      refine M.dec rfl (fun hn => absurd hn (by omega)) (fun _ => ?_)
      refine M.go rfl ?_
      rw [hw]
      exact M.again (XH.ren [(0, 0), (1, 1), (2, 2), (3, 3)] ih' rfl (by repeat' (first | exact True.intro | refine ⟨⟨_, _, rfl, rfl, Wk.rfl⟩, ?_⟩ | refine ⟨⟨_, _, accV_ren rfl, rfl, Wk.rfl⟩, ?_⟩ | refine ⟨⟨_, _, accV_ren rfl, rfl, Wk.acc0⟩, ?_⟩ | refine ⟨⟨_, _, rfl, rfl, Wk.uncap⟩, ?_⟩ | refine ⟨⟨_, _, rfl, rfl, Wk.nil⟩, ?_⟩)) (by repeat' (first | exact True.intro | refine ⟨⟨_, _, _, rfl, rfl, rfl, WkO.rfl⟩, ?_⟩ | refine HeapOK.acc rfl rfl ?_ | refine HeapOK.es rfl rfl ?_)))
    · refine M.go rfl ?_
      refine M.decB rfl (fun hn => absurd hn (by decide)) (fun _ => ?_)
      refine M.go rfl ?_
      rw [hw]
      exact M.again (XH.ren [(0, 0), (1, 1), (2, 2), (3, 3)] ih' rfl (by repeat' (first | exact True.intro | refine ⟨⟨_, _, rfl, rfl, Wk.rfl⟩, ?_⟩ | refine ⟨⟨_, _, accV_ren rfl, rfl, Wk.rfl⟩, ?_⟩ | refine ⟨⟨_, _, accV_ren rfl, rfl, Wk.acc0⟩, ?_⟩ | refine ⟨⟨_, _, rfl, rfl, Wk.uncap⟩, ?_⟩ | refine ⟨⟨_, _, rfl, rfl, Wk.nil⟩, ?_⟩)) (by repeat' (first | exact True.intro | refine ⟨⟨_, _, _, rfl, rfl, rfl, WkO.rfl⟩, ?_⟩ | refine HeapOK.acc rfl rfl ?_ | refine HeapOK.es rfl rfl ?_)))
end Go.Proofs.Ytjlfojgacnphmaa

namespace Go.Proofs.Ytjlfojgacnphmaa
open Go.RowKit Sim Go Sym
set_option maxRecDepth 100000
set_option linter.unusedVariables false
set_option linter.unusedSimpArgs false
variable {base : Nat}
def lfE (N a u : Nat) : List (List Int) := ((rE N).take a).drop u
def okE (f : Int) (N a u : Nat) (i : EI) : Prop := ∃ zF cp, findP [119] i.F = some (fP zF (flatR (f + u) (lfE N a u)) cp) ∧ findP frN i.F = none
def enF (f : Int) (N K : Nat) (j : Option Nat × PC × List PC) : EI := ⟨f, ((flatR f ((rE N).take K)).length : Nat), 0, K, wE (flatR f ((rE N).take K)) j.1, 1, j.2.1, j.2.2, rcsP (rE N), posR 0 f (rE N)⟩
theorem rE_all (N : Nat) : (rE N).take N = rE N := List.take_of_length_le (by rw [rE_len]; omega)
theorem lfE_K {N a K : Nat} (u : Nat) (hK : K = min a (N + 1)) : lfE (N + 1) a u = ((rE (N + 1)).take K).drop u := by
  rw [lfE, hK]
  by_cases h : a ≤ N + 1
  · rw [show min a (N + 1) = a by omega]
  · rw [show min a (N + 1) = N + 1 by omega, rE_all, List.take_of_length_le (by rw [rE_len]; omega)]
theorem back_eq (R : List (List Int)) (f : Int) {u K : Nat} (h : u ≤ K) (hK : K ≤ R.length) : ((flatR f (R.take K)).drop (flatR f (R.take u)).length).take ((flatR f (R.take K)).length - (flatR f (R.take u)).length) = flatR (f + u) ((R.take K).drop u) := by
  have h1 : R.take u = (R.take K).take u := by rw [List.take_take, show min u K = u by omega]
  have h2 := flatR_drop (R.take K) f u (by rw [List.length_take]; omega)
  rw [h1, h2, List.take_of_length_le]
  rw [← h2, List.length_drop]
  omega
theorem WalEnds_spec (f n a u : Int) : CallS Try.prog base 8 [.c (.p (.int .i64 f)), .c (.p (.int .i64 n)), .c (.p (.int .i64 a)), .c (.p (.int .i64 u))] ⟨[], 0⟩ (.c (.p (.bool true))) ⟨[], 0⟩ := by
  refine CallS.of noNG lWen.2 rfl (M.start (M.go rfl ?_))
  refine M.use0 trivial begun4_spec rfl rfl rfl ?_
  refine M.go rfl ?_
  refine M.dec rfl (fun h1 => ?_) (fun h1 => ?_)
  · refine M.go rfl ?_
    exact M.ret (M.go rfl (M.done (finQ.ret [] rfl rfl rfl (by first | exact Wk.rfl | exact Wk.uncap | exact Wk.nil | exact Wk.b1 rfl | exact Wk.t2 Wk.rfl (Wk.b1 rfl)) (by repeat' (first | exact True.intro | refine ⟨⟨_, _, _, rfl, rfl, rfl, WkO.rfl⟩, ?_⟩ | refine HeapOK.acc rfl rfl ?_ | refine HeapOK.es rfl rfl ?_)))))
  refine M.go rfl ?_
  refine M.dec rfl (fun h2 => ?_) (fun h2 => ?_)
  · refine M.go rfl ?_
    exact M.ret (M.go rfl (M.done (finQ.ret [] rfl rfl rfl (by first | exact Wk.rfl | exact Wk.uncap | exact Wk.nil | exact Wk.b1 rfl | exact Wk.t2 Wk.rfl (Wk.b1 rfl)) (by repeat' (first | exact True.intro | refine ⟨⟨_, _, _, rfl, rfl, rfl, WkO.rfl⟩, ?_⟩ | refine HeapOK.acc rfl rfl ?_ | refine HeapOK.es rfl rfl ?_)))))
  refine M.go rfl ?_
  refine M.dec rfl (fun h3 => ?_) (fun h3 => ?_)
  · refine M.go rfl ?_
    exact M.ret (M.go rfl (M.done (finQ.ret [] rfl rfl rfl (by first | exact Wk.rfl | exact Wk.uncap | exact Wk.nil | exact Wk.b1 rfl | exact Wk.t2 Wk.rfl (Wk.b1 rfl)) (by repeat' (first | exact True.intro | refine ⟨⟨_, _, _, rfl, rfl, rfl, WkO.rfl⟩, ?_⟩ | refine HeapOK.acc rfl rfl ?_ | refine HeapOK.es rfl rfl ?_)))))
  refine M.go rfl ?_
  refine M.dec rfl (fun h4 => ?_) (fun h4 => ?_)
  · refine M.go rfl ?_
    exact M.ret (M.go rfl (M.done (finQ.ret [] rfl rfl rfl (by first | exact Wk.rfl | exact Wk.uncap | exact Wk.nil | exact Wk.b1 rfl | exact Wk.t2 Wk.rfl (Wk.b1 rfl)) (by repeat' (first | exact True.intro | refine ⟨⟨_, _, _, rfl, rfl, rfl, WkO.rfl⟩, ?_⟩ | refine HeapOK.acc rfl rfl ?_ | refine HeapOK.es rfl rfl ?_)))))
  refine M.go rfl ?_
  refine M.dec rfl (fun h5 => ?_) (fun h5 => ?_)
  · refine M.go rfl ?_
    exact M.ret (M.go rfl (M.done (finQ.ret [] rfl rfl rfl (by first | exact Wk.rfl | exact Wk.uncap | exact Wk.nil | exact Wk.b1 rfl | exact Wk.t2 Wk.rfl (Wk.b1 rfl)) (by repeat' (first | exact True.intro | refine ⟨⟨_, _, _, rfl, rfl, rfl, WkO.rfl⟩, ?_⟩ | refine HeapOK.acc rfl rfl ?_ | refine HeapOK.es rfl rfl ?_)))))
  refine M.go rfl ?_
  refine M.dec rfl (fun h6 => ?_) (fun h6 => ?_)
  · refine M.go rfl ?_
    exact M.ret (M.go rfl (M.done (finQ.ret [] rfl rfl rfl (by first | exact Wk.rfl | exact Wk.uncap | exact Wk.nil | exact Wk.b1 rfl | exact Wk.t2 Wk.rfl (Wk.b1 rfl)) (by repeat' (first | exact True.intro | refine ⟨⟨_, _, _, rfl, rfl, rfl, WkO.rfl⟩, ?_⟩ | refine HeapOK.acc rfl rfl ?_ | refine HeapOK.es rfl rfl ?_)))))
  refine M.go rfl ?_
  refine M.dec rfl (fun h7 => ?_) (fun h7 => ?_)
  · refine M.go rfl ?_
    exact M.ret (M.go rfl (M.done (finQ.ret [] rfl rfl rfl (by first | exact Wk.rfl | exact Wk.uncap | exact Wk.nil | exact Wk.b1 rfl | exact Wk.t2 Wk.rfl (Wk.b1 rfl)) (by repeat' (first | exact True.intro | refine ⟨⟨_, _, _, rfl, rfl, rfl, WkO.rfl⟩, ?_⟩ | refine HeapOK.acc rfl rfl ?_ | refine HeapOK.es rfl rfl ?_)))))
  refine M.go rfl ?_
  refine M.cond rfl (fun h8 => ?_) (fun h8 => ?_)
  · refine M.go rfl ?_
    exact M.ret (M.go rfl (M.done (finQ.ret [] rfl rfl rfl (by first | exact Wk.rfl | exact Wk.uncap | exact Wk.nil | exact Wk.b1 rfl | exact Wk.t2 Wk.rfl (Wk.b1 rfl)) (by repeat' (first | exact True.intro | refine ⟨⟨_, _, _, rfl, rfl, rfl, WkO.rfl⟩, ?_⟩ | refine HeapOK.acc rfl rfl ?_ | refine HeapOK.es rfl rfl ?_)))))
  obtain ⟨N, rfl⟩ : ∃ N : Nat, n = (N + 1 : Nat) := ⟨(n - 1).toNat, by omega⟩
  obtain ⟨a, rfl⟩ : ∃ N : Nat, a = N := ⟨a.toNat, by omega⟩
  obtain ⟨u, rfl⟩ : ∃ N : Nat, u = N := ⟨u.toNat, by omega⟩
  have hf2 : 1 ≤ f ∧ f ≤ 2000000000000 := ⟨by omega, by omega⟩
  have s0 := slE_len f hf2 0 (by omega)
  refine M.go rfl ?_
  refine M.use trivial (dnew_spec 1048576) [] rfl rfl rfl trivial rfl rfl ?_
  refine M.go rfl ?_
  refine M.use trivial (wopen_empty mB [] 0 [] 0 rfl rfl) [(0, 0), (1, 1), (2, 2)] rfl rfl rfl (by repeat' (first | exact True.intro | refine ⟨⟨_, _, _, rfl, rfl, rfl, WkO.rfl⟩, ?_⟩ | refine HeapOK.acc rfl rfl ?_ | refine HeapOK.es rfl rfl ?_)) rfl rfl ?_
  refine M.go rfl ?_
  refine M.condN rfl (fun hn => absurd rfl hn) (fun _ => ?_)
  refine M.go rfl ?_
  refine M.loop (M.round (M.go rfl ?_))
  refine M.cond rfl (fun _ => ?_) (fun hn => absurd (by omega) hn)
  refine M.go rfl ?_
  rw [Int.add_zero, wr64 (n := f) (by omega) (by omega)]
  refine M.freezeO (i := 72) rfl rfl rfl ?_
  have e0 : sealB (recB f [(0 : Int), 7]) = slE f 0 := by rw [slE, Int.natCast_zero, Int.add_zero]
  have A := wappend00_spec (base := base) mB 0 0 [] 0 [] 0 f (by omega) false [(0 : Int), 7] (some 2) (rE_mem 1 (by omega) _ (by simp [rE])).1 (by simp) (by omega) (f0_ok 0) (by decide) (by rw [mB_eq]; show ((0 + (sealB (recB f [(0 : Int), 7])).length : Nat) : Int) ≤ _; rw [e0]; omega) (.inr (by simp)) (wE (fE f 1) none) 1 (by
    have := wE_do0 (base := base) f hf2
    rw [slE, Int.natCast_zero, Int.add_zero] at this
    exact this)
  have e2 : (0 : Int) + ((sealB (recB f [(0 : Int), 7])).length : Int) = ((fE f 1).length : Nat) := by rw [fE_succ f 0, slE, Int.natCast_zero, Int.add_zero]; simp [fE, rE, flatR]
  rw [e2] at A
  refine M.use trivial A [(0, 3), (1, 0), (2, 1), (3, 2)] rfl rfl rfl (by repeat' (first | exact True.intro | refine ⟨⟨_, _, _, rfl, rfl, rfl, WkO.rfl⟩, ?_⟩ | refine HeapOK.acc rfl rfl ?_ | refine HeapOK.es rfl rfl ?_)) rfl rfl ?_
  refine M.go rfl ?_
  refine M.condN rfl (fun hn => absurd rfl hn) (fun _ => ?_)
  refine M.go rfl ?_
  refine M.again (XH.ren [(0, 0), (1, 1), (2, 2), (3, 3), (4, 5), (5, 6), (6, 7)] (ends_loop f hf2 (N + 1) a u (by omega) _ (fun w W hW => ?_) N 1 _ [] (by omega) (by omega) (by simp)) rfl (by repeat' (first | exact True.intro | refine ⟨⟨_, _, rfl, rfl, Wk.rfl⟩, ?_⟩ | refine ⟨⟨_, _, accV_ren rfl, rfl, Wk.rfl⟩, ?_⟩ | refine ⟨⟨_, _, accV_ren rfl, rfl, Wk.acc0⟩, ?_⟩ | refine ⟨⟨_, _, rfl, rfl, Wk.uncap⟩, ?_⟩ | refine ⟨⟨_, _, rfl, rfl, Wk.nil⟩, ?_⟩)) ⟨⟨_, _, _, rfl, rfl, rfl, WkO.rfl⟩, ⟨_, _, _, rfl, rfl, rfl, WkO.rfl⟩, ⟨_, _, _, rfl, rfl, rfl, WkO.rfl⟩, ⟨_, _, _, rfl, rfl, rfl, WkO.row ⟨Wk.rfl, Wk.rfl, rowAcc rfl 1 _, rowAcc rfl 1 _, Wk.rfl, trivial⟩⟩, ⟨_, _, _, rfl, rfl, rfl, WkO.rfl⟩, ⟨_, _, _, rfl, rfl, rfl, WkO.rfl⟩, ⟨_, _, _, rfl, rfl, rfl, WkO.rfl⟩, trivial⟩)
  refine M.q (M.go rfl (M.done (M.q (M.go rfl ?_))))
  refine M.midPO (fun _ => (96, .c (.p (.bool false))) :: enE f (N + 1) a u) hEg (okE f (N + 1) a u) ?_ (fun i hi => ?_)
  · obtain ⟨K, hK⟩ : ∃ K, K = min a (N + 1) := ⟨_, rfl⟩
    rw [wr64 (n := f + (a : Int)) (by omega) (by omega)]
    refine M.cut1 (fun j => (79, .c (.p (.int .i64 0))) :: enE f (N + 1) a u) (fun j => hEg (enF f (N + 1) K j)) (fun j => j.2.2.length ≤ 200) (fun rest => ?_) (fun j hj => ?_)
    · by_cases hc : a ≤ N
      · obtain rfl : K = a := by omega
        have hp := posR_at (rE (N + 1)) 0 f K (by rw [rE_len]; omega)
        rw [Int.zero_add] at hp
        have A := gfrom1_y (base := base) mB f ((fE f (N + 1)).length : Nat) 0 N [] 0 (wE (fE f (N + 1)) none) 1 w W (rcsP (rE (N + 1))) (posR 0 f (rE (N + 1))) (f + (K : Int)) ⟨by omega, by omega⟩ (by omega) ⟨by omega, by omega⟩ (by omega) (by omega) K (flatR f ((rE (N + 1)).take K)).length (by rw [if_neg (by omega)]; omega) false (fE f (N + 1)) none rfl (flatR_le _ _ _) (by rw [Nat.zero_add]; exact hp)
        rw [cutF, show (fE f (N + 1)).take (flatR f ((rE (N + 1)).take K)).length = flatR f ((rE (N + 1)).take K) from flatR_take _ _ _] at A
        refine M.use trivial A [(0, 3), (1, 0), (2, 1), (3, 2), (4, 4), (5, 5), (6, 6)] rfl rfl rfl (by repeat' (first | exact True.intro | refine ⟨⟨_, _, _, rfl, rfl, rfl, WkO.rfl⟩, ?_⟩ | refine HeapOK.acc rfl rfl ?_ | refine HeapOK.es rfl rfl ?_)) rfl rfl ?_
        exact M.shO (Sh.ren [(0, 0), (1, 1), (2, 2), (3, 3), (4, 7), (5, 5), (6, 6)] rfl (by repeat' (first | exact True.intro | refine ⟨⟨_, _, rfl, rfl, Wk.rfl⟩, ?_⟩ | refine ⟨⟨_, _, accV_ren rfl, rfl, Wk.rfl⟩, ?_⟩ | refine ⟨⟨_, _, accV_ren rfl, rfl, Wk.acc0⟩, ?_⟩ | refine ⟨⟨_, _, rfl, rfl, Wk.uncap⟩, ?_⟩ | refine ⟨⟨_, _, rfl, rfl, Wk.nil⟩, ?_⟩)) (by repeat' (first | exact True.intro | refine ⟨⟨_, _, _, rfl, rfl, rfl, WkO.rfl⟩, ?_⟩ | refine HeapOK.acc rfl rfl ?_ | refine HeapOK.es rfl rfl ?_))) (rest (some (flatR f ((rE (N + 1)).take K)).length, w, W ++ [chC (flatR f ((rE (N + 1)).take K)).length]) (by simp; omega))
      · obtain rfl : K = N + 1 := by omega
        have r := rest (none, w, W) (by show W.length ≤ 200; omega)
        rw [show enF f (N + 1) (N + 1) (none, w, W) = enS f (N + 1) w W by simp only [enF, enS, rE_all, fE]] at r
        refine M.use trivial (gfrom1_n mB f ((fE f (N + 1)).length : Nat) 0 N [] 0 (wE (fE f (N + 1)) none) 1 w W (rcsP (rE (N + 1))) (posR 0 f (rE (N + 1))) (f + (a : Int)) (by omega) (by omega) ⟨by omega, by omega⟩ (by omega)) [(0, 3), (1, 0), (2, 1), (3, 2), (4, 4), (5, 5), (6, 6)] rfl rfl rfl (by repeat' (first | exact True.intro | refine ⟨⟨_, _, _, rfl, rfl, rfl, WkO.rfl⟩, ?_⟩ | refine HeapOK.acc rfl rfl ?_ | refine HeapOK.es rfl rfl ?_)) rfl rfl ?_
        exact M.shO (Sh.ren [(0, 0), (1, 1), (2, 2), (3, 3), (4, 4), (5, 5), (6, 6)] rfl (by repeat' (first | exact True.intro | refine ⟨⟨_, _, rfl, rfl, Wk.rfl⟩, ?_⟩ | refine ⟨⟨_, _, accV_ren rfl, rfl, Wk.rfl⟩, ?_⟩ | refine ⟨⟨_, _, accV_ren rfl, rfl, Wk.acc0⟩, ?_⟩ | refine ⟨⟨_, _, rfl, rfl, Wk.uncap⟩, ?_⟩ | refine ⟨⟨_, _, rfl, rfl, Wk.nil⟩, ?_⟩)) (by repeat' (first | exact True.intro | refine ⟨⟨_, _, _, rfl, rfl, rfl, WkO.rfl⟩, ?_⟩ | refine HeapOK.acc rfl rfl ?_ | refine HeapOK.es rfl rfl ?_))) r
    · obtain ⟨cp, w2, W2⟩ := j
      have hj2 : W2.length ≤ 200 := hj
      clear hW hj
      refine M.go rfl ?_
      refine M.decN rfl (fun hn => absurd rfl hn) (fun _ => ?_)
      refine M.go rfl ?_
      rw [wr64 (n := f + (u : Int)) (by omega) (by omega), wr64 (n := f + (u : Int) - 1) (by omega) (by omega)]
      have hlf := lfE_K u hK
      have hKN : K ≤ N + 1 := by omega
      clear hK
      by_cases hn : f + (u : Int) - 1 < 1
      · obtain rfl : u = 0 := by omega
        refine M.use (by first | exact True.intro | exact rfl) (guntil1_err mB f ((flatR f ((rE (N + 1)).take K)).length : Nat) 0 K [] 0 (wE (flatR f ((rE (N + 1)).take K)) cp) 1 w2 W2 (rcsP (rE (N + 1))) (posR 0 f (rE (N + 1))) (f + ((0 : Nat) : Int) - 1) hn) [(0, 3), (1, 0), (2, 1), (3, 2), (4, 4), (5, 5), (6, 6)] rfl rfl rfl (by repeat' (first | exact True.intro | refine ⟨⟨_, _, _, rfl, rfl, rfl, WkO.rfl⟩, ?_⟩ | refine HeapOK.acc rfl rfl ?_ | refine HeapOK.es rfl rfl ?_)) rfl rfl ?_
        refine M.go rfl ?_
        refine M.decN rfl (fun _ => ?_) (fun hn => absurd hn (by decide))
        refine M.go rfl ?_
        rw [wr64 (n := f + ((0 : Nat) : Int)) (by omega) (by omega), wr64 (n := f + ((0 : Nat) : Int) - 1) (by omega) (by omega)]
        exact M.done ⟨rfl, enF f (N + 1) K (cp, w2, W2), ⟨false, cp, by rw [hlf, List.drop_zero, Int.natCast_zero, Int.add_zero]; rfl, rfl⟩, Sh.wk (i := 96) (v' := .c (.p (.bool false))) rfl (Wk.of (by rw [decide_eq_false (show ¬ (1 ≤ f + ((0 : Nat) : Int) - 1) by omega)]; rfl)) <| Sh.ren [(0, 0), (1, 1), (2, 2), (3, 3), (4, 4), (5, 5), (6, 6)] rfl (by repeat' (first | exact True.intro | refine ⟨⟨_, _, rfl, rfl, Wk.rfl⟩, ?_⟩ | refine ⟨⟨_, _, accV_ren rfl, rfl, Wk.rfl⟩, ?_⟩ | refine ⟨⟨_, _, accV_ren rfl, rfl, Wk.acc0⟩, ?_⟩ | refine ⟨⟨_, _, rfl, rfl, Wk.uncap⟩, ?_⟩ | refine ⟨⟨_, _, rfl, rfl, Wk.nil⟩, ?_⟩)) (by repeat' (first | exact True.intro | refine ⟨⟨_, _, _, rfl, rfl, rfl, WkO.rfl⟩, ?_⟩ | refine HeapOK.acc rfl rfl ?_ | refine HeapOK.es rfl rfl ?_))⟩
      · have fin : ∀ {z : Nat}, True := fun {_} => trivial
        rcases K with _ | κ
        · refine M.use (by first | exact True.intro | exact rfl) (guntil1_0 mB f ((flatR f ((rE (N + 1)).take 0)).length : Nat) 0 [] 0 (wE (flatR f ((rE (N + 1)).take 0)) cp) 1 w2 W2 (rcsP (rE (N + 1))) (posR 0 f (rE (N + 1))) (f + (u : Int) - 1) (by omega)) [(0, 3), (1, 0), (2, 1), (3, 2), (4, 4), (5, 5), (6, 6)] rfl rfl rfl (by repeat' (first | exact True.intro | refine ⟨⟨_, _, _, rfl, rfl, rfl, WkO.rfl⟩, ?_⟩ | refine HeapOK.acc rfl rfl ?_ | refine HeapOK.es rfl rfl ?_)) rfl rfl ?_
          refine M.go rfl ?_
          refine M.decN rfl (fun hn => absurd rfl hn) (fun _ => ?_)
          refine M.go rfl ?_
          exact M.done ⟨rfl, enF f (N + 1) 0 (cp, w2, W2), ⟨false, cp, by rw [hlf]; simp [enF, flatR, wE, f1, findP, findK], rfl⟩, Sh.ren [(0, 0), (1, 1), (2, 2), (3, 3), (4, 4), (5, 5), (6, 6)] rfl (by repeat' (first | exact True.intro | refine ⟨⟨_, _, rfl, rfl, Wk.rfl⟩, ?_⟩ | refine ⟨⟨_, _, accV_ren rfl, rfl, Wk.rfl⟩, ?_⟩ | refine ⟨⟨_, _, accV_ren rfl, rfl, Wk.acc0⟩, ?_⟩ | refine ⟨⟨_, _, rfl, rfl, Wk.uncap⟩, ?_⟩ | refine ⟨⟨_, _, rfl, rfl, Wk.nil⟩, ?_⟩)) (by repeat' (first | exact True.intro | refine ⟨⟨_, _, _, rfl, rfl, rfl, WkO.rfl⟩, ?_⟩ | refine HeapOK.acc rfl rfl ?_ | refine HeapOK.es rfl rfl ?_))⟩
        · have hpos : 0 < κ + 1 := by omega
          by_cases hu0 : u = 0
          · subst hu0
            refine M.use (by first | exact True.intro | exact rfl) (guntil1_n mB f ((flatR f ((rE (N + 1)).take (κ + 1))).length : Nat) 0 κ [] 0 (wE (flatR f ((rE (N + 1)).take (κ + 1))) cp) 1 w2 W2 (rcsP (rE (N + 1))) (posR 0 f (rE (N + 1))) (f + ((0 : Nat) : Int) - 1) ⟨by omega, by omega⟩) [(0, 3), (1, 0), (2, 1), (3, 2), (4, 4), (5, 5), (6, 6)] rfl rfl rfl (by repeat' (first | exact True.intro | refine ⟨⟨_, _, _, rfl, rfl, rfl, WkO.rfl⟩, ?_⟩ | refine HeapOK.acc rfl rfl ?_ | refine HeapOK.es rfl rfl ?_)) rfl rfl ?_
            refine M.go rfl ?_
            refine M.decN rfl (fun hn => absurd rfl hn) (fun _ => ?_)
            refine M.go rfl ?_
            exact M.done ⟨rfl, enF f (N + 1) (κ + 1) (cp, w2, W2), ⟨false, cp, by rw [hlf, List.drop_zero, Int.natCast_zero, Int.add_zero]; rfl, rfl⟩, Sh.ren [(0, 0), (1, 1), (2, 2), (3, 3), (4, 4), (5, 5), (6, 6)] rfl (by repeat' (first | exact True.intro | refine ⟨⟨_, _, rfl, rfl, Wk.rfl⟩, ?_⟩ | refine ⟨⟨_, _, accV_ren rfl, rfl, Wk.rfl⟩, ?_⟩ | refine ⟨⟨_, _, accV_ren rfl, rfl, Wk.acc0⟩, ?_⟩ | refine ⟨⟨_, _, rfl, rfl, Wk.uncap⟩, ?_⟩ | refine ⟨⟨_, _, rfl, rfl, Wk.nil⟩, ?_⟩)) (by repeat' (first | exact True.intro | refine ⟨⟨_, _, _, rfl, rfl, rfl, WkO.rfl⟩, ?_⟩ | refine HeapOK.acc rfl rfl ?_ | refine HeapOK.es rfl rfl ?_))⟩
          · by_cases hk : κ + 1 ≤ u
            · have hp := posR_at (rE (N + 1)) 0 f 0 (by rw [rE_len]; omega)
              rw [List.take_zero, flatR, List.length_nil, Int.natCast_zero, Int.add_zero] at hp
              refine M.use (by first | exact True.intro | exact rfl) (guntil1_a mB f ((flatR f ((rE (N + 1)).take (κ + 1))).length : Nat) 0 κ [] 0 (wE (flatR f ((rE (N + 1)).take (κ + 1))) cp) 1 w2 W2 (rcsP (rE (N + 1))) (posR 0 f (rE (N + 1))) (f + (u : Int) - 1) ⟨by omega, by omega⟩ (by omega) (by omega) ⟨by omega, by omega⟩ (by omega) (by omega) 0 false (flatR f ((rE (N + 1)).take (κ + 1))) cp rfl (by omega) hp) [(0, 3), (1, 0), (2, 1), (3, 2), (4, 4), (5, 5), (6, 6)] rfl rfl rfl (by repeat' (first | exact True.intro | refine ⟨⟨_, _, _, rfl, rfl, rfl, WkO.rfl⟩, ?_⟩ | refine HeapOK.acc rfl rfl ?_ | refine HeapOK.es rfl rfl ?_)) rfl rfl ?_
              refine M.go rfl ?_
              refine M.decN rfl (fun hn => absurd rfl hn) (fun _ => ?_)
              refine M.go rfl ?_
              exact M.done ⟨rfl, (⟨f, ((0 : Nat) : Int), 0, 0, wE [] (some 0), 1, w2, W2 ++ [chC 0], rcsP (rE (N + 1)), posR 0 f (rE (N + 1))⟩ : EI), ⟨false, some 0, by rw [hlf, List.drop_eq_nil_of_le (by rw [List.length_take, rE_len]; omega)]; rfl, rfl⟩, Sh.ren [(0, 0), (1, 1), (2, 2), (3, 3), (4, 7), (5, 5), (6, 6)] rfl (by repeat' (first | exact True.intro | refine ⟨⟨_, _, rfl, rfl, Wk.rfl⟩, ?_⟩ | refine ⟨⟨_, _, accV_ren rfl, rfl, Wk.rfl⟩, ?_⟩ | refine ⟨⟨_, _, accV_ren rfl, rfl, Wk.acc0⟩, ?_⟩ | refine ⟨⟨_, _, rfl, rfl, Wk.uncap⟩, ?_⟩ | refine ⟨⟨_, _, rfl, rfl, Wk.nil⟩, ?_⟩)) (by repeat' (first | exact True.intro | refine ⟨⟨_, _, _, rfl, rfl, rfl, WkO.rfl⟩, ?_⟩ | refine HeapOK.acc rfl rfl ?_ | refine HeapOK.es rfl rfl ?_))⟩
            · obtain ⟨υ, rfl⟩ : ∃ υ, u = υ + 1 := ⟨u - 1, by omega⟩
              have hRK : ∀ j, j ≤ κ → (posR 0 f (rE (N + 1)))[0 + j]? = some (.int .i64 ((flatR f ((rE (N + 1)).take j)).length : Nat)) := fun j hj => by
                rw [Nat.zero_add, posR_at (rE (N + 1)) 0 f j (by rw [rE_len]; omega), Int.zero_add]
              have hle : ∀ j, (flatR f ((rE (N + 1)).take j)).length ≤ 6000 := fun j => by
                have h1 := flatR_le (rE (N + 1)) f j
                have h2 := fE_len f hf2 (N + 1) (by omega)
                rw [fE] at h2
                omega
              have hbe := back_eq (rE (N + 1)) f (u := υ + 1) (K := κ + 1) (by omega) (by rw [rE_len]; omega)
              have hmo := flatR_mono (rE (N + 1)) f (i := υ + 1) (j := κ + 1) (by omega)
              have hlK := hle (κ + 1)
              have hne : flatR (f + ((υ + 1 : Nat) : Int)) (((rE (N + 1)).take (κ + 1)).drop (υ + 1)) ≠ [] := fun e => by
                have hok := (((rE_ok f hf2 (N + 1) (by omega)).take (κ + 1)).drop (υ + 1) (by rw [List.length_take, rE_len]; omega))
                have hl : (((rE (N + 1)).take (κ + 1)).drop (υ + 1)).length = κ - υ := by rw [List.length_drop, List.length_take, rE_len]; omega
                cases hd : ((rE (N + 1)).take (κ + 1)).drop (υ + 1) with
                | nil => rw [hd] at hl; simp at hl; omega
                | cons b R =>
                  rw [hd] at hok e
                  have := flatR_pos hok
                  rw [e] at this
                  simp at this
              have A := guntil1_y (base := base) mB f ((flatR f ((rE (N + 1)).take (κ + 1))).length : Nat) 0 κ [] 0 (wE (flatR f ((rE (N + 1)).take (κ + 1))) cp) 1 w2 W2 (rcsP (rE (N + 1))) (posR 0 f (rE (N + 1))) (f + ((υ + 1 : Nat) : Int) - 1) ⟨by omega, by omega⟩ (by omega) (by omega) ⟨by omega, by omega⟩ υ (by omega) (by omega) (by omega) (fun j => (flatR f ((rE (N + 1)).take j)).length) (flatR f ((rE (N + 1)).take (υ + 1))).length (flatR f ((rE (N + 1)).take (κ + 1))).length rfl rfl hmo false (flatR f ((rE (N + 1)).take (κ + 1))) cp rfl (by rw [hbe]; exact hne) (Nat.le_refl _) (by omega) hRK (fun j h1 h2 => ⟨flatR_mono _ _ (by omega), by have := hle j; show (flatR f ((rE (N + 1)).take j)).length ≤ _; omega⟩) (by rw [posR_len, rE_len]; omega) (f1_ok _ _ _ _) (by decide) (by rw [wE_used, mB_eq]; omega) (by simp [wE, f1]) rfl _ _ _ _ rfl rfl rfl rfl rfl
              rw [hbe] at A
              refine M.use (by first | exact True.intro | exact rfl) A [(0, 3), (1, 0), (2, 1), (3, 2), (4, 4), (5, 5), (6, 6)] rfl rfl rfl (by repeat' (first | exact True.intro | refine ⟨⟨_, _, _, rfl, rfl, rfl, WkO.rfl⟩, ?_⟩ | refine HeapOK.acc rfl rfl ?_ | refine HeapOK.es rfl rfl ?_)) rfl rfl ?_
              refine M.go rfl ?_
              refine M.decN rfl (fun hn => absurd rfl hn) (fun _ => ?_)
              refine M.go rfl ?_
              exact M.done ⟨rfl, (⟨f + ((υ + 1 : Nat) : Int) - 1 + 1, ((flatR f ((rE (N + 1)).take (κ + 1))).length : Int) - ((flatR f ((rE (N + 1)).take (υ + 1))).length : Int), 0 + (υ + 1), κ - υ, wE (flatR (f + ((υ + 1 : Nat) : Int)) (((rE (N + 1)).take (κ + 1)).drop (υ + 1))) none, 2, w2, W2 ++ [chF (false && (u8P (flatR f ((rE (N + 1)).take (κ + 1)))).isEmpty) (flatR (f + ((υ + 1 : Nat) : Int)) (((rE (N + 1)).take (κ + 1)).drop (υ + 1)))] ++ [chM], rcsP (rE (N + 1)), subY (posR 0 f (rE (N + 1))) (0 + (υ + 1)) (fun j => (flatR f ((rE (N + 1)).take (υ + 1 + j))).length) (flatR f ((rE (N + 1)).take (υ + 1))).length (κ - υ)⟩ : EI), ⟨false, none, by rw [hlf]; rfl, rfl⟩, Sh.ren [(0, 0), (1, 1), (2, 2), (3, 3), (4, 8), (5, 5), (6, 6)] rfl (by repeat' (first | exact True.intro | refine ⟨⟨_, _, rfl, rfl, Wk.rfl⟩, ?_⟩ | refine ⟨⟨_, _, accV_ren rfl, rfl, Wk.rfl⟩, ?_⟩ | refine ⟨⟨_, _, accV_ren rfl, rfl, Wk.acc0⟩, ?_⟩ | refine ⟨⟨_, _, rfl, rfl, Wk.uncap⟩, ?_⟩ | refine ⟨⟨_, _, rfl, rfl, Wk.nil⟩, ?_⟩)) (by repeat' (first | exact True.intro | refine ⟨⟨_, _, _, rfl, rfl, rfl, WkO.rfl⟩, ?_⟩ | refine HeapOK.acc rfl rfl ?_ | refine HeapOK.es rfl rfl ?_))⟩
  · obtain ⟨zF, cp, hF1, hF2⟩ := hi
    obtain ⟨fi, en, o, m, F, c, w1, W1, X, Y⟩ := i
    obtain ⟨K, hK⟩ : ∃ K, K = min a (N + 1) := ⟨_, rfl⟩
    have hmn : minI ((N + 1 : Nat) : Int) (a : Int) = (K : Int) := by unfold minI; split <;> omega
    have hlf := lfE_K u hK
    have hlen : (lfE (N + 1) a u).length = K - u := by rw [hlf, List.length_drop, List.length_take, rE_len]; omega
    refine M.go rfl ?_
    refine M.use trivial (gsync1_spec mB fi en o m [] 0 F c w1 W1 X Y) [(0, 3), (1, 0), (2, 1), (3, 2), (4, 4), (5, 5), (6, 6)] rfl rfl rfl (by repeat' (first | exact True.intro | refine ⟨⟨_, _, _, rfl, rfl, rfl, WkO.rfl⟩, ?_⟩ | refine HeapOK.acc rfl rfl ?_ | refine HeapOK.es rfl rfl ?_)) rfl rfl ?_
    refine M.go rfl ?_
    refine M.use trivial (crash0_spec mB F c F c (-1) 0) [(0, 0), (1, 7), (2, 2)] rfl rfl rfl (by repeat' (first | exact True.intro | refine ⟨⟨_, _, _, rfl, rfl, rfl, WkO.rfl⟩, ?_⟩ | refine HeapOK.acc rfl rfl ?_ | refine HeapOK.es rfl rfl ?_)) rfl rfl ?_
    refine M.go rfl ?_
    cases hl : lfE (N + 1) a u with
    | nil =>
      rw [hl] at hF1 hlen
      refine M.use trivial (gopen_e mB F c F c zF cp [] Bytes.nil (by simp) rfl rfl hF2 hF1) [(0, 8), (1, 9), (2, 10)] rfl rfl rfl (by repeat' (first | exact True.intro | refine ⟨⟨_, _, _, rfl, rfl, rfl, WkO.rfl⟩, ?_⟩ | refine HeapOK.acc rfl rfl ?_ | refine HeapOK.es rfl rfl ?_)) rfl rfl ?_
      refine M.go rfl ?_
      refine M.condN rfl (fun hn => absurd rfl hn) (fun _ => ?_)
      refine M.go rfl ?_
      rw [hmn]
      refine M.loop (XH.ren [(0, 8), (1, 9), (2, 10), (3, 11)] (ends_loop0 f hf2 (N + 1) K u (by omega) (by simp at hlen; omega) 0 0 F c F c _ ?_ (N + 1) 0 (by omega)) rfl (by repeat' (first | exact True.intro | refine ⟨⟨_, _, rfl, rfl, Wk.rfl⟩, ?_⟩ | refine ⟨⟨_, _, accV_ren rfl, rfl, Wk.rfl⟩, ?_⟩ | refine ⟨⟨_, _, accV_ren rfl, rfl, Wk.acc0⟩, ?_⟩ | refine ⟨⟨_, _, rfl, rfl, Wk.uncap⟩, ?_⟩ | refine ⟨⟨_, _, rfl, rfl, Wk.nil⟩, ?_⟩)) (by repeat' (first | exact True.intro | refine ⟨⟨_, _, _, rfl, rfl, rfl, WkO.rfl⟩, ?_⟩ | refine HeapOK.acc rfl rfl ?_ | refine HeapOK.es rfl rfl ?_)))
      refine M.q (M.go rfl ?_)
      refine M.use trivial (last00_spec mB 0 0 F c F c) [(0, 3), (1, 0), (2, 1), (3, 2)] rfl rfl rfl (by repeat' (first | exact True.intro | refine ⟨⟨_, _, _, rfl, rfl, rfl, WkO.rfl⟩, ?_⟩ | refine HeapOK.acc rfl rfl ?_ | refine HeapOK.es rfl rfl ?_)) rfl rfl ?_
      refine M.go rfl ?_
      exact M.ret (M.go rfl (M.done (finQ.ret [] rfl rfl rfl (Wk.b1 (by have hku : (K : Int) ≤ (u : Int) := by simp at hlen; omega
                                                                        simp [hku])) (by repeat' (first | exact True.intro | refine ⟨⟨_, _, _, rfl, rfl, rfl, WkO.rfl⟩, ?_⟩ | refine HeapOK.acc rfl rfl ?_ | refine HeapOK.es rfl rfl ?_)))))
    | cons b rest =>
      rw [hl] at hF1 hlen
      have hsome : u < K := by simp at hlen; omega
      have hok : RecOK (f + u) (b :: rest) := by
        rw [← hl, hlf]
        exact ((rE_ok f hf2 (N + 1) (by omega)).take K).drop u (by rw [List.length_take, rE_len]; omega)
      have hat : ∀ j, j ≤ rest.length → (rcsP (b :: rest))[j]? = some (fP false [((u + j : Nat) : Int), 7] none) := fun j hj => rcsP_at _ _ _ (by
        simp only [List.length_cons] at hlen
        rw [← hl, hlf, List.getElem?_drop, List.getElem?_take_of_lt (by omega), rE_at _ _ (by omega)])
      have hfl := flatR_len _ _ hok
      have hrl : rest.length ≤ 100 := by simp at hlen; omega
      refine M.use trivial (gopen_n mB F c F c (f + u) b rest hok zF cp (flatR (f + u) (b :: rest)) (flatR_bytes _ _ hok) (by simp at hfl; omega) (scan_flat _ _ hok) rfl hF2 hF1) [(0, 8), (1, 9), (2, 10)] rfl rfl rfl (by repeat' (first | exact True.intro | refine ⟨⟨_, _, _, rfl, rfl, rfl, WkO.rfl⟩, ?_⟩ | refine HeapOK.acc rfl rfl ?_ | refine HeapOK.es rfl rfl ?_)) rfl rfl ?_
      refine M.go rfl ?_
      refine M.condN rfl (fun hn => absurd rfl hn) (fun _ => ?_)
      refine M.go rfl ?_
      rw [hmn]
      refine M.loop (XH.ren [(0, 8), (1, 9), (2, 10), (3, 11), (4, 12), (5, 13)] (ends_loop2 f hf2 (N + 1) K u rest.length (by omega) (by omega) (by simp at hlen; omega) (by omega) ((flatR (f + u) (b :: rest)).length : Nat) F c F c (rcsP (b :: rest)) (posR 0 (f + u) (b :: rest)) hat _ ?_ (N + 1) 0 (by omega)) rfl (by repeat' (first | exact True.intro | refine ⟨⟨_, _, rfl, rfl, Wk.rfl⟩, ?_⟩ | refine ⟨⟨_, _, accV_ren rfl, rfl, Wk.rfl⟩, ?_⟩ | refine ⟨⟨_, _, accV_ren rfl, rfl, Wk.acc0⟩, ?_⟩ | refine ⟨⟨_, _, rfl, rfl, Wk.uncap⟩, ?_⟩ | refine ⟨⟨_, _, rfl, rfl, Wk.nil⟩, ?_⟩)) (by repeat' (first | exact True.intro | refine ⟨⟨_, _, _, rfl, rfl, rfl, WkO.rfl⟩, ?_⟩ | refine HeapOK.acc rfl rfl ?_ | refine HeapOK.es rfl rfl ?_)))
      refine M.q (M.go rfl ?_)
      refine M.use trivial (glast0_1 mB (f + u) ((flatR (f + u) (b :: rest)).length : Nat) 0 rest.length F c F c (rcsP (b :: rest)) (posR 0 (f + u) (b :: rest)) (by omega) ⟨by omega, by omega⟩) [(0, 3), (1, 0), (2, 1), (3, 2), (4, 4), (5, 5)] rfl rfl rfl (by repeat' (first | exact True.intro | refine ⟨⟨_, _, _, rfl, rfl, rfl, WkO.rfl⟩, ?_⟩ | refine HeapOK.acc rfl rfl ?_ | refine HeapOK.es rfl rfl ?_)) rfl rfl ?_
      refine M.go rfl ?_
      have hfz : f + (u : Int) + (rest.length : Int) ≠ 0 := by omega
      have hku : ¬ (K : Int) ≤ (u : Int) := by omega
      exact M.ret (M.go rfl (M.done (finQ.ret [] rfl rfl rfl (Wk.b1 (by simp [hku, hfz])) (by repeat' (first | exact True.intro | refine ⟨⟨_, _, _, rfl, rfl, rfl, WkO.rfl⟩, ?_⟩ | refine HeapOK.acc rfl rfl ?_ | refine HeapOK.es rfl rfl ?_)))))
theorem WalEnds_law {p0 p1 p2 p3 : PC} (h0 : Is (.int .i64) p0) (h1 : Is (.int .i64) p1) (h2 : Is (.int .i64) p2) (h3 : Is (.int .i64) p3) : CallS Try.prog base 8 [xvP p0, xvP p1, xvP p2, xvP p3] ⟨[], 0⟩ (.c (.p (.bool true))) ⟨[], 0⟩ := by
  obtain ⟨n, rfl, hn⟩ := h0.i64
  obtain ⟨m, rfl, -⟩ := h1.i64
  obtain ⟨a, rfl, -⟩ := h2.i64
  obtain ⟨u, rfl, -⟩ := h3.i64
  exact WalEnds_spec n m a u
end Go.Proofs.Ytjlfojgacnphmaa
