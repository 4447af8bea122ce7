/- Texts of this claim, several in one: Bal9, Bal10. -/
import Derived.Test.YtgaaffanoegbhaaMgBallotCount12
import Derived.Test.YtgaaffanoegbhaaMgBallotCount13
/- ballot.Greatest, delphilaw21.BallotCount. -/
namespace Go.Proofs.Ytgaaffanoegbhaa
open Go.RowKit Sim Go Sym
set_option maxRecDepth 100000
set_option linter.unusedVariables false
set_option linter.unusedSimpArgs false
variable {base : Nat}
def esOf : Nat → List (Int × Int) → List (Nat × Int × XV)
  | _, [] => []
  | k, p :: l => (k, p.1, .c (.p (.int .i64 p.2))) :: esOf (k + 1) l
def valI : List (Int × Int) → Int → Int
  | [], _ => 0
  | p :: l, a => if a = p.1 then p.2 else valI l a
theorem find_es (a : Int) : ∀ (l : List (Int × Int)) (k : Nat), ((findK a (esOf k l)).getD (.c (.p (.int .i64 0)))) = .c (.p (.int .i64 (valI l a)))
  | [], k => rfl
  | p :: l, k => by
    rw [esOf, findK, valI]
    split
    · rfl
    · exact find_es a l (k + 1)
theorem look_es (a : Int) (l : List (Int × Int)) (k : Nat) (t : Bool) : lookV false ((findK a (esOf k l)).getD (.c (.p (.int .i64 0)))) t = .c (.p (.int .i64 (valI l a))) := find_es a l k
theorem set_es (a v : Int) : ∀ (l : List (Int × Int)) (k : Nat), (∀ p ∈ l, a ≠ p.1) → setK a (.c (.p (.int .i64 v))) (esOf k l) = none
  | [], k, _ => rfl
  | p :: l, k, h => by
    rw [esOf, setK, if_neg (h p (by simp)), set_es a v l (k + 1) fun q hq => h q (by simp [hq])]
theorem esOf_app (a v : Int) : ∀ (l : List (Int × Int)) (k : Nat), esOf k (l ++ [(a, v)]) = esOf k l ++ [(k + l.length, a, .c (.p (.int .i64 v)))]
  | [], k => rfl
  | p :: l, k => by
    rw [List.cons_append, esOf, esOf, esOf_app a v l (k + 1)]
    simp; omega
theorem upd_es (a v : Int) (l : List (Int × Int)) (h : ∀ p ∈ l, a ≠ p.1) : updK a (.c (.p (.int .i64 v))) l.length (esOf 0 l) = esOf 0 (l ++ [(a, v)]) ∧ updC a (.c (.p (.int .i64 v))) l.length (esOf 0 l) = l.length + 1 := by
  rw [updK, updC, set_es a v l 0 h, esOf_app]
  simp
theorem es_ren (g : Nat → Option Nat) : ∀ (l : List (Int × Int)) (k : Nat), ∀ e ∈ esOf k l, e.2.2.ren g = some e.2.2
  | [], k, e, he => by cases he
  | p :: l, k, e, he => by
    rcases List.mem_cons.1 he with rfl | he
    · rfl
    · exact es_ren g l (k + 1) e he
theorem HeapOK.es {g : Nat → Option Nat} {h : HS} {b b' c k : Nat} {l : List (Int × Int)} {r : List (Nat × Option XO)} (hg : g b = some b') (hl : h.get b' = some (.map (mK KD.i64 (esOf k l)) c)) (hr : HeapOK g h r) : HeapOK g h ((b, some (.map (mK KD.i64 (esOf k l)) c)) :: r) := HeapOK.mp (es_ren g l k) hg hl hr
/-! Greatest. -/
def hM (l : List (Int × Int)) (c : Nat) : HS := ⟨[(0, some (.map (mK KD.i64 (esOf 0 l)) c))], 1⟩
noncomputable def lGr : {F : LF // lowerF Try.prog 13 = some F} := ⟨_, rfl⟩
def vals (P : List (Int × Int)) (l : List Int) : List Int := l.map (valI P)
theorem gr_loop (P : List (Int × Int)) (cl : Nat) (z : Bool) (c : Option Nat) (l : List Int) (hl : l.length ≤ 1000000) (Q : QX) (hq : Q (.exit 0) [(5, accV 1 1 (inP (vals P l)))] ⟨[(1, accO 1 (inP (vals P l))), (0, some (.map (mK KD.i64 (esOf 0 P)) cl))], 2⟩) :
    ∀ (rest pre : List Int), l = pre ++ rest → XH Try.prog base lGr.1.n 1 (lGr.1.c.lp 0) [(11, .c (.p (.tz z 1 (inP l) c))), (12, .c (.p (.int .i64 (inP l).length))), (13, .c (.p (.int .i64 pre.length))), (1, .c (.mp 0)), (5, accV 1 1 (inP (vals P pre)))] ⟨[(1, accO 1 (inP (vals P pre))), (0, some (.map (mK KD.i64 (esOf 0 P)) cl))], 2⟩ Q := by
  intro rest
  induction rest with
  | nil =>
    intro pre hp
    simp at hp
    subst hp
    refine M.round (M.go rfl ?_)
    refine M.cond rfl (fun hc => absurd hc (by rw [inPl]; omega)) (fun hc => ?_)
    refine M.ren [(0, 0), (1, 1)] ?_ trivial rfl (by repeat' (first | exact True.intro | refine ⟨⟨_, _, rfl, rfl, Wk.rfl⟩, ?_⟩ | refine ⟨⟨_, _, accV_ren rfl, rfl, Wk.rfl⟩, ?_⟩ | refine ⟨⟨_, _, accV_ren rfl, rfl, Wk.acc0⟩, ?_⟩ | refine ⟨⟨_, _, rfl, rfl, Wk.uncap⟩, ?_⟩ | refine ⟨⟨_, _, rfl, rfl, Wk.nil⟩, ?_⟩)) (by repeat' (first | exact True.intro | refine ⟨⟨_, _, _, rfl, rfl, rfl, WkO.rfl⟩, ?_⟩ | refine HeapOK.acc rfl rfl ?_ | refine HeapOK.es rfl rfl ?_)) (e' := [(5, accV 1 1 (inP (vals P l)))]) (h' := ⟨[(1, accO 1 (inP (vals P l))), (0, some (.map (mK KD.i64 (esOf 0 P)) cl))], 2⟩)
    exact M.exit (M.go rfl (M.done hq))
  | cons a rest ih =>
    intro pre hp
    have hu : (inP l)[((pre.length : Int)).toNat]? = some (.int .i64 a) := by rw [hp]; exact at_app _ _ _ _
    have hlen : l.length = pre.length + (rest.length + 1) := by rw [hp]; simp
    refine M.round (M.go rfl ?_)
    refine M.cond rfl (fun hc => ?_) (fun hc => absurd (by rw [inPl]; omega) hc)
    refine M.go rfl ?_
    refine M.op trivial (SOp.ia rfl rfl (by omega) hu) ?_
    refine M.op trivial (SOp.ld1e rfl hu rfl rfl rfl) ?_
    refine M.go rfl ?_
    refine M.op trivial (SOp.look KD.i64 rfl rfl rfl) ?_
    rw [look_es]
    refine M.go rfl ?_
    have hv : (inP (vals P pre)).length = pre.length := by simp [inPl, vals]
    refine M.acc trivial rfl rfl rfl (.own rfl rfl) (by simp) (by rw [hv]; simp; omega) ?_
    refine M.go rfl ?_
    have hw2 : IntKind.i64.wrap ((pre.length : Int) + 1) = ((pre ++ [a]).length : Int) := by rw [wr64 (by omega) (by omega)]; simp
    rw [hw2]
    have ih' := ih (pre ++ [a]) (by rw [hp]; simp)
    rw [show inP (vals P (pre ++ [a])) = inP (vals P pre) ++ [.int .i64 (valI P a)] by simp [inP, vals]] at ih'
    exact M.again (XH.ren [(0, 0), (1, 3)] ih' rfl (by repeat' (first | exact True.intro | refine ⟨⟨_, _, rfl, rfl, Wk.rfl⟩, ?_⟩ | refine ⟨⟨_, _, accV_ren rfl, rfl, Wk.rfl⟩, ?_⟩ | refine ⟨⟨_, _, accV_ren rfl, rfl, Wk.acc0⟩, ?_⟩ | refine ⟨⟨_, _, rfl, rfl, Wk.uncap⟩, ?_⟩ | refine ⟨⟨_, _, rfl, rfl, Wk.nil⟩, ?_⟩)) (by repeat' (first | exact True.intro | refine ⟨⟨_, _, _, rfl, rfl, rfl, WkO.rfl⟩, ?_⟩ | refine HeapOK.acc rfl rfl ?_ | refine HeapOK.es rfl rfl ?_)))
def grI (P : List (Int × Int)) (l : List Int) : Int := (sortD (vals P l)).getD ((l.length - 1) / 2) 0
theorem gr_spec (P : List (Int × Int)) (cl : Nat) (z : Bool) (c : Option Nat) (l : List Int) (hl : l.length ≤ 7) (h1 : 1 ≤ l.length) : CallS Try.prog base 13 [.c (.p (.tz z 1 (inP l) c)), .c (.mp 0)] (hM P cl) (.c (.p (.int .i64 (grI P l)))) (hM P cl) := by
  have hln : (vals P l).length = l.length := by simp [vals]
  refine CallS.of noNG lGr.2 rfl (M.start (M.go rfl ?_))
  refine M.cond rfl (fun hc => absurd hc (by rw [inPl]; omega)) (fun hc => ?_)
  refine M.go rfl ?_
  refine M.loop (XH.ren [(0, 0), (1, 1)] (gr_loop P cl z c l (by omega) _ ?_ l [] rfl) rfl (by repeat' (first | exact True.intro | refine ⟨⟨_, _, rfl, rfl, Wk.rfl⟩, ?_⟩ | refine ⟨⟨_, _, accV_ren rfl, rfl, Wk.rfl⟩, ?_⟩ | refine ⟨⟨_, _, accV_ren rfl, rfl, Wk.acc0⟩, ?_⟩ | refine ⟨⟨_, _, rfl, rfl, Wk.uncap⟩, ?_⟩ | refine ⟨⟨_, _, rfl, rfl, Wk.nil⟩, ?_⟩)) (by repeat' (first | exact True.intro | refine ⟨⟨_, _, _, rfl, rfl, rfl, WkO.rfl⟩, ?_⟩ | refine HeapOK.acc rfl rfl ?_ | refine HeapOK.es rfl rfl ?_)))
  refine M.q (M.goN 2 rfl ?_)
  obtain ⟨a, r, hr⟩ : ∃ a r, vals P l = a :: r := by
    cases hv : vals P l with
    | nil => rw [hv] at hln; simp at hln; omega
    | cons a r => exact ⟨_, _, rfl⟩
  have hs := sort_spec (base := base) (vals P l) (by omega) (by omega)
  rw [hln] at hs
  refine M.wk (i := 5) (v' := .c (.sl 1 0 l.length 1 none)) rfl (Wk.of (by rw [hr, ← hln, hr]; simp [accV, XV.sv, XC.sc, inP])) ?_
  refine M.go rfl ?_
  refine M.use trivial hs [(0, 1)] rfl rfl rfl ?_ rfl rfl ?_
  · exact ⟨⟨_, _, _, rfl, rfl, by rw [hr]; rfl, WkO.rfl⟩, trivial⟩
  refine M.go rfl ?_
  have hw : IntKind.i64.wrap ((l.length : Int) - 1) = ((l.length - 1 : Nat) : Int) := by rw [wr64 (by omega) (by omega)]; omega
  rw [hw]
  refine M.op trivial (SOp.bin rfl rfl rfl) ?_
  have hw2 : IntKind.i64.wrap (((l.length - 1 : Nat) : Int).tdiv 2) = (((l.length - 1) / 2 : Nat) : Int) := by
    have e1 : (((l.length - 1 : Nat) : Int).tdiv 2) = (((l.length - 1) / 2 : Nat) : Int) := by
      rw [Int.tdiv_eq_ediv_of_nonneg (by omega)]; omega
    rw [e1, wr64 (by omega) (by omega)]
  rw [hw2]
  have hsl : (sortD (vals P l)).length = l.length := by rw [(sortD_eq (vals P l)).2.length_eq, hln]
  refine M.op trivial (SOp.iaOn rfl rfl (by omega)) ?_
  refine M.op trivial (SOp.ld1O rfl rfl (inP_at (sortD (vals P l)) ((l.length - 1) / 2) (by omega)) rfl rfl rfl) ?_
  refine M.go rfl ?_
  exact M.ret (M.go rfl (M.done (finQ.ret [(0, 0)] rfl rfl rfl (by first | exact Wk.rfl | exact Wk.uncap | exact Wk.nil | exact Wk.b1 rfl | exact Wk.t2 Wk.rfl (Wk.b1 rfl)) (by repeat' (first | exact True.intro | refine ⟨⟨_, _, _, rfl, rfl, rfl, WkO.rfl⟩, ?_⟩ | refine HeapOK.acc rfl rfl ?_ | refine HeapOK.es rfl rfl ?_)))))
theorem gr_nil : CallS Try.prog base 13 [.c (.p (.tz true 0 [] none)), .c (.p .nomap)] ⟨[], 0⟩ (.c (.p (.int .i64 0))) ⟨[], 0⟩ := by
  refine CallS.of noNG lGr.2 rfl (M.start (M.go rfl ?_))
  refine M.cond rfl (fun hc => ?_) (fun hc => absurd rfl hc)
  refine M.go rfl ?_
  exact M.ret (M.go rfl (M.done (finQ.ret [] rfl rfl rfl (by first | exact Wk.rfl | exact Wk.uncap | exact Wk.nil | exact Wk.b1 rfl | exact Wk.t2 Wk.rfl (Wk.b1 rfl)) (by repeat' (first | exact True.intro | refine ⟨⟨_, _, _, rfl, rfl, rfl, WkO.rfl⟩, ?_⟩ | refine HeapOK.acc rfl rfl ?_ | refine HeapOK.es rfl rfl ?_)))))
theorem maj_nil (yes : XV) (hy : yes = .c (.p (.bool true)) ∨ ∃ z l c, yes = .c (.p (.tz z 1 (inP l) c))) : CallS Try.prog base 14 [.c (.p (.tz true 0 [] none)), yes] ⟨[], 0⟩ (.c (.p (.bs false))) ⟨[], 0⟩ := by
  rcases hy with rfl | ⟨z, l, c, rfl⟩
  all_goals
    refine CallS.of noNG lMaj.2 rfl (M.start (M.go rfl ?_))
    refine M.loop (M.round (M.go rfl ?_))
    refine M.cond rfl (fun hc => absurd hc (by decide)) (fun hc => ?_)
    refine M.exit (M.go rfl (M.done (M.q (M.go rfl ?_))))
    exact M.ret (M.go rfl (M.done (finQ.ret [] rfl rfl rfl (by first | exact Wk.rfl | exact Wk.uncap | exact Wk.nil | exact Wk.b1 rfl | exact Wk.t2 Wk.rfl (Wk.b1 rfl)) (by repeat' (first | exact True.intro | refine ⟨⟨_, _, _, rfl, rfl, rfl, WkO.rfl⟩, ?_⟩ | refine HeapOK.acc rfl rfl ?_ | refine HeapOK.es rfl rfl ?_)))))
noncomputable def lRMaj : {F : LF // lowerF Try.prog 15 = some F} := ⟨_, rfl⟩
theorem rmaj_loop (z zy : Bool) (c cy : Option Nat) (l yes : List Int) (hl : l.length ≤ 1000000) (hy : yes.length ≤ 1000000) (Q : QX) (hq : Q (.exit 0) [(0, .c (.p (.tz z 1 (inP l) c))), (5, .c (.p (.int .i64 (cnt yes l))))] ⟨[], 0⟩) :
    ∀ (rest pre : List Int), l = pre ++ rest → XH Try.prog base lRMaj.1.n 0 (lRMaj.1.c.lp 0) [(0, .c (.p (.tz z 1 (inP l) c))), (1, .c (.p (.tz zy 1 (inP yes) cy))), (6, .c (.p (.int .i64 pre.length))), (5, .c (.p (.int .i64 (cnt yes pre))))] ⟨[], 0⟩ Q := by
  intro rest
  induction rest with
  | nil =>
    intro pre hp
    refine M.round (M.go rfl ?_)
    simp at hp
    subst hp
    refine M.cond rfl (fun hc => ?_) (fun hc => ?_)
    · rw [inPl] at hc; omega
    · refine M.ren [] ?_ trivial rfl (by repeat' (first | exact True.intro | refine ⟨⟨_, _, rfl, rfl, Wk.rfl⟩, ?_⟩ | refine ⟨⟨_, _, accV_ren rfl, rfl, Wk.rfl⟩, ?_⟩ | refine ⟨⟨_, _, accV_ren rfl, rfl, Wk.acc0⟩, ?_⟩ | refine ⟨⟨_, _, rfl, rfl, Wk.uncap⟩, ?_⟩ | refine ⟨⟨_, _, rfl, rfl, Wk.nil⟩, ?_⟩)) (by repeat' (first | exact True.intro | refine ⟨⟨_, _, _, rfl, rfl, rfl, WkO.rfl⟩, ?_⟩ | refine HeapOK.acc rfl rfl ?_ | refine HeapOK.es rfl rfl ?_)) (e' := [(0, .c (.p (.tz z 1 (inP l) c))), (5, .c (.p (.int .i64 (cnt yes l))))]) (h' := ⟨[], 0⟩)
      exact M.exit (M.go rfl (M.done hq))
  | cons b rest ih =>
    intro pre hp
    have hlen : (inP l).length = pre.length + (rest.length + 1) := by rw [hp, inPl]; simp
    have hll : pre.length + rest.length < 1000000 := by rw [hp] at hl; simp at hl; omega
    have hcn : cnt yes pre ≤ pre.length := List.countP_le_length
    have hw2 : IntKind.i64.wrap ((pre.length : Int) + 1) = ((pre ++ [b]).length : Int) := by rw [wr64 (by omega) (by omega)]; simp
    have ih' := ih (pre ++ [b]) (by rw [hp]; simp)
    have hca : cnt yes (pre ++ [b]) = cnt yes pre + (if b ∈ yes then 1 else 0) := by simp [cnt, List.countP_append, List.countP_cons]
    refine M.round (M.go rfl ?_)
    refine M.cond rfl (fun hc => ?_) (fun hc => absurd (by omega) hc)
    refine M.go rfl ?_
    have hu : (inP l)[((pre.length : Int)).toNat]? = some (.int .i64 b) := by rw [hp]; exact at_app _ _ _ _
    refine M.op trivial (SOp.ia rfl rfl (by omega) hu) ?_
    refine M.op trivial (SOp.ld1e rfl hu rfl rfl rfl) ?_
    refine M.go rfl ?_
    refine M.use0 trivial (in_spec zy cy yes b hy) rfl rfl rfl ?_
    refine M.go rfl ?_
    refine M.cond rfl (fun hb => ?_) (fun hb => ?_)
    · refine M.go rfl ?_
      rw [hw2, show IntKind.i64.wrap ((cnt yes pre : Int) + 1) = ((cnt yes (pre ++ [b]) : Nat) : Int) by rw [wr64 (by omega) (by omega), hca, if_pos hb]; simp]
      exact M.again (XH.ren [] ih' rfl (by repeat' (first | exact True.intro | refine ⟨⟨_, _, rfl, rfl, Wk.rfl⟩, ?_⟩ | refine ⟨⟨_, _, accV_ren rfl, rfl, Wk.rfl⟩, ?_⟩ | refine ⟨⟨_, _, accV_ren rfl, rfl, Wk.acc0⟩, ?_⟩ | refine ⟨⟨_, _, rfl, rfl, Wk.uncap⟩, ?_⟩ | refine ⟨⟨_, _, rfl, rfl, Wk.nil⟩, ?_⟩)) (by repeat' (first | exact True.intro | refine ⟨⟨_, _, _, rfl, rfl, rfl, WkO.rfl⟩, ?_⟩ | refine HeapOK.acc rfl rfl ?_ | refine HeapOK.es rfl rfl ?_)))
    · refine M.go rfl ?_
      rw [hca, if_neg hb, Nat.add_zero] at ih'
      rw [hw2]
      exact M.again (XH.ren [] ih' rfl (by repeat' (first | exact True.intro | refine ⟨⟨_, _, rfl, rfl, Wk.rfl⟩, ?_⟩ | refine ⟨⟨_, _, accV_ren rfl, rfl, Wk.rfl⟩, ?_⟩ | refine ⟨⟨_, _, accV_ren rfl, rfl, Wk.acc0⟩, ?_⟩ | refine ⟨⟨_, _, rfl, rfl, Wk.uncap⟩, ?_⟩ | refine ⟨⟨_, _, rfl, rfl, Wk.nil⟩, ?_⟩)) (by repeat' (first | exact True.intro | refine ⟨⟨_, _, _, rfl, rfl, rfl, WkO.rfl⟩, ?_⟩ | refine HeapOK.acc rfl rfl ?_ | refine HeapOK.es rfl rfl ?_)))
theorem rmaj_spec (z zy : Bool) (c cy : Option Nat) (l yes : List Int) (hl : l.length ≤ 1000000) (hy : yes.length ≤ 1000000) : CallS Try.prog base 15 [.c (.p (.tz z 1 (inP l) c)), .c (.p (.tz zy 1 (inP yes) cy))] ⟨[], 0⟩ (.c (.p (.bs (majI l yes)))) ⟨[], 0⟩ := by
  refine CallS.of noNG lRMaj.2 rfl (M.start (M.go rfl ?_))
  refine M.loop (XH.ren [] (rmaj_loop z zy c cy l yes hl hy _ ?_ l [] rfl) rfl (by repeat' (first | exact True.intro | refine ⟨⟨_, _, rfl, rfl, Wk.rfl⟩, ?_⟩ | refine ⟨⟨_, _, accV_ren rfl, rfl, Wk.rfl⟩, ?_⟩ | refine ⟨⟨_, _, accV_ren rfl, rfl, Wk.acc0⟩, ?_⟩ | refine ⟨⟨_, _, rfl, rfl, Wk.uncap⟩, ?_⟩ | refine ⟨⟨_, _, rfl, rfl, Wk.nil⟩, ?_⟩)) (by repeat' (first | exact True.intro | refine ⟨⟨_, _, _, rfl, rfl, rfl, WkO.rfl⟩, ?_⟩ | refine HeapOK.acc rfl rfl ?_ | refine HeapOK.es rfl rfl ?_)))
  refine M.q (M.go rfl ?_)
  have hcn : cnt yes l ≤ l.length := List.countP_le_length
  refine M.ret (M.go rfl (M.done (finQ.ret [] rfl rfl rfl (Wk.b2 ?_) (by repeat' (first | exact True.intro | refine ⟨⟨_, _, _, rfl, rfl, rfl, WkO.rfl⟩, ?_⟩ | refine HeapOK.acc rfl rfl ?_ | refine HeapOK.es rfl rfl ?_)))))
  rw [inPl, wr64 (by omega) (by omega), majI]
  congr 1
  exact propext (by omega)
/-! The plain law. -/
def cntG (vs : List Int) (v : Int) : Nat := vs.countP fun x => decide (v ≤ x)
def wantF (n : Nat) (vs : List Int) : List Int → Int → Int
  | [], w => w
  | v :: r, w => wantF n vs r (if n < 2 * cntG vs v ∧ w < v then v else w)
theorem wantF_is (n : Nat) (vs : List Int) (x : Int) (hx : n < 2 * cntG vs x) : ∀ (r : List Int) (w : Int), w ≤ x → (∀ v ∈ r, n < 2 * cntG vs v → v ≤ x) → wantF n vs r w ≤ x ∧ w ≤ wantF n vs r w ∧ (x ∈ r → wantF n vs r w = x)
  | [], w, h, _ => ⟨h, Int.le_refl _, fun hm => by cases hm⟩
  | v :: r, w, h, hall => by
    have hr : ∀ v ∈ r, n < 2 * cntG vs v → v ≤ x := fun u hu => hall u (by simp [hu])
    rw [wantF]
    split
    · rename_i hc
      obtain ⟨g1, g2, g3⟩ := wantF_is n vs x hx r v (hall v (by simp) hc.1) hr
      refine ⟨g1, by omega, fun hm => ?_⟩
      rcases List.mem_cons.1 hm with rfl | hm
      · omega
      · exact g3 hm
    · rename_i hc
      obtain ⟨g1, g2, g3⟩ := wantF_is n vs x hx r w h hr
      refine ⟨g1, g2, fun hm => ?_⟩
      rcases List.mem_cons.1 hm with rfl | hm
      · have : ¬ w < x := fun h => hc ⟨hx, h⟩
        omega
      · exact g3 hm
theorem sorted_getD {s : List Int} (h : s.Pairwise (fun a b => a ≤ b)) {i j : Nat} (hij : i ≤ j) (hj : j < s.length) : s.getD i 0 ≤ s.getD j 0 := by
  rcases Nat.lt_or_eq_of_le hij with h1 | rfl
  · have := List.pairwise_iff_getElem.1 h i j (by omega) hj h1
    simpa [List.getD, hj, show i < s.length by omega] using this
  · exact Int.le_refl _
theorem gr_want (vs : List Int) (h1 : 1 ≤ vs.length) (h0 : ∀ v ∈ vs, 0 ≤ v) : (sortD vs).getD ((vs.length - 1) / 2) 0 = wantF vs.length vs vs 0 := by
  obtain ⟨hs, hp⟩ := sortD_eq vs
  obtain ⟨s, hse⟩ : ∃ s, s = sortD vs := ⟨_, rfl⟩
  rw [← hse] at hs hp ⊢
  have hl : s.length = vs.length := hp.length_eq
  obtain ⟨m, hm⟩ : ∃ m, m = (vs.length - 1) / 2 := ⟨_, rfl⟩
  rw [← hm]
  have hml : m < s.length := by omega
  have hx : s.getD m 0 ∈ vs := hp.mem_iff.1 (by simp [List.getD, hml])
  have hc : ∀ v, cntG vs v = s.countP fun x => decide (v ≤ x) := fun v => (hp.countP_eq _).symm
  have hge : vs.length < 2 * cntG vs (s.getD m 0) := by
    rw [hc, ← List.take_append_drop m s, List.countP_append]
    have h2 : (s.drop m).countP (fun x => decide ((s.take m ++ s.drop m).getD m 0 ≤ x)) = (s.drop m).length := by
      rw [List.countP_eq_length, List.take_append_drop]
      intro a ha
      obtain ⟨i, hi, rfl⟩ := List.mem_iff_getElem.1 ha
      simp only [List.length_drop] at hi
      have := sorted_getD hs (i := m) (j := m + i) (by omega) (by omega)
      simpa [List.getD, hml, show m + i < s.length by omega] using this
    rw [h2, List.length_drop]
    omega
  have hle : ∀ v ∈ vs, vs.length < 2 * cntG vs v → v ≤ s.getD m 0 := by
    intro v _ hv
    rcases Int.lt_or_le (s.getD m 0) v with hlt | h
    · exfalso
      rw [hc, ← List.take_append_drop (m + 1) s, List.countP_append] at hv
      have h2 : (s.take (m + 1)).countP (fun x => decide (v ≤ x)) = 0 := by
        rw [List.countP_eq_zero]
        intro a ha
        obtain ⟨i, hi, rfl⟩ := List.mem_iff_getElem.1 ha
        simp only [List.length_take] at hi
        have := sorted_getD hs (i := i) (j := m) (by omega) hml
        have h3 : s.getD i 0 = s[i]'(by omega) := by simp [List.getD, show i < s.length by omega]
        simp
        omega
      have h3 : (s.drop (m + 1)).countP (fun x => decide (v ≤ x)) ≤ (s.drop (m + 1)).length := List.countP_le_length
      rw [List.length_drop] at h3
      omega
    · exact h
  exact ((wantF_is vs.length vs (s.getD m 0) hge vs 0 (h0 _ hx) hle).2.2 hx).symm
end Go.Proofs.Ytgaaffanoegbhaa

/- delphilaw21.BallotCount: its walk. -/
namespace Go.Proofs.Ytgaaffanoegbhaa
open Go.RowKit Sim Go Sym
set_option maxRecDepth 100000
set_option linter.unusedVariables false
set_option linter.unusedSimpArgs false
variable {base : Nat}
noncomputable def lBc : {F : LF // lowerF Try.prog 3 = some F} := ⟨_, rfl⟩
def prs (conf at_ : List Int) (j : Nat) : List (Int × Int) := (List.range j).map fun i => (conf.getD i 0, at_.getD i 0)
theorem prs_len (conf at_ : List Int) (j : Nat) : (prs conf at_ j).length = j := by simp [prs]
theorem prs_succ (conf at_ : List Int) (j : Nat) : prs conf at_ (j + 1) = prs conf at_ j ++ [(conf.getD j 0, at_.getD j 0)] := by simp [prs, List.range_succ]
theorem inc_pair : ∀ (l : List Int) (p : Int), incB p l = true → l.Pairwise (fun a b => a < b) ∧ ∀ x ∈ l, p < x
  | [], p, _ => ⟨List.Pairwise.nil, by simp⟩
  | b :: l, p, h => by
    simp only [incB, Bool.and_eq_true, decide_eq_true_eq] at h
    obtain ⟨h1, h2⟩ := inc_pair l b h.2
    refine ⟨List.pairwise_cons.2 ⟨h2, h1⟩, fun x hx => ?_⟩
    rcases List.mem_cons.1 hx with rfl | hx
    · exact h.1.1
    · have := h2 x hx; have := h.1.1; omega
theorem upd_es' (a v : Int) (l : List (Int × Int)) (c : Nat) (hc : c = l.length) (h : ∀ p ∈ l, a ≠ p.1) : updK a (.c (.p (.int .i64 v))) c (esOf 0 l) = esOf 0 (l ++ [(a, v)]) ∧ updC a (.c (.p (.int .i64 v))) c (esOf 0 l) = c + 1 := by subst hc; exact upd_es a v l h
theorem bc_fill (z0 z1 z2 : Bool) (conf yes at_ : List Int) (hc : conf.length ≤ 10) (hat : at_.length ≤ 140737488355328) (hi : incB 0 conf = true) (Q : QX) (hno : Q .ret [(6, .c (.p (.bool true)))] ⟨[], 0⟩)
    (hq : (∀ i, i < min conf.length at_.length → 0 ≤ at_.getD i 0) → Q (.exit 0) [(0, .c (.p (.tz z0 1 (inP conf) none))), (1, .c (.p (.tz z1 1 (inP yes) none))), (8, .c (.mp 0))] (hM (prs conf at_ (min conf.length at_.length)) (min conf.length at_.length))) :
    ∀ (r j : Nat), j + r = min conf.length at_.length → (∀ i, i < j → 0 ≤ at_.getD i 0) → XH Try.prog base lBc.1.n 0 (lBc.1.c.lp 0) [(0, .c (.p (.tz z0 1 (inP conf) none))), (1, .c (.p (.tz z1 1 (inP yes) none))), (2, .c (.p (.tz z2 1 (inP at_) none))), (8, .c (.mp 0)), (9, .c (.p (.int .i64 j)))] (hM (prs conf at_ j) j) Q := by
  intro r
  induction r with
  | zero =>
    intro j hj h0
    refine M.round (M.go rfl ?_)
    rw [Nat.add_zero] at hj
    refine M.dec rfl (fun h1 => ?_) (fun h1 => ?_)
    · refine M.go rfl ?_
      refine M.cond rfl (fun h2 => absurd h2 (by rw [inPl] at h1 ⊢; omega)) (fun h2 => ?_)
      refine M.ren [(0, 0)] ?_ trivial rfl (by repeat' (first | exact True.intro | refine ⟨⟨_, _, rfl, rfl, Wk.rfl⟩, ?_⟩ | refine ⟨⟨_, _, accV_ren rfl, rfl, Wk.rfl⟩, ?_⟩ | refine ⟨⟨_, _, accV_ren rfl, rfl, Wk.acc0⟩, ?_⟩ | refine ⟨⟨_, _, rfl, rfl, Wk.uncap⟩, ?_⟩ | refine ⟨⟨_, _, rfl, rfl, Wk.nil⟩, ?_⟩)) (by repeat' (first | exact True.intro | refine ⟨⟨_, _, _, rfl, rfl, rfl, WkO.rfl⟩, ?_⟩ | refine HeapOK.acc rfl rfl ?_ | refine HeapOK.es rfl rfl ?_)) (e' := [(0, .c (.p (.tz z0 1 (inP conf) none))), (1, .c (.p (.tz z1 1 (inP yes) none))), (8, .c (.mp 0))]) (h' := hM (prs conf at_ j) j)
      exact M.exit (M.go rfl (M.done (by rw [hj]; exact hq (by rw [← hj]; exact h0))))
    · refine M.go rfl ?_
      refine M.ren [(0, 0)] ?_ trivial rfl (by repeat' (first | exact True.intro | refine ⟨⟨_, _, rfl, rfl, Wk.rfl⟩, ?_⟩ | refine ⟨⟨_, _, accV_ren rfl, rfl, Wk.rfl⟩, ?_⟩ | refine ⟨⟨_, _, accV_ren rfl, rfl, Wk.acc0⟩, ?_⟩ | refine ⟨⟨_, _, rfl, rfl, Wk.uncap⟩, ?_⟩ | refine ⟨⟨_, _, rfl, rfl, Wk.nil⟩, ?_⟩)) (by repeat' (first | exact True.intro | refine ⟨⟨_, _, _, rfl, rfl, rfl, WkO.rfl⟩, ?_⟩ | refine HeapOK.acc rfl rfl ?_ | refine HeapOK.es rfl rfl ?_)) (e' := [(0, .c (.p (.tz z0 1 (inP conf) none))), (1, .c (.p (.tz z1 1 (inP yes) none))), (8, .c (.mp 0))]) (h' := hM (prs conf at_ j) j)
      exact M.exit (M.go rfl (M.done (by rw [hj]; exact hq (by rw [← hj]; exact h0))))
  | succ r ih =>
    intro j hj h0
    have hjc : j < conf.length := by omega
    have hja : j < at_.length := by omega
    refine M.round (M.go rfl ?_)
    refine M.dec rfl (fun h1 => ?_) (fun h1 => absurd (by rw [inPl]; omega) h1)
    refine M.go rfl ?_
    refine M.cond rfl (fun h2 => ?_) (fun h2 => absurd (by rw [inPl]; omega) h2)
    refine M.go rfl ?_
    have ua := inP_at at_ j hja
    have uc := inP_at conf j hjc
    refine M.op trivial (SOp.ia rfl rfl (by omega) ua) ?_
    refine M.op trivial (SOp.ld1e rfl ua rfl rfl rfl) ?_
    refine M.go rfl ?_
    refine M.cond rfl (fun h3 => ?_) (fun h3 => ?_)
    · refine M.go rfl ?_
      refine M.ren [] ?_ trivial rfl (by repeat' (first | exact True.intro | refine ⟨⟨_, _, rfl, rfl, Wk.rfl⟩, ?_⟩ | refine ⟨⟨_, _, accV_ren rfl, rfl, Wk.rfl⟩, ?_⟩ | refine ⟨⟨_, _, accV_ren rfl, rfl, Wk.acc0⟩, ?_⟩ | refine ⟨⟨_, _, rfl, rfl, Wk.uncap⟩, ?_⟩ | refine ⟨⟨_, _, rfl, rfl, Wk.nil⟩, ?_⟩)) (by repeat' (first | exact True.intro | refine ⟨⟨_, _, _, rfl, rfl, rfl, WkO.rfl⟩, ?_⟩ | refine HeapOK.acc rfl rfl ?_ | refine HeapOK.es rfl rfl ?_)) (e' := [(6, .c (.p (.bool true)))]) (h' := ⟨[], 0⟩)
      exact M.ret (M.go rfl (M.done hno))
    · refine M.go rfl (M.regD (MD.go rfl ?_))
      refine MD.op trivial (SOp.ia rfl rfl (by omega) uc) ?_
      refine MD.op trivial (SOp.ld1e rfl uc rfl rfl rfl) (MD.go rfl ?_)
      refine MD.op trivial (SOp.ia rfl rfl (by omega) ua) ?_
      refine MD.op trivial (SOp.ld1e rfl ua rfl rfl rfl) ?_
      refine MD.op trivial (SOp.upd KD.i64 rfl rfl rfl rfl rfl) ?_
      have hne : ∀ p ∈ prs conf at_ j, conf.getD j 0 ≠ p.1 := by
        intro p hp
        obtain ⟨i, hi2, rfl⟩ := List.mem_map.1 hp
        have hij := List.mem_range.1 hi2
        have := List.pairwise_iff_getElem.1 (inc_pair conf 0 hi).1 i j (by omega) hjc hij
        simp [List.getD, hjc, show i < conf.length by omega]
        omega
      obtain ⟨e1, e2⟩ := upd_es' (conf.getD j 0) (at_.getD j 0) (prs conf at_ j) j (prs_len _ _ _).symm hne
      rw [e1, e2, ← prs_succ]
      refine MD.go rfl (MD.nil mixed (Fnl.nodup rfl) (M.go rfl ?_))
      have hw2 : IntKind.i64.wrap ((j : Int) + 1) = ((j + 1 : Nat) : Int) := by rw [wr64 (by omega) (by omega)]; simp
      rw [hw2]
      exact M.again (XH.ren [(0, 0)] (ih (j + 1) (by omega) (fun i hij => by
        rcases Nat.lt_succ_iff_lt_or_eq.1 hij with h | rfl
        · exact h0 i h
        · omega)) rfl (by repeat' (first | exact True.intro | refine ⟨⟨_, _, rfl, rfl, Wk.rfl⟩, ?_⟩ | refine ⟨⟨_, _, accV_ren rfl, rfl, Wk.rfl⟩, ?_⟩ | refine ⟨⟨_, _, accV_ren rfl, rfl, Wk.acc0⟩, ?_⟩ | refine ⟨⟨_, _, rfl, rfl, Wk.uncap⟩, ?_⟩ | refine ⟨⟨_, _, rfl, rfl, Wk.nil⟩, ?_⟩)) (by repeat' (first | exact True.intro | refine ⟨⟨_, _, _, rfl, rfl, rfl, WkO.rfl⟩, ?_⟩ | refine HeapOK.acc rfl rfl ?_ | refine HeapOK.es rfl rfl ?_)))
def bcE (z0 z1 : Bool) (conf yes : List Int) (w : Int) (i : Nat) : Env := [(0, .c (.p (.tz z0 1 (inP conf) none))), (1, .c (.p (.tz z1 1 (inP yes) none))), (8, .c (.mp 0)), (10, .c (.p (.int .i64 w))), (11, .c (.p (.int .i64 i)))]
theorem bc_count (P : List (Int × Int)) (cl : Nat) (z0 z1 : Bool) (conf yes : List Int) (hc : conf.length ≤ 10) (w : Int) (i : Nat) (hi : i < conf.length) (V : Int) (hV : V = valI P (conf.getD i 0)) (Q : QX)
    (hq : Q (.exit 4) ((12, .c (.p (.int .i64 (cntG (vals P conf) V)))) :: bcE z0 z1 conf yes w i) (hM P cl)) :
    ∀ (rest pre : List Int), conf = pre ++ rest → XH Try.prog base lBc.1.n 0 (lBc.1.c.lp 2) ((13, .c (.p (.int .i64 pre.length))) :: (12, .c (.p (.int .i64 (cntG (vals P pre) V)))) :: bcE z0 z1 conf yes w i) (hM P cl) Q := by
  intro rest
  induction rest with
  | nil =>
    intro pre hp
    simp at hp
    subst hp
    refine M.round (M.go rfl ?_)
    refine M.cond rfl (fun h2 => absurd h2 (by rw [inPl]; omega)) (fun h2 => ?_)
    refine M.ren [(0, 0)] ?_ trivial rfl (by repeat' (first | exact True.intro | refine ⟨⟨_, _, rfl, rfl, Wk.rfl⟩, ?_⟩ | refine ⟨⟨_, _, accV_ren rfl, rfl, Wk.rfl⟩, ?_⟩ | refine ⟨⟨_, _, accV_ren rfl, rfl, Wk.acc0⟩, ?_⟩ | refine ⟨⟨_, _, rfl, rfl, Wk.uncap⟩, ?_⟩ | refine ⟨⟨_, _, rfl, rfl, Wk.nil⟩, ?_⟩)) (by repeat' (first | exact True.intro | refine ⟨⟨_, _, _, rfl, rfl, rfl, WkO.rfl⟩, ?_⟩ | refine HeapOK.acc rfl rfl ?_ | refine HeapOK.es rfl rfl ?_)) (e' := (12, .c (.p (.int .i64 (cntG (vals P conf) V)))) :: bcE z0 z1 conf yes w i) (h' := hM P cl)
    exact M.exit (M.go rfl (M.done hq))
  | cons a rest ih =>
    intro pre hp
    have hlen : conf.length = pre.length + (rest.length + 1) := by rw [hp]; simp
    have hu : (inP conf)[((pre.length : Int)).toNat]? = some (.int .i64 a) := by rw [hp]; exact at_app _ _ _ _
    have ui := inP_at conf i hi
    have ih' := ih (pre ++ [a]) (by rw [hp]; simp)
    have hcn : cntG (vals P pre) V ≤ pre.length := by have := List.countP_le_length (p := fun x => decide (V ≤ x)) (l := vals P pre); simpa [cntG, vals] using this
    have hca : cntG (vals P (pre ++ [a])) V = cntG (vals P pre) V + (if V ≤ valI P a then 1 else 0) := by simp [cntG, vals, List.countP_append, List.countP_cons]
    have hw2 : IntKind.i64.wrap ((pre.length : Int) + 1) = ((pre ++ [a]).length : Int) := by rw [wr64 (by omega) (by omega)]; simp
    refine M.round (M.go rfl ?_)
    refine M.cond rfl (fun h2 => ?_) (fun h2 => absurd (by rw [inPl]; omega) h2)
    refine M.go rfl (M.regD (MD.go rfl ?_))
    refine MD.op trivial (SOp.ia rfl rfl (by omega) hu) ?_
    refine MD.op trivial (SOp.ld1e rfl hu rfl rfl rfl) ?_
    refine MD.op trivial (SOp.look KD.i64 rfl rfl rfl) ?_
    rw [look_es]
    refine MD.go rfl ?_
    refine MD.op trivial (SOp.ia rfl rfl (by omega) ui) ?_
    refine MD.op trivial (SOp.ld1e rfl ui rfl rfl rfl) ?_
    refine MD.op trivial (SOp.look KD.i64 rfl rfl rfl) ?_
    rw [look_es, ← hV]
    refine MD.go rfl (MD.nil mixed (Fnl.nodup rfl) (M.go rfl ?_))
    refine M.cond rfl (fun h3 => ?_) (fun h3 => ?_)
    · refine M.go rfl ?_
      rw [hw2, show IntKind.i64.wrap ((cntG (vals P pre) V : Int) + 1) = ((cntG (vals P (pre ++ [a])) V : Nat) : Int) by rw [wr64 (by omega) (by omega), hca, if_pos h3]; simp]
      exact M.again (XH.ren [(0, 0)] ih' rfl (by repeat' (first | exact True.intro | refine ⟨⟨_, _, rfl, rfl, Wk.rfl⟩, ?_⟩ | refine ⟨⟨_, _, accV_ren rfl, rfl, Wk.rfl⟩, ?_⟩ | refine ⟨⟨_, _, accV_ren rfl, rfl, Wk.acc0⟩, ?_⟩ | refine ⟨⟨_, _, rfl, rfl, Wk.uncap⟩, ?_⟩ | refine ⟨⟨_, _, rfl, rfl, Wk.nil⟩, ?_⟩)) (by repeat' (first | exact True.intro | refine ⟨⟨_, _, _, rfl, rfl, rfl, WkO.rfl⟩, ?_⟩ | refine HeapOK.acc rfl rfl ?_ | refine HeapOK.es rfl rfl ?_)))
    · refine M.go rfl ?_
      rw [hca, if_neg h3, Nat.add_zero] at ih'
      rw [hw2]
      exact M.again (XH.ren [(0, 0)] ih' rfl (by repeat' (first | exact True.intro | refine ⟨⟨_, _, rfl, rfl, Wk.rfl⟩, ?_⟩ | refine ⟨⟨_, _, accV_ren rfl, rfl, Wk.rfl⟩, ?_⟩ | refine ⟨⟨_, _, accV_ren rfl, rfl, Wk.acc0⟩, ?_⟩ | refine ⟨⟨_, _, rfl, rfl, Wk.uncap⟩, ?_⟩ | refine ⟨⟨_, _, rfl, rfl, Wk.nil⟩, ?_⟩)) (by repeat' (first | exact True.intro | refine ⟨⟨_, _, _, rfl, rfl, rfl, WkO.rfl⟩, ?_⟩ | refine HeapOK.acc rfl rfl ?_ | refine HeapOK.es rfl rfl ?_)))
theorem bc_want (P : List (Int × Int)) (cl : Nat) (z0 z1 : Bool) (conf yes : List Int) (hc : conf.length ≤ 10) (Q : QX) (W : Int)
    (hq : Q (.exit 2) [(0, .c (.p (.tz z0 1 (inP conf) none))), (1, .c (.p (.tz z1 1 (inP yes) none))), (8, .c (.mp 0)), (10, .c (.p (.int .i64 W)))] (hM P cl)) :
    ∀ (rest pre : List Int) (w : Int), conf = pre ++ rest → wantF conf.length (vals P conf) (vals P rest) w = W → XH Try.prog base lBc.1.n 0 (lBc.1.c.lp 1) (bcE z0 z1 conf yes w pre.length) (hM P cl) Q := by
  intro rest
  induction rest with
  | nil =>
    intro pre w hp hW
    simp at hp
    subst hp
    obtain rfl : w = W := hW
    refine M.round (M.go rfl ?_)
    refine M.cond rfl (fun h2 => absurd h2 (by rw [inPl]; omega)) (fun h2 => ?_)
    refine M.ren [(0, 0)] ?_ trivial rfl (by repeat' (first | exact True.intro | refine ⟨⟨_, _, rfl, rfl, Wk.rfl⟩, ?_⟩ | refine ⟨⟨_, _, accV_ren rfl, rfl, Wk.rfl⟩, ?_⟩ | refine ⟨⟨_, _, accV_ren rfl, rfl, Wk.acc0⟩, ?_⟩ | refine ⟨⟨_, _, rfl, rfl, Wk.uncap⟩, ?_⟩ | refine ⟨⟨_, _, rfl, rfl, Wk.nil⟩, ?_⟩)) (by repeat' (first | exact True.intro | refine ⟨⟨_, _, _, rfl, rfl, rfl, WkO.rfl⟩, ?_⟩ | refine HeapOK.acc rfl rfl ?_ | refine HeapOK.es rfl rfl ?_)) (e' := [(0, .c (.p (.tz z0 1 (inP conf) none))), (1, .c (.p (.tz z1 1 (inP yes) none))), (8, .c (.mp 0)), (10, .c (.p (.int .i64 w)))]) (h' := hM P cl)
    exact M.exit (M.go rfl (M.done hq))
  | cons a rest ih =>
    intro pre w hp hW
    have hlen : conf.length = pre.length + (rest.length + 1) := by rw [hp]; simp
    have hu : (inP conf)[((pre.length : Int)).toNat]? = some (.int .i64 a) := by rw [hp]; exact at_app _ _ _ _
    have hga : conf.getD pre.length 0 = a := by rw [hp]; simp [List.getD]
    have hw2 : IntKind.i64.wrap ((pre.length : Int) + 1) = ((pre ++ [a]).length : Int) := by rw [wr64 (by omega) (by omega)]; simp
    have hcn : cntG (vals P conf) (valI P a) ≤ conf.length := by have := List.countP_le_length (p := fun x => decide (valI P a ≤ x)) (l := vals P conf); simpa [cntG, vals] using this
    rw [show vals P (a :: rest) = valI P a :: vals P rest from rfl, wantF] at hW
    refine M.round (M.go rfl ?_)
    refine M.cond rfl (fun h2 => ?_) (fun h2 => absurd (by rw [inPl]; omega) h2)
    refine M.go rfl ?_
    refine M.loop (XH.ren [(0, 0)] (bc_count P cl z0 z1 conf yes hc w pre.length (by omega) (valI P a) (by rw [hga]) _ ?_ conf [] rfl) rfl (by repeat' (first | exact True.intro | refine ⟨⟨_, _, rfl, rfl, Wk.rfl⟩, ?_⟩ | refine ⟨⟨_, _, accV_ren rfl, rfl, Wk.rfl⟩, ?_⟩ | refine ⟨⟨_, _, accV_ren rfl, rfl, Wk.acc0⟩, ?_⟩ | refine ⟨⟨_, _, rfl, rfl, Wk.uncap⟩, ?_⟩ | refine ⟨⟨_, _, rfl, rfl, Wk.nil⟩, ?_⟩)) (by repeat' (first | exact True.intro | refine ⟨⟨_, _, _, rfl, rfl, rfl, WkO.rfl⟩, ?_⟩ | refine HeapOK.acc rfl rfl ?_ | refine HeapOK.es rfl rfl ?_)))
    refine M.q (M.go rfl ?_)
    have hw3 : IntKind.i64.wrap (2 * (cntG (vals P conf) (valI P a) : Int)) = 2 * (cntG (vals P conf) (valI P a) : Int) := wr64 (by omega) (by omega)
    rw [hw3]
    refine M.dec rfl (fun h3 => ?_) (fun h3 => ?_)
    · rw [inPl] at h3
      refine M.go rfl ?_
      refine M.op rfl (SOp.ia rfl rfl (by omega) hu) ?_
      refine M.op rfl (SOp.ld1e rfl hu rfl rfl rfl) ?_
      refine M.op rfl (SOp.look KD.i64 rfl rfl rfl) ?_
      rw [look_es]
      refine M.go rfl ?_
      refine M.cond rfl (fun h4 => ?_) (fun h4 => ?_)
      · refine M.go rfl ?_
        refine M.op trivial (SOp.ia rfl rfl (by omega) hu) ?_
        refine M.op trivial (SOp.ld1e rfl hu rfl rfl rfl) ?_
        refine M.op trivial (SOp.look KD.i64 rfl rfl rfl) ?_
        rw [look_es]
        refine M.go rfl ?_
        rw [hw2]
        rw [if_pos ⟨by omega, h4⟩] at hW
        exact M.again (XH.ren [(0, 0)] (ih (pre ++ [a]) _ (by rw [hp]; simp) hW) rfl (by repeat' (first | exact True.intro | refine ⟨⟨_, _, rfl, rfl, Wk.rfl⟩, ?_⟩ | refine ⟨⟨_, _, accV_ren rfl, rfl, Wk.rfl⟩, ?_⟩ | refine ⟨⟨_, _, accV_ren rfl, rfl, Wk.acc0⟩, ?_⟩ | refine ⟨⟨_, _, rfl, rfl, Wk.uncap⟩, ?_⟩ | refine ⟨⟨_, _, rfl, rfl, Wk.nil⟩, ?_⟩)) (by repeat' (first | exact True.intro | refine ⟨⟨_, _, _, rfl, rfl, rfl, WkO.rfl⟩, ?_⟩ | refine HeapOK.acc rfl rfl ?_ | refine HeapOK.es rfl rfl ?_)))
      · refine M.go rfl ?_
        rw [hw2]
        rw [if_neg (fun h => h4 h.2)] at hW
        exact M.again (XH.ren [(0, 0)] (ih (pre ++ [a]) _ (by rw [hp]; simp) hW) rfl (by repeat' (first | exact True.intro | refine ⟨⟨_, _, rfl, rfl, Wk.rfl⟩, ?_⟩ | refine ⟨⟨_, _, accV_ren rfl, rfl, Wk.rfl⟩, ?_⟩ | refine ⟨⟨_, _, accV_ren rfl, rfl, Wk.acc0⟩, ?_⟩ | refine ⟨⟨_, _, rfl, rfl, Wk.uncap⟩, ?_⟩ | refine ⟨⟨_, _, rfl, rfl, Wk.nil⟩, ?_⟩)) (by repeat' (first | exact True.intro | refine ⟨⟨_, _, _, rfl, rfl, rfl, WkO.rfl⟩, ?_⟩ | refine HeapOK.acc rfl rfl ?_ | refine HeapOK.es rfl rfl ?_)))
    · rw [inPl] at h3
      refine M.go rfl ?_
      rw [hw2]
      rw [if_neg (fun h => h3 (by omega))] at hW
      exact M.again (XH.ren [(0, 0)] (ih (pre ++ [a]) _ (by rw [hp]; simp) hW) rfl (by repeat' (first | exact True.intro | refine ⟨⟨_, _, rfl, rfl, Wk.rfl⟩, ?_⟩ | refine ⟨⟨_, _, accV_ren rfl, rfl, Wk.rfl⟩, ?_⟩ | refine ⟨⟨_, _, accV_ren rfl, rfl, Wk.acc0⟩, ?_⟩ | refine ⟨⟨_, _, rfl, rfl, Wk.uncap⟩, ?_⟩ | refine ⟨⟨_, _, rfl, rfl, Wk.nil⟩, ?_⟩)) (by repeat' (first | exact True.intro | refine ⟨⟨_, _, _, rfl, rfl, rfl, WkO.rfl⟩, ?_⟩ | refine HeapOK.acc rfl rfl ?_ | refine HeapOK.es rfl rfl ?_)))
theorem valI_nn : ∀ (l : List (Int × Int)) (a : Int), (∀ p ∈ l, 0 ≤ p.2) → 0 ≤ valI l a
  | [], _, _ => by simp [valI]
  | p :: l, a, h => by
    rw [valI]
    split
    · exact h p (by simp)
    · exact valI_nn l a fun q hq => h q (by simp [hq])
theorem BallotCount_spec (z0 z1 z2 : Bool) (conf0 yes0 at_ : List Int) (hat : at_.length ≤ 140737488355328) : CallS Try.prog base 3 [.c (.p (.tz z0 1 (inP conf0) none)), .c (.p (.tz z1 1 (inP yes0) none)), .c (.p (.tz z2 1 (inP at_) none))] ⟨[], 0⟩ (.c (.p (.bool true))) ⟨[], 0⟩ := by
  refine CallS.of noNG lBc.2 rfl (M.start (M.go rfl ?_))
  refine M.use0 trivial begun21_spec rfl rfl rfl ?_
  refine M.go rfl ?_
  refine M.use0 trivial (cut10_spec z0 conf0 none) rfl rfl rfl ?_
  refine M.go rfl ?_
  refine M.use0 trivial (cut10_spec z1 yes0 none) rfl rfl rfl ?_
  obtain ⟨conf, hcf⟩ : ∃ conf, conf = conf0.take 10 := ⟨_, rfl⟩
  obtain ⟨yes, hye⟩ : ∃ yes, yes = yes0.take 10 := ⟨_, rfl⟩
  have hcl : conf.length ≤ 10 := by rw [hcf]; simp; omega
  have hyl : yes.length ≤ 10 := by rw [hye]; simp; omega
  rw [← hcf, ← hye]
  refine M.go rfl ?_
  refine M.use0 trivial (mbr_spec z0 none conf (by omega)) rfl rfl rfl ?_
  refine M.go rfl ?_
  refine M.condB rfl (fun h => ?_) (fun h => ?_)
  · refine M.go rfl ?_
    refine M.use0 trivial gr_nil rfl rfl rfl ?_
    refine M.go rfl ?_
    refine M.dec rfl (fun _ => ?_) (fun h => absurd rfl h)
    refine M.go rfl ?_
    refine M.use0 rfl (maj_nil _ (.inr ⟨z1, yes, none, rfl⟩)) rfl rfl rfl ?_
    refine M.go rfl ?_
    exact M.ret (M.go rfl (M.done (finQ.ret [] rfl rfl rfl (Wk.of rfl) (by repeat' (first | exact True.intro | refine ⟨⟨_, _, _, rfl, rfl, rfl, WkO.rfl⟩, ?_⟩ | refine HeapOK.acc rfl rfl ?_ | refine HeapOK.es rfl rfl ?_)))))
  · have hm : mayI conf = true := by simpa using h
    have hi : incB 0 conf = true := by simpa using (Bool.and_eq_true _ _ ▸ hm : _ ∧ _).1
    have h1 : 1 ≤ conf.length := by
      cases conf with
      | nil => simp [mayI] at hm
      | cons a l => simp
    have h7 : conf.length ≤ 7 := by have := incB_len conf 0 (by decide) hi; omega
    refine M.go rfl ?_
    refine M.op trivial SOp.mkM ?_
    refine M.go rfl ?_
    refine M.loop (XH.ren [(0, 0)] (bc_fill z0 z1 z2 conf yes at_ hcl hat hi _ ?_ (fun hnn => ?_) (min conf.length at_.length) 0 (by omega) (by omega)) rfl (by repeat' (first | exact True.intro | refine ⟨⟨_, _, rfl, rfl, Wk.rfl⟩, ?_⟩ | refine ⟨⟨_, _, accV_ren rfl, rfl, Wk.rfl⟩, ?_⟩ | refine ⟨⟨_, _, accV_ren rfl, rfl, Wk.acc0⟩, ?_⟩ | refine ⟨⟨_, _, rfl, rfl, Wk.uncap⟩, ?_⟩ | refine ⟨⟨_, _, rfl, rfl, Wk.nil⟩, ?_⟩)) (by repeat' (first | exact True.intro | refine ⟨⟨_, _, _, rfl, rfl, rfl, WkO.rfl⟩, ?_⟩ | refine HeapOK.acc rfl rfl ?_ | refine HeapOK.es rfl rfl ?_)))
    · refine M.q (M.go rfl ?_)
      exact M.done (finQ.ret [] rfl rfl rfl Wk.rfl (by repeat' (first | exact True.intro | refine ⟨⟨_, _, _, rfl, rfl, rfl, WkO.rfl⟩, ?_⟩ | refine HeapOK.acc rfl rfl ?_ | refine HeapOK.es rfl rfl ?_)))
    · obtain ⟨n0, hn0⟩ : ∃ n0, n0 = min conf.length at_.length := ⟨_, rfl⟩
      rw [← hn0] at hnn ⊢
      refine M.q (M.go rfl ?_)
      obtain ⟨P, hP⟩ : ∃ P, P = prs conf at_ n0 := ⟨_, rfl⟩
      have hPn : ∀ p ∈ P, 0 ≤ p.2 := by
        intro p hp
        rw [hP] at hp
        obtain ⟨i, hi2, rfl⟩ := List.mem_map.1 hp
        exact hnn i (List.mem_range.1 hi2)
      rw [← hP]
      have hlv : (vals P conf).length = conf.length := by simp [vals]
      have hgw : grI P conf = wantF conf.length (vals P conf) (vals P conf) 0 := by
        have := gr_want (vals P conf) (by omega) (fun v hv => by
          obtain ⟨a, _, rfl⟩ := List.mem_map.1 hv
          exact valI_nn P a hPn)
        rw [hlv] at this
        exact this
      refine M.loop (XH.ren [(0, 0)] (bc_want P n0 z0 z1 conf yes hcl _ _ ?_ conf [] 0 rfl rfl) rfl (by repeat' (first | exact True.intro | refine ⟨⟨_, _, rfl, rfl, Wk.rfl⟩, ?_⟩ | refine ⟨⟨_, _, accV_ren rfl, rfl, Wk.rfl⟩, ?_⟩ | refine ⟨⟨_, _, accV_ren rfl, rfl, Wk.acc0⟩, ?_⟩ | refine ⟨⟨_, _, rfl, rfl, Wk.uncap⟩, ?_⟩ | refine ⟨⟨_, _, rfl, rfl, Wk.nil⟩, ?_⟩)) (by repeat' (first | exact True.intro | refine ⟨⟨_, _, _, rfl, rfl, rfl, WkO.rfl⟩, ?_⟩ | refine HeapOK.acc rfl rfl ?_ | refine HeapOK.es rfl rfl ?_)))
      refine M.q (M.go rfl ?_)
      refine M.use0 trivial (maj_spec z0 z1 none none conf yes (by omega) (by omega)) rfl rfl rfl ?_
      refine M.go rfl ?_
      refine M.use0 trivial (rmaj_spec z0 z1 none none conf yes (by omega) (by omega)) rfl rfl rfl ?_
      refine M.go rfl ?_
      refine M.decB rfl (fun _ => ?_) (fun h => by simp at h)
      refine M.go rfl ?_
      refine M.use rfl (gr_spec P n0 z0 none conf h7 h1) [(0, 0)] rfl rfl rfl (by repeat' (first | exact True.intro | refine ⟨⟨_, _, _, rfl, rfl, rfl, WkO.rfl⟩, ?_⟩ | refine HeapOK.acc rfl rfl ?_ | refine HeapOK.es rfl rfl ?_)) rfl (by simp only [hM, frameL, XO.ren, renE_mK KD.i64 (es_ren _ P 0)]; rfl) ?_
      refine M.go rfl ?_
      exact M.ret (M.go rfl (M.done (finQ.ret [] rfl rfl rfl (Wk.of (by simp [XV.sv, XC.sc, PC.sc, hgw])) (by repeat' (first | exact True.intro | refine ⟨⟨_, _, _, rfl, rfl, rfl, WkO.rfl⟩, ?_⟩ | refine HeapOK.acc rfl rfl ?_ | refine HeapOK.es rfl rfl ?_)))))
theorem BallotCount_law {p0 p1 p2 : PC} (h0 : Is (.sl 1 8 (.int .i64)) p0) (h1 : Is (.sl 1 8 (.int .i64)) p1) (h2 : Is (.sl 1 8 (.int .i64)) p2) : CallS Try.prog base 3 [xvP p0, xvP p1, xvP p2] ⟨[], 0⟩ (.c (.p (.bool true))) ⟨[], 0⟩ := by
  obtain ⟨z0, l0, rfl, -⟩ := h0.ints
  obtain ⟨z1, l1, rfl, -⟩ := h1.ints
  obtain ⟨z2, l2, rfl, a2, -⟩ := h2.ints
  exact BallotCount_spec z0 z1 z2 l0 l1 l2 (by omega)
end Go.Proofs.Ytgaaffanoegbhaa
