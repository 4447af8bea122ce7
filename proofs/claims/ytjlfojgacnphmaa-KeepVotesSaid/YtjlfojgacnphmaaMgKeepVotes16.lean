/- Texts of this claim, several in one: K3, K4, K5, K6, K7, K8, K9, K10, K11, K12, K13, K14. -/
import Derived.Test.YtjlfojgacnphmaaMgKeepVotes15
namespace Go.Proofs.Ytjlfojgacnphmaa
open Go.RowKit Sim Go Sym
set_option maxRecDepth 100000
set_option linter.unusedVariables false
set_option linter.unusedSimpArgs false
variable {base : Nat}
def KE.cl (e : KE) : KE := ⟨e.i, e.t, e.k, e.z, e.d, none⟩
noncomputable def lKcl : {F : LF // lowerF Try.prog 82 = some F} := ⟨_, rfl⟩
theorem cl_loop (z : Bool) (c : Option Nat) (l : List KE) (hl : l.length ≤ 100000) (hd : ∀ e ∈ l, e.d.length ≤ 1000000) (Q : QX) (hq : Q (.exit 0) [(3, accV 0 4 (keP (l.map KE.cl)))] ⟨[(0, accO 4 (keP (l.map KE.cl)))], 1⟩) :
    ∀ (rest pre : List KE), l = pre ++ rest → XH Try.prog base lKcl.1.n 0 (lKcl.1.c.lp 0) [(6, .c (.p (.tz z 4 (keP l) c))), (7, .c (.p (.int .i64 l.length))), (8, .c (.p (.int .i64 pre.length))), (3, accV 0 4 (keP (pre.map KE.cl)))] ⟨[(0, accO 4 (keP (pre.map KE.cl)))], 1⟩ Q := by
  intro rest
  induction rest with
  | nil =>
    intro pre hp
    simp at hp
    subst hp
    refine M.round (M.go rfl ?_)
    refine M.cond rfl (fun hc => absurd hc (by omega)) (fun hc => ?_)
    refine M.ren [(0, 0)] ?_ trivial rfl (by repeat' (first | exact True.intro | refine evC rfl rfl Wk.rfl ?_ | refine evC (accV_ren rfl) rfl Wk.rfl ?_ | refine evC (accV_ren rfl) rfl Wk.acc0 ?_ | refine evC rfl rfl Wk.uncap ?_ | refine evC rfl rfl Wk.nil ?_)) (by repeat' (first | exact True.intro | refine hpC rfl rfl rfl ?_ | refine ⟨⟨_, _, _, rfl, rfl, rfl, @WkO.rfl _⟩, ?_⟩ | refine HeapOK.acc rfl rfl ?_)) (e' := [(3, accV 0 4 (keP (l.map KE.cl)))]) (h' := ⟨[(0, accO 4 (keP (l.map KE.cl)))], 1⟩)
    exact M.exit (M.go rfl (M.done hq))
  | cons a rest ih =>
    intro pre hp
    have hlen : l.length = pre.length + (rest.length + 1) := by rw [hp]; simp
    have hu := keAt l pre rest a hp
    have hda := hd a (by rw [hp]; simp)
    have hpl : (keP (pre.map KE.cl)).length = pre.length := by simp [keP]
    have hw2 : IntKind.i64.wrap ((pre.length : Int) + 1) = ((pre ++ [a]).length : Int) := by rw [wr64 (by omega) (by omega)]; simp
    refine M.round (M.go rfl ?_)
    refine M.cond rfl (fun hc => ?_) (fun hc => absurd (by omega) hc)
    refine M.go rfl ?_
    refine M.op trivial (SOp.ia rfl rfl (by omega) hu) ?_
    refine M.op trivial (SOp.ldne (m := 4) (u := a.pc) rfl (by rw [Int.toNat_natCast] at hu ⊢; exact hu) rfl rfl rfl) ?_
    refine M.go rfl ?_
    refine M.use0 trivial (bcl_spec a.z (u8P a.d) a.c (by rw [u8P_len]; omega)) rfl rfl rfl ?_
    refine M.go rfl ?_
    refine M.acc trivial rfl rfl rfl (.own rfl rfl) (by simp) (by rw [hpl]; simp; omega) ?_
    refine M.go rfl ?_
    rw [hw2]
    have ih' := ih (pre ++ [a]) (by rw [hp]; simp)
    rw [show keP ((pre ++ [a]).map KE.cl) = keP (pre.map KE.cl) ++ [a.cl.pc] by simp [keP]] at ih'
    exact M.again (XH.ren [(0, 3)] ih' rfl (by repeat' (first | exact True.intro | refine evC rfl rfl Wk.rfl ?_ | refine evC (accV_ren rfl) rfl Wk.rfl ?_ | refine evC (accV_ren rfl) rfl Wk.acc0 ?_ | refine evC rfl rfl Wk.uncap ?_ | refine evC rfl rfl Wk.nil ?_)) (by repeat' (first | exact True.intro | refine hpC rfl rfl rfl ?_ | refine ⟨⟨_, _, _, rfl, rfl, rfl, @WkO.rfl _⟩, ?_⟩ | refine HeapOK.acc rfl rfl ?_)))
theorem cloned_spec (z : Bool) (c : Option Nat) (l : List KE) (hl : l.length ≤ 100000) (hd : ∀ e ∈ l, e.d.length ≤ 1000000) : CallS Try.prog base 82 [.c (.p (.tz z 4 (keP l) c))] ⟨[], 0⟩ (.c (.p (.tz true 4 (keP (l.map KE.cl)) none))) ⟨[], 0⟩ := by
  have hil := keP_len l
  refine CallS.of noNG lKcl.2 rfl (M.start (M.go rfl ?_))
  rw [hil]
  refine M.loop (XH.ren [(0, 0)] (cl_loop z c l hl hd _ ?_ l [] rfl) rfl (by repeat' (first | exact True.intro | refine evC rfl rfl Wk.rfl ?_ | refine evC (accV_ren rfl) rfl Wk.rfl ?_ | refine evC (accV_ren rfl) rfl Wk.acc0 ?_ | refine evC rfl rfl Wk.uncap ?_ | refine evC rfl rfl Wk.nil ?_)) ?_)
  · refine M.q (M.go rfl ?_)
    refine M.accF (i := 2) rfl rfl ?_
    exact M.ret (M.go rfl (M.done (finQ.ret [] rfl rfl rfl (by first | exact Wk.rfl | exact Wk.uncap | exact Wk.nil | exact Wk.b1 rfl | exact Wk.t2 Wk.rfl (Wk.b1 rfl)) (by repeat' (first | exact True.intro | refine hpC rfl rfl rfl ?_ | refine ⟨⟨_, _, _, rfl, rfl, rfl, @WkO.rfl _⟩, ?_⟩ | refine HeapOK.acc rfl rfl ?_)))))
  · exact trivial
theorem cloned_own (z : Bool) (c : Option Nat) (a : KE) (l : List KE) (hl : l.length < 100000) (hd : ∀ e ∈ a :: l, e.d.length ≤ 1000000) : CallS Try.prog base 82 [.c (.p (.tz z 4 (keP (a :: l)) c))] ⟨[], 0⟩ (.c (.sl 0 0 (keP ((a :: l).map KE.cl)).length 4 none)) ⟨[(0, some (.els 4 (keP ((a :: l).map KE.cl))))], 1⟩ := by
  have hil := keP_len (a :: l)
  refine CallS.of noNG lKcl.2 rfl (M.start (M.go rfl ?_))
  rw [hil]
  refine M.loop (XH.ren [(0, 0)] (cl_loop z c (a :: l) (by simp; omega) hd _ ?_ (a :: l) [] rfl) rfl (by repeat' (first | exact True.intro | refine evC rfl rfl Wk.rfl ?_ | refine evC (accV_ren rfl) rfl Wk.rfl ?_ | refine evC (accV_ren rfl) rfl Wk.acc0 ?_ | refine evC rfl rfl Wk.uncap ?_ | refine evC rfl rfl Wk.nil ?_)) ?_)
  · refine M.q (M.go rfl ?_)
    exact M.ret (M.go rfl (M.done (finQ.ret [(0, 0)] rfl rfl rfl (rowAcc rfl 4 0) (by repeat' (first | exact True.intro | refine hpC rfl rfl rfl ?_ | refine ⟨⟨_, _, _, rfl, rfl, rfl, @WkO.rfl _⟩, ?_⟩ | refine HeapOK.acc rfl rfl ?_)))))
  · exact trivial
structure KSn where
  i : Int
  t : Int
  zc : Bool
  conf : List Int
  cc : Option Nat
  z : Bool
  d : List Int
  c : Option Nat
def KSn.cs (s : KSn) : List PC := [.int .i64 s.i, .int .i64 s.t, .tz s.zc 1 (inP s.conf) s.cc, .tz s.z 1 (u8P s.d) s.c]
def KSn.zero : KSn := ⟨0, 0, true, [], none, true, [], none⟩
structure KVl where
  t : Int
  v : Int
  s : KSn
  z : Bool
  es : List KE
  c : Option Nat
def KVl.row (k : KVl) : List XC := .ptr 2 0 :: .p (.int .i64 k.t) :: .p (.int .i64 k.v) :: .p (.int .i64 k.s.i) :: .p (.int .i64 k.s.t) :: .p (.tz k.s.zc 1 (inP k.s.conf) k.s.cc) :: .p (.tz k.s.z 1 (u8P k.s.d) k.s.c) :: .p (.tz k.z 4 (keP k.es) k.c) :: []
def KVl.zero : KVl := ⟨0, 0, KSn.zero, true, [], none⟩
def kMem : WS × Option KVl → HS
  | (s, none) => s.mem
  | (s, some k) => ⟨(1, some (.row k.row true)) :: s.mem.l, 8⟩
def kFam : Fam := ⟨WS × Option KVl, kMem, 8, fun _ => false⟩
theorem clo_gi {l : List (Nat × Option XO)} (h : Clo wFam.gi l) : Clo kFam.gi l := by
  have hm : ∀ b c, wFam.gi b = some c → kFam.gi b = some c := fun b c hb => by
    obtain ⟨rfl, h1, h2⟩ := Fam.gi_some hb
    unfold Fam.gi
    have h1 : c < 8 := h1
    rw [show Nat.blt c kFam.m = true from by rw [Nat.blt_eq]; exact h1]
    rfl
  induction l with
  | nil => trivial
  | cons p r ih =>
    obtain ⟨b, x⟩ := p
    cases x with
    | none => exact ih h
    | some o => exact ⟨⟨hm _ _ h.1.1, XO.ren_mono hm h.1.2⟩, ih h.2⟩
theorem kOK : kFam.OK := by
  refine ⟨?_, ?_, ?_⟩
  · rintro ⟨s, _ | k⟩
    · exact wOK.nx s
    · rfl
  · rintro ⟨s, _ | k⟩
    · exact clo_gi (wOK.clo s)
    · exact ⟨⟨rfl, rfl⟩, clo_gi (wOK.clo s)⟩
  · rintro ⟨s, _ | k⟩
    · exact wOK.nd s
    · obtain ⟨room, first, en, L, lc, F, c, _ | ⟨w, W⟩, _ | _ | ⟨o, m, X, Y⟩⟩ := s
      all_goals rfl
abbrev CK (base : Nat) := CallR Try.prog base kFam 2
abbrev CK3 (base : Nat) := CallR Try.prog base kFam 3
noncomputable def lHard : {F : LF // lowerF Try.prog 46 = some F} := ⟨_, rfl⟩
noncomputable def lEnts : {F : LF // lowerF Try.prog 47 = some F} := ⟨_, rfl⟩
end Go.Proofs.Ytjlfojgacnphmaa

namespace Go.Proofs.Ytjlfojgacnphmaa
open Go.RowKit Sim Go Sym
set_option maxRecDepth 100000
set_option linter.unusedVariables false
set_option linter.unusedSimpArgs false
variable {base : Nat}
noncomputable def lBeh : {F : LF // lowerF Try.prog 79 = some F} := ⟨_, rfl⟩
def keepN (k : KVl) (f : Int) : Nat := (min (max (f - k.s.i - 1) 0) (k.es.length : Int)).toNat
def esB (k : KVl) (f : Int) (l : List KE) : List KE := (k.es.take (keepN k f)).map KE.cl ++ l.map KE.cl
def hdB (k : KVl) (sv : Bool) (t v : Int) : List XC := if sv = true then [.p (.int .i64 t), .p (.int .i64 v)] else [.p (.int .i64 k.t), .p (.int .i64 k.v)]
theorem K_behind0 (s : WS) (k : KVl) (t v : Int) (sv : Bool) (z : Bool) (l : List KE) (c : Option Nat) (x m r : PC) : CK3 base 79 [.c (.ptr 1 0), .agg (rdA t v sv 0 z l c x m r)] (s, some k)
    (fun q s' => q = .tup [.agg (hdB k sv t v), .agg (k.s.cs.map XC.p), .c (.p (.tz k.z 4 (keP k.es) k.c))] ∧ s' = (s, some k)) := by
  refine CallR.of kOK noNG lBeh.2 rfl (M.start (M.go rfl ?_))
  refine M.regG rfl (MN.go rfl ?_)
  refine MN.nil mixed (Fnl.nodup rfl) rfl ⟨⟨stepX_ok rfl, trivial⟩, ⟨stepX_ok rfl, stepX_ok rfl, trivial⟩, ⟨stepX_ok rfl, stepX_ok rfl, stepX_ok rfl, trivial⟩, trivial⟩ (M.go rfl ?_)
  cases sv
  · refine M.condB rfl (fun h => by cases h) (fun _ => ?_)
    refine M.go rfl ?_
    refine M.cond rfl (fun h => absurd h (by omega)) (fun _ => ?_)
    refine M.go rfl ?_
    refine M.regF (MF.go rfl ?_)
    refine MF.nil mixed (Fnl.nodup rfl) rfl ⟨⟨stepX_ok rfl, trivial⟩, trivial⟩ (M.go rfl ?_)
    exact M.ret (M.go rfl (M.done (finR.ret kOK (.tup [.agg (hdB k false t v), .agg (k.s.cs.map XC.p), .c (.p (.tz k.z 4 (keP k.es) k.c))]) ((s, some k) : WS × Option KVl) [(0, 0), (1, 1), (2, 2), (3, 3), (4, 4), (5, 5), (6, 6), (7, 7)] rfl rfl rfl Wk.rfl ⟨(hpX rfl rfl rfl), HeapOK.fam wOK (by repeat' (first | exact Tl.here | refine Tl.cons rfl ?_)) rfl⟩ ⟨rfl, rfl⟩)))
  · refine M.condB rfl (fun _ => ?_) (fun h => by cases h)
    refine M.go rfl ?_
    refine M.cond rfl (fun h => absurd h (by omega)) (fun _ => ?_)
    refine M.go rfl ?_
    refine M.regF (MF.go rfl ?_)
    refine MF.nil mixed (Fnl.nodup rfl) rfl ⟨⟨stepX_ok rfl, trivial⟩, trivial⟩ (M.go rfl ?_)
    exact M.ret (M.go rfl (M.done (finR.ret kOK (.tup [.agg (hdB k true t v), .agg (k.s.cs.map XC.p), .c (.p (.tz k.z 4 (keP k.es) k.c))]) ((s, some k) : WS × Option KVl) [(0, 0), (1, 1), (2, 2), (3, 3), (4, 4), (5, 5), (6, 6), (7, 7)] rfl rfl rfl Wk.rfl ⟨(hpX rfl rfl rfl), HeapOK.fam wOK (by repeat' (first | exact Tl.here | refine Tl.cons rfl ?_)) rfl⟩ ⟨rfl, rfl⟩)))
theorem K_behindF (s : WS) (k : KVl) (t v : Int) (sv : Bool) (f : Int) (z : Bool) (l : List KE) (c : Option Nat) (x m r : PC) (hf : 1 ≤ f ∧ f ≤ 2000000000000000) (hs : 0 ≤ k.s.i ∧ k.s.i ≤ 2000000000000000) (hl : l.length ≤ 10000) (hd : ∀ e ∈ l, e.d.length ≤ 1000000) (hkl : k.es.length ≤ 10000) (hkd : ∀ e ∈ k.es, e.d.length ≤ 1000000) :
    CK3 base 79 [.c (.ptr 1 0), .agg (rdA t v sv f z l c x m r)] (s, some k)
    (fun q s' => q = .tup [.agg (hdB k sv t v), .agg (k.s.cs.map XC.p), .c (.p (.tz (esB k f l).isEmpty 4 (keP (esB k f l)) none))] ∧ s' = (s, some k)) := by
  have hil := keP_len k.es
  obtain ⟨n0, hn0⟩ : ∃ n0, n0 = keepN k f := ⟨_, rfl⟩
  have hn0l : n0 ≤ k.es.length := by rw [hn0, keepN]; omega
  have hmin : minI (maxI (IntKind.i64.wrap (IntKind.i64.wrap (f - k.s.i) - 1)) 0) (k.es.length : Int) = (n0 : Int) := by
    rw [wr64 (n := f - k.s.i) (by omega) (by omega), wr64 (n := f - k.s.i - 1) (by omega) (by omega), hn0, keepN]
    unfold minI maxI
    split <;> split at * <;> omega
  have htk : ((keP k.es).drop 0).take (n0 - 0) = keP (k.es.take n0) := by simp [keP]
  have hA : ∀ e ∈ k.es.take n0, e.d.length ≤ 1000000 := fun e he => hkd e (List.mem_of_mem_take he)
  have hAl : (k.es.take n0).length ≤ 10000 := by rw [List.length_take]; omega
  have hesB : esB k f l = (k.es.take n0).map KE.cl ++ l.map KE.cl := by rw [esB, hn0]
  rw [hesB]
  refine CallR.of kOK noNG lBeh.2 rfl (M.start (M.go rfl ?_))
  refine M.regG rfl (MN.go rfl ?_)
  refine MN.nil mixed (Fnl.nodup rfl) rfl ⟨⟨stepX_ok rfl, trivial⟩, ⟨stepX_ok rfl, stepX_ok rfl, trivial⟩, ⟨stepX_ok rfl, stepX_ok rfl, stepX_ok rfl, trivial⟩, trivial⟩ (M.go rfl ?_)
  cases sv
  · refine M.condB rfl (fun h => by cases h) (fun _ => ?_)
    refine M.go rfl ?_
    refine M.cond rfl (fun _ => ?_) (fun h => absurd (by omega) h)
    refine M.go rfl ?_
    refine M.regF (MF.go rfl ?_)
    rw [hil, hmin]
    refine MF.op trivial (SOp.sl (l := 0) (r := n0) rfl rfl ⟨_, _, rfl, by omega, by omega⟩ (by omega) (by omega)) (MF.go rfl ?_)
    rw [htk]
    cases hAc : k.es.take n0 with
    | nil =>
      refine MF.use0 trivial (cloned_spec _ _ [] (by simp) (by simp)) rfl rfl rfl (MF.go rfl ?_)
      refine MF.use0 trivial (cloned_spec z c l (by omega) hd) rfl rfl rfl (MF.go rfl ?_)
      cases l with
      | nil =>
        refine MF.op trivial (SOp.app0 rfl rfl .tz (.inr ⟨_, _, _, _, rfl⟩)) (MF.go rfl ?_)
        refine MF.nil mixed (Fnl.two fun h => ⟨rfl, rfl⟩) rfl ⟨⟨stepX_ok rfl, trivial⟩, trivial⟩ (M.go rfl ?_)
        refine M.regF (MF.go rfl ?_)
        refine MF.nil mixed (Fnl.nodup rfl) rfl ⟨⟨stepX_ok rfl, trivial⟩, trivial⟩ (M.go rfl ?_)
        exact M.ret (M.go rfl (M.done (finR.ret kOK (.tup [.agg (hdB k false t v), .agg (k.s.cs.map XC.p), .c (.p (.tz (([] : List KE)).isEmpty 4 (keP (([] : List KE))) none))]) ((s, some k) : WS × Option KVl) [(0, 0), (1, 1), (2, 2), (3, 3), (4, 4), (5, 5), (6, 6), (7, 7)] rfl rfl rfl Wk.rfl ⟨(hpX rfl rfl rfl), HeapOK.fam wOK (by repeat' (first | exact Tl.here | refine Tl.cons rfl ?_)) rfl⟩ ⟨rfl, rfl⟩)))
      | cons b l =>
        refine MF.op trivial (SOp.appN (el := keP ((b :: l).map KE.cl)) rfl rfl .tz (by simp [keP]) (by simp [keP] at hl ⊢; omega)) (MF.go rfl ?_)
        refine MF.nil mixed (Fnl.two fun h => absurd h.2.1 (by simp [XV.sv, XC.sc, PC.sc, keP]; cases (k.z && k.es.isEmpty) <;> simp)) rfl ⟨⟨stepX_ok rfl, trivial⟩, trivial⟩ (M.goN 2 rfl ?_)
        refine M.freezeN (i := 9) rfl rfl rfl ?_
        refine M.go rfl ?_
        refine M.regF (MF.go rfl ?_)
        refine MF.nil mixed (Fnl.nodup rfl) rfl ⟨⟨stepX_ok rfl, trivial⟩, trivial⟩ (M.go rfl ?_)
        exact M.ret (M.go rfl (M.done (finR.ret kOK (.tup [.agg (hdB k false t v), .agg (k.s.cs.map XC.p), .c (.p (.tz ((b :: l).map KE.cl).isEmpty 4 (keP ((b :: l).map KE.cl)) none))]) ((s, some k) : WS × Option KVl) [(0, 0), (1, 1), (2, 2), (3, 3), (4, 4), (5, 5), (6, 6), (7, 7)] rfl rfl rfl Wk.rfl ⟨(hpX rfl rfl rfl), HeapOK.fam wOK (by repeat' (first | exact Tl.here | refine Tl.cons rfl ?_)) rfl⟩ ⟨rfl, rfl⟩)))
    | cons a A =>
      rw [hAc] at hA hAl
      refine MF.use trivial (cloned_own _ _ a A (by simp at hAl; omega) hA) [] rfl rfl rfl trivial rfl rfl (MF.go rfl ?_)
      refine MF.use0 trivial (cloned_spec z c l (by omega) hd) rfl rfl rfl (MF.go rfl ?_)
      cases l with
      | nil =>
        refine MF.op trivial (SOp.app0 rfl rfl .tz (.inl ⟨_, _, _, _, _, rfl⟩)) (MF.go rfl ?_)
        refine MF.nil mixed (Fnl.two fun h => absurd (congrArg SH.next h.2.2) (Nat.ne_of_lt (Nat.lt_succ_self _))) rfl ⟨⟨stepX_ok rfl, trivial⟩, trivial⟩ (M.goN 2 rfl ?_)
        refine M.freezeN (i := 9) rfl rfl rfl ?_
        rw [List.map_nil, List.append_nil]
        refine M.go rfl ?_
        refine M.regF (MF.go rfl ?_)
        refine MF.nil mixed (Fnl.nodup rfl) rfl ⟨⟨stepX_ok rfl, trivial⟩, trivial⟩ (M.go rfl ?_)
        exact M.ret (M.go rfl (M.done (finR.ret kOK (.tup [.agg (hdB k false t v), .agg (k.s.cs.map XC.p), .c (.p (.tz ((a :: A).map KE.cl).isEmpty 4 (keP ((a :: A).map KE.cl)) none))]) ((s, some k) : WS × Option KVl) [(0, 0), (1, 1), (2, 2), (3, 3), (4, 4), (5, 5), (6, 6), (7, 7)] rfl rfl rfl Wk.rfl ⟨(hpX rfl rfl rfl), HeapOK.fam wOK (by repeat' (first | exact Tl.here | refine Tl.cons rfl ?_)) rfl⟩ ⟨rfl, rfl⟩)))
      | cons b l =>
        refine MF.op trivial (SOp.appO (ex := keP ((a :: A).map KE.cl)) (el := keP ((b :: l).map KE.cl)) rfl rfl rfl rfl .tz (by simp [keP]) (by simp [keP] at hl hAl ⊢; omega)) (MF.go rfl ?_)
        refine MF.nil mixed (Fnl.two fun h => absurd (congrArg SH.next h.2.2) (Nat.ne_of_lt (Nat.lt_succ_self _))) rfl ⟨⟨stepX_ok rfl, trivial⟩, trivial⟩ (M.goN 2 rfl ?_)
        refine M.freezeN (i := 9) (el := keP ((a :: A).map KE.cl) ++ keP ((b :: l).map KE.cl)) rfl rfl (by simp) ?_
        rw [show keP ((a :: A).map KE.cl) ++ keP ((b :: l).map KE.cl) = keP ((a :: A).map KE.cl ++ (b :: l).map KE.cl) by simp [keP]]
        refine M.go rfl ?_
        refine M.regF (MF.go rfl ?_)
        refine MF.nil mixed (Fnl.nodup rfl) rfl ⟨⟨stepX_ok rfl, trivial⟩, trivial⟩ (M.go rfl ?_)
        exact M.ret (M.go rfl (M.done (finR.ret kOK (.tup [.agg (hdB k false t v), .agg (k.s.cs.map XC.p), .c (.p (.tz ((a :: A).map KE.cl ++ (b :: l).map KE.cl).isEmpty 4 (keP ((a :: A).map KE.cl ++ (b :: l).map KE.cl)) none))]) ((s, some k) : WS × Option KVl) [(0, 0), (1, 1), (2, 2), (3, 3), (4, 4), (5, 5), (6, 6), (7, 7)] rfl rfl rfl Wk.rfl ⟨(hpX rfl rfl rfl), HeapOK.fam wOK (by repeat' (first | exact Tl.here | refine Tl.cons rfl ?_)) rfl⟩ ⟨rfl, rfl⟩)))
  · refine M.condB rfl (fun _ => ?_) (fun h => by cases h)
    refine M.go rfl ?_
    refine M.cond rfl (fun _ => ?_) (fun h => absurd (by omega) h)
    refine M.go rfl ?_
    refine M.regF (MF.go rfl ?_)
    rw [hil, hmin]
    refine MF.op trivial (SOp.sl (l := 0) (r := n0) rfl rfl ⟨_, _, rfl, by omega, by omega⟩ (by omega) (by omega)) (MF.go rfl ?_)
    rw [htk]
    cases hAc : k.es.take n0 with
    | nil =>
      refine MF.use0 trivial (cloned_spec _ _ [] (by simp) (by simp)) rfl rfl rfl (MF.go rfl ?_)
      refine MF.use0 trivial (cloned_spec z c l (by omega) hd) rfl rfl rfl (MF.go rfl ?_)
      cases l with
      | nil =>
        refine MF.op trivial (SOp.app0 rfl rfl .tz (.inr ⟨_, _, _, _, rfl⟩)) (MF.go rfl ?_)
        refine MF.nil mixed (Fnl.two fun h => ⟨rfl, rfl⟩) rfl ⟨⟨stepX_ok rfl, trivial⟩, trivial⟩ (M.go rfl ?_)
        refine M.regF (MF.go rfl ?_)
        refine MF.nil mixed (Fnl.nodup rfl) rfl ⟨⟨stepX_ok rfl, trivial⟩, trivial⟩ (M.go rfl ?_)
        exact M.ret (M.go rfl (M.done (finR.ret kOK (.tup [.agg (hdB k true t v), .agg (k.s.cs.map XC.p), .c (.p (.tz (([] : List KE)).isEmpty 4 (keP (([] : List KE))) none))]) ((s, some k) : WS × Option KVl) [(0, 0), (1, 1), (2, 2), (3, 3), (4, 4), (5, 5), (6, 6), (7, 7)] rfl rfl rfl Wk.rfl ⟨(hpX rfl rfl rfl), HeapOK.fam wOK (by repeat' (first | exact Tl.here | refine Tl.cons rfl ?_)) rfl⟩ ⟨rfl, rfl⟩)))
      | cons b l =>
        refine MF.op trivial (SOp.appN (el := keP ((b :: l).map KE.cl)) rfl rfl .tz (by simp [keP]) (by simp [keP] at hl ⊢; omega)) (MF.go rfl ?_)
        refine MF.nil mixed (Fnl.two fun h => absurd h.2.1 (by simp [XV.sv, XC.sc, PC.sc, keP]; cases (k.z && k.es.isEmpty) <;> simp)) rfl ⟨⟨stepX_ok rfl, trivial⟩, trivial⟩ (M.goN 2 rfl ?_)
        refine M.freezeN (i := 9) rfl rfl rfl ?_
        refine M.go rfl ?_
        refine M.regF (MF.go rfl ?_)
        refine MF.nil mixed (Fnl.nodup rfl) rfl ⟨⟨stepX_ok rfl, trivial⟩, trivial⟩ (M.go rfl ?_)
        exact M.ret (M.go rfl (M.done (finR.ret kOK (.tup [.agg (hdB k true t v), .agg (k.s.cs.map XC.p), .c (.p (.tz ((b :: l).map KE.cl).isEmpty 4 (keP ((b :: l).map KE.cl)) none))]) ((s, some k) : WS × Option KVl) [(0, 0), (1, 1), (2, 2), (3, 3), (4, 4), (5, 5), (6, 6), (7, 7)] rfl rfl rfl Wk.rfl ⟨(hpX rfl rfl rfl), HeapOK.fam wOK (by repeat' (first | exact Tl.here | refine Tl.cons rfl ?_)) rfl⟩ ⟨rfl, rfl⟩)))
    | cons a A =>
      rw [hAc] at hA hAl
      refine MF.use trivial (cloned_own _ _ a A (by simp at hAl; omega) hA) [] rfl rfl rfl trivial rfl rfl (MF.go rfl ?_)
      refine MF.use0 trivial (cloned_spec z c l (by omega) hd) rfl rfl rfl (MF.go rfl ?_)
      cases l with
      | nil =>
        refine MF.op trivial (SOp.app0 rfl rfl .tz (.inl ⟨_, _, _, _, _, rfl⟩)) (MF.go rfl ?_)
        refine MF.nil mixed (Fnl.two fun h => absurd (congrArg SH.next h.2.2) (Nat.ne_of_lt (Nat.lt_succ_self _))) rfl ⟨⟨stepX_ok rfl, trivial⟩, trivial⟩ (M.goN 2 rfl ?_)
        refine M.freezeN (i := 9) rfl rfl rfl ?_
        rw [List.map_nil, List.append_nil]
        refine M.go rfl ?_
        refine M.regF (MF.go rfl ?_)
        refine MF.nil mixed (Fnl.nodup rfl) rfl ⟨⟨stepX_ok rfl, trivial⟩, trivial⟩ (M.go rfl ?_)
        exact M.ret (M.go rfl (M.done (finR.ret kOK (.tup [.agg (hdB k true t v), .agg (k.s.cs.map XC.p), .c (.p (.tz ((a :: A).map KE.cl).isEmpty 4 (keP ((a :: A).map KE.cl)) none))]) ((s, some k) : WS × Option KVl) [(0, 0), (1, 1), (2, 2), (3, 3), (4, 4), (5, 5), (6, 6), (7, 7)] rfl rfl rfl Wk.rfl ⟨(hpX rfl rfl rfl), HeapOK.fam wOK (by repeat' (first | exact Tl.here | refine Tl.cons rfl ?_)) rfl⟩ ⟨rfl, rfl⟩)))
      | cons b l =>
        refine MF.op trivial (SOp.appO (ex := keP ((a :: A).map KE.cl)) (el := keP ((b :: l).map KE.cl)) rfl rfl rfl rfl .tz (by simp [keP]) (by simp [keP] at hl hAl ⊢; omega)) (MF.go rfl ?_)
        refine MF.nil mixed (Fnl.two fun h => absurd (congrArg SH.next h.2.2) (Nat.ne_of_lt (Nat.lt_succ_self _))) rfl ⟨⟨stepX_ok rfl, trivial⟩, trivial⟩ (M.goN 2 rfl ?_)
        refine M.freezeN (i := 9) (el := keP ((a :: A).map KE.cl) ++ keP ((b :: l).map KE.cl)) rfl rfl (by simp) ?_
        rw [show keP ((a :: A).map KE.cl) ++ keP ((b :: l).map KE.cl) = keP ((a :: A).map KE.cl ++ (b :: l).map KE.cl) by simp [keP]]
        refine M.go rfl ?_
        refine M.regF (MF.go rfl ?_)
        refine MF.nil mixed (Fnl.nodup rfl) rfl ⟨⟨stepX_ok rfl, trivial⟩, trivial⟩ (M.go rfl ?_)
        exact M.ret (M.go rfl (M.done (finR.ret kOK (.tup [.agg (hdB k true t v), .agg (k.s.cs.map XC.p), .c (.p (.tz ((a :: A).map KE.cl ++ (b :: l).map KE.cl).isEmpty 4 (keP ((a :: A).map KE.cl ++ (b :: l).map KE.cl)) none))]) ((s, some k) : WS × Option KVl) [(0, 0), (1, 1), (2, 2), (3, 3), (4, 4), (5, 5), (6, 6), (7, 7)] rfl rfl rfl Wk.rfl ⟨(hpX rfl rfl rfl), HeapOK.fam wOK (by repeat' (first | exact Tl.here | refine Tl.cons rfl ?_)) rfl⟩ ⟨rfl, rfl⟩)))
end Go.Proofs.Ytjlfojgacnphmaa

namespace Go.Proofs.Ytjlfojgacnphmaa
open Go.RowKit Sim Go Sym
set_option maxRecDepth 100000
set_option linter.unusedVariables false
set_option linter.unusedSimpArgs false
variable {base : Nat}
noncomputable def lPla : {F : LF // lowerF Try.prog 75 = some F} := ⟨_, rfl⟩
def plV (k : KVl) (sv : Bool) (t v f : Int) (l : List KE) : KVl :=
  ⟨if sv = true then t else k.t, if sv = true then v else k.v, k.s, if 1 ≤ f then (esB k f l).isEmpty else k.z, if 1 ≤ f then esB k f l else k.es, if 1 ≤ f then none else k.c⟩
def KVl.bas (k : KVl) (kd : Int) : KVl := if kd = 2 then KVl.zero else k
theorem flagB_len (b : Bool) : (flagB b).length = 1 := rfl
theorem rd_d {l : List KE} {n : Nat} (h : ∀ e ∈ l, e.d.length ≤ n) : ∀ e ∈ l.map KE.rd, e.d.length ≤ n := fun e he => by
  obtain ⟨x, hx, rfl⟩ := List.mem_map.1 he
  exact h x hx
theorem K_play0 (s : WS) (k : KVl) (z : Bool) (c : Option Nat) (kd : Int) (sv : Bool) (t v f : Int) (l : List KE) (hkd : kd = 1 ∨ kd = 2) (ht : InI64 t) (hv : InI64 v) (hf : 0 ≤ f ∧ f ≤ 2000000000000000) (hl : l.length ≤ 10000) (hok : ∀ e ∈ l, e.ok) (hs : 0 ≤ k.s.i ∧ k.s.i ≤ 2000000000000000) (hkl : k.es.length ≤ 10000) (hkd2 : ∀ e ∈ k.es, e.d.length ≤ 1000000) :
    CK3 base 75 [.c (.ptr 1 0), .c (.p (.tz z 1 (u8P (txtB kd sv t v f l)) c))] (s, some k) (fun q s' => q = .tup [] ∧ s' = (s, some (plV (k.bas kd) sv t v f (l.map KE.rd)))) := by
  have hk64 : InI64 kd := by rcases hkd with rfl | rfl <;> exact ⟨by decide, by decide⟩
  have hf64 : InI64 f := ⟨by omega, by omega⟩
  have h1 := numB_len hk64.1 hk64.2
  have h2 := numB_len ht.1 ht.2
  have h3 := numB_len hv.1 hv.2
  have h4 := numB_len hf64.1 hf64.2
  have h5 : (numB (l.length : Int)).length ≤ 10 := numB_len (by omega) (by omega)
  have h6 := kesB_len l hok
  have h7 : l.length * 30040 ≤ 10000 * 30040 := Nat.mul_le_mul_right _ hl
  have b6 : Bytes (kesN l) := (numB_bytes _).app (kesB_bytes hok)
  have l6 : (kesN l).length ≤ 300400010 := by rw [kesN, List.length_append]; omega
  have e0 : txtB kd sv t v f l = numB kd ++ (flagB sv ++ (numB t ++ (numB v ++ (flagB false ++ (numB f ++ kesN l))))) := by simp [txtB]
  rw [e0]
  have r0 := rread_spec (base := base) z (numB kd ++ (flagB sv ++ (numB t ++ (numB v ++ (flagB false ++ (numB f ++ kesN l)))))) c (by simp [flagB_len]; omega)
  have r1 := rnum_spec (base := base) ⟨z, numB kd ++ (flagB sv ++ (numB t ++ (numB v ++ (flagB false ++ (numB f ++ kesN l))))), false⟩ (rw_ok (by simp [flagB_len]; omega) ((numB_bytes _).app ((flagB_bytes _).app ((numB_bytes _).app ((numB_bytes _).app ((flagB_bytes _).app ((numB_bytes _).app b6)))))))
  rw [RS.num_w hk64] at r1
  have r2 := rflag_spec (base := base) ⟨false, flagB sv ++ (numB t ++ (numB v ++ (flagB false ++ (numB f ++ kesN l)))), false⟩ (rw_ok (by simp [flagB_len]; omega) ((flagB_bytes _).app ((numB_bytes _).app ((numB_bytes _).app ((flagB_bytes _).app ((numB_bytes _).app b6))))))
  rw [RS.flag_w] at r2
  have r3 := rnum_spec (base := base) ⟨false, numB t ++ (numB v ++ (flagB false ++ (numB f ++ kesN l))), false⟩ (rw_ok (by simp [flagB_len]; omega) ((numB_bytes _).app ((numB_bytes _).app ((flagB_bytes _).app ((numB_bytes _).app b6)))))
  rw [RS.num_w ht] at r3
  have r4 := rnum_spec (base := base) ⟨false, numB v ++ (flagB false ++ (numB f ++ kesN l)), false⟩ (rw_ok (by simp [flagB_len]; omega) ((numB_bytes _).app ((flagB_bytes _).app ((numB_bytes _).app b6))))
  rw [RS.num_w hv] at r4
  have r5 := rflag_spec (base := base) ⟨false, flagB false ++ (numB f ++ kesN l), false⟩ (rw_ok (by simp [flagB_len]; omega) ((flagB_bytes _).app ((numB_bytes _).app b6)))
  rw [RS.flag_w] at r5
  have r6 := rnum_spec (base := base) ⟨false, numB f ++ kesN l, false⟩ (rw_ok (by simp; omega) ((numB_bytes _).app b6))
  rw [RS.num_w hf64] at r6
  have r7 := ge_spec (base := base) false [] (by simp) Bytes.nil l (by omega) hok
  rw [List.append_nil] at r7
  have hrl : (l.map KE.rd).length ≤ 10000 := by rw [List.length_map]; exact hl
  have hrd : ∀ e ∈ l.map KE.rd, e.d.length ≤ 1000000 := rd_d fun e he => by have := (hok e he).l; omega
  refine CallR.of kOK noNG lPla.2 rfl (M.start (M.go rfl ?_))
  refine M.use trivial r0 [] rfl rfl rfl trivial rfl rfl ?_
  refine M.go rfl ?_
  refine M.use trivial r1 [(0, 8)] rfl rfl rfl (by repeat' (first | exact True.intro | refine hpC rfl rfl rfl ?_ | refine ⟨⟨_, _, _, rfl, rfl, rfl, @WkO.rfl _⟩, ?_⟩ | refine HeapOK.acc rfl rfl ?_)) rfl rfl ?_
  refine M.go rfl ?_
  refine M.use trivial r2 [(0, 8)] rfl rfl rfl (by repeat' (first | exact True.intro | refine hpC rfl rfl rfl ?_ | refine ⟨⟨_, _, _, rfl, rfl, rfl, @WkO.rfl _⟩, ?_⟩ | refine HeapOK.acc rfl rfl ?_)) rfl rfl ?_
  refine M.go rfl ?_
  refine M.use trivial r3 [(0, 8)] rfl rfl rfl (by repeat' (first | exact True.intro | refine hpC rfl rfl rfl ?_ | refine ⟨⟨_, _, _, rfl, rfl, rfl, @WkO.rfl _⟩, ?_⟩ | refine HeapOK.acc rfl rfl ?_)) rfl rfl ?_
  refine M.go rfl ?_
  refine M.use trivial r4 [(0, 8)] rfl rfl rfl (by repeat' (first | exact True.intro | refine hpC rfl rfl rfl ?_ | refine ⟨⟨_, _, _, rfl, rfl, rfl, @WkO.rfl _⟩, ?_⟩ | refine HeapOK.acc rfl rfl ?_)) rfl rfl ?_
  refine M.go rfl ?_
  refine M.use trivial r5 [(0, 8)] rfl rfl rfl (by repeat' (first | exact True.intro | refine hpC rfl rfl rfl ?_ | refine ⟨⟨_, _, _, rfl, rfl, rfl, @WkO.rfl _⟩, ?_⟩ | refine HeapOK.acc rfl rfl ?_)) rfl rfl ?_
  refine M.go rfl ?_
  refine M.condB rfl (fun h => by cases h) (fun _ => ?_)
  refine M.go rfl ?_
  refine M.use trivial r6 [(0, 8)] rfl rfl rfl (by repeat' (first | exact True.intro | refine hpC rfl rfl rfl ?_ | refine ⟨⟨_, _, _, rfl, rfl, rfl, @WkO.rfl _⟩, ?_⟩ | refine HeapOK.acc rfl rfl ?_)) rfl rfl ?_
  refine M.go rfl ?_
  refine M.use trivial r7 [(0, 8)] rfl rfl rfl (by repeat' (first | exact True.intro | refine hpC rfl rfl rfl ?_ | refine ⟨⟨_, _, _, rfl, rfl, rfl, @WkO.rfl _⟩, ?_⟩ | refine HeapOK.acc rfl rfl ?_)) rfl rfl ?_
  refine M.go rfl ?_
  refine M.use trivial (rok_spec ⟨false, [], false⟩) [(0, 8)] rfl rfl rfl (by repeat' (first | exact True.intro | refine hpC rfl rfl rfl ?_ | refine ⟨⟨_, _, _, rfl, rfl, rfl, @WkO.rfl _⟩, ?_⟩ | refine HeapOK.acc rfl rfl ?_)) rfl rfl ?_
  refine M.go rfl ?_
  refine M.decB rfl (fun h => absurd h (by decide)) (fun _ => ?_)
  refine M.go rfl ?_
  refine M.use rfl (rleft_spec ⟨false, [], false⟩) [(0, 8)] rfl rfl rfl (by repeat' (first | exact True.intro | refine hpC rfl rfl rfl ?_ | refine ⟨⟨_, _, _, rfl, rfl, rfl, @WkO.rfl _⟩, ?_⟩ | refine HeapOK.acc rfl rfl ?_)) rfl rfl ?_
  refine M.go rfl ?_
  refine M.cond rfl (fun h => absurd h (by decide)) (fun _ => ?_)
  refine M.go rfl ?_
  rcases hkd with rfl | rfl
  · refine M.cond rfl (fun h => absurd (show (1 : Int) = 2 from h) (by decide)) (fun _ => ?_)
    refine M.go rfl ?_
    refine M.shO (Sh.ren (e' := [(0, .c (.ptr 1 0)), (53, .c (.ptr 1 0)), (54, .c (.ptr 1 0)), (55, .c (.ptr 1 0)), (56, .c (.ptr 1 0)), (57, .agg (rdA t v sv f true (l.map KE.rd) none (.tz true 0 [] none) (.tz true 0 [] none) (.tz true 0 [] none)))]) (h' := ⟨appL [(9, some (.row (rdA t v sv f true (l.map KE.rd) none (.tz true 0 [] none) (.tz true 0 [] none) (.tz true 0 [] none)) true))] (kFam.mem (s, some k)).l, 10⟩) [(0, 0), (1, 1), (2, 2), (3, 3), (4, 4), (5, 5), (6, 6), (7, 7), (8, 8), (9, 9)] rfl (by repeat' (first | exact True.intro | refine evC rfl rfl Wk.rfl ?_ | refine evC (accV_ren rfl) rfl Wk.rfl ?_ | refine evC (accV_ren rfl) rfl Wk.acc0 ?_ | refine evC rfl rfl Wk.uncap ?_ | refine evC rfl rfl Wk.nil ?_)) ⟨(hpX rfl rfl rfl), (hpX rfl rfl rfl), HeapOK.fam wOK (by repeat' (first | exact Tl.here | refine Tl.cons rfl ?_)) rfl⟩) ?_
    by_cases hf0 : f = 0
    · subst hf0
      cases sv
      · refine M.useR (s := ((s, some k) : WS × Option KVl)) kOK [(9, some (.row (rdA t v false 0 true (l.map KE.rd) none (.tz true 0 [] none) (.tz true 0 [] none) (.tz true 0 [] none)) true))] [(0, .c (.ptr 1 0)), (53, .c (.ptr 1 0)), (54, .c (.ptr 1 0)), (55, .c (.ptr 1 0))] trivial (K_behind0 s k t v false true (l.map KE.rd) none _ _ _) rfl ⟨⟨rfl, rfl⟩, trivial⟩ rfl rfl rfl rfl (fun r s' h => by rw [h.1]; rfl) (by repeat' (first | exact True.intro | refine evC rfl rfl Wk.rfl ?_ | refine evC (accV_ren rfl) rfl Wk.rfl ?_ | refine evC (accV_ren rfl) rfl Wk.acc0 ?_ | refine evC rfl rfl Wk.uncap ?_ | refine evC rfl rfl Wk.nil ?_)) (fun r s' h => ?_)
        obtain ⟨rfl, rfl⟩ := h
        refine M.go rfl ?_
        exact M.done (finR.normal kOK (.tup []) ((s, some (plV k false t v 0 (l.map KE.rd))) : WS × Option KVl) [(0, 0), (1, 1), (2, 2), (3, 3), (4, 4), (5, 5), (6, 6), (7, 7)] rfl rfl rfl Wk.rfl ⟨(hpX rfl rfl rfl), HeapOK.fam wOK (by repeat' (first | exact Tl.here | refine Tl.cons rfl ?_)) rfl⟩ ⟨rfl, rfl⟩)
      · refine M.useR (s := ((s, some k) : WS × Option KVl)) kOK [(9, some (.row (rdA t v true 0 true (l.map KE.rd) none (.tz true 0 [] none) (.tz true 0 [] none) (.tz true 0 [] none)) true))] [(0, .c (.ptr 1 0)), (53, .c (.ptr 1 0)), (54, .c (.ptr 1 0)), (55, .c (.ptr 1 0))] trivial (K_behind0 s k t v true true (l.map KE.rd) none _ _ _) rfl ⟨⟨rfl, rfl⟩, trivial⟩ rfl rfl rfl rfl (fun r s' h => by rw [h.1]; rfl) (by repeat' (first | exact True.intro | refine evC rfl rfl Wk.rfl ?_ | refine evC (accV_ren rfl) rfl Wk.rfl ?_ | refine evC (accV_ren rfl) rfl Wk.acc0 ?_ | refine evC rfl rfl Wk.uncap ?_ | refine evC rfl rfl Wk.nil ?_)) (fun r s' h => ?_)
        obtain ⟨rfl, rfl⟩ := h
        refine M.go rfl ?_
        exact M.done (finR.normal kOK (.tup []) ((s, some (plV k true t v 0 (l.map KE.rd))) : WS × Option KVl) [(0, 0), (1, 1), (2, 2), (3, 3), (4, 4), (5, 5), (6, 6), (7, 7)] rfl rfl rfl Wk.rfl ⟨(hpX rfl rfl rfl), HeapOK.fam wOK (by repeat' (first | exact Tl.here | refine Tl.cons rfl ?_)) rfl⟩ ⟨rfl, rfl⟩)
    · have hf1 : 1 ≤ f := by omega
      have hpl : ∀ b, plV k b t v f (l.map KE.rd) = ⟨if b = true then t else (k : KVl).t, if b = true then v else (k : KVl).v, (k : KVl).s, (esB k f (l.map KE.rd)).isEmpty, esB k f (l.map KE.rd), none⟩ := fun b => by simp only [plV, if_pos hf1]
      cases sv
      · refine M.useR (s := ((s, some k) : WS × Option KVl)) kOK [(9, some (.row (rdA t v false f true (l.map KE.rd) none (.tz true 0 [] none) (.tz true 0 [] none) (.tz true 0 [] none)) true))] [(0, .c (.ptr 1 0)), (53, .c (.ptr 1 0)), (54, .c (.ptr 1 0)), (55, .c (.ptr 1 0))] trivial (K_behindF s k t v false f true (l.map KE.rd) none _ _ _ ⟨hf1, hf.2⟩ hs hrl hrd hkl hkd2) rfl ⟨⟨rfl, rfl⟩, trivial⟩ rfl rfl rfl rfl (fun r s' h => by rw [h.1]; rfl) (by repeat' (first | exact True.intro | refine evC rfl rfl Wk.rfl ?_ | refine evC (accV_ren rfl) rfl Wk.rfl ?_ | refine evC (accV_ren rfl) rfl Wk.acc0 ?_ | refine evC rfl rfl Wk.uncap ?_ | refine evC rfl rfl Wk.nil ?_)) (fun r s' h => ?_)
        obtain ⟨rfl, rfl⟩ := h
        refine M.go rfl ?_
        exact M.done (finR.normal kOK (.tup []) ((s, some ⟨if false = true then t else (k : KVl).t, if false = true then v else (k : KVl).v, (k : KVl).s, (esB k f (l.map KE.rd)).isEmpty, esB k f (l.map KE.rd), none⟩) : WS × Option KVl) [(0, 0), (1, 1), (2, 2), (3, 3), (4, 4), (5, 5), (6, 6), (7, 7)] rfl rfl rfl Wk.rfl ⟨(hpX rfl rfl rfl), HeapOK.fam wOK (by repeat' (first | exact Tl.here | refine Tl.cons rfl ?_)) rfl⟩ ⟨rfl, by rw [show k.bas 1 = k from rfl, hpl]⟩)
      · refine M.useR (s := ((s, some k) : WS × Option KVl)) kOK [(9, some (.row (rdA t v true f true (l.map KE.rd) none (.tz true 0 [] none) (.tz true 0 [] none) (.tz true 0 [] none)) true))] [(0, .c (.ptr 1 0)), (53, .c (.ptr 1 0)), (54, .c (.ptr 1 0)), (55, .c (.ptr 1 0))] trivial (K_behindF s k t v true f true (l.map KE.rd) none _ _ _ ⟨hf1, hf.2⟩ hs hrl hrd hkl hkd2) rfl ⟨⟨rfl, rfl⟩, trivial⟩ rfl rfl rfl rfl (fun r s' h => by rw [h.1]; rfl) (by repeat' (first | exact True.intro | refine evC rfl rfl Wk.rfl ?_ | refine evC (accV_ren rfl) rfl Wk.rfl ?_ | refine evC (accV_ren rfl) rfl Wk.acc0 ?_ | refine evC rfl rfl Wk.uncap ?_ | refine evC rfl rfl Wk.nil ?_)) (fun r s' h => ?_)
        obtain ⟨rfl, rfl⟩ := h
        refine M.go rfl ?_
        exact M.done (finR.normal kOK (.tup []) ((s, some ⟨if true = true then t else (k : KVl).t, if true = true then v else (k : KVl).v, (k : KVl).s, (esB k f (l.map KE.rd)).isEmpty, esB k f (l.map KE.rd), none⟩) : WS × Option KVl) [(0, 0), (1, 1), (2, 2), (3, 3), (4, 4), (5, 5), (6, 6), (7, 7)] rfl rfl rfl Wk.rfl ⟨(hpX rfl rfl rfl), HeapOK.fam wOK (by repeat' (first | exact Tl.here | refine Tl.cons rfl ?_)) rfl⟩ ⟨rfl, by rw [show k.bas 1 = k from rfl, hpl]⟩)
  · refine M.cond rfl (fun _ => ?_) (fun h => absurd rfl h)
    refine M.go rfl ?_
    refine M.shO (Sh.ren (e' := [(0, .c (.ptr 1 0)), (53, .c (.ptr 1 0)), (54, .c (.ptr 1 0)), (55, .c (.ptr 1 0)), (56, .c (.ptr 1 0)), (57, .agg (rdA t v sv f true (l.map KE.rd) none (.tz true 0 [] none) (.tz true 0 [] none) (.tz true 0 [] none)))]) (h' := ⟨appL [(9, some (.row (rdA t v sv f true (l.map KE.rd) none (.tz true 0 [] none) (.tz true 0 [] none) (.tz true 0 [] none)) true))] (kFam.mem (s, some KVl.zero)).l, 10⟩) [(0, 0), (1, 1), (2, 2), (3, 3), (4, 4), (5, 5), (6, 6), (7, 7), (8, 8), (9, 9)] rfl (by repeat' (first | exact True.intro | refine evC rfl rfl Wk.rfl ?_ | refine evC (accV_ren rfl) rfl Wk.rfl ?_ | refine evC (accV_ren rfl) rfl Wk.acc0 ?_ | refine evC rfl rfl Wk.uncap ?_ | refine evC rfl rfl Wk.nil ?_)) ⟨(hpX rfl rfl rfl), ⟨_, _, _, rfl, rfl, rfl, WkO.row ⟨Wk.rfl, Wk.rfl, Wk.rfl, Wk.rfl, Wk.rfl, Wk.nil, Wk.nil, Wk.nil, trivial⟩⟩, HeapOK.fam wOK (by repeat' (first | exact Tl.here | refine Tl.cons rfl ?_)) rfl⟩) ?_
    by_cases hf0 : f = 0
    · subst hf0
      cases sv
      · refine M.useR (s := ((s, some KVl.zero) : WS × Option KVl)) kOK [(9, some (.row (rdA t v false 0 true (l.map KE.rd) none (.tz true 0 [] none) (.tz true 0 [] none) (.tz true 0 [] none)) true))] [(0, .c (.ptr 1 0)), (53, .c (.ptr 1 0)), (54, .c (.ptr 1 0)), (55, .c (.ptr 1 0))] trivial (K_behind0 s KVl.zero t v false true (l.map KE.rd) none _ _ _) rfl ⟨⟨rfl, rfl⟩, trivial⟩ rfl rfl rfl rfl (fun r s' h => by rw [h.1]; rfl) (by repeat' (first | exact True.intro | refine evC rfl rfl Wk.rfl ?_ | refine evC (accV_ren rfl) rfl Wk.rfl ?_ | refine evC (accV_ren rfl) rfl Wk.acc0 ?_ | refine evC rfl rfl Wk.uncap ?_ | refine evC rfl rfl Wk.nil ?_)) (fun r s' h => ?_)
        obtain ⟨rfl, rfl⟩ := h
        refine M.go rfl ?_
        exact M.done (finR.normal kOK (.tup []) ((s, some (plV KVl.zero false t v 0 (l.map KE.rd))) : WS × Option KVl) [(0, 0), (1, 1), (2, 2), (3, 3), (4, 4), (5, 5), (6, 6), (7, 7)] rfl rfl rfl Wk.rfl ⟨(hpX rfl rfl rfl), HeapOK.fam wOK (by repeat' (first | exact Tl.here | refine Tl.cons rfl ?_)) rfl⟩ ⟨rfl, rfl⟩)
      · refine M.useR (s := ((s, some KVl.zero) : WS × Option KVl)) kOK [(9, some (.row (rdA t v true 0 true (l.map KE.rd) none (.tz true 0 [] none) (.tz true 0 [] none) (.tz true 0 [] none)) true))] [(0, .c (.ptr 1 0)), (53, .c (.ptr 1 0)), (54, .c (.ptr 1 0)), (55, .c (.ptr 1 0))] trivial (K_behind0 s KVl.zero t v true true (l.map KE.rd) none _ _ _) rfl ⟨⟨rfl, rfl⟩, trivial⟩ rfl rfl rfl rfl (fun r s' h => by rw [h.1]; rfl) (by repeat' (first | exact True.intro | refine evC rfl rfl Wk.rfl ?_ | refine evC (accV_ren rfl) rfl Wk.rfl ?_ | refine evC (accV_ren rfl) rfl Wk.acc0 ?_ | refine evC rfl rfl Wk.uncap ?_ | refine evC rfl rfl Wk.nil ?_)) (fun r s' h => ?_)
        obtain ⟨rfl, rfl⟩ := h
        refine M.go rfl ?_
        exact M.done (finR.normal kOK (.tup []) ((s, some (plV KVl.zero true t v 0 (l.map KE.rd))) : WS × Option KVl) [(0, 0), (1, 1), (2, 2), (3, 3), (4, 4), (5, 5), (6, 6), (7, 7)] rfl rfl rfl Wk.rfl ⟨(hpX rfl rfl rfl), HeapOK.fam wOK (by repeat' (first | exact Tl.here | refine Tl.cons rfl ?_)) rfl⟩ ⟨rfl, rfl⟩)
    · have hf1 : 1 ≤ f := by omega
      have hpl : ∀ b, plV KVl.zero b t v f (l.map KE.rd) = ⟨if b = true then t else (KVl.zero : KVl).t, if b = true then v else (KVl.zero : KVl).v, (KVl.zero : KVl).s, (esB KVl.zero f (l.map KE.rd)).isEmpty, esB KVl.zero f (l.map KE.rd), none⟩ := fun b => by simp only [plV, if_pos hf1]
      cases sv
      · refine M.useR (s := ((s, some KVl.zero) : WS × Option KVl)) kOK [(9, some (.row (rdA t v false f true (l.map KE.rd) none (.tz true 0 [] none) (.tz true 0 [] none) (.tz true 0 [] none)) true))] [(0, .c (.ptr 1 0)), (53, .c (.ptr 1 0)), (54, .c (.ptr 1 0)), (55, .c (.ptr 1 0))] trivial (K_behindF s KVl.zero t v false f true (l.map KE.rd) none _ _ _ ⟨hf1, hf.2⟩ ⟨by decide, by decide⟩ hrl hrd (by simp [KVl.zero]) (by simp [KVl.zero])) rfl ⟨⟨rfl, rfl⟩, trivial⟩ rfl rfl rfl rfl (fun r s' h => by rw [h.1]; rfl) (by repeat' (first | exact True.intro | refine evC rfl rfl Wk.rfl ?_ | refine evC (accV_ren rfl) rfl Wk.rfl ?_ | refine evC (accV_ren rfl) rfl Wk.acc0 ?_ | refine evC rfl rfl Wk.uncap ?_ | refine evC rfl rfl Wk.nil ?_)) (fun r s' h => ?_)
        obtain ⟨rfl, rfl⟩ := h
        refine M.go rfl ?_
        exact M.done (finR.normal kOK (.tup []) ((s, some ⟨if false = true then t else (KVl.zero : KVl).t, if false = true then v else (KVl.zero : KVl).v, (KVl.zero : KVl).s, (esB KVl.zero f (l.map KE.rd)).isEmpty, esB KVl.zero f (l.map KE.rd), none⟩) : WS × Option KVl) [(0, 0), (1, 1), (2, 2), (3, 3), (4, 4), (5, 5), (6, 6), (7, 7)] rfl rfl rfl Wk.rfl ⟨(hpX rfl rfl rfl), HeapOK.fam wOK (by repeat' (first | exact Tl.here | refine Tl.cons rfl ?_)) rfl⟩ ⟨rfl, by rw [show k.bas 2 = KVl.zero from rfl, hpl]⟩)
      · refine M.useR (s := ((s, some KVl.zero) : WS × Option KVl)) kOK [(9, some (.row (rdA t v true f true (l.map KE.rd) none (.tz true 0 [] none) (.tz true 0 [] none) (.tz true 0 [] none)) true))] [(0, .c (.ptr 1 0)), (53, .c (.ptr 1 0)), (54, .c (.ptr 1 0)), (55, .c (.ptr 1 0))] trivial (K_behindF s KVl.zero t v true f true (l.map KE.rd) none _ _ _ ⟨hf1, hf.2⟩ ⟨by decide, by decide⟩ hrl hrd (by simp [KVl.zero]) (by simp [KVl.zero])) rfl ⟨⟨rfl, rfl⟩, trivial⟩ rfl rfl rfl rfl (fun r s' h => by rw [h.1]; rfl) (by repeat' (first | exact True.intro | refine evC rfl rfl Wk.rfl ?_ | refine evC (accV_ren rfl) rfl Wk.rfl ?_ | refine evC (accV_ren rfl) rfl Wk.acc0 ?_ | refine evC rfl rfl Wk.uncap ?_ | refine evC rfl rfl Wk.nil ?_)) (fun r s' h => ?_)
        obtain ⟨rfl, rfl⟩ := h
        refine M.go rfl ?_
        exact M.done (finR.normal kOK (.tup []) ((s, some ⟨if true = true then t else (KVl.zero : KVl).t, if true = true then v else (KVl.zero : KVl).v, (KVl.zero : KVl).s, (esB KVl.zero f (l.map KE.rd)).isEmpty, esB KVl.zero f (l.map KE.rd), none⟩) : WS × Option KVl) [(0, 0), (1, 1), (2, 2), (3, 3), (4, 4), (5, 5), (6, 6), (7, 7)] rfl rfl rfl Wk.rfl ⟨(hpX rfl rfl rfl), HeapOK.fam wOK (by repeat' (first | exact Tl.here | refine Tl.cons rfl ?_)) rfl⟩ ⟨rfl, by rw [show k.bas 2 = KVl.zero from rfl, hpl]⟩)
end Go.Proofs.Ytjlfojgacnphmaa

namespace Go.Proofs.Ytjlfojgacnphmaa.Sym
open Go Go.RowKit Go.Proofs.Ytjlfojgacnphmaa.Sim
theorem Call.frz3 {P : Program} {base : Nat} {f : FuncId} {h : HS} {b s m : Nat} {el : List PC} {c : Option Nat} {x y : XV} {r : SV} {h' : SH} (C : Call P base f ([x, y, .c (.p (.tz false s el c))].map XV.sv) (h.put b none).sh r h') (hb : h.get b = some (.els s el)) (hm : m = el.length) : Call P base f ([x, y, .c (.sl b 0 m s c)].map XV.sv) h.sh r h' := by
  refine ⟨C.fn, fun φ args' w ha hr => ?_⟩
  have hb' := get_els hb
  obtain ⟨L, hL, _⟩ := hr.live b _ hb'
  obtain ⟨h1, h2, h3⟩ := HR.ice hr hb' hL _ rfl
  match args', ha with
  | [a1, a2, a3], ha =>
    refine Calls.mono (C.run _ [a1, a2, a3] w ⟨ha.1.mono h1, ha.2.1.mono h1, CR.freeze hr hb' hL ha.2.2.1 hm _ rfl h1, trivial⟩ h2) fun e w' ⟨v', φ', e1, e2, e3, e4⟩ => ⟨v', φ', e1, e2, e3, h3.trans e4⟩
end Go.Proofs.Ytjlfojgacnphmaa.Sym
namespace Go.Proofs.Ytjlfojgacnphmaa
open Go.RowKit Sim Go Sym
set_option maxRecDepth 100000
set_option linter.unusedVariables false
set_option linter.unusedSimpArgs false
variable {base : Nat}
noncomputable def lWri : {F : LF // lowerF Try.prog 113 = some F} := ⟨_, rfl⟩
abbrev DK (base : Nat) (f : FuncId) (args : List XV) (s : WS × Option KVl) (r : XV) (s' : WS × Option KVl) := CallD Try.prog base kFam 2 f args s r s'
def f2N (f : Int) (R : List (List Int)) : Int := if R = [] then 1 else f
theorem frow (s : WS) (k : KVl) (h : s.lg ≠ .no) : ∀ b, b < 3 → wFam.hole b = false → ∃ o, (wFam.mem s).get b = some o := fun b hb hh => by
  obtain ⟨room, first, en, L, lc, F, c, _ | ⟨w, W⟩, _ | _ | ⟨o, m, X, Y⟩⟩ := s
  all_goals first
    | exact absurd rfl h
    | (rcases b with _ | _ | _ | b
       · exact ⟨_, rfl⟩
       · exact absurd hh (by decide)
       · exact ⟨_, rfl⟩
       · omega)
theorem K_write (s : WS) (k : KVl) {f : Int} {R : List (List Int)} (hi : WInv s f R) (z : Bool) (B : List Int) (c : Option Nat) (hB : Bytes B) (hne : B ≠ []) (hBl : B.length ≤ 29000) (hok : RecOK (f2N f R) (R ++ [1 :: B])) (hRl : R.length ≤ 9000) (hsz : (flatR f R).length + B.length ≤ 380000) (hnl : s.lg = .nil → s.dk = none) (hdk : wtN s.dk ≤ 100000) :
    ∃ s', (WInv s' (f2N f R) (R ++ [1 :: B]) ∧ s'.dk = none ∧ s'.lg ≠ .nil ∧ s'.L = s'.F ∧ s'.lc = s'.c) ∧ DK base 113 [.c (.ptr 1 0), .c (.p (.tz z 1 (u8P B) c))] (s, some k) (.c (.p (.int .i64 0))) (s', some k) := by
  have hBu : (u8P B).length = B.length := u8P_len B
  have hBp : 0 < B.length := by cases B with
    | nil => exact absurd rfl hne
    | cons x l => simp
  have hno : s.lg ≠ .no := fun e => by have := hi.lg; rw [e] at this; exact this
  have hrl := hok.len
  simp only [List.length_append, List.length_cons, List.length_nil] at hrl
  have hB1 : Bytes (1 :: B) := fun y hy => by
    rcases List.mem_cons.1 hy with rfl | h
    · exact ⟨by decide, by decide⟩
    · exact hB y h
  have hff : R ≠ [] → f2N f R = f := fun h => if_neg h
  obtain ⟨s1, ⟨g1, g2, g3, g4, g5⟩, C1⟩ := W_appendD (base := base) hi (f2N f R) (f2N f R + (R.length : Nat)) hff rfl false (1 :: B) none hB1 (by simp; omega) hok hRl (by simp; omega) hnl hdk
  refine ⟨{ s1 with L := s1.F, lc := s1.c, dk := none }, ⟨⟨g1.ok, g1.room, g1.en, g1.lg, g1.first, g1.file, g1.sz⟩, rfl, g5, rfl, rfl⟩, ?_⟩
  have hmx : maxI (IntKind.i64.wrap (lastI f R + 1)) 1 = f2N f R + (R.length : Nat) := by
    unfold f2N
    by_cases hR : R = []
    · subst hR
      rw [lastI_nil, if_pos rfl]; decide
    · rw [if_neg hR, lastI_ne hR, wr64 (n := f + (R.length : Int) - 1 + 1) (by rw [hff hR] at hrl; omega) (by rw [hff hR] at hrl; omega)]
      have : 0 < R.length := by cases R with
        | nil => exact absurd rfl hR
        | cons x l => simp
      rw [hff hR] at hrl
      unfold maxI
      split <;> omega
  refine CallR.of kOK noNG lWri.2 rfl (M.start (M.go rfl ?_))
  refine M.useR (s := s) wOK [(1, some (.row k.row true))] [(0, .c (.ptr 1 0)), (1, .c (.p (.tz z 1 (u8P B) c)))] trivial (W_last hi) rfl ⟨⟨rfl, rfl⟩, trivial⟩ rfl rfl rfl rfl (fun r s' h => by rw [h.1]; rfl) (by repeat' (first | exact True.intro | refine evC rfl rfl Wk.rfl ?_ | refine evC (accV_ren rfl) rfl Wk.rfl ?_ | refine evC (accV_ren rfl) rfl Wk.acc0 ?_ | refine evC rfl rfl Wk.uncap ?_ | refine evC rfl rfl Wk.nil ?_)) (fun r s' h => ?_)
  obtain ⟨rfl, h2⟩ := h
  rw [h2]
  refine M.go rfl ?_
  rw [hmx]
  refine M.loop (M.round (M.go rfl ?_))
  have hmin : minI ((u8P B).length : Int) 32000 = (B.length : Int) := by rw [hBu]; unfold minI; split <;> omega
  rw [hmin]
  refine M.op trivial (SOp.sl (l := 0) (r := B.length) rfl rfl ⟨_, _, rfl, by omega, by omega⟩ (by omega) (by omega)) ?_
  rw [List.drop_zero, Nat.sub_zero, List.take_of_length_le (by omega : (u8P B).length ≤ B.length)]
  refine M.go rfl ?_
  rw [hBu]
  refine M.op trivial (SOp.sl (l := B.length) (r := B.length) rfl ⟨_, _, rfl, by omega, by omega⟩ (by rw [hBu]; rfl) (by omega) (by omega)) ?_
  rw [List.drop_of_length_le (by omega : (u8P B).length ≤ B.length), List.take_nil]
  refine M.go rfl ?_
  refine M.cond rfl (fun _ => ?_) (fun h => absurd rfl h)
  refine M.go rfl ?_
  refine M.regF (MF.go rfl ?_)
  refine MF.op trivial (SOp.appF (ex := [.int .u8 1]) (el := u8P B) rfl rfl rfl (by simp; omega) rfl .tz (by simpa [u8P] using hne) (by simp; omega)) (MF.go rfl ?_)
  obtain ⟨l2, hl2⟩ := sO_tot 3 10 (wFam.mem s1).l
  have CC := CallR.call wOK C1 (X := [(9, none), (9, some (.els 1 (u8P (1 :: B)))), (8, some (.els 1 [.int .u8 1])), (1, some (.row k.row true))]) (N := 10) ⟨rfl, ⟨rfl, rfl⟩, ⟨rfl, rfl⟩, ⟨rfl, rfl⟩, trivial⟩ (by decide) (by decide) rfl rfl (frow s k hno) hl2
  refine MF.useCall trivial (Call.frz3 (h := ⟨appL [(9, some (.els 1 (u8P (1 :: B)))), (8, some (.els 1 [.int .u8 1])), (1, some (.row k.row true))] (wFam.mem s).l, 10⟩) CC rfl (by simp [u8P]; omega)) rfl ?_
  refine MF.go rfl ?_
  refine MF.nil mixed (Fnl.nodup rfl) rfl ⟨⟨stepX_ok rfl, stepX_ok rfl, trivial⟩, trivial⟩ (M.go rfl ?_)
  refine M.condN rfl (fun h => absurd rfl h) (fun _ => ?_)
  refine M.go rfl ?_
  refine M.cond rfl (fun _ => ?_) (fun h => absurd rfl h)
  refine M.go rfl ?_
  refine M.shO (Sh.ren (e' := [(0, .c (.ptr 1 0)), (56, .c (.ptr 2 0))]) (h' := ⟨appL [(1, some (.row k.row true))] (wFam.mem s1).l, 8⟩) [(0, 0), (1, 1), (2, 2), (3, 10), (4, 11), (5, 12), (6, 13), (7, 14)] rfl (by repeat' (first | exact True.intro | refine evC rfl rfl Wk.rfl ?_ | refine evC (accV_ren rfl) rfl Wk.rfl ?_ | refine evC (accV_ren rfl) rfl Wk.acc0 ?_ | refine evC rfl rfl Wk.uncap ?_ | refine evC rfl rfl Wk.nil ?_)) ⟨(hpX rfl rfl rfl), HeapOK.famS wOK rfl rfl hl2 (by repeat' (first | exact TlS.here | refine TlS.cons rfl ?_)) rfl⟩) ?_
  refine M.useR (s := s1) wOK [(1, some (.row k.row true))] [(0, .c (.ptr 1 0))] trivial (W_sync g1 (fun h => absurd h g5)) rfl ⟨⟨rfl, rfl⟩, trivial⟩ rfl rfl rfl rfl (fun r s' h => by rw [h.1]; rfl) (by repeat' (first | exact True.intro | refine evC rfl rfl Wk.rfl ?_ | refine evC (accV_ren rfl) rfl Wk.rfl ?_ | refine evC (accV_ren rfl) rfl Wk.acc0 ?_ | refine evC rfl rfl Wk.uncap ?_ | refine evC rfl rfl Wk.nil ?_)) (fun r s' h => ?_)
  obtain ⟨rfl, h2⟩ := h
  rw [h2]
  refine M.go rfl ?_
  exact M.ret (M.go rfl (M.done (finR.ret kOK (.c (.p (.int .i64 0))) ((({ s1 with L := s1.F, lc := s1.c, dk := none } : WS), some k) : WS × Option KVl) [(0, 0), (1, 1), (2, 2), (3, 3), (4, 4), (5, 5), (6, 6), (7, 7)] rfl rfl rfl Wk.rfl ⟨(hpX rfl rfl rfl), HeapOK.fam wOK (by repeat' (first | exact Tl.here | refine Tl.cons rfl ?_)) rfl⟩ ⟨rfl, rfl⟩)))
end Go.Proofs.Ytjlfojgacnphmaa

namespace Go.Proofs.Ytjlfojgacnphmaa
open Go.RowKit Sim Go Sym
set_option maxRecDepth 100000
set_option linter.unusedVariables false
set_option linter.unusedSimpArgs false
variable {base : Nat}
noncomputable def lFor : {F : LF // lowerF Try.prog 76 = some F} := ⟨_, rfl⟩
def formE (f : Int) (e : KE) : Prop := 0 < f → 1 ≤ e.k ∧ e.k ≤ 3 ∧ 1 ≤ e.t
def formH (k : KVl) (sv : Bool) (t v : Int) : Prop := sv = true → k.t ≤ t ∧ 0 ≤ v ∧ v ≤ 7
abbrev hKR (s : WS) (k : KVl) (row : List XC) : HS := ⟨appL [(8, some (.row row true))] (kFam.mem (s, some k)).l, 9⟩
theorem form_loop (s : WS) (k : KVl) (t v : Int) (sv : Bool) (f : Int) (z : Bool) (l : List KE) (c : Option Nat) (x m r : PC) (hl : l.length ≤ 100000) (Q : QX) (hq : (∀ e ∈ l, formE f e) → Q (.exit 0) [(0, .c (.ptr 1 0))] (hKR s k (rdA t v sv f z l c x m r))) (hno : (∃ e ∈ l, ¬ formE f e) → Q .ret [(4, .c (.p (.bool false)))] (hKR s k (rdA t v sv f z l c x m r))) :
    ∀ (rest pre : List KE), l = pre ++ rest → (∀ e ∈ pre, formE f e) → XH Try.prog base lFor.1.n 2 (lFor.1.c.lp 0) [(0, .c (.ptr 1 0)), (3, .c (.ptr 8 0)), (60, .c (.p (.tz z 4 (keP l) c))), (61, .c (.p (.int .i64 l.length))), (62, .c (.p (.int .i64 pre.length)))] (hKR s k (rdA t v sv f z l c x m r)) Q := by
  intro rest
  induction rest with
  | nil =>
    intro pre hp hpre
    simp at hp
    subst hp
    refine M.round (M.go rfl ?_)
    refine M.cond rfl (fun hc => absurd hc (by omega)) (fun hc => ?_)
    refine M.ren [(0, 0), (1, 1), (2, 2), (3, 3), (4, 4), (5, 5), (6, 6), (7, 7), (8, 8)] ?_ trivial rfl (by repeat' (first | exact True.intro | refine evC rfl rfl Wk.rfl ?_ | refine evC (accV_ren rfl) rfl Wk.rfl ?_ | refine evC (accV_ren rfl) rfl Wk.acc0 ?_ | refine evC rfl rfl Wk.uncap ?_ | refine evC rfl rfl Wk.nil ?_)) ⟨(hpX rfl rfl rfl), (hpX rfl rfl rfl), HeapOK.fam wOK (by repeat' (first | exact Tl.here | refine Tl.cons rfl ?_)) rfl⟩ (e' := [(0, .c (.ptr 1 0))]) (h' := hKR s k (rdA t v sv f z l c x m r))
    exact M.exit (M.go rfl (M.done (hq hpre)))
  | cons a rest ih =>
    intro pre hp hpre
    have hlen : l.length = pre.length + (rest.length + 1) := by rw [hp]; simp
    have hu := keAt l pre rest a hp
    have hw2 : IntKind.i64.wrap ((pre.length : Int) + 1) = ((pre ++ [a]).length : Int) := by rw [wr64 (by omega) (by omega)]; simp
    have ha : a ∈ l := by rw [hp]; simp
    have ih' := fun h => ih (pre ++ [a]) (by rw [hp]; simp) (fun e he => by
      rcases List.mem_append.1 he with h1 | h1
      · exact hpre e h1
      · rw [List.mem_singleton.1 h1]; exact h)
    refine M.round (M.go rfl ?_)
    refine M.cond rfl (fun hc => ?_) (fun hc => absurd (by omega) hc)
    refine M.go rfl ?_
    refine M.op trivial (SOp.ia rfl rfl (by omega) hu) ?_
    refine M.op trivial (SOp.ldne (m := 4) (u := a.pc) rfl (by rw [Int.toNat_natCast] at hu ⊢; exact hu) rfl rfl rfl) ?_
    refine M.go rfl ?_
    refine M.dec rfl (fun h1 => ?_) (fun h1 => ?_)
    · refine M.go rfl ?_
      refine M.dec rfl (fun h2 => ?_) (fun h2 => ?_)
      · refine M.go rfl ?_
        refine M.ren [(0, 0), (1, 1), (2, 2), (3, 3), (4, 4), (5, 5), (6, 6), (7, 7), (8, 8)] ?_ trivial rfl (by repeat' (first | exact True.intro | refine evC rfl rfl Wk.rfl ?_ | refine evC (accV_ren rfl) rfl Wk.rfl ?_ | refine evC (accV_ren rfl) rfl Wk.acc0 ?_ | refine evC rfl rfl Wk.uncap ?_ | refine evC rfl rfl Wk.nil ?_)) ⟨(hpX rfl rfl rfl), (hpX rfl rfl rfl), HeapOK.fam wOK (by repeat' (first | exact Tl.here | refine Tl.cons rfl ?_)) rfl⟩ (e' := [(4, .c (.p (.bool false)))]) (h' := hKR s k (rdA t v sv f z l c x m r))
        exact M.ret (M.go rfl (M.done (hno ⟨a, ha, fun h => absurd (h h1).1 (by omega)⟩)))
      · refine M.go rfl ?_
        refine M.dec rfl (fun h3 => ?_) (fun h3 => ?_)
        · refine M.go rfl ?_
          refine M.ren [(0, 0), (1, 1), (2, 2), (3, 3), (4, 4), (5, 5), (6, 6), (7, 7), (8, 8)] ?_ trivial rfl (by repeat' (first | exact True.intro | refine evC rfl rfl Wk.rfl ?_ | refine evC (accV_ren rfl) rfl Wk.rfl ?_ | refine evC (accV_ren rfl) rfl Wk.acc0 ?_ | refine evC rfl rfl Wk.uncap ?_ | refine evC rfl rfl Wk.nil ?_)) ⟨(hpX rfl rfl rfl), (hpX rfl rfl rfl), HeapOK.fam wOK (by repeat' (first | exact Tl.here | refine Tl.cons rfl ?_)) rfl⟩ (e' := [(4, .c (.p (.bool false)))]) (h' := hKR s k (rdA t v sv f z l c x m r))
          exact M.ret (M.go rfl (M.done (hno ⟨a, ha, fun h => absurd (h h1).2.1 (by omega)⟩)))
        · refine M.go rfl ?_
          refine M.cond rfl (fun h4 => ?_) (fun h4 => ?_)
          · refine M.go rfl ?_
            refine M.ren [(0, 0), (1, 1), (2, 2), (3, 3), (4, 4), (5, 5), (6, 6), (7, 7), (8, 8)] ?_ trivial rfl (by repeat' (first | exact True.intro | refine evC rfl rfl Wk.rfl ?_ | refine evC (accV_ren rfl) rfl Wk.rfl ?_ | refine evC (accV_ren rfl) rfl Wk.acc0 ?_ | refine evC rfl rfl Wk.uncap ?_ | refine evC rfl rfl Wk.nil ?_)) ⟨(hpX rfl rfl rfl), (hpX rfl rfl rfl), HeapOK.fam wOK (by repeat' (first | exact Tl.here | refine Tl.cons rfl ?_)) rfl⟩ (e' := [(4, .c (.p (.bool false)))]) (h' := hKR s k (rdA t v sv f z l c x m r))
            exact M.ret (M.go rfl (M.done (hno ⟨a, ha, fun h => absurd (h h1).2.2 (by omega)⟩)))
          · refine M.go rfl ?_
            rw [hw2]
            exact M.again (XH.ren [(0, 0), (1, 1), (2, 2), (3, 3), (4, 4), (5, 5), (6, 6), (7, 7), (8, 8)] (ih' (fun _ => ⟨by omega, by omega, by omega⟩)) rfl (by repeat' (first | exact True.intro | refine evC rfl rfl Wk.rfl ?_ | refine evC (accV_ren rfl) rfl Wk.rfl ?_ | refine evC (accV_ren rfl) rfl Wk.acc0 ?_ | refine evC rfl rfl Wk.uncap ?_ | refine evC rfl rfl Wk.nil ?_)) ⟨(hpX rfl rfl rfl), (hpX rfl rfl rfl), HeapOK.fam wOK (by repeat' (first | exact Tl.here | refine Tl.cons rfl ?_)) rfl⟩)
    · refine M.go rfl ?_
      rw [hw2]
      exact M.again (XH.ren [(0, 0), (1, 1), (2, 2), (3, 3), (4, 4), (5, 5), (6, 6), (7, 7), (8, 8)] (ih' (fun h => absurd h (by omega))) rfl (by repeat' (first | exact True.intro | refine evC rfl rfl Wk.rfl ?_ | refine evC (accV_ren rfl) rfl Wk.rfl ?_ | refine evC (accV_ren rfl) rfl Wk.acc0 ?_ | refine evC rfl rfl Wk.uncap ?_ | refine evC rfl rfl Wk.nil ?_)) ⟨(hpX rfl rfl rfl), (hpX rfl rfl rfl), HeapOK.fam wOK (by repeat' (first | exact Tl.here | refine Tl.cons rfl ?_)) rfl⟩)
theorem K_form (s : WS) (k : KVl) (t v : Int) (sv : Bool) (f : Int) (z : Bool) (l : List KE) (c : Option Nat) (x m r : PC) (hl : l.length ≤ 100000) (b : Bool) (hb : b = true ↔ formH k sv t v ∧ ∀ e ∈ l, formE f e) :
    CK base 76 [.c (.ptr 1 0), .agg (rdA t v sv f z l c x m r)] (s, some k) (fun q s' => q = .c (.p (.bs b)) ∧ s' = (s, some k)) := by
  have hil := keP_len l
  have hno : (¬ formH k sv t v ∨ ∃ e ∈ l, ¬ formE f e) → b = false := fun h => by
    cases hbb : b with
    | false => rfl
    | true =>
      obtain ⟨h1, h2⟩ := hb.1 hbb
      rcases h with h | ⟨e, he, h⟩
      · exact absurd h1 h
      · exact absurd (h2 e he) h
  refine CallR.of kOK noNG lFor.2 rfl (M.start (M.go rfl ?_))
  refine M.regD (MD.go rfl ?_)
  cases sv
  · have hH : formH k false t v := fun h => by cases h
    refine MD.decB rfl rfl rfl (fun h => by cases h) (fun _ => ?_)
    refine MD.go rfl ?_
    refine MD.nil mixed (Fnl.nodup rfl) (M.go rfl ?_)
    rw [hil]
    refine M.loop (XH.ren [(0, 0), (1, 1), (2, 2), (3, 3), (4, 4), (5, 5), (6, 6), (7, 7), (8, 8)] (form_loop s k t v false f z l c x m r hl _ (fun h => ?_) (fun h => ?_) l [] rfl (by simp)) rfl (by repeat' (first | exact True.intro | refine evC rfl rfl Wk.rfl ?_ | refine evC (accV_ren rfl) rfl Wk.rfl ?_ | refine evC (accV_ren rfl) rfl Wk.acc0 ?_ | refine evC rfl rfl Wk.uncap ?_ | refine evC rfl rfl Wk.nil ?_)) ⟨(hpX rfl rfl rfl), (hpX rfl rfl rfl), HeapOK.fam wOK (by repeat' (first | exact Tl.here | refine Tl.cons rfl ?_)) rfl⟩)
    · rw [hb.2 ⟨hH, h⟩]
      refine M.q (M.go rfl ?_)
      exact M.ret (M.go rfl (M.done (finR.ret kOK (.c (.p (.bs true))) ((s, some k) : WS × Option KVl) [(0, 0), (1, 1), (2, 2), (3, 3), (4, 4), (5, 5), (6, 6), (7, 7)] rfl rfl rfl Wk.rfl ⟨(hpX rfl rfl rfl), HeapOK.fam wOK (by repeat' (first | exact Tl.here | refine Tl.cons rfl ?_)) rfl⟩ ⟨rfl, rfl⟩)))
    · rw [hno (.inr h)]
      refine M.q (M.go rfl ?_)
      exact M.done (finR.ret kOK (.c (.p (.bs false))) ((s, some k) : WS × Option KVl) [(0, 0), (1, 1), (2, 2), (3, 3), (4, 4), (5, 5), (6, 6), (7, 7)] rfl rfl rfl Wk.rfl ⟨(hpX rfl rfl rfl), HeapOK.fam wOK (by repeat' (first | exact Tl.here | refine Tl.cons rfl ?_)) rfl⟩ ⟨rfl, rfl⟩)
  · refine MD.decB rfl rfl rfl (fun _ => ?_) (fun h => by cases h)
    refine MD.go rfl ?_
    refine MD.dec rfl rfl rfl (fun h1 => ?_) (fun h1 => ?_)
    · refine MD.go rfl (MD.nil mixed (Fnl.nodup rfl) (M.go rfl ?_))
      rw [hno (.inl fun h => absurd (h rfl).1 (by omega))]
      exact M.ret (M.go rfl (M.done (finR.ret kOK (.c (.p (.bs false))) ((s, some k) : WS × Option KVl) [(0, 0), (1, 1), (2, 2), (3, 3), (4, 4), (5, 5), (6, 6), (7, 7)] rfl rfl rfl Wk.rfl ⟨(hpX rfl rfl rfl), HeapOK.fam wOK (by repeat' (first | exact Tl.here | refine Tl.cons rfl ?_)) rfl⟩ ⟨rfl, rfl⟩)))
    · refine MD.go rfl ?_
      refine MD.dec rfl rfl rfl (fun h2 => ?_) (fun h2 => ?_)
      · refine MD.go rfl (MD.nil mixed (Fnl.nodup rfl) (M.go rfl ?_))
        rw [hno (.inl fun h => absurd (h rfl).2.1 (by omega))]
        exact M.ret (M.go rfl (M.done (finR.ret kOK (.c (.p (.bs false))) ((s, some k) : WS × Option KVl) [(0, 0), (1, 1), (2, 2), (3, 3), (4, 4), (5, 5), (6, 6), (7, 7)] rfl rfl rfl Wk.rfl ⟨(hpX rfl rfl rfl), HeapOK.fam wOK (by repeat' (first | exact Tl.here | refine Tl.cons rfl ?_)) rfl⟩ ⟨rfl, rfl⟩)))
      · refine MD.go rfl (MD.nil mixed (Fnl.nodup rfl) (M.go rfl ?_))
        refine M.cond rfl (fun h3 => ?_) (fun h3 => ?_)
        · refine M.go rfl ?_
          rw [hno (.inl fun h => absurd (h rfl).2.2 (by omega))]
          exact M.ret (M.go rfl (M.done (finR.ret kOK (.c (.p (.bs false))) ((s, some k) : WS × Option KVl) [(0, 0), (1, 1), (2, 2), (3, 3), (4, 4), (5, 5), (6, 6), (7, 7)] rfl rfl rfl Wk.rfl ⟨(hpX rfl rfl rfl), HeapOK.fam wOK (by repeat' (first | exact Tl.here | refine Tl.cons rfl ?_)) rfl⟩ ⟨rfl, rfl⟩)))
        · have hH : formH k true t v := fun _ => ⟨by omega, by omega, by omega⟩
          refine M.go rfl ?_
          rw [hil]
          refine M.loop (XH.ren [(0, 0), (1, 1), (2, 2), (3, 3), (4, 4), (5, 5), (6, 6), (7, 7), (8, 8)] (form_loop s k t v true f z l c x m r hl _ (fun h => ?_) (fun h => ?_) l [] rfl (by simp)) rfl (by repeat' (first | exact True.intro | refine evC rfl rfl Wk.rfl ?_ | refine evC (accV_ren rfl) rfl Wk.rfl ?_ | refine evC (accV_ren rfl) rfl Wk.acc0 ?_ | refine evC rfl rfl Wk.uncap ?_ | refine evC rfl rfl Wk.nil ?_)) ⟨(hpX rfl rfl rfl), (hpX rfl rfl rfl), HeapOK.fam wOK (by repeat' (first | exact Tl.here | refine Tl.cons rfl ?_)) rfl⟩)
          · rw [hb.2 ⟨hH, h⟩]
            refine M.q (M.go rfl ?_)
            exact M.ret (M.go rfl (M.done (finR.ret kOK (.c (.p (.bs true))) ((s, some k) : WS × Option KVl) [(0, 0), (1, 1), (2, 2), (3, 3), (4, 4), (5, 5), (6, 6), (7, 7)] rfl rfl rfl Wk.rfl ⟨(hpX rfl rfl rfl), HeapOK.fam wOK (by repeat' (first | exact Tl.here | refine Tl.cons rfl ?_)) rfl⟩ ⟨rfl, rfl⟩)))
          · rw [hno (.inr h)]
            refine M.q (M.go rfl ?_)
            exact M.done (finR.ret kOK (.c (.p (.bs false))) ((s, some k) : WS × Option KVl) [(0, 0), (1, 1), (2, 2), (3, 3), (4, 4), (5, 5), (6, 6), (7, 7)] rfl rfl rfl Wk.rfl ⟨(hpX rfl rfl rfl), HeapOK.fam wOK (by repeat' (first | exact Tl.here | refine Tl.cons rfl ?_)) rfl⟩ ⟨rfl, rfl⟩)
end Go.Proofs.Ytjlfojgacnphmaa

namespace Go.Proofs.Ytjlfojgacnphmaa
open Go.RowKit Sim Go Sym
set_option maxRecDepth 100000
set_option linter.unusedVariables false
set_option linter.unusedSimpArgs false
variable {base : Nat}
noncomputable def lFit : {F : LF // lowerF Try.prog 77 = some F} := ⟨_, rfl⟩
noncomputable def lSma : {F : LF // lowerF Try.prog 78 = some F} := ⟨_, rfl⟩
def fitE (f : Int) (l : List KE) : Prop := ∀ j e, l[j]? = some e → e.i = f + (j : Nat)
def fitP (k : KVl) (f : Int) (l : List KE) : Prop := f = 0 ∨ (k.s.i < f ∧ f ≤ k.s.i + (k.es.length : Nat) + 1 ∧ fitE f l)
theorem hdB_two (k : KVl) (sv : Bool) (t v : Int) : ∃ a b : PC, hdB k sv t v = [.p a, .p b] := by cases sv <;> exact ⟨_, _, rfl⟩
def smaP (f : Int) (l : List KE) : Prop := 0 < f → ∀ e ∈ l, e.d.length ≤ 8192
theorem fit_loop (s : WS) (k : KVl) (t v : Int) (sv : Bool) (f : Int) (z : Bool) (l : List KE) (c : Option Nat) (x m r : PC) (hl : l.length ≤ 100000) (hf : 0 ≤ f ∧ f ≤ 3000000000000000) (Q : QX) (hq : fitE f l → Q (.exit 0) [(0, .c (.ptr 1 0))] (hKR s k (rdA t v sv f z l c x m r))) (hno : ¬ fitE f l → Q .ret [(4, .c (.p (.bool false)))] (hKR s k (rdA t v sv f z l c x m r))) :
    ∀ (rest pre : List KE), l = pre ++ rest → fitE f pre → XH Try.prog base lFit.1.n 2 (lFit.1.c.lp 0) [(0, .c (.ptr 1 0)), (3, .c (.ptr 8 0)), (60, .c (.p (.tz z 4 (keP l) c))), (61, .c (.p (.int .i64 l.length))), (62, .c (.p (.int .i64 pre.length)))] (hKR s k (rdA t v sv f z l c x m r)) Q := by
  intro rest
  induction rest with
  | nil =>
    intro pre hp hpre
    simp at hp
    subst hp
    refine M.round (M.go rfl ?_)
    refine M.cond rfl (fun hc => absurd hc (by omega)) (fun hc => ?_)
    refine M.ren [(0, 0), (1, 1), (2, 2), (3, 3), (4, 4), (5, 5), (6, 6), (7, 7), (8, 8)] ?_ trivial rfl (by repeat' (first | exact True.intro | refine evC rfl rfl Wk.rfl ?_ | refine evC (accV_ren rfl) rfl Wk.rfl ?_ | refine evC (accV_ren rfl) rfl Wk.acc0 ?_ | refine evC rfl rfl Wk.uncap ?_ | refine evC rfl rfl Wk.nil ?_)) ⟨(hpX rfl rfl rfl), (hpX rfl rfl rfl), HeapOK.fam wOK (by repeat' (first | exact Tl.here | refine Tl.cons rfl ?_)) rfl⟩ (e' := [(0, .c (.ptr 1 0))]) (h' := hKR s k (rdA t v sv f z l c x m r))
    exact M.exit (M.go rfl (M.done (hq hpre)))
  | cons a rest ih =>
    intro pre hp hpre
    have hlen : l.length = pre.length + (rest.length + 1) := by rw [hp]; simp
    have hu := keAt l pre rest a hp
    have hw2 : IntKind.i64.wrap ((pre.length : Int) + 1) = ((pre ++ [a]).length : Int) := by rw [wr64 (by omega) (by omega)]; simp
    have hw3 : IntKind.i64.wrap (f + (pre.length : Int)) = f + (pre.length : Nat) := wr64 (by omega) (by omega)
    have ha : l[pre.length]? = some a := by rw [hp]; simp
    refine M.round (M.go rfl ?_)
    refine M.cond rfl (fun hc => ?_) (fun hc => absurd (by omega) hc)
    refine M.go rfl ?_
    refine M.op trivial (SOp.ia rfl rfl (by omega) hu) ?_
    refine M.op trivial (SOp.ldne (m := 4) (u := a.pc) rfl (by rw [Int.toNat_natCast] at hu ⊢; exact hu) rfl rfl rfl) ?_
    refine M.go rfl ?_
    rw [hw3]
    refine M.condN rfl (fun h1 => ?_) (fun h1 => ?_)
    · refine M.go rfl ?_
      refine M.ren [(0, 0), (1, 1), (2, 2), (3, 3), (4, 4), (5, 5), (6, 6), (7, 7), (8, 8)] ?_ trivial rfl (by repeat' (first | exact True.intro | refine evC rfl rfl Wk.rfl ?_ | refine evC (accV_ren rfl) rfl Wk.rfl ?_ | refine evC (accV_ren rfl) rfl Wk.acc0 ?_ | refine evC rfl rfl Wk.uncap ?_ | refine evC rfl rfl Wk.nil ?_)) ⟨(hpX rfl rfl rfl), (hpX rfl rfl rfl), HeapOK.fam wOK (by repeat' (first | exact Tl.here | refine Tl.cons rfl ?_)) rfl⟩ (e' := [(4, .c (.p (.bool false)))]) (h' := hKR s k (rdA t v sv f z l c x m r))
      exact M.ret (M.go rfl (M.done (hno fun h => h1 (h _ _ ha))))
    · refine M.go rfl ?_
      rw [hw2]
      refine M.again (XH.ren [(0, 0), (1, 1), (2, 2), (3, 3), (4, 4), (5, 5), (6, 6), (7, 7), (8, 8)] (ih (pre ++ [a]) (by rw [hp]; simp) (fun j e hj => ?_)) rfl (by repeat' (first | exact True.intro | refine evC rfl rfl Wk.rfl ?_ | refine evC (accV_ren rfl) rfl Wk.rfl ?_ | refine evC (accV_ren rfl) rfl Wk.acc0 ?_ | refine evC rfl rfl Wk.uncap ?_ | refine evC rfl rfl Wk.nil ?_)) ⟨(hpX rfl rfl rfl), (hpX rfl rfl rfl), HeapOK.fam wOK (by repeat' (first | exact Tl.here | refine Tl.cons rfl ?_)) rfl⟩)
      by_cases hjl : j < pre.length
      · rw [List.getElem?_append_left hjl] at hj; exact hpre j e hj
      · rw [List.getElem?_append_right (by omega)] at hj
        have : j - pre.length = 0 := by
          cases hd : j - pre.length with
          | zero => rfl
          | succ n => rw [hd] at hj; cases hj
        rw [this] at hj
        cases hj
        rw [h1]
        have : j = pre.length := by omega
        rw [this]
theorem K_fits (s : WS) (k : KVl) (t v : Int) (sv : Bool) (f : Int) (z : Bool) (l : List KE) (c : Option Nat) (x m r : PC) (hl : l.length ≤ 100000) (hsi : 0 ≤ k.s.i ∧ k.s.i ≤ 2000000000000000) (hkl : k.es.length ≤ 100000) (b : Bool) (hb : b = true ↔ fitP k f l) :
    CK base 77 [.c (.ptr 1 0), .agg (rdA t v sv f z l c x m r)] (s, some k) (fun q s' => q = .c (.p (.bs b)) ∧ s' = (s, some k)) := by
  have hil := keP_len l
  have hie := keP_len k.es
  have hno : ¬ fitP k f l → b = false := fun h => by
    cases hbb : b with
    | false => rfl
    | true => exact absurd (hb.1 hbb) h
  refine CallR.of kOK noNG lFit.2 rfl (M.start (M.go rfl ?_))
  refine M.regD (MD.go rfl ?_)
  refine MD.nil mixed (Fnl.nodup rfl) (M.go rfl ?_)
  refine M.cond rfl (fun h1 => ?_) (fun h1 => ?_)
  · refine M.go rfl ?_
    have hbd : b = decide (f = 0) := by
      cases hbb : b with
      | true =>
        rcases hb.1 hbb with h | ⟨h, h2, h3⟩
        · simp [h]
        · omega
      | false =>
        have : ¬ f = 0 := fun h => by rw [hb.2 (.inl h)] at hbb; cases hbb
        simp [this]
    rw [hbd]
    exact M.ret (M.go rfl (M.done (finR.ret kOK (.c (.p (.bs (decide (f = 0))))) ((s, some k) : WS × Option KVl) [(0, 0), (1, 1), (2, 2), (3, 3), (4, 4), (5, 5), (6, 6), (7, 7)] rfl rfl rfl Wk.rfl ⟨(hpX rfl rfl rfl), HeapOK.fam wOK (by repeat' (first | exact Tl.here | refine Tl.cons rfl ?_)) rfl⟩ ⟨rfl, rfl⟩)))
  · refine M.go rfl ?_
    refine M.shO (Sh.ren (e' := [(0, .c (.ptr 1 0)), (3, .c (.ptr 8 0)), (37, .c (.ptr 1 0)), (38, .agg (rdA t v sv 0 z l c x m r))]) (h' := ⟨appL [(9, some (.row (rdA t v sv 0 z l c x m r) true)), (8, some (.row (rdA t v sv f z l c x m r) true))] (kFam.mem (s, some k)).l, 10⟩) [(0, 0), (1, 1), (2, 2), (3, 3), (4, 4), (5, 5), (6, 6), (7, 7), (8, 8), (9, 9)] rfl (by repeat' (first | exact True.intro | refine evC rfl rfl Wk.rfl ?_ | refine evC (accV_ren rfl) rfl Wk.rfl ?_ | refine evC (accV_ren rfl) rfl Wk.acc0 ?_ | refine evC rfl rfl Wk.uncap ?_ | refine evC rfl rfl Wk.nil ?_)) ⟨(hpX rfl rfl rfl), (hpX rfl rfl rfl), (hpX rfl rfl rfl), HeapOK.fam wOK (by repeat' (first | exact Tl.here | refine Tl.cons rfl ?_)) rfl⟩) ?_
    refine M.useR (s := ((s, some k) : WS × Option KVl)) kOK [(9, some (.row (rdA t v sv 0 z l c x m r) true)), (8, some (.row (rdA t v sv f z l c x m r) true))] [(0, .c (.ptr 1 0)), (3, .c (.ptr 8 0))] trivial (K_behind0 s k t v sv z l c x m r) rfl ⟨⟨rfl, rfl⟩, ⟨rfl, rfl⟩, trivial⟩ rfl rfl rfl rfl (fun r s' h => by rw [h.1]; cases sv <;> rfl) (by repeat' (first | exact True.intro | refine evC rfl rfl Wk.rfl ?_ | refine evC (accV_ren rfl) rfl Wk.rfl ?_ | refine evC (accV_ren rfl) rfl Wk.acc0 ?_ | refine evC rfl rfl Wk.uncap ?_ | refine evC rfl rfl Wk.nil ?_)) (fun r s' h => ?_)
    obtain ⟨rfl, rfl⟩ := h
    obtain ⟨ha, hb', hab⟩ := hdB_two k sv t v
    rw [hab]
    refine M.go rfl ?_
    refine M.dec rfl (fun h2 => ?_) (fun h2 => ?_)
    · refine M.go rfl ?_
      rw [hno (fun h => by rcases h with h | ⟨h, -⟩ <;> omega)]
      exact M.ret (M.go rfl (M.done (finR.ret kOK (.c (.p (.bs false))) ((s, some k) : WS × Option KVl) [(0, 0), (1, 1), (2, 2), (3, 3), (4, 4), (5, 5), (6, 6), (7, 7)] rfl rfl rfl Wk.rfl ⟨(hpX rfl rfl rfl), HeapOK.fam wOK (by repeat' (first | exact Tl.here | refine Tl.cons rfl ?_)) rfl⟩ ⟨rfl, rfl⟩)))
    · refine M.go rfl ?_
      rw [hie, wr64 (n := k.s.i + (k.es.length : Int)) (by omega) (by omega), wr64 (n := k.s.i + (k.es.length : Int) + 1) (by omega) (by omega)]
      refine M.cond rfl (fun h3 => ?_) (fun h3 => ?_)
      · refine M.go rfl ?_
        rw [hno (fun h => by rcases h with h | ⟨-, h, -⟩ <;> omega)]
        exact M.ret (M.go rfl (M.done (finR.ret kOK (.c (.p (.bs false))) ((s, some k) : WS × Option KVl) [(0, 0), (1, 1), (2, 2), (3, 3), (4, 4), (5, 5), (6, 6), (7, 7)] rfl rfl rfl Wk.rfl ⟨(hpX rfl rfl rfl), HeapOK.fam wOK (by repeat' (first | exact Tl.here | refine Tl.cons rfl ?_)) rfl⟩ ⟨rfl, rfl⟩)))
      · refine M.go rfl ?_
        rw [hil]
        refine M.loop (XH.ren [(0, 0), (1, 1), (2, 2), (3, 3), (4, 4), (5, 5), (6, 6), (7, 7), (8, 8)] (fit_loop s k t v sv f z l c x m r hl ⟨by omega, by omega⟩ _ (fun h => ?_) (fun h => ?_) l [] rfl (fun j e h => by simp at h)) rfl (by repeat' (first | exact True.intro | refine evC rfl rfl Wk.rfl ?_ | refine evC (accV_ren rfl) rfl Wk.rfl ?_ | refine evC (accV_ren rfl) rfl Wk.acc0 ?_ | refine evC rfl rfl Wk.uncap ?_ | refine evC rfl rfl Wk.nil ?_)) ⟨(hpX rfl rfl rfl), (hpX rfl rfl rfl), HeapOK.fam wOK (by repeat' (first | exact Tl.here | refine Tl.cons rfl ?_)) rfl⟩)
        · rw [hb.2 (.inr ⟨by omega, by omega, h⟩)]
          refine M.q (M.go rfl ?_)
          exact M.ret (M.go rfl (M.done (finR.ret kOK (.c (.p (.bs true))) ((s, some k) : WS × Option KVl) [(0, 0), (1, 1), (2, 2), (3, 3), (4, 4), (5, 5), (6, 6), (7, 7)] rfl rfl rfl Wk.rfl ⟨(hpX rfl rfl rfl), HeapOK.fam wOK (by repeat' (first | exact Tl.here | refine Tl.cons rfl ?_)) rfl⟩ ⟨rfl, rfl⟩)))
        · rw [hno (fun h' => by
            rcases h' with h' | ⟨-, -, h'⟩
            · omega
            · exact h h')]
          refine M.q (M.go rfl ?_)
          exact M.done (finR.ret kOK (.c (.p (.bs false))) ((s, some k) : WS × Option KVl) [(0, 0), (1, 1), (2, 2), (3, 3), (4, 4), (5, 5), (6, 6), (7, 7)] rfl rfl rfl Wk.rfl ⟨(hpX rfl rfl rfl), HeapOK.fam wOK (by repeat' (first | exact Tl.here | refine Tl.cons rfl ?_)) rfl⟩ ⟨rfl, rfl⟩)
theorem sma_loop (t v : Int) (sv : Bool) (f : Int) (z : Bool) (l : List KE) (c : Option Nat) (x m r : PC) (hl : l.length ≤ 100000) (hd : ∀ e ∈ l, e.d.length ≤ 1000000) (Q : QX) (hq : smaP f l → Q (.exit 0) [(1, .c (.ptr 0 0))] ⟨[(0, some (.row (rdA t v sv f z l c x m r) true))], 1⟩) (hno : ¬ smaP f l → Q .ret [(2, .c (.p (.bool false)))] ⟨[], 0⟩) :
    ∀ (rest pre : List KE), l = pre ++ rest → smaP f pre → XH Try.prog base lSma.1.n 0 (lSma.1.c.lp 0) [(1, .c (.ptr 0 0)), (6, .c (.p (.tz z 4 (keP l) c))), (7, .c (.p (.int .i64 l.length))), (8, .c (.p (.int .i64 pre.length)))] ⟨[(0, some (.row (rdA t v sv f z l c x m r) true))], 1⟩ Q := by
  intro rest
  induction rest with
  | nil =>
    intro pre hp hpre
    simp at hp
    subst hp
    refine M.round (M.go rfl ?_)
    refine M.cond rfl (fun hc => absurd hc (by omega)) (fun hc => ?_)
    refine M.ren [(0, 0)] ?_ trivial rfl (by repeat' (first | exact True.intro | refine evC rfl rfl Wk.rfl ?_ | refine evC (accV_ren rfl) rfl Wk.rfl ?_ | refine evC (accV_ren rfl) rfl Wk.acc0 ?_ | refine evC rfl rfl Wk.uncap ?_ | refine evC rfl rfl Wk.nil ?_)) (by repeat' (first | exact True.intro | refine hpC rfl rfl rfl ?_ | refine ⟨⟨_, _, _, rfl, rfl, rfl, @WkO.rfl _⟩, ?_⟩ | refine HeapOK.acc rfl rfl ?_)) (e' := [(1, .c (.ptr 0 0))]) (h' := ⟨[(0, some (.row (rdA t v sv f z l c x m r) true))], 1⟩)
    exact M.exit (M.go rfl (M.done (hq hpre)))
  | cons a rest ih =>
    intro pre hp hpre
    have hlen : l.length = pre.length + (rest.length + 1) := by rw [hp]; simp
    have hu := keAt l pre rest a hp
    have hw2 : IntKind.i64.wrap ((pre.length : Int) + 1) = ((pre ++ [a]).length : Int) := by rw [wr64 (by omega) (by omega)]; simp
    have ha : a ∈ l := by rw [hp]; simp
    have ih' := fun (h : 0 < f → a.d.length ≤ 8192) => ih (pre ++ [a]) (by rw [hp]; simp) (fun hf e he => by
      rcases List.mem_append.1 he with h1 | h1
      · exact hpre hf e h1
      · rw [List.mem_singleton.1 h1]; exact h hf)
    refine M.round (M.go rfl ?_)
    refine M.cond rfl (fun hc => ?_) (fun hc => absurd (by omega) hc)
    refine M.go rfl ?_
    refine M.op trivial (SOp.ia rfl rfl (by omega) hu) ?_
    refine M.op trivial (SOp.ldne (m := 4) (u := a.pc) rfl (by rw [Int.toNat_natCast] at hu ⊢; exact hu) rfl rfl rfl) ?_
    refine M.go rfl ?_
    refine M.dec rfl (fun h1 => ?_) (fun h1 => ?_)
    · refine M.go rfl ?_
      rw [u8P_len]
      refine M.cond rfl (fun h2 => ?_) (fun h2 => ?_)
      · refine M.go rfl ?_
        refine M.ren [] ?_ trivial rfl (by repeat' (first | exact True.intro | refine evC rfl rfl Wk.rfl ?_ | refine evC (accV_ren rfl) rfl Wk.rfl ?_ | refine evC (accV_ren rfl) rfl Wk.acc0 ?_ | refine evC rfl rfl Wk.uncap ?_ | refine evC rfl rfl Wk.nil ?_)) (by repeat' (first | exact True.intro | refine hpC rfl rfl rfl ?_ | refine ⟨⟨_, _, _, rfl, rfl, rfl, @WkO.rfl _⟩, ?_⟩ | refine HeapOK.acc rfl rfl ?_)) (e' := [(2, .c (.p (.bool false)))]) (h' := ⟨[], 0⟩)
        exact M.ret (M.go rfl (M.done (hno fun h => absurd (h h1 a ha) (by omega))))
      · refine M.go rfl ?_
        rw [hw2]
        exact M.again (XH.ren [(0, 0)] (ih' (fun _ => by omega)) rfl (by repeat' (first | exact True.intro | refine evC rfl rfl Wk.rfl ?_ | refine evC (accV_ren rfl) rfl Wk.rfl ?_ | refine evC (accV_ren rfl) rfl Wk.acc0 ?_ | refine evC rfl rfl Wk.uncap ?_ | refine evC rfl rfl Wk.nil ?_)) (by repeat' (first | exact True.intro | refine hpC rfl rfl rfl ?_ | refine ⟨⟨_, _, _, rfl, rfl, rfl, @WkO.rfl _⟩, ?_⟩ | refine HeapOK.acc rfl rfl ?_)))
    · refine M.go rfl ?_
      rw [hw2]
      exact M.again (XH.ren [(0, 0)] (ih' (fun h => absurd h h1)) rfl (by repeat' (first | exact True.intro | refine evC rfl rfl Wk.rfl ?_ | refine evC (accV_ren rfl) rfl Wk.rfl ?_ | refine evC (accV_ren rfl) rfl Wk.acc0 ?_ | refine evC rfl rfl Wk.uncap ?_ | refine evC rfl rfl Wk.nil ?_)) (by repeat' (first | exact True.intro | refine hpC rfl rfl rfl ?_ | refine ⟨⟨_, _, _, rfl, rfl, rfl, @WkO.rfl _⟩, ?_⟩ | refine HeapOK.acc rfl rfl ?_)))
theorem K_small (t v : Int) (sv : Bool) (f : Int) (z : Bool) (l : List KE) (c : Option Nat) (x m r : PC) (hl : l.length ≤ 100000) (hd : ∀ e ∈ l, e.d.length ≤ 1000000) (b : Bool) (hb : b = true ↔ smaP f l) :
    CallS Try.prog base 78 [.agg (rdA t v sv f z l c x m r)] ⟨[], 0⟩ (.c (.p (.bs b))) ⟨[], 0⟩ := by
  have hil := keP_len l
  refine CallS.of noNG lSma.2 rfl (M.start (M.go rfl ?_))
  rw [hil]
  refine M.loop (XH.ren [(0, 0)] (sma_loop t v sv f z l c x m r hl hd _ (fun h => ?_) (fun h => ?_) l [] rfl (fun _ e h => by simp at h)) rfl (by repeat' (first | exact True.intro | refine evC rfl rfl Wk.rfl ?_ | refine evC (accV_ren rfl) rfl Wk.rfl ?_ | refine evC (accV_ren rfl) rfl Wk.acc0 ?_ | refine evC rfl rfl Wk.uncap ?_ | refine evC rfl rfl Wk.nil ?_)) (by repeat' (first | exact True.intro | refine hpC rfl rfl rfl ?_ | refine ⟨⟨_, _, _, rfl, rfl, rfl, @WkO.rfl _⟩, ?_⟩ | refine HeapOK.acc rfl rfl ?_)))
  · rw [hb.2 h]
    refine M.q (M.go rfl ?_)
    exact M.ret (M.go rfl (M.done (finQ.ret [] rfl rfl rfl (by first | exact Wk.rfl | exact Wk.uncap | exact Wk.nil | exact Wk.b1 rfl | exact Wk.t2 Wk.rfl (Wk.b1 rfl)) (by repeat' (first | exact True.intro | refine hpC rfl rfl rfl ?_ | refine ⟨⟨_, _, _, rfl, rfl, rfl, @WkO.rfl _⟩, ?_⟩ | refine HeapOK.acc rfl rfl ?_)))))
  · rw [show b = false by
      cases hbb : b with
      | false => rfl
      | true => exact absurd (hb.1 hbb) h]
    refine M.q (M.go rfl ?_)
    exact M.done (finQ.ret [] rfl rfl rfl (by first | exact Wk.rfl | exact Wk.uncap | exact Wk.nil | exact Wk.b1 rfl | exact Wk.t2 Wk.rfl (Wk.b1 rfl)) (by repeat' (first | exact True.intro | refine hpC rfl rfl rfl ?_ | refine ⟨⟨_, _, _, rfl, rfl, rfl, @WkO.rfl _⟩, ?_⟩ | refine HeapOK.acc rfl rfl ?_)))
end Go.Proofs.Ytjlfojgacnphmaa

namespace Go.Proofs.Ytjlfojgacnphmaa
open Go.RowKit Sim Go Sym
set_option maxRecDepth 100000
set_option linter.unusedVariables false
set_option linter.unusedSimpArgs false
variable {base : Nat}
noncomputable def lAll : {F : LF // lowerF Try.prog 93 = some F} := ⟨_, rfl⟩
noncomputable def lByt : {F : LF // lowerF Try.prog 112 = some F} := ⟨_, rfl⟩
noncomputable def lCha : {F : LF // lowerF Try.prog 80 = some F} := ⟨_, rfl⟩
theorem W_bytes {s : WS} {f : Int} {R : List (List Int)} (hi : WInv s f R) : CW base 112 [.c (.ptr 2 0)] s (fun r s' => r = .c (.p (.int .i64 ((flatR f R).length : Nat))) ∧ s' = s) := by
  have hen := hi.en
  rw [← hen]
  obtain ⟨room, first, en, L, lc, F, c, _ | ⟨w, W⟩, _ | _ | ⟨o, m, X, Y⟩⟩ := s
  · exact hi.lg.elim
  · exact CallR.of wOK noNG lByt.2 rfl (M.start (M.go rfl (M.ret (M.go rfl (M.done (finR.ret wOK (.c (.p (.int .i64 en))) (⟨room, first, en, L, lc, F, c, none, .nil⟩ : WS) [(0, 0), (1, 1), (2, 2), (3, 3), (4, 4), (5, 5), (6, 6), (7, 7)] rfl rfl rfl Wk.rfl (by repeat' (first | exact True.intro | refine hpC rfl rfl rfl ?_ | refine ⟨⟨_, _, _, rfl, rfl, rfl, @WkO.rfl _⟩, ?_⟩ | refine HeapOK.acc rfl rfl ?_)) ⟨rfl, rfl⟩))))))
  · exact CallR.of wOK noNG lByt.2 rfl (M.start (M.go rfl (M.ret (M.go rfl (M.done (finR.ret wOK (.c (.p (.int .i64 en))) (⟨room, first, en, L, lc, F, c, none, .own o m X Y⟩ : WS) [(0, 0), (1, 1), (2, 2), (3, 3), (4, 4), (5, 5), (6, 6), (7, 7)] rfl rfl rfl Wk.rfl (by repeat' (first | exact True.intro | refine hpC rfl rfl rfl ?_ | refine ⟨⟨_, _, _, rfl, rfl, rfl, @WkO.rfl _⟩, ?_⟩ | refine HeapOK.acc rfl rfl ?_)) ⟨rfl, rfl⟩))))))
  · exact hi.lg.elim
  · exact CallR.of wOK noNG lByt.2 rfl (M.start (M.go rfl (M.ret (M.go rfl (M.done (finR.ret wOK (.c (.p (.int .i64 en))) (⟨room, first, en, L, lc, F, c, some (w, W), .nil⟩ : WS) [(0, 0), (1, 1), (2, 2), (3, 3), (4, 4), (5, 5), (6, 6), (7, 7)] rfl rfl rfl Wk.rfl (by repeat' (first | exact True.intro | refine hpC rfl rfl rfl ?_ | refine ⟨⟨_, _, _, rfl, rfl, rfl, @WkO.rfl _⟩, ?_⟩ | refine HeapOK.acc rfl rfl ?_)) ⟨rfl, rfl⟩))))))
  · exact CallR.of wOK noNG lByt.2 rfl (M.start (M.go rfl (M.ret (M.go rfl (M.done (finR.ret wOK (.c (.p (.int .i64 en))) (⟨room, first, en, L, lc, F, c, some (w, W), .own o m X Y⟩ : WS) [(0, 0), (1, 1), (2, 2), (3, 3), (4, 4), (5, 5), (6, 6), (7, 7)] rfl rfl rfl Wk.rfl (by repeat' (first | exact True.intro | refine hpC rfl rfl rfl ?_ | refine ⟨⟨_, _, _, rfl, rfl, rfl, @WkO.rfl _⟩, ?_⟩ | refine HeapOK.acc rfl rfl ?_)) ⟨rfl, rfl⟩))))))
theorem all0_spec (t v : Int) (sn : KSn) (hsn : sn.i = 0) (z : Bool) (l : List KE) (c : Option Nat) (ht : InI64 t) (hv : InI64 v) (hl : l.length ≤ 10000) (hok : ∀ e ∈ l, e.ok) :
    CallS Try.prog base 93 [.agg [.p (.int .i64 t), .p (.int .i64 v)], .agg (sn.cs.map XC.p), .c (.p (.tz z 4 (keP l) c))] ⟨[], 0⟩ (.c (.p (.tz true 1 (u8P (txtB 2 true t v 1 l)) none))) ⟨[], 0⟩ := by
  obtain ⟨i, st, szc, sconf, scc, sz, sd, sc⟩ := sn
  obtain rfl : i = 0 := hsn
  refine CallS.of noNG lAll.2 rfl (M.start (M.go rfl ?_))
  refine M.cond rfl (fun h => absurd (show (0 : Int) < 0 from h) (by decide)) (fun _ => ?_)
  refine M.go rfl ?_
  refine M.wkO (i := 18) (v' := .agg (rdA t v true 1 z l c (.tz true 0 [] none) (.tz true 0 [] none) (.tz true 0 [] none))) rfl (Wk.of rfl) ?_
  refine M.use0 trivial (text0_spec 2 t v true 1 z l c (.tz true 0 [] none) (.tz true 0 [] none) (.tz true 0 [] none) ⟨by decide, by decide⟩ ht hv ⟨by decide, by decide⟩ hl hok) rfl rfl rfl ?_
  refine M.go rfl ?_
  exact M.ret (M.go rfl (M.done (finQ.ret [] rfl rfl rfl (by first | exact Wk.rfl | exact Wk.uncap | exact Wk.nil | exact Wk.b1 rfl | exact Wk.t2 Wk.rfl (Wk.b1 rfl)) (by repeat' (first | exact True.intro | refine hpC rfl rfl rfl ?_ | refine ⟨⟨_, _, _, rfl, rfl, rfl, @WkO.rfl _⟩, ?_⟩ | refine HeapOK.acc rfl rfl ?_)))))
theorem K_change (s : WS) (k : KVl) {f : Int} {R : List (List Int)} (hi : WInv s f R) (z : Bool) (B : List Int) (c : Option Nat) (t v : Int) (sn : KSn) (hsn : sn.i = 0) (z2 : Bool) (l : List KE) (c2 : Option Nat) (ht : InI64 t) (hv : InI64 v) (hl : l.length ≤ 10000) (hle : ∀ e ∈ l, e.ok)
    (hB : Bytes B) (hne : B ≠ []) (hBl : B.length ≤ 29000) (hok : RecOK (f2N f R) (R ++ [1 :: B])) (hRl : R.length ≤ 9000) (hsz : (flatR f R).length + B.length ≤ 380000) (hnl : s.lg = .nil → s.dk = none) (hdk : wtN s.dk ≤ 100000)
    (hroom : (flatR f R).length + B.length ≤ 1000 + 2 * (txtB 2 true t v 1 l).length) :
    ∃ s', (WInv s' (f2N f R) (R ++ [1 :: B]) ∧ s'.dk = none ∧ s'.lg ≠ .nil ∧ s'.L = s'.F ∧ s'.lc = s'.c) ∧ DK base 80 [.c (.ptr 1 0), .c (.p (.tz z 1 (u8P B) c)), .agg [.p (.int .i64 t), .p (.int .i64 v)], .agg (sn.cs.map XC.p), .c (.p (.tz z2 4 (keP l) c2))] (s, some k) (.c (.p (.int .i64 0))) (s', some k) := by
  obtain ⟨s1, g, C⟩ := K_write (base := base) s k hi z B c hB hne hBl hok hRl hsz hnl hdk
  refine ⟨s1, g, ?_⟩
  have hkl := kesB_len l hle
  have h2 := numB_len ht.1 ht.2
  have h3 := numB_len hv.1 hv.2
  have h4 : (numB 2).length ≤ 10 := numB_len (by decide) (by decide)
  have h5 : (numB 1).length ≤ 10 := numB_len (by decide) (by decide)
  have hfb : ∀ b, (flagB b).length = 1 := fun b => rfl
  have hnl : (numB (l.length : Int)).length ≤ 10 := numB_len (by omega) (by omega)
  have h7 : l.length * 30040 ≤ 10000 * 30040 := Nat.mul_le_mul_right _ hl
  have hbl : (txtB 2 true t v 1 l).length ≤ 400000000 := by simp [txtB, kesN, hfb]; omega
  refine CallR.of kOK noNG lCha.2 rfl (M.start (M.go rfl ?_))
  refine M.use0 trivial (all0_spec t v sn hsn z2 l c2 ht hv hl hle) rfl rfl rfl ?_
  refine M.go rfl ?_
  refine M.shO (Sh.ren (e' := [(0, .c (.ptr 1 0)), (1, .c (.p (.tz z 1 (u8P B) c))), (11, .c (.p (.tz true 1 (u8P (txtB 2 true t v 1 l)) none))), (19, .c (.ptr 2 0))]) (h' := ⟨appL [(1, some (.row k.row true))] (wFam.mem s).l, 8⟩) [(0, 0), (1, 1), (2, 2), (3, 3), (4, 4), (5, 5), (6, 6), (7, 7)] rfl (by repeat' (first | exact True.intro | refine evC rfl rfl Wk.rfl ?_ | refine evC (accV_ren rfl) rfl Wk.rfl ?_ | refine evC (accV_ren rfl) rfl Wk.acc0 ?_ | refine evC rfl rfl Wk.uncap ?_ | refine evC rfl rfl Wk.nil ?_)) ⟨(hpX rfl rfl rfl), HeapOK.fam wOK (by repeat' (first | exact Tl.here | refine Tl.cons rfl ?_)) rfl⟩) ?_
  refine M.useR (s := s) wOK [(1, some (.row k.row true))] [(0, .c (.ptr 1 0)), (1, .c (.p (.tz z 1 (u8P B) c))), (11, .c (.p (.tz true 1 (u8P (txtB 2 true t v 1 l)) none)))] trivial (W_bytes hi) rfl ⟨⟨rfl, rfl⟩, trivial⟩ rfl rfl rfl rfl (fun r s' h => by rw [h.1]; rfl) (by repeat' (first | exact True.intro | refine evC rfl rfl Wk.rfl ?_ | refine evC (accV_ren rfl) rfl Wk.rfl ?_ | refine evC (accV_ren rfl) rfl Wk.acc0 ?_ | refine evC rfl rfl Wk.uncap ?_ | refine evC rfl rfl Wk.nil ?_)) (fun r s' h => ?_)
  obtain ⟨rfl, h2⟩ := h
  rw [h2]
  refine M.go rfl ?_
  rw [u8P_len, u8P_len, wr64 (n := ((flatR f R).length : Int) + (B.length : Int)) (by omega) (by omega), wr64 (n := 2 * ((txtB 2 true t v 1 l).length : Int)) (by omega) (by omega), wr64 (n := 1000 + 2 * ((txtB 2 true t v 1 l).length : Int)) (by omega) (by omega)]
  refine M.dec rfl (fun h => absurd h (by omega)) (fun _ => ?_)
  refine M.go rfl ?_
  refine M.useR (s := ((s, some k) : WS × Option KVl)) kOK [] [] trivial C rfl trivial rfl rfl rfl rfl (fun r s' h => by rw [h.1]; rfl) (by repeat' (first | exact True.intro | refine evC rfl rfl Wk.rfl ?_ | refine evC (accV_ren rfl) rfl Wk.rfl ?_ | refine evC (accV_ren rfl) rfl Wk.acc0 ?_ | refine evC rfl rfl Wk.uncap ?_ | refine evC rfl rfl Wk.nil ?_)) (fun r s' h => ?_)
  obtain ⟨rfl, rfl⟩ := h
  refine M.go rfl ?_
  exact M.ret (M.go rfl (M.done (finR.ret kOK (.c (.p (.int .i64 0))) ((s1, some k) : WS × Option KVl) [(0, 0), (1, 1), (2, 2), (3, 3), (4, 4), (5, 5), (6, 6), (7, 7)] rfl rfl rfl Wk.rfl ⟨(hpX rfl rfl rfl), HeapOK.fam wOK (by repeat' (first | exact Tl.here | refine Tl.cons rfl ?_)) rfl⟩ ⟨rfl, rfl⟩)))
end Go.Proofs.Ytjlfojgacnphmaa

namespace Go.Proofs.Ytjlfojgacnphmaa
open Go.RowKit Sim Go Sym
set_option maxRecDepth 100000
set_option linter.unusedVariables false
set_option linter.unusedSimpArgs false
variable {base : Nat}
noncomputable def lSav : {F : LF // lowerF Try.prog 45 = some F} := ⟨_, rfl⟩
theorem hdB_pl (k : KVl) (sv : Bool) (t v f : Int) (l : List KE) : hdB k sv t v = [.p (.int .i64 (plV k sv t v f l).t), .p (.int .i64 (plV k sv t v f l).v)] := by cases sv <;> rfl
theorem K_behind (s : WS) (k : KVl) (t v : Int) (sv : Bool) (f : Int) (z : Bool) (l : List KE) (c : Option Nat) (x m r : PC) (hf : 0 ≤ f ∧ f ≤ 2000000000000000) (hs : 0 ≤ k.s.i ∧ k.s.i ≤ 2000000000000000) (hl : l.length ≤ 10000) (hd : ∀ e ∈ l, e.d.length ≤ 1000000) (hkl : k.es.length ≤ 10000) (hkd : ∀ e ∈ k.es, e.d.length ≤ 1000000) :
    CK3 base 79 [.c (.ptr 1 0), .agg (rdA t v sv f z l c x m r)] (s, some k)
    (fun q s' => q = .tup [.agg [.p (.int .i64 (plV k sv t v f l).t), .p (.int .i64 (plV k sv t v f l).v)], .agg (k.s.cs.map XC.p), .c (.p (.tz (plV k sv t v f l).z 4 (keP (plV k sv t v f l).es) (plV k sv t v f l).c))] ∧ s' = (s, some k)) := by
  rw [← hdB_pl]
  by_cases h0 : f = 0
  · subst h0
    exact K_behind0 s k t v sv z l c x m r
  · have h := K_behindF (base := base) s k t v sv f z l c x m r ⟨by omega, hf.2⟩ hs hl hd hkl hkd
    have h1 : 1 ≤ f := by omega
    simp only [plV, if_pos h1]
    exact h
theorem krow (s : WS) (k : KVl) : ∀ b, b < 2 → kFam.hole b = false → ∃ o, (kFam.mem (s, some k)).get b = some o := fun b hb hh => by
  obtain ⟨room, first, en, L, lc, F, c, _ | ⟨w, W⟩, _ | _ | ⟨o, m, X, Y⟩⟩ := s
  all_goals
    (rcases b with _ | _ | b
     · exact ⟨_, rfl⟩
     · exact ⟨_, rfl⟩
     · omega)
theorem K_save_form (s : WS) (k : KVl) (t v : Int) (sv : Bool) (f : Int) (z : Bool) (l : List KE) (c : Option Nat) (x m r : PC) (hl : l.length ≤ 100000) (h : ¬ (formH k sv t v ∧ ∀ e ∈ l, formE f e)) :
    CK base 45 [.c (.ptr 1 0), .agg (rdA t v sv f z l c x m r)] (s, some k) (fun q s' => q = .c (.p (.int .i64 3)) ∧ s' = (s, some k)) := by
  refine CallR.of kOK noNG lSav.2 rfl (M.start (M.go rfl ?_))
  refine M.shO (Sh.ren (e' := [(0, .c (.ptr 1 0)), (3, .c (.ptr 8 0)), (13, .c (.ptr 1 0)), (14, .agg (rdA t v sv f z l c x m r))]) (h' := hKR s k (rdA t v sv f z l c x m r)) [(0, 0), (1, 1), (2, 2), (3, 3), (4, 4), (5, 5), (6, 6), (7, 7), (8, 8)] rfl (by repeat' (first | exact True.intro | refine evC rfl rfl Wk.rfl ?_ | refine evC (accV_ren rfl) rfl Wk.rfl ?_ | refine evC (accV_ren rfl) rfl Wk.acc0 ?_ | refine evC rfl rfl Wk.uncap ?_ | refine evC rfl rfl Wk.nil ?_)) ⟨(hpX rfl rfl rfl), (hpX rfl rfl rfl), HeapOK.fam wOK (by repeat' (first | exact Tl.here | refine Tl.cons rfl ?_)) rfl⟩) ?_
  refine M.useR (s := ((s, some k) : WS × Option KVl)) kOK [(8, some (.row (rdA t v sv f z l c x m r) true))] [(0, .c (.ptr 1 0)), (3, .c (.ptr 8 0))] trivial (K_form s k t v sv f z l c x m r hl false (by simpa using h)) rfl ⟨⟨rfl, rfl⟩, trivial⟩ rfl rfl rfl rfl (fun r s' h => by rw [h.1]; rfl) (by repeat' (first | exact True.intro | refine evC rfl rfl Wk.rfl ?_ | refine evC (accV_ren rfl) rfl Wk.rfl ?_ | refine evC (accV_ren rfl) rfl Wk.acc0 ?_ | refine evC rfl rfl Wk.uncap ?_ | refine evC rfl rfl Wk.nil ?_)) (fun r s' h => ?_)
  obtain ⟨rfl, rfl⟩ := h
  refine M.go rfl ?_
  refine M.condB rfl (fun _ => ?_) (fun h => by cases h)
  refine M.go rfl ?_
  exact M.ret (M.go rfl (M.done (finR.ret kOK (.c (.p (.int .i64 3))) ((s, some k) : WS × Option KVl) [(0, 0), (1, 1), (2, 2), (3, 3), (4, 4), (5, 5), (6, 6), (7, 7)] rfl rfl rfl Wk.rfl ⟨(hpX rfl rfl rfl), HeapOK.fam wOK (by repeat' (first | exact Tl.here | refine Tl.cons rfl ?_)) rfl⟩ ⟨rfl, rfl⟩)))
theorem K_save_ok (s : WS) (k : KVl) {f0 : Int} {R : List (List Int)} (hi : WInv s f0 R) (t v : Int) (sv : Bool) (f : Int) (z : Bool) (l : List KE) (c : Option Nat) (x m r : PC) (hform : formH k sv t v ∧ ∀ e ∈ l, formE f e) (hfit : fitP k f l) (hsma : smaP f l)
    (ht : InI64 t) (hv : InI64 v) (htk : InI64 k.t) (hvk : InI64 k.v) (hf : 0 ≤ f ∧ f ≤ 2000000000000000) (hs : k.s.i = 0) (hl : l.length ≤ 10000) (hd : ∀ e ∈ l, e.d.length ≤ 1000000) (hkl : k.es.length ≤ 10000) (hkd : ∀ e ∈ k.es, e.d.length ≤ 1000000)
    (hle : ∀ e ∈ l, e.ok) (hpl : (plV k sv t v f l).es.length ≤ 10000) (hpo : ∀ e ∈ (plV k sv t v f l).es, e.ok)
    (hBl : (txtB 1 sv t v f l).length ≤ 29000) (hok : RecOK (f2N f0 R) (R ++ [1 :: txtB 1 sv t v f l])) (hRl : R.length ≤ 9000) (hsz : (flatR f0 R).length + (txtB 1 sv t v f l).length ≤ 380000) (hnl : s.lg = .nil → s.dk = none) (hdk : wtN s.dk ≤ 100000)
    (hroom : (flatR f0 R).length + (txtB 1 sv t v f l).length ≤ 1000 + 2 * (txtB 2 true (plV k sv t v f l).t (plV k sv t v f l).v 1 (plV k sv t v f l).es).length) :
    ∃ s', (WInv s' (f2N f0 R) (R ++ [1 :: txtB 1 sv t v f l]) ∧ s'.dk = none ∧ s'.lg ≠ .nil ∧ s'.L = s'.F ∧ s'.lc = s'.c) ∧ DK base 45 [.c (.ptr 1 0), .agg (rdA t v sv f z l c x m r)] (s, some k) (.c (.p (.int .i64 0))) (s', some (plV k sv t v f l)) := by
  have hTb : Bytes (txtB 1 sv t v f l) := by
    unfold txtB kesN
    exact (((((numB_bytes _).app (flagB_bytes _)).app (numB_bytes _)).app (numB_bytes _)).app (flagB_bytes _)).app (numB_bytes _) |>.app ((numB_bytes _).app (kesB_bytes hle))
  have hTn : txtB 1 sv t v f l ≠ [] := by
    have hp := numB_pos 1
    intro e
    have := congrArg List.length e
    simp only [txtB, List.length_append, List.length_nil] at this
    omega
  have hpt : InI64 (plV k sv t v f l).t := by cases sv <;> assumption
  have hpv : InI64 (plV k sv t v f l).v := by cases sv <;> assumption
  obtain ⟨s1, g, C⟩ := K_change (base := base) s k hi true (txtB 1 sv t v f l) none (plV k sv t v f l).t (plV k sv t v f l).v k.s hs (plV k sv t v f l).z (plV k sv t v f l).es (plV k sv t v f l).c hpt hpv hpl hpo hTb hTn hBl hok hRl hsz hnl hdk hroom
  refine ⟨s1, g, ?_⟩
  refine CallR.of kOK noNG lSav.2 rfl (M.start (M.go rfl ?_))
  refine M.shO (Sh.ren (e' := [(0, .c (.ptr 1 0)), (3, .c (.ptr 8 0)), (13, .c (.ptr 1 0)), (14, .agg (rdA t v sv f z l c x m r))]) (h' := hKR s k (rdA t v sv f z l c x m r)) [(0, 0), (1, 1), (2, 2), (3, 3), (4, 4), (5, 5), (6, 6), (7, 7), (8, 8)] rfl (by repeat' (first | exact True.intro | refine evC rfl rfl Wk.rfl ?_ | refine evC (accV_ren rfl) rfl Wk.rfl ?_ | refine evC (accV_ren rfl) rfl Wk.acc0 ?_ | refine evC rfl rfl Wk.uncap ?_ | refine evC rfl rfl Wk.nil ?_)) ⟨(hpX rfl rfl rfl), (hpX rfl rfl rfl), HeapOK.fam wOK (by repeat' (first | exact Tl.here | refine Tl.cons rfl ?_)) rfl⟩) ?_
  refine M.useR (s := ((s, some k) : WS × Option KVl)) kOK [(8, some (.row (rdA t v sv f z l c x m r) true))] [(0, .c (.ptr 1 0)), (3, .c (.ptr 8 0))] trivial (K_form s k t v sv f z l c x m r (by omega) true (by simpa using hform)) rfl ⟨⟨rfl, rfl⟩, trivial⟩ rfl rfl rfl rfl (fun r s' h => by rw [h.1]; rfl) (by repeat' (first | exact True.intro | refine evC rfl rfl Wk.rfl ?_ | refine evC (accV_ren rfl) rfl Wk.rfl ?_ | refine evC (accV_ren rfl) rfl Wk.acc0 ?_ | refine evC rfl rfl Wk.uncap ?_ | refine evC rfl rfl Wk.nil ?_)) (fun r s' h => ?_)
  obtain ⟨rfl, rfl⟩ := h
  refine M.go rfl ?_
  refine M.condB rfl (fun h => by cases h) (fun _ => ?_)
  refine M.go rfl ?_
  refine M.useR (s := ((s, some k) : WS × Option KVl)) kOK [(8, some (.row (rdA t v sv f z l c x m r) true))] [(0, .c (.ptr 1 0)), (3, .c (.ptr 8 0))] trivial (K_fits s k t v sv f z l c x m r (by omega) ⟨by omega, by omega⟩ (by omega) true (by simpa using hfit)) rfl ⟨⟨rfl, rfl⟩, trivial⟩ rfl rfl rfl rfl (fun r s' h => by rw [h.1]; rfl) (by repeat' (first | exact True.intro | refine evC rfl rfl Wk.rfl ?_ | refine evC (accV_ren rfl) rfl Wk.rfl ?_ | refine evC (accV_ren rfl) rfl Wk.acc0 ?_ | refine evC rfl rfl Wk.uncap ?_ | refine evC rfl rfl Wk.nil ?_)) (fun r s' h => ?_)
  obtain ⟨rfl, rfl⟩ := h
  refine M.go rfl ?_
  refine M.condB rfl (fun h => by cases h) (fun _ => ?_)
  refine M.go rfl ?_
  refine M.use0 trivial (K_small t v sv f z l c x m r (by omega) hd true (by simpa using hsma)) rfl rfl rfl ?_
  refine M.go rfl ?_
  refine M.condB rfl (fun h => by cases h) (fun _ => ?_)
  refine M.go rfl ?_
  refine M.useR (s := ((s, some k) : WS × Option KVl)) kOK [(8, some (.row (rdA t v sv f z l c x m r) true))] [(0, .c (.ptr 1 0)), (3, .c (.ptr 8 0))] trivial (K_behind s k t v sv f z l c x m r hf ⟨by omega, by omega⟩ hl hd hkl hkd) rfl ⟨⟨rfl, rfl⟩, trivial⟩ rfl rfl rfl rfl (fun r s' h => by rw [h.1]; rfl) (by repeat' (first | exact True.intro | refine evC rfl rfl Wk.rfl ?_ | refine evC (accV_ren rfl) rfl Wk.rfl ?_ | refine evC (accV_ren rfl) rfl Wk.acc0 ?_ | refine evC rfl rfl Wk.uncap ?_ | refine evC rfl rfl Wk.nil ?_)) (fun r s' h => ?_)
  obtain ⟨rfl, rfl⟩ := h
  refine M.go rfl ?_
  refine M.ren [(0, 0), (1, 1), (2, 2), (3, 3), (4, 4), (5, 5), (6, 6), (7, 7), (8, 8), (9, 9), (10, 10)] ?_ trivial rfl (by repeat' (first | exact True.intro | refine evC rfl rfl Wk.rfl ?_ | refine evC (accV_ren rfl) rfl Wk.rfl ?_ | refine evC (accV_ren rfl) rfl Wk.acc0 ?_ | refine evC rfl rfl Wk.uncap ?_ | refine evC rfl rfl Wk.nil ?_)) ⟨(hpX rfl rfl rfl), (hpX rfl rfl rfl), (hpX rfl rfl rfl), (hpX rfl rfl rfl), HeapOK.fam wOK (by repeat' (first | exact Tl.here | refine Tl.cons rfl ?_)) rfl⟩ (e' := [(0, .c (.ptr 1 0)), (3, .c (.ptr 8 0)), (5, .c (.ptr 9 0)), (6, .c (.ptr 10 0)), (7, .c (.p (.tz (plV k sv t v f l).z 4 (keP (plV k sv t v f l).es) (plV k sv t v f l).c)))]) (h' := ⟨appL [(10, some (.row (k.s.cs.map XC.p) true)), (9, some (.row [.p (.int .i64 (plV k sv t v f l).t), .p (.int .i64 (plV k sv t v f l).v)] true)), (8, some (.row (rdA t v sv f z l c x m r) true))] (kFam.mem (s, some k)).l, 11⟩)
  refine M.regF (MF.go rfl ?_)
  refine MF.use0 trivial (text0_spec 1 t v sv f z l c x m r ⟨by decide, by decide⟩ ht hv ⟨by omega, by omega⟩ hl hle) rfl rfl rfl (MF.go rfl ?_)
  obtain ⟨l2, hl2⟩ := sO_tot 2 11 (kFam.mem (s1, some k)).l
  have CC := CallR.call kOK C (X := [(10, some (.row (k.s.cs.map XC.p) true)), (9, some (.row [.p (.int .i64 (plV k sv t v f l).t), .p (.int .i64 (plV k sv t v f l).v)] true)), (8, some (.row (rdA t v sv f z l c x m r) true))]) (N := 11) ⟨⟨rfl, rfl⟩, ⟨rfl, rfl⟩, ⟨rfl, rfl⟩, trivial⟩ (by decide) (by decide) rfl rfl (krow s k) hl2
  refine MF.useCall trivial CC rfl (MF.go rfl ?_)
  refine MF.nil mixed (Fnl.nodup rfl) rfl ⟨⟨stepX_ok rfl, trivial⟩, ⟨stepX_ok rfl, trivial⟩, trivial⟩ (M.go rfl ?_)
  refine M.condN rfl (fun h => absurd rfl h) (fun _ => ?_)
  refine M.go rfl ?_
  refine M.ren [(0, 0), (1, 1), (2, 11), (3, 12), (4, 13), (5, 14), (6, 15), (7, 16), (8, 9), (9, 10)] ?_ trivial rfl (by repeat' (first | exact True.intro | refine evC rfl rfl Wk.rfl ?_ | refine evC (accV_ren rfl) rfl Wk.rfl ?_ | refine evC (accV_ren rfl) rfl Wk.acc0 ?_ | refine evC rfl rfl Wk.uncap ?_ | refine evC rfl rfl Wk.nil ?_)) ⟨(hpX rfl rfl rfl), (hpX rfl rfl rfl), HeapOK.famS kOK rfl rfl hl2 (by repeat' (first | exact TlS.here | refine TlS.cons rfl ?_)) rfl⟩ (e' := [(0, .c (.ptr 1 0)), (5, .c (.ptr 8 0)), (6, .c (.ptr 9 0)), (7, .c (.p (.tz (plV k sv t v f l).z 4 (keP (plV k sv t v f l).es) (plV k sv t v f l).c)))]) (h' := ⟨appL [(9, some (.row (k.s.cs.map XC.p) true)), (8, some (.row [.p (.int .i64 (plV k sv t v f l).t), .p (.int .i64 (plV k sv t v f l).v)] true))] (kFam.mem (s1, some k)).l, 10⟩)
  refine M.regF (MF.go rfl ?_)
  refine MF.nil mixed (Fnl.nodup rfl) rfl ⟨⟨stepX_ok rfl, trivial⟩, trivial⟩ (M.go rfl ?_)
  exact M.ret (M.go rfl (M.done (finR.ret kOK (.c (.p (.int .i64 0))) ((s1, some (plV k sv t v f l)) : WS × Option KVl) [(0, 0), (1, 1), (2, 2), (3, 3), (4, 4), (5, 5), (6, 6), (7, 7)] rfl rfl rfl Wk.rfl ⟨(hpX rfl rfl rfl), HeapOK.fam wOK (by repeat' (first | exact Tl.here | refine Tl.cons rfl ?_)) rfl⟩ ⟨rfl, rfl⟩)))
end Go.Proofs.Ytjlfojgacnphmaa

namespace Go.Proofs.Ytjlfojgacnphmaa
open Go.RowKit Sim Go Sym
set_option maxRecDepth 100000
set_option linter.unusedVariables false
set_option linter.unusedSimpArgs false
variable {base : Nat}
noncomputable def lKop : {F : LF // lowerF Try.prog 44 = some F} := ⟨_, rfl⟩
inductive Plays (base : Nat) : KVl → List (List Int) → KVl → Prop where
  | nil (k : KVl) : Plays base k [] k
  | cons {k k1 k2 : KVl} {B : List Int} {Bs : List (List Int)} (hB : B ≠ [] ∧ B.length ≤ 32000) (h : ∀ (s : WS) (z : Bool) (c : Option Nat), CK3 base 75 [.c (.ptr 1 0), .c (.p (.tz z 1 (u8P B) c))] (s, some k) (fun q s' => q = .tup [] ∧ s' = (s, some k1))) (t : Plays base k1 Bs k2) : Plays base k (B :: Bs) k2
theorem Plays.snoc {k k1 k2 : KVl} {Bs : List (List Int)} {B : List Int} (p : Plays base k Bs k1) (hB : B ≠ [] ∧ B.length ≤ 32000) (h : ∀ (s : WS) (z : Bool) (c : Option Nat), CK3 base 75 [.c (.ptr 1 0), .c (.p (.tz z 1 (u8P B) c))] (s, some k1) (fun q s' => q = .tup [] ∧ s' = (s, some k2))) : Plays base k (Bs ++ [B]) k2 := by
  induction p with
  | nil k => exact .cons hB h (.nil _)
  | cons hB0 h0 t ih => exact .cons hB0 h0 (ih h)
abbrev hKW (s : WS) (k : KVl) : HS := ⟨appL [(1, some (.row k.row true))] (wFam.mem s).l, 8⟩
theorem open_kloop {s : WS} {f : Int} {R : List (List Int)} (hi : WInv s f R) (Bs : List (List Int)) (hR : R = Bs.map (1 :: ·)) (kend : KVl) (Q : QX) (hne : R ≠ []) (hq : Q (.exit 0) [(4, .c (.ptr 2 0)), (6, .c (.ptr 1 0)), (8, .c (.p (.int .i64 (f + (R.length : Nat)))))] (hKW s kend)) :
    ∀ (rest pre : List (List Int)) (k : KVl), Bs = pre ++ rest → Plays base k rest kend → ∀ n : Int, n = f + (pre.length : Nat) → XH Try.prog base lKop.1.n 1 (lKop.1.c.lp 0) [(4, .c (.ptr 2 0)), (6, .c (.ptr 1 0)), (7, .c (.p (.tz true 0 [] none))), (8, .c (.p (.int .i64 n))), (9, .c (.p (.int .i64 n)))] (hKW s k) Q := by
  obtain ⟨hf1, hf2, hRl⟩ := (hi.ok hne).len
  have hRB : R.length = Bs.length := by rw [hR, List.length_map]
  rw [hRB] at hq
  intro rest
  induction rest with
  | nil =>
    intro pre k hp hpl n hn
    subst hn
    rw [List.append_nil] at hp
    subst hp
    cases hpl
    refine M.round (M.go rfl ?_)
    refine M.dec rfl (fun _ => ?_) (fun h => absurd (by omega) h)
    refine M.go rfl ?_
    refine M.useR (s := s) wOK [(1, some (.row kend.row true))] [(29, .c (.p (.bool true))), (30, .c (.p (.int .i64 (f + (Bs.length : Nat))))), (4, .c (.ptr 2 0)), (6, .c (.ptr 1 0)), (8, .c (.p (.int .i64 (f + (Bs.length : Nat)))))] rfl (W_last hi) rfl ⟨⟨rfl, rfl⟩, trivial⟩ rfl rfl rfl rfl (fun r s' h => by rw [h.1]; rfl) (by repeat' (first | exact True.intro | refine evC rfl rfl Wk.rfl ?_ | refine evC (accV_ren rfl) rfl Wk.rfl ?_ | refine evC (accV_ren rfl) rfl Wk.acc0 ?_ | refine evC rfl rfl Wk.uncap ?_ | refine evC rfl rfl Wk.nil ?_)) (fun r s' h => ?_)
    obtain ⟨rfl, h2⟩ := h
    rw [h2]
    refine M.go rfl ?_
    refine M.cond rfl (fun h => absurd h (by rw [lastI_ne hne]; omega)) (fun _ => ?_)
    refine M.ren [(0, 0), (1, 1), (2, 2), (3, 3), (4, 4), (5, 5), (6, 6), (7, 7)] ?_ trivial rfl (by repeat' (first | exact True.intro | refine evC rfl rfl Wk.rfl ?_ | refine evC (accV_ren rfl) rfl Wk.rfl ?_ | refine evC (accV_ren rfl) rfl Wk.acc0 ?_ | refine evC rfl rfl Wk.uncap ?_ | refine evC rfl rfl Wk.nil ?_)) ⟨(hpX rfl rfl rfl), HeapOK.fam wOK (by repeat' (first | exact Tl.here | refine Tl.cons rfl ?_)) rfl⟩ (e' := [(4, .c (.ptr 2 0)), (6, .c (.ptr 1 0)), (8, .c (.p (.int .i64 (f + (Bs.length : Nat)))))]) (h' := hKW s kend)
    exact M.exit (M.go rfl (M.done hq))
  | cons a rest ih =>
    intro pre k hp hpl n hn
    subst hn
    have hlen : Bs.length = pre.length + (rest.length + 1) := by rw [hp]; simp
    cases hpl with
    | @cons _ k1 _ _ _ hB hC t =>
    have hat : R[pre.length]? = some (1 :: a) := by rw [hR, hp]; simp
    refine M.round (M.go rfl ?_)
    refine M.dec rfl (fun _ => ?_) (fun h => absurd (by omega) h)
    refine M.go rfl ?_
    refine M.useR (s := s) wOK [(1, some (.row k.row true))] [(29, .c (.p (.bool true))), (30, .c (.p (.int .i64 (f + (pre.length : Nat))))), (4, .c (.ptr 2 0)), (6, .c (.ptr 1 0)), (7, .c (.p (.tz true 0 [] none))), (9, .c (.p (.int .i64 (f + (pre.length : Nat)))))] rfl (W_last hi) rfl ⟨⟨rfl, rfl⟩, trivial⟩ rfl rfl rfl rfl (fun r s' h => by rw [h.1]; rfl) (by repeat' (first | exact True.intro | refine evC rfl rfl Wk.rfl ?_ | refine evC (accV_ren rfl) rfl Wk.rfl ?_ | refine evC (accV_ren rfl) rfl Wk.acc0 ?_ | refine evC rfl rfl Wk.uncap ?_ | refine evC rfl rfl Wk.nil ?_)) (fun r s' h => ?_)
    obtain ⟨rfl, h2⟩ := h
    rw [h2]
    refine M.go rfl ?_
    refine M.cond rfl (fun _ => ?_) (fun h => absurd (by rw [lastI_ne hne]; omega) h)
    refine M.go rfl ?_
    refine M.useR (s := s) wOK [(1, some (.row k.row true))] [(4, .c (.ptr 2 0)), (6, .c (.ptr 1 0)), (7, .c (.p (.tz true 0 [] none))), (9, .c (.p (.int .i64 (f + (pre.length : Nat)))))] trivial (W_gety hi pre.length (1 :: a) hat (by simp; omega)) rfl ⟨⟨rfl, rfl⟩, trivial⟩ rfl rfl rfl rfl (fun r s' h => by obtain ⟨⟨z, h⟩, -⟩ := h; rw [h]; rfl) (by repeat' (first | exact True.intro | refine evC rfl rfl Wk.rfl ?_ | refine evC (accV_ren rfl) rfl Wk.rfl ?_ | refine evC (accV_ren rfl) rfl Wk.acc0 ?_ | refine evC rfl rfl Wk.uncap ?_ | refine evC rfl rfl Wk.nil ?_)) (fun r s' h => ?_)
    obtain ⟨⟨z, rfl⟩, h2⟩ := h
    rw [h2]
    refine M.go rfl ?_
    refine M.cond rfl (fun h => absurd h (by rw [u8P_len]; simp; omega)) (fun _ => ?_)
    refine M.go rfl ?_
    refine M.op trivial (SOp.sl (l := 1) (r := a.length + 1) rfl ⟨_, _, rfl, by omega, by omega⟩ (by rw [u8P_len]; rfl) (by omega) (by rw [u8P_len]; simp)) ?_
    rw [show ((u8P (1 :: a)).drop 1).take (a.length + 1 - 1) = u8P a from by rw [Nat.add_sub_cancel, show (u8P (1 :: a)).drop 1 = u8P a from rfl, List.take_of_length_le (by rw [u8P_len]; omega)]]
    refine M.op trivial (SOp.appN (el := u8P a) rfl rfl .tz (by simpa [u8P] using hB.1) (by rw [u8P_len]; omega)) ?_
    refine M.goN 3 rfl ?_
    refine M.freezeN (i := 7) rfl rfl rfl ?_
    refine M.go rfl ?_
    have hu : (u8P (1 :: a))[(0 : Int).toNat]? = some (.int .u8 1) := rfl
    refine M.op trivial (SOp.ia rfl rfl (by omega) hu) ?_
    refine M.op trivial (SOp.ld1e rfl hu rfl rfl rfl) ?_
    refine M.go rfl ?_
    refine M.cond rfl (fun _ => ?_) (fun h => absurd rfl h)
    refine M.go rfl ?_
    refine M.shO (Sh.ren (e' := [(4, .c (.ptr 2 0)), (6, .c (.ptr 1 0)), (9, .c (.p (.int .i64 (f + (pre.length : Nat))))), (54, .c (.ptr 1 0)), (55, .c (.p (.tz false 1 (u8P a) none)))]) (h' := ⟨appL [] (kFam.mem (s, some k)).l, 8⟩) [(0, 0), (1, 1), (2, 2), (3, 3), (4, 4), (5, 5), (6, 6), (7, 7)] rfl (by repeat' (first | exact True.intro | refine evC rfl rfl Wk.rfl ?_ | refine evC (accV_ren rfl) rfl Wk.rfl ?_ | refine evC (accV_ren rfl) rfl Wk.acc0 ?_ | refine evC rfl rfl Wk.uncap ?_ | refine evC rfl rfl Wk.nil ?_)) ⟨(hpX rfl rfl rfl), HeapOK.fam wOK (by repeat' (first | exact Tl.here | refine Tl.cons rfl ?_)) rfl⟩) ?_
    refine M.useR (s := ((s, some k) : WS × Option KVl)) kOK [] [(4, .c (.ptr 2 0)), (6, .c (.ptr 1 0)), (9, .c (.p (.int .i64 (f + (pre.length : Nat)))))] trivial (hC s false none) rfl trivial rfl rfl rfl rfl (fun r s' h => by rw [h.1]; rfl) (by repeat' (first | exact True.intro | refine evC rfl rfl Wk.rfl ?_ | refine evC (accV_ren rfl) rfl Wk.rfl ?_ | refine evC (accV_ren rfl) rfl Wk.acc0 ?_ | refine evC rfl rfl Wk.uncap ?_ | refine evC rfl rfl Wk.nil ?_)) (fun r s' h => ?_)
    obtain ⟨rfl, rfl⟩ := h
    refine M.go rfl ?_
    rw [wr64 (n := f + ((pre.length : Nat) : Int) + 1) (by omega) (by omega)]
    have ih' := ih (pre ++ [a]) k1 (by rw [hp]; simp) t (f + ((pre.length : Nat) : Int) + 1) (by simp; omega)
    exact M.again (XH.ren [(0, 0), (1, 1), (2, 2), (3, 3), (4, 4), (5, 5), (6, 6), (7, 7)] ih' rfl (by repeat' (first | exact True.intro | refine evC rfl rfl Wk.rfl ?_ | refine evC (accV_ren rfl) rfl Wk.rfl ?_ | refine evC (accV_ren rfl) rfl Wk.acc0 ?_ | refine evC rfl rfl Wk.uncap ?_ | refine evC rfl rfl Wk.nil ?_)) ⟨(hpX rfl rfl rfl), HeapOK.fam wOK (by repeat' (first | exact Tl.here | refine Tl.cons rfl ?_)) rfl⟩)
theorem K_open0 (a b : Int) (L : FS) (lc : Nat) (F : FS) (c : Nat) (f : Int) (Bs : List (List Int)) (kend : KVl) (hR : Bs ≠ [] → RecOK f (Bs.map (1 :: ·))) (hF : Fok (flatR f (Bs.map (1 :: ·))) F c) (hsz : (flatR f (Bs.map (1 :: ·))).length ≤ 400000) (hp : Plays base KVl.zero Bs kend) :
    CallR Try.prog base kFam 1 44 [.c (.ptr 0 0)] ((⟨mB, a, b, L, lc, F, c, none, .no⟩ : WS), none) (fun r s' => r = .tup [.c (.ptr 1 0), .c (.p (.int .i64 0))] ∧ ∃ s2, s' = (s2, some kend) ∧ WInv s2 f (Bs.map (1 :: ·)) ∧ s2.L = L ∧ s2.lc = lc ∧ s2.F = F ∧ s2.c = c ∧ s2.dk = none) := by
  obtain ⟨R, hRR⟩ : ∃ R, R = Bs.map (1 :: ·) := ⟨_, rfl⟩
  have hRB : R.length = Bs.length := by rw [hRR, List.length_map]
  rw [← hRR] at hR hF hsz ⊢
  have hR' : R ≠ [] → RecOK f R := fun h => hR fun e => h (by rw [hRR, e]; rfl)
  refine CallR.of kOK noNG lKop.2 rfl (M.start (M.go rfl ?_))
  refine M.useR (s := (⟨mB, a, b, L, lc, F, c, none, .no⟩ : WS)) wOK [] [] trivial (W_open0 a b L lc F c f R hR' hF hsz) rfl trivial rfl rfl rfl rfl (fun r s' h => by rw [h.1]; rfl) (by repeat' (first | exact True.intro | refine evC rfl rfl Wk.rfl ?_ | refine evC (accV_ren rfl) rfl Wk.rfl ?_ | refine evC (accV_ren rfl) rfl Wk.acc0 ?_ | refine evC rfl rfl Wk.uncap ?_ | refine evC rfl rfl Wk.nil ?_)) (fun r s'' h => ?_)
  obtain ⟨rfl, hi, e1, e2, e3, e4, e5⟩ := h
  have hend : ∀ (s2 : WS), s2 = s'' → (∃ s3, ((s2, some kend) : WS × Option KVl) = (s3, some kend) ∧ WInv s3 f R ∧ s3.L = L ∧ s3.lc = lc ∧ s3.F = F ∧ s3.c = c ∧ s3.dk = none) := fun s2 h => ⟨s2, rfl, by rw [h]; exact hi, by rw [h]; exact e1, by rw [h]; exact e2, by rw [h]; exact e3, by rw [h]; exact e4, by rw [h]; exact e5⟩
  refine M.go rfl ?_
  refine M.condN rfl (fun h => absurd rfl h) (fun _ => ?_)
  refine M.go rfl ?_
  refine M.shO (Sh.ren (e' := [(4, .c (.ptr 2 0)), (6, .c (.ptr 1 0)), (7, .c (.p (.tz true 0 [] none))), (23, .c (.ptr 2 0))]) (h' := hKW s'' KVl.zero) [(0, 0), (1, 8), (2, 2), (3, 3), (4, 4), (5, 5), (6, 6), (7, 7)] rfl (by repeat' (first | exact True.intro | refine evC rfl rfl Wk.rfl ?_ | refine evC (accV_ren rfl) rfl Wk.rfl ?_ | refine evC (accV_ren rfl) rfl Wk.acc0 ?_ | refine evC rfl rfl Wk.uncap ?_ | refine evC rfl rfl Wk.nil ?_)) ⟨⟨_, _, _, rfl, rfl, rfl, WkO.row ⟨Wk.rfl, Wk.rfl, Wk.rfl, Wk.rfl, Wk.rfl, Wk.nil, Wk.nil, Wk.nil, trivial⟩⟩, HeapOK.fam wOK (by repeat' (first | exact Tl.here | refine Tl.cons rfl ?_)) rfl⟩) ?_
  refine M.useR (s := s'') wOK [(1, some (.row KVl.zero.row true))] [(4, .c (.ptr 2 0)), (6, .c (.ptr 1 0)), (7, .c (.p (.tz true 0 [] none)))] trivial (W_first hi) rfl ⟨⟨rfl, rfl⟩, trivial⟩ rfl rfl rfl rfl (fun r s' h => by rw [h.1]; rfl) (by repeat' (first | exact True.intro | refine evC rfl rfl Wk.rfl ?_ | refine evC (accV_ren rfl) rfl Wk.rfl ?_ | refine evC (accV_ren rfl) rfl Wk.acc0 ?_ | refine evC rfl rfl Wk.uncap ?_ | refine evC rfl rfl Wk.nil ?_)) (fun r s' h => ?_)
  obtain ⟨rfl, h2⟩ := h
  rw [h2]
  refine M.go rfl ?_
  obtain ⟨f1, hf1⟩ : ∃ f1, f1 = (if R = [] then 0 else f) := ⟨_, rfl⟩
  rw [← hf1]
  refine M.useR (s := s'') wOK [(1, some (.row KVl.zero.row true))] [(4, .c (.ptr 2 0)), (6, .c (.ptr 1 0)), (7, .c (.p (.tz true 0 [] none))), (8, .c (.p (.int .i64 f1)))] trivial (W_first hi) rfl ⟨⟨rfl, rfl⟩, trivial⟩ rfl rfl rfl rfl (fun r s' h => by rw [h.1]; rfl) (by repeat' (first | exact True.intro | refine evC rfl rfl Wk.rfl ?_ | refine evC (accV_ren rfl) rfl Wk.rfl ?_ | refine evC (accV_ren rfl) rfl Wk.acc0 ?_ | refine evC rfl rfl Wk.uncap ?_ | refine evC rfl rfl Wk.nil ?_)) (fun r s' h => ?_)
  obtain ⟨rfl, h2⟩ := h
  rw [h2, ← hf1]
  refine M.go rfl ?_
  by_cases hRe : R = []
  · have hB0 : Bs = [] := by
      cases Bs with
      | nil => rfl
      | cons x l => rw [hRR] at hRe; cases hRe
    subst hB0
    cases hp
    obtain rfl : f1 = 0 := by rw [hf1, if_pos hRe]
    refine M.loop (M.round (M.go rfl ?_))
    refine M.dec rfl (fun h => absurd h (by decide)) (fun _ => ?_)
    refine M.go rfl ?_
    refine M.exit (M.go rfl (M.done (M.q (M.go rfl ?_))))
    refine M.cond rfl (fun h => absurd h (by decide)) (fun _ => ?_)
    refine M.go rfl ?_
    exact M.ret (M.go rfl (M.done (finR.ret kOK (.tup [.c (.ptr 1 0), .c (.p (.int .i64 0))]) ((s'', some KVl.zero) : WS × Option KVl) [(0, 0), (1, 1), (2, 2), (3, 3), (4, 4), (5, 5), (6, 6), (7, 7)] rfl rfl rfl Wk.rfl ⟨(hpX rfl rfl rfl), HeapOK.fam wOK (by repeat' (first | exact Tl.here | refine Tl.cons rfl ?_)) rfl⟩ ⟨rfl, hend s'' rfl⟩)))
  · obtain rfl : f1 = f := by rw [hf1, if_neg hRe]
    obtain ⟨k1, k2, k3⟩ := (hR' hRe).len
    refine M.loop (XH.ren [(0, 0), (1, 1), (2, 2), (3, 3), (4, 4), (5, 5), (6, 6), (7, 7)] (open_kloop hi Bs hRR kend _ hRe ?_ Bs [] KVl.zero rfl hp f1 (by simp)) rfl (by repeat' (first | exact True.intro | refine evC rfl rfl Wk.rfl ?_ | refine evC (accV_ren rfl) rfl Wk.rfl ?_ | refine evC (accV_ren rfl) rfl Wk.acc0 ?_ | refine evC rfl rfl Wk.uncap ?_ | refine evC rfl rfl Wk.nil ?_)) ⟨(hpX rfl rfl rfl), HeapOK.fam wOK (by repeat' (first | exact Tl.here | refine Tl.cons rfl ?_)) rfl⟩)
    refine M.q (M.go rfl ?_)
    refine M.cond rfl (fun _ => ?_) (fun h => absurd (by omega) h)
    refine M.go rfl ?_
    refine M.useR (s := s'') wOK [(1, some (.row kend.row true))] [(6, .c (.ptr 1 0))] trivial (W_from_n hi (f1 + (R.length : Nat)) (by omega) (fun _ => by omega)) rfl ⟨⟨rfl, rfl⟩, trivial⟩ rfl rfl rfl rfl (fun r s' h => by rw [h.1]; rfl) (by repeat' (first | exact True.intro | refine evC rfl rfl Wk.rfl ?_ | refine evC (accV_ren rfl) rfl Wk.rfl ?_ | refine evC (accV_ren rfl) rfl Wk.acc0 ?_ | refine evC rfl rfl Wk.uncap ?_ | refine evC rfl rfl Wk.nil ?_)) (fun r s' h => ?_)
    obtain ⟨rfl, h2⟩ := h
    rw [h2]
    refine M.go rfl ?_
    exact M.ret (M.go rfl (M.done (finR.ret kOK (.tup [.c (.ptr 1 0), .c (.p (.int .i64 0))]) ((s'', some kend) : WS × Option KVl) [(0, 0), (1, 1), (2, 2), (3, 3), (4, 4), (5, 5), (6, 6), (7, 7)] rfl rfl rfl Wk.rfl ⟨(hpX rfl rfl rfl), HeapOK.fam wOK (by repeat' (first | exact Tl.here | refine Tl.cons rfl ?_)) rfl⟩ ⟨rfl, hend s'' rfl⟩)))
end Go.Proofs.Ytjlfojgacnphmaa

namespace Go.Proofs.Ytjlfojgacnphmaa
open Go.RowKit Sim Go Sym
set_option maxRecDepth 100000
set_option linter.unusedVariables false
set_option linter.unusedSimpArgs false
variable {base : Nat}
theorem begun5_spec : CallS Try.prog base 43 [] ⟨[], 0⟩ (.c (.p (.bool true))) ⟨[], 0⟩ := CallS.closed (m := 2000) mixed noNG (by kernel_rfl)
theorem hard_n (room first en : Int) (L : FS) (lc : Nat) (F : FS) (c : Nat) (k : KVl) : CallS Try.prog base 46 [.c (.ptr 1 0)] (kFam.mem ((⟨room, first, en, L, lc, F, c, none, .nil⟩ : WS), some k)) (.agg [.p (.int .i64 k.t), .p (.int .i64 k.v)]) (kFam.mem ((⟨room, first, en, L, lc, F, c, none, .nil⟩ : WS), some k)) := by
  refine CallS.of noNG lHard.2 rfl (M.start (M.go rfl ?_))
  exact M.ret (M.go rfl (M.done (finQ.ret [(0, 0), (1, 1), (2, 2), (3, 3), (4, 4), (5, 5), (6, 6), (7, 7)] rfl rfl rfl Wk.rfl (by repeat' (first | exact True.intro | refine hpC rfl rfl rfl ?_ | refine ⟨⟨_, _, _, rfl, rfl, rfl, @WkO.rfl _⟩, ?_⟩ | refine HeapOK.acc rfl rfl ?_)))))
theorem ents_n (room first en : Int) (L : FS) (lc : Nat) (F : FS) (c : Nat) (k : KVl) (hl : k.es.length ≤ 100000) (hd : ∀ e ∈ k.es, e.d.length ≤ 1000000) : CallS Try.prog base 47 [.c (.ptr 1 0)] (kFam.mem ((⟨room, first, en, L, lc, F, c, none, .nil⟩ : WS), some k)) (.c (.p (.tz true 4 (keP (k.es.map KE.cl)) none))) (kFam.mem ((⟨room, first, en, L, lc, F, c, none, .nil⟩ : WS), some k)) := by
  refine CallS.of noNG lEnts.2 rfl (M.start (M.go rfl ?_))
  refine M.use0 trivial (cloned_spec k.z k.c k.es hl hd) rfl rfl rfl ?_
  refine M.go rfl ?_
  exact M.ret (M.go rfl (M.done (finQ.ret [(0, 0), (1, 1), (2, 2), (3, 3), (4, 4), (5, 5), (6, 6), (7, 7)] rfl rfl rfl Wk.rfl (by repeat' (first | exact True.intro | refine hpC rfl rfl rfl ?_ | refine ⟨⟨_, _, _, rfl, rfl, rfl, @WkO.rfl _⟩, ?_⟩ | refine HeapOK.acc rfl rfl ?_)))))
theorem hard_o (room first en : Int) (L : FS) (lc : Nat) (F : FS) (c : Nat) (o m : Nat) (X Y : List PC) (k : KVl) : CallS Try.prog base 46 [.c (.ptr 1 0)] (kFam.mem ((⟨room, first, en, L, lc, F, c, none, .own o m X Y⟩ : WS), some k)) (.agg [.p (.int .i64 k.t), .p (.int .i64 k.v)]) (kFam.mem ((⟨room, first, en, L, lc, F, c, none, .own o m X Y⟩ : WS), some k)) := by
  refine CallS.of noNG lHard.2 rfl (M.start (M.go rfl ?_))
  exact M.ret (M.go rfl (M.done (finQ.ret [(0, 0), (1, 1), (2, 2), (3, 3), (4, 4), (5, 5), (6, 6), (7, 7)] rfl rfl rfl Wk.rfl (by repeat' (first | exact True.intro | refine hpC rfl rfl rfl ?_ | refine ⟨⟨_, _, _, rfl, rfl, rfl, @WkO.rfl _⟩, ?_⟩ | refine HeapOK.acc rfl rfl ?_)))))
theorem ents_o (room first en : Int) (L : FS) (lc : Nat) (F : FS) (c : Nat) (o m : Nat) (X Y : List PC) (k : KVl) (hl : k.es.length ≤ 100000) (hd : ∀ e ∈ k.es, e.d.length ≤ 1000000) : CallS Try.prog base 47 [.c (.ptr 1 0)] (kFam.mem ((⟨room, first, en, L, lc, F, c, none, .own o m X Y⟩ : WS), some k)) (.c (.p (.tz true 4 (keP (k.es.map KE.cl)) none))) (kFam.mem ((⟨room, first, en, L, lc, F, c, none, .own o m X Y⟩ : WS), some k)) := by
  refine CallS.of noNG lEnts.2 rfl (M.start (M.go rfl ?_))
  refine M.use0 trivial (cloned_spec k.z k.c k.es hl hd) rfl rfl rfl ?_
  refine M.go rfl ?_
  exact M.ret (M.go rfl (M.done (finQ.ret [(0, 0), (1, 1), (2, 2), (3, 3), (4, 4), (5, 5), (6, 6), (7, 7)] rfl rfl rfl Wk.rfl (by repeat' (first | exact True.intro | refine hpC rfl rfl rfl ?_ | refine ⟨⟨_, _, _, rfl, rfl, rfl, @WkO.rfl _⟩, ?_⟩ | refine HeapOK.acc rfl rfl ?_)))))
structure VInv (s : WS) (k : KVl) (Bs : List (List Int)) (base : Nat) (m : Nat) : Prop where
  inv : WInv s 1 (Bs.map (1 :: ·))
  ok : RecOK 1 (Bs.map (1 :: ·))
  dk : s.dk = none
  nl : s.lg ≠ .no
  L : s.L = s.F ∧ s.lc = s.c
  len : Bs.length ≤ m
  sz : (flatR 1 (Bs.map (1 :: ·))).length ≤ 28 * m + 2 * (kesB k.es).length
  ks : k.s = KSn.zero
  tv : (0 ≤ k.t ∧ k.t < 9223372036854775808) ∧ 0 ≤ k.v ∧ k.v ≤ 7
  es : ∀ e ∈ k.es, e.ok ∧ e.d = []
  el : k.es.length ≤ m
  pl : ∃ p, Plays base KVl.zero Bs p ∧ p.t = k.t ∧ p.v = k.v ∧ p.es.length = k.es.length ∧ p.s = KSn.zero ∧ (∀ e ∈ p.es, e.ok ∧ e.d = [])
end Go.Proofs.Ytjlfojgacnphmaa

namespace Go.Proofs.Ytjlfojgacnphmaa
open Go.RowKit Sim Go Sym
set_option maxRecDepth 100000
set_option linter.unusedVariables false
set_option linter.unusedSimpArgs false
variable {base : Nat}
theorem numB1 {n : Int} (h0 : 0 ≤ n) (h1 : n ≤ 63) : (numB n).length = 1 := by
  unfold numB
  rw [uvar_small (by unfold zz; rw [if_pos h0]; omega)]
  rfl
theorem kesB_app : ∀ (a b : List KE), kesB (a ++ b) = kesB a ++ kesB b
  | [], b => rfl
  | e :: a, b => by simp [kesB, kesB_app a b]
theorem kesB_cl : ∀ (a : List KE), kesB (a.map KE.cl) = kesB a
  | [] => rfl
  | e :: a => by simp only [List.map_cons, kesB, kesB_cl a]; rfl
theorem cl_ok {l : List KE} (h : ∀ e ∈ l, e.ok ∧ e.d = []) : ∀ e ∈ l.map KE.cl, e.ok ∧ e.d = [] := fun e he => by
  obtain ⟨x, hx, rfl⟩ := List.mem_map.1 he
  obtain ⟨h1, h2⟩ := h x hx
  exact ⟨⟨h1.i, h1.t, h1.k, h1.b, h1.l⟩, h2⟩
theorem rd_ok {l : List KE} (h : ∀ e ∈ l, e.ok ∧ e.d = []) : ∀ e ∈ l.map KE.rd, e.ok ∧ e.d = [] := fun e he => by
  obtain ⟨x, hx, rfl⟩ := List.mem_map.1 he
  obtain ⟨h1, h2⟩ := h x hx
  exact ⟨⟨h1.i, h1.t, h1.k, h1.b, h1.l⟩, h2⟩
theorem kesB_len0 : ∀ (l : List KE), (∀ e ∈ l, e.ok ∧ e.d = []) → (kesB l).length ≤ l.length * 40
  | [], _ => by simp [kesB]
  | e :: l, h => by
    have h1 := KE.b_len (h e (by simp)).1
    rw [(h e (by simp)).2] at h1
    have h3 := kesB_len0 l fun x hx => h x (by simp [hx])
    simp only [List.length_nil] at h1
    rw [kesB, List.length_append, List.length_cons, Nat.succ_mul]
    omega
def RdE (n : Nat) (t f : Int) (l : List KE) : Prop := (f = 0 ∧ l = []) ∨ (f = (n : Int) + 1 ∧ 1 ≤ t ∧ ∃ e : KE, l = [e] ∧ e.i = f ∧ e.t = t ∧ e.k = 1 ∧ e.d = [])
theorem pl_es {k : KVl} (hs : k.s = KSn.zero) {t v f : Int} {l : List KE} (h : RdE k.es.length t f l) :
    ((plV k true t v f l).es = k.es ∧ l = []) ∨ ((plV k true t v f l).es = k.es.map KE.cl ++ l.map KE.cl) := by
  rcases h with ⟨rfl, rfl⟩ | ⟨rfl, h⟩
  · exact .inl ⟨rfl, rfl⟩
  · right
    have h1 : (1 : Int) ≤ (k.es.length : Int) + 1 := by omega
    simp only [plV, if_pos h1, esB]
    have : keepN k ((k.es.length : Int) + 1) = k.es.length := by
      unfold keepN
      rw [hs]
      show (min (max ((k.es.length : Int) + 1 - 0 - 1) 0) (k.es.length : Int)).toNat = _
      omega
    rw [this, List.take_length]
theorem V_step {s : WS} {k : KVl} {Bs : List (List Int)} {m : Nat} (h : VInv s k Bs base m) (hm : m < 30) (t v f : Int) (z : Bool) (l : List KE) (c : Option Nat) (x mm r : PC) (ht : k.t ≤ t ∧ t < 9223372036854775808) (hv : 0 ≤ v ∧ v ≤ 7) (hr : RdE k.es.length t f l) :
    ∃ s', VInv s' (plV k true t v f l) (Bs ++ [txtB 1 true t v f l]) base (m + 1) ∧ (plV k true t v f l).es.length = k.es.length + l.length ∧ DK base 45 [.c (.ptr 1 0), .agg (rdA t v true f z l c x mm r)] (s, some k) (.c (.p (.int .i64 0))) (s', some (plV k true t v f l)) := by
  obtain ⟨⟨ht0, ht1⟩, hv0, hv1⟩ := h.tv
  have hel := h.el
  have hlen := h.len
  have t64 : InI64 t := ⟨by omega, by omega⟩
  have v64 : InI64 v := ⟨by omega, by omega⟩
  have hl1 : l.length ≤ 1 := by rcases hr with ⟨-, rfl⟩ | ⟨-, -, e, rfl, -⟩ <;> simp
  have hf : 0 ≤ f ∧ f ≤ 31 := by rcases hr with ⟨rfl, -⟩ | ⟨rfl, -⟩ <;> omega
  have f64 : InI64 f := ⟨by omega, by omega⟩
  have hlo : ∀ e ∈ l, e.ok ∧ e.d = [] := fun e he => by
    rcases hr with ⟨-, rfl⟩ | ⟨-, h1, e0, rfl, h2, h3, h4, h5⟩
    · cases he
    · rw [List.mem_singleton.1 he]
      exact ⟨⟨by rw [h2]; exact f64, by rw [h3]; exact t64, by rw [h4]; exact ⟨by decide, by decide⟩, by rw [h5]; exact Bytes.nil, by rw [h5]; simp⟩, h5⟩
  have hpe := pl_es (v := v) h.ks hr
  have hes : ∀ e ∈ (plV k true t v f l).es, e.ok ∧ e.d = [] := fun e he => by
    rcases hpe with ⟨h1, -⟩ | h1
    · rw [h1] at he; exact h.es e he
    · rw [h1] at he
      rcases List.mem_append.1 he with he | he
      · exact cl_ok h.es e he
      · exact cl_ok hlo e he
  have hel2 : (plV k true t v f l).es.length = k.es.length + l.length := by
    rcases hpe with ⟨h1, h2⟩ | h1
    · rw [h1, h2]; rfl
    · rw [h1]; simp
  have hkb : (kesB (plV k true t v f l).es).length = (kesB k.es).length + (kesB l).length := by
    rcases hpe with ⟨h1, h2⟩ | h1
    · rw [h1, h2]; rfl
    · rw [h1, kesB_app, kesB_cl, kesB_cl, List.length_append]
  have n1 : (numB 1).length = 1 := numB1 (by omega) (by omega)
  have n2 : (numB 2).length = 1 := numB1 (by omega) (by omega)
  have nv : (numB v).length = 1 := numB1 (by omega) (by omega)
  have nf : (numB f).length = 1 := numB1 (by omega) (by omega)
  have nl : (numB (l.length : Int)).length = 1 := numB1 (by omega) (by omega)
  have nt := numB_len t64.1 t64.2
  have hfb : ∀ b, (flagB b).length = 1 := fun b => rfl
  have hT0 : (txtB 1 true t v f l).length = 6 + (numB t).length + (kesB l).length := by
    simp only [txtB, kesN, List.length_append, n1, nv, nf, nl, hfb]; omega
  have hA : (kesB (plV k true t v f l).es).length ≤ (txtB 2 true t v 1 (plV k true t v f l).es).length := by
    simp only [txtB, kesN, List.length_append]; omega
  have hkl : (kesB l).length = 0 ∨ (kesB l).length = 3 + (numB t).length := by
    rcases hr with ⟨-, rfl⟩ | ⟨-, h1, e0, rfl, h2, h3, h4, h5⟩
    · exact .inl rfl
    · right
      simp only [kesB, KE.b, textB, List.length_append, List.append_nil, h2, h3, h4, h5, nf, n1]
      simp [numB1]
      omega
  have hTl : (txtB 1 true t v f l).length ≤ 29 := by omega
  have hTb : Bytes (txtB 1 true t v f l) := by
    unfold txtB kesN
    exact (((((numB_bytes _).app (flagB_bytes _)).app (numB_bytes _)).app (numB_bytes _)).app (flagB_bytes _)).app (numB_bytes _) |>.app ((numB_bytes _).app (kesB_bytes fun e he => (hlo e he).1))
  have hRl : (Bs.map (1 :: ·)).length = Bs.length := by simp
  have hf2 : f2N 1 (Bs.map (1 :: ·)) = 1 := by unfold f2N; split <;> rfl
  have hok : RecOK 1 (Bs.map (1 :: ·) ++ [1 :: txtB 1 true t v f l]) := ⟨⟨by omega, by simp; omega⟩, by simp; omega, fun b hb => by
    rcases List.mem_append.1 hb with hb | hb
    · exact h.ok.b b hb
    · rw [List.mem_singleton.1 hb]
      exact ⟨fun y hy => by
        rcases List.mem_cons.1 hy with rfl | hy
        · exact ⟨by decide, by decide⟩
        · exact hTb y hy, by simp; omega⟩⟩
  have hsz := h.sz
  have hkesl : (kesB k.es).length ≤ 1200 := by
    have h1 := kesB_len0 k.es h.es
    omega
  have hdl : ∀ (q : List KE), (∀ e ∈ q, e.ok ∧ e.d = []) → ∀ e ∈ q, e.d.length ≤ 1000000 := fun q hq e he => by rw [(hq e he).2]; simp
  have hnil : s.lg = .nil → s.dk = none := fun _ => h.dk
  obtain ⟨s', ⟨g1, g2, g3, g4, g5⟩, C⟩ := K_save_ok (base := base) s k h.inv t v true f z l c x mm r ⟨fun _ => ⟨ht.1, hv.1, hv.2⟩, fun e he => by
      rcases hr with ⟨-, rfl⟩ | ⟨-, h1, e0, rfl, h2, h3, h4, h5⟩
      · cases he
      · rw [List.mem_singleton.1 he]
        exact fun _ => ⟨by omega, by omega, by omega⟩⟩ (by
      rcases hr with ⟨h0, -⟩ | ⟨h0, h1, e0, rfl, h2, h3, h4, h5⟩
      · exact .inl h0
      · refine .inr ⟨by rw [h.ks]; show (0 : Int) < f; omega, by rw [h.ks]; show f ≤ 0 + (k.es.length : Nat) + 1; omega, fun j e hj => ?_⟩
        cases j with
        | zero => cases hj; rw [h2]; simp
        | succ n => simp at hj) (fun _ e he => by rw [(hlo e he).2]; simp) t64 v64 ⟨by omega, by omega⟩ ⟨by omega, by omega⟩ ⟨hf.1, by omega⟩ (by rw [h.ks]; rfl) (by omega) (hdl l hlo) (by omega) (hdl _ h.es) (fun e he => (hlo e he).1) (by omega) (fun e he => (hes e he).1) (by omega) (by rw [hf2]; exact hok) (by omega) (by omega) hnil (by rw [h.dk]; simp [wtN]) (by
      show (flatR 1 (Bs.map (1 :: ·))).length + (txtB 1 true t v f l).length ≤ 1000 + 2 * (txtB 2 true t v 1 (plV k true t v f l).es).length
      omega)
  refine ⟨s', ?_, hel2, C⟩
  rw [hf2] at g1
  have hmap : (Bs ++ [txtB 1 true t v f l]).map (1 :: ·) = Bs.map (1 :: ·) ++ [1 :: txtB 1 true t v f l] := by simp
  obtain ⟨p, p1, p2, p3, p4, p5, p6⟩ := h.pl
  have hr' : RdE p.es.length t f (l.map KE.rd) := by
    rw [p4]
    rcases hr with ⟨h0, rfl⟩ | ⟨h0, h1, e0, rfl, h2, h3, h4, h5⟩
    · exact .inl ⟨h0, rfl⟩
    · exact .inr ⟨h0, h1, e0.rd, rfl, h2, h3, h4, h5⟩
  have hpp := pl_es (v := v) p5 hr'
  refine ⟨by rw [hmap]; exact g1, by rw [hmap]; exact hok, g2, fun e => by have := g1.lg; rw [e] at this; exact this, ⟨g4, g5⟩, by simp; omega, ?_, h.ks, ⟨⟨by show (0 : Int) ≤ t; omega, ht.2⟩, hv⟩, hes, by omega, plV p true t v f (l.map KE.rd), ?_, rfl, rfl, ?_, p5, ?_⟩
  · rw [hmap, flatR_app, List.length_append, seal_len (by simp [recB]; have := numB_len (n := 1 + ((Bs.map (1 :: ·)).length : Int)) (by omega) (by omega); simp at this; omega)]
    simp only [recB, List.length_append, List.length_cons]
    rw [numB1 (by omega) (by omega)]
    omega
  · refine p1.snoc ⟨fun e => by rw [e] at hT0; simp at hT0; omega, by omega⟩ fun s z c => ?_
    have hP := K_play0 (base := base) s p z c 1 true t v f l (.inl rfl) t64 v64 ⟨hf.1, by omega⟩ (by omega) (fun e he => (hlo e he).1) (by rw [p5]; exact ⟨by decide, by decide⟩) (by omega) (hdl _ p6)
    exact hP
  · rcases hpp with ⟨h1, h2⟩ | h1
    · rw [h1, hel2, p4, show l = [] from List.map_eq_nil_iff.1 h2]; rfl
    · rw [h1, hel2, List.length_append, List.length_map, List.length_map, List.length_map, p4]
  · rcases hpp with ⟨h1, h2⟩ | h1
    · rw [h1]; exact p6
    · rw [h1]
      intro e he
      rcases List.mem_append.1 he with he | he
      · exact cl_ok p6 e he
      · exact cl_ok (rd_ok hlo) e he
theorem V_first (base : Nat) (s : WS) (hi : WInv s 1 []) (hd : s.dk = none) (hL : s.L = s.F ∧ s.lc = s.c) : VInv s KVl.zero [] base 0 :=
  ⟨hi, ⟨⟨by decide, by simp⟩, by simp, by intro b hb; cases hb⟩, hd, (fun e => by have := hi.lg; rw [e] at this; exact this), hL, by simp, by simp [flatR], rfl, ⟨⟨by decide, by decide⟩, by decide, by decide⟩, (by intro e he; cases he), by simp [KVl.zero], KVl.zero, .nil _, rfl, rfl, rfl, rfl, (by intro e he; cases he)⟩
theorem VInv.mono {s : WS} {k : KVl} {Bs : List (List Int)} {m n : Nat} (h : VInv s k Bs base m) (hmn : m ≤ n) : VInv s k Bs base n :=
  { h with len := by have := h.len; omega, sz := by have := h.sz; omega, el := by have := h.el; omega }
end Go.Proofs.Ytjlfojgacnphmaa

namespace Go.Proofs.Ytjlfojgacnphmaa
open Go.RowKit Sim Go Sym
set_option maxRecDepth 100000
set_option linter.unusedVariables false
set_option linter.unusedSimpArgs false
variable {base : Nat}
noncomputable def lVot : {F : LF // lowerF Try.prog 13 = some F} := ⟨_, rfl⟩
def hV5 (s : WS) (k : KVl) : HS := ⟨appL [(8, some (.row [.p (.int .i64 k.t), .p (.int .i64 k.v)] true))] (kFam.mem (s, some k)).l, 9⟩
def eV5 (z0 : Bool) (T : List Int) (c0 : Option Nat) (z1 : Bool) (V : List Int) (c1 : Option Nat) (en : Bool) (k : KVl) (i : Nat) : Env := [(0, .c (.p (.tz z0 1 (inP T) c0))), (1, .c (.p (.tz z1 1 (inP V) c1))), (2, .c (.p (.bs en))), (8, .c (.ptr 0 0)), (9, .c (.ptr 1 0)), (11, .c (.ptr 8 0)), (12, .c (.p (.int .i64 ((k.es.length : Int) + 1)))), (13, .c (.p (.int .i64 i)))]
set_option maxHeartbeats 400000
theorem M.cut {P : Program} {n k : Nat} {Q : QX} {ι : Type} {f : Fo} {K : List Fr} (E : ι → Env) (Hh : ι → HS) (Pre : ι → Prop) {G : Prop} (main : (∀ x, Pre x → M P base n k f K (E x) (Hh x) Q) → G) (p : ∀ x, Pre x → M P base n k f K (E x) (Hh x) Q) : G := main p
theorem callBack {P : Program} {f : FuncId} {args : List SV} {h h2 : HS} {r : SV} (C : Sym.Call P base f args h.sh r h2.sh) (hn : h2.next ≤ h.next) (hs : ∀ b o, h.get b = some o → h2.get b = some o) : Sym.Call P base f args h.sh r h.sh := ⟨C.fn, fun φ args' w ha hr => Calls.mono (C.run φ args' w ha hr) fun e w' ⟨v', φ', e1, e2, e3, e4⟩ => by
  obtain ⟨g1, g2⟩ := e3.forget (h' := h.sh) hn (fun b q hb => by
    rw [HS.get_sh] at hb ⊢
    cases hg : h.get b with
    | none => rw [hg] at hb; cases hb
    | some o => rw [hs b o hg]; rw [hg] at hb; exact hb)
  exact ⟨v', φ', e1, e2, g1, e4.trans g2⟩⟩
theorem inP_at (v : List Int) (j : Nat) (h : j < v.length) : (inP v)[j]? = some (.int .i64 (v.getD j 0)) := by simp [inP, h]
theorem vot_loop (z0 : Bool) (T : List Int) (c0 : Option Nat) (z1 : Bool) (V : List Int) (c1 : Option Nat) (en : Bool) (hT : ∀ x ∈ T, InI64 x) (hV : ∀ x ∈ V, InI64 x) (hTl : T.length ≤ 20000000000000) (hVl : V.length ≤ 20000000000000) (Q : QX) (hq : Q (.exit 0) [] ⟨[], 0⟩) (hbad : False → True) :
    ∀ (n i : Nat) (s : WS) (k : KVl) (Bs : List (List Int)), i + n = min (min T.length V.length) 30 → VInv s k Bs base i → XH Try.prog base lVot.1.n 0 (lVot.1.c.lp 0) (eV5 z0 T c0 z1 V c1 en k i) (hV5 s k) Q := by
  have hTp : (inP T).length = T.length := by simp [inP]
  have hVp : (inP V).length = V.length := by simp [inP]
  intro n
  induction n with
  | zero =>
    intro i s k Bs hin hv
    refine M.round (M.go rfl ?_)
    rw [hTp]
    refine M.dec rfl (fun h1 => ?_) (fun h1 => ?_)
    · refine M.go rfl ?_
      rw [hVp]
      refine M.dec rfl (fun h2 => ?_) (fun h2 => ?_)
      · refine M.go rfl ?_
        refine M.cond rfl (fun h3 => absurd h3 (by omega)) (fun h3 => ?_)
        refine M.ren [] ?_ trivial rfl (by repeat' (first | exact True.intro | refine evC rfl rfl Wk.rfl ?_ | refine evC (accV_ren rfl) rfl Wk.rfl ?_ | refine evC (accV_ren rfl) rfl Wk.acc0 ?_ | refine evC rfl rfl Wk.uncap ?_ | refine evC rfl rfl Wk.nil ?_)) (by repeat' (first | exact True.intro | refine hpC rfl rfl rfl ?_ | refine ⟨⟨_, _, _, rfl, rfl, rfl, @WkO.rfl _⟩, ?_⟩ | refine HeapOK.acc rfl rfl ?_)) (e' := []) (h' := ⟨[], 0⟩)
        exact M.exit (M.go rfl (M.done hq))
      · refine M.go rfl ?_
        refine M.ren [] ?_ trivial rfl (by repeat' (first | exact True.intro | refine evC rfl rfl Wk.rfl ?_ | refine evC (accV_ren rfl) rfl Wk.rfl ?_ | refine evC (accV_ren rfl) rfl Wk.acc0 ?_ | refine evC rfl rfl Wk.uncap ?_ | refine evC rfl rfl Wk.nil ?_)) (by repeat' (first | exact True.intro | refine hpC rfl rfl rfl ?_ | refine ⟨⟨_, _, _, rfl, rfl, rfl, @WkO.rfl _⟩, ?_⟩ | refine HeapOK.acc rfl rfl ?_)) (e' := []) (h' := ⟨[], 0⟩)
        exact M.exit (M.go rfl (M.done hq))
    · refine M.go rfl ?_
      refine M.ren [] ?_ trivial rfl (by repeat' (first | exact True.intro | refine evC rfl rfl Wk.rfl ?_ | refine evC (accV_ren rfl) rfl Wk.rfl ?_ | refine evC (accV_ren rfl) rfl Wk.acc0 ?_ | refine evC rfl rfl Wk.uncap ?_ | refine evC rfl rfl Wk.nil ?_)) (by repeat' (first | exact True.intro | refine hpC rfl rfl rfl ?_ | refine ⟨⟨_, _, _, rfl, rfl, rfl, @WkO.rfl _⟩, ?_⟩ | refine HeapOK.acc rfl rfl ?_)) (e' := []) (h' := ⟨[], 0⟩)
      exact M.exit (M.go rfl (M.done hq))
  | succ n ih =>
    intro i s k Bs hin hv
    have hw : IntKind.i64.wrap ((i : Int) + 1) = ((i + 1 : Nat) : Int) := by rw [wr64 (by omega) (by omega)]; omega
    have hkl := hv.el
    have ua := inP_at T i (by omega)
    have ub := inP_at V i (by omega)
    have hta : InI64 (T.getD i 0) := hT _ (by rw [List.getD_eq_getElem?_getD, List.getElem?_eq_getElem (by omega)]; exact List.getElem_mem _)
    have hvb : InI64 (V.getD i 0) := hV _ (by rw [List.getD_eq_getElem?_getD, List.getElem?_eq_getElem (by omega)]; exact List.getElem_mem _)
    obtain ⟨t, ht⟩ : ∃ t, t = T.getD i 0 := ⟨_, rfl⟩
    obtain ⟨v, hvv⟩ : ∃ v, v = V.getD i 0 := ⟨_, rfl⟩
    rw [← ht] at ua hta
    rw [← hvv] at ub hvb
    have ua' : (inP T)[((i : Int)).toNat]? = some (.int .i64 t) := ua
    have ub' : (inP V)[((i : Int)).toNat]? = some (.int .i64 v) := ub
    refine M.round (M.go rfl ?_)
    rw [hTp]
    refine M.dec rfl (fun _ => ?_) (fun h1 => absurd (by omega) h1)
    refine M.go rfl ?_
    rw [hVp]
    refine M.dec rfl (fun _ => ?_) (fun h1 => absurd (by omega) h1)
    refine M.go rfl ?_
    refine M.cond rfl (fun _ => ?_) (fun h1 => absurd (by omega) h1)
    refine M.go rfl ?_
    refine M.regF (MF.go rfl ?_)
    refine MF.op trivial (SOp.ia rfl rfl (by omega) ua') ?_
    refine MF.op trivial (SOp.ld1e rfl ua' rfl rfl rfl) (MF.go rfl ?_)
    refine MF.op trivial (SOp.ia rfl rfl (by omega) ub') ?_
    refine MF.op trivial (SOp.ld1e rfl ub' rfl rfl rfl) (MF.go rfl ?_)
    refine MF.nil mixed (Fnl.nodup rfl) rfl (by refine ⟨⟨?_, trivial⟩, ⟨?_, trivial⟩, trivial⟩ <;> first | exact SOp.ld1e rfl ua' rfl rfl rfl | exact SOp.ld1e rfl ub' rfl rfl rfl) (M.go rfl ?_)
    apply M.cut (P := Try.prog) (base := base) (n := lVot.1.n) (k := 0) (Q := Q) (ι := WS × KVl × List (List Int)) (fun x => eV5 z0 T c0 z1 V c1 en x.2.1 i ++ [(103, .c (.ptr 0 0))]) (fun x => hV5 x.1 x.2.1) (fun x => VInv x.1 x.2.1 x.2.2 base (i + 1))
    case main =>
      intro key3
      apply M.cut (P := Try.prog) (base := base) (n := lVot.1.n) (k := 0) (Q := Q) (ι := Bool × Int × Bool × List KE × Option Nat) (fun x => [(0, .c (.p (.tz z0 1 (inP T) c0))), (1, .c (.p (.tz z1 1 (inP V) c1))), (2, .c (.p (.bs en))), (8, .c (.ptr 0 0)), (9, .c (.ptr 1 0)), (11, .c (.ptr 8 0)), (12, .c (.p (.int .i64 ((k.es.length : Int) + 1)))), (13, .c (.p (.int .i64 i))), (14, .c (.ptr 9 0)), (15, .c (.ptr 10 0)), (16, .c (.p (.bs x.1))), (88, .c (.ptr 1 0)), (89, .agg (rdA t v true x.2.1 x.2.2.1 x.2.2.2.1 x.2.2.2.2 (.tz true 0 [] none) (.tz true 0 [] none) (.tz true 0 [] none)))]) (fun x => ⟨appL [(10, some (.row (rdA t v true x.2.1 x.2.2.1 x.2.2.2.1 x.2.2.2.2 (.tz true 0 [] none) (.tz true 0 [] none) (.tz true 0 [] none)) true)), (9, some (.row [.p (.int .i64 t), .p (.int .i64 v)] true)), (8, some (.row [.p (.int .i64 k.t), .p (.int .i64 k.v)] true))] (kFam.mem (s, some k)).l, 11⟩) (fun x => (x.1 = true ↔ (k.t ≤ t ∧ 0 ≤ v ∧ v ≤ 7)) ∧ RdE k.es.length t x.2.1 x.2.2.2.1)
      case main =>
        intro key2
        apply M.cut (P := Try.prog) (base := base) (n := lVot.1.n) (k := 0) (Q := Q) (ι := Bool) (fun b => [(0, .c (.p (.tz z0 1 (inP T) c0))), (1, .c (.p (.tz z1 1 (inP V) c1))), (2, .c (.p (.bs en))), (8, .c (.ptr 0 0)), (9, .c (.ptr 1 0)), (11, .c (.ptr 8 0)), (12, .c (.p (.int .i64 ((k.es.length : Int) + 1)))), (13, .c (.p (.int .i64 i))), (14, .c (.ptr 9 0)), (15, .c (.ptr 10 0)), (16, .c (.p (.bs b))), (75, .c (.p (.bs en)))]) (fun b => ⟨appL [(10, some (.row [.p (.int .i64 t), .p (.int .i64 v), .p (.bool true), .p (.int .i64 0), .p (.tz true 0 [] none), .p .nilp, .p (.tz true 0 [] none), .p (.tz true 0 [] none), .p (.tz true 0 [] none)] true)), (9, some (.row [.p (.int .i64 t), .p (.int .i64 v)] true)), (8, some (.row [.p (.int .i64 k.t), .p (.int .i64 k.v)] true))] (kFam.mem (s, some k)).l, 11⟩) (fun b => b = true ↔ (k.t ≤ t ∧ 0 ≤ v ∧ v ≤ 7))
        case main =>
          intro key1
          refine M.dec rfl (fun h1 => ?_) (fun h1 => ?_)
          · refine M.go rfl ?_
            refine M.dec rfl (fun h2 => ?_) (fun h2 => ?_)
            · refine M.go rfl ?_
              exact M.ren [(0, 0), (1, 1), (2, 2), (3, 3), (4, 4), (5, 5), (6, 6), (7, 7), (8, 8), (9, 9), (10, 10)] (key1 (decide (v ≤ 7)) (by simp; omega)) trivial rfl (by repeat' (first | exact True.intro | refine evC rfl rfl Wk.rfl ?_ | refine evC (accV_ren rfl) rfl Wk.rfl ?_ | refine evC (accV_ren rfl) rfl Wk.acc0 ?_ | refine evC rfl rfl Wk.uncap ?_ | refine evC rfl rfl Wk.nil ?_)) ⟨(hpX rfl rfl rfl), (hpX rfl rfl rfl), (hpX rfl rfl rfl), (hpX rfl rfl rfl), HeapOK.fam wOK (by repeat' (first | exact Tl.here | refine Tl.cons rfl ?_)) rfl⟩
            · refine M.go rfl ?_
              refine M.wkO (i := 16) (v' := .c (.p (.bs false))) rfl (Wk.of rfl) ?_
              exact M.ren [(0, 0), (1, 1), (2, 2), (3, 3), (4, 4), (5, 5), (6, 6), (7, 7), (8, 8), (9, 9), (10, 10)] (key1 false (by simp; omega)) trivial rfl (by repeat' (first | exact True.intro | refine evC rfl rfl Wk.rfl ?_ | refine evC (accV_ren rfl) rfl Wk.rfl ?_ | refine evC (accV_ren rfl) rfl Wk.acc0 ?_ | refine evC rfl rfl Wk.uncap ?_ | refine evC rfl rfl Wk.nil ?_)) ⟨(hpX rfl rfl rfl), (hpX rfl rfl rfl), (hpX rfl rfl rfl), (hpX rfl rfl rfl), HeapOK.fam wOK (by repeat' (first | exact Tl.here | refine Tl.cons rfl ?_)) rfl⟩
          · refine M.go rfl ?_
            refine M.wkO (i := 16) (v' := .c (.p (.bs false))) rfl (Wk.of rfl) ?_
            exact M.ren [(0, 0), (1, 1), (2, 2), (3, 3), (4, 4), (5, 5), (6, 6), (7, 7), (8, 8), (9, 9), (10, 10)] (key1 false (by simp; omega)) trivial rfl (by repeat' (first | exact True.intro | refine evC rfl rfl Wk.rfl ?_ | refine evC (accV_ren rfl) rfl Wk.rfl ?_ | refine evC (accV_ren rfl) rfl Wk.acc0 ?_ | refine evC rfl rfl Wk.uncap ?_ | refine evC rfl rfl Wk.nil ?_)) ⟨(hpX rfl rfl rfl), (hpX rfl rfl rfl), (hpX rfl rfl rfl), (hpX rfl rfl rfl), HeapOK.fam wOK (by repeat' (first | exact Tl.here | refine Tl.cons rfl ?_)) rfl⟩
        case p =>
          intro b hb
          cases en
          · refine M.decB rfl (fun h => by cases h) (fun _ => ?_)
            refine M.go rfl ?_
            refine M.wkO (i := 89) (v' := .agg (rdA t v true 0 true [] none (.tz true 0 [] none) (.tz true 0 [] none) (.tz true 0 [] none))) rfl (Wk.of rfl) ?_
            exact M.ren [(0, 0), (1, 1), (2, 2), (3, 3), (4, 4), (5, 5), (6, 6), (7, 7), (8, 8), (9, 9), (10, 10)] (key2 (b, 0, true, [], none) ⟨hb, .inl ⟨rfl, rfl⟩⟩) trivial rfl (by repeat' (first | exact True.intro | refine evC rfl rfl Wk.rfl ?_ | refine evC (accV_ren rfl) rfl Wk.rfl ?_ | refine evC (accV_ren rfl) rfl Wk.acc0 ?_ | refine evC rfl rfl Wk.uncap ?_ | refine evC rfl rfl Wk.nil ?_)) ⟨⟨_, _, _, rfl, rfl, rfl, WkO.row ⟨Wk.of rfl, Wk.of rfl, Wk.of rfl, Wk.of rfl, Wk.of rfl, Wk.of rfl, Wk.of rfl, Wk.of rfl, Wk.of rfl, trivial⟩⟩, (hpX rfl rfl rfl), (hpX rfl rfl rfl), (hpX rfl rfl rfl), HeapOK.fam wOK (by repeat' (first | exact Tl.here | refine Tl.cons rfl ?_)) rfl⟩
          · refine M.decB rfl (fun _ => ?_) (fun h => by cases h)
            refine M.go rfl ?_
            refine M.cond rfl (fun h1 => ?_) (fun h1 => ?_)
            · refine M.goN 18 rfl ?_
              refine M.freezeR (b0 := 10) (o := 4) rfl rfl rfl rfl rfl rfl ?_
              refine M.go rfl ?_
              refine M.wkO (i := 89) (v' := .agg (rdA t v true ((k.es.length : Int) + 1) false [⟨(k.es.length : Int) + 1, t, 1, true, [], none⟩] (some 1) (.tz true 0 [] none) (.tz true 0 [] none) (.tz true 0 [] none))) rfl (Wk.of rfl) ?_
              exact M.ren [(0, 0), (1, 1), (2, 2), (3, 3), (4, 4), (5, 5), (6, 6), (7, 7), (8, 8), (9, 9), (10, 10)] (key2 (b, (k.es.length : Int) + 1, false, [⟨(k.es.length : Int) + 1, t, 1, true, [], none⟩], some 1) ⟨hb, .inr ⟨rfl, h1, _, rfl, rfl, rfl, rfl, rfl⟩⟩) trivial rfl (by repeat' (first | exact True.intro | refine evC rfl rfl Wk.rfl ?_ | refine evC (accV_ren rfl) rfl Wk.rfl ?_ | refine evC (accV_ren rfl) rfl Wk.acc0 ?_ | refine evC rfl rfl Wk.uncap ?_ | refine evC rfl rfl Wk.nil ?_)) ⟨⟨_, _, _, rfl, rfl, rfl, WkO.row ⟨Wk.of rfl, Wk.of rfl, Wk.of rfl, Wk.of rfl, Wk.of rfl, Wk.of rfl, Wk.of rfl, Wk.of rfl, Wk.of rfl, trivial⟩⟩, (hpX rfl rfl rfl), (hpX rfl rfl rfl), (hpX rfl rfl rfl), HeapOK.fam wOK (by repeat' (first | exact Tl.here | refine Tl.cons rfl ?_)) rfl⟩
            · refine M.go rfl ?_
              refine M.wkO (i := 89) (v' := .agg (rdA t v true 0 true [] none (.tz true 0 [] none) (.tz true 0 [] none) (.tz true 0 [] none))) rfl (Wk.of rfl) ?_
              exact M.ren [(0, 0), (1, 1), (2, 2), (3, 3), (4, 4), (5, 5), (6, 6), (7, 7), (8, 8), (9, 9), (10, 10)] (key2 (b, 0, true, [], none) ⟨hb, .inl ⟨rfl, rfl⟩⟩) trivial rfl (by repeat' (first | exact True.intro | refine evC rfl rfl Wk.rfl ?_ | refine evC (accV_ren rfl) rfl Wk.rfl ?_ | refine evC (accV_ren rfl) rfl Wk.acc0 ?_ | refine evC rfl rfl Wk.uncap ?_ | refine evC rfl rfl Wk.nil ?_)) ⟨⟨_, _, _, rfl, rfl, rfl, WkO.row ⟨Wk.of rfl, Wk.of rfl, Wk.of rfl, Wk.of rfl, Wk.of rfl, Wk.of rfl, Wk.of rfl, Wk.of rfl, Wk.of rfl, trivial⟩⟩, (hpX rfl rfl rfl), (hpX rfl rfl rfl), (hpX rfl rfl rfl), HeapOK.fam wOK (by repeat' (first | exact Tl.here | refine Tl.cons rfl ?_)) rfl⟩
      case p =>
        rintro ⟨b, f, z, l, c⟩ ⟨hb, hr⟩
        have hx : ∃ (s' : WS) (k' : KVl) (Bs' : List (List Int)) (er : Int), VInv s' k' Bs' base (i + 1) ∧ (er = 0 ↔ b = true) ∧ k'.t = (if b = true then t else k.t) ∧ k'.v = (if b = true then v else k.v) ∧ (k'.es.length : Int) = k.es.length + (if b = true ∧ 0 < f then 1 else 0) ∧ DK base 45 [.c (.ptr 1 0), .agg (rdA t v true f z l c (.tz true 0 [] none) (.tz true 0 [] none) (.tz true 0 [] none))] (s, some k) (.c (.p (.int .i64 er))) (s', some k') := by
          cases b
          · refine ⟨s, k, Bs, 3, hv.mono (by omega), by simp, by simp, by simp, by simp, ?_⟩
            exact K_save_form s k t v true f z l c (.tz true 0 [] none) (.tz true 0 [] none) (.tz true 0 [] none) (by rcases hr with ⟨-, rfl⟩ | ⟨-, -, e, rfl, -⟩ <;> simp) (fun h => by
              have := hb.2 (h.1 rfl)
              cases this)
          · obtain ⟨h1, h2, h3⟩ := hb.1 rfl
            obtain ⟨s', hv', hl', C⟩ := V_step (base := base) hv (by omega) t v f z l c (.tz true 0 [] none) (.tz true 0 [] none) (.tz true 0 [] none) ⟨h1, by have := hta.2; omega⟩ ⟨h2, h3⟩ hr
            refine ⟨s', _, _, 0, hv', by simp, rfl, rfl, ?_, C⟩
            rw [hl']
            rcases hr with ⟨rfl, rfl⟩ | ⟨rfl, -, e, rfl, -⟩
            · simp
            · rw [if_pos ⟨rfl, by omega⟩]; simp
        obtain ⟨s', k', Bs', er, hv', her, hkt, hkv, hke, C⟩ := hx
        refine M.useR (s := ((s, some k) : WS × Option KVl)) kOK [(10, some (.row (rdA t v true f z l c (.tz true 0 [] none) (.tz true 0 [] none) (.tz true 0 [] none)) true)), (9, some (.row [.p (.int .i64 t), .p (.int .i64 v)] true)), (8, some (.row [.p (.int .i64 k.t), .p (.int .i64 k.v)] true))] [(0, .c (.p (.tz z0 1 (inP T) c0))), (1, .c (.p (.tz z1 1 (inP V) c1))), (2, .c (.p (.bs en))), (8, .c (.ptr 0 0)), (9, .c (.ptr 1 0)), (11, .c (.ptr 8 0)), (12, .c (.p (.int .i64 ((k.es.length : Int) + 1)))), (13, .c (.p (.int .i64 i))), (14, .c (.ptr 9 0)), (15, .c (.ptr 10 0)), (16, .c (.p (.bs b)))] trivial C rfl ⟨⟨rfl, rfl⟩, ⟨rfl, rfl⟩, ⟨rfl, rfl⟩, trivial⟩ rfl rfl rfl rfl (fun r s' h => by rw [h.1]; rfl) (by repeat' (first | exact True.intro | refine evC rfl rfl Wk.rfl ?_ | refine evC (accV_ren rfl) rfl Wk.rfl ?_ | refine evC (accV_ren rfl) rfl Wk.acc0 ?_ | refine evC rfl rfl Wk.uncap ?_ | refine evC rfl rfl Wk.nil ?_)) (fun r s2 h => ?_)
        obtain ⟨rfl, h2⟩ := h
        rw [h2]
        cases b
        · have her' : er ≠ 0 := fun h => by have := her.1 h; cases this
          refine M.go rfl ?_
          rw [decide_eq_false her']
          refine M.condB rfl (fun h => absurd h (by decide)) (fun _ => ?_)
          refine M.go rfl ?_
          refine M.condB rfl (fun h => by cases h) (fun _ => ?_)
          refine M.go rfl ?_
          have e1 : k'.t = k.t := by simpa using hkt
          have e2 : k'.v = k.v := by simpa using hkv
          have e3 : (k'.es.length : Int) = (k.es.length : Int) := by simpa using hke
          have kk := key3 (s', k', Bs') hv'
          simp only [eV5, hV5, e1, e2, e3, List.cons_append, List.nil_append] at kk
          exact M.ren [(0, 0), (1, 1), (2, 2), (3, 3), (4, 4), (5, 5), (6, 6), (7, 7), (8, 8)] kk trivial rfl (by repeat' (first | exact True.intro | refine evC rfl rfl Wk.rfl ?_ | refine evC (accV_ren rfl) rfl Wk.rfl ?_ | refine evC (accV_ren rfl) rfl Wk.acc0 ?_ | refine evC rfl rfl Wk.uncap ?_ | refine evC rfl rfl Wk.nil ?_)) ⟨(hpX rfl rfl rfl), (hpX rfl rfl rfl), HeapOK.fam wOK (by repeat' (first | exact Tl.here | refine Tl.cons rfl ?_)) rfl⟩
        · obtain rfl : er = 0 := her.2 rfl
          refine M.go rfl ?_
          refine M.condB rfl (fun h => absurd h (by decide)) (fun _ => ?_)
          refine M.go rfl ?_
          refine M.condB rfl (fun _ => ?_) (fun h => by cases h)
          refine M.go rfl ?_
          have e1 : k'.t = t := by simpa using hkt
          have e2 : k'.v = v := by simpa using hkv
          refine M.cond rfl (fun h1 => ?_) (fun h1 => ?_)
          · refine M.go rfl ?_
            rw [wr64 (n := (k.es.length : Int) + 1 + 1) (by omega) (by omega)]
            have e3 : (k'.es.length : Int) = (k.es.length : Int) + 1 := by rw [hke, if_pos ⟨rfl, h1⟩]
            have kk := key3 (s', k', Bs') hv'
            simp only [eV5, hV5, e1, e2, e3, List.cons_append, List.nil_append] at kk
            exact M.ren [(0, 0), (1, 1), (2, 2), (3, 3), (4, 4), (5, 5), (6, 6), (7, 7), (8, 8)] kk trivial rfl (by repeat' (first | exact True.intro | refine evC rfl rfl Wk.rfl ?_ | refine evC (accV_ren rfl) rfl Wk.rfl ?_ | refine evC (accV_ren rfl) rfl Wk.acc0 ?_ | refine evC rfl rfl Wk.uncap ?_ | refine evC rfl rfl Wk.nil ?_)) ⟨(hpX rfl rfl rfl), (hpX rfl rfl rfl), HeapOK.fam wOK (by repeat' (first | exact Tl.here | refine Tl.cons rfl ?_)) rfl⟩
          · refine M.go rfl ?_
            have e3 : (k'.es.length : Int) = (k.es.length : Int) := by rw [hke, if_neg (fun h => h1 h.2)]; omega
            have kk := key3 (s', k', Bs') hv'
            simp only [eV5, hV5, e1, e2, e3, List.cons_append, List.nil_append] at kk
            exact M.ren [(0, 0), (1, 1), (2, 2), (3, 3), (4, 4), (5, 5), (6, 6), (7, 7), (8, 8)] kk trivial rfl (by repeat' (first | exact True.intro | refine evC rfl rfl Wk.rfl ?_ | refine evC (accV_ren rfl) rfl Wk.rfl ?_ | refine evC (accV_ren rfl) rfl Wk.acc0 ?_ | refine evC rfl rfl Wk.uncap ?_ | refine evC rfl rfl Wk.nil ?_)) ⟨(hpX rfl rfl rfl), (hpX rfl rfl rfl), HeapOK.fam wOK (by repeat' (first | exact Tl.here | refine Tl.cons rfl ?_)) rfl⟩
    case p =>
      rintro ⟨s', k', Bs'⟩ hv'
      replace hv' : VInv s' k' Bs' base (i + 1) := hv'
      have hih := ih (i + 1) s' k' Bs' (by omega) hv'
      have hroom := hv'.inv.room
      have hfile := hv'.inv.file
      have hszz := hv'.inv.sz
      have hdk := hv'.dk
      have hL := hv'.L
      have hok := hv'.ok
      have hnl := hv'.nl
      have hel := hv'.el
      obtain ⟨⟨pt, pv, ps, pz, pes, pc⟩, p1, p2, p3, p4, p5, p6⟩ := hv'.pl
      obtain rfl : pt = k'.t := p2
      obtain rfl : pv = k'.v := p3
      replace p4 : pes.length = k'.es.length := p4
      clear hv' hv ih
      obtain ⟨room, first, enn, L, lc, F, c, _ | ⟨w, W⟩, _ | _ | ⟨o, m, X, Y⟩⟩ := s'
      · exact absurd rfl hnl
      · obtain rfl : L = F := hL.1
        obtain rfl : lc = c := hL.2
        obtain rfl : room = mB := hroom
        refine M.use trivial (crash0_spec mB L lc L lc (-1) 0) [(0, 0), (1, 3), (2, 4)] rfl rfl rfl (by repeat' (first | exact True.intro | refine hpC rfl rfl rfl ?_ | refine ⟨⟨_, _, _, rfl, rfl, rfl, @WkO.rfl _⟩, ?_⟩ | refine HeapOK.acc rfl rfl ?_)) rfl rfl ?_
        refine M.shO (Sh.ren (e' := [(0, .c (.p (.tz z0 1 (inP T) c0))), (1, .c (.p (.tz z1 1 (inP V) c1))), (2, .c (.p (.bs en))), (8, .c (.ptr 8 0)), (9, .c (.ptr 9 0)), (11, .c (.ptr 15 0)), (12, .c (.p (.int .i64 ((k'.es.length : Int) + 1)))), (13, .c (.p (.int .i64 i))), (104, .c (.ptr 0 0))]) (h' := ⟨appL [(15, some (.row [.p (.int .i64 k'.t), .p (.int .i64 k'.v)] true)), (12, some (fM L lc)), (11, some (fM L lc)), (10, some (.row [.ptr 8 0, .p (.int .i64 first), .p (.tz true 1 [] none), .p (.tz true 1 [] none), .p (.int .i64 enn)] true)), (9, some (.row [.ptr 10 0, .p (.int .i64 k'.t), .p (.int .i64 k'.v), .p (.int .i64 k'.s.i), .p (.int .i64 k'.s.t), .p (.tz k'.s.zc 1 (inP k'.s.conf) k'.s.cc), .p (.tz k'.s.z 1 (u8P k'.s.d) k'.s.c), .p (.tz k'.z 4 (keP k'.es) k'.c)] true)), (8, some (.row [.p (.int .i64 mB), .mp 11, .mp 12, .p (.tz true 5 [] none)] true))] (kFam.mem ((⟨mB, 0, 0, L, lc, L, lc, none, .no⟩ : WS), none)).l, 16⟩) [(0, 9), (3, 10), (4, 11), (8, 0), (9, 1), (10, 2), (11, 3), (12, 4), (15, 8)] rfl (by repeat' (first | exact True.intro | refine evC rfl rfl Wk.rfl ?_ | refine evC (accV_ren rfl) rfl Wk.rfl ?_ | refine evC (accV_ren rfl) rfl Wk.acc0 ?_ | refine evC rfl rfl Wk.uncap ?_ | refine evC rfl rfl Wk.nil ?_)) (by repeat' (first | exact True.intro | refine hpC rfl rfl rfl ?_ | refine ⟨⟨_, _, _, rfl, rfl, rfl, @WkO.rfl _⟩, ?_⟩ | refine HeapOK.acc rfl rfl ?_))) ?_
        refine M.useR (s := (((⟨mB, 0, 0, L, lc, L, lc, none, .no⟩ : WS), none) : WS × Option KVl)) kOK [(15, some (.row [.p (.int .i64 k'.t), .p (.int .i64 k'.v)] true)), (12, some (fM L lc)), (11, some (fM L lc)), (10, some (.row [.ptr 8 0, .p (.int .i64 first), .p (.tz true 1 [] none), .p (.tz true 1 [] none), .p (.int .i64 enn)] true)), (9, some (.row [.ptr 10 0, .p (.int .i64 k'.t), .p (.int .i64 k'.v), .p (.int .i64 k'.s.i), .p (.int .i64 k'.s.t), .p (.tz k'.s.zc 1 (inP k'.s.conf) k'.s.cc), .p (.tz k'.s.z 1 (u8P k'.s.d) k'.s.c), .p (.tz k'.z 4 (keP k'.es) k'.c)] true)), (8, some (.row [.p (.int .i64 mB), .mp 11, .mp 12, .p (.tz true 5 [] none)] true))] [(0, .c (.p (.tz z0 1 (inP T) c0))), (1, .c (.p (.tz z1 1 (inP V) c1))), (2, .c (.p (.bs en))), (8, .c (.ptr 8 0)), (9, .c (.ptr 9 0)), (11, .c (.ptr 15 0)), (12, .c (.p (.int .i64 ((k'.es.length : Int) + 1)))), (13, .c (.p (.int .i64 i)))] trivial (K_open0 0 0 L lc L lc 1 Bs' ⟨k'.t, k'.v, ps, pz, pes, pc⟩ (fun _ => hok) hfile hszz p1) rfl ⟨⟨rfl, rfl⟩, ⟨rfl, rfl⟩, ⟨rfl, rfl⟩, ⟨rfl, rfl⟩, ⟨rfl, rfl⟩, ⟨rfl, rfl⟩, trivial⟩ rfl rfl rfl rfl (fun r s' h => by rw [h.1]; rfl) (by repeat' (first | exact True.intro | refine evC rfl rfl Wk.rfl ?_ | refine evC (accV_ren rfl) rfl Wk.rfl ?_ | refine evC (accV_ren rfl) rfl Wk.acc0 ?_ | refine evC rfl rfl Wk.uncap ?_ | refine evC rfl rfl Wk.nil ?_)) (fun r s2 h => ?_)
        obtain ⟨rfl, s3, h2, g1, -, -, -, -, g6⟩ := h
        rw [h2]
        have g1 := g1.lg
        clear h2
        obtain ⟨room3, first3, en3, L3, lc3, F3, c3, _ | ⟨w3, W3⟩, _ | _ | ⟨o3, m3, X3, Y3⟩⟩ := s3
        · exact g1.elim
        · refine M.go rfl ?_
          have HC : Sym.Call Try.prog base 46 ([.c (.ptr 1 0)].map XV.sv) (HS.sh (⟨appL [(15, some (.row [.p (.int .i64 k'.t), .p (.int .i64 k'.v)] true)), (12, some (fM L lc)), (11, some (fM L lc)), (10, some (.row [.ptr 8 0, .p (.int .i64 first), .p (.tz true 1 [] none), .p (.tz true 1 [] none), .p (.int .i64 enn)] true)), (9, some (.row [.ptr 10 0, .p (.int .i64 k'.t), .p (.int .i64 k'.v), .p (.int .i64 k'.s.i), .p (.int .i64 k'.s.t), .p (.tz k'.s.zc 1 (inP k'.s.conf) k'.s.cc), .p (.tz k'.s.z 1 (u8P k'.s.d) k'.s.c), .p (.tz k'.z 4 (keP k'.es) k'.c)] true)), (8, some (.row [.p (.int .i64 mB), .mp 11, .mp 12, .p (.tz true 5 [] none)] true))] (kFam.mem ((⟨room3, first3, en3, L3, lc3, F3, c3, none, .nil⟩ : WS), some ⟨k'.t, k'.v, ps, pz, pes, pc⟩)).l, 16⟩ : HS)) (XV.agg [.p (.int .i64 k'.t), .p (.int .i64 k'.v)]).sv (HS.sh (⟨appL [(15, some (.row [.p (.int .i64 k'.t), .p (.int .i64 k'.v)] true)), (12, some (fM L lc)), (11, some (fM L lc)), (10, some (.row [.ptr 8 0, .p (.int .i64 first), .p (.tz true 1 [] none), .p (.tz true 1 [] none), .p (.int .i64 enn)] true)), (9, some (.row [.ptr 10 0, .p (.int .i64 k'.t), .p (.int .i64 k'.v), .p (.int .i64 k'.s.i), .p (.int .i64 k'.s.t), .p (.tz k'.s.zc 1 (inP k'.s.conf) k'.s.cc), .p (.tz k'.s.z 1 (u8P k'.s.d) k'.s.c), .p (.tz k'.z 4 (keP k'.es) k'.c)] true)), (8, some (.row [.p (.int .i64 mB), .mp 11, .mp 12, .p (.tz true 5 [] none)] true))] (kFam.mem ((⟨room3, first3, en3, L3, lc3, F3, c3, none, .nil⟩ : WS), some ⟨k'.t, k'.v, ps, pz, pes, pc⟩)).l, 16⟩ : HS)) := callBack (h := (⟨appL [(15, some (.row [.p (.int .i64 k'.t), .p (.int .i64 k'.v)] true)), (12, some (fM L lc)), (11, some (fM L lc)), (10, some (.row [.ptr 8 0, .p (.int .i64 first), .p (.tz true 1 [] none), .p (.tz true 1 [] none), .p (.int .i64 enn)] true)), (9, some (.row [.ptr 10 0, .p (.int .i64 k'.t), .p (.int .i64 k'.v), .p (.int .i64 k'.s.i), .p (.int .i64 k'.s.t), .p (.tz k'.s.zc 1 (inP k'.s.conf) k'.s.cc), .p (.tz k'.s.z 1 (u8P k'.s.d) k'.s.c), .p (.tz k'.z 4 (keP k'.es) k'.c)] true)), (8, some (.row [.p (.int .i64 mB), .mp 11, .mp 12, .p (.tz true 5 [] none)] true))] (kFam.mem ((⟨room3, first3, en3, L3, lc3, F3, c3, none, .nil⟩ : WS), some ⟨k'.t, k'.v, ps, pz, pes, pc⟩)).l, 16⟩ : HS)) (CallS.use (hard_n room3 first3 en3 L3 lc3 F3 c3 ⟨k'.t, k'.v, ps, pz, pes, pc⟩) [(0, 0), (1, 1), (2, 2), (3, 3), (4, 4)] rfl rfl (by repeat' (first | exact True.intro | refine hpC rfl rfl rfl ?_ | refine ⟨⟨_, _, _, rfl, rfl, rfl, @WkO.rfl _⟩, ?_⟩ | refine HeapOK.acc rfl rfl ?_)) rfl rfl) (Nat.le_refl _) (fun b o hb => by
            rcases b with _ | _ | _ | _ | _ | _ | _ | _ | _ | _ | _ | _ | _ | _ | _ | _ | b
            all_goals exact hb)
          have EC : Sym.Call Try.prog base 47 ([.c (.ptr 1 0)].map XV.sv) (HS.sh (⟨appL [(15, some (.row [.p (.int .i64 k'.t), .p (.int .i64 k'.v)] true)), (12, some (fM L lc)), (11, some (fM L lc)), (10, some (.row [.ptr 8 0, .p (.int .i64 first), .p (.tz true 1 [] none), .p (.tz true 1 [] none), .p (.int .i64 enn)] true)), (9, some (.row [.ptr 10 0, .p (.int .i64 k'.t), .p (.int .i64 k'.v), .p (.int .i64 k'.s.i), .p (.int .i64 k'.s.t), .p (.tz k'.s.zc 1 (inP k'.s.conf) k'.s.cc), .p (.tz k'.s.z 1 (u8P k'.s.d) k'.s.c), .p (.tz k'.z 4 (keP k'.es) k'.c)] true)), (8, some (.row [.p (.int .i64 mB), .mp 11, .mp 12, .p (.tz true 5 [] none)] true))] (kFam.mem ((⟨room3, first3, en3, L3, lc3, F3, c3, none, .nil⟩ : WS), some ⟨k'.t, k'.v, ps, pz, pes, pc⟩)).l, 16⟩ : HS)) (XV.c (.p (.tz true 4 (keP (pes.map KE.cl)) none))).sv (HS.sh (⟨appL [(15, some (.row [.p (.int .i64 k'.t), .p (.int .i64 k'.v)] true)), (12, some (fM L lc)), (11, some (fM L lc)), (10, some (.row [.ptr 8 0, .p (.int .i64 first), .p (.tz true 1 [] none), .p (.tz true 1 [] none), .p (.int .i64 enn)] true)), (9, some (.row [.ptr 10 0, .p (.int .i64 k'.t), .p (.int .i64 k'.v), .p (.int .i64 k'.s.i), .p (.int .i64 k'.s.t), .p (.tz k'.s.zc 1 (inP k'.s.conf) k'.s.cc), .p (.tz k'.s.z 1 (u8P k'.s.d) k'.s.c), .p (.tz k'.z 4 (keP k'.es) k'.c)] true)), (8, some (.row [.p (.int .i64 mB), .mp 11, .mp 12, .p (.tz true 5 [] none)] true))] (kFam.mem ((⟨room3, first3, en3, L3, lc3, F3, c3, none, .nil⟩ : WS), some ⟨k'.t, k'.v, ps, pz, pes, pc⟩)).l, 16⟩ : HS)) := callBack (h := (⟨appL [(15, some (.row [.p (.int .i64 k'.t), .p (.int .i64 k'.v)] true)), (12, some (fM L lc)), (11, some (fM L lc)), (10, some (.row [.ptr 8 0, .p (.int .i64 first), .p (.tz true 1 [] none), .p (.tz true 1 [] none), .p (.int .i64 enn)] true)), (9, some (.row [.ptr 10 0, .p (.int .i64 k'.t), .p (.int .i64 k'.v), .p (.int .i64 k'.s.i), .p (.int .i64 k'.s.t), .p (.tz k'.s.zc 1 (inP k'.s.conf) k'.s.cc), .p (.tz k'.s.z 1 (u8P k'.s.d) k'.s.c), .p (.tz k'.z 4 (keP k'.es) k'.c)] true)), (8, some (.row [.p (.int .i64 mB), .mp 11, .mp 12, .p (.tz true 5 [] none)] true))] (kFam.mem ((⟨room3, first3, en3, L3, lc3, F3, c3, none, .nil⟩ : WS), some ⟨k'.t, k'.v, ps, pz, pes, pc⟩)).l, 16⟩ : HS)) (CallS.use (ents_n room3 first3 en3 L3 lc3 F3 c3 ⟨k'.t, k'.v, ps, pz, pes, pc⟩ (by show pes.length ≤ _; omega) (fun e he => by rw [(p6 e he).2]; simp)) [(0, 0), (1, 1), (2, 2), (3, 3), (4, 4)] rfl rfl (by repeat' (first | exact True.intro | refine hpC rfl rfl rfl ?_ | refine ⟨⟨_, _, _, rfl, rfl, rfl, @WkO.rfl _⟩, ?_⟩ | refine HeapOK.acc rfl rfl ?_)) rfl rfl) (Nat.le_refl _) (fun b o hb => by
            rcases b with _ | _ | _ | _ | _ | _ | _ | _ | _ | _ | _ | _ | _ | _ | _ | _ | b
            all_goals exact hb)
          refine M.regF (MF.go rfl ?_)
          refine MF.decN rfl rfl rfl (fun h => absurd rfl h) (fun _ => MF.go rfl ?_)
          refine MF.useCall (h' := (⟨appL [(15, some (.row [.p (.int .i64 k'.t), .p (.int .i64 k'.v)] true)), (12, some (fM L lc)), (11, some (fM L lc)), (10, some (.row [.ptr 8 0, .p (.int .i64 first), .p (.tz true 1 [] none), .p (.tz true 1 [] none), .p (.int .i64 enn)] true)), (9, some (.row [.ptr 10 0, .p (.int .i64 k'.t), .p (.int .i64 k'.v), .p (.int .i64 k'.s.i), .p (.int .i64 k'.s.t), .p (.tz k'.s.zc 1 (inP k'.s.conf) k'.s.cc), .p (.tz k'.s.z 1 (u8P k'.s.d) k'.s.c), .p (.tz k'.z 4 (keP k'.es) k'.c)] true)), (8, some (.row [.p (.int .i64 mB), .mp 11, .mp 12, .p (.tz true 5 [] none)] true))] (kFam.mem ((⟨room3, first3, en3, L3, lc3, F3, c3, none, .nil⟩ : WS), some ⟨k'.t, k'.v, ps, pz, pes, pc⟩)).l, 16⟩ : HS)) rfl HC rfl (MF.go rfl ?_)
          refine MF.decN rfl rfl rfl (fun h => absurd rfl h) (fun _ => MF.go rfl ?_)
          refine MF.useCall (h' := (⟨appL [(15, some (.row [.p (.int .i64 k'.t), .p (.int .i64 k'.v)] true)), (12, some (fM L lc)), (11, some (fM L lc)), (10, some (.row [.ptr 8 0, .p (.int .i64 first), .p (.tz true 1 [] none), .p (.tz true 1 [] none), .p (.int .i64 enn)] true)), (9, some (.row [.ptr 10 0, .p (.int .i64 k'.t), .p (.int .i64 k'.v), .p (.int .i64 k'.s.i), .p (.int .i64 k'.s.t), .p (.tz k'.s.zc 1 (inP k'.s.conf) k'.s.cc), .p (.tz k'.s.z 1 (u8P k'.s.d) k'.s.c), .p (.tz k'.z 4 (keP k'.es) k'.c)] true)), (8, some (.row [.p (.int .i64 mB), .mp 11, .mp 12, .p (.tz true 5 [] none)] true))] (kFam.mem ((⟨room3, first3, en3, L3, lc3, F3, c3, none, .nil⟩ : WS), some ⟨k'.t, k'.v, ps, pz, pes, pc⟩)).l, 16⟩ : HS)) rfl HC rfl (MF.go rfl ?_)
          refine MF.decN rfl rfl rfl (fun h => absurd rfl h) (fun _ => MF.go rfl ?_)
          refine MF.useCall (h' := (⟨appL [(15, some (.row [.p (.int .i64 k'.t), .p (.int .i64 k'.v)] true)), (12, some (fM L lc)), (11, some (fM L lc)), (10, some (.row [.ptr 8 0, .p (.int .i64 first), .p (.tz true 1 [] none), .p (.tz true 1 [] none), .p (.int .i64 enn)] true)), (9, some (.row [.ptr 10 0, .p (.int .i64 k'.t), .p (.int .i64 k'.v), .p (.int .i64 k'.s.i), .p (.int .i64 k'.s.t), .p (.tz k'.s.zc 1 (inP k'.s.conf) k'.s.cc), .p (.tz k'.s.z 1 (u8P k'.s.d) k'.s.c), .p (.tz k'.z 4 (keP k'.es) k'.c)] true)), (8, some (.row [.p (.int .i64 mB), .mp 11, .mp 12, .p (.tz true 5 [] none)] true))] (kFam.mem ((⟨room3, first3, en3, L3, lc3, F3, c3, none, .nil⟩ : WS), some ⟨k'.t, k'.v, ps, pz, pes, pc⟩)).l, 16⟩ : HS)) rfl EC rfl (MF.go rfl ?_)
          refine MF.nil mixed (Fnl.rest ⟨⟨.inl rfl, .inl rfl, trivial⟩, ⟨.inr ⟨rfl, rfl⟩, trivial⟩, trivial, trivial⟩) rfl ⟨⟨stepX_ok rfl, trivial⟩, ⟨stepX_ok rfl, trivial⟩, trivial⟩ (M.go rfl ?_)
          have hpl : ((keP (pes.map KE.cl)).length : Int) = IntKind.i64.wrap ((k'.es.length : Int) + 1 - 1) := by
            rw [wr64 (by omega) (by omega)]
            simp [keP, p4]
          refine M.condN rfl (fun h => absurd hpl h) (fun _ => ?_)
          refine M.go rfl ?_
          rw [hw]
          exact M.again (XH.ren [(0, 8), (1, 9), (2, 10), (3, 11), (4, 12), (8, 15)] hih rfl (by repeat' (first | exact True.intro | refine evC rfl rfl Wk.rfl ?_ | refine evC (accV_ren rfl) rfl Wk.rfl ?_ | refine evC (accV_ren rfl) rfl Wk.acc0 ?_ | refine evC rfl rfl Wk.uncap ?_ | refine evC rfl rfl Wk.nil ?_)) (by repeat' (first | exact True.intro | refine hpC rfl rfl rfl ?_ | refine ⟨⟨_, _, _, rfl, rfl, rfl, @WkO.rfl _⟩, ?_⟩ | refine HeapOK.acc rfl rfl ?_)))
        · refine M.go rfl ?_
          have HC : Sym.Call Try.prog base 46 ([.c (.ptr 1 0)].map XV.sv) (HS.sh (⟨appL [(15, some (.row [.p (.int .i64 k'.t), .p (.int .i64 k'.v)] true)), (12, some (fM L lc)), (11, some (fM L lc)), (10, some (.row [.ptr 8 0, .p (.int .i64 first), .p (.tz true 1 [] none), .p (.tz true 1 [] none), .p (.int .i64 enn)] true)), (9, some (.row [.ptr 10 0, .p (.int .i64 k'.t), .p (.int .i64 k'.v), .p (.int .i64 k'.s.i), .p (.int .i64 k'.s.t), .p (.tz k'.s.zc 1 (inP k'.s.conf) k'.s.cc), .p (.tz k'.s.z 1 (u8P k'.s.d) k'.s.c), .p (.tz k'.z 4 (keP k'.es) k'.c)] true)), (8, some (.row [.p (.int .i64 mB), .mp 11, .mp 12, .p (.tz true 5 [] none)] true))] (kFam.mem ((⟨room3, first3, en3, L3, lc3, F3, c3, none, .own o3 m3 X3 Y3⟩ : WS), some ⟨k'.t, k'.v, ps, pz, pes, pc⟩)).l, 16⟩ : HS)) (XV.agg [.p (.int .i64 k'.t), .p (.int .i64 k'.v)]).sv (HS.sh (⟨appL [(15, some (.row [.p (.int .i64 k'.t), .p (.int .i64 k'.v)] true)), (12, some (fM L lc)), (11, some (fM L lc)), (10, some (.row [.ptr 8 0, .p (.int .i64 first), .p (.tz true 1 [] none), .p (.tz true 1 [] none), .p (.int .i64 enn)] true)), (9, some (.row [.ptr 10 0, .p (.int .i64 k'.t), .p (.int .i64 k'.v), .p (.int .i64 k'.s.i), .p (.int .i64 k'.s.t), .p (.tz k'.s.zc 1 (inP k'.s.conf) k'.s.cc), .p (.tz k'.s.z 1 (u8P k'.s.d) k'.s.c), .p (.tz k'.z 4 (keP k'.es) k'.c)] true)), (8, some (.row [.p (.int .i64 mB), .mp 11, .mp 12, .p (.tz true 5 [] none)] true))] (kFam.mem ((⟨room3, first3, en3, L3, lc3, F3, c3, none, .own o3 m3 X3 Y3⟩ : WS), some ⟨k'.t, k'.v, ps, pz, pes, pc⟩)).l, 16⟩ : HS)) := callBack (h := (⟨appL [(15, some (.row [.p (.int .i64 k'.t), .p (.int .i64 k'.v)] true)), (12, some (fM L lc)), (11, some (fM L lc)), (10, some (.row [.ptr 8 0, .p (.int .i64 first), .p (.tz true 1 [] none), .p (.tz true 1 [] none), .p (.int .i64 enn)] true)), (9, some (.row [.ptr 10 0, .p (.int .i64 k'.t), .p (.int .i64 k'.v), .p (.int .i64 k'.s.i), .p (.int .i64 k'.s.t), .p (.tz k'.s.zc 1 (inP k'.s.conf) k'.s.cc), .p (.tz k'.s.z 1 (u8P k'.s.d) k'.s.c), .p (.tz k'.z 4 (keP k'.es) k'.c)] true)), (8, some (.row [.p (.int .i64 mB), .mp 11, .mp 12, .p (.tz true 5 [] none)] true))] (kFam.mem ((⟨room3, first3, en3, L3, lc3, F3, c3, none, .own o3 m3 X3 Y3⟩ : WS), some ⟨k'.t, k'.v, ps, pz, pes, pc⟩)).l, 16⟩ : HS)) (CallS.use (hard_o room3 first3 en3 L3 lc3 F3 c3 o3 m3 X3 Y3 ⟨k'.t, k'.v, ps, pz, pes, pc⟩) [(0, 0), (1, 1), (2, 2), (3, 3), (4, 4), (6, 6), (7, 7)] rfl rfl (by repeat' (first | exact True.intro | refine hpC rfl rfl rfl ?_ | refine ⟨⟨_, _, _, rfl, rfl, rfl, @WkO.rfl _⟩, ?_⟩ | refine HeapOK.acc rfl rfl ?_)) rfl rfl) (Nat.le_refl _) (fun b o hb => by
            rcases b with _ | _ | _ | _ | _ | _ | _ | _ | _ | _ | _ | _ | _ | _ | _ | _ | b
            all_goals exact hb)
          have EC : Sym.Call Try.prog base 47 ([.c (.ptr 1 0)].map XV.sv) (HS.sh (⟨appL [(15, some (.row [.p (.int .i64 k'.t), .p (.int .i64 k'.v)] true)), (12, some (fM L lc)), (11, some (fM L lc)), (10, some (.row [.ptr 8 0, .p (.int .i64 first), .p (.tz true 1 [] none), .p (.tz true 1 [] none), .p (.int .i64 enn)] true)), (9, some (.row [.ptr 10 0, .p (.int .i64 k'.t), .p (.int .i64 k'.v), .p (.int .i64 k'.s.i), .p (.int .i64 k'.s.t), .p (.tz k'.s.zc 1 (inP k'.s.conf) k'.s.cc), .p (.tz k'.s.z 1 (u8P k'.s.d) k'.s.c), .p (.tz k'.z 4 (keP k'.es) k'.c)] true)), (8, some (.row [.p (.int .i64 mB), .mp 11, .mp 12, .p (.tz true 5 [] none)] true))] (kFam.mem ((⟨room3, first3, en3, L3, lc3, F3, c3, none, .own o3 m3 X3 Y3⟩ : WS), some ⟨k'.t, k'.v, ps, pz, pes, pc⟩)).l, 16⟩ : HS)) (XV.c (.p (.tz true 4 (keP (pes.map KE.cl)) none))).sv (HS.sh (⟨appL [(15, some (.row [.p (.int .i64 k'.t), .p (.int .i64 k'.v)] true)), (12, some (fM L lc)), (11, some (fM L lc)), (10, some (.row [.ptr 8 0, .p (.int .i64 first), .p (.tz true 1 [] none), .p (.tz true 1 [] none), .p (.int .i64 enn)] true)), (9, some (.row [.ptr 10 0, .p (.int .i64 k'.t), .p (.int .i64 k'.v), .p (.int .i64 k'.s.i), .p (.int .i64 k'.s.t), .p (.tz k'.s.zc 1 (inP k'.s.conf) k'.s.cc), .p (.tz k'.s.z 1 (u8P k'.s.d) k'.s.c), .p (.tz k'.z 4 (keP k'.es) k'.c)] true)), (8, some (.row [.p (.int .i64 mB), .mp 11, .mp 12, .p (.tz true 5 [] none)] true))] (kFam.mem ((⟨room3, first3, en3, L3, lc3, F3, c3, none, .own o3 m3 X3 Y3⟩ : WS), some ⟨k'.t, k'.v, ps, pz, pes, pc⟩)).l, 16⟩ : HS)) := callBack (h := (⟨appL [(15, some (.row [.p (.int .i64 k'.t), .p (.int .i64 k'.v)] true)), (12, some (fM L lc)), (11, some (fM L lc)), (10, some (.row [.ptr 8 0, .p (.int .i64 first), .p (.tz true 1 [] none), .p (.tz true 1 [] none), .p (.int .i64 enn)] true)), (9, some (.row [.ptr 10 0, .p (.int .i64 k'.t), .p (.int .i64 k'.v), .p (.int .i64 k'.s.i), .p (.int .i64 k'.s.t), .p (.tz k'.s.zc 1 (inP k'.s.conf) k'.s.cc), .p (.tz k'.s.z 1 (u8P k'.s.d) k'.s.c), .p (.tz k'.z 4 (keP k'.es) k'.c)] true)), (8, some (.row [.p (.int .i64 mB), .mp 11, .mp 12, .p (.tz true 5 [] none)] true))] (kFam.mem ((⟨room3, first3, en3, L3, lc3, F3, c3, none, .own o3 m3 X3 Y3⟩ : WS), some ⟨k'.t, k'.v, ps, pz, pes, pc⟩)).l, 16⟩ : HS)) (CallS.use (ents_o room3 first3 en3 L3 lc3 F3 c3 o3 m3 X3 Y3 ⟨k'.t, k'.v, ps, pz, pes, pc⟩ (by show pes.length ≤ _; omega) (fun e he => by rw [(p6 e he).2]; simp)) [(0, 0), (1, 1), (2, 2), (3, 3), (4, 4), (6, 6), (7, 7)] rfl rfl (by repeat' (first | exact True.intro | refine hpC rfl rfl rfl ?_ | refine ⟨⟨_, _, _, rfl, rfl, rfl, @WkO.rfl _⟩, ?_⟩ | refine HeapOK.acc rfl rfl ?_)) rfl rfl) (Nat.le_refl _) (fun b o hb => by
            rcases b with _ | _ | _ | _ | _ | _ | _ | _ | _ | _ | _ | _ | _ | _ | _ | _ | b
            all_goals exact hb)
          refine M.regF (MF.go rfl ?_)
          refine MF.decN rfl rfl rfl (fun h => absurd rfl h) (fun _ => MF.go rfl ?_)
          refine MF.useCall (h' := (⟨appL [(15, some (.row [.p (.int .i64 k'.t), .p (.int .i64 k'.v)] true)), (12, some (fM L lc)), (11, some (fM L lc)), (10, some (.row [.ptr 8 0, .p (.int .i64 first), .p (.tz true 1 [] none), .p (.tz true 1 [] none), .p (.int .i64 enn)] true)), (9, some (.row [.ptr 10 0, .p (.int .i64 k'.t), .p (.int .i64 k'.v), .p (.int .i64 k'.s.i), .p (.int .i64 k'.s.t), .p (.tz k'.s.zc 1 (inP k'.s.conf) k'.s.cc), .p (.tz k'.s.z 1 (u8P k'.s.d) k'.s.c), .p (.tz k'.z 4 (keP k'.es) k'.c)] true)), (8, some (.row [.p (.int .i64 mB), .mp 11, .mp 12, .p (.tz true 5 [] none)] true))] (kFam.mem ((⟨room3, first3, en3, L3, lc3, F3, c3, none, .own o3 m3 X3 Y3⟩ : WS), some ⟨k'.t, k'.v, ps, pz, pes, pc⟩)).l, 16⟩ : HS)) rfl HC rfl (MF.go rfl ?_)
          refine MF.decN rfl rfl rfl (fun h => absurd rfl h) (fun _ => MF.go rfl ?_)
          refine MF.useCall (h' := (⟨appL [(15, some (.row [.p (.int .i64 k'.t), .p (.int .i64 k'.v)] true)), (12, some (fM L lc)), (11, some (fM L lc)), (10, some (.row [.ptr 8 0, .p (.int .i64 first), .p (.tz true 1 [] none), .p (.tz true 1 [] none), .p (.int .i64 enn)] true)), (9, some (.row [.ptr 10 0, .p (.int .i64 k'.t), .p (.int .i64 k'.v), .p (.int .i64 k'.s.i), .p (.int .i64 k'.s.t), .p (.tz k'.s.zc 1 (inP k'.s.conf) k'.s.cc), .p (.tz k'.s.z 1 (u8P k'.s.d) k'.s.c), .p (.tz k'.z 4 (keP k'.es) k'.c)] true)), (8, some (.row [.p (.int .i64 mB), .mp 11, .mp 12, .p (.tz true 5 [] none)] true))] (kFam.mem ((⟨room3, first3, en3, L3, lc3, F3, c3, none, .own o3 m3 X3 Y3⟩ : WS), some ⟨k'.t, k'.v, ps, pz, pes, pc⟩)).l, 16⟩ : HS)) rfl HC rfl (MF.go rfl ?_)
          refine MF.decN rfl rfl rfl (fun h => absurd rfl h) (fun _ => MF.go rfl ?_)
          refine MF.useCall (h' := (⟨appL [(15, some (.row [.p (.int .i64 k'.t), .p (.int .i64 k'.v)] true)), (12, some (fM L lc)), (11, some (fM L lc)), (10, some (.row [.ptr 8 0, .p (.int .i64 first), .p (.tz true 1 [] none), .p (.tz true 1 [] none), .p (.int .i64 enn)] true)), (9, some (.row [.ptr 10 0, .p (.int .i64 k'.t), .p (.int .i64 k'.v), .p (.int .i64 k'.s.i), .p (.int .i64 k'.s.t), .p (.tz k'.s.zc 1 (inP k'.s.conf) k'.s.cc), .p (.tz k'.s.z 1 (u8P k'.s.d) k'.s.c), .p (.tz k'.z 4 (keP k'.es) k'.c)] true)), (8, some (.row [.p (.int .i64 mB), .mp 11, .mp 12, .p (.tz true 5 [] none)] true))] (kFam.mem ((⟨room3, first3, en3, L3, lc3, F3, c3, none, .own o3 m3 X3 Y3⟩ : WS), some ⟨k'.t, k'.v, ps, pz, pes, pc⟩)).l, 16⟩ : HS)) rfl EC rfl (MF.go rfl ?_)
          refine MF.nil mixed (Fnl.rest ⟨⟨.inl rfl, .inl rfl, trivial⟩, ⟨.inr ⟨rfl, rfl⟩, trivial⟩, trivial, trivial⟩) rfl ⟨⟨stepX_ok rfl, trivial⟩, ⟨stepX_ok rfl, trivial⟩, trivial⟩ (M.go rfl ?_)
          have hpl : ((keP (pes.map KE.cl)).length : Int) = IntKind.i64.wrap ((k'.es.length : Int) + 1 - 1) := by
            rw [wr64 (by omega) (by omega)]
            simp [keP, p4]
          refine M.condN rfl (fun h => absurd hpl h) (fun _ => ?_)
          refine M.go rfl ?_
          rw [hw]
          exact M.again (XH.ren [(0, 8), (1, 9), (2, 10), (3, 11), (4, 12), (8, 15)] hih rfl (by repeat' (first | exact True.intro | refine evC rfl rfl Wk.rfl ?_ | refine evC (accV_ren rfl) rfl Wk.rfl ?_ | refine evC (accV_ren rfl) rfl Wk.acc0 ?_ | refine evC rfl rfl Wk.uncap ?_ | refine evC rfl rfl Wk.nil ?_)) (by repeat' (first | exact True.intro | refine hpC rfl rfl rfl ?_ | refine ⟨⟨_, _, _, rfl, rfl, rfl, @WkO.rfl _⟩, ?_⟩ | refine HeapOK.acc rfl rfl ?_)))
        · cases g6
        · cases g6
        · cases g6
      · obtain rfl : L = F := hL.1
        obtain rfl : lc = c := hL.2
        obtain rfl : room = mB := hroom
        refine M.use trivial (crash0_spec mB L lc L lc (-1) 0) [(0, 0), (1, 3), (2, 4)] rfl rfl rfl (by repeat' (first | exact True.intro | refine hpC rfl rfl rfl ?_ | refine ⟨⟨_, _, _, rfl, rfl, rfl, @WkO.rfl _⟩, ?_⟩ | refine HeapOK.acc rfl rfl ?_)) rfl rfl ?_
        refine M.shO (Sh.ren (e' := [(0, .c (.p (.tz z0 1 (inP T) c0))), (1, .c (.p (.tz z1 1 (inP V) c1))), (2, .c (.p (.bs en))), (8, .c (.ptr 8 0)), (9, .c (.ptr 9 0)), (11, .c (.ptr 15 0)), (12, .c (.p (.int .i64 ((k'.es.length : Int) + 1)))), (13, .c (.p (.int .i64 i))), (104, .c (.ptr 0 0))]) (h' := ⟨appL [(15, some (.row [.p (.int .i64 k'.t), .p (.int .i64 k'.v)] true)), (14, some (.els 1 Y)), (13, some (.els 1 X)), (12, some (fM L lc)), (11, some (fM L lc)), (10, some (.row [.ptr 8 0, .p (.int .i64 first), .sl 13 o m 1 none, .sl 14 o m 1 none, .p (.int .i64 enn)] true)), (9, some (.row [.ptr 10 0, .p (.int .i64 k'.t), .p (.int .i64 k'.v), .p (.int .i64 k'.s.i), .p (.int .i64 k'.s.t), .p (.tz k'.s.zc 1 (inP k'.s.conf) k'.s.cc), .p (.tz k'.s.z 1 (u8P k'.s.d) k'.s.c), .p (.tz k'.z 4 (keP k'.es) k'.c)] true)), (8, some (.row [.p (.int .i64 mB), .mp 11, .mp 12, .p (.tz true 5 [] none)] true))] (kFam.mem ((⟨mB, 0, 0, L, lc, L, lc, none, .no⟩ : WS), none)).l, 16⟩) [(0, 9), (3, 10), (4, 11), (8, 0), (9, 1), (10, 2), (11, 3), (12, 4), (15, 8), (13, 6), (14, 7)] rfl (by repeat' (first | exact True.intro | refine evC rfl rfl Wk.rfl ?_ | refine evC (accV_ren rfl) rfl Wk.rfl ?_ | refine evC (accV_ren rfl) rfl Wk.acc0 ?_ | refine evC rfl rfl Wk.uncap ?_ | refine evC rfl rfl Wk.nil ?_)) (by repeat' (first | exact True.intro | refine hpC rfl rfl rfl ?_ | refine ⟨⟨_, _, _, rfl, rfl, rfl, @WkO.rfl _⟩, ?_⟩ | refine HeapOK.acc rfl rfl ?_))) ?_
        refine M.useR (s := (((⟨mB, 0, 0, L, lc, L, lc, none, .no⟩ : WS), none) : WS × Option KVl)) kOK [(15, some (.row [.p (.int .i64 k'.t), .p (.int .i64 k'.v)] true)), (14, some (.els 1 Y)), (13, some (.els 1 X)), (12, some (fM L lc)), (11, some (fM L lc)), (10, some (.row [.ptr 8 0, .p (.int .i64 first), .sl 13 o m 1 none, .sl 14 o m 1 none, .p (.int .i64 enn)] true)), (9, some (.row [.ptr 10 0, .p (.int .i64 k'.t), .p (.int .i64 k'.v), .p (.int .i64 k'.s.i), .p (.int .i64 k'.s.t), .p (.tz k'.s.zc 1 (inP k'.s.conf) k'.s.cc), .p (.tz k'.s.z 1 (u8P k'.s.d) k'.s.c), .p (.tz k'.z 4 (keP k'.es) k'.c)] true)), (8, some (.row [.p (.int .i64 mB), .mp 11, .mp 12, .p (.tz true 5 [] none)] true))] [(0, .c (.p (.tz z0 1 (inP T) c0))), (1, .c (.p (.tz z1 1 (inP V) c1))), (2, .c (.p (.bs en))), (8, .c (.ptr 8 0)), (9, .c (.ptr 9 0)), (11, .c (.ptr 15 0)), (12, .c (.p (.int .i64 ((k'.es.length : Int) + 1)))), (13, .c (.p (.int .i64 i)))] trivial (K_open0 0 0 L lc L lc 1 Bs' ⟨k'.t, k'.v, ps, pz, pes, pc⟩ (fun _ => hok) hfile hszz p1) rfl ⟨⟨rfl, rfl⟩, ⟨rfl, rfl⟩, ⟨rfl, rfl⟩, ⟨rfl, rfl⟩, ⟨rfl, rfl⟩, ⟨rfl, rfl⟩, ⟨rfl, rfl⟩, ⟨rfl, rfl⟩, trivial⟩ rfl rfl rfl rfl (fun r s' h => by rw [h.1]; rfl) (by repeat' (first | exact True.intro | refine evC rfl rfl Wk.rfl ?_ | refine evC (accV_ren rfl) rfl Wk.rfl ?_ | refine evC (accV_ren rfl) rfl Wk.acc0 ?_ | refine evC rfl rfl Wk.uncap ?_ | refine evC rfl rfl Wk.nil ?_)) (fun r s2 h => ?_)
        obtain ⟨rfl, s3, h2, g1, -, -, -, -, g6⟩ := h
        rw [h2]
        have g1 := g1.lg
        clear h2
        obtain ⟨room3, first3, en3, L3, lc3, F3, c3, _ | ⟨w3, W3⟩, _ | _ | ⟨o3, m3, X3, Y3⟩⟩ := s3
        · exact g1.elim
        · refine M.go rfl ?_
          have HC : Sym.Call Try.prog base 46 ([.c (.ptr 1 0)].map XV.sv) (HS.sh (⟨appL [(15, some (.row [.p (.int .i64 k'.t), .p (.int .i64 k'.v)] true)), (14, some (.els 1 Y)), (13, some (.els 1 X)), (12, some (fM L lc)), (11, some (fM L lc)), (10, some (.row [.ptr 8 0, .p (.int .i64 first), .sl 13 o m 1 none, .sl 14 o m 1 none, .p (.int .i64 enn)] true)), (9, some (.row [.ptr 10 0, .p (.int .i64 k'.t), .p (.int .i64 k'.v), .p (.int .i64 k'.s.i), .p (.int .i64 k'.s.t), .p (.tz k'.s.zc 1 (inP k'.s.conf) k'.s.cc), .p (.tz k'.s.z 1 (u8P k'.s.d) k'.s.c), .p (.tz k'.z 4 (keP k'.es) k'.c)] true)), (8, some (.row [.p (.int .i64 mB), .mp 11, .mp 12, .p (.tz true 5 [] none)] true))] (kFam.mem ((⟨room3, first3, en3, L3, lc3, F3, c3, none, .nil⟩ : WS), some ⟨k'.t, k'.v, ps, pz, pes, pc⟩)).l, 16⟩ : HS)) (XV.agg [.p (.int .i64 k'.t), .p (.int .i64 k'.v)]).sv (HS.sh (⟨appL [(15, some (.row [.p (.int .i64 k'.t), .p (.int .i64 k'.v)] true)), (14, some (.els 1 Y)), (13, some (.els 1 X)), (12, some (fM L lc)), (11, some (fM L lc)), (10, some (.row [.ptr 8 0, .p (.int .i64 first), .sl 13 o m 1 none, .sl 14 o m 1 none, .p (.int .i64 enn)] true)), (9, some (.row [.ptr 10 0, .p (.int .i64 k'.t), .p (.int .i64 k'.v), .p (.int .i64 k'.s.i), .p (.int .i64 k'.s.t), .p (.tz k'.s.zc 1 (inP k'.s.conf) k'.s.cc), .p (.tz k'.s.z 1 (u8P k'.s.d) k'.s.c), .p (.tz k'.z 4 (keP k'.es) k'.c)] true)), (8, some (.row [.p (.int .i64 mB), .mp 11, .mp 12, .p (.tz true 5 [] none)] true))] (kFam.mem ((⟨room3, first3, en3, L3, lc3, F3, c3, none, .nil⟩ : WS), some ⟨k'.t, k'.v, ps, pz, pes, pc⟩)).l, 16⟩ : HS)) := callBack (h := (⟨appL [(15, some (.row [.p (.int .i64 k'.t), .p (.int .i64 k'.v)] true)), (14, some (.els 1 Y)), (13, some (.els 1 X)), (12, some (fM L lc)), (11, some (fM L lc)), (10, some (.row [.ptr 8 0, .p (.int .i64 first), .sl 13 o m 1 none, .sl 14 o m 1 none, .p (.int .i64 enn)] true)), (9, some (.row [.ptr 10 0, .p (.int .i64 k'.t), .p (.int .i64 k'.v), .p (.int .i64 k'.s.i), .p (.int .i64 k'.s.t), .p (.tz k'.s.zc 1 (inP k'.s.conf) k'.s.cc), .p (.tz k'.s.z 1 (u8P k'.s.d) k'.s.c), .p (.tz k'.z 4 (keP k'.es) k'.c)] true)), (8, some (.row [.p (.int .i64 mB), .mp 11, .mp 12, .p (.tz true 5 [] none)] true))] (kFam.mem ((⟨room3, first3, en3, L3, lc3, F3, c3, none, .nil⟩ : WS), some ⟨k'.t, k'.v, ps, pz, pes, pc⟩)).l, 16⟩ : HS)) (CallS.use (hard_n room3 first3 en3 L3 lc3 F3 c3 ⟨k'.t, k'.v, ps, pz, pes, pc⟩) [(0, 0), (1, 1), (2, 2), (3, 3), (4, 4)] rfl rfl (by repeat' (first | exact True.intro | refine hpC rfl rfl rfl ?_ | refine ⟨⟨_, _, _, rfl, rfl, rfl, @WkO.rfl _⟩, ?_⟩ | refine HeapOK.acc rfl rfl ?_)) rfl rfl) (Nat.le_refl _) (fun b o hb => by
            rcases b with _ | _ | _ | _ | _ | _ | _ | _ | _ | _ | _ | _ | _ | _ | _ | _ | b
            all_goals exact hb)
          have EC : Sym.Call Try.prog base 47 ([.c (.ptr 1 0)].map XV.sv) (HS.sh (⟨appL [(15, some (.row [.p (.int .i64 k'.t), .p (.int .i64 k'.v)] true)), (14, some (.els 1 Y)), (13, some (.els 1 X)), (12, some (fM L lc)), (11, some (fM L lc)), (10, some (.row [.ptr 8 0, .p (.int .i64 first), .sl 13 o m 1 none, .sl 14 o m 1 none, .p (.int .i64 enn)] true)), (9, some (.row [.ptr 10 0, .p (.int .i64 k'.t), .p (.int .i64 k'.v), .p (.int .i64 k'.s.i), .p (.int .i64 k'.s.t), .p (.tz k'.s.zc 1 (inP k'.s.conf) k'.s.cc), .p (.tz k'.s.z 1 (u8P k'.s.d) k'.s.c), .p (.tz k'.z 4 (keP k'.es) k'.c)] true)), (8, some (.row [.p (.int .i64 mB), .mp 11, .mp 12, .p (.tz true 5 [] none)] true))] (kFam.mem ((⟨room3, first3, en3, L3, lc3, F3, c3, none, .nil⟩ : WS), some ⟨k'.t, k'.v, ps, pz, pes, pc⟩)).l, 16⟩ : HS)) (XV.c (.p (.tz true 4 (keP (pes.map KE.cl)) none))).sv (HS.sh (⟨appL [(15, some (.row [.p (.int .i64 k'.t), .p (.int .i64 k'.v)] true)), (14, some (.els 1 Y)), (13, some (.els 1 X)), (12, some (fM L lc)), (11, some (fM L lc)), (10, some (.row [.ptr 8 0, .p (.int .i64 first), .sl 13 o m 1 none, .sl 14 o m 1 none, .p (.int .i64 enn)] true)), (9, some (.row [.ptr 10 0, .p (.int .i64 k'.t), .p (.int .i64 k'.v), .p (.int .i64 k'.s.i), .p (.int .i64 k'.s.t), .p (.tz k'.s.zc 1 (inP k'.s.conf) k'.s.cc), .p (.tz k'.s.z 1 (u8P k'.s.d) k'.s.c), .p (.tz k'.z 4 (keP k'.es) k'.c)] true)), (8, some (.row [.p (.int .i64 mB), .mp 11, .mp 12, .p (.tz true 5 [] none)] true))] (kFam.mem ((⟨room3, first3, en3, L3, lc3, F3, c3, none, .nil⟩ : WS), some ⟨k'.t, k'.v, ps, pz, pes, pc⟩)).l, 16⟩ : HS)) := callBack (h := (⟨appL [(15, some (.row [.p (.int .i64 k'.t), .p (.int .i64 k'.v)] true)), (14, some (.els 1 Y)), (13, some (.els 1 X)), (12, some (fM L lc)), (11, some (fM L lc)), (10, some (.row [.ptr 8 0, .p (.int .i64 first), .sl 13 o m 1 none, .sl 14 o m 1 none, .p (.int .i64 enn)] true)), (9, some (.row [.ptr 10 0, .p (.int .i64 k'.t), .p (.int .i64 k'.v), .p (.int .i64 k'.s.i), .p (.int .i64 k'.s.t), .p (.tz k'.s.zc 1 (inP k'.s.conf) k'.s.cc), .p (.tz k'.s.z 1 (u8P k'.s.d) k'.s.c), .p (.tz k'.z 4 (keP k'.es) k'.c)] true)), (8, some (.row [.p (.int .i64 mB), .mp 11, .mp 12, .p (.tz true 5 [] none)] true))] (kFam.mem ((⟨room3, first3, en3, L3, lc3, F3, c3, none, .nil⟩ : WS), some ⟨k'.t, k'.v, ps, pz, pes, pc⟩)).l, 16⟩ : HS)) (CallS.use (ents_n room3 first3 en3 L3 lc3 F3 c3 ⟨k'.t, k'.v, ps, pz, pes, pc⟩ (by show pes.length ≤ _; omega) (fun e he => by rw [(p6 e he).2]; simp)) [(0, 0), (1, 1), (2, 2), (3, 3), (4, 4)] rfl rfl (by repeat' (first | exact True.intro | refine hpC rfl rfl rfl ?_ | refine ⟨⟨_, _, _, rfl, rfl, rfl, @WkO.rfl _⟩, ?_⟩ | refine HeapOK.acc rfl rfl ?_)) rfl rfl) (Nat.le_refl _) (fun b o hb => by
            rcases b with _ | _ | _ | _ | _ | _ | _ | _ | _ | _ | _ | _ | _ | _ | _ | _ | b
            all_goals exact hb)
          refine M.regF (MF.go rfl ?_)
          refine MF.decN rfl rfl rfl (fun h => absurd rfl h) (fun _ => MF.go rfl ?_)
          refine MF.useCall (h' := (⟨appL [(15, some (.row [.p (.int .i64 k'.t), .p (.int .i64 k'.v)] true)), (14, some (.els 1 Y)), (13, some (.els 1 X)), (12, some (fM L lc)), (11, some (fM L lc)), (10, some (.row [.ptr 8 0, .p (.int .i64 first), .sl 13 o m 1 none, .sl 14 o m 1 none, .p (.int .i64 enn)] true)), (9, some (.row [.ptr 10 0, .p (.int .i64 k'.t), .p (.int .i64 k'.v), .p (.int .i64 k'.s.i), .p (.int .i64 k'.s.t), .p (.tz k'.s.zc 1 (inP k'.s.conf) k'.s.cc), .p (.tz k'.s.z 1 (u8P k'.s.d) k'.s.c), .p (.tz k'.z 4 (keP k'.es) k'.c)] true)), (8, some (.row [.p (.int .i64 mB), .mp 11, .mp 12, .p (.tz true 5 [] none)] true))] (kFam.mem ((⟨room3, first3, en3, L3, lc3, F3, c3, none, .nil⟩ : WS), some ⟨k'.t, k'.v, ps, pz, pes, pc⟩)).l, 16⟩ : HS)) rfl HC rfl (MF.go rfl ?_)
          refine MF.decN rfl rfl rfl (fun h => absurd rfl h) (fun _ => MF.go rfl ?_)
          refine MF.useCall (h' := (⟨appL [(15, some (.row [.p (.int .i64 k'.t), .p (.int .i64 k'.v)] true)), (14, some (.els 1 Y)), (13, some (.els 1 X)), (12, some (fM L lc)), (11, some (fM L lc)), (10, some (.row [.ptr 8 0, .p (.int .i64 first), .sl 13 o m 1 none, .sl 14 o m 1 none, .p (.int .i64 enn)] true)), (9, some (.row [.ptr 10 0, .p (.int .i64 k'.t), .p (.int .i64 k'.v), .p (.int .i64 k'.s.i), .p (.int .i64 k'.s.t), .p (.tz k'.s.zc 1 (inP k'.s.conf) k'.s.cc), .p (.tz k'.s.z 1 (u8P k'.s.d) k'.s.c), .p (.tz k'.z 4 (keP k'.es) k'.c)] true)), (8, some (.row [.p (.int .i64 mB), .mp 11, .mp 12, .p (.tz true 5 [] none)] true))] (kFam.mem ((⟨room3, first3, en3, L3, lc3, F3, c3, none, .nil⟩ : WS), some ⟨k'.t, k'.v, ps, pz, pes, pc⟩)).l, 16⟩ : HS)) rfl HC rfl (MF.go rfl ?_)
          refine MF.decN rfl rfl rfl (fun h => absurd rfl h) (fun _ => MF.go rfl ?_)
          refine MF.useCall (h' := (⟨appL [(15, some (.row [.p (.int .i64 k'.t), .p (.int .i64 k'.v)] true)), (14, some (.els 1 Y)), (13, some (.els 1 X)), (12, some (fM L lc)), (11, some (fM L lc)), (10, some (.row [.ptr 8 0, .p (.int .i64 first), .sl 13 o m 1 none, .sl 14 o m 1 none, .p (.int .i64 enn)] true)), (9, some (.row [.ptr 10 0, .p (.int .i64 k'.t), .p (.int .i64 k'.v), .p (.int .i64 k'.s.i), .p (.int .i64 k'.s.t), .p (.tz k'.s.zc 1 (inP k'.s.conf) k'.s.cc), .p (.tz k'.s.z 1 (u8P k'.s.d) k'.s.c), .p (.tz k'.z 4 (keP k'.es) k'.c)] true)), (8, some (.row [.p (.int .i64 mB), .mp 11, .mp 12, .p (.tz true 5 [] none)] true))] (kFam.mem ((⟨room3, first3, en3, L3, lc3, F3, c3, none, .nil⟩ : WS), some ⟨k'.t, k'.v, ps, pz, pes, pc⟩)).l, 16⟩ : HS)) rfl EC rfl (MF.go rfl ?_)
          refine MF.nil mixed (Fnl.rest ⟨⟨.inl rfl, .inl rfl, trivial⟩, ⟨.inr ⟨rfl, rfl⟩, trivial⟩, trivial, trivial⟩) rfl ⟨⟨stepX_ok rfl, trivial⟩, ⟨stepX_ok rfl, trivial⟩, trivial⟩ (M.go rfl ?_)
          have hpl : ((keP (pes.map KE.cl)).length : Int) = IntKind.i64.wrap ((k'.es.length : Int) + 1 - 1) := by
            rw [wr64 (by omega) (by omega)]
            simp [keP, p4]
          refine M.condN rfl (fun h => absurd hpl h) (fun _ => ?_)
          refine M.go rfl ?_
          rw [hw]
          exact M.again (XH.ren [(0, 8), (1, 9), (2, 10), (3, 11), (4, 12), (8, 15), (6, 13), (7, 14)] hih rfl (by repeat' (first | exact True.intro | refine evC rfl rfl Wk.rfl ?_ | refine evC (accV_ren rfl) rfl Wk.rfl ?_ | refine evC (accV_ren rfl) rfl Wk.acc0 ?_ | refine evC rfl rfl Wk.uncap ?_ | refine evC rfl rfl Wk.nil ?_)) (by repeat' (first | exact True.intro | refine hpC rfl rfl rfl ?_ | refine ⟨⟨_, _, _, rfl, rfl, rfl, @WkO.rfl _⟩, ?_⟩ | refine HeapOK.acc rfl rfl ?_)))
        · refine M.go rfl ?_
          have HC : Sym.Call Try.prog base 46 ([.c (.ptr 1 0)].map XV.sv) (HS.sh (⟨appL [(15, some (.row [.p (.int .i64 k'.t), .p (.int .i64 k'.v)] true)), (14, some (.els 1 Y)), (13, some (.els 1 X)), (12, some (fM L lc)), (11, some (fM L lc)), (10, some (.row [.ptr 8 0, .p (.int .i64 first), .sl 13 o m 1 none, .sl 14 o m 1 none, .p (.int .i64 enn)] true)), (9, some (.row [.ptr 10 0, .p (.int .i64 k'.t), .p (.int .i64 k'.v), .p (.int .i64 k'.s.i), .p (.int .i64 k'.s.t), .p (.tz k'.s.zc 1 (inP k'.s.conf) k'.s.cc), .p (.tz k'.s.z 1 (u8P k'.s.d) k'.s.c), .p (.tz k'.z 4 (keP k'.es) k'.c)] true)), (8, some (.row [.p (.int .i64 mB), .mp 11, .mp 12, .p (.tz true 5 [] none)] true))] (kFam.mem ((⟨room3, first3, en3, L3, lc3, F3, c3, none, .own o3 m3 X3 Y3⟩ : WS), some ⟨k'.t, k'.v, ps, pz, pes, pc⟩)).l, 16⟩ : HS)) (XV.agg [.p (.int .i64 k'.t), .p (.int .i64 k'.v)]).sv (HS.sh (⟨appL [(15, some (.row [.p (.int .i64 k'.t), .p (.int .i64 k'.v)] true)), (14, some (.els 1 Y)), (13, some (.els 1 X)), (12, some (fM L lc)), (11, some (fM L lc)), (10, some (.row [.ptr 8 0, .p (.int .i64 first), .sl 13 o m 1 none, .sl 14 o m 1 none, .p (.int .i64 enn)] true)), (9, some (.row [.ptr 10 0, .p (.int .i64 k'.t), .p (.int .i64 k'.v), .p (.int .i64 k'.s.i), .p (.int .i64 k'.s.t), .p (.tz k'.s.zc 1 (inP k'.s.conf) k'.s.cc), .p (.tz k'.s.z 1 (u8P k'.s.d) k'.s.c), .p (.tz k'.z 4 (keP k'.es) k'.c)] true)), (8, some (.row [.p (.int .i64 mB), .mp 11, .mp 12, .p (.tz true 5 [] none)] true))] (kFam.mem ((⟨room3, first3, en3, L3, lc3, F3, c3, none, .own o3 m3 X3 Y3⟩ : WS), some ⟨k'.t, k'.v, ps, pz, pes, pc⟩)).l, 16⟩ : HS)) := callBack (h := (⟨appL [(15, some (.row [.p (.int .i64 k'.t), .p (.int .i64 k'.v)] true)), (14, some (.els 1 Y)), (13, some (.els 1 X)), (12, some (fM L lc)), (11, some (fM L lc)), (10, some (.row [.ptr 8 0, .p (.int .i64 first), .sl 13 o m 1 none, .sl 14 o m 1 none, .p (.int .i64 enn)] true)), (9, some (.row [.ptr 10 0, .p (.int .i64 k'.t), .p (.int .i64 k'.v), .p (.int .i64 k'.s.i), .p (.int .i64 k'.s.t), .p (.tz k'.s.zc 1 (inP k'.s.conf) k'.s.cc), .p (.tz k'.s.z 1 (u8P k'.s.d) k'.s.c), .p (.tz k'.z 4 (keP k'.es) k'.c)] true)), (8, some (.row [.p (.int .i64 mB), .mp 11, .mp 12, .p (.tz true 5 [] none)] true))] (kFam.mem ((⟨room3, first3, en3, L3, lc3, F3, c3, none, .own o3 m3 X3 Y3⟩ : WS), some ⟨k'.t, k'.v, ps, pz, pes, pc⟩)).l, 16⟩ : HS)) (CallS.use (hard_o room3 first3 en3 L3 lc3 F3 c3 o3 m3 X3 Y3 ⟨k'.t, k'.v, ps, pz, pes, pc⟩) [(0, 0), (1, 1), (2, 2), (3, 3), (4, 4), (6, 6), (7, 7)] rfl rfl (by repeat' (first | exact True.intro | refine hpC rfl rfl rfl ?_ | refine ⟨⟨_, _, _, rfl, rfl, rfl, @WkO.rfl _⟩, ?_⟩ | refine HeapOK.acc rfl rfl ?_)) rfl rfl) (Nat.le_refl _) (fun b o hb => by
            rcases b with _ | _ | _ | _ | _ | _ | _ | _ | _ | _ | _ | _ | _ | _ | _ | _ | b
            all_goals exact hb)
          have EC : Sym.Call Try.prog base 47 ([.c (.ptr 1 0)].map XV.sv) (HS.sh (⟨appL [(15, some (.row [.p (.int .i64 k'.t), .p (.int .i64 k'.v)] true)), (14, some (.els 1 Y)), (13, some (.els 1 X)), (12, some (fM L lc)), (11, some (fM L lc)), (10, some (.row [.ptr 8 0, .p (.int .i64 first), .sl 13 o m 1 none, .sl 14 o m 1 none, .p (.int .i64 enn)] true)), (9, some (.row [.ptr 10 0, .p (.int .i64 k'.t), .p (.int .i64 k'.v), .p (.int .i64 k'.s.i), .p (.int .i64 k'.s.t), .p (.tz k'.s.zc 1 (inP k'.s.conf) k'.s.cc), .p (.tz k'.s.z 1 (u8P k'.s.d) k'.s.c), .p (.tz k'.z 4 (keP k'.es) k'.c)] true)), (8, some (.row [.p (.int .i64 mB), .mp 11, .mp 12, .p (.tz true 5 [] none)] true))] (kFam.mem ((⟨room3, first3, en3, L3, lc3, F3, c3, none, .own o3 m3 X3 Y3⟩ : WS), some ⟨k'.t, k'.v, ps, pz, pes, pc⟩)).l, 16⟩ : HS)) (XV.c (.p (.tz true 4 (keP (pes.map KE.cl)) none))).sv (HS.sh (⟨appL [(15, some (.row [.p (.int .i64 k'.t), .p (.int .i64 k'.v)] true)), (14, some (.els 1 Y)), (13, some (.els 1 X)), (12, some (fM L lc)), (11, some (fM L lc)), (10, some (.row [.ptr 8 0, .p (.int .i64 first), .sl 13 o m 1 none, .sl 14 o m 1 none, .p (.int .i64 enn)] true)), (9, some (.row [.ptr 10 0, .p (.int .i64 k'.t), .p (.int .i64 k'.v), .p (.int .i64 k'.s.i), .p (.int .i64 k'.s.t), .p (.tz k'.s.zc 1 (inP k'.s.conf) k'.s.cc), .p (.tz k'.s.z 1 (u8P k'.s.d) k'.s.c), .p (.tz k'.z 4 (keP k'.es) k'.c)] true)), (8, some (.row [.p (.int .i64 mB), .mp 11, .mp 12, .p (.tz true 5 [] none)] true))] (kFam.mem ((⟨room3, first3, en3, L3, lc3, F3, c3, none, .own o3 m3 X3 Y3⟩ : WS), some ⟨k'.t, k'.v, ps, pz, pes, pc⟩)).l, 16⟩ : HS)) := callBack (h := (⟨appL [(15, some (.row [.p (.int .i64 k'.t), .p (.int .i64 k'.v)] true)), (14, some (.els 1 Y)), (13, some (.els 1 X)), (12, some (fM L lc)), (11, some (fM L lc)), (10, some (.row [.ptr 8 0, .p (.int .i64 first), .sl 13 o m 1 none, .sl 14 o m 1 none, .p (.int .i64 enn)] true)), (9, some (.row [.ptr 10 0, .p (.int .i64 k'.t), .p (.int .i64 k'.v), .p (.int .i64 k'.s.i), .p (.int .i64 k'.s.t), .p (.tz k'.s.zc 1 (inP k'.s.conf) k'.s.cc), .p (.tz k'.s.z 1 (u8P k'.s.d) k'.s.c), .p (.tz k'.z 4 (keP k'.es) k'.c)] true)), (8, some (.row [.p (.int .i64 mB), .mp 11, .mp 12, .p (.tz true 5 [] none)] true))] (kFam.mem ((⟨room3, first3, en3, L3, lc3, F3, c3, none, .own o3 m3 X3 Y3⟩ : WS), some ⟨k'.t, k'.v, ps, pz, pes, pc⟩)).l, 16⟩ : HS)) (CallS.use (ents_o room3 first3 en3 L3 lc3 F3 c3 o3 m3 X3 Y3 ⟨k'.t, k'.v, ps, pz, pes, pc⟩ (by show pes.length ≤ _; omega) (fun e he => by rw [(p6 e he).2]; simp)) [(0, 0), (1, 1), (2, 2), (3, 3), (4, 4), (6, 6), (7, 7)] rfl rfl (by repeat' (first | exact True.intro | refine hpC rfl rfl rfl ?_ | refine ⟨⟨_, _, _, rfl, rfl, rfl, @WkO.rfl _⟩, ?_⟩ | refine HeapOK.acc rfl rfl ?_)) rfl rfl) (Nat.le_refl _) (fun b o hb => by
            rcases b with _ | _ | _ | _ | _ | _ | _ | _ | _ | _ | _ | _ | _ | _ | _ | _ | b
            all_goals exact hb)
          refine M.regF (MF.go rfl ?_)
          refine MF.decN rfl rfl rfl (fun h => absurd rfl h) (fun _ => MF.go rfl ?_)
          refine MF.useCall (h' := (⟨appL [(15, some (.row [.p (.int .i64 k'.t), .p (.int .i64 k'.v)] true)), (14, some (.els 1 Y)), (13, some (.els 1 X)), (12, some (fM L lc)), (11, some (fM L lc)), (10, some (.row [.ptr 8 0, .p (.int .i64 first), .sl 13 o m 1 none, .sl 14 o m 1 none, .p (.int .i64 enn)] true)), (9, some (.row [.ptr 10 0, .p (.int .i64 k'.t), .p (.int .i64 k'.v), .p (.int .i64 k'.s.i), .p (.int .i64 k'.s.t), .p (.tz k'.s.zc 1 (inP k'.s.conf) k'.s.cc), .p (.tz k'.s.z 1 (u8P k'.s.d) k'.s.c), .p (.tz k'.z 4 (keP k'.es) k'.c)] true)), (8, some (.row [.p (.int .i64 mB), .mp 11, .mp 12, .p (.tz true 5 [] none)] true))] (kFam.mem ((⟨room3, first3, en3, L3, lc3, F3, c3, none, .own o3 m3 X3 Y3⟩ : WS), some ⟨k'.t, k'.v, ps, pz, pes, pc⟩)).l, 16⟩ : HS)) rfl HC rfl (MF.go rfl ?_)
          refine MF.decN rfl rfl rfl (fun h => absurd rfl h) (fun _ => MF.go rfl ?_)
          refine MF.useCall (h' := (⟨appL [(15, some (.row [.p (.int .i64 k'.t), .p (.int .i64 k'.v)] true)), (14, some (.els 1 Y)), (13, some (.els 1 X)), (12, some (fM L lc)), (11, some (fM L lc)), (10, some (.row [.ptr 8 0, .p (.int .i64 first), .sl 13 o m 1 none, .sl 14 o m 1 none, .p (.int .i64 enn)] true)), (9, some (.row [.ptr 10 0, .p (.int .i64 k'.t), .p (.int .i64 k'.v), .p (.int .i64 k'.s.i), .p (.int .i64 k'.s.t), .p (.tz k'.s.zc 1 (inP k'.s.conf) k'.s.cc), .p (.tz k'.s.z 1 (u8P k'.s.d) k'.s.c), .p (.tz k'.z 4 (keP k'.es) k'.c)] true)), (8, some (.row [.p (.int .i64 mB), .mp 11, .mp 12, .p (.tz true 5 [] none)] true))] (kFam.mem ((⟨room3, first3, en3, L3, lc3, F3, c3, none, .own o3 m3 X3 Y3⟩ : WS), some ⟨k'.t, k'.v, ps, pz, pes, pc⟩)).l, 16⟩ : HS)) rfl HC rfl (MF.go rfl ?_)
          refine MF.decN rfl rfl rfl (fun h => absurd rfl h) (fun _ => MF.go rfl ?_)
          refine MF.useCall (h' := (⟨appL [(15, some (.row [.p (.int .i64 k'.t), .p (.int .i64 k'.v)] true)), (14, some (.els 1 Y)), (13, some (.els 1 X)), (12, some (fM L lc)), (11, some (fM L lc)), (10, some (.row [.ptr 8 0, .p (.int .i64 first), .sl 13 o m 1 none, .sl 14 o m 1 none, .p (.int .i64 enn)] true)), (9, some (.row [.ptr 10 0, .p (.int .i64 k'.t), .p (.int .i64 k'.v), .p (.int .i64 k'.s.i), .p (.int .i64 k'.s.t), .p (.tz k'.s.zc 1 (inP k'.s.conf) k'.s.cc), .p (.tz k'.s.z 1 (u8P k'.s.d) k'.s.c), .p (.tz k'.z 4 (keP k'.es) k'.c)] true)), (8, some (.row [.p (.int .i64 mB), .mp 11, .mp 12, .p (.tz true 5 [] none)] true))] (kFam.mem ((⟨room3, first3, en3, L3, lc3, F3, c3, none, .own o3 m3 X3 Y3⟩ : WS), some ⟨k'.t, k'.v, ps, pz, pes, pc⟩)).l, 16⟩ : HS)) rfl EC rfl (MF.go rfl ?_)
          refine MF.nil mixed (Fnl.rest ⟨⟨.inl rfl, .inl rfl, trivial⟩, ⟨.inr ⟨rfl, rfl⟩, trivial⟩, trivial, trivial⟩) rfl ⟨⟨stepX_ok rfl, trivial⟩, ⟨stepX_ok rfl, trivial⟩, trivial⟩ (M.go rfl ?_)
          have hpl : ((keP (pes.map KE.cl)).length : Int) = IntKind.i64.wrap ((k'.es.length : Int) + 1 - 1) := by
            rw [wr64 (by omega) (by omega)]
            simp [keP, p4]
          refine M.condN rfl (fun h => absurd hpl h) (fun _ => ?_)
          refine M.go rfl ?_
          rw [hw]
          exact M.again (XH.ren [(0, 8), (1, 9), (2, 10), (3, 11), (4, 12), (8, 15), (6, 13), (7, 14)] hih rfl (by repeat' (first | exact True.intro | refine evC rfl rfl Wk.rfl ?_ | refine evC (accV_ren rfl) rfl Wk.rfl ?_ | refine evC (accV_ren rfl) rfl Wk.acc0 ?_ | refine evC rfl rfl Wk.uncap ?_ | refine evC rfl rfl Wk.nil ?_)) (by repeat' (first | exact True.intro | refine hpC rfl rfl rfl ?_ | refine ⟨⟨_, _, _, rfl, rfl, rfl, @WkO.rfl _⟩, ?_⟩ | refine HeapOK.acc rfl rfl ?_)))
        · cases g6
        · cases g6
        · cases g6
      · cases hdk
      · cases hdk
      · cases hdk
theorem KeepVotes_spec (z0 : Bool) (T : List Int) (c0 : Option Nat) (z1 : Bool) (V : List Int) (c1 : Option Nat) (en : Bool) (hT : ∀ x ∈ T, InI64 x) (hV : ∀ x ∈ V, InI64 x) (hTl : T.length ≤ 20000000000000) (hVl : V.length ≤ 20000000000000) :
    CallS Try.prog base 13 [.c (.p (.tz z0 1 (inP T) c0)), .c (.p (.tz z1 1 (inP V) c1)), .c (.p (.bs en))] ⟨[], 0⟩ (.c (.p (.bool true))) ⟨[], 0⟩ := by
  refine CallS.of noNG lVot.2 rfl (M.start (M.go rfl ?_))
  refine M.use0 trivial begun5_spec rfl rfl rfl ?_
  refine M.go rfl ?_
  refine M.use trivial (dnew_spec 1048576) [] rfl rfl rfl trivial rfl rfl ?_
  refine M.go rfl ?_
  refine M.shO (Sh.ren (e' := [(0, .c (.p (.tz z0 1 (inP T) c0))), (1, .c (.p (.tz z1 1 (inP V) c1))), (2, .c (.p (.bs en))), (8, .c (.ptr 0 0)), (25, .c (.ptr 0 0))]) (h' := ⟨appL [] (kFam.mem ((⟨mB, 0, 0, [], 0, [], 0, none, .no⟩ : WS), none)).l, 8⟩) [(0, 0), (3, 1), (4, 2)] rfl (by repeat' (first | exact True.intro | refine evC rfl rfl Wk.rfl ?_ | refine evC (accV_ren rfl) rfl Wk.rfl ?_ | refine evC (accV_ren rfl) rfl Wk.acc0 ?_ | refine evC rfl rfl Wk.uncap ?_ | refine evC rfl rfl Wk.nil ?_)) (by repeat' (first | exact True.intro | refine hpC rfl rfl rfl ?_ | refine ⟨⟨_, _, _, rfl, rfl, rfl, @WkO.rfl _⟩, ?_⟩ | refine HeapOK.acc rfl rfl ?_))) ?_
  refine M.useR (s := (((⟨mB, 0, 0, [], 0, [], 0, none, .no⟩ : WS), none) : WS × Option KVl)) kOK [] [(0, .c (.p (.tz z0 1 (inP T) c0))), (1, .c (.p (.tz z1 1 (inP V) c1))), (2, .c (.p (.bs en))), (8, .c (.ptr 0 0))] trivial (K_open0 0 0 [] 0 [] 0 1 [] KVl.zero (fun h => absurd rfl h) (.inl ⟨rfl, rfl, rfl⟩) (by simp [flatR]) (.nil _)) rfl trivial rfl rfl rfl rfl (fun r s' h => by rw [h.1]; rfl) (by repeat' (first | exact True.intro | refine evC rfl rfl Wk.rfl ?_ | refine evC (accV_ren rfl) rfl Wk.rfl ?_ | refine evC (accV_ren rfl) rfl Wk.acc0 ?_ | refine evC rfl rfl Wk.uncap ?_ | refine evC rfl rfl Wk.nil ?_)) (fun r s2 h => ?_)
  obtain ⟨rfl, s3, h2, g1, g2, g3, g4, g5, g6⟩ := h
  rw [h2]
  refine M.go rfl ?_
  refine M.condN rfl (fun h => absurd rfl h) (fun _ => ?_)
  refine M.go rfl ?_
  refine M.loop (XH.ren [(0, 0), (1, 1), (2, 2), (3, 3), (4, 4), (5, 5), (6, 6), (7, 7), (8, 8)] (vot_loop z0 T c0 z1 V c1 en hT hV hTl hVl _ ?_ (fun _ => trivial) (min (min T.length V.length) 30) 0 s3 KVl.zero [] (by omega) (V_first base s3 g1 g6 ⟨by rw [g2, g4], by rw [g3, g5]⟩)) rfl (by repeat' (first | exact True.intro | refine evC rfl rfl Wk.rfl ?_ | refine evC (accV_ren rfl) rfl Wk.rfl ?_ | refine evC (accV_ren rfl) rfl Wk.acc0 ?_ | refine evC rfl rfl Wk.uncap ?_ | refine evC rfl rfl Wk.nil ?_)) ⟨(hpX rfl rfl rfl), (hpX rfl rfl rfl), HeapOK.fam wOK (by repeat' (first | exact Tl.here | refine Tl.cons rfl ?_)) rfl⟩)
  refine M.q (M.go rfl ?_)
  exact M.ret (M.go rfl (M.done (finQ.ret [] rfl rfl rfl (by first | exact Wk.rfl | exact Wk.uncap | exact Wk.nil | exact Wk.b1 rfl | exact Wk.t2 Wk.rfl (Wk.b1 rfl)) (by repeat' (first | exact True.intro | refine hpC rfl rfl rfl ?_ | refine ⟨⟨_, _, _, rfl, rfl, rfl, @WkO.rfl _⟩, ?_⟩ | refine HeapOK.acc rfl rfl ?_)))))
theorem KeepVotes_law {p0 p1 p2 : PC} (h0 : Is (.sl 1 8 (.int .i64)) p0) (h1 : Is (.sl 1 8 (.int .i64)) p1) (h2 : Is .bool p2) : CallS Try.prog base 13 [xvP p0, xvP p1, xvP p2] ⟨[], 0⟩ (.c (.p (.bool true))) ⟨[], 0⟩ := by
  obtain ⟨z, T, rfl, hT, hT2⟩ := h0.ints
  obtain ⟨z1, V, rfl, hV, hV2⟩ := h1.ints
  obtain ⟨en, rfl⟩ := h2.bool
  exact KeepVotes_spec z T none z1 V none en (fun x hx => by have := hT2 x hx; exact ⟨by omega, by omega⟩) (fun x hx => by have := hV2 x hx; exact ⟨by omega, by omega⟩) (by omega) (by omega)
end Go.Proofs.Ytjlfojgacnphmaa
